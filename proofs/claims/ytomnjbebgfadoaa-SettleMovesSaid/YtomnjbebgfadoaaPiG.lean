/- Soundness of the pure interpreter's pure operations, the rest, and all of them together.
   Conditions: none; lemmas. -/
import Derived.Test.YtomnjbebgfadoaaPiF
set_option linter.unusedVariables false
set_option linter.unusedSimpArgs false
namespace Go.Proofs.Ytomnjbebgfadoaa.Pi
open Go Go.RowKit

section
variable {E : Env} (hE : EnvOk E) {N base : Nat} {w0 : World} {X : Fr} {S : St} {α : Nat → Value} {a : Act} {w : World}
include hE

theorem run_fieldAddrV {s f : Nat} {q p : PV} {c : Prop} (hq : fieldAddrV E s f q = some (c, p)) {ok : Nat → Prop} {v : Value} (hv : q.rel S.o α w ok v) :
    ∃ r, (Instr.fieldAt s v f).run E.P w = .ok r w ∧ p.rel S.o α w ok r := by
  have key : ∀ (fs : List FI) (x : FI) (b o : Nat), E.tk s = some (.struct fs) → fs[f]? = some x → (Instr.fieldAt s (.pointer (some ⟨b, o, none⟩)) f).run E.P w = .ok (.pointer (some ⟨b, o + x.off, none⟩)) w := by
    intro fs x b o ht hx
    obtain ⟨fields, hu, hf, _⟩ := tk_struct hE ht
    obtain ⟨fd, h1, h2, ⟨ti, h3, h4⟩, h5, _⟩ := hf.get f x hx
    have h1' : fields[f]? = some fd := by simpa using h1
    have h6 : ¬ (ti.size = 0) := by omega
    simp [Instr.fieldAt, run_underlying hu, h1', Instr.sureAddr, fieldPlace, sizeOf, typeInfo, h3, h6, Addr.add_mid, h2]
  unfold fieldAddrV at hq
  split at hq
  · rename_i cs off
    simp only [PV.rel, D.rd] at hv
    obtain ⟨b, o, rfl, hcs⟩ := hv
    split at hq
    · rename_i fs ht
      split at hq
      · rename_i x hx
        simp only [Option.some.injEq, Prod.mk.injEq] at hq
        obtain ⟨rfl, rfl⟩ := hq
        refine ⟨_, key fs x b (o + off) ht hx, ?_⟩
        simp only [PV.rel, D.rd]
        exact ⟨b, o, by simp [Nat.add_assoc], hcs⟩
      · cases hq
    · cases hq
  · rename_i K ver sz i off
    simp only [PV.rel] at hv
    split at hq
    · rename_i fs ht
      split at hq
      · rename_i x hx
        simp only [Option.some.injEq, Prod.mk.injEq] at hq
        obtain ⟨rfl, rfl⟩ := hq
        obtain ⟨⟨⟨g, rfl⟩, hver⟩, hlive⟩ := hv
        refine ⟨_, key fs x g (i * sz + off) ht hx, ?_⟩
        simp only [PV.rel]
        refine ⟨⟨⟨g, by simp [Nat.add_assoc]⟩, hver⟩, fun hl => ?_⟩
        obtain ⟨g', hg', e⟩ := hlive hl
        simp only [Value.pointer.injEq, Option.some.injEq, Addr.mk.injEq, and_true] at e
        obtain ⟨rfl, _⟩ := e
        exact ⟨g, hg', by simp [Nat.add_assoc]⟩
      · cases hq
    · cases hq
  · cases hq

theorem run_fieldV {s f : Nat} {q p : PV} {c : Prop} (hq : fieldV E s f q = some (c, p)) (hc : c) {ov : Nat → Nat × Option Ob} {ok : Nat → Prop} {v : Value} (hv : q.rel ov α w ok v) :
    ∃ r, (Instr.field s v f).run E.P w = .ok r w ∧ p.rel ov α w ok r := by
  unfold fieldV at hq
  split at hq
  · rename_i cs
    simp only [PV.rel, D.rd] at hv
    obtain ⟨vs, rfl, hones, hcs⟩ := hv
    split at hq
    · rename_i fs ht
      split at hq
      · rename_i x hx
        simp only [Option.some.injEq] at hq
        obtain ⟨fields, hu, hf, _⟩ := tk_struct hE ht
        obtain ⟨fd, h1, h2, ⟨ti, h3, h4⟩, h5, h6⟩ := hf.get f x hx
        have h1' : fields[f]? = some fd := by simpa using h1
        have hag := run_isAggB h6 w
        have hlen := rdVals_length hcs
        unfold loadD at hq
        cases ha : x.agg <;> rw [ha] at hq hag <;> simp only [Bool.false_eq_true, if_false, if_true, Prod.mk.injEq] at hq <;> obtain ⟨rfl, rfl⟩ := hq
        · obtain ⟨u, hu1, hu2⟩ := rdVals_get hcs x.off _ (List.getElem?_eq_getElem hc)
          refine ⟨u, ?_, by simp only [PV.rel]; rw [List.getD_eq_getElem?_getD, List.getElem?_eq_getElem hc, Option.getD_some]; exact hu2⟩
          have hu1' : vs[x.off]? = some u := by simpa using hu1
          simp [Instr.field, run_underlying hu, h1', asAgg, part, hag, h2, hu1']
        · refine ⟨.agg (vs.extract x.off (x.off + x.size)), ?_, ?_⟩
          · simp [Instr.field, run_underlying hu, h1', asAgg, part, hag, h2, sizeOf, typeInfo, h3, h4]
          · simp only [PV.rel, D.rd]
            refine ⟨_, rfl, fun u hu => hones u ?_, ?_⟩
            · rw [Array.toList_extract, List.extract_eq_take_drop] at hu
              exact List.mem_of_mem_drop (List.mem_of_mem_take hu)
            have := rdVals_take x.size (rdVals_drop x.off hcs)
            simpa [cut, Array.toList_extract, List.extract_eq_take_drop] using this
      · cases hq
    · cases hq
  · cases hq

theorem run_indexAddrV (h : Rel N base w0 X S α a w) {t : Nat} {q q' p : PV} {c : Prop} (hq : indexAddrV E t q q' = some (c, p)) (hc : c) {v u : Value} (hv : q.rel S.o α w (okOf X.A S.o α) v) (hu : q'.rel S.o α w (okOf X.A S.o α) u) :
    ∃ r, (Instr.indexAt t v u).run E.P w = .ok r w ∧ p.rel S.o α w (okOf X.A S.o α) r := by
  unfold indexAddrV at hq
  split at hq
  · rename_i sz xs k i
    simp only [PV.rel, D.rd] at hv hu
    subst hu
    obtain ⟨A, cp, rfl, hcap, hmax, hr⟩ := hv
    split at hq
    · rename_i e ht
      split at hq
      · rename_i te hte
        split at hq
        · rename_i hsz
          simp only [Option.some.injEq, Prod.mk.injEq] at hq
          obtain ⟨rfl, rfl⟩ := hq
          have hne : xs ≠ [] := fun e => by simp [e] at hc; omega
          obtain ⟨b, o, rfl, hrows⟩ := hr hne
          obtain ⟨ti, hti, hs, _⟩ := ty_info hE hte
          have hlt : i.toNat < xs.length := by omega
          obtain ⟨h1, h2⟩ := rdRows_get hrows i.toNat _ (List.getElem?_eq_getElem hlt)
          refine ⟨.pointer (some ⟨b, o + i.toNat * sz, none⟩), ?_, ?_⟩
          · simp [Instr.indexAt, asIntOf, run_underlying (tk_slice hE ht), hc, sizeOf, typeInfo, hti, hs, hsz, Addr.add_mid]
          · simp only [PV.rel, D.rd]
            refine ⟨b, o + i.toNat * sz, by simp, ?_⟩
            rw [List.getD_eq_getElem?_getD, List.getElem?_eq_getElem hlt, Option.getD_some]; exact h2
        · cases hq
      · cases hq
    · cases hq
  · rename_i K ver n k i
    simp only [PV.rel, D.rd] at hv hu
    subst hu
    split at hq
    · rename_i e ht
      split at hq
      · rename_i te hte
        simp only [Option.some.injEq, Prod.mk.injEq] at hq
        obtain ⟨rfl, rfl⟩ := hq
        obtain ⟨⟨⟨A, cp, rfl, hmax, hA⟩, hver⟩, hlive⟩ := hv
        obtain ⟨g, rfl⟩ := hA (by omega)
        obtain ⟨ti, hti, hs, _⟩ := ty_info hE hte
        refine ⟨.pointer (some ⟨g, i.toNat * te.size, none⟩), ?_, ?_⟩
        · simp [Instr.indexAt, asIntOf, run_underlying (tk_slice hE ht), hc, sizeOf, typeInfo, hti, hs, Addr.add_mid]
        · simp only [PV.rel]
          exact ⟨⟨⟨g, by simp⟩, hver⟩, fun hl => ⟨g, by rw [← hlive hl]; rfl, by simp⟩⟩
      · cases hq
    · cases hq
  · cases hq

theorem run_indexV {t : Nat} {q q' p : PV} {c : Prop} (hq : indexV E t q q' = some (c, p)) (hc : c) {ov : Nat → Nat × Option Ob} {ok : Nat → Prop} {v u : Value} (hv : q.rel ov α w ok v) (hu : q'.rel ov α w ok u) :
    ∃ r, (Instr.index t v u).run E.P w = .ok r w ∧ p.rel ov α w ok r := by
  unfold indexV at hq
  split at hq
  · rename_i s k i
    simp only [PV.rel, D.rd] at hv hu
    subst hu; obtain ⟨hvs, _⟩ := hv; subst hvs
    split at hq
    · rename_i ht
      simp only [Option.some.injEq, Prod.mk.injEq] at hq
      obtain ⟨rfl, rfl⟩ := hq
      have hlt : i.toNat < s.size := by omega
      have hlt' : i.toNat < s.data.toList.length := by simpa using hlt
      refine ⟨.int .u8 ((s.data.toList.getD i.toNat 0).toNat), ?_, by simp [PV.rel, D.rd]⟩
      have hs : s[i.toNat]? = some (s[i.toNat]'hlt) := by simp [hlt]
      have e : s.data.toList.getD i.toNat 0 = s[i.toNat]'hlt := by
        rw [List.getD_eq_getElem?_getD, List.getElem?_eq_getElem hlt', Option.getD_some]
        rfl
      rw [e]
      simp [Instr.index, asIntOf, run_underlying (tk_str hE ht), hc.1, hs]
    · cases hq
  · cases hq

omit hE in
theorem run_extV {i : Nat} {q p : PV} {c : Prop} (hq : extV i q = some (c, p)) {ov : Nat → Nat × Option Ob} {ok : Nat → Prop} {v : Value} (hv : q.rel ov α w ok v) (P : Program) :
    ∃ r, (Instr.extract v i).run P w = .ok r w ∧ p.rel ov α w ok r := by
  unfold extV at hq
  split at hq
  · rename_i vs
    simp only [PV.rel] at hv
    obtain ⟨us, rfl, hr⟩ := hv
    split at hq
    · rename_i x hx
      simp only [Option.some.injEq, Prod.mk.injEq] at hq
      obtain ⟨rfl, rfl⟩ := hq
      obtain ⟨u, h1, h2⟩ := PV.rels_get hr i _ hx
      have h1' : us[i]? = some u := by simpa using h1
      exact ⟨u, by simp [Instr.extract, h1'], h2⟩
    · cases hq
  · cases hq

omit hE in
theorem run_getObj_mapG {P : Program} {r : Nat} {es : Array MapEntry} {clock : Nat} (hb : w.heap[r]? = some (.map es clock)) : (getObj r).run P w = .ok (.map es clock) w := by
  simp [getObj, Sem.run, hb]
theorem run_lenV (h : Rel N base w0 X S α a w) {t ty : Nat} {q p : PV} {c : Prop} (hq : lenV E S t q = some (c, p)) {v : Value} (hv : q.rel S.o α w (okOf X.A S.o α) v) :
    ∃ r, (Builtin.len_ #[t] ty #[v]).run E.P w = .ok r w ∧ p.rel S.o α w (okOf X.A S.o α) r := by
  unfold lenV at hq
  split at hq
  · rename_i ht
    split at hq
    · rename_i s
      simp only [Option.some.injEq, Prod.mk.injEq] at hq
      obtain ⟨rfl, rfl⟩ := hq
      simp only [PV.rel, D.rd] at hv
      obtain ⟨rfl, _⟩ := hv
      exact ⟨.int .i64 s.size, by simp [Builtin.len_, run_underlying (tk_str hE ht), goInt], by simp [PV.rel, D.rd]⟩
    · cases hq
  · rename_i e he
    have key : ∀ (A : Option Addr) (n cp : Nat), (Builtin.len_ #[t] ty #[.slice A n cp]).run E.P w = .ok (.int .i64 n) w := by
      intro A n cp
      simp [Builtin.len_, run_underlying (tk_slice hE he), goInt]
    split at hq <;> try (cases hq; done)
    · rename_i sz xs
      simp only [Option.some.injEq, Prod.mk.injEq] at hq
      obtain ⟨rfl, rfl⟩ := hq
      simp only [PV.rel, D.rd] at hv
      obtain ⟨A, cp, rfl, _⟩ := hv
      exact ⟨_, key A _ cp, by simp [PV.rel, D.rd]⟩
    · simp only [Option.some.injEq, Prod.mk.injEq] at hq
      obtain ⟨rfl, rfl⟩ := hq
      simp only [PV.rel] at hv
      subst hv
      exact ⟨_, key none 0 0, by simp [PV.rel, D.rd]⟩
    · rename_i sz xs
      simp only [Option.some.injEq, Prod.mk.injEq] at hq
      obtain ⟨rfl, rfl⟩ := hq
      simp only [PV.rel] at hv
      obtain ⟨⟨A, rfl⟩, _⟩ := hv
      exact ⟨_, key A _ _, by simp [PV.rel, D.rd]⟩
    · rename_i K ver n
      simp only [Option.some.injEq, Prod.mk.injEq] at hq
      obtain ⟨rfl, rfl⟩ := hq
      simp only [PV.rel] at hv
      obtain ⟨⟨⟨A, cp, rfl, _, _⟩, _⟩, _⟩ := hv
      exact ⟨_, key A _ cp, by simp [PV.rel, D.rd]⟩
  · rename_i kt e he
    split at hq
    · rename_i K ver
      split at hq
      · rename_i kt' e' clock es hob
        simp only [Option.some.injEq, Prod.mk.injEq] at hq
        obtain ⟨rfl, rfl⟩ := hq
        obtain ⟨hl, hx⟩ := obj_some hob
        simp only [PV.rel] at hv
        have hva := hv.2 hl
        subst hva
        obtain ⟨g, ents, e1, hb, hh, hr⟩ := h.o K _ hx
        have hlen : ∀ {es : List (Nat × D × PV)} {l : List MapEntry}, relME S.o α w (okOf X.A S.o α) es l → l.length = es.length := by
          intro es
          induction es with
          | nil => intro l h; simp only [relME] at h; simp [h]
          | cons x es ih => intro l h; simp only [relME] at h; obtain ⟨m, l', rfl, _, h4⟩ := h; simp [ih h4]
        have hl' := hlen hr
        rw [e1]
        exact ⟨.int .i64 es.length, by simp [Builtin.len_, run_underlying (tk_map hE he), run_getObj_mapG hh, goInt, ← hl'], by simp [PV.rel, D.rd]⟩
      · cases hq
    · cases hq
  · cases hq
end

theorem ints_rel {o : Nat → Nat × Option Ob} {α : Nat → Value} {w : World} {ok : Nat → Prop} : ∀ {ps : List PV} {k : IntKind} {ns : List Int} {vs : List Value}, ints ps = some (k, ns) → PV.rels o α w ok ps vs → vs = ns.map (Value.int k) ∧ ns ≠ []
  | [], k, ns, vs, h, hr => by simp [ints] at h
  | [.d (.int k' n)], k, ns, vs, h, hr => by
    simp only [ints, Option.some.injEq, Prod.mk.injEq] at h
    obtain ⟨rfl, rfl⟩ := h
    simp only [PV.rels, PV.rel, D.rd] at hr
    obtain ⟨v, vs', rfl, rfl, rfl⟩ := hr
    simp
  | .d (.int k' n) :: q :: ps, k, ns, vs, h, hr => by
    rw [ints] at h
    · simp only [Option.bind_eq_some_iff] at h
      obtain ⟨⟨k1, ms⟩, h1, h2⟩ := h
      simp only at h2
      split at h2
      · rename_i e
        subst e
        simp only [Option.some.injEq, Prod.mk.injEq] at h2
        obtain ⟨rfl, rfl⟩ := h2
        rw [PV.rels] at hr
        obtain ⟨v, vs', rfl, h3, h4⟩ := hr
        simp only [PV.rel, D.rd] at h3
        obtain ⟨e1, _⟩ := ints_rel h1 h4
        subst h3; subst e1
        simp
      · cases h2
    · simp
  | .un :: ps, k, ns, vs, h, hr => by simp [ints] at h
  | .nils :: ps, k, ns, vs, h, hr => by simp [ints] at h
  | .ref .. :: ps, k, ns, vs, h, hr => by simp [ints] at h
  | .row .. :: ps, k, ns, vs, h, hr => by simp [ints] at h
  | .map .. :: ps, k, ns, vs, h, hr => by simp [ints] at h
  | .fn .. :: ps, k, ns, vs, h, hr => by simp [ints] at h
  | .agg .. :: ps, k, ns, vs, h, hr => by simp [ints] at h
  | .tup .. :: ps, k, ns, vs, h, hr => by simp [ints] at h
  | .opt .. :: ps, k, ns, vs, h, hr => by simp [ints] at h
  | .clip .. :: ps, k, ns, vs, h, hr => by simp [ints] at h
  | .d (.bool _) :: ps, k, ns, vs, h, hr => by simp [ints] at h
  | .d (.str _) :: ps, k, ns, vs, h, hr => by simp [ints] at h
  | .d (.lst _ _) :: ps, k, ns, vs, h, hr => by simp [ints] at h
  | .d (.agg _) :: ps, k, ns, vs, h, hr => by simp [ints] at h
  | .d (.ptr _ _) :: ps, k, ns, vs, h, hr => by simp [ints] at h
  | .d (.fn _ _) :: ps, k, ns, vs, h, hr => by simp [ints] at h

theorem foldlM_min (P : Program) (w : World) (k : IntKind) : ∀ (l : List Int) (x : Int), ((l.map (Value.int k)).foldlM Builtin.min2 (.int k x)).run P w = .ok (.int k (l.foldl (fun a b => if b < a then b else a) x)) w
  | [], x => by simp
  | y :: l, x => by simp [Builtin.min2, foldlM_min P w k l]
theorem foldlM_max (P : Program) (w : World) (k : IntKind) : ∀ (l : List Int) (x : Int), ((l.map (Value.int k)).foldlM Builtin.max2 (.int k x)).run P w = .ok (.int k (l.foldl (fun a b => if a < b then b else a) x)) w
  | [], x => by simp
  | y :: l, x => by
    have : (Builtin.max2 (.int k x) (.int k y)).run P w = .ok (.int k (if x < y then y else x)) w := by simp [Builtin.max2]
    simp [this, foldlM_max P w k l]

end Go.Proofs.Ytomnjbebgfadoaa.Pi
