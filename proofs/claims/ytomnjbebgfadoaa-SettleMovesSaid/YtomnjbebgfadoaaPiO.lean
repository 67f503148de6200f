/- One operation of a region, as the pure interpreter steps it, is sound.
   Conditions: none; lemmas. -/
import Derived.Test.YtomnjbebgfadoaaPiN
set_option linter.unusedVariables false
set_option linter.unusedSimpArgs false
namespace Go.Proofs.Ytomnjbebgfadoaa.Pi
open Go Go.RowKit

section
variable {E : Env} {N base : Nat} {w0 : World} {X : Fr} {S : St} {α : Nat → Value} {a : Act} {w : World}

theorem Rel.weak (h : Rel N base w0 X S α a w) {S' : St} (ho : S'.o = S.o) (ht : ∀ k, (S.t k).rel S.o α w (okOf X.A S.o α) (a.tmps.getD k undef) → (S'.t k).rel S.o α w (okOf X.A S.o α) (a.tmps.getD k undef)) : Rel N base w0 X S' α a w := by
  obtain ⟨h1, h2, h3, h4, h5, h6, h7, h9, h8⟩ := h
  refine ⟨h1, h2, fun k => ?_, ?_, ?_, h6, h7, h9, by rw [ho]; exact h8⟩
  · rw [ho]; exact ht k (h3 k)
  · rw [ho]; exact h4
  · rw [ho]; exact h5

theorem St.put_o_self (S : St) (d : Option Nat) (p : PV) : ({ (S.put d p) with o := S.o } : St) = S.put d p := by cases d <;> rfl

theorem wpOp_value {P : Program} {ops : Array Oper} {i : Nat} {o : Oper} {Q : Exit → Act → World → Prop} {K : Act → World → Prop} {v : Value} {w' : World} (hi : ops[i]? = some o) (hw : Region.wanted o (yielded ops a.tmps) = true)
    (he : (execOp a.eval o).run P w = .ok (.value v) w') (hK : K (a.put o.dst v) w') : wpOp P ops Q i K a w := by
  unfold wpOp
  simp only [hi, hw, if_true, Oper.wp, he, Oper.upon]
  exact .inl hK
theorem wpOp_skip {P : Program} {ops : Array Oper} {i : Nat} {o : Oper} {Q : Exit → Act → World → Prop} {K : Act → World → Prop} {w' : World} (hi : ops[i]? = some o) (hw : Region.wanted o (yielded ops a.tmps) = true)
    (he : (execOp a.eval o).run P w = .ok .skip w') (hK : K (a.put o.dst undef) w') : wpOp P ops Q i K a w := by
  unfold wpOp
  simp only [hi, hw, if_true, Oper.wp, he, Oper.upon]
  exact .inl hK
theorem wpOp_unwanted {P : Program} {ops : Array Oper} {i : Nat} {o : Oper} {Q : Exit → Act → World → Prop} {K : Act → World → Prop} (hi : ops[i]? = some o) (hw : Region.wanted o (yielded ops a.tmps) = false)
    (hK : K (a.put o.dst undef) w) : wpOp P ops Q i K a w := by
  unfold wpOp
  simp only [hi, hw]
  exact hK
theorem wpOp_enter {P : Program} {ops : Array Oper} {i : Nat} {o : Oper} {Q : Exit → Act → World → Prop} {K : Act → World → Prop} {f : Nat} {args : Array Value} (hi : ops[i]? = some o) (hw : Region.wanted o (yielded ops a.tmps) = true)
    (he : (execOp a.eval o).run P w = .ok (.enter f args) w) {R : Ending → World → Prop} (hc : Calls P f args w R) (hR : ∀ e w', R e w' → ∃ v, e = .returned v ∧ K (a.put o.dst v) w') : wpOp P ops Q i K a w := by
  unfold wpOp
  simp only [hi, hw, if_true, Oper.wp, he, Oper.upon]
  refine .inl (Calls.mono hc fun e w' h => ?_)
  obtain ⟨v, rfl, hk⟩ := hR e w' h
  exact hk

theorem dstOk_lt {o : Oper} (hd : dstOk E o = true) : ∀ d, o.dst = some d → d < E.n := by
  intro d e
  unfold dstOk at hd
  rw [e] at hd
  simpa using hd

/-- An operation that is left out. -/
theorem gopt_false {o : Oper} (hg : o.guard ≠ none) (p : PV) {ob : Objs} {α : Nat → Value} {w : World} {ok : Nat → Prop} : (gopt o false p).rel ob α w ok undef := by
  unfold gopt
  split
  · rename_i e; exact absurd e hg
  · simp only [PV.rel]; exact ⟨by simp, fun _ => trivial⟩

theorem wanted_guard {ops : Array Oper} {o : Oper} (hg : wantedP ops S o = some false) : o.guard ≠ none := by
  intro e
  unfold wantedP at hg
  rw [e] at hg
  simp at hg

theorem opF_sound (h : Rel N base w0 X S α a w) {op : Op} {c : Prop} {p : PV} (hp : pureOp E S op = some (c, p)) (hc : c) : opF S op := by
  unfold opF
  split
  · rename_i cl
    split
    · rename_i x hcal hargs
      have hsc : S.sc x := by
        simp only [pureOp, callOp] at hp
        rw [hcal] at hp
        simp only [hargs] at hp
        split at hp
        · rename_i x' t h1 h2
          simp only [List.cons.injEq, and_true] at h1
          subst h1
          obtain ⟨r, h3, h4⟩ := Option.map_eq_some_iff.1 hp
          simp only [Prod.mk.injEq] at h4
          rw [← h4.1] at hc
          exact hc.1
        · rename_i heq; cases heq
        · rename_i heq; cases heq
        · cases hp
      have hv := sv_rel h x hsc
      generalize S.sv x = q at hv
      unfold lenF
      split
      · simp only [PV.rel, D.rd] at hv
        exact hv.2
      · simp only [PV.rel, D.rd] at hv
        obtain ⟨A, c', _, _, h2, _⟩ := hv
        exact h2
      · simp only [PV.rel] at hv
        obtain ⟨⟨⟨_, _, _, h1, _⟩, _⟩, _⟩ := hv
        exact h1
      · trivial
    · trivial
  · trivial

theorem rep1_sound (hE : EnvOk E) (h : Rel E.n base w0 X S α a w) {ops : Array Oper} {i : Nat} {o : Oper} (hi : ops[i]? = some o) (hd : dstOk E o = true) {g : Bool} (hg : wantedP ops S o = some g) {r : SR} (hr : rep1 E S o g = some r) (hc : r.vc)
    {Q : Exit → Act → World → Prop} {K : Act → World → Prop} (hK : ∀ p o' α' a' w', r.post p o' → Rel E.n base w0 X (S.after o.dst p o') α' a' w' → K a' w') : wpOp E.P ops Q i K a w := by
  have hlt := dstOk_lt hd
  have hw := wanted_sound h hg
  have plainOff : ∀ (p : PV), g = false → Rel E.n base w0 X (S.put o.dst (gopt o g p)) α (a.put o.dst undef) w := fun p e => by
    subst e
    exact h.plain hlt (grownBy_refl w none) fun _ => gopt_false (wanted_guard hg) p
  unfold rep1 at hr
  split at hr
  · obtain ⟨⟨c, p⟩, h1, rfl⟩ := Option.map_eq_some_iff.1 hr
    simp only [St.after] at hc hK
    cases g with
    | false => exact wpOp_unwanted hi hw (hK _ _ α _ w ⟨rfl, rfl⟩ (by rw [St.put_o_self]; exact plainOff p rfl))
    | true =>
      obtain ⟨v, h2, h3⟩ := pureOp_sound hE h o h1 (hc rfl)
      exact wpOp_value hi hw h2 (hK _ _ α _ w ⟨rfl, rfl⟩ (by rw [St.put_o_self]; exact h.plain hlt (grownBy_refl w none) fun _ => gopt_true h3))
  · obtain ⟨⟨c, p⟩, h1, rfl⟩ := Option.map_eq_some_iff.1 hr
    simp only [St.after] at hc hK
    cases g with
    | false => exact wpOp_unwanted hi hw (hK _ _ α _ w ⟨⟨rfl, rfl⟩, by simp⟩ (by rw [St.put_o_self]; exact plainOff p rfl))
    | true =>
      obtain ⟨v, h2, h3⟩ := pureOp_sound hE h o h1 (hc rfl)
      exact wpOp_value hi hw h2 (hK _ _ α _ w ⟨⟨rfl, rfl⟩, fun _ => opF_sound h h1 (hc rfl)⟩ (by rw [St.put_o_self]; exact h.plain hlt (grownBy_refl w none) fun _ => gopt_true h3))
  · obtain ⟨⟨c, p⟩, h1, rfl⟩ := Option.map_eq_some_iff.1 hr
    simp only [St.after] at hc hK
    cases g with
    | false => exact wpOp_unwanted hi hw (hK _ _ α _ w ⟨rfl, rfl⟩ (by rw [St.put_o_self]; exact plainOff p rfl))
    | true =>
      have hc := hc rfl
      unfold litOp at h1
      split at h1
      · rename_i t n parts hop
        obtain ⟨⟨c1, p1⟩, h2, h3⟩ := Option.map_eq_some_iff.1 h1
        simp only [Prod.mk.injEq] at h3
        obtain ⟨rfl, rfl⟩ := h3
        obtain ⟨v, w', h4, h5⟩ := run_litV hE h hlt (vparts := parts.map fun p => (p.1, a.eval p.2)) h2 (by simpa using parts_rel h hc.1)
        refine wpOp_value hi hw (v := v) (w' := w') ?_ (hK _ _ α _ w' ⟨rfl, rfl⟩ ?_)
        · obtain ⟨dst, op, type, pos, after, guard⟩ := o
          simp only at hop; subst hop
          simp [execOp, h4]
        · rw [St.put_o_self]
          refine h5.weak (by simp [St.put_o]) fun k hk => ?_
          rw [St.put_o] at hk ⊢
          revert hk
          cases o.dst with
          | none => exact fun hk => hk
          | some d =>
            simp only [St.put]
            by_cases e : k = d
            · simp only [e, if_true]; exact gopt_true
            · simp only [e, if_false]; exact fun hk => hk
      · cases h1
  · obtain ⟨⟨c, p, o'⟩, h1, rfl⟩ := Option.map_eq_some_iff.1 hr
    simp only [St.after] at hc hK
    obtain ⟨rfl, hc⟩ := hc
    obtain ⟨α', v, w', h2, h3⟩ := effOp_sound hE h o hlt h1 hc
    rcases h2 with h2 | ⟨h2, rfl⟩
    · exact wpOp_value hi hw h2 (hK _ _ α' _ w' ⟨rfl, rfl⟩ h3)
    · exact wpOp_skip hi hw h2 (hK _ _ α' _ w' ⟨rfl, rfl⟩ h3)
  · obtain ⟨c, h1, hr⟩ := Option.bind_eq_some_iff.1 hr
    obtain ⟨⟨f, ps, cd⟩, hii, hr⟩ := Option.bind_eq_some_iff.1 hr
    have hop : o.op = .call c := by
      unfold callOf at h1
      split at h1
      · rename_i hop; rw [hop]; simpa using h1
      · cases h1
    simp only at hr
    split at hr
    · rename_i con hcon
      simp only [Option.some.injEq] at hr
      subst hr
      simp only at hc hK
      obtain ⟨rfl, hc1, hpre⟩ := hc
      obtain ⟨vs, h4, h5⟩ := icallInfo_sound hE h hop hii hc1 hcon
      have hO : RelO base w0 { X with x := fun p v => X.x p v ∨ ∃ k, p = S.t k ∧ v = a.tmps.getD k undef } S.o α w := ⟨h.o, h.inj, h.below, h.free, h.base, fun p v hp => by
        rcases hp with hp | ⟨k, rfl, rfl⟩
        · exact h.x p v hp
        · exact h.t k⟩
      refine wpOp_enter hi hw h4 ((hE.icon _ _ hcon).2.calls base w0 _ S.o α w ps vs hpre hO h5) fun e w' hp => ?_
      obtain ⟨o', α', p, u, hpost, rfl, hO', hpu⟩ := hp
      refine ⟨_, rfl, hK p o' α' _ w' hpost ⟨?_, ?_, fun k => ?_, hO'.obs, hO'.inj, hO'.below, hO'.free, hO'.base, fun p v hp => hO'.x p v (.inl hp)⟩⟩
      · cases o.dst <;> exact h.defers
      · have := h.size
        cases o.dst <;> simpa [Act.put] using this
      · cases hdd : o.dst with
        | none => exact hO'.x _ _ (.inr ⟨k, rfl, rfl⟩)
        | some d =>
          have hd' : d < a.tmps.size := Nat.lt_of_lt_of_le (hlt d hdd) h.size
          rw [getD_put a d k u hd']
          simp only [St.after, St.put]
          by_cases e : k = d
          · simp only [e, if_true]; exact hpu
          · simp only [e, if_false]; exact hO'.x _ _ (.inr ⟨k, rfl, rfl⟩)
    simp only [Option.bind_eq_some_iff, Option.map_eq_some_iff] at hr
    obtain ⟨ci, h2, con, h3, rfl⟩ := hr
    have hcon := (hE.con _ _ h3).2
    unfold callRep at hc hK
    split at hc
    · rename_i hf
      rw [if_pos hf] at hK
      simp only [St.after] at hc hK
      cases g with
      | false =>
        have hex : ∃ rs, (false = true ∨ ∃ rs', con.post ci.ds rs') → con.post ci.ds rs := by
          by_cases he : ∃ rs', con.post ci.ds rs'
          · obtain ⟨rs, hrs⟩ := he; exact ⟨rs, fun _ => hrs⟩
          · exact ⟨[], fun h => absurd (h.resolve_left (by simp)) he⟩
        obtain ⟨rs, hrs⟩ := hex
        exact wpOp_unwanted hi hw (hK _ _ α _ w ⟨rs, hrs, rfl, rfl⟩ (by rw [St.put_o_self]; exact plainOff _ rfl))
      | true =>
        obtain ⟨hc1, hpre⟩ := hc rfl
        obtain ⟨vs, h4, h5⟩ := callInfo_sound hE h hop h2 hc1 h3
        refine wpOp_enter hi hw h4 (hcon.calls _ hpre w (fun _ => True) vs (h5 _ ⟨fun _ _ => trivial, fun _ _ _ _ _ => trivial⟩)) fun e w' hp => ?_
        obtain ⟨rs, us, hpost, rfl, hb, hn, hrel⟩ := hp
        refine ⟨_, rfl, hK _ _ α _ w' ⟨rs, fun _ => hpost, rfl, rfl⟩ ?_⟩
        rw [St.put_o_self]
        exact h.plain hlt (grownBy_of_below hb) fun _ => gopt_true (pack_rel (flat_rels (hcon.flat hf _ _ hpost) hrel))
    · rename_i hf
      rw [if_neg hf] at hK
      cases hdst : o.dst with
      | none =>
        simp only [hdst, St.after] at hc hK
        obtain ⟨rfl, hc1, hpre⟩ := hc
        obtain ⟨vs, h4, h5⟩ := callInfo_sound hE h hop h2 hc1 h3
        obtain ⟨hdr, hop2⟩ := h.drop ci.ks
        refine wpOp_enter hi hw h4 (hcon.calls _ hpre w (okOf X.A (dropObs S.o ci.ks) α) vs (h5 _ hop2)) fun e w' hp => ?_
        obtain ⟨rs, us, hpost, rfl, hb, hn, hrel⟩ := hp
        refine ⟨_, rfl, hK _ _ α _ w' ⟨rs, hpost, rfl, rfl⟩ ?_⟩
        have := hdr.plain (dst := none) (p := .un) (v := packV us) (by simp) (grownBy_of_below hb) fun _ => by simp only [PV.rel]
        rw [hdst]
        exact this
      | some k =>
        simp only [hdst, St.after] at hc hK
        obtain ⟨rfl, hc1, hpre⟩ := hc
        obtain ⟨vs, h4, h5⟩ := callInfo_sound hE h hop h2 hc1 h3
        obtain ⟨hdr, hop2⟩ := h.drop ci.ks
        refine wpOp_enter hi hw h4 (hcon.calls _ hpre w (okOf X.A (dropObs S.o ci.ks) α) vs (h5 _ hop2)) fun e w' hp => ?_
        obtain ⟨rs, us, hpost, rfl, hb, hn, hrel⟩ := hp
        refine ⟨_, rfl, hK _ _ (retα α (E.key k) 0 rs us) _ w' ⟨rs, hpost, rfl, rfl⟩ ?_⟩
        have := hdr.ret (K := E.key k) (hlt k hdst) hb hn hrel
        rw [hdst]
        exact this

theorem rep_sound (hE : EnvOk E) (h : Rel E.n base w0 X S α a w) {ops : Array Oper} {i : Nat} {o : Oper} (hi : ops[i]? = some o) (hd : dstOk E o = true) {r : SR} (hr : rep E ops S o = some r) (hc : r.vc)
    {Q : Exit → Act → World → Prop} {K : Act → World → Prop} (hK : ∀ p o' α' a' w', r.post p o' → Rel E.n base w0 X (S.after o.dst p o') α' a' w' → K a' w') : wpOp E.P ops Q i K a w := by
  unfold rep at hr
  obtain ⟨g, hg, h1⟩ := Option.bind_eq_some_iff.1 hr
  exact rep1_sound hE h hi hd hg h1 hc hK

/-- What the machine's state is told by, whatever the homes of the objects. -/
def Tells (E : Env) (base : Nat) (w0 : World) (X : Fr) (S : St) (a : Act) (w : World) : Prop := ∃ α, Rel E.n base w0 X S α a w

theorem popOne_sound (hE : EnvOk E) {ops : Array Oper} (hds : ∀ (i : Nat) o, ops[i]? = some o → dstOk E o = true) {i : Nat} {K : St → Prop} (h : popOne E ops i S K) {Q : Exit → Act → World → Prop} {K' : Act → World → Prop} (hT : Tells E base w0 X S a w) (hK : ∀ S' a' w', K S' → Tells E base w0 X S' a' w' → K' a' w') : wpOp E.P ops Q i K' a w := by
  obtain ⟨α, hT⟩ := hT
  unfold popOne at h
  cases hi : ops[i]? with
  | none => rw [hi] at h; unfold wpOp; rw [hi]; exact hK S a w h ⟨α, hT⟩
  | some o =>
    rw [hi] at h
    obtain ⟨r, hr, hc, hq⟩ := h
    exact rep_sound hE hT hi (hds i o hi) hr hc fun p o' α' a' w' hp hrel => hK _ a' w' (hq p o' hp) ⟨α', hrel⟩
theorem popsL_sound (hE : EnvOk E) {ops : Array Oper} (hds : ∀ (i : Nat) o, ops[i]? = some o → dstOk E o = true) {Qp : St → Prop} {Q : Exit → Act → World → Prop} (hQ : ∀ S' a' w', Qp S' → Tells E base w0 X S' a' w' → Q .normal a' w') : ∀ {l : List Nat} {S : St} {a : Act} {w : World}, popsL E ops l S Qp → Tells E base w0 X S a w → wpOps E.P ops Q l a w
  | [], S, a, w, h, hT => by simp only [popsL] at h; simp only [wpOps]; exact hQ S a w h hT
  | i :: l, S, a, w, h, hT => by
    simp only [popsL] at h
    rw [wpOps_cons]
    exact popOne_sound hE hds h hT fun S' a' w' h' hT' => popsL_sound hE hds hQ h' hT'
end
end Go.Proofs.Ytomnjbebgfadoaa.Pi
