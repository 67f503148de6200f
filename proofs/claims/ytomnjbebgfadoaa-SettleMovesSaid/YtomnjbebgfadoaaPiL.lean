/- All operations on objects together; what is handed to a call and what comes back.
   Conditions: none; definitions and lemmas. -/
import Derived.Test.YtomnjbebgfadoaaPiKm
set_option linter.unusedVariables false
set_option linter.unusedSimpArgs false
namespace Go.Proofs.Ytomnjbebgfadoaa.Pi
open Go Go.RowKit

section
variable {E : Env} {base : Nat} {w0 : World} {X : Fr} {S : St} {α : Nat → Value} {a : Act} {w : World}

theorem effOp_sound (hE : EnvOk E) (h : Rel E.n base w0 X S α a w) (o : Oper) (hdst : ∀ d, o.dst = some d → d < E.n) {c : Prop} {p : PV} {o' : Objs} (hp : effOp E S o.dst o.op = some (c, p, o')) (hc : c) :
    ∃ α' v w', ((execOp a.eval o).run E.P w = .ok (.value v) w' ∨ ((execOp a.eval o).run E.P w = .ok .skip w' ∧ v = undef)) ∧ Rel E.n base w0 X { (S.put o.dst p) with o := o' } α' (a.put o.dst v) w' := by
  obtain ⟨dst, op, type, pos, after, guard⟩ := o
  simp only at hdst hp ⊢
  unfold effOp at hp
  split at hp
  · rename_i t K
    obtain ⟨α', v, w', h1, h2⟩ := run_allocE hE h (hdst K rfl) hp
    exact ⟨α', v, w', .inl (by simp [execOp, h1]), h2⟩
  · rename_i t x K
    obtain ⟨⟨c1, p1, o1⟩, h1, h2⟩ := Option.map_eq_some_iff.1 hp
    simp only [Prod.mk.injEq] at h2
    obtain ⟨rfl, rfl, rfl⟩ := h2
    obtain ⟨α', v, w', h1, h2⟩ := run_boxE h (hdst K rfl) h1 (sv_rel h x hc.1)
    exact ⟨α', v, w', .inl (by simp [execOp, h1]), h2⟩
  · rename_i d t adr x
    obtain ⟨⟨c1, p1, o1⟩, h1, h2⟩ := Option.map_eq_some_iff.1 hp
    simp only [Prod.mk.injEq] at h2
    obtain ⟨rfl, rfl, rfl⟩ := h2
    obtain ⟨α', w', h1, h2⟩ := run_storeE hE h (dst := dst) hdst h1 hc.2 (sv_rel h adr hc.1.1) (sv_rel h x hc.1.2)
    exact ⟨α', undef, w', .inr ⟨by simp [execOp, h1], rfl⟩, h2⟩
  · rename_i t l m K
    obtain ⟨⟨c1, p1, o1⟩, h1, h2⟩ := Option.map_eq_some_iff.1 hp
    simp only [Prod.mk.injEq] at h2
    obtain ⟨rfl, rfl, rfl⟩ := h2
    obtain ⟨α', v, w', h1, h2⟩ := run_makeE hE h (hdst K rfl) h1 hc.2 (sv_rel h l hc.1.1) (sv_rel h m hc.1.2)
    exact ⟨α', v, w', .inl (by simp [execOp, h1]), h2⟩
  · rename_i t n parts K
    obtain ⟨⟨c1, p1, o1⟩, h1, h2⟩ := Option.map_eq_some_iff.1 hp
    simp only [Prod.mk.injEq] at h2
    obtain ⟨rfl, rfl, rfl⟩ := h2
    obtain ⟨α', v, w', h1, h2⟩ := run_litE hE h (hdst K rfl) (vparts := parts.map fun p => (p.1, a.eval p.2)) h1 (by simpa using parts_rel h hc.1)
    exact ⟨α', v, w', .inl (by simp [execOp, h1]), h2⟩
  · rename_i cl K
    obtain ⟨callee, args, argTypes⟩ := cl
    unfold callE at hp
    simp only at hp
    split at hp
    · split at hp
      · rename_i s x t t' hx ht
        split at hp
        · rename_i e
          subst e
          have hx' : args = #[s, x] := by simpa [← Array.toList_inj] using hx
          have ht' : argTypes = #[t, t] := by simpa [← Array.toList_inj] using ht
          subst hx' ht'
          obtain ⟨⟨c1, p1, o1⟩, h1, h2⟩ := Option.map_eq_some_iff.1 hp
          simp only [Prod.mk.injEq] at h2
          obtain ⟨rfl, rfl, rfl⟩ := h2
          obtain ⟨α', v, w', h1, h2⟩ := run_appE (ty := type) hE h (hdst K rfl) h1 hc.2 (sv_rel h s hc.1.1) (sv_rel h x hc.1.2)
          exact ⟨α', v, w', .inl (by simp [execOp, resolve, invoke, builtin, h1]), h2⟩
        · cases hp
      · cases hp
    · cases hp
  · rename_i t K
    obtain ⟨α', v, w', h1, h2⟩ := run_makeMapE h (hdst K rfl) hp
    exact ⟨α', v, w', .inl (by simp [execOp, h1]), h2⟩
  · rename_i d t m k x
    obtain ⟨⟨c1, p1, o1⟩, h1, h2⟩ := Option.map_eq_some_iff.1 hp
    simp only [Prod.mk.injEq] at h2
    obtain ⟨rfl, rfl, rfl⟩ := h2
    obtain ⟨α', w', h1, h2⟩ := run_mapUpdE hE h (dst := dst) hdst h1 hc.2 (sv_rel h m hc.1.1.1) (sv_rel h k hc.1.1.2) (sv_rel h x hc.1.2)
    exact ⟨α', undef, w', .inr ⟨by simp [execOp, h1], rfl⟩, h2⟩
  · rename_i d t m k x
    obtain ⟨⟨c1, p1, o1⟩, h1, h2⟩ := Option.map_eq_some_iff.1 hp
    simp only [Prod.mk.injEq] at h2
    obtain ⟨rfl, rfl, rfl⟩ := h2
    obtain ⟨α', w', h1, h2⟩ := run_mapUpdE hE h (dst := dst) hdst h1 hc.2 (sv_rel h m hc.1.1.1) (sv_rel h k hc.1.1.2) (sv_rel h x hc.1.2)
    exact ⟨α', undef, w', .inr ⟨by simp [execOp, h1], rfl⟩, h2⟩
  · rename_i t m k K
    obtain ⟨⟨c1, p1, o1⟩, h1, h2⟩ := Option.map_eq_some_iff.1 hp
    simp only [Prod.mk.injEq] at h2
    obtain ⟨rfl, rfl, rfl⟩ := h2
    obtain ⟨α', v, w', h1, h2⟩ := run_mapEntE hE h (hdst K rfl) h1 hc.2 (sv_rel h m hc.1.1) (sv_rel h k hc.1.2)
    exact ⟨α', v, w', .inl (by simp [execOp, h1]), h2⟩
  · rename_i d t m s x
    obtain ⟨⟨c1, p1, o1⟩, h1, h2⟩ := Option.map_eq_some_iff.1 hp
    simp only [Prod.mk.injEq] at h2
    obtain ⟨rfl, rfl, rfl⟩ := h2
    obtain ⟨α', w', h1, h2⟩ := run_mapStoE (E := E) (t := t) h (dst := dst) hdst h1 hc.2 (sv_rel h m hc.1.1.1) (sv_rel h s hc.1.1.2) (sv_rel h x hc.1.2)
    exact ⟨α', undef, w', .inr ⟨by simp [execOp, h1], rfl⟩, h2⟩
  · cases hp
end

/-! ### 13. What is handed to a call: data -/
def dropObs (o : Objs) (ks : List Nat) : Objs := fun k => if k ∈ ks then ((o k).1, none) else o k
/-- A cell as data; z: its zero. -/
def snapC (S : St) (z : D) : PV → Option D
  | .d x => some x
  | .nils => match z with | .lst sz _ => some (.lst sz []) | _ => none
  | .clip sz xs => some (.lst sz xs)
  | .row K ver _ => match S.obj K ver with
    | some (.row sz _ xs) => some (.lst sz xs)
    | _ => none
  | _ => none
def keysC : PV → List Nat
  | .row K _ _ => [K]
  | _ => []
def snapCs (S : St) : List D → List PV → Option (List D)
  | [], [] => some []
  | z :: zs, p :: ps => (snapC S z p).bind fun x => (snapCs S zs ps).map (x :: ·)
  | _, _ => none
/-- A captured variable. -/
def snapR (E : Env) (S : St) : PV → Option D
  | .d x => some x
  | .ref K ver sz i off => match S.obj K ver with
    | some (.box e cs) => match E.ty e with
      | some te => (snapCs S te.zero cs).map fun ds => .ptr ds (i * sz + off)
      | none => none
    | _ => none
  | _ => none
def keysR (S : St) : PV → List Nat
  | .ref K ver _ _ _ => match S.obj K ver with
    | some (.box _ cs) => K :: cs.flatMap keysC
    | _ => []
  | _ => []
def snapRs (E : Env) (S : St) : List PV → Option (List D)
  | [] => some []
  | p :: ps => (snapR E S p).bind fun x => (snapRs E S ps).map (x :: ·)
def snapV (E : Env) (S : St) (t : Nat) (q : PV) : Option D := match q with
  | .ref .. => snapR E S q
  | .fn f caps => (snapRs E S caps).map (.fn f)
  | .agg cs => match E.ty t with
    | some ti => (snapCs S ti.zero cs).map .agg
    | none => none
  | .nils => match E.tk t with
    | some (.slice e) => (E.ty e).map fun te => .lst te.size []
    | _ => none
  | q => snapC S (.bool false) q
def keysV (S : St) (q : PV) : List Nat := match q with
  | .ref .. => keysR S q
  | .fn _ caps => caps.flatMap (keysR S)
  | .agg cs => cs.flatMap keysC
  | q => keysC q

/-- The blocks of these objects may be read, too. -/
def Opens (A : Nat → Prop) (S : St) (α : Nat → Value) (ks : List Nat) (ok : Nat → Prop) : Prop := (∀ b, okOf A S.o α b → ok b) ∧ ∀ K ∈ ks, (S.o K).2 ≠ none → ∀ g, hblk (α K) = some g → ok g

section
variable {E : Env} {base N : Nat} {w0 : World} {X : Fr} {S : St} {α : Nat → Value} {a : Act} {w : World}
theorem Opens.sub {ks ks' : List Nat} {ok : Nat → Prop} (h : Opens X.A S α ks ok) (hs : ∀ K ∈ ks', K ∈ ks) : Opens X.A S α ks' ok := ⟨h.1, fun K hK => h.2 K (hs K hK)⟩
theorem Opens.keeps {ks : List Nat} {ok : Nat → Prop} (h : Opens X.A S α ks ok) : Keeps w (okOf X.A S.o α) w ok := fun b _ hb => ⟨h.1 b hb, rfl⟩

theorem snapC_sound (h : Rel N base w0 X S α a w) {z : D} {q : PV} {d : D} (hq : snapC S z q = some d) {ok : Nat → Prop} (ho : Opens X.A S α (keysC q) ok) {v : Value} (hv : q.rel S.o α w (okOf X.A S.o α) v) : d.rd w ok v := by
  unfold snapC at hq
  split at hq
  · simp only [Option.some.injEq] at hq; subst hq
    simp only [PV.rel] at hv
    exact D.rd_keeps ho.keeps _ _ hv
  · split at hq
    · simp only [Option.some.injEq] at hq; subst hq
      simp only [PV.rel] at hv; subst hv
      simp only [D.rd]
      exact ⟨none, 0, by simp, by simp, by simp, by simp⟩
    · cases hq
  · simp only [Option.some.injEq] at hq; subst hq
    simp only [PV.rel] at hv
    exact D.rd_keeps ho.keeps _ _ hv.2
  · rename_i K ver n
    split at hq
    · rename_i sz e xs hob
      simp only [Option.some.injEq] at hq; subst hq
      obtain ⟨hl, hx⟩ := obj_some hob
      simp only [PV.rel] at hv
      have hva := hv.2 hl
      subst hva
      obtain ⟨vals, hown, h1, h2, h3⟩ := h.o K _ hx
      simp only [D.rd]
      rcases hown.2 with ⟨e1, e2⟩ | ⟨g, cap, cur, e1, hb, hh, hn, hm, _⟩
      · have hxs : xs = [] := List.eq_nil_of_length_eq_zero e2
        subst hxs
        exact ⟨none, 0, by rw [e1]; rfl, by simp, by simp, by simp⟩
      · have hg : hblk (α K) = some g := by rw [e1]; rfl
        refine ⟨_, cap, e1, ⟨hn, by simp⟩, Nat.le_trans hn hm, fun _ => ⟨g, 0, rfl, ?_⟩⟩
        exact rdRows_of h1 (rdVals_keeps ho.keeps _ _ h2) h3 (own_range hown hg) (ho.2 K (by simp [keysC]) (by rw [hx]; simp) g hg)
    · cases hq
  · cases hq
theorem snapCs_sound (h : Rel N base w0 X S α a w) {ok : Nat → Prop} : ∀ {zs : List D} {ps : List PV} {ds : List D} {vs : List Value}, snapCs S zs ps = some ds → Opens X.A S α (ps.flatMap keysC) ok → PV.rels S.o α w (okOf X.A S.o α) ps vs → rdVals w ok ds vs
  | [], [], ds, vs, hq, ho, hv => by
    simp only [snapCs, Option.some.injEq] at hq; subst hq
    simpa only [PV.rels, rdVals] using hv
  | [], _ :: _, ds, vs, hq, ho, hv => by simp [snapCs] at hq
  | _ :: _, [], ds, vs, hq, ho, hv => by simp [snapCs] at hq
  | z :: zs, p :: ps, ds, vs, hq, ho, hv => by
    simp only [snapCs, Option.bind_eq_some_iff, Option.map_eq_some_iff] at hq
    obtain ⟨x, h1, es, h2, rfl⟩ := hq
    simp only [PV.rels] at hv
    obtain ⟨v, vs', rfl, h3, h4⟩ := hv
    simp only [rdVals]
    exact ⟨v, vs', rfl, snapC_sound h h1 (ho.sub fun K hK => by simp [hK]) h3, snapCs_sound h h2 (ho.sub fun K hK => by simp only [List.flatMap_cons, List.mem_append]; exact .inr hK) h4⟩
theorem snapR_sound (h : Rel N base w0 X S α a w) {q : PV} {d : D} (hq : snapR E S q = some d) {ok : Nat → Prop} (ho : Opens X.A S α (keysR S q) ok) {v : Value} (hv : q.rel S.o α w (okOf X.A S.o α) v) : d.rd w ok v := by
  unfold snapR at hq
  split at hq
  · simp only [Option.some.injEq] at hq; subst hq
    simp only [PV.rel] at hv
    exact D.rd_keeps ho.keeps _ _ hv
  · rename_i K ver sz i off
    split at hq
    · rename_i e cs hob
      split at hq
      · rename_i te hte
        obtain ⟨ds, hds, rfl⟩ := Option.map_eq_some_iff.1 hq
        obtain ⟨hl, hx⟩ := obj_some hob
        simp only [PV.rel] at hv
        obtain ⟨g, hg, rfl⟩ := hv.2 hl
        obtain ⟨g', vals, hhdr, hb, hh, hr, hones⟩ := h.o K _ hx
        have hg' : g' = g := by rw [hhdr] at hg; simpa [hblk] using hg
        subst hg'
        have hkeys : keysR S (.ref K ver sz i off) = K :: cs.flatMap keysC := by simp [keysR, hob]
        rw [hkeys] at ho
        have hrd := snapCs_sound h hds (ho.sub fun K hK => by simp only [List.mem_cons]; exact .inr hK) hr
        simp only [D.rd]
        refine ⟨g', 0, by simp, rdCells_mk fun j d hd => ⟨ho.2 K (by simp) (by rw [hx]; simp) g' hg, ?_⟩⟩
        obtain ⟨u, hu, hdu⟩ := rdVals_get hrd j d hd
        refine ⟨u, ?_, hones u (List.mem_of_getElem? hu), hdu⟩
        simp only [Nat.zero_add, World.cell?, hh]
        simpa using hu
      · cases hq
    · cases hq
  · cases hq
theorem snapRs_sound (h : Rel N base w0 X S α a w) {ok : Nat → Prop} : ∀ {ps : List PV} {ds : List D} {vs : List Value}, snapRs E S ps = some ds → Opens X.A S α (ps.flatMap (keysR S)) ok → PV.rels S.o α w (okOf X.A S.o α) ps vs → rdVals w ok ds vs
  | [], ds, vs, hq, ho, hv => by
    simp only [snapRs, Option.some.injEq] at hq; subst hq
    simpa only [PV.rels, rdVals] using hv
  | p :: ps, ds, vs, hq, ho, hv => by
    simp only [snapRs, Option.bind_eq_some_iff, Option.map_eq_some_iff] at hq
    obtain ⟨x, h1, es, h2, rfl⟩ := hq
    simp only [PV.rels] at hv
    obtain ⟨v, vs', rfl, h3, h4⟩ := hv
    simp only [rdVals]
    exact ⟨v, vs', rfl, snapR_sound h h1 (ho.sub fun K hK => by simp [hK]) h3, snapRs_sound h h2 (ho.sub fun K hK => by simp only [List.flatMap_cons, List.mem_append]; exact .inr hK) h4⟩
theorem snapV_sound (h : Rel N base w0 X S α a w) {t : Nat} {q : PV} {d : D} (hq : snapV E S t q = some d) {ok : Nat → Prop} (ho : Opens X.A S α (keysV S q) ok) {v : Value} (hv : q.rel S.o α w (okOf X.A S.o α) v) : d.rd w ok v := by
  unfold snapV at hq
  split at hq
  · exact snapR_sound h hq ho hv
  · rename_i f caps
    obtain ⟨ds, hds, rfl⟩ := Option.map_eq_some_iff.1 hq
    simp only [PV.rel] at hv
    obtain ⟨vs, rfl, hr⟩ := hv
    simp only [D.rd]
    exact ⟨vs, rfl, snapRs_sound h hds ho hr⟩
  · rename_i cs
    split at hq
    · obtain ⟨ds, hds, rfl⟩ := Option.map_eq_some_iff.1 hq
      simp only [PV.rel] at hv
      obtain ⟨vs, rfl, h1, hr⟩ := hv
      simp only [D.rd]
      exact ⟨vs, rfl, h1, snapCs_sound h hds ho hr⟩
    · cases hq
  · split at hq
    · obtain ⟨te, hte, rfl⟩ := Option.map_eq_some_iff.1 hq
      simp only [PV.rel] at hv; subst hv
      simp only [D.rd]
      exact ⟨none, 0, by simp, by simp, by simp, by simp⟩
    · cases hq
  · rename_i h1 h2 h3 h4
    have hk : keysV S q = keysC q := by
      unfold keysV
      split
      · exact absurd rfl (h1 _ _ _ _ _)
      · exact absurd rfl (h2 _ _)
      · exact absurd rfl (h3 _)
      · rfl
    rw [hk] at ho
    exact snapC_sound h hq ho hv

/-- Objects are given up: what they hold may be read as data from now on. -/
theorem Rel.drop (h : Rel N base w0 X S α a w) (ks : List Nat) : Rel N base w0 X { S with o := dropObs S.o ks } α a w ∧ Opens X.A S α ks (okOf X.A (dropObs S.o ks) α) := by
  have hl : ∀ K, (dropObs S.o ks K).2 ≠ none → K ∉ ks ∧ dropObs S.o ks K = S.o K := fun K hK => by
    unfold dropObs at hK ⊢
    split at hK
    · exact absurd rfl hK
    · rename_i hn; exact ⟨hn, by rw [if_neg hn]⟩
  have hok : ∀ b, okOf X.A S.o α b → okOf X.A (dropObs S.o ks) α b := fun b hb => ⟨hb.1, fun K hK => hb.2 K (by rw [← (hl K hK).2]; exact hK)⟩
  have hk : Keeps w (okOf X.A S.o α) w (okOf X.A (dropObs S.o ks) α) := fun b _ hb => ⟨hok b hb, rfl⟩
  have ht : Turns S.o α (dropObs S.o ks) α := fun K ver hv => by
    refine ⟨?_, fun hlv => ?_⟩
    · unfold dropObs; split <;> exact hv
    · obtain ⟨h1, h2⟩ := hl K hlv.2
      exact ⟨⟨by rw [← h2]; exact hlv.1, by rw [← h2]; exact hlv.2⟩, rfl⟩
  refine ⟨⟨h.defers, h.size, fun k => (S.t k).rel_turn hk ht _ (h.t k), fun K x hx => ?_, fun K K' hne hK hK' g hg => ?_, h.below, h.free, h.base, fun p v hp => PV.rel_turn hk ht _ _ (h.x p v hp)⟩, hok, fun K hK hKn g hg => ⟨?_, fun K' hK' hg' => ?_⟩⟩
  · obtain ⟨h1, h2⟩ := hl K (by simp only at hx; rw [hx]; simp)
    exact Ob.rel_turn hk ht (fun _ _ => rfl) (h.o K x (by rw [← h2]; exact hx))
  · exact h.inj K K' hne (by rw [← (hl K hK).2]; exact hK) (by rw [← (hl K' hK').2]; exact hK') g hg
  · cases hx : (S.o K).2 with
    | none => exact absurd hx hKn
    | some x => exact h.free g (Ob.rel_lt (h.o K x hx) g hg).1
  · obtain ⟨h1, h2⟩ := hl K' hK'
    have hne : K ≠ K' := fun e => h1 (e ▸ hK)
    exact h.inj K K' hne hKn (by rw [← h2]; exact hK') g hg hg'
end
end Go.Proofs.Ytomnjbebgfadoaa.Pi
