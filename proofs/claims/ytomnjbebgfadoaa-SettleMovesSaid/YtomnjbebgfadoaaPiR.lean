/- Regions of open order, the whole; code; functions.
   Conditions: none; definitions and lemmas. -/
import Derived.Test.YtomnjbebgfadoaaPiQ
import Derived.LoopN
set_option linter.unusedVariables false
set_option linter.unusedSimpArgs false
namespace Go.Proofs.Ytomnjbebgfadoaa.Pi
open Go Go.RowKit

section
variable {E : Env}
theorem popsL_mono {ops : Array Oper} {Q Q' : St → Prop} (hq : ∀ S, Q S → Q' S) : ∀ {l : List Nat} {S : St}, popsL E ops l S Q → popsL E ops l S Q'
  | [], S, h => hq S h
  | i :: l, S, h => by
    simp only [popsL] at h ⊢
    exact popOne_mono h fun S' h' => popsL_mono hq h'
/-- An operation goes ahead of others. -/
theorem pops_bubble (hE : EnvOk E) {ops : Array Oper} {i : Nat} {oi : Oper} (hi : ops[i]? = some oi) {Q : St → Prop} {l2 : List Nat} : ∀ {l1 : List Nat} {S : St}, (∀ j ∈ l1, ∃ oj, ops[j]? = some oj ∧ mayswap E ops oj oi = true) → popsL E ops (l1 ++ i :: l2) S Q → popsL E ops (i :: (l1 ++ l2)) S Q
  | [], S, hs, h => h
  | j :: l1, S, hs, h => by
    simp only [List.cons_append, popsL] at h ⊢
    obtain ⟨oj, hj, hsw⟩ := hs j (by simp)
    refine pop_swap hE hi hj hsw (popOne_mono h fun S' h' => ?_)
    have := pops_bubble hE hi (fun k hk => hs k (by simp [hk])) h'
    simpa only [popsL] using this

/-- The operations that are not listed yet, in the order of the text. -/
def unl (n : Nat) (listed : Array Bool) : List Nat := (List.range n).filter fun i => !listed.getD i true
theorem mem_unl {n : Nat} {listed : Array Bool} {i : Nat} : i ∈ unl n listed ↔ i < n ∧ listed.getD i true = false := by simp [unl]
theorem unl_sorted (n : Nat) (listed : Array Bool) : (unl n listed).Pairwise (· < ·) := List.Pairwise.filter _ List.pairwise_lt_range
theorem unl_set {n : Nat} {listed : Array Bool} (hs : listed.size = n) {i : Nat} {l1 l2 : List Nat} (h : unl n listed = l1 ++ i :: l2) : unl n (listed.setIfInBounds i true) = l1 ++ l2 ∧ (∀ j ∈ l1, j < i) := by
  have hp := unl_sorted n listed
  rw [h] at hp
  obtain ⟨p1, p2, p3⟩ := List.pairwise_append.1 hp
  have hlt : ∀ j ∈ l1, j < i := fun j hj => p3 j hj i (by simp)
  have hgt : ∀ j ∈ l2, i < j := fun j hj => (List.pairwise_cons.1 p2).1 j hj
  have him : i ∈ unl n listed := by rw [h]; simp
  obtain ⟨hin, _⟩ := mem_unl.1 him
  have e : unl n (listed.setIfInBounds i true) = (unl n listed).filter fun k => k != i := by
    unfold unl
    rw [List.filter_filter]
    refine List.filter_congr fun k hk => ?_
    by_cases hki : k = i
    · subst hki
      have : k < listed.size := by rw [hs]; exact hin
      simp [this]
    · rw [getD_set_ne true (Ne.symm hki)]
      simp [hki]
  refine ⟨?_, hlt⟩
  rw [e, h, List.filter_append, List.filter_cons]
  have f1 : l1.filter (fun k => k != i) = l1 := List.filter_eq_self.2 fun k hk => by have := hlt k hk; simp; omega
  have f2 : l2.filter (fun k => k != i) = l2 := List.filter_eq_self.2 fun k hk => by have := hgt k hk; simp; omega
  rw [f1, f2]
  simp

theorem rounds_mono {P : Program} {c : Code} {Q : Exit → Act → World → Prop} : ∀ {m n : Nat}, m ≤ n → ∀ a w, Code.rounds P c Q m a w → Code.rounds P c Q n a w
  | 0, n, hmn, a, w, h => h.elim
  | m + 1, 0, hmn, a, w, h => by omega
  | m + 1, n + 1, hmn, a, w, h => by
    rw [rounds_succ] at h ⊢
    refine wp_mono h fun e a' w' he => ?_
    cases e <;> first | exact rounds_mono (Nat.le_of_succ_le_succ hmn) a' w' he | exact he

/-- What is listed has what it waits for listed. -/
def Closed (ops : Array Oper) (listed : Array Bool) : Prop := ∀ k o, ops[k]? = some o → listed.getD k false = true → ∀ e ∈ o.after, Region.binds .any e = true → listed.getD e.on false = true

theorem drawOk_spec {ops : Array Oper} (h : drawOk E ops = true) : Region.noSelect ops = true ∧ ∀ j oj, ops[j]? = some oj → (∀ e ∈ oj.after, Region.binds .any e = true → e.on < j) ∧
    ∀ i, i < j → ∃ oi, ops[i]? = some oi ∧ ((((masks ops.toList).getD j 0).testBit i = true → waitsFor (masks ops.toList) oj i = true) ∧ (((masks ops.toList).getD j 0).testBit i = false → mayswap E ops oi oj = true)) := by
  unfold drawOk at h
  simp only [Bool.and_eq_true, List.all_eq_true, List.mem_range] at h
  refine ⟨h.1, fun j oj hj => ?_⟩
  have hlt : j < ops.size := (Array.getElem?_eq_some_iff.1 hj).1
  have h2 := h.2 j hlt
  rw [hj] at h2
  simp only [Bool.and_eq_true, List.all_eq_true, List.mem_range] at h2
  refine ⟨fun e he hb => ?_, fun i hi => ?_⟩
  · have := h2.1 e (by simpa using he)
    simpa [hb] using this
  · have := h2.2 i hi
    cases hoi : ops[i]? with
    | none => rw [hoi] at this; simp at this
    | some oi =>
      rw [hoi] at this
      refine ⟨oi, rfl, fun hb => ?_, fun hb => ?_⟩
      · rw [hb] at this; simpa using this
      · rw [hb] at this; simpa using this

theorem waits_spec {ops : Array Oper} (h : drawOk E ops = true) {listed : Array Bool} (hcl : Closed ops listed) : ∀ (j : Nat) (oj : Oper), ops[j]? = some oj → (∀ e ∈ oj.after, Region.binds .any e = true → listed.getD e.on false = true) →
    ∀ i, i < j → ((masks ops.toList).getD j 0).testBit i = true → listed.getD i false = true := by
  intro j
  induction j using Nat.strongRecOn with
  | _ j ih =>
    intro oj hj hall i hij hbit
    obtain ⟨hback, hch⟩ := (drawOk_spec h).2 j oj hj
    obtain ⟨oi, hoi, hw, _⟩ := hch i hij
    have hw := hw hbit
    unfold waitsFor at hw
    obtain ⟨e, he, hb⟩ := List.any_eq_true.1 hw
    simp only [Bool.and_eq_true, Bool.or_eq_true, beq_iff_eq, decide_eq_true_eq] at hb
    obtain ⟨hbind, hb⟩ := hb
    have hem : e ∈ oj.after := by simpa using he
    have hel := hall e hem hbind
    rcases hb with rfl | ⟨hlt, hbit'⟩
    · exact hel
    · have hej := hback e hem hbind
      have hjs : j < ops.size := (Array.getElem?_eq_some_iff.1 hj).1
      have hoe : ops[e.on]? = some ops[e.on] := Array.getElem?_eq_getElem (Nat.lt_trans hej hjs)
      exact ih e.on hej _ hoe (hcl e.on _ hoe hel) i hlt hbit'

theorem closed_set {ops : Array Oper} {listed : Array Bool} (hcl : Closed ops listed) {i : Nat} {oi : Oper} (hi : ops[i]? = some oi) (hall : ∀ e ∈ oi.after, Region.binds .any e = true → listed.getD e.on false = true) : Closed ops (listed.setIfInBounds i true) := by
  intro k o ho hk e he hb
  refine getD_set_true ?_
  by_cases hki : k = i
  · subst hki
    rw [hi] at ho
    simp only [Option.some.injEq] at ho
    subst ho
    exact hall e he hb
  · rw [getD_set_ne false (Ne.symm hki)] at hk
    exact hcl k o ho hk e he hb

theorem wpAny_of_pops (hE : EnvOk E) {ops : Array Oper} (hds : ∀ (i : Nat) o, ops[i]? = some o → dstOk E o = true) (hd : drawOk E ops = true) {base : Nat} {w0 : World} {X : Fr} {Qp : St → Prop} {Q : Exit → Act → World → Prop} (hQ : ∀ S' a' w', Qp S' → Tells E base w0 X S' a' w' → Q .normal a' w') :
    ∀ (fuel : Nat) (listed : Array Bool) (S : St) (a : Act) (w : World), listed.size = ops.size → Closed ops listed → (unl ops.size listed).length ≤ fuel → popsL E ops (unl ops.size listed) S Qp → Tells E base w0 X S a w → wpAny E.P .any ops Q fuel listed a w := by
  intro fuel
  induction fuel with
  | zero =>
    intro listed S a w hs hcl hl h hT
    have hnil : unl ops.size listed = [] := List.eq_nil_of_length_eq_zero (Nat.le_zero.1 hl)
    rw [hnil] at h
    refine ⟨?_, hQ S a w h hT⟩
    cases hr : Region.ready .any ops listed with
    | nil => rfl
    | cons x xs =>
      have hx : x ∈ Region.ready .any ops listed := by rw [hr]; simp
      obtain ⟨h0, o, ho, _⟩ := mem_ready.1 hx
      have : x ∈ unl ops.size listed := mem_unl.2 ⟨(Array.getElem?_eq_some_iff.1 ho).1, h0⟩
      rw [hnil] at this
      simp at this
  | succ fuel ih =>
    intro listed S a w hs hcl hl h hT
    refine ⟨fun hr => ?_, fun i hi => ?_⟩
    · cases hu : unl ops.size listed with
      | nil => rw [hu] at h; exact hQ S a w h hT
      | cons j rest =>
        exfalso
        have hj : j ∈ unl ops.size listed := by rw [hu]; simp
        obtain ⟨hjn, hj0⟩ := mem_unl.1 hj
        have hoj : ops[j]? = some ops[j] := Array.getElem?_eq_getElem hjn
        have : j ∈ Region.ready .any ops listed := by
          refine mem_ready.2 ⟨hj0, _, hoj, fun e he hb => ?_⟩
          have hlt := ((drawOk_spec hd).2 j _ hoj).1 e he hb
          cases hle : listed.getD e.on true with
          | false =>
            have hmem : e.on ∈ unl ops.size listed := mem_unl.2 ⟨Nat.lt_trans hlt hjn, hle⟩
            have hp := unl_sorted ops.size listed
            rw [hu] at hmem hp
            rcases List.mem_cons.1 hmem with h1 | h1
            · omega
            · have := (List.pairwise_cons.1 hp).1 _ h1; omega
          | true =>
            have : e.on < listed.size := by rw [hs]; exact Nat.lt_trans hlt hjn
            simpa [Array.getD_eq_getD_getElem?, this] using hle
        rw [hr] at this
        simp at this
    · obtain ⟨hi0, oi, hoi, hall⟩ := mem_ready.1 hi
      have hin : i < ops.size := (Array.getElem?_eq_some_iff.1 hoi).1
      have him : i ∈ unl ops.size listed := mem_unl.2 ⟨hin, hi0⟩
      obtain ⟨l1, l2, hu⟩ := List.append_of_mem him
      obtain ⟨hset, hlt⟩ := unl_set hs hu
      rw [hu] at h
      have hb := pops_bubble hE hoi (fun j hj => ?_) h
      · simp only [popsL] at hb
        refine popOne_sound hE hds hb hT fun S' a' w' h' hT' => ih _ S' a' w' (by simpa using hs) (closed_set hcl hoi hall) ?_ (by rw [hset]; exact h') hT'
        rw [hset]
        rw [hu] at hl
        simp only [List.length_append, List.length_cons] at hl ⊢
        omega
      · have hjm : j ∈ unl ops.size listed := by rw [hu]; simp [hj]
        obtain ⟨hjn, hj0⟩ := mem_unl.1 hjm
        obtain ⟨oj, hoj, h1, h2⟩ := ((drawOk_spec hd).2 i oi hoi).2 j (hlt j hj)
        refine ⟨oj, hoj, ?_⟩
        cases hbit : ((masks ops.toList).getD i 0).testBit j with
        | false => exact h2 hbit
        | true =>
          have := waits_spec hd hcl i oi hoi hall j (hlt j hj) hbit
          exfalso
          have hjl : j < listed.size := by rw [hs]; exact hjn
          simp [Array.getD_eq_getD_getElem?, hjl] at hj0 this
          rw [this] at hj0
          cases hj0

theorem Tells.drew {base : Nat} {w0 : World} {X : Fr} {S : St} {a : Act} {w : World} (h : Tells E base w0 X S a w) : Tells E base w0 X S a { w with drawn := w.drawn + 1 } := by
  obtain ⟨α, h⟩ := h
  exact ⟨α, h.plain (dst := none) (p := .un) (v := undef) (by simp) (grownBy_drew w) fun _ => by simp only [PV.rel]⟩

/-! ### 16b. Turns of the telling alone -/
/-- A nil slice may be told as an empty row of the call's own. -/
inductive Ghost : St → St → Prop
  | refl (S : St) : Ghost S S
  | nil {S S' : St} (k K sz e : Nat) (h : S.t k = .nils) (r : Ghost ⟨fun j => if j = k then .row K ((S.o K).1 + 1) 0 else S.t j, newOb S.o K (.row sz e [])⟩ S') : Ghost S S'
  /-- What is forgotten. -/
  | drop {S S' : St} (ks : List Nat) (r : Ghost { S with o := dropObs S.o ks } S') : Ghost S S'
theorem Tells.nil {base : Nat} {w0 : World} {X : Fr} {S : St} {a : Act} {w : World} (h : Tells E base w0 X S a w) {k K sz e : Nat} (hk : S.t k = .nils) : Tells E base w0 X ⟨fun j => if j = k then .row K ((S.o K).1 + 1) 0 else S.t j, newOb S.o K (.row sz e [])⟩ a w := by
  obtain ⟨α, h⟩ := h
  have hn := h.new (K := K) (x := .row sz e []) (hdr := .slice none 0 0) (dst := none) (p := .un) (v := undef) (by simp) (grownBy_refl w none) (by intro g hg; simp [hblk] at hg) (fun _ _ => by
    simp only [Ob.rel]
    exact ⟨[], ⟨by simp, .inl ⟨rfl, rfl⟩⟩, by simp, by simp [rdVals], by simp⟩) (fun _ _ => by simp only [PV.rel])
  refine ⟨hup α K (.slice none 0 0), ⟨hn.defers, hn.size, fun j => ?_, hn.o, hn.inj, hn.below, hn.free, hn.base, hn.x⟩⟩
  simp only
  by_cases hj : j = k
  · subst hj
    simp only [if_true]
    have := h.t j
    rw [hk] at this
    simp only [PV.rel] at this ⊢
    have e : a.tmps.getD j undef = .slice none 0 0 := this
    have e' : (a.put none undef).tmps.getD j undef = .slice none 0 0 := e
    refine ⟨⟨by rw [e]; exact ⟨none, 0, rfl, by simp, by simp⟩, by simp [newOb]⟩, fun _ => ?_⟩
    rw [hup_same]
    exact e
  · simp only [hj, if_false]
    exact hn.t j
theorem Tells.ghost {S S' : St} (hg : Ghost S S') : ∀ {base : Nat} {w0 : World} {X : Fr} {a : Act} {w : World}, Tells E base w0 X S a w → Tells E base w0 X S' a w := by
  induction hg with
  | refl S => intro _ _ _ _ _ h; exact h
  | nil k K sz e hk r ih => intro _ _ _ _ _ h; exact ih (h.nil hk)
  | drop ks r ih => intro _ _ _ _ _ h; obtain ⟨α, h⟩ := h; exact ih ⟨α, (h.drop ks).1⟩

/-! ### 17. Code -/
def thenP (next : St → Prop) (Q : PEx → St → Prop) : PEx → St → Prop
  | .normal, S => next S
  | e, S => Q e S
def inBlockP (id : Nat) (Q : PEx → St → Prop) : PEx → St → Prop
  | .exit id', S => if id' = id then Q .normal S else Q (.exit id') S
  | e, S => Q e S
def pwp (E : Env) : Code → (PEx → St → Prop) → St → Prop
  | .skip, Q, S => Q .normal S
  | .region _ ops _, Q, S => popsL E ops (List.range ops.size) S (Q .normal)
  | .seq x y, Q, S => pwp E x (thenP (pwp E y Q) Q) S
  | .cond c x y, Q, S => ∃ t, S.sv c = .d (.bool t) ∧ S.sc c ∧ (t = true → pwp E x Q S) ∧ (t = false → pwp E y Q S)
  | .block id x, Q, S => pwp E x (inBlockP id Q) S
  | .loop x, Q, S => ∃ I : Nat → St → Prop, (∃ S0, Ghost S S0 ∧ ∃ n, I n S0) ∧ ∀ n S', I n S' → pwp E x (thenP (fun S'' => ∃ S0, Ghost S'' S0 ∧ ∃ m, m < n ∧ I m S0) Q) S'
  | .exit id, Q, S => Q (.exit id) S
  | .ret, Q, S => Q .ret S
  | _, _, _ => False
def PEx.up : PEx → Exit
  | .normal => .normal
  | .exit id => .exit id
  | .ret => .ret

theorem pwp_sound (hE : EnvOk E) {base : Nat} {w0 : World} {X : Fr} : ∀ (c : Code) {Qp : PEx → St → Prop} {Q : Exit → Act → World → Prop} {S : St} {a : Act} {w : World},
    codeOk E c = true → (∀ e S' a' w', Qp e S' → Tells E base w0 X S' a' w' → Q e.up a' w') → pwp E c Qp S → Tells E base w0 X S a w → c.wp E.P Q a w
  | .skip, Qp, Q, S, a, w, hc, hQ, h, hT => wp_skip (hQ .normal S a w h hT)
  | .region id ops draw, Qp, Q, S, a, w, hc, hQ, h, hT => by
    simp only [pwp] at h
    simp only [codeOk, Bool.and_eq_true, List.all_eq_true, Bool.or_eq_true, Bool.not_eq_true'] at hc
    have hds : ∀ (i : Nat) o, ops[i]? = some o → dstOk E o = true := fun i o hi => hc.1 o (by simpa using Array.mem_of_getElem? hi)
    cases draw with
    | false => exact wp_region (popsL_sound hE hds (fun S' a' w' => hQ .normal S' a' w') h hT)
    | true =>
      refine wp_region_any hE.mixed (wpAny_of_pops hE hds (hc.2.resolve_left (by simp)) (fun S' a' w' => hQ .normal S' a' w') ops.size _ S a _ (by simp) ?_ ?_ ?_ hT.drew)
      · intro k o ho hk e he hb
        have hlt : k < ops.size := (Array.getElem?_eq_some_iff.1 ho).1
        simp [Array.getD_eq_getD_getElem?, hlt] at hk
      · unfold unl
        exact Nat.le_trans (List.length_filter_le _ _) (by simp)
      · have : unl ops.size (Array.replicate ops.size false) = List.range ops.size := by
          unfold unl
          refine List.filter_eq_self.2 fun k hk => ?_
          have hlt : k < ops.size := List.mem_range.1 hk
          simp [Array.getD_eq_getD_getElem?, hlt]
        rw [this]
        exact h
  | .seq x y, Qp, Q, S, a, w, hc, hQ, h, hT => by
    simp only [pwp] at h
    simp only [codeOk, Bool.and_eq_true] at hc
    refine wp_seq (pwp_sound hE x hc.1 (fun e S' a' w' hq hT' => ?_) h hT)
    cases e with
    | normal => exact pwp_sound hE y hc.2 hQ hq hT'
    | exit id => exact hQ (.exit id) S' a' w' hq hT'
    | ret => exact hQ .ret S' a' w' hq hT'
  | .cond c x y, Qp, Q, S, a, w, hc, hQ, h, hT => by
    simp only [pwp] at h
    simp only [codeOk, Bool.and_eq_true] at hc
    obtain ⟨t, h1, h2, h3, h4⟩ := h
    obtain ⟨α, hR⟩ := hT
    have hv := sv_rel hR c h2
    rw [h1] at hv
    simp only [PV.rel, D.rd] at hv
    refine wp_cond_split hv (fun ht => pwp_sound hE x hc.1 hQ (h3 ht) ⟨α, hR⟩) (fun ht => pwp_sound hE y hc.2 hQ (h4 ht) ⟨α, hR⟩)
  | .block id x, Qp, Q, S, a, w, hc, hQ, h, hT => by
    simp only [pwp] at h
    simp only [codeOk] at hc
    refine wp_block (pwp_sound hE x hc (fun e S' a' w' hq hT' => ?_) h hT)
    cases e with
    | normal => exact hQ .normal S' a' w' hq hT'
    | ret => exact hQ .ret S' a' w' hq hT'
    | exit id' =>
      simp only [inBlockP] at hq
      simp only [PEx.up, Exit.inBlock]
      split
      · rename_i e; rw [if_pos e] at hq; exact hQ .normal S' a' w' hq hT'
      · rename_i e; rw [if_neg e] at hq; exact hQ (.exit id') S' a' w' hq hT'
  | .loop x, Qp, Q, S, a, w, hc, hQ, h, hT => by
    simp only [pwp] at h
    simp only [codeOk] at hc
    obtain ⟨I, ⟨S0, hg, n, hI⟩, hstep⟩ := h
    have key : ∀ n S a w, I n S → Tells E base w0 X S a w → Code.rounds E.P x Q (n + 1) a w := by
      intro n
      induction n using Nat.strongRecOn with
      | _ n ih =>
        intro S a w hI hT
        rw [rounds_succ]
        refine pwp_sound hE x hc (fun e S' a' w' hq hT' => ?_) (hstep n S hI) hT
        cases e with
        | normal =>
          obtain ⟨S1, hg1, m, hm, hIm⟩ := hq
          have := ih m hm S1 a' w' hIm (hT'.ghost hg1)
          exact rounds_mono (Nat.succ_le_of_lt hm) a' w' this
        | exit id => exact hQ (.exit id) S' a' w' hq hT'
        | ret => exact hQ .ret S' a' w' hq hT'
    exact wp_loop_rounds (n + 1) (key n S0 a w hI (hT.ghost hg))
  | .exit id, Qp, Q, S, a, w, hc, hQ, h, hT => wp_exit (hQ (.exit id) S a w h hT)
  | .ret, Qp, Q, S, a, w, hc, hQ, h, hT => wp_ret (hQ .ret S a w h hT)
  | .label _, _, _, _, _, _, _, _, h, _ => by simp [pwp] at h
  | .goto _, _, _, _, _, _, _, _, h, _ => by simp [pwp] at h
  | .rangeFunc .., _, _, _, _, _, _, _, h, _ => by simp [pwp] at h
  | .scope _, _, _, _, _, _, _, _, h, _ => by simp [pwp] at h
  | .refuse _, _, _, _, _, _, _, _, h, _ => by simp [pwp] at h
end
end Go.Proofs.Ytomnjbebgfadoaa.Pi
