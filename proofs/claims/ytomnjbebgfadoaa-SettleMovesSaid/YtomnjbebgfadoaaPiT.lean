/- Rules by which walks are carried out.
   Conditions: none; definitions and lemmas. -/
import Derived.Test.YtomnjbebgfadoaaPiS
set_option linter.unusedVariables false
set_option linter.unusedSimpArgs false
namespace Go.Proofs.Ytomnjbebgfadoaa.Pi
open Go Go.RowKit

/-! ### 21. Rules -/
def runOne (r : Option SR) (d : Option Nat) (S : St) (K : St → Prop) : Prop := match r with
  | some r => r.vc ∧ ∀ p o', r.post p o' → K (S.after d p o')
  | none => False
/-- The operations of a region from one on. -/
def opsK (E : Env) (ops : Array Oper) : List Oper → (PEx → St → Prop) → St → Prop
  | [], Q, S => Q .normal S
  | o :: rest, Q, S => runOne (rep E ops S o) o.dst S (opsK E ops rest Q)
def seqK (K : St → Prop) (Q : PEx → St → Prop) : PEx → St → Prop
  | .normal, S => K S
  | e, S => Q e S
def blkK (id : Nat) (Q : PEx → St → Prop) : PEx → St → Prop
  | .exit id', S => if id' = id then Q .normal S else Q (.exit id') S
  | e, S => Q e S
def condK (Kx Ky : St → Prop) (S : St) : PV → Prop
  | .d (.bool t) => (t = true → Kx S) ∧ (t = false → Ky S)
  | .opt g p => g = true ∧ condK Kx Ky S p
  | _ => False
/-- A walk, for simplification: the loops are left. -/
def run (E : Env) : Code → (PEx → St → Prop) → St → Prop
  | .skip, Q, S => Q .normal S
  | .region _ ops _, Q, S => opsK E ops ops.toList Q S
  | .seq x y, Q, S => run E x (seqK (run E y Q) Q) S
  | .cond c x y, Q, S => condK (run E x Q) (run E y Q) S (S.ev c)
  | .block id x, Q, S => run E x (blkK id Q) S
  | .loop x, Q, S => pwp E (.loop x) Q S
  | .exit id, Q, S => Q (.exit id) S
  | .ret, Q, S => Q .ret S
  | _, _, _ => False

section
variable {E : Env}
theorem runOne_some {vc : Prop} {post : PV → Objs → Prop} {d : Option Nat} {S : St} {K : St → Prop} : runOne (some ⟨vc, post⟩) d S K = (vc ∧ ∀ p o', post p o' → K (S.after d p o')) := rfl
theorem popOne_eq {ops : Array Oper} {i : Nat} {o : Oper} (h : ops[i]? = some o) {S : St} {K : St → Prop} : popOne E ops i S K ↔ runOne (rep E ops S o) o.dst S K := by
  unfold popOne runOne
  rw [h]
  constructor
  · rintro ⟨r, h2, h3, h4⟩; rw [h2]; exact ⟨h3, h4⟩
  · intro h2
    cases hr : rep E ops S o with
    | none => rw [hr] at h2; exact h2.elim
    | some r => rw [hr] at h2; exact ⟨r, hr, h2.1, h2.2⟩
theorem popsL_ops {ops : Array Oper} {Q : PEx → St → Prop} : ∀ (rest : List Oper) (k : Nat) (S : St), (∀ j o, rest[j]? = some o → ops[k + j]? = some o) → opsK E ops rest Q S → popsL E ops (List.range' k rest.length) S (Q .normal)
  | [], k, S, _, h => by simpa [opsK, popsL] using h
  | o :: rest, k, S, hr, h => by
    simp only [opsK] at h
    simp only [List.length_cons, List.range'_succ, popsL]
    rw [popOne_eq (o := o) (by simpa using hr 0 o (by simp))]
    have h2 := h
    unfold runOne at h2 ⊢
    split
    · rename_i r e
      rw [e] at h2
      refine ⟨h2.1, fun p o' hp => popsL_ops rest (k + 1) _ (fun j o'' hj => ?_) (h2.2 p o' hp)⟩
      have := hr (j + 1) o'' (by simpa using hj)
      rwa [show k + (j + 1) = k + 1 + j by omega] at this
    · rename_i e; rw [e] at h2; exact h2
theorem condK_spec {Kx Ky : St → Prop} {S : St} : ∀ {p : PV}, condK Kx Ky S p → ∃ t, strip p = .d (.bool t) ∧ stripC p ∧ (t = true → Kx S) ∧ (t = false → Ky S)
  | .d (.bool t), h => ⟨t, rfl, trivial, h⟩
  | .opt g p, h => by
    obtain ⟨t, h1, h2, h3⟩ := condK_spec h.2
    exact ⟨t, h1, ⟨h.1, h2⟩, h3⟩
  | .un, h => h.elim
  | .nils, h => h.elim
  | .ref .., h => h.elim
  | .row .., h => h.elim
  | .map .., h => h.elim
  | .fn .., h => h.elim
  | .agg .., h => h.elim
  | .tup .., h => h.elim
  | .clip .., h => h.elim
  | .d (.int ..), h => h.elim
  | .d (.str ..), h => h.elim
  | .d (.lst ..), h => h.elim
  | .d (.agg ..), h => h.elim
  | .d (.ptr ..), h => h.elim
  | .d (.fn ..), h => h.elim
/-- Weaker ends. -/
theorem popsL_mono' {ops : Array Oper} {Q Q' : St → Prop} (hq : ∀ S, Q S → Q' S) {l : List Nat} {S : St} (h : popsL E ops l S Q) : popsL E ops l S Q' := popsL_mono hq h
theorem pwp_mono : ∀ (c : Code) {Q Q' : PEx → St → Prop} {S : St}, (∀ e S, Q e S → Q' e S) → pwp E c Q S → pwp E c Q' S
  | .skip, Q, Q', S, hq, h => hq _ _ h
  | .region id ops draw, Q, Q', S, hq, h => by simp only [pwp] at h ⊢; exact popsL_mono (hq .normal) h
  | .seq x y, Q, Q', S, hq, h => by
    simp only [pwp] at h ⊢
    refine pwp_mono x (fun e S' h' => ?_) h
    cases e with
    | normal => exact pwp_mono y hq h'
    | exit id => exact hq _ _ h'
    | ret => exact hq _ _ h'
  | .cond c x y, Q, Q', S, hq, h => by
    simp only [pwp] at h ⊢
    obtain ⟨t, h1, h2, h3, h4⟩ := h
    exact ⟨t, h1, h2, fun ht => pwp_mono x hq (h3 ht), fun ht => pwp_mono y hq (h4 ht)⟩
  | .block id x, Q, Q', S, hq, h => by
    simp only [pwp] at h ⊢
    refine pwp_mono x (fun e S' h' => ?_) h
    cases e with
    | normal => exact hq _ _ h'
    | ret => exact hq _ _ h'
    | exit id' =>
      simp only [inBlockP] at h' ⊢
      split
      · rename_i e; rw [if_pos e] at h'; exact hq _ _ h'
      · rename_i e; rw [if_neg e] at h'; exact hq _ _ h'
  | .loop x, Q, Q', S, hq, h => by
    simp only [pwp] at h ⊢
    obtain ⟨I, h0, h1⟩ := h
    refine ⟨I, h0, fun n S' hI => pwp_mono x (fun e S' h' => ?_) (h1 n S' hI)⟩
    cases e with
    | normal => exact h'
    | exit id => exact hq _ _ h'
    | ret => exact hq _ _ h'
  | .exit id, Q, Q', S, hq, h => hq _ _ h
  | .ret, Q, Q', S, hq, h => hq _ _ h
  | .label _, _, _, _, _, h => by simp [pwp] at h
  | .goto _, _, _, _, _, h => by simp [pwp] at h
  | .rangeFunc .., _, _, _, _, h => by simp [pwp] at h
  | .scope _, _, _, _, _, h => by simp [pwp] at h
  | .refuse _, _, _, _, _, h => by simp [pwp] at h
theorem pwp_of_run : ∀ (c : Code) {Q : PEx → St → Prop} {S : St}, run E c Q S → pwp E c Q S
  | .skip, Q, S, h => h
  | .region id ops draw, Q, S, h => by
    simp only [run] at h
    simp only [pwp]
    have := popsL_ops (E := E) (ops := ops) (Q := Q) ops.toList 0 S (fun j o hj => by simpa using hj) h
    rwa [← List.range_eq_range', Array.length_toList] at this
  | .seq x y, Q, S, h => by
    simp only [run] at h
    simp only [pwp]
    refine pwp_mono x (fun e S' h' => ?_) (pwp_of_run x h)
    cases e with
    | normal => exact pwp_of_run y h'
    | exit id => exact h'
    | ret => exact h'
  | .cond c x y, Q, S, h => by
    simp only [run] at h
    simp only [pwp]
    obtain ⟨t, h1, h2, h3, h4⟩ := condK_spec h
    exact ⟨t, h1, h2, fun ht => pwp_of_run x (h3 ht), fun ht => pwp_of_run y (h4 ht)⟩
  | .block id x, Q, S, h => by
    simp only [run] at h
    simp only [pwp]
    refine pwp_mono x (fun e S' h' => ?_) (pwp_of_run x h)
    cases e with
    | normal => exact h'
    | exit id => exact h'
    | ret => exact h'
  | .loop x, Q, S, h => h
  | .exit id, Q, S, h => h
  | .ret, Q, S, h => h
  | .label _, _, _, h => by simp [run] at h
  | .goto _, _, _, h => by simp [run] at h
  | .rangeFunc .., _, _, h => by simp [run] at h
  | .scope _, _, _, h => by simp [run] at h
  | .refuse _, _, _, h => by simp [run] at h
def loopK (n : Nat) (I : Nat → St → Prop) (Q : PEx → St → Prop) : PEx → St → Prop
  | .normal, S => ∃ S0, Ghost S S0 ∧ ∃ m, m < n ∧ I m S0
  | e, S => Q e S
theorem pwp_loopG {x : Code} {Q : PEx → St → Prop} {S : St} (I : Nat → St → Prop) (S0 : St) (hg : Ghost S S0) (n : Nat) (h0 : I n S0) (h : ∀ n S', I n S' → run E x (loopK n I Q) S') : pwp E (.loop x) Q S := by
  simp only [pwp]
  refine ⟨I, ⟨S0, hg, n, h0⟩, fun n S' hI => ?_⟩
  have : thenP (fun S'' => ∃ S0, Ghost S'' S0 ∧ ∃ m, m < n ∧ I m S0) Q = loopK n I Q := by funext e S; cases e <;> rfl
  rw [this]; exact pwp_of_run x (h n S' hI)
theorem pwp_loop {x : Code} {Q : PEx → St → Prop} {S : St} (I : Nat → St → Prop) (n : Nat) (h0 : I n S) (h : ∀ n S', I n S' → run E x (loopK n I Q) S') : pwp E (.loop x) Q S := pwp_loopG I S (.refl S) n h0 h
theorem ghost_id {S : St} {P : St → Prop} (h : P S) : ∃ S0, Ghost S S0 ∧ P S0 := ⟨S, .refl S, h⟩
/-- A cut: what holds behind a part, whichever way it ends. -/
theorem run_cut {x : Code} {Q : PEx → St → Prop} {S : St} (M : PEx → St → Prop) (h : run E x M S) (hm : ∀ e S', M e S' → Q e S') : pwp E x Q S := pwp_mono x hm (pwp_of_run x h)
end
end Go.Proofs.Ytomnjbebgfadoaa.Pi
