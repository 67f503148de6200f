/- Corrections in plain numbers: what a triple has after grants are added and taken back.
   Conditions: none; lemmas. -/
import Derived.Test.YtomnjbebgfadoaaB8
set_option linter.unusedVariables false
set_option linter.unusedSimpArgs false
namespace Go.Proofs.Ytomnjbebgfadoaa.Pi
open Go Go.RowKit Go.Proofs
set_option maxHeartbeats 4000000
/-- What a grant adds to a triple. -/
def contr (ro : List Claim) (t : Triple) (g : Grant) : Int := match ro.find? (fun c => c.Id == g.Right) with
  | some c => if g.Litres ≤ 0 then 0 else if teq t ⟨c.Id, c.Owner, c.Place⟩ = true then g.Litres else 0
  | none => 0
def sumC (ro : List Claim) (t : Triple) : List Grant → Int
  | [] => 0
  | g :: G => contr ro t g + sumC ro t G
theorem teq_symm (t s : Triple) : teq t s = teq s t := by
  rw [Bool.eq_iff_iff, teq_iff, teq_iff]; exact eq_comm
theorem getT_upsert (t u : Triple) (x : Int) : ∀ l : List (Triple × Int), getT t (upsert u x l) = if teq t u = true then IntKind.i64.wrap (getT t l + x) else getT t l
  | [] => by
    simp only [upsert, getT]
  | s :: l => by
    by_cases hu : teq u s.1 = true
    · have e := teq_iff.1 hu
      simp only [upsert, hu, if_true, getT]
      rw [e]
      split <;> rfl
    · simp only [upsert, hu, getT, Bool.false_eq_true, if_false]
      by_cases ht : teq t s.1 = true
      · have : teq t u = false := by
          cases hb : teq t u with
          | false => rfl
          | true => exact absurd (by rw [← teq_iff.1 hb]; exact ht) hu
        simp [ht, this]
      · simp only [ht, Bool.false_eq_true, if_false]
        exact getT_upsert t u x l
def Norm (l : List (Triple × Int)) : Prop := ∀ t, IntKind.i64.wrap (getT t l) = getT t l
theorem wrap_wrap (x : Int) : IntKind.i64.wrap (IntKind.i64.wrap x) = IntKind.i64.wrap x := by simp only [IntKind.wrap_i64]; omega
theorem norm_nil : Norm [] := fun t => by simp only [getT, IntKind.wrap_i64]; omega
theorem getT_addG {ro : List Claim} {sign : Int} {l : List (Triple × Int)} {g : Grant} (h : Norm l) (t : Triple) : getT t (addG ro sign l g) = IntKind.i64.wrap (getT t l + IntKind.i64.wrap (sign * contr ro t g)) := by
  have hz : IntKind.i64.wrap (getT t l + IntKind.i64.wrap (sign * 0)) = getT t l := by
    have : IntKind.i64.wrap (sign * 0) = 0 := by rw [Int.mul_zero]; rfl
    rw [this, Int.add_zero]; exact h t
  unfold addG contr
  cases ro.find? (fun c => c.Id == g.Right) with
  | none => exact hz.symm
  | some c =>
    simp only
    split
    · exact hz.symm
    · rw [getT_upsert]
      split
      · rfl
      · exact hz.symm
theorem norm_addG {ro : List Claim} {sign : Int} {l : List (Triple × Int)} {g : Grant} (h : Norm l) : Norm (addG ro sign l g) := fun t => by rw [getT_addG h]; exact wrap_wrap _
theorem norm_fold {ro : List Claim} {sign : Int} : ∀ {G : List Grant} {l : List (Triple × Int)}, Norm l → Norm (G.foldl (addG ro sign) l)
  | [], l, h => h
  | g :: G, l, h => norm_fold (G := G) (norm_addG h)
theorem getT_plus (ro : List Claim) (t : Triple) : ∀ (G : List Grant) (l : List (Triple × Int)), Norm l → getT t (G.foldl (addG ro 1) l) = IntKind.i64.wrap (getT t l + sumC ro t G)
  | [], l, h => by simp only [List.foldl_nil, sumC, Int.add_zero]; exact (h t).symm
  | g :: G, l, h => by
    rw [List.foldl_cons, getT_plus ro t G _ (norm_addG h), getT_addG h, sumC]
    simp only [IntKind.wrap_i64]; omega
theorem getT_minus (ro : List Claim) (t : Triple) : ∀ (G : List Grant) (l : List (Triple × Int)), Norm l → getT t (G.foldl (addG ro (-1)) l) = IntKind.i64.wrap (getT t l - sumC ro t G)
  | [], l, h => by simp only [List.foldl_nil, sumC, Int.sub_zero]; exact (h t).symm
  | g :: G, l, h => by
    rw [List.foldl_cons, getT_minus ro t G _ (norm_addG h), getT_addG h, sumC]
    simp only [IntKind.wrap_i64]; omega
theorem corr_get (was now : List Claim) (old gr : List Grant) (t : Triple) : getT t (corrL was now old gr) = IntKind.i64.wrap (sumC now t gr - sumC was t old) := by
  rw [corrL, getT_minus _ _ _ _ (norm_fold norm_nil), getT_plus _ _ _ _ norm_nil]
  simp only [getT, IntKind.wrap_i64]; omega
theorem corr_nodup (was now : List Claim) (old gr : List Grant) : ((corrL was now old gr).map (·.1)).Nodup := (addAll was (-1) old _ (addAll now 1 gr [] (by simp)).1).1
theorem get_mem {l : List (Triple × Int)} (hn : (l.map (·.1)).Nodup) {x : Triple × Int} (hx : x ∈ l) : getT x.1 l = x.2 := by
  obtain ⟨i, hi, rfl⟩ := List.mem_iff_getElem.1 hx
  exact getT_get l i hi hn
theorem corr_same (day known : Int) (ro : List Claim) (G : List Grant) : corrF day known ro ro G G = [] := by
  rw [corrF, List.flatMap_eq_nil_iff]
  intro x hx
  have h := get_mem (corr_nodup ro ro G G) hx
  rw [corr_get, Int.sub_self] at h
  have : x.2 = 0 := by rw [← h]; rfl
  simp [entE, this]
/-- The opposite litres. -/
def ng (x : Triple × Int) : Triple × Int := (x.1, IntKind.i64.wrap (0 - x.2))
theorem ups_ng (t : Triple) (x : Int) : ∀ l : List (Triple × Int), upsert t (IntKind.i64.wrap (-1 * x)) (l.map ng) = (upsert t (IntKind.i64.wrap (1 * x)) l).map ng
  | [] => by
    simp only [upsert, List.map_cons, List.map_nil, ng, IntKind.wrap_i64, List.cons.injEq, Prod.mk.injEq, true_and, and_true]; omega
  | s :: l => by
    simp only [List.map_cons, upsert, ng]
    split
    · simp only [List.map_cons, ng, IntKind.wrap_i64, List.cons.injEq, Prod.mk.injEq, true_and, and_true]; omega
    · simp only [List.map_cons, ng, List.cons.injEq, true_and]
      exact ups_ng t x l
theorem addG_ng (ro : List Claim) (l : List (Triple × Int)) (g : Grant) : addG ro (-1) (l.map ng) g = (addG ro 1 l g).map ng := by
  unfold addG
  split
  · split
    · rfl
    · exact ups_ng _ _ _
  · rfl
theorem fold_ng (ro : List Claim) : ∀ (G : List Grant) (l : List (Triple × Int)), G.foldl (addG ro (-1)) (l.map ng) = (G.foldl (addG ro 1) l).map ng
  | [], l => rfl
  | g :: G, l => by rw [List.foldl_cons, addG_ng, fold_ng ro G, List.foldl_cons]
def opp (e : Entry) : Entry := ⟨e.Day, e.Known, e.Owner, e.Place, IntKind.i64.wrap (0 - e.Litres), 1, e.Ref⟩
theorem back_first (day known : Int) (ro : List Claim) (G : List Grant) : corrF day known ro [] G [] = (grantsF day known ro G).map opp := by
  have e : corrL ro [] G [] = (G.foldl (addG ro 1) []).map ng := fold_ng ro G []
  rw [corrF, e, grantsF]
  have hN : ∀ x ∈ G.foldl (addG ro 1) [], IntKind.i64.wrap x.2 = x.2 := fun x hx => by
    have h := get_mem (addAll ro 1 G [] (by simp)).1 hx
    rw [← h]; exact norm_fold norm_nil x.1
  revert hN
  generalize G.foldl (addG ro 1) [] = l
  induction l with
  | nil => intro _; rfl
  | cons x l ih =>
    intro hN
    rw [List.map_cons, List.flatMap_cons, List.flatMap_cons, List.map_append, ih fun y hy => hN y (by simp [hy])]
    congr 1
    have hx := hN x (by simp)
    simp only [IntKind.wrap_i64] at hx
    by_cases h0 : x.2 = 0
    · simp only [entE, ng, h0]; rfl
    · have h1 : IntKind.i64.wrap (0 - x.2) ≠ 0 := by simp only [IntKind.wrap_i64]; omega
      simp only [entE, ng, h0, h1, if_false, List.map_cons, List.map_nil, opp]
end Go.Proofs.Ytomnjbebgfadoaa.Pi
