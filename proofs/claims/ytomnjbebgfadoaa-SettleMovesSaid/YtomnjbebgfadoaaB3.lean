/- Shares of triples: what add does.
   Conditions: none; lemmas. -/
import Derived.Test.YtomnjbebgfadoaaB2
set_option linter.unusedVariables false
set_option linter.unusedSimpArgs false
namespace Go.Proofs.Ytomnjbebgfadoaa.Pi
open Go Go.RowKit Go.Proofs
set_option maxHeartbeats 4000000
set_option pp.maxSteps 2000
set_option pp.deepTerms.threshold 9
def teq (t s : Triple) : Bool := t.right == s.right && (t.owner == s.owner && t.place == s.place)
theorem teq_iff {t s : Triple} : teq t s = true ↔ t = s := by
  obtain ⟨a, b, c⟩ := t
  obtain ⟨a', b', c'⟩ := s
  simp [teq]
/-- Litres of a triple, added. -/
def upsert (t : Triple) (x : Int) : List (Triple × Int) → List (Triple × Int)
  | [] => [(t, IntKind.i64.wrap (0 + x))]
  | s :: l => if teq t s.1 = true then (s.1, IntKind.i64.wrap (s.2 + x)) :: l else s :: upsert t x l
def addG (ro : List Claim) (sign : Int) (l : List (Triple × Int)) (g : Grant) : List (Triple × Int) := match ro.find? (fun c => c.Id == g.Right) with
  | some c => if g.Litres ≤ 0 then l else upsert ⟨c.Id, c.Owner, c.Place⟩ (IntKind.i64.wrap (sign * g.Litres)) l
  | none => l
def esOf : Nat → List (Triple × Int) → List (Nat × D × PV)
  | _, [] => []
  | k, x :: l => (k, .agg x.1.row, .d (.int .i64 x.2)) :: esOf (k + 1) l
/-- Is a triple there? -/
def hasT (t : Triple) : List (Triple × Int) → Bool
  | [] => false
  | s :: l => teq t s.1 || hasT t l
def getT (t : Triple) : List (Triple × Int) → Int
  | [] => 0
  | s :: l => if teq t s.1 = true then s.2 else getT t l
def idxT (t : Triple) : Nat → List (Triple × Int) → Nat
  | k, [] => k
  | k, s :: l => if teq t s.1 = true then k else idxT t (k + 1) l
theorem keq_triple (t s : Triple) : keq (.agg t.row) (.agg s.row) = teq t s := by
  simp [Triple.row, keq, keqs, teq]
theorem mfind_esOf (t : Triple) : ∀ (l : List (Triple × Int)) (k : Nat), mfind (.agg t.row) (esOf k l) = if hasT t l = true then some (idxT t k l, .d (.int .i64 (getT t l))) else none
  | [], k => rfl
  | s :: l, k => by
    simp only [esOf, mfind, keq_triple, hasT, idxT, getT]
    by_cases h : teq t s.1 = true
    · simp [h]
    · simp only [h, Bool.false_eq_true, if_false, Bool.false_or]
      exact mfind_esOf t l (k + 1)
theorem esOf_len : ∀ (l : List (Triple × Int)) (k : Nat), (esOf k l).length = l.length
  | [], k => rfl
  | s :: l, k => by simp [esOf, esOf_len l]
theorem hasT_cons (t : Triple) (s : Triple × Int) (l : List (Triple × Int)) : hasT t (s :: l) = (teq t s.1 || hasT t l) := rfl
/-- What an entry that is looked for, made if need be, and stored to leaves. -/
theorem put_sto (t : Triple) (x : Int) : ∀ (l : List (Triple × Int)) (k : Nat),
    mstamp (mborn (.agg t.row) (esOf k l) (k + l.length) : Nat) (.d (.int .i64 (IntKind.i64.wrap (getT t l + x)))) (mput (.agg t.row) (mval (.agg t.row) (esOf k l) (.d (.int .i64 0))) (k + l.length) (esOf k l)) = esOf k (upsert t x l)
  | [], k => by simp [esOf, mborn, mfind, mput, mval, mstamp, upsert, getT]
  | s :: l, k => by
    have ih := put_sto t x l (k + 1)
    by_cases h : teq t s.1 = true
    · have e := teq_iff.1 h
      subst e
      simp [esOf, mborn, mfind, mput, mval, mstamp, upsert, getT, keq_triple, h]
    · have hb : ∀ (l : List (Triple × Int)) (j : Nat), j ≤ mborn (.agg t.row) (esOf j l) (j + l.length) := by
        intro l
        induction l with
        | nil => intro j; simp [mborn, mfind, esOf]
        | cons y l ih =>
          intro j
          by_cases hy : teq t y.1 = true
          · simp [mborn, mfind, esOf, keq_triple, hy]
          · have := ih (j + 1)
            simp only [mborn, mfind, esOf, keq_triple, hy, Bool.false_eq_true, if_false, List.length_cons] at this ⊢
            rw [show j + (l.length + 1) = j + 1 + l.length by omega]; omega
      have hb := hb l (k + 1)
      have e1 : mborn (.agg t.row) (esOf k (s :: l)) (k + (s :: l).length) = mborn (.agg t.row) (esOf (k + 1) l) (k + 1 + l.length) := by
        simp only [mborn, mfind, esOf, keq_triple, h, Bool.false_eq_true, if_false, List.length_cons]
        rw [show k + (l.length + 1) = k + 1 + l.length by omega]
      have e2 : mval (.agg t.row) (esOf k (s :: l)) (.d (.int .i64 0)) = mval (.agg t.row) (esOf (k + 1) l) (.d (.int .i64 0)) := by
        simp only [mval, mfind, esOf, keq_triple, h, Bool.false_eq_true, if_false]
      rw [e1, e2]
      simp only [esOf, mput, keq_triple, h, Bool.false_eq_true, if_false, mstamp, upsert, getT, List.length_cons]
      have hne : ((k : Int) == ((mborn (.agg t.row) (esOf (k + 1) l) (k + 1 + l.length) : Nat) : Int)) = false := by
        simp only [beq_eq_false_iff_ne, ne_eq]; omega
      simp only [hne, Bool.false_eq_true, if_false]
      rw [show k + (l.length + 1) = k + 1 + l.length by omega, ih]
theorem mhas_esOf (t : Triple) (l : List (Triple × Int)) (k : Nat) : mhas (.agg t.row) (esOf k l) = hasT t l := by
  rw [mhas, mfind_esOf]; cases hasT t l <;> simp
theorem getT_no (t : Triple) : ∀ l : List (Triple × Int), hasT t l = false → getT t l = 0
  | [], _ => rfl
  | s :: l, h => by
    simp only [hasT, Bool.or_eq_false_iff] at h
    simp only [getT, h.1, Bool.false_eq_true, if_false]
    exact getT_no t l h.2
theorem mval_esOf (t : Triple) (l : List (Triple × Int)) (k : Nat) : mval (.agg t.row) (esOf k l) (.d (.int .i64 0)) = .d (.int .i64 (getT t l)) := by
  rw [mval, mfind_esOf]
  cases h : hasT t l
  · simp [getT_no t l h]
  · simp
theorem upsert_len (t : Triple) (x : Int) : ∀ l : List (Triple × Int), (upsert t x l).length = if hasT t l = true then l.length else l.length + 1
  | [] => by simp [upsert, hasT]
  | s :: l => by
    simp only [upsert, hasT]
    by_cases h : teq t s.1 = true
    · simp [h]
    · simp only [h, Bool.false_eq_true, if_false, Bool.false_or, List.length_cons, upsert_len t x l]
      split <;> rfl
theorem upsert_fst (t : Triple) (x : Int) : ∀ l : List (Triple × Int), (upsert t x l).map (·.1) = if hasT t l = true then l.map (·.1) else l.map (·.1) ++ [t]
  | [] => by simp [upsert, hasT]
  | s :: l => by
    simp only [upsert, hasT]
    by_cases h : teq t s.1 = true
    · simp [h]
    · simp only [h, Bool.false_eq_true, if_false, Bool.false_or, List.map_cons, upsert_fst t x l]
      split <;> simp
theorem mclock_esOf (t : Triple) (x : Int) (l : List (Triple × Int)) : mclock (.agg t.row) (esOf 0 l) l.length = (upsert t x l).length := by
  rw [mclock, mhas_esOf, upsert_len]
theorem mkeys_esOf {E : Env} {kt : Nat} (h : ∀ t : Triple, mkey E kt (.agg t.row) = true) : ∀ (l : List (Triple × Int)) (k : Nat), mkeys E kt (esOf k l) = true
  | [], k => rfl
  | s :: l, k => by
    have := mkeys_esOf h l (k + 1)
    simp only [mkeys, esOf, List.all_cons, Bool.and_eq_true] at this ⊢
    exact ⟨h _, this⟩
theorem mlast_put (t : Triple) : ∀ (l : List (Triple × Int)) (k : Nat) (v : PV), mlast (mborn (.agg t.row) (esOf k l) (k + l.length) : Nat) (mput (.agg t.row) v (k + l.length) (esOf k l)) = true
  | [], k, v => by simp [esOf, mborn, mfind, mput, mlast]
  | s :: l, k, v => by
    have ih := mlast_put t l (k + 1) v
    by_cases h : teq t s.1 = true
    · simp [esOf, mborn, mfind, mput, mlast, keq_triple, h]
    · have e1 : mborn (.agg t.row) (esOf k (s :: l)) (k + (s :: l).length) = mborn (.agg t.row) (esOf (k + 1) l) (k + 1 + l.length) := by
        simp only [mborn, mfind, esOf, keq_triple, h, Bool.false_eq_true, if_false, List.length_cons]
        rw [show k + (l.length + 1) = k + 1 + l.length by omega]
      rw [e1]
      simp only [esOf, mput, keq_triple, h, Bool.false_eq_true, if_false, List.length_cons]
      rw [show k + (l.length + 1) = k + 1 + l.length by omega]
      simp only [mlast, List.any_cons, Bool.or_eq_true] at ih ⊢
      exact .inr ih
theorem esOf_inj : ∀ {l l' : List (Triple × Int)} {k : Nat}, esOf k l = esOf k l' → l = l'
  | [], [], k, _ => rfl
  | [], _ :: _, k, h => by simp [esOf] at h
  | _ :: _, [], k, h => by simp [esOf] at h
  | s :: l, s' :: l', k, h => by
    simp only [esOf, List.cons.injEq, Prod.mk.injEq, D.agg.injEq, PV.d.injEq, D.int.injEq, true_and] at h
    obtain ⟨⟨h1, h2⟩, h3⟩ := h
    have := esOf_inj h3
    obtain ⟨⟨a, b, c⟩, n⟩ := s
    obtain ⟨⟨a', b', c'⟩, n'⟩ := s'
    simp only [Triple.row, List.cons.injEq, D.int.injEq, true_and, and_true] at h1
    simp only at h2
    obtain ⟨rfl, rfl, rfl⟩ := h1
    rw [this, h2]
end Go.Proofs.Ytomnjbebgfadoaa.Pi
