/- Soundness of the pure interpreter's pure operations, continued: comparisons of structs, loads, addresses, structs that are built.
   Conditions: none; lemmas. -/
import Derived.Test.YtomnjbebgfadoaaPiD
import Derived.Laws.StructEq
set_option linter.unusedVariables false
set_option linter.unusedSimpArgs false
namespace Go.Proofs.Ytomnjbebgfadoaa.Pi
open Go Go.RowKit

section
variable {P : Program} {w : World}
theorem skB_int {t : Nat} (h : skB P t = 0) : ∃ k, P.underlying t = some (.int k) := by
  unfold skB at h; split at h <;> first | exact ⟨_, by assumption⟩ | (simp at h)
theorem skB_bool {t : Nat} (h : skB P t = 1) : P.underlying t = some .bool := by
  unfold skB at h; split at h <;> first | assumption | (simp at h)
theorem skB_str {t : Nat} (h : skB P t = 2) : P.underlying t = some .string := by
  unfold skB at h; split at h <;> first | assumption | (simp at h)
theorem run_deq {t : Nat} {x y : D} {b : Bool} {ok : Nat → Prop} (hk : skB P t = x.sk) (hd : deq x y = some b) {u v : Value} (hu : x.rd w ok u) (hv : y.rd w ok v) (n : Nat) : (Op.equalIn (n + 1) t u v).run P w = .ok b w := by
  cases x <;> cases y <;> simp only [deq, reduceCtorEq] at hd
  case int.int k a k' a' =>
    split at hd
    · rename_i e; subst e; simp only [Option.some.injEq] at hd; subst hd
      simp only [D.rd] at hu hv; subst hu; subst hv
      obtain ⟨q, hq⟩ := skB_int hk
      simp [Op.equalIn, run_underlying hq]
    · cases hd
  case bool.bool =>
    simp only [Option.some.injEq] at hd; subst hd
    simp only [D.rd] at hu hv; subst hu; subst hv
    simp [Op.equalIn, run_underlying (skB_bool hk)]
  case str.str =>
    simp only [Option.some.injEq] at hd; subst hd
    simp only [D.rd] at hu hv; obtain ⟨rfl, _⟩ := hu; obtain ⟨rfl, _⟩ := hv
    simp [Op.equalIn, run_underlying (skB_str hk)]

theorem run_equal_bool {t : Nat} (ht : P.underlying t = some .bool) (b b' : Bool) : (Op.equal t (.bool b) (.bool b')).run P w = .ok (b == b') w := by
  have h : ∀ n, (Op.equalIn (n + 1) t (.bool b) (.bool b')).run P w = .ok (b == b') w := fun n => by simp [Op.equalIn, run_underlying ht]
  exact h 9999

theorem run_eqFields {ok : Nat → Prop} (n : Nat) : ∀ {fields : List Field} {fs : List FI} (hf : Fields P fields fs) (o : Nat) (xs ys : List D) (b : Bool) (us vs : Array Value), oneCells fs o xs = true → deqs xs ys = some b →
    (∀ i d, xs[i]? = some d → ∃ v, us[o + i]? = some v ∧ d.rd w ok v) → (∀ i d, ys[i]? = some d → ∃ v, vs[o + i]? = some v ∧ d.rd w ok v) →
    (Op.eqFields (n + 1) us vs fields).run P w = .ok b w := by
  intro fields fs hf
  induction hf with
  | nil =>
    intro o xs ys b us vs h1 h2 hu hv
    cases xs with
    | nil => cases ys <;> simp [deqs] at h2; subst h2; simp [Op.eqFields]
    | cons x xs => simp [oneCells] at h1
  | cons ho ti hi hs h0 ha hn hk h ih =>
    rename_i f x fields fs
    intro o xs ys b us vs h1 h2 hu hv
    cases xs with
    | nil => simp [oneCells] at h1
    | cons d xs =>
      cases ys with
      | nil => simp [deqs] at h2
      | cons e ys =>
        simp only [oneCells, Bool.and_eq_true, beq_iff_eq, Bool.not_eq_true'] at h1
        obtain ⟨⟨⟨⟨e1, e2⟩, e3⟩, e4⟩, e5⟩ := h1
        simp only [deqs, Option.bind_eq_some_iff, Option.map_eq_some_iff] at h2
        obtain ⟨p, hp, q, hq, rfl⟩ := h2
        obtain ⟨u, hu0, hu1⟩ := hu 0 d (by simp)
        obtain ⟨v, hv0, hv1⟩ := hv 0 e (by simp)
        have hag : (Go.isAgg f.type).run P w = .ok false w := run_isAggB (by rw [ha, e3]) w
        rw [Nat.add_zero, ← e1, ← ho] at hu0 hv0
        have pu : (part f.type us f.offset).run P w = .ok u w := by unfold part; simp [hag, hu0]
        have pv : (part f.type vs f.offset).run P w = .ok v w := by unfold part; simp [hag, hv0]
        have he := run_deq (P := P) (w := w) (by rw [hk, e4]) hp hu1 hv1 n
        have hr := ih (o + 1) xs ys q us vs e5 hq (fun i d hd => by have := hu (i + 1) d (by simpa using hd); rwa [show o + (i + 1) = o + 1 + i by omega] at this)
          (fun i d hd => by have := hv (i + 1) d (by simpa using hd); rwa [show o + (i + 1) = o + 1 + i by omega] at this)
        rw [Op.eqFields]
        simp only [if_pos hn, Sem.run_bind, pu, pv, he, Result.andThen_ok]
        cases p
        · simp
        · simpa using hr
end

section
variable {E : Env} (hE : EnvOk E) {N base : Nat} {w0 : World} {X : Fr} {S : St} {α : Nat → Value} {a : Act} {w : World}
include hE
theorem run_binV {op : BinOp} {t : Nat} {x y : Operand} {c : Prop} {p : PV} {px py : PV} (h : binV E op t px py = some (c, p)) (hc : c) {ok : Nat → Prop} {o : Nat → Nat × Option Ob} {u v : Value} (hu : px.rel o α w ok u) (hv : py.rel o α w ok v) :
    ∃ r, (do eqGuard op t x y u v; binOp op t u v : Sem Value).run E.P w = .ok r w ∧ p.rel o α w ok r := by
  unfold binV at h
  split at h
  · rename_i k a k' b
    split at h
    · rename_i hk
      simp only [PV.rel, D.rd] at hu hv
      subst hu; subst hv
      obtain ⟨d, rfl, r, hr, hd⟩ := run_ibin hk h hc E.P t w
      refine ⟨r, ?_, by simp only [PV.rel]; exact hd _ _⟩
      have hg : (eqGuard op t x y (.int k a) (.int k' b)).run E.P w = .ok () w := by unfold eqGuard; split <;> simp
      simp only [Sem.run_bind, hg, Result.andThen_ok, hr]
    · cases h
  · rename_i s s'
    simp only [PV.rel, D.rd] at hu hv
    obtain ⟨rfl, _⟩ := hu; obtain ⟨rfl, _⟩ := hv
    obtain ⟨d, rfl, r, hr, hd⟩ := run_sbin h hc E.P t w
    refine ⟨r, ?_, by simp only [PV.rel]; exact hd _ _⟩
    have hg : (eqGuard op t x y (.string s) (.string s')).run E.P w = .ok () w := by unfold eqGuard; split <;> simp
    simp only [Sem.run_bind, hg, Result.andThen_ok, hr]
  · rename_i b b'
    simp only [PV.rel, D.rd] at hu hv
    subst hu; subst hv
    have hg : (eqGuard op t x y (.bool b) (.bool b')).run E.P w = .ok () w := by unfold eqGuard; split <;> simp
    split at h
    · rename_i ht
      simp only [Option.some.injEq, Prod.mk.injEq] at h
      obtain ⟨rfl, rfl⟩ := h
      exact ⟨.bool (b == b'), by simp [hg, binOp, run_equal_bool (tk_bool hE ht)], by simp [PV.rel, D.rd]⟩
    · rename_i ht
      simp only [Option.some.injEq, Prod.mk.injEq] at h
      obtain ⟨rfl, rfl⟩ := h
      exact ⟨.bool !(b == b'), by simp [hg, binOp, run_equal_bool (tk_bool hE ht)], by simp [PV.rel, D.rd]⟩
    · cases h
  · rename_i xs ys
    split at h
    · rename_i fs ht
      split at h
      · rename_i h1
        obtain ⟨fields, hu', hf, hg1, hg2⟩ := tk_struct hE ht
        simp only [PV.rel, D.rd] at hu hv
        obtain ⟨us, rfl, _, hus⟩ := hu
        obtain ⟨vs, rfl, _, hvs⟩ := hv
        have hg : (eqGuard op t x y (.agg us) (.agg vs)).run E.P w = .ok () w := by
          unfold eqGuard
          cases op <;> simp [hg1]
        have key : ∀ b, deqs xs ys = some b → (Op.equal t (.agg us) (.agg vs)).run E.P w = .ok b w := by
          intro b hb
          have hfo : E.P.fieldsOf t = fields := by simp [Program.fieldsOf, hu']
          have := run_eqFields (P := E.P) (w := w) 9998 hf 0 xs ys b us vs h1 hb (fun i d hd => by simpa using rdVals_get hus i d hd) (fun i d hd => by simpa using rdVals_get hvs i d hd)
          unfold Op.equal Op.maxDepth
          rw [run_equalIn_struct (P := E.P) w 9999 t us vs (by rw [hfo]; exact hu') hg2, hfo]
          exact this
        split at h
        · rename_i b hb
          simp only [Option.some.injEq, Prod.mk.injEq] at h
          obtain ⟨rfl, rfl⟩ := h
          exact ⟨.bool b, by simp [hg, binOp, key b hb], by simp [PV.rel, D.rd]⟩
        · rename_i b hb
          simp only [Option.some.injEq, Prod.mk.injEq] at h
          obtain ⟨rfl, rfl⟩ := h
          exact ⟨.bool !b, by simp [hg, binOp, key b hb], by simp [PV.rel, D.rd]⟩
        · cases h
      · cases h
    · cases h
  · cases h
end
end Go.Proofs.Ytomnjbebgfadoaa.Pi
