/- Soundness of the pure interpreter's pure operations: the machine's operation gives a value that the interpreter's value tells.
   Conditions: none; lemmas. -/
import Derived.Test.YtomnjbebgfadoaaPiC
set_option linter.unusedVariables false
set_option linter.unusedSimpArgs false
namespace Go.Proofs.Ytomnjbebgfadoaa.Pi
open Go Go.RowKit

/-! ### 7. What the table of types says -/
section
variable {E : Env} (hE : EnvOk E)
include hE
omit hE in
theorem Env.ty_of {t : Nat} {k : TK} (h : E.tk t = some k) : ∃ ti, E.ty t = some ti ∧ ti.k = k := by
  unfold Env.tk at h
  obtain ⟨ti, h1, h2⟩ := Option.map_eq_some_iff.1 h
  exact ⟨ti, h1, h2⟩
theorem ty_tk {t : Nat} {ti : TI} (h : E.ty t = some ti) : tkB E.P t ti.k = true := by
  have := hE.ty t ti h
  unfold tyB at this
  rw [Bool.and_eq_true] at this
  exact this.1
theorem ty_info {t : Nat} {ti : TI} (h : E.ty t = some ti) : ∃ i, E.P.info? t = some i ∧ i.size = ti.size ∧ i.bytes = ti.bytes ∧ 0 < ti.size ∧ 0 < ti.bytes := by
  have := hE.ty t ti h
  unfold tyB at this
  rw [Bool.and_eq_true] at this
  have h2 := this.2
  split at h2
  · rename_i i hi
    simp only [Bool.and_eq_true, beq_iff_eq, decide_eq_true_eq] at h2
    exact ⟨i, hi, h2.1.1.1.1.1, h2.1.1.1.1.2, h2.1.1.1.2, h2.1.1.2⟩
  · cases h2
theorem tk_int {t : Nat} {k : IntKind} (h : E.tk t = some (.int k)) : E.P.underlying t = some (.int k) := by
  obtain ⟨ti, h1, h2⟩ := Env.ty_of h
  have := ty_tk hE h1
  rw [h2] at this
  simp only [tkB] at this
  split at this
  · rename_i k' hk; simp at this; rw [hk, this]
  · cases this
theorem tk_bool {t : Nat} (h : E.tk t = some .bool) : E.P.underlying t = some .bool := by
  obtain ⟨ti, h1, h2⟩ := Env.ty_of h
  have := ty_tk hE h1
  rw [h2] at this
  simp only [tkB] at this
  split at this
  · assumption
  · cases this
theorem tk_str {t : Nat} (h : E.tk t = some .str) : E.P.underlying t = some .string := by
  obtain ⟨ti, h1, h2⟩ := Env.ty_of h
  have := ty_tk hE h1
  rw [h2] at this
  simp only [tkB] at this
  split at this
  · assumption
  · cases this
theorem tk_slice {t e : Nat} (h : E.tk t = some (.slice e)) : E.P.underlying t = some (.slice e) := by
  obtain ⟨ti, h1, h2⟩ := Env.ty_of h
  have := ty_tk hE h1
  rw [h2] at this
  simp only [tkB] at this
  split at this
  · rename_i k' hk; simp at this; rw [hk, this]
  · cases this

theorem tk_map {t k e : Nat} (h : E.tk t = some (.map k e)) : E.P.underlying t = some (.map k e) := by
  obtain ⟨ti, h1, h2⟩ := Env.ty_of h
  have := ty_tk hE h1
  rw [h2] at this
  simp only [tkB] at this
  split at this
  · rename_i k' e' hk; simp only [Bool.and_eq_true, beq_iff_eq] at this; rw [hk, this.1, this.2]
  · cases this

/-- The fields of a struct as the table tells them. -/
inductive Fields (P : Program) : List Field → List FI → Prop
  | nil : Fields P [] []
  | cons {f : Field} {x : FI} {fs xs} (ho : f.offset = x.off) (i : TypeInfo) (hi : P.info? f.type = some i) (hs : i.size = x.size) (h0 : 0 < x.size) (ha : isAggB P f.type = some x.agg) (hn : f.name ≠ "_") (hk : skB P f.type = x.sk) (h : Fields P fs xs) : Fields P (f :: fs) (x :: xs)
omit hE in
theorem fields_of {P : Program} : ∀ {fs : List Field} {xs : List FI}, fieldsB P fs xs = true → Fields P fs xs
  | [], [], _ => .nil
  | [], _ :: _, h => by simp [fieldsB] at h
  | _ :: _, [], h => by simp [fieldsB] at h
  | f :: fs, x :: xs, h => by
    simp only [fieldsB, Bool.and_eq_true, beq_iff_eq, decide_eq_true_eq, bne_iff_ne, ne_eq] at h
    obtain ⟨⟨⟨⟨⟨⟨h1, h2⟩, h3⟩, h4⟩, h5⟩, h7⟩, h6⟩ := h
    obtain ⟨i, hi, hs⟩ := Option.map_eq_some_iff.1 h2
    exact .cons h1 i hi hs h3 h4 h5 h7 (fields_of h6)
theorem tk_struct {t : Nat} {xs : List FI} (h : E.tk t = some (.struct xs)) : ∃ fields, E.P.underlying t = some (.struct fields) ∧ Fields E.P fields.toList xs ∧ E.P.eqGuardType E.P.depth t = false ∧ E.P.stoodInHeld t = false := by
  obtain ⟨ti, h1, h2⟩ := Env.ty_of h
  have := ty_tk hE h1
  rw [h2] at this
  simp only [tkB] at this
  split at this
  · rename_i fields hk
    simp only [Bool.and_eq_true, Bool.not_eq_true'] at this
    exact ⟨fields, hk, fields_of this.1.1, this.1.2, this.2⟩
  · cases this
omit hE in
theorem Fields.get {P : Program} {fs : List Field} {xs : List FI} (h : Fields P fs xs) : ∀ (i : Nat) (x : FI), xs[i]? = some x → ∃ f, fs[i]? = some f ∧ f.offset = x.off ∧ (∃ ti, P.info? f.type = some ti ∧ ti.size = x.size) ∧ 0 < x.size ∧ isAggB P f.type = some x.agg := by
  induction h with
  | nil => intro i x h; simp at h
  | cons ho ti hi hs h0 ha hn hk h ih =>
    intro i x hx
    cases i with
    | zero => simp at hx; subst hx; exact ⟨_, by simp, ho, ⟨ti, hi, hs⟩, h0, ha⟩
    | succ i => simpa using ih i x (by simpa using hx)
omit hE in
theorem run_isAggB {P : Program} {t : Nat} {b : Bool} (h : isAggB P t = some b) (w : World) : (Go.isAgg t).run P w = .ok b w := by
  unfold isAggB at h
  unfold Go.isAgg
  split at h
  · rename_i fs hu; simp [run_underlying hu]; simpa using h
  · rename_i n e hu; simp [run_underlying hu]; simpa using h
  · rename_i d hd1 hd2 hu
    simp only [Sem.run_bind, run_underlying hu, Result.andThen_ok]
    cases d <;> simp_all
  · cases h
theorem run_isAgg' {t : Nat} {ti : TI} (h : E.ty t = some ti) (w : World) : (Go.isAgg t).run E.P w = .ok ti.isAgg w := by
  have hk := ty_tk hE h
  refine run_isAggB ?_ w
  unfold isAggB TI.isAgg
  cases hk' : ti.k <;> rw [hk'] at hk <;> simp only [tkB] at hk <;> split at hk <;> simp_all
end

/-! ### 8. Operands -/
section
variable {E : Env} {N base : Nat} {w0 : World} {X : Fr} {S : St} {α : Nat → Value} {a : Act} {w : World}
theorem ofVal_rel (o : Nat → Nat × Option Ob) (α : Nat → Value) (w : World) (ok : Nat → Prop) (v : Value) : (ofVal v).rel o α w ok v := by
  unfold ofVal
  split
  · simp [PV.rel, D.rd]
  · simp [PV.rel, D.rd]
  · split
    · rename_i h; simp [PV.rel, D.rd, h]
    · simp [PV.rel]
  · simp [PV.rel]
  · simp [PV.rel]
theorem ev_rel (h : Rel N base w0 X S α a w) (x : Operand) : (S.ev x).rel S.o α w (okOf X.A S.o α) (a.eval x) := by
  cases x with
  | tmp t => exact h.t t
  | const v => exact ofVal_rel _ _ _ _ v
  | func f => simp only [St.ev, PV.rel, D.rd, Act.eval]; exact ⟨#[], rfl, by simp [rdVals]⟩
  | global g => simp only [St.ev, PV.rel]
theorem strip_rel {o : Nat → Nat × Option Ob} {α : Nat → Value} {w : World} {ok : Nat → Prop} : ∀ {p : PV} {v : Value}, p.rel o α w ok v → stripC p → (strip p).rel o α w ok v
  | .opt b x, v, h, hc => by
    simp only [PV.rel] at h
    simp only [stripC] at hc
    simp only [strip]
    exact strip_rel (h.1 hc.1) hc.2
  | .un, v, h, _ => h
  | .d x, v, h, _ => h
  | .nils, v, h, _ => h
  | .ref .., v, h, _ => h
  | .row .., v, h, _ => h
  | .map .., v, h, _ => h
  | .fn .., v, h, _ => h
  | .agg .., v, h, _ => h
  | .tup .., v, h, _ => h
  | .clip .., v, h, _ => h
theorem sv_rel (h : Rel N base w0 X S α a w) (x : Operand) (hc : S.sc x) : (S.sv x).rel S.o α w (okOf X.A S.o α) (a.eval x) := strip_rel (ev_rel h x) hc

/-! ### 9. The operations -/
theorem run_ibin {op : BinOp} {k k' : IntKind} {x y : Int} {c : Prop} {p : PV} (hk : op = .shl ∨ op = .shr ∨ k = k') (h : ibin op k x y = some (c, p)) (hc : c) (P : Program) (t : Nat) (w : World) :
    ∃ d, p = .d d ∧ ∃ v, (binOp op t (.int k x) (.int k' y)).run P w = .ok v w ∧ ∀ w ok, d.rd w ok v := by
  cases op <;> simp only [ibin, Option.some.injEq, Prod.mk.injEq] at h <;> obtain ⟨rfl, rfl⟩ := h
  case shl =>
    have h' : ¬ y < 0 := by omega
    exact ⟨_, rfl, _, by simp [binOp, Op.shift, h']; rfl, by simp [D.rd]⟩
  case shr =>
    have h' : ¬ y < 0 := by omega
    exact ⟨_, rfl, _, by simp [binOp, Op.shift, h']; rfl, by simp [D.rd]⟩
  all_goals
    obtain rfl : k = k' := by simpa using hk
  case quo => exact ⟨_, rfl, _, by simp [binOp, Op.intDiv, hc]; rfl, by simp [D.rd]⟩
  case rem => exact ⟨_, rfl, _, by simp [binOp, Op.intDiv, hc]; rfl, by simp [D.rd]⟩
  all_goals exact ⟨_, rfl, _, by simp [binOp, Op.intArith, Op.intBits, Op.intCmp]; rfl, by simp [D.rd]⟩

theorem run_sbin {op : BinOp} {x y : ByteArray} {c : Prop} {p : PV} (h : sbin op x y = some (c, p)) (hc : c) (P : Program) (t : Nat) (w : World) :
    ∃ d, p = .d d ∧ ∃ v, (binOp op t (.string x) (.string y)).run P w = .ok v w ∧ ∀ w ok, d.rd w ok v := by
  cases op <;> simp only [sbin, Option.some.injEq, Prod.mk.injEq, reduceCtorEq] at h <;> obtain ⟨rfl, rfl⟩ := h
  case add =>
    have h' : ¬ (((x.size + y.size : Nat) : Int) > IntKind.i64.max) := by
      have : IntKind.i64.max = 9223372036854775807 := by decide
      rw [this]; omega
    refine ⟨_, rfl, .string (x ++ y), ?_, by simp [D.rd, maxLen]; omega⟩
    simp only [binOp, Op.stringOp]
    rw [if_neg h']
    rfl
  all_goals exact ⟨_, rfl, _, by simp [binOp, Op.stringOp]; rfl, by simp [D.rd]⟩
end
end Go.Proofs.Ytomnjbebgfadoaa.Pi
