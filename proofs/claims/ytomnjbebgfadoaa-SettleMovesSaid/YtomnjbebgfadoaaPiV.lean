/- Rules for calls and for operations on objects.
   Conditions: none; definitions and lemmas. -/
import Derived.Test.YtomnjbebgfadoaaPiU
set_option linter.unusedVariables false
set_option linter.unusedSimpArgs false
namespace Go.Proofs.Ytomnjbebgfadoaa.Pi
open Go Go.RowKit

section
variable {E : Env} {ops : Array Oper} {S : St} {K : St → Prop} {d : Option Nat} {dd j ty : Nat} {pos : String} {af : Array Edge} {want : Bool}

/-- An operation on objects, told. -/
def eK (d : Option Nat) (S : St) (K : St → Prop) : EF → Prop
  | some r => r.1 ∧ K (S.after d r.2.1 r.2.2)
  | none => False
theorem eK_some {c : Prop} {p : PV} {o' : Objs} : eK d S K (some (c, p, o')) = (c ∧ K (S.after d p o')) := rfl
def emap (sc : Prop) : EF → EF
  | some r => some (sc ∧ r.1, r.2)
  | none => none
theorem emap_some {sc c : Prop} {r : PV × Objs} : emap sc (some (c, r)) = some (sc ∧ c, r) := rfl
theorem emap_eq (sc : Prop) (r : EF) : (r.map fun r => (sc ∧ r.1, r.2)) = emap sc r := by cases r <;> rfl
theorem run_eff {op : Op} (hk : kindOf E ⟨d, op, ty, pos, af, none⟩ = .eff) : runOp E ops ⟨d, op, ty, pos, af, none⟩ S K = eK d S K (effOp E S d op) := by
  unfold runOp rep wantedP rep1
  simp only [hk]
  cases h : effOp E S d op with
  | none => simp [runOne, eK]
  | some r => simp [runOne, eK]
theorem op_alloc {t : Nat} : runOp E ops ⟨some dd, .alloc t, ty, pos, af, none⟩ S K = eK (some dd) S K (allocE E S (E.key dd) t) := run_eff rfl
theorem op_box {t : Nat} {x : Operand} : runOp E ops ⟨some dd, .box t x, ty, pos, af, none⟩ S K = eK (some dd) S K (emap (S.sc x) (boxE E S (E.key dd) t (S.sv x))) := by
  rw [run_eff rfl]; exact congrArg _ (emap_eq _ _)
theorem op_store {t : Nat} {a x : Operand} : runOp E ops ⟨d, .store t a x, ty, pos, af, none⟩ S K = eK d S K (emap (S.sc a ∧ S.sc x) (storeE E S t (S.sv a) (S.sv x))) := by
  rw [run_eff rfl]; exact congrArg _ ((by cases d <;> rfl : effOp E S d (.store t a x) = _).trans (emap_eq _ _))
theorem op_make {t : Nat} {l c : Operand} : runOp E ops ⟨some dd, .makeSlice t l c, ty, pos, af, none⟩ S K = eK (some dd) S K (emap (S.sc l ∧ S.sc c) (makeE E S (E.key dd) t (E.own dd) (S.sv l) (S.sv c))) := by
  rw [run_eff rfl]; exact congrArg _ (emap_eq _ _)
theorem op_makeMap {t : Nat} : runOp E ops ⟨some dd, .makeMap t none, ty, pos, af, none⟩ S K = eK (some dd) S K (makeMapE E S (E.key dd) t) := run_eff rfl
theorem op_insert {t : Nat} {m k x : Operand} : runOp E ops ⟨d, .insert t m k x, ty, pos, af, none⟩ S K = eK d S K (emap ((S.sc m ∧ S.sc k) ∧ S.sc x) (mapUpdE E S t (S.sv m) (S.sv k) (S.sv x))) := by
  rw [run_eff rfl]; exact congrArg _ ((by cases d <;> rfl : effOp E S d (.insert t m k x) = _).trans (emap_eq _ _))
theorem op_mapUpdate {t : Nat} {m k x : Operand} : runOp E ops ⟨d, .mapUpdate t m k x, ty, pos, af, none⟩ S K = eK d S K (emap ((S.sc m ∧ S.sc k) ∧ S.sc x) (mapUpdE E S t (S.sv m) (S.sv k) (S.sv x))) := by
  rw [run_eff rfl]; exact congrArg _ ((by cases d <;> rfl : effOp E S d (.mapUpdate t m k x) = _).trans (emap_eq _ _))
theorem op_mapEntry {t : Nat} {m k : Operand} : runOp E ops ⟨some dd, .mapEntry t m k, ty, pos, af, none⟩ S K = eK (some dd) S K (emap (S.sc m ∧ S.sc k) (mapEntE E S t (S.sv m) (S.sv k))) := by
  rw [run_eff rfl]; exact congrArg _ (emap_eq _ _)
theorem op_entryStore {t : Nat} {m k x : Operand} : runOp E ops ⟨d, .entryStore t m k x, ty, pos, af, none⟩ S K = eK d S K (emap ((S.sc m ∧ S.sc k) ∧ S.sc x) (mapStoE S (S.sv m) (S.sv k) (S.sv x))) := by
  rw [run_eff rfl]; exact congrArg _ ((by cases d <;> rfl : effOp E S d (.entryStore t m k x) = _).trans (emap_eq _ _))
theorem op_app {s x : Operand} {t : Nat} : runOp E ops ⟨some dd, .call ⟨.builtin .append, #[s, x], #[t, t]⟩, ty, pos, af, none⟩ S K = eK (some dd) S K (emap (S.sc s ∧ S.sc x) (appE E S (E.key dd) t (S.sv s) (S.sv x))) := by
  rw [run_eff rfl]
  refine congrArg _ ((?_ : effOp E S (some dd) _ = _).trans (emap_eq _ _))
  simp [effOp, callE]
/-- A slice literal: of the call's own, or read only. -/
def lK (E : Env) (S : St) (K : St → Prop) (dd t n : Nat) (c : Prop) (ps : List (Nat × PV)) : Bool → Prop
  | true => eK (some dd) S K (emap c (litE E S (E.key dd) t n ps))
  | false => pK (some dd) S K none (pmap c (litV E t n ps))
theorem lK_true {t n : Nat} {c : Prop} {ps : List (Nat × PV)} : lK E S K dd t n c ps true = eK (some dd) S K (emap c (litE E S (E.key dd) t n ps)) := rfl
theorem lK_false {t n : Nat} {c : Prop} {ps : List (Nat × PV)} : lK E S K dd t n c ps false = pK (some dd) S K none (pmap c (litV E t n ps)) := rfl
theorem op_lit {t n : Nat} {ps : Array (Nat × Operand)} : runOp E ops ⟨some dd, .buildSlice t n ps, ty, pos, af, none⟩ S K = lK E S K dd t n (argsC S (ps.toList.map (·.2))) (ps.toList.map fun p => (p.1, S.sv p.2)) (E.own dd) := by
  cases ho : E.own dd with
  | true =>
    rw [run_eff (by simp [kindOf, ho])]
    exact congrArg _ (emap_eq _ _)
  | false =>
    unfold runOp rep wantedP rep1
    have hk : kindOf E ⟨some dd, .buildSlice t n ps, ty, pos, af, none⟩ = .lit := by simp [kindOf, ho]
    simp only [hk]
    exact (runOne_pure rfl).trans (congrArg _ (pmap_eq _ _))

/-- A call, told. -/
def conK (E : Env) (d : Option Nat) (S : St) (K : St → Prop) (ci : CI) (con : Con) : Bool → Option Bool → Prop
  | true, none => (ci.c ∧ con.pre ci.ds) ∧ ∀ rs, con.post ci.ds rs → K (S.after d (packP (rs.map RV.flatP)) S.o)
  | true, some g => (g = true → ci.c ∧ con.pre ci.ds) ∧ ∀ rs, ((g = true ∨ ∃ rs', con.post ci.ds rs') → con.post ci.ds rs) → K (S.after d (.opt g (packP (rs.map RV.flatP))) S.o)
  | false, none => match d with
    | some dd => (ci.c ∧ con.pre ci.ds) ∧ ∀ rs, con.post ci.ds rs → K ⟨upd S.t dd (packP (retP (dropObs S.o ci.ks) (E.key dd) 0 rs)), retO (dropObs S.o ci.ks) (E.key dd) 0 rs⟩
    | none => (ci.c ∧ con.pre ci.ds) ∧ ∀ rs, con.post ci.ds rs → K ⟨S.t, dropObs S.o ci.ks⟩
  | false, some g => match d with
    | some dd => (g = true ∧ ci.c ∧ con.pre ci.ds) ∧ ∀ rs, con.post ci.ds rs → K ⟨upd S.t dd (packP (retP (dropObs S.o ci.ks) (E.key dd) 0 rs)), retO (dropObs S.o ci.ks) (E.key dd) 0 rs⟩
    | none => (g = true ∧ ci.c ∧ con.pre ci.ds) ∧ ∀ rs, con.post ci.ds rs → K ⟨S.t, dropObs S.o ci.ks⟩
def cK2 (E : Env) (d : Option Nat) (S : St) (K : St → Prop) (g : Option Bool) (ci : CI) : Option Con → Prop
  | some con => conK E d S K ci con con.flat g
  | none => False
def cK (E : Env) (d : Option Nat) (S : St) (K : St → Prop) (g : Option Bool) : Option CI → Prop
  | some ci => cK2 E d S K g ci (E.con ci.f)
  | none => False
def iK2 (E : Env) (d : Option Nat) (S : St) (K : St → Prop) (g : Option Bool) (c : Call) (ps : List PV) (sc : Prop) : Option ICon → Prop
  | some con => (g.getD true = true ∧ sc ∧ con.pre S.o ps) ∧ ∀ p o', con.post S.o ps o' p → K (S.after d p o')
  | none => cK E d S K g (callInfo E S c)
def iK (E : Env) (d : Option Nat) (S : St) (K : St → Prop) (g : Option Bool) (c : Call) : Option (Nat × List PV × Prop) → Prop
  | some ic => iK2 E d S K g c ic.2.1 ic.2.2 (E.icon ic.1)
  | none => False
theorem iK_some {g : Option Bool} {c : Call} {f : Nat} {ps : List PV} {sc : Prop} : iK E d S K g c (some (f, ps, sc)) = iK2 E d S K g c ps sc (E.icon f) := rfl
theorem iK2_none {g : Option Bool} {c : Call} {ps : List PV} {sc : Prop} : iK2 E d S K g c ps sc none = cK E d S K g (callInfo E S c) := rfl
theorem iK2_some {g : Option Bool} {c : Call} {ps : List PV} {sc : Prop} {con : ICon} : iK2 E d S K g c ps sc (some con) = ((g.getD true = true ∧ sc ∧ con.pre S.o ps) ∧ ∀ p o', con.post S.o ps o' p → K (S.after d p o')) := rfl
theorem cK_some {g : Option Bool} {f : Nat} {ds : List D} {ks : List Nat} {c : Prop} : cK E d S K g (some ⟨f, ds, ks, c⟩) = cK2 E d S K g ⟨f, ds, ks, c⟩ (E.con f) := rfl
theorem cK2_some {g : Option Bool} {ci : CI} {con : Con} : cK2 E d S K g ci (some con) = conK E d S K ci con con.flat g := rfl
theorem conK_flat {ci : CI} {con : Con} : conK E d S K ci con true none = ((ci.c ∧ con.pre ci.ds) ∧ ∀ rs, con.post ci.ds rs → K (S.after d (packP (rs.map RV.flatP)) S.o)) := rfl
theorem conK_gflat {ci : CI} {con : Con} {g : Bool} : conK E d S K ci con true (some g) = ((g = true → ci.c ∧ con.pre ci.ds) ∧ ∀ rs, ((g = true ∨ ∃ rs', con.post ci.ds rs') → con.post ci.ds rs) → K (S.after d (.opt g (packP (rs.map RV.flatP))) S.o)) := rfl
theorem conK_own {ci : CI} {con : Con} : conK E (some dd) S K ci con false none = ((ci.c ∧ con.pre ci.ds) ∧ ∀ rs, con.post ci.ds rs → K ⟨upd S.t dd (packP (retP (dropObs S.o ci.ks) (E.key dd) 0 rs)), retO (dropObs S.o ci.ks) (E.key dd) 0 rs⟩) := rfl
theorem conK_void {ci : CI} {con : Con} : conK E none S K ci con false none = ((ci.c ∧ con.pre ci.ds) ∧ ∀ rs, con.post ci.ds rs → K ⟨S.t, dropObs S.o ci.ks⟩) := rfl
def cgK (E : Env) (d : Option Nat) (S : St) (K : St → Prop) (c : Call) : Option Bool → Prop
  | some g => iK E d S K (some g) c (icallInfo S c)
  | none => False
theorem cgK_some {c : Call} {g : Bool} : cgK E d S K c (some g) = iK E d S K (some g) c (icallInfo S c) := rfl

theorem run_call {x : Operand} {args : Array Operand} {ts : Array Nat} {o : Oper} (ho : o.op = .call ⟨.value x, args, ts⟩) (hd : o.dst = d) {g : Bool} {gd : Option Bool} (hg : o.guard = none ∧ gd = none ∧ g = true ∨ o.guard ≠ none ∧ gd = some g) :
    runOne (rep1 E S o g) d S K = iK E d S K gd ⟨.value x, args, ts⟩ (icallInfo S ⟨.value x, args, ts⟩) := by
  have hk : kindOf E o = .call := by unfold kindOf; rw [ho]
  unfold rep1
  simp only [hk, ho, callOf, Option.bind_some]
  cases hi : icallInfo S ⟨.value x, args, ts⟩ with
  | none => rfl
  | some ic =>
    simp only [Option.bind_some, iK]
    cases hic : E.icon ic.1 with
    | some con =>
      simp only [runOne, iK2]
      rcases hg with ⟨_, rfl, rfl⟩ | ⟨_, rfl⟩ <;> simp
    | none =>
      simp only [iK2]
      cases hci : callInfo E S ⟨.value x, args, ts⟩ with
      | none => rfl
      | some ci =>
        simp only [Option.bind_some, cK]
        cases hc : E.con ci.f with
        | none => rfl
        | some con =>
          simp only [Option.map_some, cK2]
          unfold callRep
          cases hf : con.flat with
          | true =>
            simp only [if_true, runOne]
            rcases hg with ⟨h1, rfl, rfl⟩ | ⟨h1, rfl⟩
            · simp only [if_true, conK, true_implies, true_or]
              apply propext
              constructor
              · rintro ⟨a, b⟩
                refine ⟨a, fun rs hr => ?_⟩
                have := b _ _ ⟨rs, hr, rfl, rfl⟩
                simpa [gopt, h1] using this
              · rintro ⟨a, b⟩
                refine ⟨a, ?_⟩
                rintro p o' ⟨rs, hr, rfl, rfl⟩
                simpa [gopt, h1] using b rs hr
            · simp only [conK]
              have hgo : ∀ p, gopt o g p = .opt g p := fun p => by
                unfold gopt
                cases hgd : o.guard with
                | none => exact absurd hgd h1
                | some _ => rfl
              apply propext
              constructor
              · rintro ⟨a, b⟩
                refine ⟨a, fun rs hr => ?_⟩
                have := b _ _ ⟨rs, hr, rfl, rfl⟩
                rwa [hgo] at this
              · rintro ⟨a, b⟩
                refine ⟨a, ?_⟩
                rintro p o' ⟨rs, hr, rfl, rfl⟩
                rw [hgo]
                exact b rs hr
          | false =>
            simp only [Bool.false_eq_true, if_false, hd]
            rcases hg with ⟨h1, rfl, rfl⟩ | ⟨h1, rfl⟩
            · cases d with
              | none =>
                simp only [runOne, conK, true_and]
                apply propext
                constructor
                · rintro ⟨a, b⟩; exact ⟨a, fun rs hr => b _ _ ⟨rs, hr, rfl, rfl⟩⟩
                · rintro ⟨a, b⟩; refine ⟨a, ?_⟩; rintro p o' ⟨rs, hr, rfl, rfl⟩; exact b rs hr
              | some dd =>
                simp only [runOne, conK, true_and]
                apply propext
                constructor
                · rintro ⟨a, b⟩; exact ⟨a, fun rs hr => b _ _ ⟨rs, hr, rfl, rfl⟩⟩
                · rintro ⟨a, b⟩; refine ⟨a, ?_⟩; rintro p o' ⟨rs, hr, rfl, rfl⟩; exact b rs hr
            · cases d with
              | none =>
                simp only [runOne, conK]
                apply propext
                constructor
                · rintro ⟨a, b⟩; exact ⟨a, fun rs hr => b _ _ ⟨rs, hr, rfl, rfl⟩⟩
                · rintro ⟨a, b⟩; refine ⟨a, ?_⟩; rintro p o' ⟨rs, hr, rfl, rfl⟩; exact b rs hr
              | some dd =>
                simp only [runOne, conK]
                apply propext
                constructor
                · rintro ⟨a, b⟩; exact ⟨a, fun rs hr => b _ _ ⟨rs, hr, rfl, rfl⟩⟩
                · rintro ⟨a, b⟩; refine ⟨a, ?_⟩; rintro p o' ⟨rs, hr, rfl, rfl⟩; exact b rs hr
theorem op_call {x : Operand} {args : Array Operand} {ts : Array Nat} : runOp E ops ⟨d, .call ⟨.value x, args, ts⟩, ty, pos, af, none⟩ S K = iK E d S K none ⟨.value x, args, ts⟩ (icallInfo S ⟨.value x, args, ts⟩) := by
  unfold runOp rep wantedP
  simp only [Option.bind_some]
  exact run_call rfl rfl (.inl ⟨rfl, rfl, rfl⟩)
theorem op_gcall {x : Operand} {args : Array Operand} {ts : Array Nat} : runOp E ops ⟨d, .call ⟨.value x, args, ts⟩, ty, pos, af, some (j, want)⟩ S K = cgK E d S K ⟨.value x, args, ts⟩ (gK ops S j want) := by
  unfold runOp rep wantedP gK cgK
  simp only
  cases h1 : (ops[j]?).bind (·.dst) with
  | none => rfl
  | some d' =>
    simp only
    cases h2 : gB (S.t d') want with
    | none => rfl
    | some g =>
      simp only [Option.bind_some]
      exact run_call rfl rfl (.inr ⟨by simp, rfl⟩)
theorem icallInfo_func {f : Nat} {args : Array Operand} {ts : Array Nat} : icallInfo S ⟨.value (.func f), args, ts⟩ = some (f, args.toList.map S.sv ++ [], argsC S args.toList ∧ True) := rfl
def ciK (f : Nat) (ks : List Nat) (c : Prop) : Option (List D) → Option CI
  | some ds => some ⟨f, ds, ks, c⟩
  | none => none
theorem ciK_some {f : Nat} {ks : List Nat} {c : Prop} {ds : List D} : ciK f ks c (some ds) = some ⟨f, ds, ks, c⟩ := rfl
theorem callInfo_func {f : Nat} {args : Array Operand} {ts : Array Nat} : callInfo E S ⟨.value (.func f), args, ts⟩ = ciK f (args.toList.flatMap fun x => keysV S (S.sv x)) (argsC S args.toList) (snapVs E S args.toList ts.toList) := by
  simp only [callInfo, St.sv, St.ev, strip, St.sc, stripC]
  cases h : snapVs E S args.toList ts.toList with
  | none => simp [h, ciK]
  | some ds => simp [h, ciK]
def snapK (E : Env) (S : St) (xs : List Operand) (ts : List Nat) : Option D → Option (List D)
  | some d => (snapVs E S xs ts).map (d :: ·)
  | none => none
theorem snapVs_nil : snapVs E S [] [] = some [] := rfl
theorem snapVs_cons {x : Operand} {xs : List Operand} {t : Nat} {ts : List Nat} : snapVs E S (x :: xs) (t :: ts) = (snapV E S t (S.sv x)).bind fun d => (snapVs E S xs ts).map (d :: ·) := rfl
end
/-! ### 25. Named truth values: so that conditions don't grow -/
def Named (b e : Bool) : Prop := b = e
section
variable {E : Env} {ops : Array Oper} {S : St} {K : St → Prop} {d : Option Nat} {dd j ty : Nat} {pos : String} {af : Array Edge} {want : Bool}
def pN (d : Option Nat) (S : St) (K : St → Prop) (g : Option Bool) (r : PR) : Prop := pK d S K g r
theorem pN_bool {c : Prop} {e : Bool} : pN d S K none (some (c, .d (.bool e))) = (c ∧ ∀ b, Named b e → K (S.after d (.d (.bool b)) S.o)) := by
  apply propext; constructor
  · rintro ⟨h1, h2⟩; exact ⟨h1, fun b hb => by unfold Named at hb; subst hb; exact h2⟩
  · rintro ⟨h1, h2⟩; exact ⟨h1, h2 e rfl⟩
theorem pN_int {c : Prop} {k : IntKind} {n : Int} : pN d S K none (some (c, .d (.int k n))) = (c ∧ K (S.after d (.d (.int k n)) S.o)) := rfl
theorem pN_str {c : Prop} {n : ByteArray} : pN d S K none (some (c, .d (.str n))) = (c ∧ K (S.after d (.d (.str n)) S.o)) := rfl
theorem pN_gbool {g : Bool} {c : Prop} {e : Bool} : pN d S K (some g) (some (c, .d (.bool e))) = ((g = true → c) ∧ ∀ b, Named b e → K (S.after d (.opt g (.d (.bool b))) S.o)) := by
  apply propext; constructor
  · rintro ⟨h1, h2⟩; exact ⟨h1, fun b hb => by unfold Named at hb; subst hb; exact h2⟩
  · rintro ⟨h1, h2⟩; exact ⟨h1, h2 e rfl⟩
theorem pN_gint {g : Bool} {c : Prop} {k : IntKind} {n : Int} : pN d S K (some g) (some (c, .d (.int k n))) = ((g = true → c) ∧ K (S.after d (.opt g (.d (.int k n))) S.o)) := rfl
theorem pN_gstr {g : Bool} {c : Prop} {n : ByteArray} : pN d S K (some g) (some (c, .d (.str n))) = ((g = true → c) ∧ K (S.after d (.opt g (.d (.str n))) S.o)) := rfl
def gpN (d : Option Nat) (S : St) (K : St → Prop) (r : PR) (g : Option Bool) : Prop := gpK d S K r g
theorem gpN_some {g : Bool} {r : PR} : gpN d S K r (some g) = pN d S K (some g) r := rfl
theorem on_bin {op : BinOp} {t t' : Nat} {x y : Operand} : runOp E ops ⟨d, .binOp op t x y t', ty, pos, af, none⟩ S K = pN d S K none (pmap (S.sc x ∧ S.sc y) (binV E op t (S.sv x) (S.sv y))) := op_bin
theorem on_gbin {op : BinOp} {t t' : Nat} {x y : Operand} : runOp E ops ⟨d, .binOp op t x y t', ty, pos, af, some (j, want)⟩ S K = gpN d S K (pmap (S.sc x ∧ S.sc y) (binV E op t (S.sv x) (S.sv y))) (gK ops S j want) := op_gbin
theorem on_pick {c a b : Operand} : runOp E ops ⟨d, .pick c a b, ty, pos, af, none⟩ S K = pN d S K none (pmap (S.sc c) (pickV (S.sv c) (S.sv a) (S.sv b) (S.sc a) (S.sc b))) := op_pick
theorem on_gpick {c a b : Operand} : runOp E ops ⟨d, .pick c a b, ty, pos, af, some (j, want)⟩ S K = gpN d S K (pmap (S.sc c) (pickV (S.sv c) (S.sv a) (S.sv b) (S.sc a) (S.sc b))) (gK ops S j want) := op_gpick
end
end Go.Proofs.Ytomnjbebgfadoaa.Pi
