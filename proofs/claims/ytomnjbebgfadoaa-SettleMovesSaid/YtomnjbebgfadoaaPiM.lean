/- Steps of the pure interpreter: what an operation asks, what may come back, and what it leaves; regions; code.
   Conditions: none; definitions. -/
import Derived.Test.YtomnjbebgfadoaaPiL
set_option linter.unusedVariables false
set_option linter.unusedSimpArgs false
namespace Go.Proofs.Ytomnjbebgfadoaa.Pi
open Go Go.RowKit

/-! ### 14. Steps -/
/-- Is a guarded operation carried out? -/
def gB : PV → Bool → Option Bool
  | .d (.bool b), want => some (b == want)
  | .opt g x, want => (gB x want).map fun r => g && r
  | _, _ => none
def wantedP (ops : Array Oper) (S : St) (o : Oper) : Option Bool := match o.guard with
  | none => some true
  | some (j, want) => match (ops[j]?).bind (·.dst) with
    | some d => gB (S.t d) want
    | none => none
def gopt (o : Oper) (g : Bool) (p : PV) : PV := match o.guard with
  | none => p
  | some _ => .opt g p

/-- What a step asks, and which value and objects it may leave. -/
structure SR where
  vc : Prop
  post : PV → Objs → Prop

inductive Kind where
  | pure | eff | lit | call | len
def kindOf (E : Env) (o : Oper) : Kind := match o.op with
  | .alloc _ | .box .. | .store .. | .makeSlice .. | .makeMap .. | .mapUpdate .. | .insert .. | .mapEntry .. | .entryStore .. => .eff
  | .buildSlice .. => match o.dst with
    | some d => if E.own d then .eff else .lit
    | none => .lit
  | .call c => match c.callee with
    | .builtin .append => .eff
    | .builtin .len => match o.dst with
      | some d => if E.fact d then .len else .pure
      | none => .pure
    | .builtin _ => .pure
    | .value _ => .call
    | .invoke .. => .pure
  | _ => .pure

/-- What a call is handed. -/
structure CI where
  f : Nat
  ds : List D
  ks : List Nat
  c : Prop
def snapVs (E : Env) (S : St) : List Operand → List Nat → Option (List D)
  | [], [] => some []
  | x :: xs, t :: ts => (snapV E S t (S.sv x)).bind fun d => (snapVs E S xs ts).map (d :: ·)
  | _, _ => none
def callInfo (E : Env) (S : St) (c : Call) : Option CI := match c.callee with
  | .value x => match S.sv x with
    | .d (.fn f cd) => (snapVs E S c.args.toList c.argTypes.toList).map fun ds => ⟨f, ds ++ cd, c.args.toList.flatMap fun x => keysV S (S.sv x), argsC S c.args.toList ∧ S.sc x⟩
    | .fn f caps => (snapVs E S c.args.toList c.argTypes.toList).bind fun ds => (snapRs E S caps).map fun cd => ⟨f, ds ++ cd, (c.args.toList.flatMap fun x => keysV S (S.sv x)) ++ caps.flatMap (keysR S), argsC S c.args.toList ∧ S.sc x⟩
    | _ => none
  | _ => none

/-- What a call is handed that goes on with the objects. -/
def icallInfo (S : St) (c : Call) : Option (Nat × List PV × Prop) := match c.callee with
  | .value x => match S.sv x with
    | .d (.fn f cd) => some (f, c.args.toList.map S.sv ++ cd.map PV.d, argsC S c.args.toList ∧ S.sc x)
    | .fn f caps => some (f, c.args.toList.map S.sv ++ caps, argsC S c.args.toList ∧ S.sc x)
    | _ => none
  | _ => none

def RV.flatP : RV → PV
  | .d x => .d x
  | .own .. => .un
def packP (ps : List PV) : PV := match ps with
  | [p] => p
  | ps => .tup ps
def retP (o : Objs) (K : Nat) : Nat → List RV → List PV
  | _, [] => []
  | j, .d x :: rs => .d x :: retP o K (j + 1) rs
  | j, .own sz e xs :: rs => .row (K + 1000 * j) ((o (K + 1000 * j)).1 + 1) xs.length :: retP o K (j + 1) rs
def retO (o : Objs) (K : Nat) : Nat → List RV → Objs
  | _, [] => o
  | j, .d x :: rs => retO o K (j + 1) rs
  | j, .own sz e xs :: rs => retO (newOb o (K + 1000 * j) (.row sz e xs)) K (j + 1) rs

def callRep (E : Env) (S : St) (o : Oper) (g : Bool) (ci : CI) (con : Con) : SR :=
  if con.flat then ⟨g = true → ci.c ∧ con.pre ci.ds, fun p o' => ∃ rs, ((g = true ∨ ∃ rs', con.post ci.ds rs') → con.post ci.ds rs) ∧ p = gopt o g (packP (rs.map RV.flatP)) ∧ o' = S.o⟩
  else match o.dst with
    | some d => ⟨g = true ∧ ci.c ∧ con.pre ci.ds, fun p o' => ∃ rs, con.post ci.ds rs ∧ p = packP (retP (dropObs S.o ci.ks) (E.key d) 0 rs) ∧ o' = retO (dropObs S.o ci.ks) (E.key d) 0 rs⟩
    | none => ⟨g = true ∧ ci.c ∧ con.pre ci.ds, fun p o' => ∃ rs, con.post ci.ds rs ∧ p = .un ∧ o' = dropObs S.o ci.ks⟩

def litOp (E : Env) (S : St) (op : Op) : PR := match op with
  | .buildSlice t n parts => (litV E t n (parts.toList.map fun p => (p.1, S.sv p.2))).map fun r => (argsC S (parts.toList.map (·.2)) ∧ r.1, r.2)
  | _ => none
def callOf (op : Op) : Option Call := match op with
  | .call c => some c
  | _ => none

/-- What is known behind a len: no slice is longer than this. -/
def lenF (S : St) (q : PV) : Prop := match q with
  | .d (.str s) => s.size ≤ maxLen
  | .d (.lst _ xs) => xs.length ≤ maxLen
  | .row K ver n => n ≤ maxLen
  | _ => True
def opF (S : St) (op : Op) : Prop := match op with
  | .call c => match c.callee, c.args.toList with
    | .builtin .len, [x] => lenF S (S.sv x)
    | _, _ => True
  | _ => True

def rep1 (E : Env) (S : St) (o : Oper) (g : Bool) : Option SR := match kindOf E o with
  | .pure => (pureOp E S o.op).map fun r => ⟨g = true → r.1, fun p o' => p = gopt o g r.2 ∧ o' = S.o⟩
  | .len => (pureOp E S o.op).map fun r => ⟨g = true → r.1, fun p o' => (p = gopt o g r.2 ∧ o' = S.o) ∧ (g = true → opF S o.op)⟩
  | .lit => (litOp E S o.op).map fun r => ⟨g = true → r.1, fun p o' => p = gopt o g r.2 ∧ o' = S.o⟩
  | .eff => (effOp E S o.dst o.op).map fun r => ⟨g = true ∧ r.1, fun p o' => p = r.2.1 ∧ o' = r.2.2⟩
  | .call => (callOf o.op).bind fun c => (icallInfo S c).bind fun ic => match E.icon ic.1 with
    | some con => some ⟨g = true ∧ ic.2.2 ∧ con.pre S.o ic.2.1, fun p o' => con.post S.o ic.2.1 o' p⟩
    | none => (callInfo E S c).bind fun ci => (E.con ci.f).map fun con => callRep E S o g ci con
def rep (E : Env) (ops : Array Oper) (S : St) (o : Oper) : Option SR := (wantedP ops S o).bind fun g => rep1 E S o g

def dstOk (E : Env) (o : Oper) : Bool := match o.dst with
  | some d => decide (d < E.n)
  | none => true
/-- The state behind a step. -/
def St.after (S : St) (d : Option Nat) (p : PV) (o' : Objs) : St := { (S.put d p) with o := o' }
def popOne (E : Env) (ops : Array Oper) (i : Nat) (S : St) (K : St → Prop) : Prop := match ops[i]? with
  | none => K S
  | some o => ∃ r, rep E ops S o = some r ∧ r.vc ∧ ∀ p o', r.post p o' → K (S.after o.dst p o')
def popsL (E : Env) (ops : Array Oper) : List Nat → St → (St → Prop) → Prop
  | [], S, Q => Q S
  | i :: l, S, Q => popOne E ops i S fun S' => popsL E ops l S' Q

/-! ### 15. Regions of open order: which operations may change places -/
/-- 0: looks at no object; 1: looks at objects; 2: writes them; 3: is never moved. -/
def cls (E : Env) (o : Oper) : Nat := match kindOf E o with
  | .pure => match o.op with
    | .load .. | .call .. | .lookup .. => 1
    | _ => 0
  | .lit => 0
  | .eff => 2
  | .len => 3
  | .call => match o.op with
    | .call c => match c.callee with
      | .value (.func f) => match E.icon f, E.con f with
        | none, some con => if con.flat then 1 else 2
        | _, _ => 2
      | _ => 2
    | _ => 2
/-- A reading of a map's value ahead of the same map's entry. -/
def mapPair (x y : Oper) : Bool := match x.op, y.op with
  | .lookup t _ _ false, .mapEntry t' _ _ => t == t' && x.guard.isNone && y.guard.isNone && y.dst.isSome
  | _, _ => false
def mayswap (E : Env) (ops : Array Oper) (x y : Oper) : Bool := x.apart ops y && (mapPair x y || (decide (cls E x ≤ 1) && decide (cls E y ≤ 1)) || (decide (cls E x = 0) && decide (cls E y ≤ 2)) || (decide (cls E y = 0) && decide (cls E x ≤ 2)))
/-- Does an operation wait for this one, straight or by what it waits for (m: such bits, as a hint)? -/
def waitsFor (m : List Nat) (o : Oper) (i : Nat) : Bool := o.after.toList.any fun e => Region.binds .any e && (e.on == i || (decide (i < e.on) && (m.getD e.on 0).testBit i))
def masks (ops : List Oper) : List Nat := ops.foldl (fun acc o => acc ++ [o.after.toList.foldl (fun s e => if Region.binds .any e then s ||| 2 ^ e.on ||| acc.getD e.on 0 else s) 0]) []
def drawOk (E : Env) (ops : Array Oper) : Bool :=
  Region.noSelect ops && (List.range ops.size).all fun j => match ops[j]? with
    | some oj => (oj.after.toList.all fun e => !Region.binds .any e || decide (e.on < j)) && (List.range j).all fun i => match ops[i]? with
        | some oi => if ((masks ops.toList).getD j 0).testBit i then waitsFor (masks ops.toList) oj i else mayswap E ops oi oj
        | none => false
    | none => false

/-! ### 16. Code -/
/-- What is checked of a function's code beforehand. -/
def codeOk (E : Env) : Code → Bool
  | .region _ ops draw => ops.toList.all (dstOk E) && (!draw || drawOk E ops)
  | .seq x y => codeOk E x && codeOk E y
  | .cond _ x y => codeOk E x && codeOk E y
  | .block _ x => codeOk E x
  | .loop x => codeOk E x
  | _ => true
inductive PEx where
  | normal
  | exit (id : Nat)
  | ret

def ofL (l : List (Nat × PV)) : Nat → PV := fun k => (l.lookup k).getD .un
def ofO (l : List (Nat × Nat × Ob)) : Objs := fun k => match l.lookup k with
  | some (v, x) => (v, some x)
  | none => (0, none)
end Go.Proofs.Ytomnjbebgfadoaa.Pi
