/- The pure interpreter's environment (types, contracts) and its operations.
   Conditions: none; a text of definitions. -/
import Derived.Test.YtomnjbebgfadoaaPiB
set_option linter.unusedVariables false
set_option linter.unusedSimpArgs false
namespace Go.Proofs.Ytomnjbebgfadoaa.Pi
open Go Go.RowKit

/-! ### 3. Types -/
/-- A field: where it begins, how many cells, is it a struct or an array. -/
structure FI where
  off : Nat
  size : Nat
  agg : Bool
  sk : Nat
inductive TK where
  | int (k : IntKind)
  | bool
  | str
  | struct (fs : List FI)
  | slice (e : Nat)
  | map (k e : Nat)
  | other
structure TI where
  k : TK
  size : Nat
  bytes : Nat
  zero : List D

/-- The zero cells as values. -/
def zval : D → Value
  | .int k n => .int k n
  | .bool b => .bool b
  | .str s => .string s
  | .lst _ _ => .slice none 0 0
  | .nil k => nilV k
  | _ => .tuple #[]
def zok : D → Bool
  | .int _ n => n == 0
  | .bool b => !b
  | .str s => s.size == 0
  | .lst _ xs => xs.isEmpty
  | .nil _ => true
  | _ => false
def zpv : D → PV
  | .lst _ _ => .nils
  | x => .d x
def zeqB : Value → D → Bool
  | .int k n, .int k' n' => decide (k = k') && n == n'
  | .bool b, .bool b' => b == b'
  | .string s, .str s' => s.size == 0 && s'.size == 0
  | .slice none 0 0, .lst _ xs => xs.isEmpty
  | .map none, .nil k => k == 0
  | .pointer none, .nil k => k == 1
  | .nilFunc, .nil k => k == 2
  | .nilIface, .nil k => k == 3
  | _, _ => false
def zeqsB : List Value → List D → Bool
  | [], [] => true
  | v :: vs, d :: ds => zeqB v d && zok d && zeqsB vs ds
  | _, _ => false

def isAggB (P : Program) (t : Nat) : Option Bool := match P.underlying t with
  | some (.struct _) | some (.array _ _) => some true
  | some _ => some false
  | none => none
/-- 0: a whole number, 1: a bool, 2: a string, 3: anything else. -/
def skB (P : Program) (t : Nat) : Nat := match P.underlying t with
  | some (.int _) => 0
  | some .bool => 1
  | some .string => 2
  | _ => 3
def fieldsB (P : Program) : List Field → List FI → Bool
  | [], [] => true
  | f :: fs, x :: xs => f.offset == x.off && (P.info? f.type).map (·.size) == some x.size && decide (0 < x.size) && isAggB P f.type == some x.agg && (f.name != "_") && skB P f.type == x.sk && fieldsB P fs xs
  | _, _ => false
def tkB (P : Program) (t : Nat) : TK → Bool
  | .int k => match P.underlying t with | some (.int k') => decide (k' = k) | _ => false
  | .bool => match P.underlying t with | some .bool => true | _ => false
  | .str => match P.underlying t with | some .string => true | _ => false
  | .struct fs => match P.underlying t with | some (.struct fields) => fieldsB P fields.toList fs && !(P.eqGuardType P.depth t) && !(P.stoodInHeld t) | _ => false
  | .slice e => match P.underlying t with | some (.slice e') => e' == e | _ => false
  | .map k e => match P.underlying t with | some (.map k' e') => k' == k && e' == e | _ => false
  | .other => match P.underlying t with | some (.pointer _) | some (.func ..) => true | _ => false
def tyB (P : Program) (t : Nat) (ti : TI) : Bool :=
  tkB P t ti.k && (match P.info? t with
    | some i => i.size == ti.size && i.bytes == ti.bytes && decide (0 < ti.size) && decide (0 < ti.bytes) && decide (ti.bytes ≤ 8 * 32 * ti.size) && (match i.zero with | some z => (match ti.k with | .other | .map .. => true | .struct _ => (match z with | .agg _ => true | _ => false) && (zeqsB z.cells.toList ti.zero && ti.zero.length == ti.size) | _ => (match z with | .agg _ => false | _ => true) && (zeqsB z.cells.toList ti.zero && ti.zero.length == ti.size)) | none => false)
    | none => false)

/-! ### 4. Results of calls; contracts -/
inductive RV where
  | d (x : D)
  | own (sz e : Nat) (xs : List (List D))

mutual
def D.flat : D → Bool
  | .int _ _ | .bool _ | .str _ | .nil _ => true
  | .agg cs => flats cs
  | _ => false
def flats : List D → Bool
  | [] => true
  | c :: cs => c.flat && flats cs
end
def RV.flat : RV → Bool
  | .d x => x.flat
  | .own _ _ _ => false

structure Con where
  pre : List D → Prop
  post : List D → List RV → Prop
  flat : Bool

def RV.rel (w : World) (ok : Nat → Prop) (base : Nat) : RV → Value → Prop
  | .d x, v => x.rd w ok v
  | .own sz e xs, v => ∃ vals, w.ownsRow base e sz v xs.length vals ∧ (∀ r ∈ xs, r.length = sz) ∧ rdVals w ok xs.flatten vals ∧ (∀ u ∈ vals, u.oneCell' = true)
def RV.rels (w : World) (ok : Nat → Prop) (base : Nat) : List RV → List Value → Prop
  | [], vs => vs = []
  | r :: rs, vs => ∃ v vs', vs = v :: vs' ∧ r.rel w ok base v ∧ RV.rels w ok base rs vs'
/-- The blocks of the own rows among results. -/
def ownBlks : List RV → List Value → List Nat
  | .own _ _ _ :: rs, v :: vs => (hblk v).toList ++ ownBlks rs vs
  | .d _ :: rs, _ :: vs => ownBlks rs vs
  | _, _ => []
def packV (us : List Value) : Value := match us with
  | [u] => u
  | us => .tuple us.toArray

/-- A function meets a contract. -/
structure ConOk (P : Program) (f : Nat) (c : Con) : Prop where
  some : ∀ ds, c.pre ds → ∃ r, c.post ds r
  flat : c.flat = true → ∀ ds r, c.post ds r → ∀ x ∈ r, RV.flat x = true
  calls : ∀ ds, c.pre ds → ∀ (w : World) (ok : Nat → Prop) (vs : List Value), rdVals w ok ds vs →
    Calls P f vs.toArray w fun e w' => ∃ rs us, c.post ds rs ∧ e = .returned (packV us) ∧ Below w.heap.size w w' ∧ (ownBlks rs us).Nodup ∧
      RV.rels w' (fun b => (ok b ∨ w.heap.size ≤ b) ∧ b ∉ ownBlks rs us) w.heap.size rs us

/-- A contract of a function that is handed objects of its caller's, and leaves them. -/
structure ICon where
  pre : (Nat → Nat × Option Ob) → List PV → Prop
  post : (Nat → Nat × Option Ob) → List PV → (Nat → Nat × Option Ob) → PV → Prop
structure IConOk (P : Program) (f : Nat) (c : ICon) : Prop where
  some : ∀ o ps, c.pre o ps → ∃ o' p, c.post o ps o' p
  calls : ∀ (base : Nat) (w0 : World) (X : Fr) (o : Nat → Nat × Option Ob) (α : Nat → Value) (w : World) (ps : List PV) (vs : List Value), c.pre o ps → RelO base w0 X o α w → PV.rels o α w (okOf X.A o α) ps vs →
    Calls P f vs.toArray w fun e w' => ∃ o' α' p u, c.post o ps o' p ∧ e = .returned u ∧ RelO base w0 X o' α' w' ∧ p.rel o' α' w' (okOf X.A o' α') u

structure Env where
  P : Program
  n : Nat
  ty : Nat → Option TI
  con : Nat → Option Con
  icon : Nat → Option ICon
  own : Nat → Bool
  key : Nat → Nat
  fact : Nat → Bool

def Env.tk (E : Env) (t : Nat) : Option TK := (E.ty t).map fun ti => ti.k

structure EnvOk (E : Env) : Prop where
  ty : ∀ t ti, E.ty t = some ti → tyB E.P t ti = true
  con : ∀ f c, E.con f = some c → (∃ fn, E.P.funcs[f]? = some fn ∧ fn.body.isNone = false ∧ (fn.name == "runtime.NumGoroutine") = false) ∧ ConOk E.P f c
  icon : ∀ f c, E.icon f = some c → (∃ fn, E.P.funcs[f]? = some fn ∧ fn.body.isNone = false ∧ (fn.name == "runtime.NumGoroutine") = false) ∧ IConOk E.P f c
  mixed : E.P.follows .mixedOrders = true

/-! ### 5. Operands -/
def ofVal : Value → PV
  | .int k n => .d (.int k n)
  | .bool b => .d (.bool b)
  | .string s => if s.size ≤ maxLen then .d (.str s) else .un
  | .slice none 0 0 => .nils
  | _ => .un
def St.ev (S : St) : Operand → PV
  | .tmp t => S.t t
  | .const v => ofVal v
  | .func f => .d (.fn f [])
  | .global _ => .un
def strip : PV → PV
  | .opt _ x => strip x
  | p => p
def stripC : PV → Prop
  | .opt b x => b = true ∧ stripC x
  | _ => True
def St.sv (S : St) (x : Operand) : PV := strip (S.ev x)
def St.sc (S : St) (x : Operand) : Prop := stripC (S.ev x)

/-! ### 6. Pure operations: what must hold, and the value -/
abbrev PR := Option (Prop × PV)
def wint (k : IntKind) (n : Int) : PV := .d (.int k (k.wrap n))
def ibin (op : BinOp) (k : IntKind) (a b : Int) : PR := match op with
  | .add => some (True, wint k (a + b))
  | .sub => some (True, wint k (a - b))
  | .mul => some (True, wint k (a * b))
  | .quo => some (b ≠ 0, wint k (a.tdiv b))
  | .rem => some (b ≠ 0, .d (.int k (a.tmod b)))
  | .and => some (True, wint k ((BitVec.ofInt k.bits a &&& BitVec.ofInt k.bits b).toNat))
  | .or => some (True, wint k ((BitVec.ofInt k.bits a ||| BitVec.ofInt k.bits b).toNat))
  | .xor => some (True, wint k ((BitVec.ofInt k.bits a ^^^ BitVec.ofInt k.bits b).toNat))
  | .andNot => some (True, wint k ((BitVec.ofInt k.bits a &&& ~~~ BitVec.ofInt k.bits b).toNat))
  | .eql => some (True, .d (.bool (a == b)))
  | .neq => some (True, .d (.bool (a != b)))
  | .lss => some (True, .d (.bool (decide (a < b))))
  | .leq => some (True, .d (.bool (decide (a ≤ b))))
  | .gtr => some (True, .d (.bool (decide (a > b))))
  | .geq => some (True, .d (.bool (decide (a ≥ b))))
  | .shl => some (0 ≤ b, wint k (a * 2 ^ (min b.toNat k.bits)))
  | .shr => some (0 ≤ b, .d (.int k (a.fdiv (2 ^ (min b.toNat k.bits)))))
def sbin (op : BinOp) (x y : ByteArray) : PR := match op with
  | .add => some (((x.size + y.size : Nat) : Int) ≤ 9223372036854775807, .d (.str (x ++ y)))
  | .eql => some (True, .d (.bool (x.toList == y.toList)))
  | .neq => some (True, .d (.bool !(x.toList == y.toList)))
  | .lss => some (True, .d (.bool (Op.bytesLess x.toList y.toList)))
  | .leq => some (True, .d (.bool (Op.bytesLess x.toList y.toList || x.toList == y.toList)))
  | .gtr => some (True, .d (.bool !(Op.bytesLess x.toList y.toList || x.toList == y.toList)))
  | .geq => some (True, .d (.bool !(Op.bytesLess x.toList y.toList)))
  | _ => none
def deq : D → D → Option Bool
  | .int k a, .int k' b => if k = k' then some (a == b) else none
  | .bool a, .bool b => some (a == b)
  | .str a, .str b => some (a == b)
  | _, _ => none
def deqs : List D → List D → Option Bool
  | [], [] => some true
  | x :: xs, y :: ys => (deq x y).bind fun p => (deqs xs ys).map fun q => p && q
  | _, _ => none
def D.sk : D → Nat
  | .int _ _ => 0
  | .bool _ => 1
  | .str _ => 2
  | _ => 3
/-- Structs that hold one cell a field, and what is compared. -/
def oneCells : List FI → Nat → List D → Bool
  | [], _, [] => true
  | f :: fs, o, x :: xs => f.off == o && f.size == 1 && !f.agg && f.sk == x.sk && oneCells fs (o + 1) xs
  | _, _, _ => false
def binV (E : Env) (op : BinOp) (t : Nat) : PV → PV → PR
  | .d (.int k a), .d (.int k' b) => if op = .shl ∨ op = .shr ∨ k = k' then ibin op k a b else none
  | .d (.str x), .d (.str y) => sbin op x y
  | .d (.bool x), .d (.bool y) => match op, E.tk t with
    | .eql, some .bool => some (True, .d (.bool (x == y)))
    | .neq, some .bool => some (True, .d (.bool !(x == y)))
    | _, _ => none
  | .d (.agg xs), .d (.agg ys) => match E.tk t with
    | some (.struct fs) => if oneCells fs 0 xs = true then
        match op, deqs xs ys with
        | .eql, some b => some (True, .d (.bool b))
        | .neq, some b => some (True, .d (.bool !b))
        | _, _ => none
      else none
    | _ => none
  | _, _ => none
def unV (op : UnOp) : PV → PR
  | .d (.int k n) => match op with
    | .neg => some (True, wint k (0 - n))
    | _ => none
  | .d (.bool b) => match op with
    | .not => some (True, .d (.bool !b))
    | _ => none
  | _ => none
def convV (E : Env) (src dst : Nat) : PV → PR
  | .d (.int k n) => match E.tk src, E.tk dst with
    | some (.int _), some (.int k') => some (True, wint k' n)
    | _, _ => none
  | _ => none
def pickV (c a b : PV) (pa pb : Prop) : PR := match c, a, b with
  | .d (.bool t), .d (.bool x), .d (.bool y) => some ((t = true → pa) ∧ (t = false → pb), .d (.bool (if t then x else y)))
  | _, _, _ => none
def extV (i : Nat) : PV → PR
  | .tup vs => match vs[i]? with
    | some v => some (True, v)
    | none => none
  | _ => none
def cut (cs : List D) (off n : Nat) : List D := (cs.drop off).take n
/-- A variable of a type, out of cells from off on. -/
def loadD (isAgg : Bool) (size : Nat) (cs : List D) (off : Nat) : Prop × PV :=
  if isAgg then (off + size ≤ cs.length, .d (.agg (cut cs off size))) else (off < cs.length, .d (cs.getD off default))
def TI.isAgg (ti : TI) : Bool := match ti.k with | .struct _ => true | _ => false
def allD : List PV → Option (List D)
  | [] => some []
  | .d x :: ps => (allD ps).map (x :: ·)
  | _ => none
def pagg (cs : List PV) : PV := match allD cs with
  | some ds => .d (.agg ds)
  | none => .agg cs
def plainTI (ti : TI) : Bool := match ti.k with | .map _ _ | .other => false | _ => true
/-- The zero value of a type. -/
def zvp (te : TI) : PV := if te.isAgg then .d (.agg te.zero) else zpv (te.zero.getD 0 default)
/-! Keys of maps. -/
mutual
def keq : D → D → Bool
  | .int k a, .int k' b => decide (k = k') && a == b
  | .bool a, .bool b => a == b
  | .str a, .str b => a == b
  | .agg xs, .agg ys => keqs xs ys
  | _, _ => false
def keqs : List D → List D → Bool
  | [], [] => true
  | x :: xs, y :: ys => keq x y && keqs xs ys
  | _, _ => false
end
def shape1 : D → D → Bool
  | .int k _, .int k' _ => decide (k = k')
  | .bool _, .bool _ => true
  | .str _, .str _ => true
  | _, _ => false
def shapes : List D → List D → Bool
  | [], [] => true
  | z :: zs, x :: xs => shape1 z x && shapes zs xs
  | _, _ => false
/-- May a value be a key of a type? -/
def mkey (E : Env) (kt : Nat) (d : D) : Bool := match E.ty kt with
  | some ti => match ti.k, d with
    | .struct fs, .agg xs => oneCells fs 0 xs && shapes ti.zero xs
    | .int k', .int k _ => decide (k = k')
    | .bool, .bool _ => true
    | .str, .str _ => true
    | _, _ => false
  | none => false
def mkeys (E : Env) (kt : Nat) (es : List (Nat × D × PV)) : Bool := es.all fun x => mkey E kt x.2.1
def mfind (k : D) : List (Nat × D × PV) → Option (Nat × PV)
  | [] => none
  | x :: es => if keq k x.2.1 = true then some (x.1, x.2.2) else mfind k es
def mput (k : D) (v : PV) (clock : Nat) : List (Nat × D × PV) → List (Nat × D × PV)
  | [] => [(clock, k, v)]
  | x :: es => if keq k x.2.1 = true then (x.1, k, v) :: es else x :: mput k v clock es
def mstamp (s : Int) (v : PV) : List (Nat × D × PV) → List (Nat × D × PV)
  | [] => []
  | x :: es => if (x.1 : Int) == s then (x.1, x.2.1, v) :: es else x :: mstamp s v es
def mval (k : D) (es : List (Nat × D × PV)) (z : PV) : PV := ((mfind k es).map (·.2)).getD z
def mhas (k : D) (es : List (Nat × D × PV)) : Bool := (mfind k es).isSome
def mborn (k : D) (es : List (Nat × D × PV)) (clock : Nat) : Nat := ((mfind k es).map (·.1)).getD clock
def mclock (k : D) (es : List (Nat × D × PV)) (clock : Nat) : Nat := if mhas k es = true then clock else clock + 1
def mlast (s : Int) (es : List (Nat × D × PV)) : Bool := es.any fun x => (x.1 : Int) == s
def loadP (isAgg : Bool) (size : Nat) (cs : List PV) (off : Nat) : Prop × PV :=
  if isAgg then (off + size ≤ cs.length, pagg ((cs.drop off).take size)) else (off < cs.length, cs.getD off .un)
def St.obj (S : St) (K ver : Nat) : Option Ob := if (S.o K).1 = ver then (S.o K).2 else none
def loadV (E : Env) (S : St) (t : Nat) : PV → PR
  | .d (.ptr cs off) => match E.ty t with
    | some ti => some (loadD ti.isAgg ti.size cs off)
    | none => none
  | .ref K ver sz i off => match E.ty t, S.obj K ver with
    | some ti, some (.row sz' e xs) => match (E.ty e) with
      | some te => if sz = sz' then
          some (i < xs.length ∧ (loadD ti.isAgg ti.size (xs.getD i te.zero) off).1, (loadD ti.isAgg ti.size (xs.getD i te.zero) off).2) else none
      | none => none
    | some ti, some (.box e cs) => some (loadP ti.isAgg ti.size cs (i * sz + off))
    | some ti, some (.vec sz' e xs) => if sz = sz' then some (i < xs.length ∧ (loadP ti.isAgg ti.size (xs.getD i []) off).1, (loadP ti.isAgg ti.size (xs.getD i []) off).2) else none
    | _, _ => none
  | _ => none
def fieldAddrV (E : Env) (s f : Nat) : PV → PR
  | .d (.ptr cs off) => match E.tk s with
    | some (.struct fs) => match fs[f]? with
      | some x => some (True, .d (.ptr cs (off + x.off)))
      | none => none
    | _ => none
  | .ref K ver sz i off => match E.tk s with
    | some (.struct fs) => match fs[f]? with
      | some x => some (True, .ref K ver sz i (off + x.off))
      | none => none
    | _ => none
  | _ => none
def fieldV (E : Env) (s f : Nat) : PV → PR
  | .d (.agg cs) => match E.tk s with
    | some (.struct fs) => match fs[f]? with
      | some x => some (loadD x.agg x.size cs x.off)
      | none => none
    | _ => none
  | _ => none
def indexAddrV (E : Env) (t : Nat) : PV → PV → PR
  | .d (.lst sz xs), .d (.int _ i) => match E.tk t with
    | some (.slice e) => match E.ty e with
      | some te => if te.size = sz then some (0 ≤ i ∧ i < (xs.length : Int), .d (.ptr (xs.getD i.toNat te.zero) 0)) else none
      | none => none
    | _ => none
  | .row K ver n, .d (.int _ i) => match E.tk t with
    | some (.slice e) => match E.ty e with
      | some te => some (0 ≤ i ∧ i < (n : Int), .ref K ver te.size i.toNat 0)
      | none => none
    | _ => none
  | _, _ => none
def lookupV (E : Env) (S : St) (t : Nat) (ok : Bool) : PV → PV → PR
  | .map K ver, .d kd => match E.tk t, S.obj K ver with
    | some (.map kt e), some (.map kt' e' clock es) => match E.ty e with
      | some te => if plainTI te = true then some (mkey E kt kd = true ∧ mkeys E kt es = true, if ok then .tup [mval kd es (zvp te), .d (.bool (mhas kd es))] else mval kd es (zvp te)) else none
      | none => none
    | _, _ => none
  | _, _ => none
def indexV (E : Env) (t : Nat) : PV → PV → PR
  | .d (.str s), .d (.int _ i) => match E.tk t with
    | some .str => some (0 ≤ i ∧ i < (s.size : Int), .d (.int .u8 ((s.data.toList.getD i.toNat 0).toNat)))
    | _ => none
  | _, _ => none
def lenV (E : Env) (S : St) (t : Nat) (q : PV) : PR := match E.tk t with
  | some .str => match q with
    | .d (.str s) => some (True, .d (.int .i64 s.size))
    | _ => none
  | some (.slice _) => match q with
    | .d (.lst _ xs) => some (True, .d (.int .i64 xs.length))
    | .nils => some (True, .d (.int .i64 0))
    | .clip _ xs => some (True, .d (.int .i64 xs.length))
    | .row K ver n => some (True, .d (.int .i64 n))
    | _ => none
  | some (.map _ _) => match q with
    | .map K ver => match S.obj K ver with
      | some (.map _ _ _ es) => some (True, .d (.int .i64 es.length))
      | _ => none
    | _ => none
  | _ => none
def ints : List PV → Option (IntKind × List Int)
  | [.d (.int k n)] => some (k, [n])
  | .d (.int k n) :: ps => (ints ps).bind fun r => if r.1 = k then some (k, n :: r.2) else none
  | _ => none
def minI (l : List Int) : Int := match l with | [] => 0 | x :: xs => xs.foldl (fun a b => if b < a then b else a) x
def maxI (l : List Int) : Int := match l with | [] => 0 | x :: xs => xs.foldl (fun a b => if a < b then b else a) x
/-- The cells of a value. -/
def cellsP : PV → Option (List PV)
  | .d (.agg cs) => some (cs.map PV.d)
  | .agg cs => some cs
  | .tup _ | .un | .opt _ _ => none
  | p => some [p]
def fillP : List FI → List PV → List (Nat × PV) → Option (List PV)
  | _, cells, [] => some cells
  | fs, cells, (i, p) :: rest => match fs[i]?, cellsP p with
    | some f, some cs => if cs.length = f.size ∧ f.off + f.size ≤ cells.length then fillP fs (cells.take f.off ++ cs ++ cells.drop (f.off + f.size)) rest else none
    | _, _ => none
/-- Nil slices among cells read as data, by the zero cells. -/
def dcell : D → PV → Option D
  | _, .d x => some x
  | .lst sz [], .nils => some (.lst sz [])
  | _, _ => none
def dcells : List D → List PV → Option (List D)
  | [], [] => some []
  | z :: zs, p :: ps => (dcell z p).bind fun x => (dcells zs ps).map (x :: ·)
  | _, _ => none
def buildV (E : Env) (t : Nat) (parts : List (Nat × PV)) : PR := match E.ty t with
  | some ti => match ti.k with
    | .struct fs => (fillP fs (ti.zero.map zpv) parts).bind fun cs => match dcells ti.zero cs with
      | some ds => some (True, .d (.agg ds))
      | none => some (True, .agg cs)
    | _ => none
  | none => none
/-- A part of a slice that is only read, or of a string. -/
def boundV : Option PV → Option (Option Int)
  | none => some none
  | some (.d (.int _ n)) => some (some n)
  | _ => none
def sliceV (E : Env) (t : Nat) (x : PV) (lo hi : Option PV) : PR := match E.tk t, x, boundV lo, boundV hi with
  | some (.slice e), .d (.lst sz xs), some l, some h => match E.ty e with
    | some te => if te.size = sz then some (0 ≤ l.getD 0 ∧ l.getD 0 ≤ h.getD xs.length ∧ h.getD xs.length ≤ (xs.length : Int), .d (.lst sz ((xs.take (h.getD xs.length).toNat).drop (l.getD 0).toNat))) else none
    | none => none
  | some .str, .d (.str s), some l, some h => some (0 ≤ l.getD 0 ∧ l.getD 0 ≤ h.getD s.size ∧ h.getD s.size ≤ (s.size : Int), .d (.str (s.extract (l.getD 0).toNat (h.getD s.size).toNat)))
  | _, _, _, _ => none
def nilCheckV : PV → PR
  | .d (.ptr cs off) => some (True, .d (.ptr cs off))
  | .d (.fn f caps) => some (True, .d (.fn f caps))
  | .fn f caps => some (True, .fn f caps)
  | .ref K ver sz i off => some (True, .ref K ver sz i off)
  | _ => none
def makeFuncV (f : Fn) (first : List Operand) (caps : List PV) : PR := match f, first with
  | .func f, [] => some (True, .fn f caps)
  | _, _ => none
def argsC (S : St) (xs : List Operand) : Prop := match xs with
  | [] => True
  | x :: xs => S.sc x ∧ argsC S xs

def callOp (E : Env) (S : St) (c : Call) : PR := match c.callee with
  | .builtin b => match b, c.args.toList, c.argTypes.toList with
    | .len, [x], [t] => (lenV E S t (S.sv x)).map fun r => (S.sc x ∧ r.1, r.2)
    | .min, xs, _ => (ints (xs.map S.sv)).map fun r => (argsC S xs, .d (.int r.1 (minI r.2)))
    | .max, xs, _ => (ints (xs.map S.sv)).map fun r => (argsC S xs, .d (.int r.1 (maxI r.2)))
    | _, _, _ => none
  | _ => none

def pureOp (E : Env) (S : St) (op : Op) : PR := match op with
  | .move x => some (True, S.ev x)
  | .assign x => some (True, S.ev x)
  | .pick c a b => (pickV (S.sv c) (S.sv a) (S.sv b) (S.sc a) (S.sc b)).map fun r => (S.sc c ∧ r.1, r.2)
  | .binOp op t x y _ => (binV E op t (S.sv x) (S.sv y)).map fun r => ((S.sc x ∧ S.sc y) ∧ r.1, r.2)
  | .unOp op _ x => (unV op (S.sv x)).map fun r => (S.sc x ∧ r.1, r.2)
  | .convert src dst x => (convV E src dst (S.sv x)).map fun r => (S.sc x ∧ r.1, r.2)
  | .extract x i => (extV i (S.sv x)).map fun r => (S.sc x ∧ r.1, r.2)
  | .load t a => (loadV E S t (S.sv a)).map fun r => (S.sc a ∧ r.1, r.2)
  | .fieldAddr s x f => (fieldAddrV E s f (S.sv x)).map fun r => (S.sc x ∧ r.1, r.2)
  | .field s x f => (fieldV E s f (S.sv x)).map fun r => (S.sc x ∧ r.1, r.2)
  | .indexAddr t x i => (indexAddrV E t (S.sv x) (S.sv i)).map fun r => ((S.sc x ∧ S.sc i) ∧ r.1, r.2)
  | .index t x i => (indexV E t (S.sv x) (S.sv i)).map fun r => ((S.sc x ∧ S.sc i) ∧ r.1, r.2)
  | .build t parts => (buildV E t (parts.toList.map fun p => (p.1, S.sv p.2))).map fun r => (argsC S (parts.toList.map (·.2)) ∧ r.1, r.2)
  | .call c => callOp E S c
  | .lookup t x i ok => (lookupV E S t ok (S.sv x) (S.sv i)).map fun r => ((S.sc x ∧ S.sc i) ∧ r.1, r.2)
  | .slice t x lo hi none => (sliceV E t (S.sv x) (lo.map S.sv) (hi.map S.sv)).map fun r => (argsC S (x :: (lo.toList ++ hi.toList)) ∧ r.1, r.2)
  | .nilCheck x => (nilCheckV (S.sv x)).map fun r => (S.sc x ∧ r.1, r.2)
  | .makeFunc f first caps => (makeFuncV f first.toList (caps.toList.map S.sv)).map fun r => (argsC S caps.toList ∧ r.1, r.2)
  | _ => none

end Go.Proofs.Ytomnjbebgfadoaa.Pi
