/- The pure interpreter's operations that make or write objects: what they do, and that they are sound.
   Conditions: none; definitions and lemmas. -/
import Derived.Test.YtomnjbebgfadoaaPiH
set_option linter.unusedVariables false
set_option linter.unusedSimpArgs false
namespace Go.Proofs.Ytomnjbebgfadoaa.Pi
open Go Go.RowKit

/-! ### 11. Objects: new, written, given up -/
abbrev Objs := Nat → Nat × Option Ob
def newOb (o : Objs) (K : Nat) (x : Ob) : Objs := fun k => if k = K then ((o K).1 + 1, some x) else o k
def setOb (o : Objs) (K : Nat) (x : Ob) : Objs := fun k => if k = K then ((o K).1, some x) else o k
/-- K0 becomes K. -/
def movOb (o : Objs) (K0 K : Nat) (x : Ob) : Objs := fun k => if k = K then ((o K).1 + 1, some x) else if k = K0 then ((o k).1, none) else o k
def hup (α : Nat → Value) (K : Nat) (h : Value) : Nat → Value := fun k => if k = K then h else α k

theorem hup_same (α : Nat → Value) (K : Nat) (h : Value) : hup α K h K = h := by simp [hup]
theorem hup_ne (α : Nat → Value) {K k : Nat} (h : Value) (hk : k ≠ K) : hup α K h k = α k := by simp [hup, hk]

section
variable {N base : Nat} {w0 : World} {X : Fr} {S : St} {α : Nat → Value} {a : Act} {w : World}
/-- A new object. -/
theorem Rel.new (h : Rel N base w0 X S α a w) {K : Nat} {x : Ob} {hdr : Value} {w' : World} {dst : Option Nat} {p : PV} {v : Value} (hdst : ∀ d, dst = some d → d < N) (hg : w.grownBy w' none) (hb : ∀ g, hblk hdr = some g → w.heap.size ≤ g)
    (hx : Keeps w (okOf X.A S.o α) w' (okOf X.A (newOb S.o K x) (hup α K hdr)) → Turns S.o α (newOb S.o K x) (hup α K hdr) → x.rel (newOb S.o K x) (hup α K hdr) w' (okOf X.A (newOb S.o K x) (hup α K hdr)) base hdr)
    (hp : Keeps w (okOf X.A S.o α) w' (okOf X.A (newOb S.o K x) (hup α K hdr)) → Turns S.o α (newOb S.o K x) (hup α K hdr) → p.rel (newOb S.o K x) (hup α K hdr) w' (okOf X.A (newOb S.o K x) (hup α K hdr)) v) :
    Rel N base w0 X { (S.put dst p) with o := newOb S.o K x } (hup α K hdr) (a.put dst v) w' := by
  refine h.upd (row := none) K hdst hg (by simp) (fun k => ?_) (fun k hk _ => ?_) (fun _ => ⟨.inl ?_, fun g hgk => ?_⟩) (fun hk ht y hy => ?_) hp
  · by_cases e : k = K <;> simp [newOb, e]
  · exact ⟨by simp [newOb, hk], hup_ne α hdr hk, by simp⟩
  · simp [newOb]
  · rw [hup_same] at hgk; exact .inr (hb g hgk)
  · simp only [newOb, if_true, Option.some.injEq] at hy
    subst hy
    rw [hup_same]
    exact hx hk ht
/-- An object's contents turn in its block. -/
theorem Rel.set (h : Rel N base w0 X S α a w) {K g : Nat} {x y : Ob} {w' : World} {dst : Option Nat} {p : PV} {v : Value} (hdst : ∀ d, dst = some d → d < N) (hg : w.grownBy w' (some g)) (hK : (S.o K).2 = some y) (hb : hblk (α K) = some g)
    (hx : Keeps w (okOf X.A S.o α) w' (okOf X.A (setOb S.o K x) α) → Turns S.o α (setOb S.o K x) α → x.rel (setOb S.o K x) α w' (okOf X.A (setOb S.o K x) α) base (α K))
    (hp : Keeps w (okOf X.A S.o α) w' (okOf X.A (setOb S.o K x) α) → Turns S.o α (setOb S.o K x) α → p.rel (setOb S.o K x) α w' (okOf X.A (setOb S.o K x) α) v) :
    Rel N base w0 X { (S.put dst p) with o := setOb S.o K x } α (a.put dst v) w' := by
  have hKn : (S.o K).2 ≠ none := by rw [hK]; simp
  refine h.upd (row := some g) K hdst hg (fun g' e => ⟨K, hKn, by rw [hb]; exact e⟩) (fun k => ?_) (fun k hk hl => ?_) (fun _ => ⟨.inr ⟨?_, hKn, rfl⟩, fun g' hgk => ?_⟩) (fun hk ht z hz => ?_) hp
  · by_cases e : k = K <;> simp [setOb, e]
  · have hs : setOb S.o K x k = S.o k := by simp [setOb, hk]
    refine ⟨hs, rfl, fun g' hg' e => ?_⟩
    simp only [Option.some.injEq] at e
    subst e
    exact h.inj k K hk (by rw [← hs]; exact hl) hKn g hg' hb
  · simp [setOb]
  · rw [hb] at hgk; exact .inl hgk
  · simp only [setOb, if_true, Option.some.injEq] at hz
    subst hz
    exact hx hk ht
/-- An object goes over into another one: its block is written, or left. -/
theorem Rel.mov (h : Rel N base w0 X S α a w) {K0 K : Nat} {x y : Ob} {hdr : Value} {w' : World} {dst : Option Nat} {p : PV} {v : Value} (hdst : ∀ d, dst = some d → d < N) (hg : w.grownBy w' (hblk (α K0))) (hK : (S.o K0).2 = some y) (hb : ∀ g, hblk hdr = some g → hblk (α K0) = some g ∨ w.heap.size ≤ g)
    (hx : Keeps w (okOf X.A S.o α) w' (okOf X.A (movOb S.o K0 K x) (hup α K hdr)) → Turns S.o α (movOb S.o K0 K x) (hup α K hdr) → x.rel (movOb S.o K0 K x) (hup α K hdr) w' (okOf X.A (movOb S.o K0 K x) (hup α K hdr)) base hdr)
    (hp : Keeps w (okOf X.A S.o α) w' (okOf X.A (movOb S.o K0 K x) (hup α K hdr)) → Turns S.o α (movOb S.o K0 K x) (hup α K hdr) → p.rel (movOb S.o K0 K x) (hup α K hdr) w' (okOf X.A (movOb S.o K0 K x) (hup α K hdr)) v) :
    Rel N base w0 X { (S.put dst p) with o := movOb S.o K0 K x } (hup α K hdr) (a.put dst v) w' := by
  have hKn : (S.o K0).2 ≠ none := by rw [hK]; simp
  refine h.upd (row := hblk (α K0)) K hdst hg (fun g' e => ⟨K0, hKn, e⟩) (fun k => ?_) (fun k hk hl => ?_) (fun _ => ⟨.inl ?_, fun g' hgk => ?_⟩) (fun hk ht z hz => ?_) hp
  · by_cases e : k = K
    · simp [movOb, e]
    · by_cases e' : k = K0
      · subst e'; simp [movOb, e]
      · simp [movOb, e, e']
  · have hk0 : k ≠ K0 := fun e => by subst e; simp [movOb, hk] at hl
    have hs : movOb S.o K0 K x k = S.o k := by simp [movOb, hk, hk0]
    refine ⟨hs, hup_ne α hdr hk, fun g' hg' e => ?_⟩
    exact h.inj k K0 hk0 (by rw [← hs]; exact hl) hKn g' hg' e
  · simp [movOb]
  · rw [hup_same] at hgk; exact hb g' hgk
  · simp only [movOb, if_true, Option.some.injEq] at hz
    subst hz
    rw [hup_same]
    exact hx hk ht
end

theorem grownBy_alloc' (w : World) (o : Obj) : w.grownBy (w.alloc o) none := World.grownBy_alloc w o none
theorem grownBy_setRow (w : World) (g : Nat) (cs : Array Value) : w.grownBy (w.setRow g cs) (some g) :=
  ⟨rfl, rfl, rfl, by simp, fun k _ hk => setRow_other w g k cs fun e => hk (by rw [e])⟩

/-! ### 12. What they do -/
abbrev EF := Option (Prop × PV × Objs)
def refNew (S : St) (K : Nat) : PV := .ref K ((S.o K).1 + 1) 0 0 0
def rowNew (S : St) (K n : Nat) : PV := .row K ((S.o K).1 + 1) n
def allocE (E : Env) (S : St) (K t : Nat) : EF := match E.ty t with
  | some ti => if plainTI ti = true then some (True, refNew S K, newOb S.o K (.box t (ti.zero.map zpv))) else none
  | none => none
def boxE (E : Env) (S : St) (K t : Nat) (x : PV) : EF := match E.ty t, cellsP x with
  | some ti, some cs => some (True, refNew S K, newOb S.o K (.box t cs))
  | _, _ => none
def rowsV (S : St) (sz : Nat) : PV → Option (List (List D))
  | .d (.lst sz' xs) => if sz' = sz then some xs else none
  | .nils => some []
  | .clip sz' xs => if sz' = sz then some xs else none
  | .row K ver _ => match S.obj K ver with
    | some (.row sz' _ xs) => if sz' = sz then some xs else none
    | _ => none
  | _ => none
/-- The same, cell by cell. -/
def rowsP (S : St) (sz : Nat) (x : PV) : Option (List (List PV)) := match x with
  | .row K ver _ => match S.obj K ver with
    | some (.vec sz' _ xs) => if sz' = sz then some xs else none
    | _ => none
  | _ => none
def appR (te : TI) (S : St) (K e : Nat) (s : PV) (ys : List (List D)) : EF := match s with
  | .nils => if plainTI te = true then some (ys.length * te.bytes ≤ 140737488355328, rowNew S K ys.length, newOb S.o K (.row te.size e ys)) else none
  | .row K0 v0 _ => match S.obj K0 v0 with
    | some (.row sz e' xs) => if plainTI te = true ∧ sz = te.size ∧ e' = e then some ((xs.length + ys.length) * te.bytes ≤ 140737488355328, rowNew S K0 (xs.length + ys.length), newOb S.o K0 (.row sz e (xs ++ ys))) else none
    | _ => none
  | _ => none
def appP (te : TI) (S : St) (K e : Nat) (s : PV) (ys : List (List PV)) : EF := match s with
  | .nils => if plainTI te = true then some (ys.length * te.bytes ≤ 140737488355328, rowNew S K ys.length, newOb S.o K (.vec te.size e ys)) else none
  | .row K0 v0 _ => match S.obj K0 v0 with
    | some (.vec sz e' xs) => if plainTI te = true ∧ sz = te.size ∧ e' = e then some ((xs.length + ys.length) * te.bytes ≤ 140737488355328, rowNew S K0 (xs.length + ys.length), newOb S.o K0 (.vec sz e (xs ++ ys))) else none
    | _ => none
  | _ => none
def appE (E : Env) (S : St) (K t : Nat) (s x : PV) : EF := match E.tk t with
  | some (.slice e) => match E.ty e with
    | some te => match rowsV S te.size x with
      | some ys => appR te S K e s ys
      | none => match rowsP S te.size x with
        | some ys => appP te S K e s ys
        | none => none
    | none => none
  | _ => none
def storeE (E : Env) (S : St) (t : Nat) (adr x : PV) : EF := match E.ty t, adr, cellsP x with
  | some ti, .ref K ver sz i off, some cs => match S.obj K ver with
    | some (.box e bs) => some (cs.length = ti.size ∧ i * sz + off + cs.length ≤ bs.length, .un, setOb S.o K (.box e (bs.take (i * sz + off) ++ cs ++ bs.drop (i * sz + off + cs.length))))
    | some (.row sz' e xs) => match E.ty e with
      | some te => match dcells (cut te.zero off cs.length) cs with
        | some ds => if sz = sz' then some (cs.length = ti.size ∧ i < xs.length ∧ off + cs.length ≤ sz, .un, setOb S.o K (.row sz' e (xs.set i ((xs.getD i te.zero).take off ++ ds ++ (xs.getD i te.zero).drop (off + cs.length))))) else none
        | none => none
      | none => none
    | some (.vec sz' e xs) => if sz = sz' then some (cs.length = ti.size ∧ i < xs.length ∧ off + cs.length ≤ sz, .un, setOb S.o K (.vec sz' e (xs.set i ((xs.getD i []).take off ++ cs ++ (xs.getD i []).drop (off + cs.length))))) else none
    | _ => none
  | _, _, _ => none
def makeE (E : Env) (S : St) (K t : Nat) (cells : Bool) (l c : PV) : EF := match E.tk t, l, c with
  | some (.slice e), .d (.int _ n), .d (.int _ m) => match E.ty e with
    | some te => if plainTI te = true then some (n = m ∧ 0 ≤ n ∧ n.toNat * te.bytes ≤ 281474976710656, rowNew S K n.toNat, newOb S.o K (if cells = true then .vec te.size e (List.replicate n.toNat (te.zero.map zpv)) else .row te.size e (List.replicate n.toNat te.zero))) else none
    | none => none
  | _, _, _ => none
/-! Maps. -/
def makeMapE (E : Env) (S : St) (K t : Nat) : EF := match E.tk t with
  | some (.map kt e) => some (True, .map K ((S.o K).1 + 1), newOb S.o K (.map kt e 0 []))
  | _ => none
def mapUpdE (E : Env) (S : St) (t : Nat) (m k v : PV) : EF := match m, k with
  | .map K ver, .d kd => match E.tk t, S.obj K ver with
    | some (.map kt e), some (.map kt' e' clock es) => some (mkey E kt kd = true ∧ mkeys E kt es = true, .un, setOb S.o K (.map kt' e' (mclock kd es clock) (mput kd v clock es)))
    | _, _ => none
  | _, _ => none
def mapEntE (E : Env) (S : St) (t : Nat) (m k : PV) : EF := match m, k with
  | .map K ver, .d kd => match E.tk t, S.obj K ver with
    | some (.map kt e), some (.map kt' e' clock es) => match E.ty e with
      | some te => if plainTI te = true then some (mkey E kt kd = true ∧ mkeys E kt es = true, .tup [mval kd es (zvp te), .d (.int .i64 (mborn kd es clock))], setOb S.o K (.map kt' e' (mclock kd es clock) (mput kd (mval kd es (zvp te)) clock es))) else none
      | none => none
    | _, _ => none
  | _, _ => none
def mapStoE (S : St) (m s v : PV) : EF := match m, s with
  | .map K ver, .d (.int _ n) => match S.obj K ver with
    | some (.map kt' e' clock es) => some (mlast n es = true, .un, setOb S.o K (.map kt' e' clock (mstamp n v es)))
    | _ => none
  | _, _ => none
def chunk {α : Type} (sz : Nat) : Nat → List α → List (List α)
  | 0, _ => []
  | n + 1, ds => ds.take sz :: chunk sz n (ds.drop sz)
def elemsFI (sz : Nat) (n : Nat) : List FI := (List.range n).map fun i => ⟨i * sz, sz, false, 3⟩
def litRowsP (te : TI) (n : Nat) (parts : List (Nat × PV)) : Option (List (List PV)) :=
  (fillP (elemsFI te.size n) (((List.replicate n te.zero).flatten).map zpv) parts).map (chunk te.size n)
def litRows (te : TI) (n : Nat) (parts : List (Nat × PV)) : Option (List (List D)) :=
  (fillP (elemsFI te.size n) (((List.replicate n te.zero).flatten).map zpv) parts).bind fun cs => (dcells ((List.replicate n te.zero).flatten) cs).map fun ds => chunk te.size n ds
/-- A slice literal of the call's own. -/
def litE (E : Env) (S : St) (K t n : Nat) (parts : List (Nat × PV)) : EF := match E.tk t with
  | some (.slice e) => match E.ty e with
    | some te => if plainTI te = true ∧ n * te.size ≤ 16777216 then
        match litRows te n parts with
        | some rows => some (True, rowNew S K n, newOb S.o K (.row te.size e rows))
        | none => (litRowsP te n parts).map fun rows => (True, rowNew S K n, newOb S.o K (.vec te.size e rows))
      else none
    | none => none
  | _ => none
/-- A slice literal that is only read. -/
def litV (E : Env) (t n : Nat) (parts : List (Nat × PV)) : PR := match E.tk t with
  | some (.slice e) => match E.ty e with
    | some te => if plainTI te = true ∧ n * te.size ≤ 16777216 then (litRows te n parts).map fun rows => (True, .d (.lst te.size rows)) else none
    | none => none
  | _ => none
def callE (E : Env) (S : St) (K : Nat) (c : Call) : EF := match c.callee with
  | .builtin .append => match c.args.toList, c.argTypes.toList with
    | [s, x], [t, t'] => if t = t' then (appE E S K t (S.sv s) (S.sv x)).map fun r => ((S.sc s ∧ S.sc x) ∧ r.1, r.2) else none
    | _, _ => none
  | _ => none
def effOp (E : Env) (S : St) (dst : Option Nat) (op : Op) : EF := match op, dst with
  | .alloc t, some K => allocE E S (E.key K) t
  | .box t x, some K => (boxE E S (E.key K) t (S.sv x)).map fun r => (S.sc x ∧ r.1, r.2)
  | .store t adr x, _ => (storeE E S t (S.sv adr) (S.sv x)).map fun r => ((S.sc adr ∧ S.sc x) ∧ r.1, r.2)
  | .makeSlice t l c, some K => (makeE E S (E.key K) t (E.own K) (S.sv l) (S.sv c)).map fun r => ((S.sc l ∧ S.sc c) ∧ r.1, r.2)
  | .buildSlice t n parts, some K => (litE E S (E.key K) t n (parts.toList.map fun p => (p.1, S.sv p.2))).map fun r => (argsC S (parts.toList.map (·.2)) ∧ r.1, r.2)
  | .call c, some K => callE E S (E.key K) c
  | .makeMap t none, some K => makeMapE E S (E.key K) t
  | .mapUpdate t m k v, _ => (mapUpdE E S t (S.sv m) (S.sv k) (S.sv v)).map fun r => (((S.sc m ∧ S.sc k) ∧ S.sc v) ∧ r.1, r.2)
  | .insert t m k v, _ => (mapUpdE E S t (S.sv m) (S.sv k) (S.sv v)).map fun r => (((S.sc m ∧ S.sc k) ∧ S.sc v) ∧ r.1, r.2)
  | .mapEntry t m k, some _ => (mapEntE E S t (S.sv m) (S.sv k)).map fun r => ((S.sc m ∧ S.sc k) ∧ r.1, r.2)
  | .entryStore _ m s v, _ => (mapStoE S (S.sv m) (S.sv s) (S.sv v)).map fun r => (((S.sc m ∧ S.sc s) ∧ S.sc v) ∧ r.1, r.2)
  | _, _ => none
end Go.Proofs.Ytomnjbebgfadoaa.Pi
