/- Codecs between data and Lean's values; contracts by them.
   Conditions: none; definitions and lemmas. -/
import Derived.Test.YtomnjbebgfadoaaPiV
set_option linter.unusedVariables false
set_option linter.unusedSimpArgs false
namespace Go.Proofs.Ytomnjbebgfadoaa.Pi
open Go Go.RowKit

/-! ### 24. Codecs -/
def dInt (k : IntKind) : D → Option Int
  | .int k' n => if k' = k then some n else none
  | _ => none
def dBool : D → Option Bool
  | .bool b => some b
  | _ => none
def dStr : D → Option ByteArray
  | .str s => some s
  | _ => none
def dRows {A : Type} (f : List D → Option A) : List (List D) → Option (List A)
  | [] => some []
  | r :: rs => (f r).bind fun x => (dRows f rs).map (x :: ·)
def dLst {A : Type} (sz : Nat) (f : List D → Option A) : D → Option (List A)
  | .lst sz' xs => if sz' = sz then dRows f xs else none
  | _ => none
def dAgg {A : Type} (f : List D → Option A) : D → Option A
  | .agg cs => f cs
  | _ => none
theorem dInt_iff {k : IntKind} {d : D} {n : Int} : dInt k d = some n ↔ d = .int k n := by
  cases d <;> simp [dInt]
theorem dBool_iff {d : D} {b : Bool} : dBool d = some b ↔ d = .bool b := by cases d <;> simp [dBool]
theorem dStr_iff {d : D} {s : ByteArray} : dStr d = some s ↔ d = .str s := by cases d <;> simp [dStr]
theorem dInt_int (k : IntKind) (n : Int) : dInt k (.int k n) = some n := by simp [dInt]
theorem dBool_bool (b : Bool) : dBool (.bool b) = some b := rfl
theorem dStr_str (b : ByteArray) : dStr (.str b) = some b := rfl
theorem dAgg_agg {A : Type} (f : List D → Option A) (cs : List D) : dAgg f (.agg cs) = f cs := rfl
theorem dLst_lst {A : Type} (sz : Nat) (f : List D → Option A) (xs : List (List D)) : dLst sz f (.lst sz xs) = dRows f xs := by simp [dLst]
theorem dRows_nil {A : Type} (f : List D → Option A) : dRows f [] = some [] := rfl
theorem dRows_cons {A : Type} (f : List D → Option A) (r : List D) (rs : List (List D)) : dRows f (r :: rs) = (f r).bind fun x => (dRows f rs).map (x :: ·) := rfl
theorem dRows_iff {A : Type} {f : List D → Option A} {row : A → List D} (h : ∀ r x, f r = some x ↔ r = row x) : ∀ {rs : List (List D)} {xs : List A}, dRows f rs = some xs ↔ rs = xs.map row
  | [], xs => by cases xs <;> simp [dRows]
  | r :: rs, xs => by
    simp only [dRows, Option.bind_eq_some_iff, Option.map_eq_some_iff, h]
    cases xs with
    | nil => simp
    | cons x xs =>
      simp only [List.cons.injEq, List.map_cons]
      constructor
      · rintro ⟨a, h1, b, h2, rfl, rfl⟩; exact ⟨h1, (dRows_iff h).1 h2⟩
      · rintro ⟨h1, h2⟩; exact ⟨x, h1, xs, (dRows_iff h).2 h2, rfl, rfl⟩
theorem dRows_map {A : Type} {f : List D → Option A} {row : A → List D} (h : ∀ r x, f r = some x ↔ r = row x) (xs : List A) : dRows f (xs.map row) = some xs := (dRows_iff h).2 rfl
theorem dLst_iff {A : Type} {f : List D → Option A} {row : A → List D} (h : ∀ r x, f r = some x ↔ r = row x) {sz : Nat} {d : D} {xs : List A} : dLst sz f d = some xs ↔ d = .lst sz (xs.map row) := by
  cases d <;> simp [dLst]
  rename_i sz' rs
  rw [dRows_iff h]
  exact fun _ => Iff.rfl
theorem dAgg_iff {A : Type} {f : List D → Option A} {row : A → List D} (h : ∀ r x, f r = some x ↔ r = row x) {d : D} {x : A} : dAgg f d = some x ↔ d = .agg (row x) := by
  cases d <;> simp [dAgg, h]
/-- Rows of one cell. -/
def irow (n : Int) : List D := [.int .i64 n]
def iof : List D → Option Int
  | [d] => dInt .i64 d
  | _ => none
theorem iof_iff (r : List D) (n : Int) : iof r = some n ↔ r = irow n := by
  match r with
  | [] => simp [iof, irow]
  | [d] => simp [iof, irow, dInt_iff]
  | _ :: _ :: _ => simp [iof, irow]
def srow (s : ByteArray) : List D := [.str s]
def sof : List D → Option ByteArray
  | [d] => dStr d
  | _ => none
theorem sof_iff (r : List D) (n : ByteArray) : sof r = some n ↔ r = srow n := by
  match r with
  | [] => simp [sof, srow]
  | [d] => simp [sof, srow, dStr_iff]
  | _ :: _ :: _ => simp [sof, srow]
def brow (s : Bool) : List D := [.bool s]
def bof : List D → Option Bool
  | [d] => dBool d
  | _ => none
theorem bof_iff (r : List D) (n : Bool) : bof r = some n ↔ r = brow n := by
  match r with
  | [] => simp [bof, brow]
  | [d] => simp [bof, brow, dBool_iff]
  | _ :: _ :: _ => simp [bof, brow]
/-- Rows that hold a list. -/
def lrow {A : Type} (sz : Nat) (row : A → List D) (l : List A) : List D := [.lst sz (l.map row)]
def lof {A : Type} (sz : Nat) (f : List D → Option A) : List D → Option (List A)
  | [d] => dLst sz f d
  | _ => none
theorem lof_iff {A : Type} {f : List D → Option A} {row : A → List D} (h : ∀ r x, f r = some x ↔ r = row x) (sz : Nat) (r : List D) (l : List A) : lof sz f r = some l ↔ r = lrow sz row l := by
  match r with
  | [] => simp [lof, lrow]
  | [d] => simp [lof, lrow, dLst_iff h]
  | _ :: _ :: _ => simp [lof, lrow]

/-- A contract by a codec of the arguments. -/
structure Cod (A : Type) where
  enc : A → List D
  dec : List D → Option A
  iff : ∀ ds a, dec ds = some a ↔ ds = enc a
def Con.of {A : Type} (c : Cod A) (P : A → Prop) (Q : A → List RV → Prop) (flat : Bool) : Con := ⟨fun ds => ∃ a, c.dec ds = some a ∧ P a, fun ds rs => ∃ a, c.dec ds = some a ∧ Q a rs, flat⟩
theorem of_pre {A : Type} {c : Cod A} {P : A → Prop} {Q : A → List RV → Prop} {fl : Bool} {ds : List D} : (Con.of c P Q fl).pre ds = ∃ a, c.dec ds = some a ∧ P a := rfl
theorem of_post {A : Type} {c : Cod A} {P : A → Prop} {Q : A → List RV → Prop} {fl : Bool} {ds : List D} {rs : List RV} : (Con.of c P Q fl).post ds rs = ∃ a, c.dec ds = some a ∧ Q a rs := rfl
theorem of_flat {A : Type} {c : Cod A} {P : A → Prop} {Q : A → List RV → Prop} {fl : Bool} : (Con.of c P Q fl).flat = fl := rfl

theorem con_of {A : Type} {c : Cod A} {P : A → Prop} {Q : A → List RV → Prop} {fl : Bool} {E : Env} (hE : EnvOk E) {f : Nat} {fn : Func} {cd : Code} (hf : E.P.funcs[f]? = some fn) (hb : fn.body = some cd) (hn : E.n ≤ fn.ntmps) (hco : codeOk E cd = true) {rs : List ResultVar} (hrs : fn.results = rs.toArray) (hl : rs.length ≤ 3)
    (hq3 : rs.length = 3 → rs.all (fun r => match r with | .tmp _ => true | _ => false) = true) (ms : List RM)
    (hsome : ∀ a, P a → ∃ r, Q a r) (hflat : fl = true → ∀ a r, Q a r → ∀ x ∈ r, RV.flat x = true)
    (h : ∀ a, P a → run E cd (endP (outK E ms rs (Q a))) (startP ((c.enc a).map .d) noObs)) : ConOk E.P f (Con.of c P Q fl) := by
  refine con_of_run hE hf hb hn hco hrs hl hq3 ms ?_ ?_ ?_
  · rintro ds ⟨a, ha, hp⟩
    obtain ⟨r, hr⟩ := hsome a hp
    exact ⟨r, a, ha, hr⟩
  · rintro hfl ds r ⟨a, ha, hq⟩ x hx
    exact hflat hfl a r hq x hx
  · rintro ds ⟨a, ha, hp⟩
    have e := (c.iff ds a).1 ha
    have h1 := h a hp
    have e2 : (Con.of c P Q fl).post ds = Q a := by
      funext rs
      apply propext
      constructor
      · rintro ⟨a', ha', hq⟩
        rw [ha] at ha'
        simp only [Option.some.injEq] at ha'
        subst ha'
        exact hq
      · intro hq; exact ⟨a, ha, hq⟩
    rw [e2, e]
    exact h1
theorem flat1 {A : Type} {F : A → D} (h : ∀ a, (F a).flat = true) : true = true → ∀ a r, r = [RV.d (F a)] → ∀ x ∈ r, RV.flat x = true := by
  rintro _ a r rfl x hx
  simp only [List.mem_singleton] at hx
  subst hx
  exact h a

def cod0 : Cod Unit := ⟨fun _ => [], fun ds => match ds with | [] => some () | _ => none, fun ds a => by cases ds <;> simp⟩
def cod1 {A : Type} (e : A → D) (f : D → Option A) (h : ∀ d a, f d = some a ↔ d = e a) : Cod A := ⟨fun a => [e a], fun ds => match ds with | [d] => f d | _ => none, fun ds a => by
  match ds with
  | [] => simp
  | [d] => simp [h]
  | _ :: _ :: _ => simp⟩
def codC {A B : Type} (e : A → D) (f : D → Option A) (h : ∀ d a, f d = some a ↔ d = e a) (r : Cod B) : Cod (A × B) := ⟨fun a => e a.1 :: r.enc a.2, fun ds => match ds with | d :: ds => (f d).bind fun a => (r.dec ds).map fun b => (a, b) | _ => none, fun ds a => by
  match ds with
  | [] => simp
  | d :: ds =>
    simp only [Option.bind_eq_some_iff, Option.map_eq_some_iff, h, r.iff, List.cons.injEq]
    constructor
    · rintro ⟨x, h1, y, h2, rfl⟩; exact ⟨h1, h2⟩
    · rintro ⟨h1, h2⟩; exact ⟨a.1, h1, a.2, h2, rfl⟩⟩
theorem cod0_enc (a : Unit) : cod0.enc a = [] := rfl
theorem cod0_dec : cod0.dec [] = some () := rfl
section
variable {A B : Type} {e : A → D} {f : D → Option A} {h : ∀ d a, f d = some a ↔ d = e a} {r : Cod B}
theorem cod1_enc (a : A) : (cod1 e f h).enc a = [e a] := rfl
theorem cod1_dec (d : D) : (cod1 e f h).dec [d] = f d := rfl
theorem codC_enc (a : A × B) : (codC e f h r).enc a = e a.1 :: r.enc a.2 := rfl
theorem codC_dec (d : D) (ds : List D) : (codC e f h r).dec (d :: ds) = (f d).bind fun a => (r.dec ds).map fun b => (a, b) := rfl
end
theorem bind_some_ex {A B : Type} {a : A} {P : A → Prop} : (∃ x, some a = some x ∧ P x) = P a := by
  apply propext; constructor
  · rintro ⟨x, h, hp⟩; simp only [Option.some.injEq] at h; subst h; exact hp
  · intro hp; exact ⟨a, rfl, hp⟩
theorem some_ex {A : Type} {a : A} {P : A → Prop} : (∃ x, some a = some x ∧ P x) = P a := by
  apply propext; constructor
  · rintro ⟨x, h, hp⟩; simp only [Option.some.injEq] at h; subst h; exact hp
  · intro hp; exact ⟨a, rfl, hp⟩
theorem some_ex1 {A : Type} {a : A} : (∃ x, some a = some x) = True := by
  apply propext; exact ⟨fun _ => trivial, fun _ => ⟨a, rfl⟩⟩
theorem getD_map {A : Type} (row : A → List D) (l : List A) (i : Nat) (z : List D) (x : A) (hz : z = row x) : (l.map row).getD i z = row (l.getD i x) := by
  subst hz
  simp only [List.getD_eq_getElem?_getD, List.getElem?_map]
  cases l[i]? <;> rfl
theorem ex_bool : (∃ rs : List RV, ∃ b : Bool, rs = [.d (.bool b)]) = True := by
  apply propext; exact ⟨fun _ => trivial, fun _ => ⟨_, true, rfl⟩⟩
theorem all_bool {K : List RV → Prop} : (∀ rs, (∃ b : Bool, rs = [.d (.bool b)]) → K rs) = ∀ b : Bool, K [.d (.bool b)] := by
  apply propext; constructor
  · intro h b; exact h _ ⟨b, rfl⟩
  · rintro h rs ⟨b, rfl⟩; exact h b
theorem ex_eq {A : Type} {a : A} : (∃ x, x = a) = True := by
  apply propext; exact ⟨fun _ => trivial, fun _ => ⟨a, rfl⟩⟩
theorem wrap_i (x : Int) : IntKind.i64.wrap x = if x % 18446744073709551616 ≥ 9223372036854775808 then x % 18446744073709551616 - 18446744073709551616 else x % 18446744073709551616 := by
  simp [IntKind.wrap, IntKind.bits, IntKind.signed]
theorem wrap64 {x : Int} (h1 : -9223372036854775808 ≤ x) (h2 : x ≤ 9223372036854775807) : IntKind.i64.wrap x = x := by
  rw [wrap_i]
  split <;> omega
theorem maxLen_eq : maxLen = 9223372036854775807 := rfl
theorem all_ex {A : Type} {F : A → List RV} {K : List RV → Prop} : (∀ rs, (∃ x, rs = F x) → K rs) = ∀ x, K (F x) := by
  apply propext; constructor
  · intro h b; exact h _ ⟨b, rfl⟩
  · rintro h rs ⟨b, rfl⟩; exact h b
theorem all_exc {A : Type} {C : A → Prop} {F : A → List RV} {K : List RV → Prop} : (∀ rs, (∃ x, C x ∧ rs = F x) → K rs) = ∀ x, C x → K (F x) := by
  apply propext; constructor
  · intro h b hb; exact h _ ⟨b, hb, rfl⟩
  · rintro h rs ⟨b, hb, rfl⟩; exact h b hb
theorem ex_ex {A : Type} [Inhabited A] {F : A → List RV} : (∃ rs, ∃ x, rs = F x) = True := by
  apply propext; exact ⟨fun _ => trivial, fun _ => ⟨_, default, rfl⟩⟩
theorem ex_exc {A : Type} {C : A → Prop} {F : A → List RV} : (∃ rs, ∃ x, C x ∧ rs = F x) = ∃ x, C x := by
  apply propext; exact ⟨fun ⟨_, x, h, _⟩ => ⟨x, h⟩, fun ⟨x, h⟩ => ⟨_, x, h, rfl⟩⟩
theorem ex_btrue {C : Prop} : (∃ b : Bool, b = true → C) = True := by
  apply propext; exact ⟨fun _ => trivial, fun _ => ⟨false, by simp⟩⟩
theorem dropObs_nil (o : Objs) : dropObs o [] = o := by funext k; simp [dropObs]
theorem dropObs_apply (o : Objs) (ks : List Nat) (k : Nat) : dropObs o ks k = if ks.contains k = true then ((o k).1, none) else o k := by simp [dropObs]
theorem contains_cons' (a k : Nat) (l : List Nat) : (a :: l).contains k = (k == a || l.contains k) := List.contains_cons
theorem newOb_apply (o : Objs) (K : Nat) (x : Ob) (k : Nat) : newOb o K x k = if k = K then ((o K).1 + 1, some x) else o k := rfl
theorem bsize (a : Array UInt8) : (ByteArray.mk a).size = a.size := rfl
theorem lapp_nil {α : Type} (l : List α) : List.append [] l = l := rfl
theorem lapp_cons {α : Type} (a : α) (l m : List α) : List.append (a :: l) m = a :: List.append l m := rfl
end Go.Proofs.Ytomnjbebgfadoaa.Pi
