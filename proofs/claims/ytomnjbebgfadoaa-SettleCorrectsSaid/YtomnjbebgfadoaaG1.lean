/- Data of a pure interpreter for the program's functions: what a value of the machine reads as (D), what a temporary holds (PV), what an object of the call's own holds (Ob), and the relations between these and the machine's world.
   Conditions: none; a text of definitions and of lemmas on them. -/
import Derived.Orders
import Derived.Below
import Derived.Maps.AppendAt
import Derived.Laws.MakeOwn
import Derived.Laws.OwnMore
import Derived.Laws.NewBlocks
import Derived.OwnWalk
import Derived.KernelRfl
import Derived.Laws.StructEq
import Derived.Laws.Cover3
import Derived.Deep.MidRow
import Derived.Laws.CopyRow
import Derived.MapKept
import Derived.Maps.RangeRun
import Derived.Great.BuildSlice
import Derived.ArgAppend
section
set_option linter.unusedVariables false
set_option linter.unusedSimpArgs false
namespace Go.Proofs.Ytomnjbebgfadoaa.Pi
open Go Go.RowKit

/-! ### 1. Data -/
inductive D where
  | int (k : IntKind) (n : Int)
  | bool (b : Bool)
  | str (s : ByteArray)
  | lst (sz : Nat) (xs : List (List D))
  | agg (cs : List D)
  | ptr (cs : List D) (off : Nat)
  | fn (f : Nat) (caps : List D)
  | nil (k : Nat)
/-- The nil values of one cell: of maps, pointers, functions, interfaces. -/
def nilV : Nat → Value
  | 0 => .map none
  | 1 => .pointer none
  | 2 => .nilFunc
  | _ => .nilIface
instance : Inhabited D := ⟨.bool false⟩

mutual
def D.rd (w : World) (ok : Nat → Prop) : D → Value → Prop
  | .int k n, v => v = .int k n
  | .bool b, v => v = .bool b
  | .str s, v => v = .string s ∧ s.size ≤ maxLen
  | .lst sz xs, v => ∃ A c, v = .slice A xs.length c ∧ (xs.length ≤ c ∧ (A = none → c = 0)) ∧ xs.length ≤ maxLen ∧ (xs ≠ [] → ∃ b o, A = some ⟨b, o, none⟩ ∧ rdRows w ok sz b o xs)
  | .agg cs, v => ∃ vs, v = .agg vs ∧ (∀ u ∈ vs.toList, u.oneCell' = true) ∧ rdVals w ok cs vs.toList
  | .ptr cs off, v => ∃ b o, v = .pointer (some ⟨b, o + off, none⟩) ∧ rdCells w ok b o cs
  | .fn f caps, v => ∃ vs, v = .func (.func f) #[] vs ∧ rdVals w ok caps vs.toList
  | .nil k, v => v = nilV k
def rdVals (w : World) (ok : Nat → Prop) : List D → List Value → Prop
  | [], vs => vs = []
  | d :: ds, vs => ∃ v vs', vs = v :: vs' ∧ d.rd w ok v ∧ rdVals w ok ds vs'
def rdCells (w : World) (ok : Nat → Prop) (b : Nat) : Nat → List D → Prop
  | _, [] => True
  | o, d :: ds => (ok b ∧ ∃ u, w.cell? ⟨b, o, none⟩ = some u ∧ u.oneCell' = true ∧ d.rd w ok u) ∧ rdCells w ok b (o + 1) ds
def rdRows (w : World) (ok : Nat → Prop) (sz : Nat) (b : Nat) : Nat → List (List D) → Prop
  | _, [] => True
  | o, r :: rs => (r.length = sz ∧ rdCells w ok b o r) ∧ rdRows w ok sz b (o + sz) rs
end

/-- The blocks that are read stand as they stood. -/
def Keeps (w : World) (ok : Nat → Prop) (w' : World) (ok' : Nat → Prop) : Prop := ∀ b, b < w.heap.size → ok b → ok' b ∧ w'.heap[b]? = w.heap[b]?

theorem Keeps.cell {w w' : World} {ok ok' : Nat → Prop} (h : Keeps w ok w' ok') {b o : Nat} {u : Value} (hb : ok b) (hc : w.cell? ⟨b, o, none⟩ = some u) : ok' b ∧ w'.cell? ⟨b, o, none⟩ = some u := by
  have hlt := World.block_lt_of_cell? w _ hc
  obtain ⟨h1, h2⟩ := h b hlt hb
  exact ⟨h1, (World.cell?_of_block (w := w) (w' := w') (a := ⟨b, o, none⟩) h2).trans hc⟩

mutual
theorem D.rd_keeps {w w' : World} {ok ok' : Nat → Prop} (h : Keeps w ok w' ok') : ∀ (d : D) (v : Value), d.rd w ok v → d.rd w' ok' v
  | .int k n, v, hd => by simpa only [D.rd] using hd
  | .bool b, v, hd => by simpa only [D.rd] using hd
  | .str s, v, hd => by simpa only [D.rd] using hd
  | .lst sz xs, v, hd => by
    simp only [D.rd] at hd ⊢
    obtain ⟨A, c, hv, h1, h2, h3⟩ := hd
    refine ⟨A, c, hv, h1, h2, fun hx => ?_⟩
    obtain ⟨b, o, hA, hr⟩ := h3 hx
    exact ⟨b, o, hA, rdRows_keeps h sz b o xs hr⟩
  | .agg cs, v, hd => by
    simp only [D.rd] at hd ⊢
    obtain ⟨vs, hv, h1, hr⟩ := hd
    exact ⟨vs, hv, h1, rdVals_keeps h cs _ hr⟩
  | .ptr cs off, v, hd => by
    simp only [D.rd] at hd ⊢
    obtain ⟨b, o, hv, hr⟩ := hd
    exact ⟨b, o, hv, rdCells_keeps h b o cs hr⟩
  | .fn f caps, v, hd => by
    simp only [D.rd] at hd ⊢
    obtain ⟨vs, hv, hr⟩ := hd
    exact ⟨vs, hv, rdVals_keeps h caps _ hr⟩
  | .nil k, v, hd => by simpa only [D.rd] using hd
theorem rdVals_keeps {w w' : World} {ok ok' : Nat → Prop} (h : Keeps w ok w' ok') : ∀ (ds : List D) (vs : List Value), rdVals w ok ds vs → rdVals w' ok' ds vs
  | [], vs, hd => by simpa only [rdVals] using hd
  | d :: ds, vs, hd => by
    simp only [rdVals] at hd ⊢
    obtain ⟨v, vs', e, h1, h2⟩ := hd
    exact ⟨v, vs', e, d.rd_keeps h v h1, rdVals_keeps h ds vs' h2⟩
theorem rdCells_keeps {w w' : World} {ok ok' : Nat → Prop} (h : Keeps w ok w' ok') (b : Nat) : ∀ (o : Nat) (ds : List D), rdCells w ok b o ds → rdCells w' ok' b o ds
  | o, [], hd => by simp only [rdCells]
  | o, d :: ds, hd => by
    simp only [rdCells] at hd ⊢
    obtain ⟨⟨hb, u, hc, h1, hr⟩, hs⟩ := hd
    exact ⟨⟨(h.cell hb hc).1, u, (h.cell hb hc).2, h1, d.rd_keeps h u hr⟩, rdCells_keeps h b (o + 1) ds hs⟩
theorem rdRows_keeps {w w' : World} {ok ok' : Nat → Prop} (h : Keeps w ok w' ok') (sz b : Nat) : ∀ (o : Nat) (rs : List (List D)), rdRows w ok sz b o rs → rdRows w' ok' sz b o rs
  | o, [], hd => by simp only [rdRows]
  | o, r :: rs, hd => by
    simp only [rdRows] at hd ⊢
    obtain ⟨⟨hl, hc⟩, hs⟩ := hd
    exact ⟨⟨hl, rdCells_keeps h b o r hc⟩, rdRows_keeps h sz b (o + sz) rs hs⟩
end

theorem rdVals_length {w : World} {ok : Nat → Prop} : ∀ {ds : List D} {vs : List Value}, rdVals w ok ds vs → vs.length = ds.length
  | [], vs, h => by simp only [rdVals] at h; simp [h]
  | d :: ds, vs, h => by
    simp only [rdVals] at h
    obtain ⟨v, vs', rfl, _, h2⟩ := h
    simp [rdVals_length h2]

theorem rdVals_get {w : World} {ok : Nat → Prop} : ∀ {ds : List D} {vs : List Value}, rdVals w ok ds vs → ∀ (i : Nat) (d : D), ds[i]? = some d → ∃ v, vs[i]? = some v ∧ d.rd w ok v
  | [], vs, h, i, d, hd => by simp at hd
  | x :: ds, vs, h, i, d, hd => by
    simp only [rdVals] at h
    obtain ⟨v, vs', rfl, h1, h2⟩ := h
    cases i with
    | zero => simp at hd; subst hd; exact ⟨v, by simp, h1⟩
    | succ i => simpa using rdVals_get h2 i d (by simpa using hd)

theorem rdVals_append {w : World} {ok : Nat → Prop} : ∀ {ds es : List D} {vs us : List Value}, rdVals w ok ds vs → rdVals w ok es us → rdVals w ok (ds ++ es) (vs ++ us)
  | [], es, vs, us, h, h' => by simp only [rdVals] at h; subst h; simpa using h'
  | d :: ds, es, vs, us, h, h' => by
    simp only [rdVals] at h
    obtain ⟨v, vs', rfl, h1, h2⟩ := h
    simp only [List.cons_append, rdVals]
    exact ⟨v, vs' ++ us, rfl, h1, rdVals_append h2 h'⟩

theorem rdVals_split {w : World} {ok : Nat → Prop} : ∀ {ds es : List D} {vs : List Value}, rdVals w ok (ds ++ es) vs → rdVals w ok ds (vs.take ds.length) ∧ rdVals w ok es (vs.drop ds.length)
  | [], es, vs, h => by simpa [rdVals] using h
  | d :: ds, es, vs, h => by
    simp only [List.cons_append, rdVals] at h
    obtain ⟨v, vs', rfl, h1, h2⟩ := h
    have := rdVals_split h2
    simp only [List.length_cons, List.take_succ_cons, List.drop_succ_cons, rdVals]
    exact ⟨⟨v, _, rfl, h1, this.1⟩, this.2⟩

theorem rdVals_set {w : World} {ok : Nat → Prop} : ∀ {ds : List D} {vs : List Value}, rdVals w ok ds vs → ∀ (i : Nat) {d : D} {v : Value}, d.rd w ok v → rdVals w ok (ds.set i d) (vs.set i v)
  | [], vs, h, i, d, v, hd => by simp only [rdVals] at h; subst h; simp [rdVals]
  | x :: ds, vs, h, i, d, v, hd => by
    simp only [rdVals] at h
    obtain ⟨u, vs', rfl, h1, h2⟩ := h
    cases i with
    | zero => simp only [List.set_cons_zero, rdVals]; exact ⟨v, vs', rfl, hd, h2⟩
    | succ i => simp only [List.set_cons_succ, rdVals]; exact ⟨u, _, rfl, h1, rdVals_set h2 i hd⟩

theorem rdCells_get {w : World} {ok : Nat → Prop} {b : Nat} : ∀ {o : Nat} {ds : List D}, rdCells w ok b o ds → ∀ (i : Nat) (d : D), ds[i]? = some d → ok b ∧ ∃ u, w.cell? ⟨b, o + i, none⟩ = some u ∧ u.oneCell' = true ∧ d.rd w ok u
  | o, [], h, i, d, hd => by simp at hd
  | o, x :: ds, h, i, d, hd => by
    simp only [rdCells] at h
    cases i with
    | zero => simp at hd; subst hd; exact h.1
    | succ i =>
      have := rdCells_get h.2 i d (by simpa using hd)
      rwa [show o + 1 + i = o + (i + 1) by omega] at this

theorem rdCells_mk {w : World} {ok : Nat → Prop} {b : Nat} : ∀ {o : Nat} {ds : List D}, (∀ (i : Nat) (d : D), ds[i]? = some d → ok b ∧ ∃ u, w.cell? ⟨b, o + i, none⟩ = some u ∧ u.oneCell' = true ∧ d.rd w ok u) → rdCells w ok b o ds
  | o, [], h => by simp only [rdCells]
  | o, x :: ds, h => by
    simp only [rdCells]
    refine ⟨by simpa using h 0 x (by simp), rdCells_mk fun i d hd => ?_⟩
    have := h (i + 1) d (by simpa using hd)
    rwa [show o + (i + 1) = o + 1 + i by omega] at this

theorem rdRows_get {w : World} {ok : Nat → Prop} {sz b : Nat} : ∀ {o : Nat} {rs : List (List D)}, rdRows w ok sz b o rs → ∀ (i : Nat) (r : List D), rs[i]? = some r → r.length = sz ∧ rdCells w ok b (o + i * sz) r
  | o, [], h, i, d, hd => by simp at hd
  | o, x :: rs, h, i, r, hd => by
    simp only [rdRows] at h
    cases i with
    | zero => simp at hd; subst hd; simpa using h.1
    | succ i =>
      have := rdRows_get h.2 i r (by simpa using hd)
      rwa [show o + sz + i * sz = o + (i + 1) * sz by rw [Nat.add_mul]; omega] at this

theorem rdRows_mk {w : World} {ok : Nat → Prop} {sz b : Nat} : ∀ {o : Nat} {rs : List (List D)}, (∀ (i : Nat) (r : List D), rs[i]? = some r → r.length = sz ∧ rdCells w ok b (o + i * sz) r) → rdRows w ok sz b o rs
  | o, [], h => by simp only [rdRows]
  | o, x :: rs, h => by
    simp only [rdRows]
    refine ⟨by simpa using h 0 x (by simp), rdRows_mk fun i r hr => ?_⟩
    have := h (i + 1) r (by simpa using hr)
    rwa [show o + (i + 1) * sz = o + sz + i * sz by rw [Nat.add_mul]; omega] at this

/-- All cells of rows of one size, one after the other. -/
theorem flat_length {α : Type} {sz : Nat} : ∀ {rs : List (List α)}, (∀ r ∈ rs, r.length = sz) → rs.flatten.length = rs.length * sz
  | [], _ => by simp
  | r :: rs, h => by
    simp only [List.flatten_cons, List.length_append, List.length_cons]
    rw [h r (by simp), flat_length (fun x hx => h x (by simp [hx])), Nat.add_mul]
    omega

theorem flat_get {α : Type} {sz : Nat} : ∀ {rs : List (List α)}, (∀ r ∈ rs, r.length = sz) → ∀ (i j : Nat) (r : List α) (x : α), rs[i]? = some r → r[j]? = some x → rs.flatten[i * sz + j]? = some x
  | [], _, i, j, r, x, hi, hj => by simp at hi
  | r0 :: rs, h, i, j, r, x, hi, hj => by
    have h0 := h r0 (by simp)
    simp only [List.flatten_cons]
    cases i with
    | zero =>
      simp at hi; subst hi
      have hlt : j < r0.length := (List.getElem?_eq_some_iff.1 hj).1
      rw [List.getElem?_append_left (by omega)]
      simpa using hj
    | succ i =>
      have := flat_get (rs := rs) (fun y hy => h y (List.mem_cons_of_mem _ hy)) i j r x (by simpa using hi) hj
      rw [List.getElem?_append_right (by rw [h0, Nat.add_mul]; omega), h0]
      rwa [show (i + 1) * sz + j - sz = i * sz + j by rw [Nat.add_mul]; omega]

end Go.Proofs.Ytomnjbebgfadoaa.Pi
end
section
/- The states of the pure interpreter, and what it means that a state of the machine is told by one.
   Conditions: none; a text of definitions and of lemmas on them. -/
set_option linter.unusedVariables false
set_option linter.unusedSimpArgs false
namespace Go.Proofs.Ytomnjbebgfadoaa.Pi
open Go Go.RowKit

/-! ### 2. Values of temporaries; objects of the call's own; states -/
inductive PV where
  | un
  | d (x : D)
  | nils
  | ref (K ver sz i off : Nat)
  | row (K ver n : Nat)
  | map (K ver : Nat)
  | fn (f : Nat) (caps : List PV)
  | agg (cs : List PV)
  | tup (vs : List PV)
  | opt (b : Bool) (x : PV)
  | clip (sz : Nat) (xs : List (List D))
  | sub (K ver sz i n : Nat)
instance : Inhabited PV := ⟨.un⟩

/-- Objects: a slice whose cells are data; a variable; a slice whose cells are told one by one; a map (the entries' stamps, keys and values). -/
inductive Ob where
  | row (sz e : Nat) (xs : List (List D))
  | box (e : Nat) (cs : List PV)
  | vec (sz e : Nat) (xs : List (List PV))
  | map (kt e clock : Nat) (es : List (Nat × D × PV))
  | iter (M mver since : Nat) (seen : List Nat) (last : Nat)

structure St where
  t : Nat → PV
  o : Nat → Nat × Option Ob

def hblk : Value → Option Nat
  | .slice (some a) _ _ => some a.block
  | .pointer (some a) => some a.block
  | .map (some b) => some b
  | _ => none

def live (o : Nat → Nat × Option Ob) (K ver : Nat) : Prop := (o K).1 = ver ∧ (o K).2 ≠ none

mutual
def PV.rel (o : Nat → Nat × Option Ob) (α : Nat → Value) (w : World) (ok : Nat → Prop) : PV → Value → Prop
  | .un, _ => True
  | .d x, v => x.rd w ok v
  | .nils, v => v = .slice none 0 0
  | .ref K ver sz i off, v => ((∃ g, v = .pointer (some ⟨g, i * sz + off, none⟩)) ∧ ver ≤ (o K).1) ∧ (live o K ver → ∃ g, hblk (α K) = some g ∧ v = .pointer (some ⟨g, i * sz + off, none⟩))
  | .row K ver n, v => ((∃ A c, v = .slice A n c ∧ n ≤ maxLen ∧ (0 < n → ∃ g, A = some ⟨g, 0, none⟩)) ∧ ver ≤ (o K).1) ∧ (live o K ver → v = α K)
  | .map K ver, v => (v.oneCell' = true ∧ ver ≤ (o K).1) ∧ (live o K ver → v = α K)
  | .fn f caps, v => ∃ vs, v = .func (.func f) #[] vs ∧ PV.rels o α w ok caps vs.toList
  | .agg cs, v => ∃ vs, v = .agg vs ∧ (∀ u ∈ vs.toList, u.oneCell' = true) ∧ PV.rels o α w ok cs vs.toList
  | .tup xs, v => ∃ vs, v = .tuple vs ∧ PV.rels o α w ok xs vs.toList
  | .opt b x, v => (b = true → x.rel o α w ok v) ∧ (b = false → v = undef)
  | .clip sz xs, v => (∃ A, v = .slice A xs.length xs.length) ∧ (D.lst sz xs).rd w ok v
  | .sub K ver sz i n, v => ((∃ A c, v = .slice A n c) ∧ ver ≤ (o K).1) ∧ (live o K ver → 0 < n → ∃ g c, hblk (α K) = some g ∧ v = .slice (some ⟨g, i * sz, none⟩) n c)
def PV.rels (o : Nat → Nat × Option Ob) (α : Nat → Value) (w : World) (ok : Nat → Prop) : List PV → List Value → Prop
  | [], vs => vs = []
  | x :: xs, vs => ∃ v vs', vs = v :: vs' ∧ x.rel o α w ok v ∧ PV.rels o α w ok xs vs'
end

/-- The entries of a map. -/
def relME (o : Nat → Nat × Option Ob) (α : Nat → Value) (w : World) (ok : Nat → Prop) : List (Nat × D × PV) → List MapEntry → Prop
  | [], l => l = []
  | x :: es, l => ∃ m l', l = m :: l' ∧ (m.born = x.1 ∧ x.2.1.rd w ok m.key ∧ x.2.2.rel o α w ok m.val) ∧ relME o α w ok es l'
def Ob.rel (o : Nat → Nat × Option Ob) (α : Nat → Value) (w : World) (ok : Nat → Prop) (base : Nat) (hdr : Value) : Ob → Prop
  | .row sz e xs => ∃ vals, w.ownsRow base e sz hdr xs.length vals ∧ (∀ r ∈ xs, r.length = sz) ∧ rdVals w ok xs.flatten vals ∧ (∀ u ∈ vals, u.oneCell' = true)
  | .box e cs => ∃ g vals, hdr = .pointer (some ⟨g, 0, none⟩) ∧ base ≤ g ∧ w.heap[g]? = some (.cells vals e (0, 0)) ∧ PV.rels o α w ok cs vals.toList ∧ (∀ u ∈ vals.toList, u.oneCell' = true)
  | .vec sz e xs => ∃ vals, w.ownsRow base e sz hdr xs.length vals ∧ (∀ r ∈ xs, r.length = sz) ∧ PV.rels o α w ok xs.flatten vals ∧ (∀ u ∈ vals, u.oneCell' = true)
  | .map kt e clock es => ∃ g ents, hdr = .map (some g) ∧ base ≤ g ∧ w.heap[g]? = some (.map ents clock) ∧ relME o α w ok es ents.toList
  | .iter M mver since seen last => ∃ g m, hdr = .pointer (some ⟨g, 0, none⟩) ∧ base ≤ g ∧ w.heap[g]? = some (.mapIter (some m) since seen.toArray last) ∧ (PV.map M mver).rel o α w ok (.map (some m))

/-- The blocks that no object of the call's own lies in. -/
def okOf (A : Nat → Prop) (o : Nat → Nat × Option Ob) (α : Nat → Value) : Nat → Prop := fun b => A b ∧ ∀ K, (o K).2 ≠ none → hblk (α K) ≠ some b
/-- What a frame keeps: values that are told along, and the blocks that may be read as data. -/
structure Fr where
  x : PV → Value → Prop
  A : Nat → Prop


structure Rel (N base : Nat) (w0 : World) (X : Fr) (S : St) (α : Nat → Value) (a : Act) (w : World) : Prop where
  defers : a.defers = []
  size : N ≤ a.tmps.size
  t : ∀ k, (S.t k).rel S.o α w (okOf X.A S.o α) (a.tmps.getD k undef)
  o : ∀ K x, (S.o K).2 = some x → x.rel S.o α w (okOf X.A S.o α) base (α K)
  inj : ∀ K K', K ≠ K' → (S.o K).2 ≠ none → (S.o K').2 ≠ none → ∀ g, hblk (α K) = some g → hblk (α K') ≠ some g
  below : Below base w0 w
  free : ∀ b, base ≤ b → X.A b
  base : base ≤ w.heap.size
  x : ∀ p v, X.x p v → p.rel S.o α w (okOf X.A S.o α) v

/-- What is told but a frame's temporaries. -/
structure RelO (base : Nat) (w0 : World) (X : Fr) (o : Nat → Nat × Option Ob) (α : Nat → Value) (w : World) : Prop where
  obs : ∀ K x, (o K).2 = some x → x.rel o α w (okOf X.A o α) base (α K)
  inj : ∀ K K', K ≠ K' → (o K).2 ≠ none → (o K').2 ≠ none → ∀ g, hblk (α K) = some g → hblk (α K') ≠ some g
  below : Below base w0 w
  free : ∀ b, base ≤ b → X.A b
  base : base ≤ w.heap.size
  x : ∀ p v, X.x p v → p.rel o α w (okOf X.A o α) v
theorem Rel.toO {N base : Nat} {w0 : World} {X : Fr} {S : St} {α : Nat → Value} {a : Act} {w : World} (h : Rel N base w0 X S α a w) : RelO base w0 X S.o α w := ⟨h.o, h.inj, h.below, h.free, h.base, h.x⟩

/-- What refers to an object goes on doing so, or is no longer looked at. -/
def Turns (o : Nat → Nat × Option Ob) (α : Nat → Value) (o' : Nat → Nat × Option Ob) (α' : Nat → Value) : Prop :=
  ∀ K ver, ver ≤ (o K).1 → ver ≤ (o' K).1 ∧ (live o' K ver → live o K ver ∧ α' K = α K)

theorem Turns.refl (o : Nat → Nat × Option Ob) (α : Nat → Value) : Turns o α o α := fun K ver h => ⟨h, fun h' => ⟨h', rfl⟩⟩
theorem Keeps.refl (w : World) (ok : Nat → Prop) : Keeps w ok w ok := fun b _ h => ⟨h, rfl⟩

section
variable {o o' : Nat → Nat × Option Ob} {α α' : Nat → Value} {w w' : World} {ok ok' : Nat → Prop}
mutual
theorem PV.rel_turn (hk : Keeps w ok w' ok') (ht : Turns o α o' α') : ∀ (p : PV) (v : Value), p.rel o α w ok v → p.rel o' α' w' ok' v
  | .un, v, h => by simp only [PV.rel]
  | .d x, v, h => by simp only [PV.rel] at h ⊢; exact x.rd_keeps hk v h
  | .nils, v, h => by simpa only [PV.rel] using h
  | .ref K ver sz i off, v, h => by
    simp only [PV.rel] at h ⊢
    obtain ⟨h1, h2⟩ := ht K ver h.1.2
    refine ⟨⟨h.1.1, h1⟩, fun hl => ?_⟩
    obtain ⟨h3, h4⟩ := h2 hl
    rw [h4]
    exact h.2 h3
  | .row K ver n, v, h => by
    simp only [PV.rel] at h ⊢
    obtain ⟨h1, h2⟩ := ht K ver h.1.2
    refine ⟨⟨h.1.1, h1⟩, fun hl => ?_⟩
    obtain ⟨h3, h4⟩ := h2 hl
    rw [h4]
    exact h.2 h3
  | .map K ver, v, h => by
    simp only [PV.rel] at h ⊢
    obtain ⟨h1, h2⟩ := ht K ver h.1.2
    refine ⟨⟨h.1.1, h1⟩, fun hl => ?_⟩
    obtain ⟨h3, h4⟩ := h2 hl
    rw [h4]
    exact h.2 h3
  | .fn f caps, v, h => by
    simp only [PV.rel] at h ⊢
    obtain ⟨vs, e, hr⟩ := h
    exact ⟨vs, e, PV.rels_turn hk ht caps _ hr⟩
  | .agg cs, v, h => by
    simp only [PV.rel] at h ⊢
    obtain ⟨vs, e, h1, hr⟩ := h
    exact ⟨vs, e, h1, PV.rels_turn hk ht cs _ hr⟩
  | .tup cs, v, h => by
    simp only [PV.rel] at h ⊢
    obtain ⟨vs, e, hr⟩ := h
    exact ⟨vs, e, PV.rels_turn hk ht cs _ hr⟩
  | .opt b x, v, h => by
    simp only [PV.rel] at h ⊢
    exact ⟨fun hb => x.rel_turn hk ht v (h.1 hb), h.2⟩
  | .clip sz xs, v, h => by
    simp only [PV.rel] at h ⊢
    exact ⟨h.1, (D.lst sz xs).rd_keeps hk v h.2⟩
  | .sub K ver sz i n, v, h => by
    simp only [PV.rel] at h ⊢
    obtain ⟨h1, h2⟩ := ht K ver h.1.2
    refine ⟨⟨h.1.1, h1⟩, fun hl => ?_⟩
    obtain ⟨h3, h4⟩ := h2 hl
    rw [h4]
    exact h.2 h3
theorem PV.rels_turn (hk : Keeps w ok w' ok') (ht : Turns o α o' α') : ∀ (ps : List PV) (vs : List Value), PV.rels o α w ok ps vs → PV.rels o' α' w' ok' ps vs
  | [], vs, h => by simpa only [PV.rels] using h
  | p :: ps, vs, h => by
    simp only [PV.rels] at h ⊢
    obtain ⟨v, vs', e, h1, h2⟩ := h
    exact ⟨v, vs', e, p.rel_turn hk ht v h1, PV.rels_turn hk ht ps vs' h2⟩
end

theorem PV.rels_length : ∀ {ps : List PV} {vs : List Value}, PV.rels o α w ok ps vs → vs.length = ps.length
  | [], vs, h => by simp only [PV.rels] at h; simp [h]
  | p :: ps, vs, h => by
    simp only [PV.rels] at h
    obtain ⟨v, vs', rfl, _, h2⟩ := h
    simp [PV.rels_length h2]
theorem PV.rels_get : ∀ {ps : List PV} {vs : List Value}, PV.rels o α w ok ps vs → ∀ (i : Nat) (p : PV), ps[i]? = some p → ∃ v, vs[i]? = some v ∧ p.rel o α w ok v
  | [], vs, h, i, p, hp => by simp at hp
  | x :: ps, vs, h, i, p, hp => by
    simp only [PV.rels] at h
    obtain ⟨v, vs', rfl, h1, h2⟩ := h
    cases i with
    | zero => simp at hp; subst hp; exact ⟨v, by simp, h1⟩
    | succ i => simpa using PV.rels_get h2 i p (by simpa using hp)
theorem PV.rels_set : ∀ {ps : List PV} {vs : List Value}, PV.rels o α w ok ps vs → ∀ (i : Nat) {p : PV} {v : Value}, p.rel o α w ok v → PV.rels o α w ok (ps.set i p) (vs.set i v)
  | [], vs, h, i, p, v, hp => by simp only [PV.rels] at h; subst h; simp [PV.rels]
  | x :: ps, vs, h, i, p, v, hp => by
    simp only [PV.rels] at h
    obtain ⟨u, vs', rfl, h1, h2⟩ := h
    cases i with
    | zero => simp only [List.set_cons_zero, PV.rels]; exact ⟨v, vs', rfl, hp, h2⟩
    | succ i => simp only [List.set_cons_succ, PV.rels]; exact ⟨u, _, rfl, h1, PV.rels_set h2 i hp⟩
theorem PV.rels_append : ∀ {ps qs : List PV} {vs us : List Value}, PV.rels o α w ok ps vs → PV.rels o α w ok qs us → PV.rels o α w ok (ps ++ qs) (vs ++ us)
  | [], qs, vs, us, h, h' => by simp only [PV.rels] at h; subst h; simpa using h'
  | q :: ds, qs, vs, us, h, h' => by
    simp only [PV.rels] at h
    obtain ⟨v, vs', rfl, h1, h2⟩ := h
    simp only [List.cons_append, PV.rels]
    exact ⟨v, vs' ++ us, rfl, h1, PV.rels_append h2 h'⟩
theorem PV.rels_take : ∀ {ps : List PV} {vs : List Value}, PV.rels o α w ok ps vs → ∀ n, PV.rels o α w ok (ps.take n) (vs.take n)
  | [], vs, h, n => by simp only [PV.rels] at h; subst h; simp [PV.rels]
  | x :: ps, vs, h, n => by
    simp only [PV.rels] at h
    obtain ⟨u, vs', rfl, h1, h2⟩ := h
    cases n with
    | zero => simp [PV.rels]
    | succ n => simp only [List.take_succ_cons, PV.rels]; exact ⟨u, _, rfl, h1, PV.rels_take h2 n⟩
theorem PV.rels_drop : ∀ {ps : List PV} {vs : List Value}, PV.rels o α w ok ps vs → ∀ n, PV.rels o α w ok (ps.drop n) (vs.drop n)
  | [], vs, h, n => by simp only [PV.rels] at h; subst h; simp [PV.rels]
  | x :: ps, vs, h, n => by
    simp only [PV.rels] at h
    obtain ⟨u, vs', rfl, h1, h2⟩ := h
    cases n with
    | zero => simp only [List.drop_zero, PV.rels]; exact ⟨u, vs', rfl, h1, h2⟩
    | succ n => simpa only [List.drop_succ_cons] using PV.rels_drop h2 n
theorem PV.rels_d : ∀ {ds : List D} {vs : List Value}, rdVals w ok ds vs → PV.rels o α w ok (ds.map PV.d) vs
  | [], vs, h => by simpa only [rdVals, List.map_nil, PV.rels] using h
  | q :: ds, vs, h => by
    simp only [rdVals] at h
    obtain ⟨v, vs', e, h1, h2⟩ := h
    simp only [List.map_cons, PV.rels, PV.rel]
    exact ⟨v, vs', e, h1, PV.rels_d h2⟩

theorem relME_turn (hk : Keeps w ok w' ok') (ht : Turns o α o' α') : ∀ (es : List (Nat × D × PV)) (l : List MapEntry), relME o α w ok es l → relME o' α' w' ok' es l
  | [], l, h => by simpa only [relME] using h
  | x :: es, l, h => by
    simp only [relME] at h ⊢
    obtain ⟨m, l', e, ⟨h1, h2, h3⟩, h4⟩ := h
    exact ⟨m, l', e, ⟨h1, x.2.1.rd_keeps hk _ h2, x.2.2.rel_turn hk ht _ h3⟩, relME_turn hk ht es l' h4⟩
theorem rowHdr_lt {base e sz n : Nat} {hdr : Value} {vals : List Value} (hown : w.ownsRow base e sz hdr n vals) : ∀ g, hblk hdr = some g → base ≤ g ∧ g < w.heap.size := by
  intro g hg
  refine hown.lt g ?_
  rcases hown.2 with ⟨rfl, _⟩ | ⟨g', cap, cur, rfl, _⟩
  · simp [hblk] at hg
  · simpa [hblk, Value.ownBlock] using hg
theorem Ob.rel_lt {base : Nat} {hdr : Value} : ∀ {x : Ob}, x.rel o α w ok base hdr → ∀ g, hblk hdr = some g → base ≤ g ∧ g < w.heap.size
  | .row sz e xs, h, g, hg => by
    obtain ⟨vals, hown, _⟩ := h
    exact rowHdr_lt hown g hg
  | .box e cs, h, g, hg => by
    obtain ⟨g', vals, rfl, hb, hh, _⟩ := h
    simp [hblk] at hg
    subst hg
    exact ⟨hb, (Array.getElem?_eq_some_iff.1 hh).1⟩
  | .vec sz e xs, h, g, hg => by
    obtain ⟨vals, hown, _⟩ := h
    exact rowHdr_lt hown g hg
  | .map kt e clock es, h, g, hg => by
    obtain ⟨g', ents, rfl, hb, hh, _⟩ := h
    simp [hblk] at hg
    subst hg
    exact ⟨hb, (Array.getElem?_eq_some_iff.1 hh).1⟩
  | .iter M mver since seen last, h, g, hg => by
    obtain ⟨g', m, rfl, hb, hh, _⟩ := h
    simp [hblk] at hg
    subst hg
    exact ⟨hb, (Array.getElem?_eq_some_iff.1 hh).1⟩

/-- An object whose block stands as it stood. -/
theorem Ob.rel_turn (hk : Keeps w ok w' ok') (ht : Turns o α o' α') {base : Nat} {hdr : Value} (hb : ∀ g, hblk hdr = some g → w'.heap[g]? = w.heap[g]?) : ∀ {x : Ob}, x.rel o α w ok base hdr → x.rel o' α' w' ok' base hdr
  | .row sz e xs, h => by
    obtain ⟨vals, hown, h1, h2, h3⟩ := h
    refine ⟨vals, ⟨hown.1, ?_⟩, h1, rdVals_keeps hk _ _ h2, h3⟩
    rcases hown.2 with hn | ⟨g, cap, cur, rfl, hbg, hh, rest⟩
    · exact .inl hn
    · exact .inr ⟨g, cap, cur, rfl, hbg, (hb g rfl).trans hh, rest⟩
  | .box e cs, h => by
    obtain ⟨g, vals, rfl, hbg, hh, hr, h1⟩ := h
    exact ⟨g, vals, rfl, hbg, (hb g rfl).trans hh, PV.rels_turn hk ht _ _ hr, h1⟩
  | .vec sz e xs, h => by
    obtain ⟨vals, hown, h1, h2, h3⟩ := h
    refine ⟨vals, ⟨hown.1, ?_⟩, h1, PV.rels_turn hk ht _ _ h2, h3⟩
    rcases hown.2 with hn | ⟨g, cap, cur, rfl, hbg, hh, rest⟩
    · exact .inl hn
    · exact .inr ⟨g, cap, cur, rfl, hbg, (hb g rfl).trans hh, rest⟩
  | .map kt e clock es, h => by
    obtain ⟨g, ents, rfl, hbg, hh, hr⟩ := h
    exact ⟨g, ents, rfl, hbg, (hb g rfl).trans hh, relME_turn hk ht _ _ hr⟩
  | .iter M mver since seen last, h => by
    obtain ⟨g, m, rfl, hbg, hh, hr⟩ := h
    exact ⟨g, m, rfl, hbg, (hb g rfl).trans hh, PV.rel_turn hk ht _ _ hr⟩
end

def St.put (S : St) (dst : Option Nat) (p : PV) : St := match dst with
  | some d => { S with t := fun k => if k = d then p else S.t k }
  | none => S
theorem St.put_o (S : St) (dst : Option Nat) (p : PV) : (S.put dst p).o = S.o := by cases dst <;> rfl

theorem getD_put (a : Act) (d k : Nat) (v : Value) (hd : d < a.tmps.size) : (a.put (some d) v).tmps.getD k undef = if k = d then v else a.tmps.getD k undef := by
  simp only [Act.put, Array.getD_eq_getD_getElem?, Array.getElem?_setIfInBounds]
  by_cases h : d = k
  · subst h; simp [hd]
  · simp [h, Ne.symm h]

/-- The one lemma on a step: the objects of Nw are new, or turned; other objects stand. -/
theorem Rel.updS {N base : Nat} {w0 : World} {X : Fr} {S : St} {α : Nat → Value} {a : Act} {w : World} (h : Rel N base w0 X S α a w) {o' : Nat → Nat × Option Ob} {α' : Nat → Value} {w' : World} {row : Option Nat} {dst : Option Nat} {p : PV} {v : Value} (Nw : Nat → Prop)
    (hdst : ∀ d, dst = some d → d < N) (hg : w.grownBy w' row) (hrow : ∀ g, row = some g → ∃ K, (S.o K).2 ≠ none ∧ hblk (α K) = some g)
    (hver : ∀ K, (S.o K).1 ≤ (o' K).1)
    (hold : ∀ K, ¬ Nw K → (o' K).2 ≠ none → o' K = S.o K ∧ α' K = α K ∧ ∀ g, hblk (α K) = some g → row ≠ some g)
    (hK1 : ∀ K, Nw K → (o' K).2 ≠ none → ((S.o K).1 < (o' K).1 ∨ ((S.o K).1 = (o' K).1 ∧ (S.o K).2 ≠ none ∧ α' K = α K)) ∧ ∀ g, hblk (α' K) = some g → row = some g ∨ w.heap.size ≤ g)
    (hinj : ∀ K K', Nw K → Nw K' → K ≠ K' → (o' K).2 ≠ none → (o' K').2 ≠ none → ∀ g, hblk (α' K) = some g → hblk (α' K') ≠ some g)
    (hnew : Keeps w (okOf X.A S.o α) w' (okOf X.A o' α') → Turns S.o α o' α' → ∀ K x, Nw K → (o' K).2 = some x → x.rel o' α' w' (okOf X.A o' α') base (α' K))
    (hp : Keeps w (okOf X.A S.o α) w' (okOf X.A o' α') → Turns S.o α o' α' → p.rel o' α' w' (okOf X.A o' α') v) :
    Rel N base w0 X { (S.put dst p) with o := o' } α' (a.put dst v) w' := by
  have hlt : ∀ K, (S.o K).2 ≠ none → ∀ g, hblk (α K) = some g → base ≤ g ∧ g < w.heap.size := by
    intro K hK g hgK
    cases hx : (S.o K).2 with
    | none => exact absurd hx hK
    | some x => exact Ob.rel_lt (h.o K x hx) g hgK
  have hk : Keeps w (okOf X.A S.o α) w' (okOf X.A o' α') := by
    intro b hb hok
    have hne : row ≠ some b := fun e => by
      obtain ⟨K, hK, hgK⟩ := hrow b e
      exact hok.2 K hK hgK
    refine ⟨⟨hok.1, fun K hK hgK => ?_⟩, hg.block b hb (fun e => hne e.symm)⟩
    by_cases hKK : Nw K
    · rcases (hK1 K hKK hK).2 b hgK with e | e
      · exact hne e
      · omega
    · obtain ⟨e1, e2, _⟩ := hold K hKK hK
      rw [e2] at hgK
      exact hok.2 K (by rw [← e1]; exact hK) hgK
  have ht : Turns S.o α o' α' := by
    intro K ver hle
    refine ⟨Nat.le_trans hle (hver K), fun hl => ?_⟩
    by_cases hKK : Nw K
    · rcases (hK1 K hKK hl.2).1 with e | ⟨e1, e2, e3⟩
      · have := hl.1; omega
      · exact ⟨⟨e1.trans hl.1, e2⟩, e3⟩
    · obtain ⟨e1, e2, _⟩ := hold K hKK hl.2
      exact ⟨⟨by rw [← e1]; exact hl.1, by rw [← e1]; exact hl.2⟩, e2⟩
  have hbrow : ∀ g, row = some g → base ≤ g := fun g e => by
    obtain ⟨K, hK, hgK⟩ := hrow g e
    exact (hlt K hK g hgK).1
  refine ⟨?_, ?_, ?_, ?_, ?_, h.below.grown hg h.base hbrow, h.free, Nat.le_trans h.base hg.size, fun p v hp => PV.rel_turn hk ht _ _ (h.x p v hp)⟩
  · cases dst <;> exact h.defers
  · have := h.size
    cases dst <;> simpa [Act.put] using this
  · intro k
    cases dst with
    | none => exact (S.t k).rel_turn hk ht _ (h.t k)
    | some d =>
      have hd : d < a.tmps.size := Nat.lt_of_lt_of_le (hdst d rfl) h.size
      rw [getD_put a d k v hd]
      simp only [St.put]
      by_cases e : k = d
      · simp only [e, if_true]; exact hp hk ht
      · simp only [e, if_false]; exact (S.t k).rel_turn hk ht _ (h.t k)
  · intro K x hx
    by_cases hKK : Nw K
    · exact hnew hk ht K x hKK hx
    · have hK : (o' K).2 ≠ none := by rw [hx]; simp
      obtain ⟨e1, e2, e3⟩ := hold K hKK hK
      rw [e2]
      have hxs : (S.o K).2 = some x := by rw [← e1]; exact hx
      exact Ob.rel_turn hk ht (fun g hgK => hg.block g (hlt K (by rw [hxs]; simp) g hgK).2 fun e => e3 g hgK e.symm) (h.o K x hxs)
  · intro K K' hne hK hK' g hgK hgK'
    by_cases hKK : Nw K
    · by_cases hKK' : Nw K'
      · exact hinj K K' hKK hKK' hne hK hK' g hgK hgK'
      · obtain ⟨e1, e2, e3⟩ := hold K' hKK' hK'
        have hl' := hlt K' (by rw [← e1]; exact hK') g (by rw [← e2]; exact hgK')
        rcases (hK1 K hKK hK).2 g hgK with e | e
        · exact e3 g (by rw [← e2]; exact hgK') e
        · omega
    · obtain ⟨e1, e2, e3⟩ := hold K hKK hK
      by_cases hKK' : Nw K'
      · have hl := hlt K (by rw [← e1]; exact hK) g (by rw [← e2]; exact hgK)
        rcases (hK1 K' hKK' hK').2 g hgK' with e | e
        · exact e3 g (by rw [← e2]; exact hgK) e
        · omega
      · obtain ⟨e1', e2', _⟩ := hold K' hKK' hK'
        exact h.inj K K' hne (by rw [← e1]; exact hK) (by rw [← e1']; exact hK') g (by rw [← e2]; exact hgK) (by rw [← e2']; exact hgK')
theorem Rel.upd {N base : Nat} {w0 : World} {X : Fr} {S : St} {α : Nat → Value} {a : Act} {w : World} (h : Rel N base w0 X S α a w) {o' : Nat → Nat × Option Ob} {α' : Nat → Value} {w' : World} {row : Option Nat} {dst : Option Nat} {p : PV} {v : Value} (K1 : Nat)
    (hdst : ∀ d, dst = some d → d < N) (hg : w.grownBy w' row) (hrow : ∀ g, row = some g → ∃ K, (S.o K).2 ≠ none ∧ hblk (α K) = some g)
    (hver : ∀ K, (S.o K).1 ≤ (o' K).1)
    (hold : ∀ K, K ≠ K1 → (o' K).2 ≠ none → o' K = S.o K ∧ α' K = α K ∧ ∀ g, hblk (α K) = some g → row ≠ some g)
    (hK1 : (o' K1).2 ≠ none → ((S.o K1).1 < (o' K1).1 ∨ ((S.o K1).1 = (o' K1).1 ∧ (S.o K1).2 ≠ none ∧ α' K1 = α K1)) ∧ ∀ g, hblk (α' K1) = some g → row = some g ∨ w.heap.size ≤ g)
    (hnew : Keeps w (okOf X.A S.o α) w' (okOf X.A o' α') → Turns S.o α o' α' → ∀ x, (o' K1).2 = some x → x.rel o' α' w' (okOf X.A o' α') base (α' K1))
    (hp : Keeps w (okOf X.A S.o α) w' (okOf X.A o' α') → Turns S.o α o' α' → p.rel o' α' w' (okOf X.A o' α') v) :
    Rel N base w0 X { (S.put dst p) with o := o' } α' (a.put dst v) w' :=
  h.updS (fun K => K = K1) hdst hg hrow hver hold (fun K e => by subst e; exact hK1) (fun K K' e e' hne => absurd (e.trans e'.symm) hne) (fun hk ht K x e => by subst e; exact hnew hk ht x) hp

/-- The world grows or draws; no object turns. -/
theorem Rel.plain {N base : Nat} {w0 : World} {X : Fr} {S : St} {α : Nat → Value} {a : Act} {w : World} (h : Rel N base w0 X S α a w) {w' : World} {dst : Option Nat} {p : PV} {v : Value}
    (hdst : ∀ d, dst = some d → d < N) (hg : w.grownBy w' none)
    (hp : Keeps w (okOf X.A S.o α) w' (okOf X.A S.o α) → p.rel S.o α w' (okOf X.A S.o α) v) : Rel N base w0 X (S.put dst p) α (a.put dst v) w' := by
  have hk : Keeps w (okOf X.A S.o α) w' (okOf X.A S.o α) := fun b hb hok => ⟨hok, hg.block b hb (by simp)⟩
  have ht := Turns.refl S.o α
  have hlt : ∀ K x, (S.o K).2 = some x → ∀ g, hblk (α K) = some g → g < w.heap.size := fun K x hx g hgK => (Ob.rel_lt (h.o K x hx) g hgK).2
  refine ⟨?_, ?_, ?_, ?_, ?_, h.below.grown hg h.base (by simp), h.free, Nat.le_trans h.base hg.size, fun p v hp => by rw [St.put_o]; exact PV.rel_turn hk ht _ _ (h.x p v hp)⟩
  · cases dst <;> exact h.defers
  · have := h.size
    cases dst <;> simpa [Act.put] using this
  · intro k
    rw [St.put_o]
    cases dst with
    | none => exact (S.t k).rel_turn hk ht _ (h.t k)
    | some d =>
      have hd : d < a.tmps.size := Nat.lt_of_lt_of_le (hdst d rfl) h.size
      rw [getD_put a d k v hd]
      simp only [St.put]
      by_cases e : k = d
      · simp only [e, if_true]; exact hp hk
      · simp only [e, if_false]; exact (S.t k).rel_turn hk ht _ (h.t k)
  · intro K x hx
    rw [St.put_o] at hx ⊢
    exact Ob.rel_turn hk ht (fun g hgK => hg.block g (hlt K x hx g hgK) (by simp)) (h.o K x hx)
  · intro K K' hne hK hK'
    rw [St.put_o] at hK hK'
    exact h.inj K K' hne hK hK'

theorem grownBy_refl (w : World) (row : Option Nat) : w.grownBy w row := ⟨rfl, rfl, rfl, Nat.le_refl _, fun _ _ _ => rfl⟩
theorem grownBy_drew (w : World) : w.grownBy { w with drawn := w.drawn + 1 } none := ⟨rfl, rfl, rfl, Nat.le_refl _, fun _ _ _ => rfl⟩

end Go.Proofs.Ytomnjbebgfadoaa.Pi
end
section
/- The pure interpreter's environment (types, contracts) and its operations.
   Conditions: none; a text of definitions. -/
set_option linter.unusedVariables false
set_option linter.unusedSimpArgs false
namespace Go.Proofs.Ytomnjbebgfadoaa.Pi
open Go Go.RowKit

/-! ### 3. Types -/
/-- A field: where it begins, how many cells, is it a struct or an array. -/
structure FI where
  off : Nat
  size : Nat
  agg : Bool
  sk : Nat
inductive TK where
  | int (k : IntKind)
  | bool
  | str
  | struct (fs : List FI)
  | slice (e : Nat)
  | map (k e : Nat)
  | other
structure TI where
  k : TK
  size : Nat
  bytes : Nat
  zero : List D

/-- The zero cells as values. -/
def zval : D → Value
  | .int k n => .int k n
  | .bool b => .bool b
  | .str s => .string s
  | .lst _ _ => .slice none 0 0
  | .nil k => nilV k
  | _ => .tuple #[]
def zok : D → Bool
  | .int _ n => n == 0
  | .bool b => !b
  | .str s => s.size == 0
  | .lst _ xs => xs.isEmpty
  | .nil _ => true
  | _ => false
def zpv : D → PV
  | .lst _ _ => .nils
  | x => .d x
def zeqB : Value → D → Bool
  | .int k n, .int k' n' => decide (k = k') && n == n'
  | .bool b, .bool b' => b == b'
  | .string s, .str s' => s.size == 0 && s'.size == 0
  | .slice none 0 0, .lst _ xs => xs.isEmpty
  | .map none, .nil k => k == 0
  | .pointer none, .nil k => k == 1
  | .nilFunc, .nil k => k == 2
  | .nilIface, .nil k => k == 3
  | _, _ => false
def zeqsB : List Value → List D → Bool
  | [], [] => true
  | v :: vs, d :: ds => zeqB v d && zok d && zeqsB vs ds
  | _, _ => false

def isAggB (P : Program) (t : Nat) : Option Bool := match P.underlying t with
  | some (.struct _) | some (.array _ _) => some true
  | some _ => some false
  | none => none
/-- 0: a whole number, 1: a bool, 2: a string, 3: anything else. -/
def skB (P : Program) (t : Nat) : Nat := match P.underlying t with
  | some (.int _) => 0
  | some .bool => 1
  | some .string => 2
  | _ => 3
def fieldsB (P : Program) : List Field → List FI → Bool
  | [], [] => true
  | f :: fs, x :: xs => f.offset == x.off && (P.info? f.type).map (·.size) == some x.size && decide (0 < x.size) && isAggB P f.type == some x.agg && (f.name != "_") && skB P f.type == x.sk && fieldsB P fs xs
  | _, _ => false
def tkB (P : Program) (t : Nat) : TK → Bool
  | .int k => match P.underlying t with | some (.int k') => decide (k' = k) | _ => false
  | .bool => match P.underlying t with | some .bool => true | _ => false
  | .str => match P.underlying t with | some .string => true | _ => false
  | .struct fs => match P.underlying t with | some (.struct fields) => fieldsB P fields.toList fs && !(P.eqGuardType P.depth t) && !(P.stoodInHeld t) | _ => false
  | .slice e => match P.underlying t with | some (.slice e') => e' == e | _ => false
  | .map k e => match P.underlying t with | some (.map k' e') => k' == k && e' == e | _ => false
  | .other => match P.underlying t with | some (.pointer _) | some (.func ..) => true | _ => false
def tyB (P : Program) (t : Nat) (ti : TI) : Bool :=
  tkB P t ti.k && (match P.info? t with
    | some i => i.size == ti.size && i.bytes == ti.bytes && decide (0 < ti.size) && decide (0 < ti.bytes) && decide (ti.bytes ≤ 8 * 32 * ti.size) && (match i.zero with | some z => (match ti.k with | .other | .map .. => true | .struct _ => (match z with | .agg _ => true | _ => false) && (zeqsB z.cells.toList ti.zero && ti.zero.length == ti.size) | _ => (match z with | .agg _ => false | _ => true) && (zeqsB z.cells.toList ti.zero && ti.zero.length == ti.size)) | none => false)
    | none => false)

/-! ### 4. Results of calls; contracts -/
inductive RV where
  | d (x : D)
  | own (sz e : Nat) (xs : List (List D))

mutual
def D.flat : D → Bool
  | .int _ _ | .bool _ | .str _ | .nil _ => true
  | .agg cs => flats cs
  | _ => false
def flats : List D → Bool
  | [] => true
  | c :: cs => c.flat && flats cs
end
def RV.flat : RV → Bool
  | .d x => x.flat
  | .own _ _ _ => false

structure Con where
  pre : List D → Prop
  post : List D → List RV → Prop
  flat : Bool

def RV.rel (w : World) (ok : Nat → Prop) (base : Nat) : RV → Value → Prop
  | .d x, v => x.rd w ok v
  | .own sz e xs, v => ∃ vals, w.ownsRow base e sz v xs.length vals ∧ (∀ r ∈ xs, r.length = sz) ∧ rdVals w ok xs.flatten vals ∧ (∀ u ∈ vals, u.oneCell' = true)
def RV.rels (w : World) (ok : Nat → Prop) (base : Nat) : List RV → List Value → Prop
  | [], vs => vs = []
  | r :: rs, vs => ∃ v vs', vs = v :: vs' ∧ r.rel w ok base v ∧ RV.rels w ok base rs vs'
/-- The blocks of the own rows among results. -/
def ownBlks : List RV → List Value → List Nat
  | .own _ _ _ :: rs, v :: vs => (hblk v).toList ++ ownBlks rs vs
  | .d _ :: rs, _ :: vs => ownBlks rs vs
  | _, _ => []
def packV (us : List Value) : Value := match us with
  | [u] => u
  | us => .tuple us.toArray

/-- A function meets a contract. -/
structure ConOk (P : Program) (f : Nat) (c : Con) : Prop where
  some : ∀ ds, c.pre ds → ∃ r, c.post ds r
  flat : c.flat = true → ∀ ds r, c.post ds r → ∀ x ∈ r, RV.flat x = true
  calls : ∀ ds, c.pre ds → ∀ (w : World) (ok : Nat → Prop) (vs : List Value), rdVals w ok ds vs →
    Calls P f vs.toArray w fun e w' => ∃ rs us, c.post ds rs ∧ e = .returned (packV us) ∧ Below w.heap.size w w' ∧ (ownBlks rs us).Nodup ∧
      RV.rels w' (fun b => (ok b ∨ w.heap.size ≤ b) ∧ b ∉ ownBlks rs us) w.heap.size rs us

/-- A contract of a function that is handed objects of its caller's, and leaves them. -/
structure ICon where
  pre : (Nat → Nat × Option Ob) → List PV → Prop
  post : (Nat → Nat × Option Ob) → List PV → (Nat → Nat × Option Ob) → PV → Prop
structure IConOk (P : Program) (f : Nat) (c : ICon) : Prop where
  some : ∀ o ps, c.pre o ps → ∃ o' p, c.post o ps o' p
  calls : ∀ (base : Nat) (w0 : World) (X : Fr) (o : Nat → Nat × Option Ob) (α : Nat → Value) (w : World) (ps : List PV) (vs : List Value), c.pre o ps → RelO base w0 X o α w → PV.rels o α w (okOf X.A o α) ps vs →
    Calls P f vs.toArray w fun e w' => ∃ o' α' p u, c.post o ps o' p ∧ e = .returned u ∧ RelO base w0 X o' α' w' ∧ p.rel o' α' w' (okOf X.A o' α') u

/-- The same of a function that the model stands in for. -/
structure IExtOk (P : Program) (f : Nat) (c : ICon) : Prop where
  some : ∀ o ps, c.pre o ps → ∃ o' p, c.post o ps o' p
  calls : ∀ (base : Nat) (w0 : World) (X : Fr) (o : Nat → Nat × Option Ob) (α : Nat → Value) (w : World) (ps : List PV) (vs : List Value), c.pre o ps → RelO base w0 X o α w → PV.rels o α w (okOf X.A o α) ps vs →
    ∃ o' α' p u w', (callFunc f vs.toArray).run P w = .ok (.value u) w' ∧ c.post o ps o' p ∧ RelO base w0 X o' α' w' ∧ p.rel o' α' w' (okOf X.A o' α') u

structure Env where
  P : Program
  n : Nat
  ty : Nat → Option TI
  con : Nat → Option Con
  icon : Nat → Option ICon
  own : Nat → Bool
  key : Nat → Nat
  fact : Nat → Bool

def Env.tk (E : Env) (t : Nat) : Option TK := (E.ty t).map fun ti => ti.k

structure EnvOk (E : Env) : Prop where
  ty : ∀ t ti, E.ty t = some ti → tyB E.P t ti = true
  con : ∀ f c, E.con f = some c → (∃ fn, E.P.funcs[f]? = some fn ∧ fn.body.isNone = false ∧ (fn.name == "runtime.NumGoroutine") = false) ∧ ConOk E.P f c
  icon : ∀ f c, E.icon f = some c → (∃ fn, E.P.funcs[f]? = some fn ∧ fn.body.isNone = false ∧ (fn.name == "runtime.NumGoroutine") = false) ∧ IConOk E.P f c ∨ IExtOk E.P f c
  mixed : E.P.follows .mixedOrders = true

/-! ### 5. Operands -/
def ofVal : Value → PV
  | .int k n => .d (.int k n)
  | .bool b => .d (.bool b)
  | .string s => if s.size ≤ maxLen then .d (.str s) else .un
  | .slice none 0 0 => .nils
  | _ => .un
def St.ev (S : St) : Operand → PV
  | .tmp t => S.t t
  | .const v => ofVal v
  | .func f => .d (.fn f [])
  | .global _ => .un
def strip : PV → PV
  | .opt _ x => strip x
  | p => p
def stripC : PV → Prop
  | .opt b x => b = true ∧ stripC x
  | _ => True
def St.sv (S : St) (x : Operand) : PV := strip (S.ev x)
def St.sc (S : St) (x : Operand) : Prop := stripC (S.ev x)

/-! ### 6. Pure operations: what must hold, and the value -/
abbrev PR := Option (Prop × PV)
def wint (k : IntKind) (n : Int) : PV := .d (.int k (k.wrap n))
def ibin (op : BinOp) (k : IntKind) (a b : Int) : PR := match op with
  | .add => some (True, wint k (a + b))
  | .sub => some (True, wint k (a - b))
  | .mul => some (True, wint k (a * b))
  | .quo => some (b ≠ 0, wint k (a.tdiv b))
  | .rem => some (b ≠ 0, .d (.int k (a.tmod b)))
  | .and => some (True, wint k ((BitVec.ofInt k.bits a &&& BitVec.ofInt k.bits b).toNat))
  | .or => some (True, wint k ((BitVec.ofInt k.bits a ||| BitVec.ofInt k.bits b).toNat))
  | .xor => some (True, wint k ((BitVec.ofInt k.bits a ^^^ BitVec.ofInt k.bits b).toNat))
  | .andNot => some (True, wint k ((BitVec.ofInt k.bits a &&& ~~~ BitVec.ofInt k.bits b).toNat))
  | .eql => some (True, .d (.bool (a == b)))
  | .neq => some (True, .d (.bool (a != b)))
  | .lss => some (True, .d (.bool (decide (a < b))))
  | .leq => some (True, .d (.bool (decide (a ≤ b))))
  | .gtr => some (True, .d (.bool (decide (a > b))))
  | .geq => some (True, .d (.bool (decide (a ≥ b))))
  | .shl => some (0 ≤ b, wint k (a * 2 ^ (min b.toNat k.bits)))
  | .shr => some (0 ≤ b, .d (.int k (a.fdiv (2 ^ (min b.toNat k.bits)))))
def sbin (op : BinOp) (x y : ByteArray) : PR := match op with
  | .add => some (((x.size + y.size : Nat) : Int) ≤ 9223372036854775807, .d (.str (x ++ y)))
  | .eql => some (True, .d (.bool (x.toList == y.toList)))
  | .neq => some (True, .d (.bool !(x.toList == y.toList)))
  | .lss => some (True, .d (.bool (Op.bytesLess x.toList y.toList)))
  | .leq => some (True, .d (.bool (Op.bytesLess x.toList y.toList || x.toList == y.toList)))
  | .gtr => some (True, .d (.bool !(Op.bytesLess x.toList y.toList || x.toList == y.toList)))
  | .geq => some (True, .d (.bool !(Op.bytesLess x.toList y.toList)))
  | _ => none
def deq : D → D → Option Bool
  | .int k a, .int k' b => if k = k' then some (a == b) else none
  | .bool a, .bool b => some (a == b)
  | .str a, .str b => some (a == b)
  | _, _ => none
def deqs : List D → List D → Option Bool
  | [], [] => some true
  | x :: xs, y :: ys => (deq x y).bind fun p => (deqs xs ys).map fun q => p && q
  | _, _ => none
def D.sk : D → Nat
  | .int _ _ => 0
  | .bool _ => 1
  | .str _ => 2
  | _ => 3
/-- Structs that hold one cell a field, and what is compared. -/
def oneCells : List FI → Nat → List D → Bool
  | [], _, [] => true
  | f :: fs, o, x :: xs => f.off == o && f.size == 1 && !f.agg && f.sk == x.sk && oneCells fs (o + 1) xs
  | _, _, _ => false
def binV (E : Env) (op : BinOp) (t : Nat) : PV → PV → PR
  | .d (.int k a), .d (.int k' b) => if op = .shl ∨ op = .shr ∨ k = k' then ibin op k a b else none
  | .d (.str x), .d (.str y) => sbin op x y
  | .d (.bool x), .d (.bool y) => match op, E.tk t with
    | .eql, some .bool => some (True, .d (.bool (x == y)))
    | .neq, some .bool => some (True, .d (.bool !(x == y)))
    | _, _ => none
  | .d (.agg xs), .d (.agg ys) => match E.tk t with
    | some (.struct fs) => if oneCells fs 0 xs = true then
        match op, deqs xs ys with
        | .eql, some b => some (True, .d (.bool b))
        | .neq, some b => some (True, .d (.bool !b))
        | _, _ => none
      else none
    | _ => none
  | .d (.lst _ xs), .nils => match op, E.tk t with
    | .eql, some (.slice _) => if xs.isEmpty = true then none else some (True, .d (.bool false))
    | .neq, some (.slice _) => if xs.isEmpty = true then none else some (True, .d (.bool true))
    | _, _ => none
  | .nils, .nils => match op, E.tk t with
    | .eql, some (.slice _) => some (True, .d (.bool true))
    | .neq, some (.slice _) => some (True, .d (.bool false))
    | _, _ => none
  | _, _ => none
def unV (op : UnOp) : PV → PR
  | .d (.int k n) => match op with
    | .neg => some (True, wint k (0 - n))
    | _ => none
  | .d (.bool b) => match op with
    | .not => some (True, .d (.bool !b))
    | _ => none
  | _ => none
def convV (E : Env) (src dst : Nat) : PV → PR
  | .d (.int k n) => match E.tk src, E.tk dst with
    | some (.int _), some (.int k') => some (True, wint k' n)
    | _, _ => none
  | _ => none
def pickV (c a b : PV) (pa pb : Prop) : PR := match c, a, b with
  | .d (.bool t), .d (.bool x), .d (.bool y) => some ((t = true → pa) ∧ (t = false → pb), .d (.bool (if t then x else y)))
  | _, _, _ => none
def extV (i : Nat) : PV → PR
  | .tup vs => match vs[i]? with
    | some v => some (True, v)
    | none => none
  | _ => none
def cut (cs : List D) (off n : Nat) : List D := (cs.drop off).take n
/-- A variable of a type, out of cells from off on. -/
def loadD (isAgg : Bool) (size : Nat) (cs : List D) (off : Nat) : Prop × PV :=
  if isAgg then (off + size ≤ cs.length, .d (.agg (cut cs off size))) else (off < cs.length, .d (cs.getD off default))
def TI.isAgg (ti : TI) : Bool := match ti.k with | .struct _ => true | _ => false
def allD : List PV → Option (List D)
  | [] => some []
  | .d x :: ps => (allD ps).map (x :: ·)
  | _ => none
def pagg (cs : List PV) : PV := match allD cs with
  | some ds => .d (.agg ds)
  | none => .agg cs
def plainTI (ti : TI) : Bool := match ti.k with | .map _ _ | .other => false | _ => true
/-- The zero value of a type. -/
def zvp (te : TI) : PV := if te.isAgg then .d (.agg te.zero) else zpv (te.zero.getD 0 default)
/-! Keys of maps. -/
mutual
def keq : D → D → Bool
  | .int k a, .int k' b => decide (k = k') && a == b
  | .bool a, .bool b => a == b
  | .str a, .str b => a == b
  | .agg xs, .agg ys => keqs xs ys
  | _, _ => false
def keqs : List D → List D → Bool
  | [], [] => true
  | x :: xs, y :: ys => keq x y && keqs xs ys
  | _, _ => false
end
def shape1 : D → D → Bool
  | .int k _, .int k' _ => decide (k = k')
  | .bool _, .bool _ => true
  | .str _, .str _ => true
  | _, _ => false
def shapes : List D → List D → Bool
  | [], [] => true
  | z :: zs, x :: xs => shape1 z x && shapes zs xs
  | _, _ => false
/-- May a value be a key of a type? -/
def mkey (E : Env) (kt : Nat) (d : D) : Bool := match E.ty kt with
  | some ti => match ti.k, d with
    | .struct fs, .agg xs => oneCells fs 0 xs && shapes ti.zero xs
    | .int k', .int k _ => decide (k = k')
    | .bool, .bool _ => true
    | .str, .str _ => true
    | _, _ => false
  | none => false
def mkeys (E : Env) (kt : Nat) (es : List (Nat × D × PV)) : Bool := es.all fun x => mkey E kt x.2.1
def mfind (k : D) : List (Nat × D × PV) → Option (Nat × PV)
  | [] => none
  | x :: es => if keq k x.2.1 = true then some (x.1, x.2.2) else mfind k es
def mput (k : D) (v : PV) (clock : Nat) : List (Nat × D × PV) → List (Nat × D × PV)
  | [] => [(clock, k, v)]
  | x :: es => if keq k x.2.1 = true then (x.1, k, v) :: es else x :: mput k v clock es
def mstamp (s : Int) (v : PV) : List (Nat × D × PV) → List (Nat × D × PV)
  | [] => []
  | x :: es => if (x.1 : Int) == s then (x.1, x.2.1, v) :: es else x :: mstamp s v es
def mval (k : D) (es : List (Nat × D × PV)) (z : PV) : PV := ((mfind k es).map (·.2)).getD z
def mhas (k : D) (es : List (Nat × D × PV)) : Bool := (mfind k es).isSome
def mborn (k : D) (es : List (Nat × D × PV)) (clock : Nat) : Nat := ((mfind k es).map (·.1)).getD clock
def mclock (k : D) (es : List (Nat × D × PV)) (clock : Nat) : Nat := if mhas k es = true then clock else clock + 1
def mlast (s : Int) (es : List (Nat × D × PV)) : Bool := es.any fun x => (x.1 : Int) == s
def loadP (isAgg : Bool) (size : Nat) (cs : List PV) (off : Nat) : Prop × PV :=
  if isAgg then (off + size ≤ cs.length, pagg ((cs.drop off).take size)) else (off < cs.length, cs.getD off .un)
def St.obj (S : St) (K ver : Nat) : Option Ob := if (S.o K).1 = ver then (S.o K).2 else none
def loadV (E : Env) (S : St) (t : Nat) : PV → PR
  | .d (.ptr cs off) => match E.ty t with
    | some ti => some (loadD ti.isAgg ti.size cs off)
    | none => none
  | .ref K ver sz i off => match E.ty t, S.obj K ver with
    | some ti, some (.row sz' e xs) => match (E.ty e) with
      | some te => if sz = sz' then
          some (i < xs.length ∧ (loadD ti.isAgg ti.size (xs.getD i te.zero) off).1, (loadD ti.isAgg ti.size (xs.getD i te.zero) off).2) else none
      | none => none
    | some ti, some (.box e cs) => some (loadP ti.isAgg ti.size cs (i * sz + off))
    | some ti, some (.vec sz' e xs) => if sz = sz' then some (i < xs.length ∧ (loadP ti.isAgg ti.size (xs.getD i []) off).1, (loadP ti.isAgg ti.size (xs.getD i []) off).2) else none
    | _, _ => none
  | _ => none
def fieldAddrV (E : Env) (s f : Nat) : PV → PR
  | .d (.ptr cs off) => match E.tk s with
    | some (.struct fs) => match fs[f]? with
      | some x => some (True, .d (.ptr cs (off + x.off)))
      | none => none
    | _ => none
  | .ref K ver sz i off => match E.tk s with
    | some (.struct fs) => match fs[f]? with
      | some x => some (True, .ref K ver sz i (off + x.off))
      | none => none
    | _ => none
  | _ => none
def fieldV (E : Env) (s f : Nat) : PV → PR
  | .d (.agg cs) => match E.tk s with
    | some (.struct fs) => match fs[f]? with
      | some x => some (loadD x.agg x.size cs x.off)
      | none => none
    | _ => none
  | _ => none
def indexAddrV (E : Env) (t : Nat) : PV → PV → PR
  | .d (.lst sz xs), .d (.int _ i) => match E.tk t with
    | some (.slice e) => match E.ty e with
      | some te => if te.size = sz then some (0 ≤ i ∧ i < (xs.length : Int), .d (.ptr (xs.getD i.toNat te.zero) 0)) else none
      | none => none
    | _ => none
  | .row K ver n, .d (.int _ i) => match E.tk t with
    | some (.slice e) => match E.ty e with
      | some te => some (0 ≤ i ∧ i < (n : Int), .ref K ver te.size i.toNat 0)
      | none => none
    | _ => none
  | _, _ => none
def lookupV (E : Env) (S : St) (t : Nat) (ok : Bool) : PV → PV → PR
  | .map K ver, .d kd => match E.tk t, S.obj K ver with
    | some (.map kt e), some (.map kt' e' clock es) => match E.ty e with
      | some te => if plainTI te = true then some (mkey E kt kd = true ∧ mkeys E kt es = true, if ok then .tup [mval kd es (zvp te), .d (.bool (mhas kd es))] else mval kd es (zvp te)) else none
      | none => none
    | _, _ => none
  | _, _ => none
def indexV (E : Env) (t : Nat) : PV → PV → PR
  | .d (.str s), .d (.int _ i) => match E.tk t with
    | some .str => some (0 ≤ i ∧ i < (s.size : Int), .d (.int .u8 ((s.data.toList.getD i.toNat 0).toNat)))
    | _ => none
  | _, _ => none
def lenV (E : Env) (S : St) (t : Nat) (q : PV) : PR := match E.tk t with
  | some .str => match q with
    | .d (.str s) => some (True, .d (.int .i64 s.size))
    | _ => none
  | some (.slice _) => match q with
    | .d (.lst _ xs) => some (True, .d (.int .i64 xs.length))
    | .nils => some (True, .d (.int .i64 0))
    | .clip _ xs => some (True, .d (.int .i64 xs.length))
    | .row K ver n => some (True, .d (.int .i64 n))
    | _ => none
  | some (.map _ _) => match q with
    | .map K ver => match S.obj K ver with
      | some (.map _ _ _ es) => some (True, .d (.int .i64 es.length))
      | _ => none
    | _ => none
  | _ => none
def ints : List PV → Option (IntKind × List Int)
  | [.d (.int k n)] => some (k, [n])
  | .d (.int k n) :: ps => (ints ps).bind fun r => if r.1 = k then some (k, n :: r.2) else none
  | _ => none
def minI (l : List Int) : Int := match l with | [] => 0 | x :: xs => xs.foldl (fun a b => if b < a then b else a) x
def maxI (l : List Int) : Int := match l with | [] => 0 | x :: xs => xs.foldl (fun a b => if a < b then b else a) x
/-- The cells of a value. -/
def cellsP : PV → Option (List PV)
  | .d (.agg cs) => some (cs.map PV.d)
  | .agg cs => some cs
  | .tup _ | .un | .opt _ _ => none
  | p => some [p]
def fillP : List FI → List PV → List (Nat × PV) → Option (List PV)
  | _, cells, [] => some cells
  | fs, cells, (i, p) :: rest => match fs[i]?, cellsP p with
    | some f, some cs => if cs.length = f.size ∧ f.off + f.size ≤ cells.length then fillP fs (cells.take f.off ++ cs ++ cells.drop (f.off + f.size)) rest else none
    | _, _ => none
/-- Nil slices among cells read as data, by the zero cells. -/
def dcell : D → PV → Option D
  | _, .d x => some x
  | .lst sz [], .nils => some (.lst sz [])
  | _, _ => none
def dcells : List D → List PV → Option (List D)
  | [], [] => some []
  | z :: zs, p :: ps => (dcell z p).bind fun x => (dcells zs ps).map (x :: ·)
  | _, _ => none
def buildV (E : Env) (t : Nat) (parts : List (Nat × PV)) : PR := match E.ty t with
  | some ti => match ti.k with
    | .struct fs => (fillP fs (ti.zero.map zpv) parts).bind fun cs => match dcells ti.zero cs with
      | some ds => some (True, .d (.agg ds))
      | none => some (True, .agg cs)
    | _ => none
  | none => none
/-- A part of a slice that is only read, or of a string. -/
def boundV : Option PV → Option (Option Int)
  | none => some none
  | some (.d (.int _ n)) => some (some n)
  | _ => none
def sliceV (E : Env) (t : Nat) (x : PV) (lo hi : Option PV) : PR := match E.tk t, x, boundV lo, boundV hi with
  | some (.slice e), .d (.lst sz xs), some l, some h => match E.ty e with
    | some te => if te.size = sz then some (0 ≤ l.getD 0 ∧ l.getD 0 ≤ h.getD xs.length ∧ h.getD xs.length ≤ (xs.length : Int), .d (.lst sz ((xs.take (h.getD xs.length).toNat).drop (l.getD 0).toNat))) else none
    | none => none
  | some (.slice e), .row K ver n, some (some i), some none => match E.ty e with
    | some te => some (0 ≤ i ∧ i ≤ (n : Int), .sub K ver te.size i.toNat (n - i.toNat))
    | none => none
  | some .str, .d (.str s), some l, some h => some (0 ≤ l.getD 0 ∧ l.getD 0 ≤ h.getD s.size ∧ h.getD s.size ≤ (s.size : Int), .d (.str (s.extract (l.getD 0).toNat (h.getD s.size).toNat)))
  | _, _, _, _ => none
/-- A slice up to its length, with no room behind. -/
def clipV (E : Env) (t : Nat) : PV → PV → PV → PR
  | .d (.lst sz xs), .d (.int _ h), .d (.int _ m) => match E.tk t with
    | some (.slice e) => match E.ty e with
      | some te => if te.size = sz then some (h = (xs.length : Int) ∧ m = (xs.length : Int), .clip sz xs) else none
      | none => none
    | _ => none
  | _, _, _ => none
def nilCheckV : PV → PR
  | .d (.ptr cs off) => some (True, .d (.ptr cs off))
  | .d (.fn f caps) => some (True, .d (.fn f caps))
  | .fn f caps => some (True, .fn f caps)
  | .ref K ver sz i off => some (True, .ref K ver sz i off)
  | _ => none
/-- The round's key and value, of a loop over a map. -/
def mfindS (s : Nat) : List (Nat × D × PV) → Option (D × PV)
  | [] => none
  | x :: es => if x.1 = s then some x.2 else mfindS s es
def entryV (S : St) : PV → PR
  | .ref K ver 0 0 0 => match S.obj K ver with
    | some (.iter M mver _ seen last) => match S.obj M mver, seen.getLast? with
      | some (.map _ _ clock es), some s => (mfindS s es).map fun x => (clock = last, .tup [.d x.1, x.2])
      | _, _ => none
    | _ => none
  | _ => none
def makeFuncV (f : Fn) (first : List Operand) (caps : List PV) : PR := match f, first with
  | .func f, [] => some (True, .fn f caps)
  | _, _ => none
def argsC (S : St) (xs : List Operand) : Prop := match xs with
  | [] => True
  | x :: xs => S.sc x ∧ argsC S xs

def callOp (E : Env) (S : St) (c : Call) : PR := match c.callee with
  | .builtin b => match b, c.args.toList, c.argTypes.toList with
    | .len, [x], [t] => (lenV E S t (S.sv x)).map fun r => (S.sc x ∧ r.1, r.2)
    | .min, xs, _ => (ints (xs.map S.sv)).map fun r => (argsC S xs, .d (.int r.1 (minI r.2)))
    | .max, xs, _ => (ints (xs.map S.sv)).map fun r => (argsC S xs, .d (.int r.1 (maxI r.2)))
    | _, _, _ => none
  | _ => none

def pureOp (E : Env) (S : St) (op : Op) : PR := match op with
  | .move x => some (True, S.ev x)
  | .assign x => some (True, S.ev x)
  | .pick c a b => (pickV (S.sv c) (S.sv a) (S.sv b) (S.sc a) (S.sc b)).map fun r => (S.sc c ∧ r.1, r.2)
  | .binOp op t x y _ => (binV E op t (S.sv x) (S.sv y)).map fun r => ((S.sc x ∧ S.sc y) ∧ r.1, r.2)
  | .unOp op _ x => (unV op (S.sv x)).map fun r => (S.sc x ∧ r.1, r.2)
  | .convert src dst x => (convV E src dst (S.sv x)).map fun r => (S.sc x ∧ r.1, r.2)
  | .extract x i => (extV i (S.sv x)).map fun r => (S.sc x ∧ r.1, r.2)
  | .load t a => (loadV E S t (S.sv a)).map fun r => (S.sc a ∧ r.1, r.2)
  | .fieldAddr s x f => (fieldAddrV E s f (S.sv x)).map fun r => (S.sc x ∧ r.1, r.2)
  | .field s x f => (fieldV E s f (S.sv x)).map fun r => (S.sc x ∧ r.1, r.2)
  | .indexAddr t x i => (indexAddrV E t (S.sv x) (S.sv i)).map fun r => ((S.sc x ∧ S.sc i) ∧ r.1, r.2)
  | .index t x i => (indexV E t (S.sv x) (S.sv i)).map fun r => ((S.sc x ∧ S.sc i) ∧ r.1, r.2)
  | .build t parts => (buildV E t (parts.toList.map fun p => (p.1, S.sv p.2))).map fun r => (argsC S (parts.toList.map (·.2)) ∧ r.1, r.2)
  | .call c => callOp E S c
  | .lookup t x i ok => (lookupV E S t ok (S.sv x) (S.sv i)).map fun r => ((S.sc x ∧ S.sc i) ∧ r.1, r.2)
  | .slice t x lo hi none => (sliceV E t (S.sv x) (lo.map S.sv) (hi.map S.sv)).map fun r => (argsC S (x :: (lo.toList ++ hi.toList)) ∧ r.1, r.2)
  | .slice t x none (some h) (some m) => (clipV E t (S.sv x) (S.sv h) (S.sv m)).map fun r => ((S.sc x ∧ S.sc h ∧ S.sc m) ∧ r.1, r.2)
  | .entry x => (entryV S (S.sv x)).map fun r => (S.sc x ∧ r.1, r.2)
  | .nilCheck x => (nilCheckV (S.sv x)).map fun r => (S.sc x ∧ r.1, r.2)
  | .makeFunc f first caps => (makeFuncV f first.toList (caps.toList.map S.sv)).map fun r => (argsC S caps.toList ∧ r.1, r.2)
  | _ => none

end Go.Proofs.Ytomnjbebgfadoaa.Pi
end
section
/- Soundness of the pure interpreter's pure operations: the machine's operation gives a value that the interpreter's value tells.
   Conditions: none; lemmas. -/
set_option linter.unusedVariables false
set_option linter.unusedSimpArgs false
namespace Go.Proofs.Ytomnjbebgfadoaa.Pi
open Go Go.RowKit

/-! ### 7. What the table of types says -/
section
variable {E : Env} (hE : EnvOk E)
include hE
omit hE in
theorem Env.ty_of {t : Nat} {k : TK} (h : E.tk t = some k) : ∃ ti, E.ty t = some ti ∧ ti.k = k := by
  unfold Env.tk at h
  obtain ⟨ti, h1, h2⟩ := Option.map_eq_some_iff.1 h
  exact ⟨ti, h1, h2⟩
theorem ty_tk {t : Nat} {ti : TI} (h : E.ty t = some ti) : tkB E.P t ti.k = true := by
  have := hE.ty t ti h
  unfold tyB at this
  rw [Bool.and_eq_true] at this
  exact this.1
theorem ty_info {t : Nat} {ti : TI} (h : E.ty t = some ti) : ∃ i, E.P.info? t = some i ∧ i.size = ti.size ∧ i.bytes = ti.bytes ∧ 0 < ti.size ∧ 0 < ti.bytes := by
  have := hE.ty t ti h
  unfold tyB at this
  rw [Bool.and_eq_true] at this
  have h2 := this.2
  split at h2
  · rename_i i hi
    simp only [Bool.and_eq_true, beq_iff_eq, decide_eq_true_eq] at h2
    exact ⟨i, hi, h2.1.1.1.1.1, h2.1.1.1.1.2, h2.1.1.1.2, h2.1.1.2⟩
  · cases h2
theorem tk_int {t : Nat} {k : IntKind} (h : E.tk t = some (.int k)) : E.P.underlying t = some (.int k) := by
  obtain ⟨ti, h1, h2⟩ := Env.ty_of h
  have := ty_tk hE h1
  rw [h2] at this
  simp only [tkB] at this
  split at this
  · rename_i k' hk; simp at this; rw [hk, this]
  · cases this
theorem tk_bool {t : Nat} (h : E.tk t = some .bool) : E.P.underlying t = some .bool := by
  obtain ⟨ti, h1, h2⟩ := Env.ty_of h
  have := ty_tk hE h1
  rw [h2] at this
  simp only [tkB] at this
  split at this
  · assumption
  · cases this
theorem tk_str {t : Nat} (h : E.tk t = some .str) : E.P.underlying t = some .string := by
  obtain ⟨ti, h1, h2⟩ := Env.ty_of h
  have := ty_tk hE h1
  rw [h2] at this
  simp only [tkB] at this
  split at this
  · assumption
  · cases this
theorem tk_slice {t e : Nat} (h : E.tk t = some (.slice e)) : E.P.underlying t = some (.slice e) := by
  obtain ⟨ti, h1, h2⟩ := Env.ty_of h
  have := ty_tk hE h1
  rw [h2] at this
  simp only [tkB] at this
  split at this
  · rename_i k' hk; simp at this; rw [hk, this]
  · cases this

theorem tk_map {t k e : Nat} (h : E.tk t = some (.map k e)) : E.P.underlying t = some (.map k e) := by
  obtain ⟨ti, h1, h2⟩ := Env.ty_of h
  have := ty_tk hE h1
  rw [h2] at this
  simp only [tkB] at this
  split at this
  · rename_i k' e' hk; simp only [Bool.and_eq_true, beq_iff_eq] at this; rw [hk, this.1, this.2]
  · cases this

/-- The fields of a struct as the table tells them. -/
inductive Fields (P : Program) : List Field → List FI → Prop
  | nil : Fields P [] []
  | cons {f : Field} {x : FI} {fs xs} (ho : f.offset = x.off) (i : TypeInfo) (hi : P.info? f.type = some i) (hs : i.size = x.size) (h0 : 0 < x.size) (ha : isAggB P f.type = some x.agg) (hn : f.name ≠ "_") (hk : skB P f.type = x.sk) (h : Fields P fs xs) : Fields P (f :: fs) (x :: xs)
omit hE in
theorem fields_of {P : Program} : ∀ {fs : List Field} {xs : List FI}, fieldsB P fs xs = true → Fields P fs xs
  | [], [], _ => .nil
  | [], _ :: _, h => by simp [fieldsB] at h
  | _ :: _, [], h => by simp [fieldsB] at h
  | f :: fs, x :: xs, h => by
    simp only [fieldsB, Bool.and_eq_true, beq_iff_eq, decide_eq_true_eq, bne_iff_ne, ne_eq] at h
    obtain ⟨⟨⟨⟨⟨⟨h1, h2⟩, h3⟩, h4⟩, h5⟩, h7⟩, h6⟩ := h
    obtain ⟨i, hi, hs⟩ := Option.map_eq_some_iff.1 h2
    exact .cons h1 i hi hs h3 h4 h5 h7 (fields_of h6)
theorem tk_struct {t : Nat} {xs : List FI} (h : E.tk t = some (.struct xs)) : ∃ fields, E.P.underlying t = some (.struct fields) ∧ Fields E.P fields.toList xs ∧ E.P.eqGuardType E.P.depth t = false ∧ E.P.stoodInHeld t = false := by
  obtain ⟨ti, h1, h2⟩ := Env.ty_of h
  have := ty_tk hE h1
  rw [h2] at this
  simp only [tkB] at this
  split at this
  · rename_i fields hk
    simp only [Bool.and_eq_true, Bool.not_eq_true'] at this
    exact ⟨fields, hk, fields_of this.1.1, this.1.2, this.2⟩
  · cases this
omit hE in
theorem Fields.get {P : Program} {fs : List Field} {xs : List FI} (h : Fields P fs xs) : ∀ (i : Nat) (x : FI), xs[i]? = some x → ∃ f, fs[i]? = some f ∧ f.offset = x.off ∧ (∃ ti, P.info? f.type = some ti ∧ ti.size = x.size) ∧ 0 < x.size ∧ isAggB P f.type = some x.agg := by
  induction h with
  | nil => intro i x h; simp at h
  | cons ho ti hi hs h0 ha hn hk h ih =>
    intro i x hx
    cases i with
    | zero => simp at hx; subst hx; exact ⟨_, by simp, ho, ⟨ti, hi, hs⟩, h0, ha⟩
    | succ i => simpa using ih i x (by simpa using hx)
omit hE in
theorem run_isAggB {P : Program} {t : Nat} {b : Bool} (h : isAggB P t = some b) (w : World) : (Go.isAgg t).run P w = .ok b w := by
  unfold isAggB at h
  unfold Go.isAgg
  split at h
  · rename_i fs hu; simp [run_underlying hu]; simpa using h
  · rename_i n e hu; simp [run_underlying hu]; simpa using h
  · rename_i d hd1 hd2 hu
    simp only [Sem.run_bind, run_underlying hu, Result.andThen_ok]
    cases d <;> simp_all
  · cases h
theorem run_isAgg' {t : Nat} {ti : TI} (h : E.ty t = some ti) (w : World) : (Go.isAgg t).run E.P w = .ok ti.isAgg w := by
  have hk := ty_tk hE h
  refine run_isAggB ?_ w
  unfold isAggB TI.isAgg
  cases hk' : ti.k <;> rw [hk'] at hk <;> simp only [tkB] at hk <;> split at hk <;> simp_all
end

/-! ### 8. Operands -/
section
variable {E : Env} {N base : Nat} {w0 : World} {X : Fr} {S : St} {α : Nat → Value} {a : Act} {w : World}
theorem ofVal_rel (o : Nat → Nat × Option Ob) (α : Nat → Value) (w : World) (ok : Nat → Prop) (v : Value) : (ofVal v).rel o α w ok v := by
  unfold ofVal
  split
  · simp [PV.rel, D.rd]
  · simp [PV.rel, D.rd]
  · split
    · rename_i h; simp [PV.rel, D.rd, h]
    · simp [PV.rel]
  · simp [PV.rel]
  · simp [PV.rel]
theorem ev_rel (h : Rel N base w0 X S α a w) (x : Operand) : (S.ev x).rel S.o α w (okOf X.A S.o α) (a.eval x) := by
  cases x with
  | tmp t => exact h.t t
  | const v => exact ofVal_rel _ _ _ _ v
  | func f => simp only [St.ev, PV.rel, D.rd, Act.eval]; exact ⟨#[], rfl, by simp [rdVals]⟩
  | global g => simp only [St.ev, PV.rel]
theorem strip_rel {o : Nat → Nat × Option Ob} {α : Nat → Value} {w : World} {ok : Nat → Prop} : ∀ {p : PV} {v : Value}, p.rel o α w ok v → stripC p → (strip p).rel o α w ok v
  | .opt b x, v, h, hc => by
    simp only [PV.rel] at h
    simp only [stripC] at hc
    simp only [strip]
    exact strip_rel (h.1 hc.1) hc.2
  | .un, v, h, _ => h
  | .d x, v, h, _ => h
  | .nils, v, h, _ => h
  | .ref .., v, h, _ => h
  | .row .., v, h, _ => h
  | .map .., v, h, _ => h
  | .fn .., v, h, _ => h
  | .agg .., v, h, _ => h
  | .tup .., v, h, _ => h
  | .clip .., v, h, _ => h
  | .sub .., v, h, _ => h
theorem sv_rel (h : Rel N base w0 X S α a w) (x : Operand) (hc : S.sc x) : (S.sv x).rel S.o α w (okOf X.A S.o α) (a.eval x) := strip_rel (ev_rel h x) hc

/-! ### 9. The operations -/
theorem run_ibin {op : BinOp} {k k' : IntKind} {x y : Int} {c : Prop} {p : PV} (hk : op = .shl ∨ op = .shr ∨ k = k') (h : ibin op k x y = some (c, p)) (hc : c) (P : Program) (t : Nat) (w : World) :
    ∃ d, p = .d d ∧ ∃ v, (binOp op t (.int k x) (.int k' y)).run P w = .ok v w ∧ ∀ w ok, d.rd w ok v := by
  cases op <;> simp only [ibin, Option.some.injEq, Prod.mk.injEq] at h <;> obtain ⟨rfl, rfl⟩ := h
  case shl =>
    have h' : ¬ y < 0 := by omega
    exact ⟨_, rfl, _, by simp [binOp, Op.shift, h']; rfl, by simp [D.rd]⟩
  case shr =>
    have h' : ¬ y < 0 := by omega
    exact ⟨_, rfl, _, by simp [binOp, Op.shift, h']; rfl, by simp [D.rd]⟩
  all_goals
    obtain rfl : k = k' := by simpa using hk
  case quo => exact ⟨_, rfl, _, by simp [binOp, Op.intDiv, hc]; rfl, by simp [D.rd]⟩
  case rem => exact ⟨_, rfl, _, by simp [binOp, Op.intDiv, hc]; rfl, by simp [D.rd]⟩
  all_goals exact ⟨_, rfl, _, by simp [binOp, Op.intArith, Op.intBits, Op.intCmp]; rfl, by simp [D.rd]⟩

theorem run_sbin {op : BinOp} {x y : ByteArray} {c : Prop} {p : PV} (h : sbin op x y = some (c, p)) (hc : c) (P : Program) (t : Nat) (w : World) :
    ∃ d, p = .d d ∧ ∃ v, (binOp op t (.string x) (.string y)).run P w = .ok v w ∧ ∀ w ok, d.rd w ok v := by
  cases op <;> simp only [sbin, Option.some.injEq, Prod.mk.injEq, reduceCtorEq] at h <;> obtain ⟨rfl, rfl⟩ := h
  case add =>
    have h' : ¬ (((x.size + y.size : Nat) : Int) > IntKind.i64.max) := by
      have : IntKind.i64.max = 9223372036854775807 := by decide
      rw [this]; omega
    refine ⟨_, rfl, .string (x ++ y), ?_, by simp [D.rd, maxLen]; omega⟩
    simp only [binOp, Op.stringOp]
    rw [if_neg h']
    rfl
  all_goals exact ⟨_, rfl, _, by simp [binOp, Op.stringOp]; rfl, by simp [D.rd]⟩
end
end Go.Proofs.Ytomnjbebgfadoaa.Pi
end
section
/- Soundness of the pure interpreter's pure operations, continued: comparisons of structs, loads, addresses, structs that are built.
   Conditions: none; lemmas. -/
set_option linter.unusedVariables false
set_option linter.unusedSimpArgs false
namespace Go.Proofs.Ytomnjbebgfadoaa.Pi
open Go Go.RowKit

section
variable {P : Program} {w : World}
theorem skB_int {t : Nat} (h : skB P t = 0) : ∃ k, P.underlying t = some (.int k) := by
  unfold skB at h; split at h <;> first | exact ⟨_, by assumption⟩ | (simp at h)
theorem skB_bool {t : Nat} (h : skB P t = 1) : P.underlying t = some .bool := by
  unfold skB at h; split at h <;> first | assumption | (simp at h)
theorem skB_str {t : Nat} (h : skB P t = 2) : P.underlying t = some .string := by
  unfold skB at h; split at h <;> first | assumption | (simp at h)
theorem run_deq {t : Nat} {x y : D} {b : Bool} {ok : Nat → Prop} (hk : skB P t = x.sk) (hd : deq x y = some b) {u v : Value} (hu : x.rd w ok u) (hv : y.rd w ok v) (n : Nat) : (Op.equalIn (n + 1) t u v).run P w = .ok b w := by
  cases x <;> cases y <;> simp only [deq, reduceCtorEq] at hd
  case int.int k a k' a' =>
    split at hd
    · rename_i e; subst e; simp only [Option.some.injEq] at hd; subst hd
      simp only [D.rd] at hu hv; subst hu; subst hv
      obtain ⟨q, hq⟩ := skB_int hk
      simp [Op.equalIn, run_underlying hq]
    · cases hd
  case bool.bool =>
    simp only [Option.some.injEq] at hd; subst hd
    simp only [D.rd] at hu hv; subst hu; subst hv
    simp [Op.equalIn, run_underlying (skB_bool hk)]
  case str.str =>
    simp only [Option.some.injEq] at hd; subst hd
    simp only [D.rd] at hu hv; obtain ⟨rfl, _⟩ := hu; obtain ⟨rfl, _⟩ := hv
    simp [Op.equalIn, run_underlying (skB_str hk)]

theorem run_equal_bool {t : Nat} (ht : P.underlying t = some .bool) (b b' : Bool) : (Op.equal t (.bool b) (.bool b')).run P w = .ok (b == b') w := by
  have h : ∀ n, (Op.equalIn (n + 1) t (.bool b) (.bool b')).run P w = .ok (b == b') w := fun n => by simp [Op.equalIn, run_underlying ht]
  exact h 9999

theorem run_eqFields {ok : Nat → Prop} (n : Nat) : ∀ {fields : List Field} {fs : List FI} (hf : Fields P fields fs) (o : Nat) (xs ys : List D) (b : Bool) (us vs : Array Value), oneCells fs o xs = true → deqs xs ys = some b →
    (∀ i d, xs[i]? = some d → ∃ v, us[o + i]? = some v ∧ d.rd w ok v) → (∀ i d, ys[i]? = some d → ∃ v, vs[o + i]? = some v ∧ d.rd w ok v) →
    (Op.eqFields (n + 1) us vs fields).run P w = .ok b w := by
  intro fields fs hf
  induction hf with
  | nil =>
    intro o xs ys b us vs h1 h2 hu hv
    cases xs with
    | nil => cases ys <;> simp [deqs] at h2; subst h2; simp [Op.eqFields]
    | cons x xs => simp [oneCells] at h1
  | cons ho ti hi hs h0 ha hn hk h ih =>
    rename_i f x fields fs
    intro o xs ys b us vs h1 h2 hu hv
    cases xs with
    | nil => simp [oneCells] at h1
    | cons d xs =>
      cases ys with
      | nil => simp [deqs] at h2
      | cons e ys =>
        simp only [oneCells, Bool.and_eq_true, beq_iff_eq, Bool.not_eq_true'] at h1
        obtain ⟨⟨⟨⟨e1, e2⟩, e3⟩, e4⟩, e5⟩ := h1
        simp only [deqs, Option.bind_eq_some_iff, Option.map_eq_some_iff] at h2
        obtain ⟨p, hp, q, hq, rfl⟩ := h2
        obtain ⟨u, hu0, hu1⟩ := hu 0 d (by simp)
        obtain ⟨v, hv0, hv1⟩ := hv 0 e (by simp)
        have hag : (Go.isAgg f.type).run P w = .ok false w := run_isAggB (by rw [ha, e3]) w
        rw [Nat.add_zero, ← e1, ← ho] at hu0 hv0
        have pu : (part f.type us f.offset).run P w = .ok u w := by unfold part; simp [hag, hu0]
        have pv : (part f.type vs f.offset).run P w = .ok v w := by unfold part; simp [hag, hv0]
        have he := run_deq (P := P) (w := w) (by rw [hk, e4]) hp hu1 hv1 n
        have hr := ih (o + 1) xs ys q us vs e5 hq (fun i d hd => by have := hu (i + 1) d (by simpa using hd); rwa [show o + (i + 1) = o + 1 + i by omega] at this)
          (fun i d hd => by have := hv (i + 1) d (by simpa using hd); rwa [show o + (i + 1) = o + 1 + i by omega] at this)
        rw [Op.eqFields]
        simp only [if_pos hn, Sem.run_bind, pu, pv, he, Result.andThen_ok]
        cases p
        · simp
        · simpa using hr
end

section
variable {E : Env} (hE : EnvOk E) {N base : Nat} {w0 : World} {X : Fr} {S : St} {α : Nat → Value} {a : Act} {w : World}
include hE
theorem run_binV {op : BinOp} {t : Nat} {x y : Operand} {c : Prop} {p : PV} {px py : PV} (h : binV E op t px py = some (c, p)) (hc : c) {ok : Nat → Prop} {o : Nat → Nat × Option Ob} {u v : Value} (hu : px.rel o α w ok u) (hv : py.rel o α w ok v) :
    ∃ r, (do eqGuard op t x y u v; binOp op t u v : Sem Value).run E.P w = .ok r w ∧ p.rel o α w ok r := by
  unfold binV at h
  split at h
  · rename_i k a k' b
    split at h
    · rename_i hk
      simp only [PV.rel, D.rd] at hu hv
      subst hu; subst hv
      obtain ⟨d, rfl, r, hr, hd⟩ := run_ibin hk h hc E.P t w
      refine ⟨r, ?_, by simp only [PV.rel]; exact hd _ _⟩
      have hg : (eqGuard op t x y (.int k a) (.int k' b)).run E.P w = .ok () w := by unfold eqGuard; split <;> simp
      simp only [Sem.run_bind, hg, Result.andThen_ok, hr]
    · cases h
  · rename_i s s'
    simp only [PV.rel, D.rd] at hu hv
    obtain ⟨rfl, _⟩ := hu; obtain ⟨rfl, _⟩ := hv
    obtain ⟨d, rfl, r, hr, hd⟩ := run_sbin h hc E.P t w
    refine ⟨r, ?_, by simp only [PV.rel]; exact hd _ _⟩
    have hg : (eqGuard op t x y (.string s) (.string s')).run E.P w = .ok () w := by unfold eqGuard; split <;> simp
    simp only [Sem.run_bind, hg, Result.andThen_ok, hr]
  · rename_i b b'
    simp only [PV.rel, D.rd] at hu hv
    subst hu; subst hv
    have hg : (eqGuard op t x y (.bool b) (.bool b')).run E.P w = .ok () w := by unfold eqGuard; split <;> simp
    split at h
    · rename_i ht
      simp only [Option.some.injEq, Prod.mk.injEq] at h
      obtain ⟨rfl, rfl⟩ := h
      exact ⟨.bool (b == b'), by simp [hg, binOp, run_equal_bool (tk_bool hE ht)], by simp [PV.rel, D.rd]⟩
    · rename_i ht
      simp only [Option.some.injEq, Prod.mk.injEq] at h
      obtain ⟨rfl, rfl⟩ := h
      exact ⟨.bool !(b == b'), by simp [hg, binOp, run_equal_bool (tk_bool hE ht)], by simp [PV.rel, D.rd]⟩
    · cases h
  · rename_i xs ys
    split at h
    · rename_i fs ht
      split at h
      · rename_i h1
        obtain ⟨fields, hu', hf, hg1, hg2⟩ := tk_struct hE ht
        simp only [PV.rel, D.rd] at hu hv
        obtain ⟨us, rfl, _, hus⟩ := hu
        obtain ⟨vs, rfl, _, hvs⟩ := hv
        have hg : (eqGuard op t x y (.agg us) (.agg vs)).run E.P w = .ok () w := by
          unfold eqGuard
          cases op <;> simp [hg1]
        have key : ∀ b, deqs xs ys = some b → (Op.equal t (.agg us) (.agg vs)).run E.P w = .ok b w := by
          intro b hb
          have hfo : E.P.fieldsOf t = fields := by simp [Program.fieldsOf, hu']
          have := run_eqFields (P := E.P) (w := w) 9998 hf 0 xs ys b us vs h1 hb (fun i d hd => by simpa using rdVals_get hus i d hd) (fun i d hd => by simpa using rdVals_get hvs i d hd)
          unfold Op.equal Op.maxDepth
          rw [run_equalIn_struct (P := E.P) w 9999 t us vs (by rw [hfo]; exact hu') hg2, hfo]
          exact this
        split at h
        · rename_i b hb
          simp only [Option.some.injEq, Prod.mk.injEq] at h
          obtain ⟨rfl, rfl⟩ := h
          exact ⟨.bool b, by simp [hg, binOp, key b hb], by simp [PV.rel, D.rd]⟩
        · rename_i b hb
          simp only [Option.some.injEq, Prod.mk.injEq] at h
          obtain ⟨rfl, rfl⟩ := h
          exact ⟨.bool !b, by simp [hg, binOp, key b hb], by simp [PV.rel, D.rd]⟩
        · cases h
      · cases h
    · cases h
  · rename_i sz xs
    simp only [PV.rel, D.rd] at hu hv
    obtain ⟨A, cp, rfl, ⟨hcp, hA⟩, hmax, hne⟩ := hu
    subst hv
    have hg : (eqGuard op t x y (.slice A xs.length cp) (.slice none 0 0)).run E.P w = .ok () w := by unfold eqGuard; split <;> simp
    split at h
    · rename_i e ht
      split at h
      · cases h
      · rename_i hx
        simp only [Option.some.injEq, Prod.mk.injEq] at h
        obtain ⟨rfl, rfl⟩ := h
        obtain ⟨b, o', rfl, _⟩ := hne (by simpa using hx)
        exact ⟨.bool false, by simp [hg, binOp, run_equal_slice_nil w t e _ _ _ (tk_slice hE ht)], by simp [PV.rel, D.rd]⟩
    · rename_i e ht
      split at h
      · cases h
      · rename_i hx
        simp only [Option.some.injEq, Prod.mk.injEq] at h
        obtain ⟨rfl, rfl⟩ := h
        obtain ⟨b, o', rfl, _⟩ := hne (by simpa using hx)
        exact ⟨.bool true, by simp [hg, binOp, run_equal_slice_nil w t e _ _ _ (tk_slice hE ht)], by simp [PV.rel, D.rd]⟩
    · cases h
  · simp only [PV.rel] at hu hv
    subst hu; subst hv
    have hg : (eqGuard op t x y (.slice none 0 0) (.slice none 0 0)).run E.P w = .ok () w := by unfold eqGuard; split <;> simp
    split at h
    · rename_i e ht
      simp only [Option.some.injEq, Prod.mk.injEq] at h
      obtain ⟨rfl, rfl⟩ := h
      exact ⟨.bool true, by simp [hg, binOp, run_equal_slice_nil w t e _ _ _ (tk_slice hE ht)], by simp [PV.rel, D.rd]⟩
    · rename_i e ht
      simp only [Option.some.injEq, Prod.mk.injEq] at h
      obtain ⟨rfl, rfl⟩ := h
      exact ⟨.bool false, by simp [hg, binOp, run_equal_slice_nil w t e _ _ _ (tk_slice hE ht)], by simp [PV.rel, D.rd]⟩
    · cases h
  · cases h
end
end Go.Proofs.Ytomnjbebgfadoaa.Pi
end
section
/- Soundness of the pure interpreter's pure operations, continued: loads, addresses, structs that are built; and all of them together.
   Conditions: none; lemmas. -/
set_option linter.unusedVariables false
set_option linter.unusedSimpArgs false
namespace Go.Proofs.Ytomnjbebgfadoaa.Pi
open Go Go.RowKit

/-! ### 10. Cells -/
theorem rdCells_vals {w : World} {ok : Nat → Prop} {b : Nat} : ∀ {o : Nat} {ds : List D}, rdCells w ok b o ds → ∃ vals, rdVals w ok ds vals ∧ (∀ u ∈ vals, u.oneCell' = true) ∧ w.rangeAt b o vals
  | o, [], h => ⟨[], by simp [rdVals], by simp, fun j v hv => by simp at hv⟩
  | o, d :: ds, h => by
    simp only [rdCells] at h
    obtain ⟨⟨_, u, hc, h0, hr⟩, hs⟩ := h
    obtain ⟨vals, h1, h3, h2⟩ := rdCells_vals hs
    refine ⟨u :: vals, by simp only [rdVals]; exact ⟨u, vals, rfl, hr, h1⟩, fun x hx => ?_, fun j v hv => ?_⟩
    · rcases List.mem_cons.1 hx with rfl | hx
      · exact h0
      · exact h3 x hx
    cases j with
    | zero => simp at hv; subst hv; simpa using hc
    | succ j => have := h2 j v (by simpa using hv); rwa [show o + 1 + j = o + (j + 1) by omega] at this
theorem rdCells_drop {w : World} {ok : Nat → Prop} {b : Nat} : ∀ {o : Nat} {ds : List D} (n : Nat), rdCells w ok b o ds → n ≤ ds.length → rdCells w ok b (o + n) (ds.drop n)
  | o, ds, 0, h, _ => by simpa using h
  | o, [], n + 1, h, hn => by simp at hn
  | o, d :: ds, n + 1, h, hn => by
    simp only [rdCells] at h
    have := rdCells_drop n h.2 (by simpa using hn)
    simp only [List.drop_succ_cons]
    rwa [show o + 1 + n = o + (n + 1) by omega] at this
theorem rdCells_take {w : World} {ok : Nat → Prop} {b : Nat} : ∀ {o : Nat} {ds : List D} (n : Nat), rdCells w ok b o ds → rdCells w ok b o (ds.take n)
  | o, ds, 0, h => by simp [rdCells]
  | o, [], n + 1, h => by simp [rdCells]
  | o, d :: ds, n + 1, h => by
    simp only [rdCells] at h
    simp only [List.take_succ_cons, rdCells]
    exact ⟨h.1, rdCells_take n h.2⟩
theorem rdVals_take {w : World} {ok : Nat → Prop} : ∀ {ds : List D} {vs : List Value} (n : Nat), rdVals w ok ds vs → rdVals w ok (ds.take n) (vs.take n)
  | ds, vs, 0, h => by simp [rdVals]
  | [], vs, n + 1, h => by simp only [rdVals] at h; subst h; simp [rdVals]
  | d :: ds, vs, n + 1, h => by
    simp only [rdVals] at h
    obtain ⟨v, vs', rfl, h1, h2⟩ := h
    simp only [List.take_succ_cons, rdVals]
    exact ⟨v, _, rfl, h1, rdVals_take n h2⟩
theorem rdVals_drop {w : World} {ok : Nat → Prop} : ∀ {ds : List D} {vs : List Value} (n : Nat), rdVals w ok ds vs → rdVals w ok (ds.drop n) (vs.drop n)
  | ds, vs, 0, h => by simpa using h
  | [], vs, n + 1, h => by simp only [rdVals] at h; subst h; simp [rdVals]
  | d :: ds, vs, n + 1, h => by
    simp only [rdVals] at h
    obtain ⟨v, vs', rfl, h1, h2⟩ := h
    simpa only [List.drop_succ_cons] using rdVals_drop n h2
theorem flat_cut {α : Type} {sz : Nat} {rs : List (List α)} (h : ∀ r ∈ rs, r.length = sz) {i : Nat} {r : List α} (hi : rs[i]? = some r) {off n : Nat} (hn : off + n ≤ sz) :
    (rs.flatten.drop (i * sz + off)).take n = (r.drop off).take n := by
  have hr : r.length = sz := h r (List.mem_of_getElem? hi)
  apply List.ext_getElem?
  intro j
  simp only [List.getElem?_take, List.getElem?_drop]
  split
  · rename_i hj
    have hlt : off + j < r.length := by omega
    rw [show i * sz + off + j = i * sz + (off + j) by omega, flat_get h i (off + j) r _ hi (List.getElem?_eq_getElem hlt), List.getElem?_eq_getElem hlt]
  · rfl
theorem own_head {w : World} {base e sz n g : Nat} {hdr : Value} {vals : List Value} (h : w.ownsRow base e sz hdr n vals) (hg : hblk hdr = some g) : ∃ cap, hdr = .slice (some ⟨g, 0, none⟩) n cap ∧ n ≤ cap ∧ cap ≤ maxLen ∧ base ≤ g := by
  rcases h.2 with ⟨rfl, _⟩ | ⟨g', cap, cur, rfl, hb, _, hn, hm, _⟩
  · simp [hblk] at hg
  · simp [hblk] at hg; subst hg; exact ⟨cap, rfl, hn, hm, hb⟩
theorem own_pos {w : World} {base e sz n : Nat} {hdr : Value} {vals : List Value} (h : w.ownsRow base e sz hdr n vals) (hn : 0 < n) : ∃ g, hblk hdr = some g := by
  rcases h.2 with ⟨rfl, h0⟩ | ⟨g', cap, cur, rfl, _⟩
  · omega
  · exact ⟨g', rfl⟩
theorem own_range {w : World} {base e sz n g : Nat} {hdr : Value} {vals : List Value} (h : w.ownsRow base e sz hdr n vals) (hg : hblk hdr = some g) : w.rangeAt g 0 vals := by
  obtain ⟨cap, rfl, _⟩ := own_head h hg
  intro j v hv
  have := h.cells (g := g) rfl j v hv
  rwa [Addr.add_mid] at this
theorem rangeAt_cut {w : World} {b o : Nat} {vals : List Value} (h : w.rangeAt b o vals) (k n : Nat) : w.rangeAt b (o + k) ((vals.drop k).take n) := by
  intro j v hv
  simp only [List.getElem?_take, List.getElem?_drop] at hv
  split at hv
  · have := h (k + j) v hv
    rwa [show o + (k + j) = o + k + j by omega] at this
  · cases hv
theorem obj_some {S : St} {K ver : Nat} {x : Ob} (h : S.obj K ver = some x) : live S.o K ver ∧ (S.o K).2 = some x := by
  unfold St.obj at h
  split at h
  · rename_i e; exact ⟨⟨e, by rw [h]; simp⟩, h⟩
  · cases h

section
variable {E : Env} (hE : EnvOk E) {w : World}
include hE
theorem run_loadVar' {t : Nat} {ti : TI} (ht : E.ty t = some ti) {b o : Nat} {vals : List Value} (hc : w.rangeAt b o vals) :
    (ti.isAgg = true → vals.length = ti.size → (loadVar t ⟨b, o, none⟩).run E.P w = .ok (.agg vals.toArray) w) ∧
    (ti.isAgg = false → ∀ v, vals[0]? = some v → (loadVar t ⟨b, o, none⟩).run E.P w = .ok v w) := by
  obtain ⟨i, hi, hs, _⟩ := ty_info hE ht
  have hag := run_isAgg' hE ht w
  constructor
  · intro h1 h2
    have hl : (loadCells ⟨b, o, none⟩ vals.length).run E.P w = .ok vals.toArray w :=
      run_loadCells_list (P := E.P) w ⟨b, o, none⟩ vals (fun j v hv => by rw [Addr.add_mid]; exact hc j v hv)
    unfold loadVar
    rw [h1] at hag
    simp [hag, sizeOf, typeInfo, hi, hs, ← h2, hl]
  · intro h1 v hv
    rw [h1] at hag
    have := hc 0 v hv
    unfold loadVar
    simp [hag]
    rw [Nat.add_zero] at this
    simp [this]

/-- A variable out of cells that read as data. -/
theorem run_loadD {t : Nat} {ti : TI} (ht : E.ty t = some ti) {b o : Nat} {vals : List Value} {ok : Nat → Prop} {cs : List D} (hr : rdVals w ok cs vals) (h1 : ∀ u ∈ vals, u.oneCell' = true) (hc : w.rangeAt b o vals) {off : Nat} {c : Prop} {p : PV}
    (h : loadD ti.isAgg ti.size cs off = (c, p)) (h' : c) (ov : Nat → Nat × Option Ob) (α : Nat → Value) : ∃ v, (loadVar t ⟨b, o + off, none⟩).run E.P w = .ok v w ∧ p.rel ov α w ok v := by
  have hlen := rdVals_length hr
  have hrange := rangeAt_cut hc off ti.size
  obtain ⟨l1, l2⟩ := run_loadVar' hE ht hrange
  have hsz : 0 < ti.size := by obtain ⟨_, _, _, _, h0, _⟩ := ty_info hE ht; exact h0
  unfold loadD at h
  cases ha : ti.isAgg <;> rw [ha] at h <;> simp only [Bool.false_eq_true, if_false, if_true, Prod.mk.injEq] at h <;> obtain ⟨rfl, rfl⟩ := h
  · have hlt : off < vals.length := by omega
    obtain ⟨v, hv, hd⟩ := rdVals_get hr off _ (List.getElem?_eq_getElem h')
    refine ⟨v, l2 ha v ?_, ?_⟩
    · rw [List.getElem?_take, if_pos hsz, List.getElem?_drop]; simpa using hv
    · simp only [PV.rel]
      rw [List.getD_eq_getElem?_getD, List.getElem?_eq_getElem h', Option.getD_some]; exact hd
  · refine ⟨_, l1 ha (by rw [List.length_take, List.length_drop]; omega), ?_⟩
    simp only [PV.rel, D.rd]
    exact ⟨_, rfl, fun u hu => h1 u (List.mem_of_mem_drop (List.mem_of_mem_take (by simpa using hu))), by simpa [cut] using rdVals_take _ (rdVals_drop off hr)⟩
end

theorem allD_rels {o : Nat → Nat × Option Ob} {α : Nat → Value} {w : World} {ok : Nat → Prop} : ∀ {ps : List PV} {ds : List D} {vs : List Value}, allD ps = some ds → PV.rels o α w ok ps vs → rdVals w ok ds vs
  | [], ds, vs, h, hr => by
    simp only [allD, Option.some.injEq] at h; subst h
    simpa only [PV.rels, rdVals] using hr
  | .d x :: ps, ds, vs, h, hr => by
    simp only [allD, Option.map_eq_some_iff] at h
    obtain ⟨es, h1, rfl⟩ := h
    simp only [PV.rels] at hr
    obtain ⟨v, vs', rfl, h2, h3⟩ := hr
    simp only [PV.rel] at h2
    simp only [rdVals]
    exact ⟨v, vs', rfl, h2, allD_rels h1 h3⟩
  | .un :: ps, ds, vs, h, hr => by simp [allD] at h
  | .nils :: ps, ds, vs, h, hr => by simp [allD] at h
  | .ref .. :: ps, ds, vs, h, hr => by simp [allD] at h
  | .row .. :: ps, ds, vs, h, hr => by simp [allD] at h
  | .map .. :: ps, ds, vs, h, hr => by simp [allD] at h
  | .fn .. :: ps, ds, vs, h, hr => by simp [allD] at h
  | .agg .. :: ps, ds, vs, h, hr => by simp [allD] at h
  | .tup .. :: ps, ds, vs, h, hr => by simp [allD] at h
  | .opt .. :: ps, ds, vs, h, hr => by simp [allD] at h
  | .clip .. :: ps, ds, vs, h, hr => by simp [allD] at h
  | .sub .. :: ps, ds, vs, h, hr => by simp [allD] at h
theorem pagg_rel {o : Nat → Nat × Option Ob} {α : Nat → Value} {w : World} {ok : Nat → Prop} {ps : List PV} {vs : List Value} (h1 : ∀ u ∈ vs, u.oneCell' = true) (h : PV.rels o α w ok ps vs) : (pagg ps).rel o α w ok (.agg vs.toArray) := by
  unfold pagg
  split
  · rename_i ds hd
    simp only [PV.rel, D.rd]
    exact ⟨_, rfl, by simpa using h1, by simpa using allD_rels hd h⟩
  · simp only [PV.rel]
    exact ⟨_, rfl, by simpa using h1, by simpa using h⟩

section
variable {E : Env} (hE : EnvOk E) {w : World}
include hE
theorem run_loadP {t : Nat} {ti : TI} (ht : E.ty t = some ti) {b o : Nat} {vals : List Value} {ok : Nat → Prop} {ov : Nat → Nat × Option Ob} {α : Nat → Value} {cs : List PV} (hr : PV.rels ov α w ok cs vals) (h1 : ∀ u ∈ vals, u.oneCell' = true) (hc : w.rangeAt b o vals) {off : Nat} {c : Prop} {p : PV}
    (h : loadP ti.isAgg ti.size cs off = (c, p)) (h' : c) : ∃ v, (loadVar t ⟨b, o + off, none⟩).run E.P w = .ok v w ∧ p.rel ov α w ok v := by
  have hlen := PV.rels_length hr
  have hrange := rangeAt_cut hc off ti.size
  obtain ⟨l1, l2⟩ := run_loadVar' hE ht hrange
  have hsz : 0 < ti.size := by obtain ⟨_, _, _, _, h0, _⟩ := ty_info hE ht; exact h0
  unfold loadP at h
  cases ha : ti.isAgg <;> rw [ha] at h <;> simp only [Bool.false_eq_true, if_false, if_true, Prod.mk.injEq] at h <;> obtain ⟨rfl, rfl⟩ := h
  · have hlt : off < vals.length := by omega
    obtain ⟨v, hv, hd⟩ := PV.rels_get hr off _ (List.getElem?_eq_getElem h')
    refine ⟨v, l2 ha v ?_, ?_⟩
    · rw [List.getElem?_take, if_pos hsz, List.getElem?_drop]; simpa using hv
    · rw [List.getD_eq_getElem?_getD, List.getElem?_eq_getElem h', Option.getD_some]; exact hd
  · exact ⟨_, l1 ha (by rw [List.length_take, List.length_drop]; omega), pagg_rel (fun u hu => h1 u (List.mem_of_mem_drop (List.mem_of_mem_take hu))) (PV.rels_take (PV.rels_drop hr off) _)⟩

theorem run_loadV {N base : Nat} {w0 : World} {X : Fr} {S : St} {α : Nat → Value} {a : Act} (h : Rel N base w0 X S α a w) {t : Nat} {q p : PV} {c : Prop} (hq : loadV E S t q = some (c, p)) (hc : c) {v : Value} (hv : q.rel S.o α w (okOf X.A S.o α) v) :
    ∃ r, (Instr.loadAt t v).run E.P w = .ok r w ∧ p.rel S.o α w (okOf X.A S.o α) r := by
  unfold loadV at hq
  split at hq
  · rename_i cs off
    simp only [PV.rel, D.rd] at hv
    obtain ⟨b, o, rfl, hcs⟩ := hv
    split at hq
    · rename_i ti ht
      simp only [Option.some.injEq] at hq
      obtain ⟨vals, h1, h3, h2⟩ := rdCells_vals hcs
      obtain ⟨r, hr, hp⟩ := run_loadD hE ht h1 h3 h2 hq hc S.o α
      exact ⟨r, by simpa [Instr.loadAt, Instr.sureAddr] using hr, hp⟩
    · cases hq
  · rename_i K ver sz i off
    simp only [PV.rel] at hv
    split at hq
    · rename_i ti sz' e xs ht hob
      obtain ⟨hl, hx⟩ := obj_some hob
      obtain ⟨g, hg, rfl⟩ := hv.2 hl
      split at hq
      · rename_i te hte
        split at hq
        · rename_i hsz
          subst hsz
          simp only [Option.some.injEq, Prod.mk.injEq] at hq
          obtain ⟨rfl, rfl⟩ := hq
          obtain ⟨hi, hc2⟩ := hc
          obtain ⟨vals, hown, hrows, hrd, hones⟩ := h.o K _ hx
          have hr : xs[i]? = some (xs.getD i te.zero) := by simp [hi]
          have hlen := hrows _ (List.mem_of_getElem? hr)
          have hrange := own_range hown hg
          generalize xs.getD i te.zero = r at hr hlen hc2 ⊢
          have h1 : rdVals w (okOf X.A S.o α) r ((vals.drop (i * sz)).take sz) := by
            have := rdVals_take sz (rdVals_drop (i * sz) hrd)
            have e := flat_cut hrows hr (off := 0) (n := sz) (by omega)
            simp only [Nat.add_zero, List.drop_zero] at e
            rw [e, List.take_of_length_le (by omega)] at this
            exact this
          have h2 := rangeAt_cut hrange (i * sz) sz
          simp only [Nat.zero_add] at h2
          obtain ⟨v, hv1, hv2⟩ := run_loadD hE ht h1 (fun u hu => hones u (List.mem_of_mem_drop (List.mem_of_mem_take hu))) h2 (c := (loadD ti.isAgg ti.size r off).1) (p := (loadD ti.isAgg ti.size r off).2) rfl hc2 S.o α
          exact ⟨v, by simpa [Instr.loadAt, Instr.sureAddr] using hv1, hv2⟩
        · cases hq
      · cases hq
    · rename_i ti e cs ht hob
      obtain ⟨hl, hx⟩ := obj_some hob
      obtain ⟨g, hg, rfl⟩ := hv.2 hl
      simp only [Option.some.injEq] at hq
      obtain ⟨g', vals, hhdr, hb, hh, hr, hones⟩ := h.o K _ hx
      rw [hhdr] at hg
      simp [hblk] at hg
      subst hg
      have hrange : w.rangeAt g' 0 vals.toList := fun j v hv => by
        simp only [Nat.zero_add, World.cell?, hh]
        simpa using hv
      obtain ⟨r, h1, h2⟩ := run_loadP hE ht hr hones hrange hq hc
      exact ⟨r, by simpa [Instr.loadAt, Instr.sureAddr] using h1, h2⟩
    · rename_i ti sz' e xs ht hob
      obtain ⟨hl, hx⟩ := obj_some hob
      obtain ⟨g, hg, rfl⟩ := hv.2 hl
      split at hq
      · rename_i hsz
        subst hsz
        simp only [Option.some.injEq, Prod.mk.injEq] at hq
        obtain ⟨rfl, rfl⟩ := hq
        obtain ⟨hi, hc2⟩ := hc
        obtain ⟨vals, hown, hrows, hrd, hones⟩ := h.o K _ hx
        have hr : xs[i]? = some (xs.getD i []) := by simp [hi]
        have hlen := hrows _ (List.mem_of_getElem? hr)
        have hrange := own_range hown hg
        generalize xs.getD i [] = r at hr hlen hc2 ⊢
        have h1 : PV.rels S.o α w (okOf X.A S.o α) r ((vals.drop (i * sz)).take sz) := by
          have := PV.rels_take (PV.rels_drop hrd (i * sz)) sz
          have e := flat_cut hrows hr (off := 0) (n := sz) (by omega)
          simp only [Nat.add_zero, List.drop_zero] at e
          rw [e, List.take_of_length_le (by omega)] at this
          exact this
        have h2 := rangeAt_cut hrange (i * sz) sz
        simp only [Nat.zero_add] at h2
        obtain ⟨v, hv1, hv2⟩ := run_loadP hE ht h1 (fun u hu => hones u (List.mem_of_mem_drop (List.mem_of_mem_take hu))) h2 (c := (loadP ti.isAgg ti.size r off).1) (p := (loadP ti.isAgg ti.size r off).2) rfl hc2
        exact ⟨v, by simpa [Instr.loadAt, Instr.sureAddr] using hv1, hv2⟩
      · cases hq
    · cases hq
  · cases hq
end
end Go.Proofs.Ytomnjbebgfadoaa.Pi
end
section
/- Soundness of the pure interpreter's pure operations, the rest, and all of them together.
   Conditions: none; lemmas. -/
set_option linter.unusedVariables false
set_option linter.unusedSimpArgs false
namespace Go.Proofs.Ytomnjbebgfadoaa.Pi
open Go Go.RowKit

section
variable {E : Env} (hE : EnvOk E) {N base : Nat} {w0 : World} {X : Fr} {S : St} {α : Nat → Value} {a : Act} {w : World}
include hE

theorem run_fieldAddrV {s f : Nat} {q p : PV} {c : Prop} (hq : fieldAddrV E s f q = some (c, p)) {ok : Nat → Prop} {v : Value} (hv : q.rel S.o α w ok v) :
    ∃ r, (Instr.fieldAt s v f).run E.P w = .ok r w ∧ p.rel S.o α w ok r := by
  have key : ∀ (fs : List FI) (x : FI) (b o : Nat), E.tk s = some (.struct fs) → fs[f]? = some x → (Instr.fieldAt s (.pointer (some ⟨b, o, none⟩)) f).run E.P w = .ok (.pointer (some ⟨b, o + x.off, none⟩)) w := by
    intro fs x b o ht hx
    obtain ⟨fields, hu, hf, _⟩ := tk_struct hE ht
    obtain ⟨fd, h1, h2, ⟨ti, h3, h4⟩, h5, _⟩ := hf.get f x hx
    have h1' : fields[f]? = some fd := by simpa using h1
    have h6 : ¬ (ti.size = 0) := by omega
    simp [Instr.fieldAt, run_underlying hu, h1', Instr.sureAddr, fieldPlace, sizeOf, typeInfo, h3, h6, Addr.add_mid, h2]
  unfold fieldAddrV at hq
  split at hq
  · rename_i cs off
    simp only [PV.rel, D.rd] at hv
    obtain ⟨b, o, rfl, hcs⟩ := hv
    split at hq
    · rename_i fs ht
      split at hq
      · rename_i x hx
        simp only [Option.some.injEq, Prod.mk.injEq] at hq
        obtain ⟨rfl, rfl⟩ := hq
        refine ⟨_, key fs x b (o + off) ht hx, ?_⟩
        simp only [PV.rel, D.rd]
        exact ⟨b, o, by simp [Nat.add_assoc], hcs⟩
      · cases hq
    · cases hq
  · rename_i K ver sz i off
    simp only [PV.rel] at hv
    split at hq
    · rename_i fs ht
      split at hq
      · rename_i x hx
        simp only [Option.some.injEq, Prod.mk.injEq] at hq
        obtain ⟨rfl, rfl⟩ := hq
        obtain ⟨⟨⟨g, rfl⟩, hver⟩, hlive⟩ := hv
        refine ⟨_, key fs x g (i * sz + off) ht hx, ?_⟩
        simp only [PV.rel]
        refine ⟨⟨⟨g, by simp [Nat.add_assoc]⟩, hver⟩, fun hl => ?_⟩
        obtain ⟨g', hg', e⟩ := hlive hl
        simp only [Value.pointer.injEq, Option.some.injEq, Addr.mk.injEq, and_true] at e
        obtain ⟨rfl, _⟩ := e
        exact ⟨g, hg', by simp [Nat.add_assoc]⟩
      · cases hq
    · cases hq
  · cases hq

theorem run_fieldV {s f : Nat} {q p : PV} {c : Prop} (hq : fieldV E s f q = some (c, p)) (hc : c) {ov : Nat → Nat × Option Ob} {ok : Nat → Prop} {v : Value} (hv : q.rel ov α w ok v) :
    ∃ r, (Instr.field s v f).run E.P w = .ok r w ∧ p.rel ov α w ok r := by
  unfold fieldV at hq
  split at hq
  · rename_i cs
    simp only [PV.rel, D.rd] at hv
    obtain ⟨vs, rfl, hones, hcs⟩ := hv
    split at hq
    · rename_i fs ht
      split at hq
      · rename_i x hx
        simp only [Option.some.injEq] at hq
        obtain ⟨fields, hu, hf, _⟩ := tk_struct hE ht
        obtain ⟨fd, h1, h2, ⟨ti, h3, h4⟩, h5, h6⟩ := hf.get f x hx
        have h1' : fields[f]? = some fd := by simpa using h1
        have hag := run_isAggB h6 w
        have hlen := rdVals_length hcs
        unfold loadD at hq
        cases ha : x.agg <;> rw [ha] at hq hag <;> simp only [Bool.false_eq_true, if_false, if_true, Prod.mk.injEq] at hq <;> obtain ⟨rfl, rfl⟩ := hq
        · obtain ⟨u, hu1, hu2⟩ := rdVals_get hcs x.off _ (List.getElem?_eq_getElem hc)
          refine ⟨u, ?_, by simp only [PV.rel]; rw [List.getD_eq_getElem?_getD, List.getElem?_eq_getElem hc, Option.getD_some]; exact hu2⟩
          have hu1' : vs[x.off]? = some u := by simpa using hu1
          simp [Instr.field, run_underlying hu, h1', asAgg, part, hag, h2, hu1']
        · refine ⟨.agg (vs.extract x.off (x.off + x.size)), ?_, ?_⟩
          · simp [Instr.field, run_underlying hu, h1', asAgg, part, hag, h2, sizeOf, typeInfo, h3, h4]
          · simp only [PV.rel, D.rd]
            refine ⟨_, rfl, fun u hu => hones u ?_, ?_⟩
            · rw [Array.toList_extract, List.extract_eq_take_drop] at hu
              exact List.mem_of_mem_drop (List.mem_of_mem_take hu)
            have := rdVals_take x.size (rdVals_drop x.off hcs)
            simpa [cut, Array.toList_extract, List.extract_eq_take_drop] using this
      · cases hq
    · cases hq
  · cases hq

theorem run_indexAddrV (h : Rel N base w0 X S α a w) {t : Nat} {q q' p : PV} {c : Prop} (hq : indexAddrV E t q q' = some (c, p)) (hc : c) {v u : Value} (hv : q.rel S.o α w (okOf X.A S.o α) v) (hu : q'.rel S.o α w (okOf X.A S.o α) u) :
    ∃ r, (Instr.indexAt t v u).run E.P w = .ok r w ∧ p.rel S.o α w (okOf X.A S.o α) r := by
  unfold indexAddrV at hq
  split at hq
  · rename_i sz xs k i
    simp only [PV.rel, D.rd] at hv hu
    subst hu
    obtain ⟨A, cp, rfl, hcap, hmax, hr⟩ := hv
    split at hq
    · rename_i e ht
      split at hq
      · rename_i te hte
        split at hq
        · rename_i hsz
          simp only [Option.some.injEq, Prod.mk.injEq] at hq
          obtain ⟨rfl, rfl⟩ := hq
          have hne : xs ≠ [] := fun e => by simp [e] at hc; omega
          obtain ⟨b, o, rfl, hrows⟩ := hr hne
          obtain ⟨ti, hti, hs, _⟩ := ty_info hE hte
          have hlt : i.toNat < xs.length := by omega
          obtain ⟨h1, h2⟩ := rdRows_get hrows i.toNat _ (List.getElem?_eq_getElem hlt)
          refine ⟨.pointer (some ⟨b, o + i.toNat * sz, none⟩), ?_, ?_⟩
          · simp [Instr.indexAt, asIntOf, run_underlying (tk_slice hE ht), hc, sizeOf, typeInfo, hti, hs, hsz, Addr.add_mid]
          · simp only [PV.rel, D.rd]
            refine ⟨b, o + i.toNat * sz, by simp, ?_⟩
            rw [List.getD_eq_getElem?_getD, List.getElem?_eq_getElem hlt, Option.getD_some]; exact h2
        · cases hq
      · cases hq
    · cases hq
  · rename_i K ver n k i
    simp only [PV.rel, D.rd] at hv hu
    subst hu
    split at hq
    · rename_i e ht
      split at hq
      · rename_i te hte
        simp only [Option.some.injEq, Prod.mk.injEq] at hq
        obtain ⟨rfl, rfl⟩ := hq
        obtain ⟨⟨⟨A, cp, rfl, hmax, hA⟩, hver⟩, hlive⟩ := hv
        obtain ⟨g, rfl⟩ := hA (by omega)
        obtain ⟨ti, hti, hs, _⟩ := ty_info hE hte
        refine ⟨.pointer (some ⟨g, i.toNat * te.size, none⟩), ?_, ?_⟩
        · simp [Instr.indexAt, asIntOf, run_underlying (tk_slice hE ht), hc, sizeOf, typeInfo, hti, hs, Addr.add_mid]
        · simp only [PV.rel]
          exact ⟨⟨⟨g, by simp⟩, hver⟩, fun hl => ⟨g, by rw [← hlive hl]; rfl, by simp⟩⟩
      · cases hq
    · cases hq
  · cases hq

theorem run_indexV {t : Nat} {q q' p : PV} {c : Prop} (hq : indexV E t q q' = some (c, p)) (hc : c) {ov : Nat → Nat × Option Ob} {ok : Nat → Prop} {v u : Value} (hv : q.rel ov α w ok v) (hu : q'.rel ov α w ok u) :
    ∃ r, (Instr.index t v u).run E.P w = .ok r w ∧ p.rel ov α w ok r := by
  unfold indexV at hq
  split at hq
  · rename_i s k i
    simp only [PV.rel, D.rd] at hv hu
    subst hu; obtain ⟨hvs, _⟩ := hv; subst hvs
    split at hq
    · rename_i ht
      simp only [Option.some.injEq, Prod.mk.injEq] at hq
      obtain ⟨rfl, rfl⟩ := hq
      have hlt : i.toNat < s.size := by omega
      have hlt' : i.toNat < s.data.toList.length := by simpa using hlt
      refine ⟨.int .u8 ((s.data.toList.getD i.toNat 0).toNat), ?_, by simp [PV.rel, D.rd]⟩
      have hs : s[i.toNat]? = some (s[i.toNat]'hlt) := by simp [hlt]
      have e : s.data.toList.getD i.toNat 0 = s[i.toNat]'hlt := by
        rw [List.getD_eq_getElem?_getD, List.getElem?_eq_getElem hlt', Option.getD_some]
        rfl
      rw [e]
      simp [Instr.index, asIntOf, run_underlying (tk_str hE ht), hc.1, hs]
    · cases hq
  · cases hq

omit hE in
theorem run_extV {i : Nat} {q p : PV} {c : Prop} (hq : extV i q = some (c, p)) {ov : Nat → Nat × Option Ob} {ok : Nat → Prop} {v : Value} (hv : q.rel ov α w ok v) (P : Program) :
    ∃ r, (Instr.extract v i).run P w = .ok r w ∧ p.rel ov α w ok r := by
  unfold extV at hq
  split at hq
  · rename_i vs
    simp only [PV.rel] at hv
    obtain ⟨us, rfl, hr⟩ := hv
    split at hq
    · rename_i x hx
      simp only [Option.some.injEq, Prod.mk.injEq] at hq
      obtain ⟨rfl, rfl⟩ := hq
      obtain ⟨u, h1, h2⟩ := PV.rels_get hr i _ hx
      have h1' : us[i]? = some u := by simpa using h1
      exact ⟨u, by simp [Instr.extract, h1'], h2⟩
    · cases hq
  · cases hq

omit hE in
theorem run_getObj_mapG {P : Program} {r : Nat} {es : Array MapEntry} {clock : Nat} (hb : w.heap[r]? = some (.map es clock)) : (getObj r).run P w = .ok (.map es clock) w := by
  simp [getObj, Sem.run, hb]
theorem run_lenV (h : Rel N base w0 X S α a w) {t ty : Nat} {q p : PV} {c : Prop} (hq : lenV E S t q = some (c, p)) {v : Value} (hv : q.rel S.o α w (okOf X.A S.o α) v) :
    ∃ r, (Builtin.len_ #[t] ty #[v]).run E.P w = .ok r w ∧ p.rel S.o α w (okOf X.A S.o α) r := by
  unfold lenV at hq
  split at hq
  · rename_i ht
    split at hq
    · rename_i s
      simp only [Option.some.injEq, Prod.mk.injEq] at hq
      obtain ⟨rfl, rfl⟩ := hq
      simp only [PV.rel, D.rd] at hv
      obtain ⟨rfl, _⟩ := hv
      exact ⟨.int .i64 s.size, by simp [Builtin.len_, run_underlying (tk_str hE ht), goInt], by simp [PV.rel, D.rd]⟩
    · cases hq
  · rename_i e he
    have key : ∀ (A : Option Addr) (n cp : Nat), (Builtin.len_ #[t] ty #[.slice A n cp]).run E.P w = .ok (.int .i64 n) w := by
      intro A n cp
      simp [Builtin.len_, run_underlying (tk_slice hE he), goInt]
    split at hq <;> try (cases hq; done)
    · rename_i sz xs
      simp only [Option.some.injEq, Prod.mk.injEq] at hq
      obtain ⟨rfl, rfl⟩ := hq
      simp only [PV.rel, D.rd] at hv
      obtain ⟨A, cp, rfl, _⟩ := hv
      exact ⟨_, key A _ cp, by simp [PV.rel, D.rd]⟩
    · simp only [Option.some.injEq, Prod.mk.injEq] at hq
      obtain ⟨rfl, rfl⟩ := hq
      simp only [PV.rel] at hv
      subst hv
      exact ⟨_, key none 0 0, by simp [PV.rel, D.rd]⟩
    · rename_i sz xs
      simp only [Option.some.injEq, Prod.mk.injEq] at hq
      obtain ⟨rfl, rfl⟩ := hq
      simp only [PV.rel] at hv
      obtain ⟨⟨A, rfl⟩, _⟩ := hv
      exact ⟨_, key A _ _, by simp [PV.rel, D.rd]⟩
    · rename_i K ver n
      simp only [Option.some.injEq, Prod.mk.injEq] at hq
      obtain ⟨rfl, rfl⟩ := hq
      simp only [PV.rel] at hv
      obtain ⟨⟨⟨A, cp, rfl, _, _⟩, _⟩, _⟩ := hv
      exact ⟨_, key A _ cp, by simp [PV.rel, D.rd]⟩
  · rename_i kt e he
    split at hq
    · rename_i K ver
      split at hq
      · rename_i kt' e' clock es hob
        simp only [Option.some.injEq, Prod.mk.injEq] at hq
        obtain ⟨rfl, rfl⟩ := hq
        obtain ⟨hl, hx⟩ := obj_some hob
        simp only [PV.rel] at hv
        have hva := hv.2 hl
        subst hva
        obtain ⟨g, ents, e1, hb, hh, hr⟩ := h.o K _ hx
        have hlen : ∀ {es : List (Nat × D × PV)} {l : List MapEntry}, relME S.o α w (okOf X.A S.o α) es l → l.length = es.length := by
          intro es
          induction es with
          | nil => intro l h; simp only [relME] at h; simp [h]
          | cons x es ih => intro l h; simp only [relME] at h; obtain ⟨m, l', rfl, _, h4⟩ := h; simp [ih h4]
        have hl' := hlen hr
        rw [e1]
        exact ⟨.int .i64 es.length, by simp [Builtin.len_, run_underlying (tk_map hE he), run_getObj_mapG hh, goInt, ← hl'], by simp [PV.rel, D.rd]⟩
      · cases hq
    · cases hq
  · cases hq
end

theorem ints_rel {o : Nat → Nat × Option Ob} {α : Nat → Value} {w : World} {ok : Nat → Prop} : ∀ {ps : List PV} {k : IntKind} {ns : List Int} {vs : List Value}, ints ps = some (k, ns) → PV.rels o α w ok ps vs → vs = ns.map (Value.int k) ∧ ns ≠ []
  | [], k, ns, vs, h, hr => by simp [ints] at h
  | [.d (.int k' n)], k, ns, vs, h, hr => by
    simp only [ints, Option.some.injEq, Prod.mk.injEq] at h
    obtain ⟨rfl, rfl⟩ := h
    simp only [PV.rels, PV.rel, D.rd] at hr
    obtain ⟨v, vs', rfl, rfl, rfl⟩ := hr
    simp
  | .d (.int k' n) :: q :: ps, k, ns, vs, h, hr => by
    rw [ints] at h
    · simp only [Option.bind_eq_some_iff] at h
      obtain ⟨⟨k1, ms⟩, h1, h2⟩ := h
      simp only at h2
      split at h2
      · rename_i e
        subst e
        simp only [Option.some.injEq, Prod.mk.injEq] at h2
        obtain ⟨rfl, rfl⟩ := h2
        rw [PV.rels] at hr
        obtain ⟨v, vs', rfl, h3, h4⟩ := hr
        simp only [PV.rel, D.rd] at h3
        obtain ⟨e1, _⟩ := ints_rel h1 h4
        subst h3; subst e1
        simp
      · cases h2
    · simp
  | .un :: ps, k, ns, vs, h, hr => by simp [ints] at h
  | .nils :: ps, k, ns, vs, h, hr => by simp [ints] at h
  | .ref .. :: ps, k, ns, vs, h, hr => by simp [ints] at h
  | .row .. :: ps, k, ns, vs, h, hr => by simp [ints] at h
  | .map .. :: ps, k, ns, vs, h, hr => by simp [ints] at h
  | .fn .. :: ps, k, ns, vs, h, hr => by simp [ints] at h
  | .agg .. :: ps, k, ns, vs, h, hr => by simp [ints] at h
  | .tup .. :: ps, k, ns, vs, h, hr => by simp [ints] at h
  | .opt .. :: ps, k, ns, vs, h, hr => by simp [ints] at h
  | .clip .. :: ps, k, ns, vs, h, hr => by simp [ints] at h
  | .sub .. :: ps, k, ns, vs, h, hr => by simp [ints] at h
  | .d (.bool _) :: ps, k, ns, vs, h, hr => by simp [ints] at h
  | .d (.str _) :: ps, k, ns, vs, h, hr => by simp [ints] at h
  | .d (.lst _ _) :: ps, k, ns, vs, h, hr => by simp [ints] at h
  | .d (.agg _) :: ps, k, ns, vs, h, hr => by simp [ints] at h
  | .d (.ptr _ _) :: ps, k, ns, vs, h, hr => by simp [ints] at h
  | .d (.fn _ _) :: ps, k, ns, vs, h, hr => by simp [ints] at h

theorem foldlM_min (P : Program) (w : World) (k : IntKind) : ∀ (l : List Int) (x : Int), ((l.map (Value.int k)).foldlM Builtin.min2 (.int k x)).run P w = .ok (.int k (l.foldl (fun a b => if b < a then b else a) x)) w
  | [], x => by simp
  | y :: l, x => by simp [Builtin.min2, foldlM_min P w k l]
theorem foldlM_max (P : Program) (w : World) (k : IntKind) : ∀ (l : List Int) (x : Int), ((l.map (Value.int k)).foldlM Builtin.max2 (.int k x)).run P w = .ok (.int k (l.foldl (fun a b => if a < b then b else a) x)) w
  | [], x => by simp
  | y :: l, x => by
    have : (Builtin.max2 (.int k x) (.int k y)).run P w = .ok (.int k (if x < y then y else x)) w := by simp [Builtin.max2]
    simp [this, foldlM_max P w k l]

end Go.Proofs.Ytomnjbebgfadoaa.Pi
end
section
/- Maps: how the machine finds a key, and that the pure interpreter's finding tells it.
   Conditions: none; lemmas. -/
set_option linter.unusedVariables false
set_option linter.unusedSimpArgs false
namespace Go.Proofs.Ytomnjbebgfadoaa.Pi
open Go Go.RowKit

theorem deq_shape {z x y : D} {w : Bool} (h : shape1 z x = true) (h' : shape1 z y = true) : deq x y = some (keq x y) ∧ x.sk = z.sk := by
  cases z <;> cases x <;> simp only [shape1, Bool.false_eq_true] at h <;> cases y <;> simp only [shape1, Bool.false_eq_true] at h'
  · simp only [decide_eq_true_eq] at h h'; subst h; subst h'; simp [deq, keq, D.sk]
  · simp [deq, keq, D.sk]
  · simp [deq, keq, D.sk]
theorem deqs_shape : ∀ {zs xs ys : List D}, shapes zs xs = true → shapes zs ys = true → deqs xs ys = some (keqs xs ys)
  | [], [], [], _, _ => rfl
  | [], [], _ :: _, _, h => by simp [shapes] at h
  | [], _ :: _, _, h, _ => by simp [shapes] at h
  | _ :: _, [], _, h, _ => by simp [shapes] at h
  | _ :: _, _ :: _, [], _, h => by simp [shapes] at h
  | z :: zs, x :: xs, y :: ys, h, h' => by
    simp only [shapes, Bool.and_eq_true] at h h'
    simp [deqs, keqs, (deq_shape (w := true) h.1 h'.1).1, deqs_shape h.2 h'.2]

section
variable {E : Env} (hE : EnvOk E) {w : World}
include hE
/-- Two keys are compared. -/
theorem run_keq {kt : Nat} {x y : D} (hx : mkey E kt x = true) (hy : mkey E kt y = true) {ok : Nat → Prop} {u v : Value} (hu : x.rd w ok u) (hv : y.rd w ok v) :
    (Op.equal kt u v).run E.P w = .ok (keq x y) w ∧ ∃ kind, E.P.underlying kt = some kind ∧ ((Instr.sameNow kind u v = some (keq x y)) ∨ ∃ fs, kind = .struct fs) := by
  unfold mkey at hx hy
  split at hx
  · rename_i ti hti
    rw [hti] at hy
    simp only at hy
    have hk : ∀ k, ti.k = k → E.tk kt = some k := fun k e => by unfold Env.tk; rw [hti, ← e]; rfl
    split at hx
    · rename_i fs xs hf
      rw [hf] at hy
      cases y <;> simp only [Bool.false_eq_true] at hy
      rename_i ys
      simp only [Bool.and_eq_true] at hx hy
      obtain ⟨fields, hu', hfl, hg1, hg2⟩ := tk_struct hE (hk _ hf)
      simp only [D.rd] at hu hv
      obtain ⟨us, rfl, _, hus⟩ := hu
      obtain ⟨vs, rfl, _, hvs⟩ := hv
      refine ⟨?_, _, hu', .inr ⟨_, rfl⟩⟩
      have hfo : E.P.fieldsOf kt = fields := by simp [Program.fieldsOf, hu']
      have := run_eqFields (P := E.P) (w := w) 9998 hfl 0 xs ys _ us vs hx.1 (deqs_shape hx.2 hy.2) (fun i d hd => by simpa using rdVals_get hus i d hd) (fun i d hd => by simpa using rdVals_get hvs i d hd)
      unfold Op.equal Op.maxDepth
      rw [run_equalIn_struct (P := E.P) w 9999 kt us vs (by rw [hfo]; exact hu') hg2, hfo]
      simpa [keq] using this
    · rename_i k' k n hf
      rw [hf] at hy
      cases y <;> simp only [Bool.false_eq_true] at hy
      simp only [decide_eq_true_eq] at hx hy
      subst hx; subst hy
      simp only [D.rd] at hu hv; subst hu; subst hv
      have := tk_int hE (hk _ hf)
      refine ⟨?_, _, this, .inl (by simp [Instr.sameNow, keq])⟩
      simp [Op.equal, Op.maxDepth, keq]
      exact run_equalIn_int w 9999 kt _ _ _ _ this
    · rename_i b hf
      rw [hf] at hy
      cases y <;> simp only [Bool.false_eq_true] at hy
      simp only [D.rd] at hu hv; subst hu; subst hv
      have := tk_bool hE (hk _ hf)
      refine ⟨?_, _, this, .inl (by simp [Instr.sameNow, keq])⟩
      simpa [keq] using run_equal_bool (P := E.P) (w := w) this _ _
    · rename_i s hf
      rw [hf] at hy
      cases y <;> simp only [Bool.false_eq_true] at hy
      rename_i s'
      simp only [D.rd] at hu hv; obtain ⟨rfl, _⟩ := hu; obtain ⟨rfl, _⟩ := hv
      have := tk_str hE (hk _ hf)
      refine ⟨?_, _, this, .inl (by simp [Instr.sameNow, keq])⟩
      have h0 : ∀ n, (Op.equalIn (n + 1) kt (.string s) (.string s')).run E.P w = .ok (s == s') w := fun n => by simp [Op.equalIn, run_underlying this]
      have h9 := h0 9999
      simpa [keq, Op.equal, Op.maxDepth] using h9
    · cases hx
  · cases hx

/-- What is found, with its index and its entry's value. -/
def mres (k : D) : List (Nat × D × PV) → List MapEntry → Nat → Option (Nat × Value)
  | x :: es, m :: l, i => if keq k x.2.1 = true then some (i, m.val) else mres k es l (i + 1)
  | _, _, _ => none
theorem run_findKey' {kt : Nat} {kd : D} (hk : mkey E kt kd = true) {o : Nat → Nat × Option Ob} {α : Nat → Value} {ok : Nat → Prop} {kv : Value} (hv : kd.rd w ok kv) {es : List (Nat × D × PV)} {l : List MapEntry} (hes : mkeys E kt es = true) (hr : relME o α w ok es l) :
    (Instr.findKey kt kv l).run E.P w = .ok (mres kd es l 0) w := by
  have now : ∀ kind, E.P.underlying kt = some kind → ∀ (es : List (Nat × D × PV)) (l : List MapEntry) (i : Nat), mkeys E kt es = true → relME o α w ok es l → Instr.findNow kind kv l i = some (mres kd es l i) ∨ ∃ fs, kind = .struct fs := by
    intro kind hkind es
    induction es with
    | nil => intro l i _ h; simp only [relME] at h; subst h; exact .inl rfl
    | cons x es ih =>
      intro l i hes h
      simp only [relME] at h
      obtain ⟨m, l', rfl, ⟨_, h2, _⟩, h4⟩ := h
      simp only [mkeys, List.all_cons, Bool.and_eq_true] at hes
      obtain ⟨_, kind', hk', h5⟩ := run_keq hE hk hes.1 hv h2
      rw [hkind] at hk'
      simp only [Option.some.injEq] at hk'
      subst hk'
      rcases h5 with h5 | h5
      · rcases ih l' (i + 1) hes.2 h4 with h6 | h6
        · refine .inl ?_
          simp only [Instr.findNow, h5, mres]
          cases keq kd x.2.1 <;> simp [h6]
        · exact .inr h6
      · exact .inr h5
  have ask : ∀ (es : List (Nat × D × PV)) (l : List MapEntry) (i : Nat), mkeys E kt es = true → relME o α w ok es l → (Instr.findAsking kt kv l i).run E.P w = .ok (mres kd es l i) w := by
    intro es
    induction es with
    | nil => intro l i _ h; simp only [relME] at h; subst h; simp [Instr.findAsking, mres]
    | cons x es ih =>
      intro l i hes h
      simp only [relME] at h
      obtain ⟨m, l', rfl, ⟨_, h2, _⟩, h4⟩ := h
      simp only [mkeys, List.all_cons, Bool.and_eq_true] at hes
      obtain ⟨h5, _⟩ := run_keq hE hk hes.1 hv h2
      simp only [Instr.findAsking, Sem.run_bind, h5, Result.andThen_ok, mres]
      cases keq kd x.2.1
      · simpa using ih l' (i + 1) hes.2 h4
      · simp
  obtain ⟨_, kind, hkind, _⟩ := run_keq hE hk hk hv hv
  unfold Instr.findKey
  simp only [Sem.run_bind, run_underlying hkind, Result.andThen_ok]
  rcases now kind hkind es l 0 hes hr with h | ⟨fs, rfl⟩
  · rw [h]; simp
  · cases l with
    | nil =>
      have := ask es [] 0 hes hr
      simp only [Instr.findNow]
      cases es with
      | nil => simp [mres]
      | cons x es => simp only [relME] at hr; obtain ⟨m, l', e, _⟩ := hr; cases e
    | cons m l =>
      have : Instr.findNow (.struct fs) kv (m :: l) 0 = none := by simp [Instr.findNow, Instr.sameNow]
      rw [this]
      exact ask es _ 0 hes hr

theorem run_checkKey' {kt : Nat} {kd : D} (hk : mkey E kt kd = true) {ok : Nat → Prop} {kv : Value} (hv : kd.rd w ok kv) (em : Bool) : (Instr.checkKey em 10000 kt kv).run E.P w = .ok () w := by
  unfold mkey at hk
  split at hk
  · rename_i ti hti
    have htk : ∀ k, ti.k = k → E.tk kt = some k := fun k e => by unfold Env.tk; rw [hti, ← e]; rfl
    split at hk
    · rename_i fs xs hf
      simp only [Bool.and_eq_true] at hk
      obtain ⟨fields, hu', hfl, hg1, hg2⟩ := tk_struct hE (htk _ hf)
      simp only [D.rd] at hv
      obtain ⟨us, rfl, _, hus⟩ := hv
      unfold Instr.checkKey
      simp only [Sem.run_bind, run_underlying hu', Result.andThen_ok]
      rw [← Array.forIn_toList]
      have hget : ∀ i d, xs[i]? = some d → ∃ v, us[0 + i]? = some v ∧ d.rd w ok v := fun i d hd => by simpa using rdVals_get hus i d hd
      have hone := hk.1
      have hsh := hk.2
      clear hk hu' hus
      generalize (0 : Nat) = o at hget hone
      generalize fields.toList = fl at hfl
      generalize ti.zero = zs at hsh
      clear hf
      induction hfl generalizing o xs zs with
      | nil => simp
      | cons ho ti' hi hs h0 ha hn hsk hfl' ih =>
        rename_i f x fields' fs'
        cases xs with
        | nil => simp [oneCells] at hone
        | cons d xs =>
          cases zs with
          | nil => simp [shapes] at hsh
          | cons z zs =>
          simp only [shapes, Bool.and_eq_true] at hsh
          simp only [oneCells, Bool.and_eq_true, beq_iff_eq, Bool.not_eq_true'] at hone
          obtain ⟨⟨⟨⟨e1, e2⟩, e3⟩, e4⟩, e5⟩ := hone
          obtain ⟨v, hv0, hv1⟩ := hget 0 d (by simp)
          have hag : (Go.isAgg f.type).run E.P w = .ok false w := run_isAggB (by rw [ha, e3]) w
          rw [Nat.add_zero, ← e1, ← ho] at hv0
          have pv : (part f.type us f.offset).run E.P w = .ok v w := by unfold part; simp [hag, hv0]
          have hck : (Instr.checkKey em 9999 f.type v).run E.P w = .ok () w := by
            unfold Instr.checkKey
            have hk3 : ∃ td, E.P.underlying f.type = some td ∧ (∀ ms, td ≠ .interface ms) ∧ (∀ n e, td ≠ .array n e) ∧ (∀ fs, td ≠ .struct fs) := by
              unfold isAggB at ha
              rw [e3] at ha
              have hsh1 := hsh.1
              cases d <;> (try (cases z <;> simp [shape1] at hsh1; done)) <;> simp only [D.sk] at e4
              · obtain ⟨k, hk⟩ := skB_int (hsk.trans e4); exact ⟨_, hk, by simp, by simp, by simp⟩
              · exact ⟨_, skB_bool (hsk.trans e4), by simp, by simp, by simp⟩
              · exact ⟨_, skB_str (hsk.trans e4), by simp, by simp, by simp⟩
            obtain ⟨td, htd, n1, n2, n3⟩ := hk3
            simp only [Sem.run_bind, run_underlying htd, Result.andThen_ok]
            cases td <;> simp_all
          simp only [List.forIn_cons, Sem.run_bind, ne_eq, hn, not_false_eq_true, if_true, pv, hck, Result.andThen_ok, Sem.run_pure]
          exact ih (o := o + 1) (xs := xs) (zs := zs) (fun i d hd => by have := hget (i + 1) d (by simpa using hd); rwa [show o + (i + 1) = o + 1 + i by omega] at this) e5 hsh.2
    · rename_i k' k n hf
      have := tk_int hE (htk _ hf)
      simp only [D.rd] at hv; subst hv
      unfold Instr.checkKey; simp [run_underlying this]
    · rename_i b hf
      have := tk_bool hE (htk _ hf)
      simp only [D.rd] at hv; subst hv
      unfold Instr.checkKey; simp [run_underlying this]
    · rename_i s hf
      have := tk_str hE (htk _ hf)
      simp only [D.rd] at hv; obtain ⟨rfl, _⟩ := hv
      unfold Instr.checkKey; simp [run_underlying this]
    · cases hk
  · cases hk
end

theorem mres_none {o : Nat → Nat × Option Ob} {α : Nat → Value} {w : World} {ok : Nat → Prop} {k : D} : ∀ {es : List (Nat × D × PV)} {l : List MapEntry} {i : Nat}, relME o α w ok es l → mfind k es = none → mres k es l i = none
  | [], l, i, h, _ => by simp only [relME] at h; subst h; rfl
  | x :: es, l, i, h, hf => by
    simp only [relME] at h
    obtain ⟨m, l', rfl, _, h4⟩ := h
    simp only [mfind] at hf
    split at hf
    · cases hf
    · rename_i hn; simp only [mres, hn, if_false]; exact mres_none h4 hf
theorem mres_some {o : Nat → Nat × Option Ob} {α : Nat → Value} {w : World} {ok : Nat → Prop} {k : D} {b : Nat} {v : PV} : ∀ {es : List (Nat × D × PV)} {l : List MapEntry} {i : Nat}, relME o α w ok es l → mfind k es = some (b, v) →
    ∃ j m, mres k es l i = some (i + j, m.val) ∧ l[j]? = some m ∧ m.born = b ∧ v.rel o α w ok m.val ∧ (∃ kd, keq k kd = true ∧ kd.rd w ok m.key ∧ kd ∈ es.map (·.2.1))
      ∧ (∀ (kv nv : Value) (p : PV), k.rd w ok kv → p.rel o α w ok nv → ∀ c, relME o α w ok (mput k p c es) (l.set j { key := kv, val := nv, born := m.born }))
  | [], l, i, h, hf => by simp [mfind] at hf
  | x :: es, l, i, h, hf => by
    simp only [relME] at h
    obtain ⟨m, l', rfl, ⟨h1, h2, h3⟩, h4⟩ := h
    simp only [mfind] at hf
    split at hf
    · rename_i hq
      simp only [Option.some.injEq, Prod.mk.injEq] at hf
      obtain ⟨rfl, rfl⟩ := hf
      refine ⟨0, m, by simp [mres, hq], by simp, h1, h3, ⟨x.2.1, hq, h2, by simp⟩, fun kv nv p hkv hp c => ?_⟩
      simp only [mput, hq, if_true, List.set_cons_zero, relME]
      exact ⟨_, l', rfl, ⟨h1, hkv, hp⟩, h4⟩
    · rename_i hq
      obtain ⟨j, m', e1, e2, e3, e4, ⟨kd, e5, e6, e7⟩, e8⟩ := mres_some (i := i + 1) h4 hf
      refine ⟨j + 1, m', by simp only [mres, hq, if_false, e1]; simp; omega, by simpa using e2, e3, e4, ⟨kd, e5, e6, by simp only [List.map_cons, List.mem_cons]; exact .inr e7⟩, fun kv nv p hkv hp c => ?_⟩
      simp only [mput, hq, if_false, List.set_cons_succ, relME]
      exact ⟨m, _, rfl, ⟨h1, h2, h3⟩, e8 kv nv p hkv hp c⟩
theorem mput_none {o : Nat → Nat × Option Ob} {α : Nat → Value} {w : World} {ok : Nat → Prop} {k : D} {p : PV} {kv nv : Value} {c : Nat} (hk : k.rd w ok kv) (hp : p.rel o α w ok nv) : ∀ {es : List (Nat × D × PV)} {l : List MapEntry}, relME o α w ok es l → mfind k es = none → relME o α w ok (mput k p c es) (l ++ [{ key := kv, val := nv, born := c }])
  | [], l, h, _ => by simp only [relME] at h; subst h; simp only [mput, List.nil_append, relME]; exact ⟨_, [], rfl, ⟨rfl, hk, hp⟩, rfl⟩
  | x :: es, l, h, hf => by
    simp only [relME] at h
    obtain ⟨m, l', rfl, h3, h4⟩ := h
    simp only [mfind] at hf
    split at hf
    · cases hf
    · rename_i hn
      simp only [mput, hn, if_false, List.cons_append, relME]
      exact ⟨m, _, rfl, h3, mput_none hk hp h4 hf⟩
theorem relME_length {o : Nat → Nat × Option Ob} {α : Nat → Value} {w : World} {ok : Nat → Prop} : ∀ {es : List (Nat × D × PV)} {l : List MapEntry}, relME o α w ok es l → l.length = es.length
  | [], l, h => by simp only [relME] at h; simp [h]
  | x :: es, l, h => by
    simp only [relME] at h
    obtain ⟨m, l', rfl, _, h4⟩ := h
    simp [relME_length h4]
theorem bytes_beq_comm {a b : ByteArray} (h : (a == b) = true) : (b == a) = true := by
  rw [beq_toListBytes] at h ⊢
  have := eq_of_beq h
  rw [this]; simp
/-- Keys that are equal are the same bits. -/
theorem same_bits {w : World} {ok : Nat → Prop} {x y : D} {u v : Value} (hu : x.rd w ok u) (hv : y.rd w ok v) (h : keq x y = true) (hd : ∀ cs, x = .agg cs → ∀ c ∈ cs, ∀ es, c ≠ .agg es) : Instr.sameBits 10000 v u = true := by
  cases x <;> cases y <;> simp only [keq, Bool.false_eq_true, Bool.and_eq_true, decide_eq_true_eq, beq_iff_eq] at h
  · obtain ⟨rfl, rfl⟩ := h
    simp only [D.rd] at hu hv; subst hu; subst hv
    simp [Instr.sameBits]
  · subst h
    simp only [D.rd] at hu hv; subst hu; subst hv
    simp [Instr.sameBits]
  · simp only [D.rd] at hu hv; obtain ⟨rfl, _⟩ := hu; obtain ⟨rfl, _⟩ := hv
    simp [Instr.sameBits, bytes_beq_comm h]
  · rename_i xs ys
    simp only [D.rd] at hu hv
    obtain ⟨us, rfl, _, h1⟩ := hu
    obtain ⟨vs, rfl, _, h2⟩ := hv
    have hd := hd xs rfl
    have key : ∀ {xs ys : List D} {us vs : List Value}, rdVals w ok xs us → rdVals w ok ys vs → keqs xs ys = true → (∀ c ∈ xs, ∀ es, c ≠ .agg es) → vs.length = us.length ∧ (vs.zip us).all (fun (x, y) => Instr.sameBits 9999 x y) = true := by
      intro xs
      induction xs with
      | nil =>
        intro ys us vs h1 h2 h _
        cases ys <;> simp [keqs] at h
        simp only [rdVals] at h1 h2; subst h1; subst h2; simp
      | cons x xs ih =>
        intro ys us vs h1 h2 h hd
        cases ys <;> simp only [keqs, Bool.false_eq_true, Bool.and_eq_true] at h
        simp only [rdVals] at h1 h2
        obtain ⟨u, us', rfl, hu, h1⟩ := h1
        obtain ⟨v, vs', rfl, hv, h2⟩ := h2
        obtain ⟨e1, e2⟩ := ih h1 h2 h.2 fun c hc => hd c (by simp [hc])
        refine ⟨by simp [e1], ?_⟩
        simp only [List.zip_cons_cons, List.all_cons, e2, Bool.and_true]
        have h0 := h.1
        rename_i y ys
        cases x <;> cases y <;> simp only [keq, Bool.false_eq_true, Bool.and_eq_true, decide_eq_true_eq, beq_iff_eq] at h0
        · obtain ⟨rfl, rfl⟩ := h0
          simp only [D.rd] at hu hv; subst hu; subst hv
          simp [Instr.sameBits]
        · subst h0
          simp only [D.rd] at hu hv; subst hu; subst hv
          simp [Instr.sameBits]
        · simp only [D.rd] at hu hv; obtain ⟨rfl, _⟩ := hu; obtain ⟨rfl, _⟩ := hv
          simp [Instr.sameBits, bytes_beq_comm h0]
        · exact absurd rfl (hd _ (List.mem_cons_self ..) _)
    obtain ⟨e1, e2⟩ := key h1 h2 (by simpa [keq] using h) hd
    simp only [Instr.sameBits, Bool.and_eq_true, beq_iff_eq]
    exact ⟨by simpa using e1, e2⟩
theorem mkey_flat {E : Env} {kt : Nat} {d : D} (h : mkey E kt d = true) : ∀ cs, d = .agg cs → ∀ c ∈ cs, ∀ es, c ≠ .agg es := by
  rintro cs rfl c hc es rfl
  unfold mkey at h
  split at h
  · split at h <;> (rename_i e2; try (cases e2; done)) <;> try (cases h; done)
    simp only [D.agg.injEq] at e2
    subst e2
    simp only [Bool.and_eq_true] at h
    have := h.2
    rename_i ti _ _ _ _
    clear h
    have key : ∀ {zs xs : List D}, shapes zs xs = true → D.agg es ∈ xs → False := by
      intro zs
      induction zs with
      | nil => intro xs h hm; cases xs <;> simp_all [shapes]
      | cons z zs ih =>
        intro xs h hm
        cases xs with
        | nil => simp at hm
        | cons x xs =>
          simp only [shapes, Bool.and_eq_true] at h
          rcases List.mem_cons.1 hm with rfl | hm
          · cases z <;> simp [shape1] at h
          · exact ih h.2 hm
    exact key this hc
  · cases h
end Go.Proofs.Ytomnjbebgfadoaa.Pi
end
section
/- Loops over maps: the entry of a round is read.
   Conditions: none; lemmas. -/
set_option linter.unusedVariables false
set_option linter.unusedSimpArgs false
namespace Go.Proofs.Ytomnjbebgfadoaa.Pi
open Go Go.RowKit

theorem relME_find {o : Nat → Nat × Option Ob} {α : Nat → Value} {w : World} {ok : Nat → Prop} {s : Nat} {x : D × PV} : ∀ {es : List (Nat × D × PV)} {l : List MapEntry}, relME o α w ok es l → mfindS s es = some x → ∃ m, l.find? (fun e => e.born == s) = some m ∧ x.1.rd w ok m.key ∧ x.2.rel o α w ok m.val
  | [], l, _, hf => by simp [mfindS] at hf
  | y :: es, l, h, hf => by
    simp only [relME] at h
    obtain ⟨m, l', rfl, ⟨h1, h2, h3⟩, h4⟩ := h
    simp only [mfindS] at hf
    split at hf
    · rename_i e
      simp only [Option.some.injEq] at hf
      subst hf
      refine ⟨m, ?_, h2, h3⟩
      simp [h1, e]
    · rename_i e
      obtain ⟨m', e1, e2⟩ := relME_find h4 hf
      refine ⟨m', ?_, e2⟩
      have : (m.born == s) = false := by simpa [h1] using e
      rw [List.find?_cons, this]
      exact e1
theorem relME_mem {o : Nat → Nat × Option Ob} {α : Nat → Value} {w : World} {ok : Nat → Prop} : ∀ {es : List (Nat × D × PV)} {l : List MapEntry}, relME o α w ok es l → ∀ m ∈ l, ∃ x ∈ es, m.born = x.1 ∧ x.2.1.rd w ok m.key ∧ x.2.2.rel o α w ok m.val
  | [], l, h, m, hm => by simp only [relME] at h; subst h; cases hm
  | y :: es, l, h, m, hm => by
    simp only [relME] at h
    obtain ⟨m', l', rfl, h1, h4⟩ := h
    rcases List.mem_cons.1 hm with rfl | hm
    · exact ⟨y, by simp, h1⟩
    · obtain ⟨x, hx, h⟩ := relME_mem h4 m hm
      exact ⟨x, by simp [hx], h⟩
theorem relME_mem' {o : Nat → Nat × Option Ob} {α : Nat → Value} {w : World} {ok : Nat → Prop} : ∀ {es : List (Nat × D × PV)} {l : List MapEntry}, relME o α w ok es l → ∀ x ∈ es, ∃ m ∈ l, m.born = x.1
  | [], l, h, x, hx => by cases hx
  | y :: es, l, h, x, hx => by
    simp only [relME] at h
    obtain ⟨m', l', rfl, h1, h4⟩ := h
    rcases List.mem_cons.1 hx with rfl | hx
    · exact ⟨m', by simp, h1.1⟩
    · obtain ⟨m, hm, h⟩ := relME_mem' h4 x hx
      exact ⟨m, by simp [hm], h⟩
section
variable {E : Env} {N base : Nat} {w0 : World} {X : Fr} {S : St} {α : Nat → Value} {a : Act} {w : World}
theorem obj_some' {S : St} {K ver : Nat} {x : Ob} (h : S.obj K ver = some x) : live S.o K ver ∧ (S.o K).2 = some x := by
  unfold St.obj at h
  split at h
  · rename_i e; exact ⟨⟨e, by rw [h]; simp⟩, h⟩
  · cases h
theorem run_entryV (h : Rel N base w0 X S α a w) {q p : PV} {c : Prop} (hq : entryV S q = some (c, p)) (hc : c) {v : Value} (hv : q.rel S.o α w (okOf X.A S.o α) v) :
    ∃ u, (Instr.entry v).run E.P w = .ok u w ∧ p.rel S.o α w (okOf X.A S.o α) u := by
  unfold entryV at hq
  split at hq
  · rename_i K ver
    split at hq
    · rename_i M mver since seen last hob
      split at hq
      · rename_i kt e clock es s hM hs
        obtain ⟨x, hx, he⟩ := Option.map_eq_some_iff.1 hq
        simp only [Prod.mk.injEq] at he
        obtain ⟨rfl, rfl⟩ := he
        obtain ⟨hl, hx0⟩ := obj_some' hob
        obtain ⟨hlM, hxM⟩ := obj_some' hM
        simp only [PV.rel] at hv
        obtain ⟨g, hg, rfl⟩ := hv.2 hl
        obtain ⟨g', m, e1, hb, hh, hr⟩ := h.o K _ hx0
        rw [e1] at hg
        simp only [hblk, Option.some.injEq] at hg
        subst hg
        simp only [PV.rel] at hr
        have hm := hr.2 hlM
        obtain ⟨g2, ents, e2, hb2, hh2, hr2⟩ := h.o M _ hxM
        rw [e2] at hm
        simp only [Value.map.injEq, Option.some.injEq] at hm
        subst hm
        obtain ⟨me, f1, f2, f3⟩ := relME_find hr2 hx
        have hf : ents.find? (fun e => e.born == s) = some me := by rw [← Array.find?_toList]; exact f1
        have hbk : seen.toArray.back? = some s := by rw [List.back?_toArray]; exact hs
        simp only [Nat.zero_mul, Nat.add_zero]
        refine ⟨.tuple #[me.key, me.val], ?_, ?_⟩
        · simp [Instr.entry, getObj, Sem.run_bind, Sem.run, hh, hh2, Result.andThen, hbk, hc, hf]
        · simp only [PV.rel, PV.rels]
          exact ⟨_, rfl, me.key, _, rfl, f2, me.val, [], rfl, f3, rfl⟩
      · cases hq
    · cases hq
  · cases hq
end
end Go.Proofs.Ytomnjbebgfadoaa.Pi
end
section
/- Soundness of the pure interpreter's pure operations: structs that are built; all of them together.
   Conditions: none; lemmas. -/
set_option linter.unusedVariables false
set_option linter.unusedSimpArgs false
namespace Go.Proofs.Ytomnjbebgfadoaa.Pi
open Go Go.RowKit

theorem cells_one {v : Value} (h : v.oneCell' = true) : v.cells = #[v] := by
  cases v <;> simp_all [Value.oneCell', Value.cells]
theorem nilV_one (k : Nat) : (nilV k).oneCell' = true := by
  match k with
  | 0 => rfl
  | 1 => rfl
  | 2 => rfl
  | _ + 3 => rfl
theorem rd_one {w : World} {ok : Nat → Prop} {x : D} {v : Value} (h : x.rd w ok v) (hx : ∀ cs, x ≠ .agg cs) : v.oneCell' = true := by
  cases x <;> simp only [D.rd] at h
  case agg cs => exact absurd rfl (hx cs)
  case lst => obtain ⟨A, c, rfl, _⟩ := h; rfl
  case ptr => obtain ⟨b, o, rfl, _⟩ := h; rfl
  case fn => obtain ⟨vs, rfl, _⟩ := h; rfl
  case nil k => subst h; exact nilV_one k
  all_goals (first | (subst h; rfl) | (obtain ⟨h, _⟩ := h; subst h; rfl))
theorem cells_rel {o : Nat → Nat × Option Ob} {α : Nat → Value} {w : World} {ok : Nat → Prop} {p : PV} {cs : List PV} {v : Value} (h : cellsP p = some cs) (hr : p.rel o α w ok v) : PV.rels o α w ok cs v.cells.toList := by
  have one : ∀ {q : PV}, q.rel o α w ok v → v.oneCell' = true → PV.rels o α w ok [q] v.cells.toList := by
    intro q hq h1
    rw [cells_one h1]
    simp only [PV.rels]
    exact ⟨v, [], rfl, hq, rfl⟩
  cases p <;> simp only [cellsP, Option.some.injEq, reduceCtorEq] at h
  case d x =>
    cases x <;> simp only [cellsP, Option.some.injEq] at h <;> subst h
    case agg cs =>
      simp only [PV.rel, D.rd] at hr
      obtain ⟨vs, rfl, _, hr⟩ := hr
      exact PV.rels_d hr
    all_goals exact one hr (rd_one (by simpa only [PV.rel] using hr) (by simp))
  case nils => subst h; exact one hr (by simp only [PV.rel] at hr; subst hr; rfl)
  case ref => subst h; exact one hr (by simp only [PV.rel] at hr; exact (by obtain ⟨⟨⟨g, e⟩, _⟩, _⟩ := hr; rw [e]; rfl))
  case row => subst h; exact one hr (by simp only [PV.rel] at hr; exact (by obtain ⟨⟨⟨A, c, e, _⟩, _⟩, _⟩ := hr; rw [e]; rfl))
  case map => subst h; exact one hr (by simp only [PV.rel] at hr; exact hr.1.1)
  case fn => subst h; exact one hr (by simp only [PV.rel] at hr; obtain ⟨vs, rfl, _⟩ := hr; rfl)
  case agg cs =>
    subst h
    simp only [PV.rel] at hr
    obtain ⟨vs, rfl, _, hr⟩ := hr
    exact hr
  case clip => subst h; exact one hr (by simp only [PV.rel] at hr; obtain ⟨⟨A, rfl⟩, _⟩ := hr; rfl)
  case sub => subst h; exact one hr (by simp only [PV.rel] at hr; exact (by obtain ⟨⟨⟨A, c, e⟩, _⟩, _⟩ := hr; rw [e]; rfl))

theorem cells_ones {o : Nat → Nat × Option Ob} {α : Nat → Value} {w : World} {ok : Nat → Prop} {p : PV} {cs : List PV} {v : Value} (h : cellsP p = some cs) (hr : p.rel o α w ok v) : ∀ u ∈ v.cells.toList, u.oneCell' = true := by
  have one : v.oneCell' = true → ∀ u ∈ v.cells.toList, u.oneCell' = true := by
    intro h1 u hu
    rw [cells_one h1] at hu
    simp at hu
    subst hu
    exact h1
  cases p <;> simp only [cellsP, Option.some.injEq, reduceCtorEq] at h
  case d x =>
    cases x <;> simp only [cellsP, Option.some.injEq] at h <;> subst h
    case agg cs =>
      simp only [PV.rel, D.rd] at hr
      obtain ⟨vs, rfl, h1, hr⟩ := hr
      exact h1
    all_goals exact one (rd_one (by simpa only [PV.rel] using hr) (by simp))
  case nils => exact one (by simp only [PV.rel] at hr; subst hr; rfl)
  case ref => exact one (by simp only [PV.rel] at hr; exact (by obtain ⟨⟨⟨g, e⟩, _⟩, _⟩ := hr; rw [e]; rfl))
  case row => exact one (by simp only [PV.rel] at hr; exact (by obtain ⟨⟨⟨A, c, e, _⟩, _⟩, _⟩ := hr; rw [e]; rfl))
  case map => exact one (by simp only [PV.rel] at hr; exact hr.1.1)
  case fn => exact one (by simp only [PV.rel] at hr; obtain ⟨vs, rfl, _⟩ := hr; rfl)
  case agg cs =>
    simp only [PV.rel] at hr
    obtain ⟨vs, rfl, h1, hr⟩ := hr
    exact h1
  case clip => exact one (by simp only [PV.rel] at hr; obtain ⟨⟨A, rfl⟩, _⟩ := hr; rfl)
  case sub => exact one (by simp only [PV.rel] at hr; exact (by obtain ⟨⟨⟨A, c, e⟩, _⟩, _⟩ := hr; rw [e]; rfl))

theorem splice_fold (cells : Array Value) (off : Nat) (v : Array Value) (h : off + v.size ≤ cells.size) :
    (v.zipIdx.foldl (fun cs (x : Value × Nat) => cs.setIfInBounds (off + x.2) x.1) cells).toList = cells.toList.take off ++ v.toList ++ cells.toList.drop (off + v.size) := by
  have e : v.zipIdx.foldl (fun cs (x : Value × Nat) => cs.setIfInBounds (off + x.2) x.1) cells = (v.toList.zipIdx 0).foldl (fun cs (x : Value × Nat) => cs.setIfInBounds (off + x.2) x.1) cells := by
    rw [← Array.foldl_toList, Array.toList_zipIdx]
  rw [e]
  obtain ⟨g1, g2⟩ := Great.foldl_set off v.toList 0 cells
  apply List.ext_getElem?
  intro k
  have := g2 k
  rw [Array.getElem?_toList, this]
  simp only [Nat.add_zero, Array.length_toList, List.append_assoc]
  by_cases h1 : k < off
  · rw [if_neg (by omega), List.getElem?_append_left (by simp; omega), List.getElem?_take, if_pos h1]
    simp
  · rw [List.getElem?_append_right (by simp; omega)]
    have hl : (cells.toList.take off).length = off := by simp; omega
    rw [hl]
    by_cases h2 : k < off + v.size
    · rw [if_pos (by omega), List.getElem?_append_left (by simp; omega)]
    · rw [if_neg (by omega), List.getElem?_append_right (by simp; omega), List.getElem?_drop]
      simp only [Array.length_toList]
      rw [show off + v.size + (k - off - v.size) = k by omega]
      simp

/-- Parts of a struct, as values and as they are told. -/
def partsRel (o : Nat → Nat × Option Ob) (α : Nat → Value) (w : World) (ok : Nat → Prop) : List (Nat × PV) → List (Nat × Value) → Prop
  | [], vs => vs = []
  | (i, p) :: ps, vs => ∃ v vs', vs = (i, v) :: vs' ∧ p.rel o α w ok v ∧ partsRel o α w ok ps vs'

theorem fill_rel {o : Nat → Nat × Option Ob} {α : Nat → Value} {w : World} {ok : Nat → Prop} {fs : List FI} {place : Nat → Option (Nat × Nat)} (hp : ∀ i x, fs[i]? = some x → place i = some (x.off, x.size)) :
    ∀ {parts : List (Nat × PV)} {vparts : List (Nat × Value)} {cells cells' : List PV} {vals : Array Value}, partsRel o α w ok parts vparts → fillP fs cells parts = some cells' → PV.rels o α w ok cells vals.toList → (∀ u ∈ vals.toList, u.oneCell' = true) →
    ∃ vals', Instr.fill place vals vparts = some vals' ∧ PV.rels o α w ok cells' vals'.toList ∧ (∀ u ∈ vals'.toList, u.oneCell' = true)
  | [], vparts, cells, cells', vals, hpr, h, hr, hz1 => by
    simp only [partsRel] at hpr; subst hpr
    simp only [fillP, Option.some.injEq] at h; subst h
    exact ⟨vals, rfl, hr, hz1⟩
  | (i, p) :: parts, vparts, cells, cells', vals, hpr, h, hr, hz1 => by
    simp only [partsRel] at hpr
    obtain ⟨v, vs', rfl, h1, h2⟩ := hpr
    rw [fillP] at h
    split at h
    · rename_i f cs hf hcs
      split at h
      · rename_i hc
        have hcr := cells_rel hcs h1
        have hl1 := PV.rels_length hcr
        have hl2 := PV.rels_length hr
        simp only [Array.length_toList] at hl1 hl2
        have hsp := splice_fold vals f.off v.cells (by omega)
        have hr' : PV.rels o α w ok (cells.take f.off ++ cs ++ cells.drop (f.off + f.size)) (v.cells.zipIdx.foldl (fun cs (x : Value × Nat) => cs.setIfInBounds (f.off + x.2) x.1) vals).toList := by
          rw [hsp]
          refine PV.rels_append (PV.rels_append (PV.rels_take hr _) hcr) ?_
          have := PV.rels_drop hr (f.off + f.size)
          rwa [show f.off + v.cells.size = f.off + f.size by omega]
        have hz1' : ∀ u ∈ (v.cells.zipIdx.foldl (fun cs (x : Value × Nat) => cs.setIfInBounds (f.off + x.2) x.1) vals).toList, u.oneCell' = true := by
          rw [hsp]
          intro u hu
          rcases List.mem_append.1 hu with hu | hu
          · rcases List.mem_append.1 hu with hu | hu
            · exact hz1 u (List.mem_of_mem_take hu)
            · exact cells_ones hcs h1 u hu
          · exact hz1 u (List.mem_of_mem_drop hu)
        obtain ⟨vals', h3, h4, h5⟩ := fill_rel hp h2 h hr' hz1'
        refine ⟨vals', ?_, h4, h5⟩
        simp only [Instr.fill, hp i f hf]
        rw [if_neg (by simp; omega)]
        exact h3
      · cases h
    · cases h

theorem dcells_rd {o : Nat → Nat × Option Ob} {α : Nat → Value} {w : World} {ok : Nat → Prop} : ∀ {zs : List D} {ps : List PV} {ds : List D} {vs : List Value}, dcells zs ps = some ds → PV.rels o α w ok ps vs → rdVals w ok ds vs
  | [], [], ds, vs, h, hr => by
    simp only [dcells, Option.some.injEq] at h; subst h
    simpa only [PV.rels, rdVals] using hr
  | [], _ :: _, ds, vs, h, hr => by simp [dcells] at h
  | _ :: _, [], ds, vs, h, hr => by simp [dcells] at h
  | z :: zs, p :: ps, ds, vs, h, hr => by
    simp only [dcells, Option.bind_eq_some_iff, Option.map_eq_some_iff] at h
    obtain ⟨x, h1, es, h2, rfl⟩ := h
    simp only [PV.rels] at hr
    obtain ⟨v, vs', rfl, h3, h4⟩ := hr
    simp only [rdVals]
    refine ⟨v, vs', rfl, ?_, dcells_rd h2 h4⟩
    unfold dcell at h1
    split at h1
    · simp only [Option.some.injEq] at h1; subst h1
      simpa only [PV.rel] using h3
    · simp only [Option.some.injEq] at h1; subst h1
      simp only [PV.rel] at h3; subst h3
      simp only [D.rd]
      exact ⟨none, 0, by simp, by simp, by simp, by simp⟩
    · cases h1

theorem zeq_val {v : Value} {d : D} (h : zeqB v d = true) : v = zval d := by
  unfold zeqB at h
  split at h
  · simp at h; simp [zval, h]
  · simp at h; simp [zval, h]
  · rename_i s s'
    simp at h
    simp [zval, h.1, h.2]
  · rfl
  · simp at h; subst h; rfl
  · simp at h; subst h; rfl
  · simp at h; subst h; rfl
  · simp at h; subst h; rfl
  · cases h
theorem zeqs_val : ∀ {vs : List Value} {ds : List D}, zeqsB vs ds = true → vs = ds.map zval ∧ ∀ d ∈ ds, zok d = true
  | [], [], _ => by simp
  | [], _ :: _, h => by simp [zeqsB] at h
  | _ :: _, [], h => by simp [zeqsB] at h
  | v :: vs, d :: ds, h => by
    simp only [zeqsB, Bool.and_eq_true] at h
    obtain ⟨h1, h2⟩ := zeqs_val h.2
    refine ⟨by rw [List.map_cons, ← h1, ← zeq_val h.1.1], fun x hx => ?_⟩
    rcases List.mem_cons.1 hx with rfl | hx
    · exact h.1.2
    · exact h2 x hx
theorem zpv_rel {o : Nat → Nat × Option Ob} {α : Nat → Value} {w : World} {ok : Nat → Prop} {d : D} (h : zok d = true) : (zpv d).rel o α w ok (zval d) := by
  cases d <;> simp_all [zok, zpv, zval, PV.rel, D.rd]
theorem zpvs_rel {o : Nat → Nat × Option Ob} {α : Nat → Value} {w : World} {ok : Nat → Prop} : ∀ {ds : List D}, (∀ d ∈ ds, zok d = true) → PV.rels o α w ok (ds.map zpv) (ds.map zval)
  | [], _ => by simp [PV.rels]
  | d :: ds, h => by
    simp only [List.map_cons, PV.rels]
    exact ⟨_, _, rfl, zpv_rel (h d (by simp)), zpvs_rel fun x hx => h x (by simp [hx])⟩
theorem zval_one {d : D} (h : zok d = true) : (zval d).oneCell' = true := by
  cases d
  case nil k => exact nilV_one k
  all_goals simp_all [zok, zval, Value.oneCell']
theorem zval_rd {w : World} {ok : Nat → Prop} {d : D} (h : zok d = true) : d.rd w ok (zval d) := by
  cases d <;> simp_all [zok, zval, D.rd]
  exact ⟨none, 0, ⟨rfl, rfl⟩, fun _ => rfl⟩
theorem zvals_rd {w : World} {ok : Nat → Prop} : ∀ {ds : List D}, (∀ d ∈ ds, zok d = true) → rdVals w ok ds (ds.map zval)
  | [], _ => by simp [rdVals]
  | d :: ds, h => by
    simp only [List.map_cons, rdVals]
    exact ⟨_, _, rfl, zval_rd (h d (by simp)), zvals_rd fun x hx => h x (by simp [hx])⟩

section
variable {E : Env} (hE : EnvOk E)
include hE
/-- The zero value of a type that is told. -/
theorem ty_zero {t : Nat} {ti : TI} (h : E.ty t = some ti) (hk : (∀ k e, ti.k ≠ .map k e) ∧ ti.k ≠ .other) : ∃ i z, E.P.info? t = some i ∧ i.size = ti.size ∧ i.bytes = ti.bytes ∧ i.zero = some z ∧ z.cells.toList = ti.zero.map zval ∧ (∀ d ∈ ti.zero, zok d = true) ∧ ti.zero.length = ti.size := by
  have := hE.ty t ti h
  unfold tyB at this
  rw [Bool.and_eq_true] at this
  have h2 := this.2
  split at h2
  · rename_i i hi
    simp only [Bool.and_eq_true, beq_iff_eq, decide_eq_true_eq] at h2
    obtain ⟨⟨⟨⟨⟨h3, h4⟩, h5⟩, h6⟩, _⟩, h7⟩ := h2
    split at h7
    · rename_i z hz
      split at h7
      · rename_i e; exact absurd e hk.2
      · rename_i k e e'; exact absurd e' (hk.1 k e)
      · simp only [Bool.and_eq_true, beq_iff_eq] at h7
        obtain ⟨h8, h9⟩ := zeqs_val h7.2.1
        exact ⟨i, z, hi, h3, h4, hz, h8, h9, h7.2.2⟩
      · simp only [Bool.and_eq_true, beq_iff_eq] at h7
        obtain ⟨h8, h9⟩ := zeqs_val h7.2.1
        exact ⟨i, z, hi, h3, h4, hz, h8, h9, h7.2.2⟩
    · cases h7
  · cases h2
/-- The zero value of a type, told. -/
theorem ty_zvp {t : Nat} {ti : TI} (h : E.ty t = some ti) (hk : plainTI ti = true) (w : World) : ∃ z, (zeroValue t).run E.P w = .ok z w ∧ ∀ (o : Nat → Nat × Option Ob) (α : Nat → Value) (ok : Nat → Prop), (zvp ti).rel o α w ok z := by
  obtain ⟨i, z, hi, hs, hb, hz, hzc, hzo, hzl⟩ := ty_zero hE h (by unfold plainTI at hk; split at hk <;> simp_all)
  obtain ⟨_, _, _, _, hsz0, hb0⟩ := ty_info hE h
  refine ⟨z, by simp [zeroValue, typeInfo, hi, hz], fun o α ok => ?_⟩
  have hagg : ti.isAgg = true ∧ (∃ cs, z = .agg cs) ∨ ti.isAgg = false ∧ ∀ cs, z ≠ .agg cs := by
    have := hE.ty t ti h
    unfold tyB at this
    rw [Bool.and_eq_true] at this
    have h2 := this.2
    rw [hi] at h2
    simp only [Bool.and_eq_true, hz] at h2
    have h7 := h2.2
    unfold TI.isAgg
    unfold plainTI at hk
    cases hkk : ti.k <;> rw [hkk] at hk h7 <;> simp only [Bool.false_eq_true] at hk <;> simp only [Bool.and_eq_true] at h7 <;> cases z <;> simp_all
  unfold zvp
  rcases hagg with ⟨e, cs, rfl⟩ | ⟨e, hn⟩
  · rw [e]
    simp only [if_true, PV.rel, D.rd]
    have e2 : cs.toList = ti.zero.map zval := hzc
    refine ⟨cs, rfl, fun u hu => ?_, by rw [e2]; exact zvals_rd hzo⟩
    rw [e2] at hu
    obtain ⟨d, hd, rfl⟩ := List.mem_map.1 hu
    exact zval_one (hzo d hd)
  · rw [e]
    simp only [Bool.false_eq_true, if_false]
    have e2 : z.cells = #[z] := by cases z <;> first | rfl | exact absurd rfl (hn _)
    rw [e2] at hzc
    cases hzz : ti.zero with
    | nil => rw [hzz] at hzc; simp at hzc
    | cons d ds =>
      rw [hzz] at hzc
      simp at hzc
      have := zpv_rel (o := o) (α := α) (w := w) (ok := ok) (hzo d (by simp [hzz]))
      simp only [List.getD_cons_zero]
      rw [hzc.1]
      exact this

theorem run_lookupV {N base : Nat} {w0 : World} {X : Fr} {S : St} {α : Nat → Value} {a : Act} {w : World} (h : Rel N base w0 X S α a w) {t : Nat} {ok : Bool} {q q' p : PV} {c : Prop} (hq : lookupV E S t ok q q' = some (c, p)) (hc : c) {v u : Value} (hv : q.rel S.o α w (okOf X.A S.o α) v) (hu : q'.rel S.o α w (okOf X.A S.o α) u) :
    ∃ r, (Instr.lookup t v u ok).run E.P w = .ok r w ∧ p.rel S.o α w (okOf X.A S.o α) r := by
  unfold lookupV at hq
  split at hq
  · rename_i K ver kd
    split at hq
    · rename_i kt e kt' e' clock es ht hob
      split at hq
      · rename_i te hte
        split at hq
        · rename_i hpl
          simp only [Option.some.injEq, Prod.mk.injEq] at hq
          obtain ⟨rfl, rfl⟩ := hq
          obtain ⟨hl, hx⟩ := obj_some hob
          simp only [PV.rel] at hv hu
          have hva := hv.2 hl
          subst hva
          obtain ⟨g, ents, e1, hb, hh, hr⟩ := h.o K _ hx
          rw [e1]
          obtain ⟨z, hz1, hz2⟩ := ty_zvp hE hte hpl w
          have hf := run_findKey' hE hc.1 hu hc.2 hr
          have hck := run_checkKey' hE hc.1 hu ents.isEmpty
          have hut : E.P.underlying t = some (.map kt e) := tk_map hE ht
          have hm : ∃ r b, ((mres kd es ents.toList 0 = none ∧ r = z ∧ b = false) ∨ ∃ i, mres kd es ents.toList 0 = some (i, r) ∧ b = true) ∧ (mval kd es (zvp te)).rel S.o α w (okOf X.A S.o α) r ∧ mhas kd es = b := by
            cases hfi : mfind kd es with
            | none =>
              refine ⟨z, false, .inl ⟨mres_none hr hfi, rfl, rfl⟩, ?_, by simp [mhas, hfi]⟩
              simp only [mval, hfi, Option.map_none, Option.getD_none]
              exact hz2 _ _ _
            | some x =>
              obtain ⟨b, pv⟩ := x
              obtain ⟨j, m, h1, h2, h3, h4, _⟩ := mres_some (i := 0) hr hfi
              refine ⟨m.val, true, .inr ⟨_, h1, rfl⟩, ?_, by simp [mhas, hfi]⟩
              simp only [mval, hfi, Option.map_some, Option.getD_some]
              exact h4
          obtain ⟨r, b, h1, h2, h3⟩ := hm
          have hrun : (Instr.lookup t (.map (some g)) u ok).run E.P w = .ok (if ok then .tuple #[r, .bool b] else r) w := by
            simp only [Instr.lookup, Sem.run_bind, run_underlying hut, Result.andThen_ok, MapKept.run_getObj_map hh, Sem.run_pure, hck, hf]
            rcases h1 with ⟨h1, rfl, rfl⟩ | ⟨i, h1, rfl⟩ <;> rw [h1] <;> cases ok <;> simp [hz1]
          refine ⟨_, hrun, ?_⟩
          cases ok with
          | true =>
            simp only [if_true, PV.rel, PV.rels, D.rd]
            exact ⟨_, rfl, r, [.bool b], rfl, h2, _, [], rfl, by rw [h3], rfl⟩
          | false => simpa using h2
        · cases hq
      · cases hq
    · cases hq
  · cases hq

omit hE in
theorem own_cap {N base : Nat} {w0 : World} {X : Fr} {S : St} {α : Nat → Value} {a : Act} {w : World} (h : Rel N base w0 X S α a w) {K ver : Nat} (hl : live S.o K ver) {A : Option Addr} {m c : Nat} (hα : α K = .slice A m c) : m ≤ c := by
  cases hx : (S.o K).2 with
  | none => exact absurd hx hl.2
  | some x =>
    have hr := h.o K x hx
    cases x with
    | row sz e xs =>
      obtain ⟨vals, hown, _⟩ := hr
      rcases hown.2 with ⟨e1, e2⟩ | ⟨g, cap, cur, e1, _, _, hn, _⟩
      · rw [hα] at e1; simp only [Value.slice.injEq] at e1; omega
      · rw [hα] at e1; simp only [Value.slice.injEq] at e1; omega
    | vec sz e xs =>
      obtain ⟨vals, hown, _⟩ := hr
      rcases hown.2 with ⟨e1, e2⟩ | ⟨g, cap, cur, e1, _, _, hn, _⟩
      · rw [hα] at e1; simp only [Value.slice.injEq] at e1; omega
      · rw [hα] at e1; simp only [Value.slice.injEq] at e1; omega
    | box e cs =>
      obtain ⟨g, vals, e1, _⟩ := hr
      rw [hα] at e1; cases e1
    | map kt e ck es =>
      obtain ⟨g, ents, e1, _⟩ := hr
      rw [hα] at e1; cases e1
    | iter M mver since seen last =>
      obtain ⟨g, m, e1, _⟩ := hr
      rw [hα] at e1; cases e1
omit hE in
theorem boundV_rel {o : Nat → Nat × Option Ob} {α : Nat → Value} {w : World} {ok : Nat → Prop} {q : Option PV} {l : Option Int} (h : boundV q = some l) {v : Option Value} (hv : ∀ p, q = some p → ∃ u, v = some u ∧ p.rel o α w ok u) (hn : q = none → v = none) : (l = none ∧ v = none) ∨ ∃ k n, l = some n ∧ v = some (.int k n) := by
  unfold boundV at h
  split at h
  · simp only [Option.some.injEq] at h; subst h; exact .inl ⟨rfl, hn rfl⟩
  · rename_i k n
    simp only [Option.some.injEq] at h; subst h
    obtain ⟨u, rfl, hu⟩ := hv _ rfl
    simp only [PV.rel, D.rd] at hu; subst hu
    exact .inr ⟨k, n, rfl, rfl⟩
  · cases h

theorem run_sliceV {w : World} {o : Nat → Nat × Option Ob} {α : Nat → Value} {ok : Nat → Prop} {t : Nat} {q p : PV} {ql qh : Option PV} {c : Prop} (hq : sliceV E t q ql qh = some (c, p)) (hc : c) {v : Value} {vl vh : Option Value} (hv : q.rel o α w ok v)
    (hcap : ∀ K ver n, q = .row K ver n → live o K ver → ∀ A m c, v = .slice A m c → m ≤ c) (hl : ∀ p, ql = some p → ∃ u, vl = some u ∧ p.rel o α w ok u) (hln : ql = none → vl = none) (hh : ∀ p, qh = some p → ∃ u, vh = some u ∧ p.rel o α w ok u) (hhn : qh = none → vh = none) :
    ∃ r, (Instr.sliceAt t v vl vh none).run E.P w = .ok r w ∧ p.rel o α w ok r := by
  unfold sliceV at hq
  split at hq
  · rename_i e sz xs l hi ht hbl hbh
    split at hq
    · rename_i te hte
      split at hq
      · rename_i hsz
        simp only [Option.some.injEq, Prod.mk.injEq] at hq
        obtain ⟨rfl, rfl⟩ := hq
        obtain ⟨c1, c2, c3⟩ := hc
        obtain ⟨i, hi', hs, _⟩ := ty_info hE hte
        have hut := tk_slice hE ht
        simp only [PV.rel, D.rd] at hv
        obtain ⟨A, cp, rfl, ⟨hcap, hA⟩, hmax, hr⟩ := hv
        have hsize : (sizeOf e).run E.P w = .ok te.size w := by simp [sizeOf, typeInfo, hi', hs]
        generalize hL : l.getD 0 = L at c1 c2
        generalize hH : hi.getD (xs.length : Int) = H at c2 c3
        have hbounds : (Instr.sliceBounds true xs.length cp vl vh none).run E.P w = .ok (L.toNat, H.toNat, cp) w := by
          rcases boundV_rel hbl hl hln with ⟨rfl, rfl⟩ | ⟨k, n, rfl, rfl⟩ <;> rcases boundV_rel hbh hh hhn with ⟨rfl, rfl⟩ | ⟨k', n', rfl, rfl⟩ <;> simp only [Option.getD_none, Option.getD_some] at hL hH <;> subst hL <;> subst hH
          · simp [Instr.sliceBounds]
          · have : n' ≤ (cp : Int) := by omega
            have h0 : 0 ≤ n' := by omega
            simp [Instr.sliceBounds, Instr.sliceBound, asIntOf, this, h0]
          · have : n ≤ (xs.length : Int) := by omega
            simp [Instr.sliceBounds, Instr.sliceBound, asIntOf, this, c1]
          · have h1 : n' ≤ (cp : Int) := by omega
            have h0 : 0 ≤ n' := by omega
            have h2 : n ≤ (n'.toNat : Int) := by omega
            have h3 : n ≤ n' := by omega
            have h4 : max n' 0 = n' := by omega
            simp [Instr.sliceBounds, Instr.sliceBound, asIntOf, h1, h0, h2, h3, c1]
            intro h5; omega
        refine ⟨.slice (if cp = L.toNat then A else A.map (·.add (L.toNat * te.size))) (H.toNat - L.toNat) (cp - L.toNat), ?_, ?_⟩
        · simp only [Instr.sliceAt, Sem.run_bind, run_underlying hut, Result.andThen_ok, Instr.slice, hbounds, hsize, Sem.run_pure]
        · simp only [PV.rel, D.rd]
          have hlen : ((xs.take H.toNat).drop L.toNat).length = H.toNat - L.toNat := by simp; omega
          refine ⟨_, _, by rw [hlen], ⟨by omega, fun e => ?_⟩, by omega, fun hne => ?_⟩
          · split at e
            · omega
            · cases A with
              | none => have := hA rfl; omega
              | some a => simp at e
          · have hne' : xs ≠ [] := by rintro rfl; simp at hne
            obtain ⟨b, o', rfl, hrows⟩ := hr hne'
            have hpos : 0 < H.toNat - L.toNat := by rw [← hlen]; exact List.length_pos_iff.2 hne
            have hne2 : cp ≠ L.toNat := by omega
            refine ⟨b, o' + L.toNat * sz, by simp [hne2, Addr.add_mid, hsz], ?_⟩
            refine rdRows_mk fun i r hir => ?_
            rw [List.getElem?_drop, List.getElem?_take] at hir
            split at hir
            · have := rdRows_get hrows _ r hir
              rwa [show o' + (L.toNat + i) * sz = o' + L.toNat * sz + i * sz by rw [Nat.add_mul]; omega] at this
            · cases hir
      · cases hq
    · cases hq
  · rename_i e K ver n i ht hbl hbh
    split at hq
    · rename_i te hte
      simp only [Option.some.injEq, Prod.mk.injEq] at hq
      obtain ⟨rfl, rfl⟩ := hq
      obtain ⟨c1, c2⟩ := hc
      obtain ⟨ii, hi', hs, _⟩ := ty_info hE hte
      have hut := tk_slice hE ht
      simp only [PV.rel] at hv
      obtain ⟨⟨⟨A, cp, rfl, hmax, hA⟩, hver⟩, hlv⟩ := hv
      have hsize : (sizeOf e).run E.P w = .ok te.size w := by simp [sizeOf, typeInfo, hi', hs]
      have hbounds : (Instr.sliceBounds true n cp vl vh none).run E.P w = .ok (i.toNat, n, cp) w := by
        rcases boundV_rel hbl hl hln with ⟨e1, _⟩ | ⟨k, m, e1, rfl⟩
        · cases e1
        · rcases boundV_rel hbh hh hhn with ⟨_, rfl⟩ | ⟨k', m', e2, _⟩
          · simp only [Option.some.injEq] at e1
            subst e1
            simp [Instr.sliceBounds, Instr.sliceBound, asIntOf, c1, c2]
          · cases e2
      refine ⟨.slice (if cp = i.toNat then A else A.map (·.add (i.toNat * te.size))) (n - i.toNat) (cp - i.toNat), ?_, ?_⟩
      · simp only [Instr.sliceAt, Sem.run_bind, run_underlying hut, Result.andThen_ok, Instr.slice, hbounds, hsize, Sem.run_pure]
      · simp only [PV.rel]
        refine ⟨⟨⟨_, _, rfl⟩, hver⟩, fun hlive hpos => ?_⟩
        obtain ⟨g, rfl⟩ := hA (by omega)
        have hn := hcap _ _ _ rfl hlive _ _ _ rfl
        have hα := hlv hlive
        refine ⟨g, cp - i.toNat, by rw [← hα]; rfl, ?_⟩
        rw [if_neg (by omega)]
        simp [Addr.add_mid]
    · cases hq
  · rename_i s l hi ht hbl hbh
    simp only [Option.some.injEq, Prod.mk.injEq] at hq
    obtain ⟨rfl, rfl⟩ := hq
    obtain ⟨c1, c2, c3⟩ := hc
    have hut := tk_str hE ht
    simp only [PV.rel, D.rd] at hv
    obtain ⟨rfl, hmax⟩ := hv
    generalize hL : l.getD 0 = L at c1 c2
    generalize hH : hi.getD (s.size : Int) = H at c2 c3
    have hbounds : (Instr.sliceBounds false s.size s.size vl vh none).run E.P w = .ok (L.toNat, H.toNat, s.size) w := by
      rcases boundV_rel hbl hl hln with ⟨rfl, rfl⟩ | ⟨k, n, rfl, rfl⟩ <;> rcases boundV_rel hbh hh hhn with ⟨rfl, rfl⟩ | ⟨k', n', rfl, rfl⟩ <;> simp only [Option.getD_none, Option.getD_some] at hL hH <;> subst hL <;> subst hH
      · simp [Instr.sliceBounds]
      · have h0 : 0 ≤ n' := by omega
        simp [Instr.sliceBounds, Instr.sliceBound, asIntOf, c3, h0]
      · simp [Instr.sliceBounds, Instr.sliceBound, asIntOf, c2, c1]
      · have h0 : 0 ≤ n' := by omega
        have h2 : n ≤ (n'.toNat : Int) := by omega
        simp [Instr.sliceBounds, Instr.sliceBound, asIntOf, c3, h0, h2, c1, c2]
        intro h5; omega
    refine ⟨.string (s.extract L.toNat H.toNat), ?_, ?_⟩
    · simp [Instr.sliceAt, run_underlying hut, Instr.slice, hbounds]
    · simp only [PV.rel, D.rd]
      refine ⟨trivial, Nat.le_trans ?_ hmax⟩
      simp [ByteArray.size_extract]
      omega
  · cases hq

theorem run_clipV {w : World} {o : Nat → Nat × Option Ob} {α : Nat → Value} {ok : Nat → Prop} {t : Nat} {q qh qm p : PV} {c : Prop} (hq : clipV E t q qh qm = some (c, p)) (hc : c) {v vh vm : Value} (hv : q.rel o α w ok v) (hh : qh.rel o α w ok vh) (hm : qm.rel o α w ok vm) :
    ∃ r, (Instr.sliceAt t v none (some vh) (some vm)).run E.P w = .ok r w ∧ p.rel o α w ok r := by
  unfold clipV at hq
  split at hq
  · rename_i sz xs k1 h k2 m
    split at hq
    · rename_i e ht
      split at hq
      · rename_i te hte
        split at hq
        · rename_i hsz
          simp only [Option.some.injEq, Prod.mk.injEq] at hq
          obtain ⟨rfl, rfl⟩ := hq
          obtain ⟨rfl, rfl⟩ := hc
          obtain ⟨i, hi', hs, _⟩ := ty_info hE hte
          have hut := tk_slice hE ht
          simp only [PV.rel, D.rd] at hv hh hm
          subst hh hm
          obtain ⟨A, cp, rfl, ⟨hcap, hA⟩, hmax, hr⟩ := hv
          have hsize : (sizeOf e).run E.P w = .ok te.size w := by simp [sizeOf, typeInfo, hi', hs]
          have hbounds : (Instr.sliceBounds true xs.length cp none (some (.int k1 xs.length)) (some (.int k2 xs.length))).run E.P w = .ok (0, xs.length, xs.length) w := by
            have h1 : (xs.length : Int) ≤ (cp : Int) := by omega
            simp [Instr.sliceBounds, Instr.sliceBound, asIntOf, hcap]
          refine ⟨.slice (if xs.length = 0 then A else A.map (·.add (0 * te.size))) (xs.length - 0) (xs.length - 0), ?_, ?_⟩
          · simp only [Instr.sliceAt, Sem.run_bind, run_underlying hut, Result.andThen_ok, Instr.slice, hbounds, hsize, Sem.run_pure]
          · have e1 : (if xs.length = 0 then A else A.map (·.add (0 * te.size))) = A := by
              split
              · rfl
              · cases A with
                | none => rfl
                | some a => simp [Addr.add]
            rw [e1, Nat.sub_zero]
            simp only [PV.rel, D.rd]
            refine ⟨⟨A, rfl⟩, A, xs.length, rfl, ⟨Nat.le_refl _, fun e => ?_⟩, hmax, hr⟩
            have := hA e; omega
        · cases hq
      · cases hq
    · cases hq
  · cases hq

omit hE in
theorem fields_places {P : Program} : ∀ {fields : List Field} {fs : List FI}, Fields P fields fs → fields.mapM (fun f => (P.info? f.type).map fun i => (f.offset, i.size)) = some (fs.map fun x => (x.off, x.size)) := by
  intro fields fs h
  induction h with
  | nil => simp
  | cons ho i hi hs h0 ha hn hk h ih =>
    simp only [List.mapM_cons, hi, Option.map_some, ho, hs, ih]
    rfl

theorem run_buildV {t : Nat} {parts : List (Nat × PV)} {vparts : Array (Nat × Value)} {p : PV} {c : Prop} (hq : buildV E t parts = some (c, p)) {ov : Nat → Nat × Option Ob} {α : Nat → Value} {w : World} {ok : Nat → Prop} (hp : partsRel ov α w ok parts vparts.toList) :
    ∃ r, (Instr.build t vparts).run E.P w = .ok r w ∧ p.rel ov α w ok r := by
  unfold buildV at hq
  split at hq
  · rename_i ti ht
    split at hq
    · rename_i fs hk
      simp only [Option.bind_eq_some_iff] at hq
      obtain ⟨cs, hcs, hq⟩ := hq
      obtain ⟨i, z, hi, hs, hb, hz, hzc, hzo, hzl⟩ := ty_zero hE ht (by rw [hk]; simp)
      have htk : E.tk t = some (.struct fs) := by simp [Env.tk, ht, hk]
      obtain ⟨fields, hu, hf, _⟩ := tk_struct hE htk
      have hz0 : PV.rels ov α w ok (ti.zero.map zpv) z.cells.toList := by rw [hzc]; exact zpvs_rel hzo
      have hpl := fields_places hf
      have hzone : ∀ u ∈ z.cells.toList, u.oneCell' = true := by
        rw [hzc]; intro u hu
        obtain ⟨d, hd, rfl⟩ := List.mem_map.1 hu
        exact zval_one (hzo d hd)
      obtain ⟨vals, h1, h2, h3⟩ := fill_rel (place := fun j => ((fs.map fun x => (x.off, x.size)).toArray)[j]?) (fs := fs) (fun j x hx => by simp [hx]) hp hcs hz0 hzone
      have hrun : (Instr.build t vparts).run E.P w = .ok (.agg vals) w := by
        refine run_build w t vparts vals ?_
        unfold Program.built
        simp only [hi, hu, hz, hpl]
        exact h1
      refine ⟨.agg vals, hrun, ?_⟩
      split at hq
      · rename_i ds hds
        simp only [Option.some.injEq, Prod.mk.injEq] at hq
        obtain ⟨_, rfl⟩ := hq
        simp only [PV.rel, D.rd]
        exact ⟨vals, rfl, h3, dcells_rd hds h2⟩
      · simp only [Option.some.injEq, Prod.mk.injEq] at hq
        obtain ⟨_, rfl⟩ := hq
        simp only [PV.rel]
        exact ⟨vals, rfl, h3, h2⟩
    · cases hq
  · cases hq
end

section
variable {E : Env} {N base : Nat} {w0 : World} {X : Fr} {S : St} {α : Nat → Value} {a : Act} {w : World}
theorem args_rel (h : Rel N base w0 X S α a w) : ∀ {xs : List Operand}, argsC S xs → PV.rels S.o α w (okOf X.A S.o α) (xs.map S.sv) (xs.map a.eval)
  | [], _ => by simp [PV.rels]
  | x :: xs, hc => by
    simp only [argsC] at hc
    simp only [List.map_cons, PV.rels]
    exact ⟨_, _, rfl, sv_rel h x hc.1, args_rel h hc.2⟩
theorem parts_rel (h : Rel N base w0 X S α a w) : ∀ {xs : List (Nat × Operand)}, argsC S (xs.map (·.2)) → partsRel S.o α w (okOf X.A S.o α) (xs.map fun p => (p.1, S.sv p.2)) (xs.map fun p => (p.1, a.eval p.2))
  | [], _ => by simp [partsRel]
  | x :: xs, hc => by
    simp only [List.map_cons, argsC] at hc
    simp only [List.map_cons, partsRel]
    exact ⟨_, _, rfl, sv_rel h x.2 hc.1, parts_rel h hc.2⟩

/-- THE PURE OPERATIONS: the machine's operation gives a value that the interpreter's tells, and the world stands. -/
theorem pureOp_sound (hE : EnvOk E) (h : Rel N base w0 X S α a w) (o : Oper) {c : Prop} {p : PV} (hp : pureOp E S o.op = some (c, p)) (hc : c) :
    ∃ v, (execOp a.eval o).run E.P w = .ok (.value v) w ∧ p.rel S.o α w (okOf X.A S.o α) v := by
  obtain ⟨dst, op, type, pos, after, guard⟩ := o
  unfold pureOp at hp
  split at hp
  · rename_i x he
    simp only at he; subst he
    simp only [Option.some.injEq, Prod.mk.injEq] at hp
    obtain ⟨rfl, rfl⟩ := hp
    exact ⟨_, by simp [execOp], ev_rel h x⟩
  · rename_i x he
    simp only at he; subst he
    simp only [Option.some.injEq, Prod.mk.injEq] at hp
    obtain ⟨rfl, rfl⟩ := hp
    exact ⟨_, by simp [execOp], ev_rel h x⟩
  · rename_i x y z he
    simp only at he; subst he
    obtain ⟨⟨c', p'⟩, h1, h2⟩ := Option.map_eq_some_iff.1 hp
    simp only [Prod.mk.injEq] at h2
    obtain ⟨rfl, rfl⟩ := h2
    have hx := sv_rel h x hc.1
    generalize S.sv x = px at h1 hx
    unfold pickV at h1
    split at h1
    · rename_i t b1 b2 hy0 hz0
      simp only [Option.some.injEq, Prod.mk.injEq] at h1
      obtain ⟨rfl, rfl⟩ := h1
      simp only [PV.rel, D.rd] at hx
      cases t with
      | true =>
        have hy := sv_rel h y (hc.2.1 rfl)
        rw [hy0] at hy
        exact ⟨_, by simp [execOp, hx, asBool]; rfl, by simpa using hy⟩
      | false =>
        have hz := sv_rel h z (hc.2.2 rfl)
        rw [hz0] at hz
        exact ⟨_, by simp [execOp, hx, asBool]; rfl, by simpa using hz⟩
    · cases h1
  · rename_i op t x y yt he
    simp only at he; subst he
    obtain ⟨⟨c', p'⟩, h1, h2⟩ := Option.map_eq_some_iff.1 hp
    simp only [Prod.mk.injEq] at h2
    obtain ⟨rfl, rfl⟩ := h2
    obtain ⟨r, hr1, hr2⟩ := run_binV hE (x := x) (y := y) h1 hc.2 (sv_rel h x hc.1.1) (sv_rel h y hc.1.2)
    exact ⟨r, by simp only [execOp, Sem.run_bind] at hr1 ⊢; simp [hr1], hr2⟩
  · rename_i op t x he
    simp only at he; subst he
    obtain ⟨⟨c', p'⟩, h1, h2⟩ := Option.map_eq_some_iff.1 hp
    simp only [Prod.mk.injEq] at h2
    obtain ⟨rfl, rfl⟩ := h2
    have hx := sv_rel h x hc.1
    generalize S.sv x = px at h1 hx
    unfold unV at h1
    split at h1
    · simp only [PV.rel, D.rd] at hx
      split at h1
      · simp only [Option.some.injEq, Prod.mk.injEq] at h1
        obtain ⟨rfl, rfl⟩ := h1
        exact ⟨_, by simp [execOp, hx, Op.unary, Op.intArith]; rfl, by simp [PV.rel, D.rd, wint]⟩
      · cases h1
    · simp only [PV.rel, D.rd] at hx
      split at h1
      · simp only [Option.some.injEq, Prod.mk.injEq] at h1
        obtain ⟨rfl, rfl⟩ := h1
        exact ⟨_, by simp [execOp, hx, Op.unary]; rfl, by simp [PV.rel, D.rd]⟩
      · cases h1
    · cases h1
  · rename_i src dst x he
    simp only at he; subst he
    obtain ⟨⟨c', p'⟩, h1, h2⟩ := Option.map_eq_some_iff.1 hp
    simp only [Prod.mk.injEq] at h2
    obtain ⟨rfl, rfl⟩ := h2
    have hx := sv_rel h x hc.1
    generalize S.sv x = px at h1 hx
    unfold convV at h1
    split at h1
    · simp only [PV.rel, D.rd] at hx
      split at h1
      · rename_i k0 k' hk0 hk
        simp only [Option.some.injEq, Prod.mk.injEq] at h1
        obtain ⟨rfl, rfl⟩ := h1
        exact ⟨_, by simp [execOp, hx, convert, run_underlying (tk_int hE hk0), run_underlying (tk_int hE hk), Conv.intToInt]; rfl, by simp [PV.rel, D.rd, wint]⟩
      · cases h1
    · cases h1
  · rename_i x i he
    simp only at he; subst he
    obtain ⟨⟨c', p'⟩, h1, h2⟩ := Option.map_eq_some_iff.1 hp
    simp only [Prod.mk.injEq] at h2
    obtain ⟨rfl, rfl⟩ := h2
    obtain ⟨r, hr1, hr2⟩ := run_extV h1 (sv_rel h x hc.1) E.P
    exact ⟨r, by simp [execOp, hr1], hr2⟩
  · rename_i t x he
    simp only at he; subst he
    obtain ⟨⟨c', p'⟩, h1, h2⟩ := Option.map_eq_some_iff.1 hp
    simp only [Prod.mk.injEq] at h2
    obtain ⟨rfl, rfl⟩ := h2
    obtain ⟨r, hr1, hr2⟩ := run_loadV hE h h1 hc.2 (sv_rel h x hc.1)
    exact ⟨r, by simp [execOp, hr1], hr2⟩
  · rename_i s x f he
    simp only at he; subst he
    obtain ⟨⟨c', p'⟩, h1, h2⟩ := Option.map_eq_some_iff.1 hp
    simp only [Prod.mk.injEq] at h2
    obtain ⟨rfl, rfl⟩ := h2
    obtain ⟨r, hr1, hr2⟩ := run_fieldAddrV hE h1 (sv_rel h x hc.1)
    exact ⟨r, by simp [execOp, hr1], hr2⟩
  · rename_i s x f he
    simp only at he; subst he
    obtain ⟨⟨c', p'⟩, h1, h2⟩ := Option.map_eq_some_iff.1 hp
    simp only [Prod.mk.injEq] at h2
    obtain ⟨rfl, rfl⟩ := h2
    obtain ⟨r, hr1, hr2⟩ := run_fieldV hE h1 hc.2 (sv_rel h x hc.1)
    exact ⟨r, by simp [execOp, hr1], hr2⟩
  · rename_i t x i he
    simp only at he; subst he
    obtain ⟨⟨c', p'⟩, h1, h2⟩ := Option.map_eq_some_iff.1 hp
    simp only [Prod.mk.injEq] at h2
    obtain ⟨rfl, rfl⟩ := h2
    obtain ⟨r, hr1, hr2⟩ := run_indexAddrV hE h h1 hc.2 (sv_rel h x hc.1.1) (sv_rel h i hc.1.2)
    exact ⟨r, by simp [execOp, hr1], hr2⟩
  · rename_i t x i he
    simp only at he; subst he
    obtain ⟨⟨c', p'⟩, h1, h2⟩ := Option.map_eq_some_iff.1 hp
    simp only [Prod.mk.injEq] at h2
    obtain ⟨rfl, rfl⟩ := h2
    obtain ⟨r, hr1, hr2⟩ := run_indexV hE h1 hc.2 (sv_rel h x hc.1.1) (sv_rel h i hc.1.2)
    exact ⟨r, by simp [execOp, hr1], hr2⟩
  · rename_i t parts he
    simp only at he; subst he
    obtain ⟨⟨c', p'⟩, h1, h2⟩ := Option.map_eq_some_iff.1 hp
    simp only [Prod.mk.injEq] at h2
    obtain ⟨rfl, rfl⟩ := h2
    obtain ⟨r, hr1, hr2⟩ := run_buildV hE (vparts := parts.map fun p => (p.1, a.eval p.2)) h1 (w := w) (by simpa using parts_rel h hc.1)
    exact ⟨r, by simp [execOp, hr1], hr2⟩
  · rename_i cl he
    simp only at he; subst he
    obtain ⟨callee, args, argTypes⟩ := cl
    unfold callOp at hp
    simp only at hp
    split at hp
    · rename_i b
      split at hp
      · rename_i x t hx ht
        have hx' : args = #[x] := by simpa [← Array.toList_inj] using hx
        have ht' : argTypes = #[t] := by simpa [← Array.toList_inj] using ht
        subst hx' ht'
        obtain ⟨⟨c', p'⟩, h1, h2⟩ := Option.map_eq_some_iff.1 hp
        simp only [Prod.mk.injEq] at h2
        obtain ⟨rfl, rfl⟩ := h2
        obtain ⟨r, hr1, hr2⟩ := run_lenV hE (ty := type) h h1 (sv_rel h x hc.1)
        exact ⟨r, by simp [execOp, resolve, invoke, builtin, hr1], hr2⟩
      · obtain ⟨⟨k, ns⟩, h1, h2⟩ := Option.map_eq_some_iff.1 hp
        simp only [Prod.mk.injEq] at h2
        obtain ⟨rfl, rfl⟩ := h2
        obtain ⟨e1, e2⟩ := ints_rel h1 (args_rel h hc)
        refine ⟨.int k (minI ns), ?_, by simp [PV.rel, D.rd]⟩
        have e3 : (args.map a.eval).toList = ns.map (Value.int k) := by simpa using e1
        cases ns with
        | nil => exact absurd rfl e2
        | cons n ns =>
          simp only [List.map_cons] at e3
          simp only [Array.toList_map] at e3
          simp [execOp, resolve, invoke, builtin, Builtin.min_, e3, foldlM_min, minI]
      · obtain ⟨⟨k, ns⟩, h1, h2⟩ := Option.map_eq_some_iff.1 hp
        simp only [Prod.mk.injEq] at h2
        obtain ⟨rfl, rfl⟩ := h2
        obtain ⟨e1, e2⟩ := ints_rel h1 (args_rel h hc)
        refine ⟨.int k (maxI ns), ?_, by simp [PV.rel, D.rd]⟩
        have e3 : (args.map a.eval).toList = ns.map (Value.int k) := by simpa using e1
        cases ns with
        | nil => exact absurd rfl e2
        | cons n ns =>
          simp only [List.map_cons] at e3
          simp only [Array.toList_map] at e3
          simp [execOp, resolve, invoke, builtin, Builtin.max_, e3, foldlM_max, maxI]
      · cases hp
    · cases hp
  · rename_i t x i ok he
    simp only at he; subst he
    obtain ⟨⟨c', p'⟩, h1, h2⟩ := Option.map_eq_some_iff.1 hp
    simp only [Prod.mk.injEq] at h2
    obtain ⟨rfl, rfl⟩ := h2
    obtain ⟨r, hr1, hr2⟩ := run_lookupV hE h h1 hc.2 (sv_rel h x hc.1.1) (sv_rel h i hc.1.2)
    exact ⟨r, by simp [execOp, hr1], hr2⟩
  · rename_i t x lo hi he
    simp only at he; subst he
    obtain ⟨⟨c', p'⟩, h1, h2⟩ := Option.map_eq_some_iff.1 hp
    simp only [Prod.mk.injEq] at h2
    obtain ⟨rfl, rfl⟩ := h2
    have hall : ∀ {xs : List Operand}, argsC S xs → ∀ y ∈ xs, S.sc y := by
      intro xs
      induction xs with
      | nil => intro _ y hy; cases hy
      | cons z xs ih =>
        intro hz y hy
        simp only [argsC] at hz
        rcases List.mem_cons.1 hy with rfl | hy
        · exact hz.1
        · exact ih hz.2 y hy
    have hsc := hall hc.1
    obtain ⟨r, hr1, hr2⟩ := run_sliceV hE (vl := lo.map a.eval) (vh := hi.map a.eval) h1 hc.2 (sv_rel h x (hsc x (by simp)))
      (fun K ver n e hlive A m c hv => own_cap h hlive (by have hr := sv_rel h x (hsc x (by simp)); rw [e] at hr; simp only [PV.rel] at hr; rw [← hr.2 hlive]; exact hv))
      (fun p hp => by cases lo with | none => simp at hp | some y => simp at hp; subst hp; exact ⟨_, rfl, sv_rel h y (hsc y (by simp))⟩) (fun e => by cases lo with | none => rfl | some y => simp at e)
      (fun p hp => by cases hi with | none => simp at hp | some y => simp at hp; subst hp; exact ⟨_, rfl, sv_rel h y (hsc y (by simp))⟩) (fun e => by cases hi with | none => rfl | some y => simp at e)
    exact ⟨r, by simp [execOp, hr1], hr2⟩
  · rename_i t x hi m he
    simp only at he; subst he
    obtain ⟨⟨c', p'⟩, h1, h2⟩ := Option.map_eq_some_iff.1 hp
    simp only [Prod.mk.injEq] at h2
    obtain ⟨rfl, rfl⟩ := h2
    obtain ⟨r, hr1, hr2⟩ := run_clipV hE h1 hc.2 (sv_rel h x hc.1.1) (sv_rel h hi hc.1.2.1) (sv_rel h m hc.1.2.2)
    exact ⟨r, by simp [execOp, hr1], hr2⟩
  · rename_i x he
    simp only at he; subst he
    obtain ⟨⟨c', p'⟩, h1, h2⟩ := Option.map_eq_some_iff.1 hp
    simp only [Prod.mk.injEq] at h2
    obtain ⟨rfl, rfl⟩ := h2
    obtain ⟨r, hr1, hr2⟩ := run_entryV (E := E) h h1 hc.2 (sv_rel h x hc.1)
    exact ⟨r, by simp [execOp, hr1], hr2⟩
  · rename_i x he
    simp only at he; subst he
    obtain ⟨⟨c', p'⟩, h1, h2⟩ := Option.map_eq_some_iff.1 hp
    simp only [Prod.mk.injEq] at h2
    obtain ⟨rfl, rfl⟩ := h2
    have hx := sv_rel h x hc.1
    generalize S.sv x = q at h1 hx
    unfold nilCheckV at h1
    split at h1 <;> try (cases h1; done)
    · simp only [Option.some.injEq, Prod.mk.injEq] at h1
      obtain ⟨rfl, rfl⟩ := h1
      have hx' := hx
      simp only [PV.rel, D.rd] at hx
      obtain ⟨b, o, e, _⟩ := hx
      exact ⟨_, by simp [execOp, e]; rfl, by rw [e] at hx'; exact hx'⟩
    · simp only [Option.some.injEq, Prod.mk.injEq] at h1
      obtain ⟨rfl, rfl⟩ := h1
      have hx' := hx
      simp only [PV.rel, D.rd] at hx
      obtain ⟨vs, e, _⟩ := hx
      exact ⟨_, by simp [execOp, e]; rfl, by rw [e] at hx'; exact hx'⟩
    · simp only [Option.some.injEq, Prod.mk.injEq] at h1
      obtain ⟨rfl, rfl⟩ := h1
      have hx' := hx
      simp only [PV.rel] at hx
      obtain ⟨vs, e, _⟩ := hx
      exact ⟨_, by simp [execOp, e]; rfl, by rw [e] at hx'; exact hx'⟩
    · simp only [Option.some.injEq, Prod.mk.injEq] at h1
      obtain ⟨rfl, rfl⟩ := h1
      have hx' := hx
      simp only [PV.rel] at hx
      obtain ⟨⟨⟨g, e⟩, _⟩, _⟩ := hx
      exact ⟨_, by simp [execOp, e]; rfl, by rw [e] at hx'; exact hx'⟩
  · rename_i f first caps he
    simp only at he; subst he
    obtain ⟨⟨c', p'⟩, h1, h2⟩ := Option.map_eq_some_iff.1 hp
    simp only [Prod.mk.injEq] at h2
    obtain ⟨rfl, rfl⟩ := h2
    unfold makeFuncV at h1
    split at h1
    · rename_i f hf
      simp only [Option.some.injEq, Prod.mk.injEq] at h1
      obtain ⟨rfl, rfl⟩ := h1
      have hfirst : first = #[] := Array.toList_inj.1 (by simpa using hf)
      subst hfirst
      refine ⟨.func (.func f) #[] (caps.map a.eval), by simp [execOp, Instr.makeFunc], ?_⟩
      simp only [PV.rel]
      exact ⟨_, rfl, by simpa using args_rel h hc.1⟩
    · cases h1
  · cases hp
end
end Go.Proofs.Ytomnjbebgfadoaa.Pi
end
section
/- The pure interpreter's operations that make or write objects: what they do, and that they are sound.
   Conditions: none; definitions and lemmas. -/
set_option linter.unusedVariables false
set_option linter.unusedSimpArgs false
namespace Go.Proofs.Ytomnjbebgfadoaa.Pi
open Go Go.RowKit

/-! ### 11. Objects: new, written, given up -/
abbrev Objs := Nat → Nat × Option Ob
def newOb (o : Objs) (K : Nat) (x : Ob) : Objs := fun k => if k = K then ((o K).1 + 1, some x) else o k
def setOb (o : Objs) (K : Nat) (x : Ob) : Objs := fun k => if k = K then ((o K).1, some x) else o k
/-- K0 becomes K. -/
def movOb (o : Objs) (K0 K : Nat) (x : Ob) : Objs := fun k => if k = K then ((o K).1 + 1, some x) else if k = K0 then ((o k).1, none) else o k
def hup (α : Nat → Value) (K : Nat) (h : Value) : Nat → Value := fun k => if k = K then h else α k

theorem hup_same (α : Nat → Value) (K : Nat) (h : Value) : hup α K h K = h := by simp [hup]
theorem hup_ne (α : Nat → Value) {K k : Nat} (h : Value) (hk : k ≠ K) : hup α K h k = α k := by simp [hup, hk]

section
variable {N base : Nat} {w0 : World} {X : Fr} {S : St} {α : Nat → Value} {a : Act} {w : World}
/-- A new object. -/
theorem Rel.new (h : Rel N base w0 X S α a w) {K : Nat} {x : Ob} {hdr : Value} {w' : World} {dst : Option Nat} {p : PV} {v : Value} (hdst : ∀ d, dst = some d → d < N) (hg : w.grownBy w' none) (hb : ∀ g, hblk hdr = some g → w.heap.size ≤ g)
    (hx : Keeps w (okOf X.A S.o α) w' (okOf X.A (newOb S.o K x) (hup α K hdr)) → Turns S.o α (newOb S.o K x) (hup α K hdr) → x.rel (newOb S.o K x) (hup α K hdr) w' (okOf X.A (newOb S.o K x) (hup α K hdr)) base hdr)
    (hp : Keeps w (okOf X.A S.o α) w' (okOf X.A (newOb S.o K x) (hup α K hdr)) → Turns S.o α (newOb S.o K x) (hup α K hdr) → p.rel (newOb S.o K x) (hup α K hdr) w' (okOf X.A (newOb S.o K x) (hup α K hdr)) v) :
    Rel N base w0 X { (S.put dst p) with o := newOb S.o K x } (hup α K hdr) (a.put dst v) w' := by
  refine h.upd (row := none) K hdst hg (by simp) (fun k => ?_) (fun k hk _ => ?_) (fun _ => ⟨.inl ?_, fun g hgk => ?_⟩) (fun hk ht y hy => ?_) hp
  · by_cases e : k = K <;> simp [newOb, e]
  · exact ⟨by simp [newOb, hk], hup_ne α hdr hk, by simp⟩
  · simp [newOb]
  · rw [hup_same] at hgk; exact .inr (hb g hgk)
  · simp only [newOb, if_true, Option.some.injEq] at hy
    subst hy
    rw [hup_same]
    exact hx hk ht
/-- An object's contents turn in its block. -/
theorem Rel.set (h : Rel N base w0 X S α a w) {K g : Nat} {x y : Ob} {w' : World} {dst : Option Nat} {p : PV} {v : Value} (hdst : ∀ d, dst = some d → d < N) (hg : w.grownBy w' (some g)) (hK : (S.o K).2 = some y) (hb : hblk (α K) = some g)
    (hx : Keeps w (okOf X.A S.o α) w' (okOf X.A (setOb S.o K x) α) → Turns S.o α (setOb S.o K x) α → x.rel (setOb S.o K x) α w' (okOf X.A (setOb S.o K x) α) base (α K))
    (hp : Keeps w (okOf X.A S.o α) w' (okOf X.A (setOb S.o K x) α) → Turns S.o α (setOb S.o K x) α → p.rel (setOb S.o K x) α w' (okOf X.A (setOb S.o K x) α) v) :
    Rel N base w0 X { (S.put dst p) with o := setOb S.o K x } α (a.put dst v) w' := by
  have hKn : (S.o K).2 ≠ none := by rw [hK]; simp
  refine h.upd (row := some g) K hdst hg (fun g' e => ⟨K, hKn, by rw [hb]; exact e⟩) (fun k => ?_) (fun k hk hl => ?_) (fun _ => ⟨.inr ⟨?_, hKn, rfl⟩, fun g' hgk => ?_⟩) (fun hk ht z hz => ?_) hp
  · by_cases e : k = K <;> simp [setOb, e]
  · have hs : setOb S.o K x k = S.o k := by simp [setOb, hk]
    refine ⟨hs, rfl, fun g' hg' e => ?_⟩
    simp only [Option.some.injEq] at e
    subst e
    exact h.inj k K hk (by rw [← hs]; exact hl) hKn g hg' hb
  · simp [setOb]
  · rw [hb] at hgk; exact .inl hgk
  · simp only [setOb, if_true, Option.some.injEq] at hz
    subst hz
    exact hx hk ht
/-- An object goes over into another one: its block is written, or left. -/
theorem Rel.mov (h : Rel N base w0 X S α a w) {K0 K : Nat} {x y : Ob} {hdr : Value} {w' : World} {dst : Option Nat} {p : PV} {v : Value} (hdst : ∀ d, dst = some d → d < N) (hg : w.grownBy w' (hblk (α K0))) (hK : (S.o K0).2 = some y) (hb : ∀ g, hblk hdr = some g → hblk (α K0) = some g ∨ w.heap.size ≤ g)
    (hx : Keeps w (okOf X.A S.o α) w' (okOf X.A (movOb S.o K0 K x) (hup α K hdr)) → Turns S.o α (movOb S.o K0 K x) (hup α K hdr) → x.rel (movOb S.o K0 K x) (hup α K hdr) w' (okOf X.A (movOb S.o K0 K x) (hup α K hdr)) base hdr)
    (hp : Keeps w (okOf X.A S.o α) w' (okOf X.A (movOb S.o K0 K x) (hup α K hdr)) → Turns S.o α (movOb S.o K0 K x) (hup α K hdr) → p.rel (movOb S.o K0 K x) (hup α K hdr) w' (okOf X.A (movOb S.o K0 K x) (hup α K hdr)) v) :
    Rel N base w0 X { (S.put dst p) with o := movOb S.o K0 K x } (hup α K hdr) (a.put dst v) w' := by
  have hKn : (S.o K0).2 ≠ none := by rw [hK]; simp
  refine h.upd (row := hblk (α K0)) K hdst hg (fun g' e => ⟨K0, hKn, e⟩) (fun k => ?_) (fun k hk hl => ?_) (fun _ => ⟨.inl ?_, fun g' hgk => ?_⟩) (fun hk ht z hz => ?_) hp
  · by_cases e : k = K
    · simp [movOb, e]
    · by_cases e' : k = K0
      · subst e'; simp [movOb, e]
      · simp [movOb, e, e']
  · have hk0 : k ≠ K0 := fun e => by subst e; simp [movOb, hk] at hl
    have hs : movOb S.o K0 K x k = S.o k := by simp [movOb, hk, hk0]
    refine ⟨hs, hup_ne α hdr hk, fun g' hg' e => ?_⟩
    exact h.inj k K0 hk0 (by rw [← hs]; exact hl) hKn g' hg' e
  · simp [movOb]
  · rw [hup_same] at hgk; exact hb g' hgk
  · simp only [movOb, if_true, Option.some.injEq] at hz
    subst hz
    rw [hup_same]
    exact hx hk ht
end

theorem grownBy_alloc' (w : World) (o : Obj) : w.grownBy (w.alloc o) none := World.grownBy_alloc w o none
theorem grownBy_setRow (w : World) (g : Nat) (cs : Array Value) : w.grownBy (w.setRow g cs) (some g) :=
  ⟨rfl, rfl, rfl, by simp, fun k _ hk => setRow_other w g k cs fun e => hk (by rw [e])⟩

/-! ### 12. What they do -/
abbrev EF := Option (Prop × PV × Objs)
def refNew (S : St) (K : Nat) : PV := .ref K ((S.o K).1 + 1) 0 0 0
def rowNew (S : St) (K n : Nat) : PV := .row K ((S.o K).1 + 1) n
def allocE (E : Env) (S : St) (K t : Nat) : EF := match E.ty t with
  | some ti => if plainTI ti = true then some (True, refNew S K, newOb S.o K (.box t (ti.zero.map zpv))) else none
  | none => none
def boxE (E : Env) (S : St) (K t : Nat) (x : PV) : EF := match E.ty t, cellsP x with
  | some ti, some cs => some (True, refNew S K, newOb S.o K (.box t cs))
  | _, _ => none
def rowsV (S : St) (sz : Nat) : PV → Option (List (List D))
  | .d (.lst sz' xs) => if sz' = sz then some xs else none
  | .nils => some []
  | .clip sz' xs => if sz' = sz then some xs else none
  | .row K ver _ => match S.obj K ver with
    | some (.row sz' _ xs) => if sz' = sz then some xs else none
    | _ => none
  | _ => none
/-- The same, cell by cell. -/
def rowsP (S : St) (sz : Nat) (x : PV) : Option (List (List PV)) := match x with
  | .row K ver _ => match S.obj K ver with
    | some (.vec sz' _ xs) => if sz' = sz then some xs else none
    | _ => none
  | _ => none
def appR (te : TI) (S : St) (K e : Nat) (s : PV) (ys : List (List D)) : EF := match s with
  | .nils => if plainTI te = true then some (ys.length * te.bytes ≤ 140737488355328, rowNew S K ys.length, newOb S.o K (.row te.size e ys)) else none
  | .clip sz xs => if plainTI te = true ∧ sz = te.size then some ((xs.length + ys.length) * te.bytes ≤ 140737488355328 ∧ 0 < ys.length, rowNew S K (xs.length + ys.length), newOb S.o K (.row te.size e (xs ++ ys))) else none
  | .row K0 v0 _ => match S.obj K0 v0 with
    | some (.row sz e' xs) => if plainTI te = true ∧ sz = te.size ∧ e' = e then some ((xs.length + ys.length) * te.bytes ≤ 140737488355328, rowNew S K0 (xs.length + ys.length), newOb S.o K0 (.row sz e (xs ++ ys))) else none
    | _ => none
  | _ => none
def appP (te : TI) (S : St) (K e : Nat) (s : PV) (ys : List (List PV)) : EF := match s with
  | .nils => if plainTI te = true then some (ys.length * te.bytes ≤ 140737488355328, rowNew S K ys.length, newOb S.o K (.vec te.size e ys)) else none
  | .row K0 v0 _ => match S.obj K0 v0 with
    | some (.vec sz e' xs) => if plainTI te = true ∧ sz = te.size ∧ e' = e then some ((xs.length + ys.length) * te.bytes ≤ 140737488355328, rowNew S K0 (xs.length + ys.length), newOb S.o K0 (.vec sz e (xs ++ ys))) else none
    | _ => none
  | _ => none
def appE (E : Env) (S : St) (K t : Nat) (s x : PV) : EF := match E.tk t with
  | some (.slice e) => match E.ty e with
    | some te => match rowsV S te.size x with
      | some ys => appR te S K e s ys
      | none => match rowsP S te.size x with
        | some ys => appP te S K e s ys
        | none => none
    | none => none
  | _ => none
def storeE (E : Env) (S : St) (t : Nat) (adr x : PV) : EF := match E.ty t, adr, cellsP x with
  | some ti, .ref K ver sz i off, some cs => match S.obj K ver with
    | some (.box e bs) => some (cs.length = ti.size ∧ i * sz + off + cs.length ≤ bs.length, .un, setOb S.o K (.box e (bs.take (i * sz + off) ++ cs ++ bs.drop (i * sz + off + cs.length))))
    | some (.row sz' e xs) => match E.ty e with
      | some te => match dcells (cut te.zero off cs.length) cs with
        | some ds => if sz = sz' then some (cs.length = ti.size ∧ i < xs.length ∧ off + cs.length ≤ sz, .un, setOb S.o K (.row sz' e (xs.set i ((xs.getD i te.zero).take off ++ ds ++ (xs.getD i te.zero).drop (off + cs.length))))) else none
        | none => none
      | none => none
    | some (.vec sz' e xs) => if sz = sz' then some (cs.length = ti.size ∧ i < xs.length ∧ off + cs.length ≤ sz, .un, setOb S.o K (.vec sz' e (xs.set i ((xs.getD i []).take off ++ cs ++ (xs.getD i []).drop (off + cs.length))))) else none
    | _ => none
  | _, _, _ => none
def makeE (E : Env) (S : St) (K t : Nat) (cells : Bool) (l c : PV) : EF := match E.tk t, l, c with
  | some (.slice e), .d (.int _ n), .d (.int _ m) => match E.ty e with
    | some te => if plainTI te = true then some (n = m ∧ 0 ≤ n ∧ n.toNat * te.bytes ≤ 281474976710656, rowNew S K n.toNat, newOb S.o K (if cells = true then .vec te.size e (List.replicate n.toNat (te.zero.map zpv)) else .row te.size e (List.replicate n.toNat te.zero))) else none
    | none => none
  | _, _, _ => none
/-! Maps. -/
def makeMapE (E : Env) (S : St) (K t : Nat) : EF := match E.tk t with
  | some (.map kt e) => some (True, .map K ((S.o K).1 + 1), newOb S.o K (.map kt e 0 []))
  | _ => none
def mapUpdE (E : Env) (S : St) (t : Nat) (m k v : PV) : EF := match m, k with
  | .map K ver, .d kd => match E.tk t, S.obj K ver with
    | some (.map kt e), some (.map kt' e' clock es) => some (mkey E kt kd = true ∧ mkeys E kt es = true, .un, setOb S.o K (.map kt' e' (mclock kd es clock) (mput kd v clock es)))
    | _, _ => none
  | _, _ => none
def mapEntE (E : Env) (S : St) (t : Nat) (m k : PV) : EF := match m, k with
  | .map K ver, .d kd => match E.tk t, S.obj K ver with
    | some (.map kt e), some (.map kt' e' clock es) => match E.ty e with
      | some te => if plainTI te = true then some (mkey E kt kd = true ∧ mkeys E kt es = true, .tup [mval kd es (zvp te), .d (.int .i64 (mborn kd es clock))], setOb S.o K (.map kt' e' (mclock kd es clock) (mput kd (mval kd es (zvp te)) clock es))) else none
      | none => none
    | _, _ => none
  | _, _ => none
def mapStoE (S : St) (m s v : PV) : EF := match m, s with
  | .map K ver, .d (.int _ n) => match S.obj K ver with
    | some (.map kt' e' clock es) => some (mlast n es = true, .un, setOb S.o K (.map kt' e' clock (mstamp n v es)))
    | _ => none
  | _, _ => none
/-- The beginning of a loop over a map. -/
def rangeE (E : Env) (S : St) (K t : Nat) (m : PV) : EF := match m with
  | .map M mver => match E.tk t, S.obj M mver with
    | some (.map _ _), some (.map _ _ clock _) => if K = M then none else some (True, refNew S K, newOb S.o K (.iter M mver clock [] clock))
    | _, _ => none
  | _ => none
def chunk {α : Type} (sz : Nat) : Nat → List α → List (List α)
  | 0, _ => []
  | n + 1, ds => ds.take sz :: chunk sz n (ds.drop sz)
def elemsFI (sz : Nat) (n : Nat) : List FI := (List.range n).map fun i => ⟨i * sz, sz, false, 3⟩
def litRowsP (te : TI) (n : Nat) (parts : List (Nat × PV)) : Option (List (List PV)) :=
  (fillP (elemsFI te.size n) (((List.replicate n te.zero).flatten).map zpv) parts).map (chunk te.size n)
def litRows (te : TI) (n : Nat) (parts : List (Nat × PV)) : Option (List (List D)) :=
  (fillP (elemsFI te.size n) (((List.replicate n te.zero).flatten).map zpv) parts).bind fun cs => (dcells ((List.replicate n te.zero).flatten) cs).map fun ds => chunk te.size n ds
/-- A slice literal of the call's own. -/
def litE (E : Env) (S : St) (K t n : Nat) (parts : List (Nat × PV)) : EF := match E.tk t with
  | some (.slice e) => match E.ty e with
    | some te => if plainTI te = true ∧ n * te.size ≤ 16777216 then
        match litRows te n parts with
        | some rows => some (True, rowNew S K n, newOb S.o K (.row te.size e rows))
        | none => (litRowsP te n parts).map fun rows => (True, rowNew S K n, newOb S.o K (.vec te.size e rows))
      else none
    | none => none
  | _ => none
/-- A slice literal that is only read. -/
def litV (E : Env) (t n : Nat) (parts : List (Nat × PV)) : PR := match E.tk t with
  | some (.slice e) => match E.ty e with
    | some te => if plainTI te = true ∧ n * te.size ≤ 16777216 then (litRows te n parts).map fun rows => (True, .d (.lst te.size rows)) else none
    | none => none
  | _ => none
def dropObs (o : Objs) (ks : List Nat) : Objs := fun k => if k ∈ ks then ((o k).1, none) else o k
/-- A part of a row of the call's own, which is only read from then on. -/
def sliceE (E : Env) (S : St) (t : Nat) (x : PV) (lo hi : Option PV) : EF := match x with
  | .row K ver n => match S.obj K ver with
    | some (.row sz _ xs) => (sliceV E t (.d (.lst sz xs)) lo hi).map fun r => (r.1, r.2, dropObs S.o [K])
    | _ => none
  | _ => none
def clearE (E : Env) (S : St) (t : Nat) (x : PV) : EF := match E.tk t, x with
  | some (.slice e), .sub K ver sz i n => match S.obj K ver, E.ty e with
    | some (.row sz' e' xs), some te => if sz' = sz ∧ te.size = sz ∧ plainTI te = true then some (i + n = xs.length ∧ 0 < n, .un, setOb S.o K (.row sz' e' (xs.take i ++ List.replicate n te.zero))) else none
    | _, _ => none
  | _, _ => none
def clrE (E : Env) (S : St) (c : Call) : EF := match c.callee with
  | .builtin .clear => match c.args.toList, c.argTypes.toList with
    | [s], [t] => (clearE E S t (S.sv s)).map fun r => (S.sc s ∧ r.1, r.2)
    | _, _ => none
  | _ => none
def callE (E : Env) (S : St) (K : Nat) (c : Call) : EF := match c.callee with
  | .builtin .append => match c.args.toList, c.argTypes.toList with
    | [s, x], [t, t'] => if t = t' then (appE E S K t (S.sv s) (S.sv x)).map fun r => ((S.sc s ∧ S.sc x) ∧ r.1, r.2) else none
    | _, _ => none
  | _ => none
def effOp (E : Env) (S : St) (dst : Option Nat) (op : Op) : EF := match op, dst with
  | .alloc t, some K => allocE E S (E.key K) t
  | .box t x, some K => (boxE E S (E.key K) t (S.sv x)).map fun r => (S.sc x ∧ r.1, r.2)
  | .store t adr x, _ => (storeE E S t (S.sv adr) (S.sv x)).map fun r => ((S.sc adr ∧ S.sc x) ∧ r.1, r.2)
  | .makeSlice t l c, some K => (makeE E S (E.key K) t (E.own K) (S.sv l) (S.sv c)).map fun r => ((S.sc l ∧ S.sc c) ∧ r.1, r.2)
  | .buildSlice t n parts, some K => (litE E S (E.key K) t n (parts.toList.map fun p => (p.1, S.sv p.2))).map fun r => (argsC S (parts.toList.map (·.2)) ∧ r.1, r.2)
  | .call c, some K => callE E S (E.key K) c
  | .call c, none => clrE E S c
  | .slice t x lo hi none, some _ => (sliceE E S t (S.sv x) (lo.map S.sv) (hi.map S.sv)).map fun r => (argsC S (x :: (lo.toList ++ hi.toList)) ∧ r.1, r.2)
  | .makeMap t none, some K => makeMapE E S (E.key K) t
  | .range t x, some K => (rangeE E S (E.key K) t (S.sv x)).map fun r => (S.sc x ∧ r.1, r.2)
  | .mapUpdate t m k v, _ => (mapUpdE E S t (S.sv m) (S.sv k) (S.sv v)).map fun r => (((S.sc m ∧ S.sc k) ∧ S.sc v) ∧ r.1, r.2)
  | .insert t m k v, _ => (mapUpdE E S t (S.sv m) (S.sv k) (S.sv v)).map fun r => (((S.sc m ∧ S.sc k) ∧ S.sc v) ∧ r.1, r.2)
  | .mapEntry t m k, some _ => (mapEntE E S t (S.sv m) (S.sv k)).map fun r => ((S.sc m ∧ S.sc k) ∧ r.1, r.2)
  | .entryStore _ m s v, _ => (mapStoE S (S.sv m) (S.sv s) (S.sv v)).map fun r => (((S.sc m ∧ S.sc s) ∧ S.sc v) ∧ r.1, r.2)
  | _, _ => none
end Go.Proofs.Ytomnjbebgfadoaa.Pi
end
section
/- The pure interpreter's operations that make or write objects are sound.
   Conditions: none; lemmas. -/
set_option linter.unusedVariables false
set_option linter.unusedSimpArgs false
namespace Go.Proofs.Ytomnjbebgfadoaa.Pi
open Go Go.RowKit

section
variable {E : Env} {N base : Nat} {w0 : World} {X : Fr} {S : St} {α : Nat → Value} {a : Act} {w : World}

/-- A new box. -/
theorem Rel.newBox (h : Rel N base w0 X S α a w) {K t : Nat} {cs : List PV} {vals : Array Value} {d : Nat} (hK : d < N) (hr : PV.rels S.o α w (okOf X.A S.o α) cs vals.toList) (h1 : ∀ u ∈ vals.toList, u.oneCell' = true) :
    Rel N base w0 X { (S.put (some d) (refNew S K)) with o := newOb S.o K (.box t cs) } (hup α K (.pointer (some ⟨w.heap.size, 0, none⟩))) (a.put (some d) (.pointer (some ⟨w.heap.size, 0, none⟩))) (w.alloc (.cells vals t)) := by
  refine h.new (by simpa using hK) (grownBy_alloc' w _) (fun g hg => by simp [hblk] at hg; omega) (fun hk ht => ?_) (fun hk ht => ?_)
  · exact ⟨w.heap.size, vals, rfl, h.base, heap_alloc_new w _, PV.rels_turn hk ht _ _ hr, h1⟩
  · simp only [refNew, PV.rel]
    refine ⟨⟨⟨w.heap.size, by simp⟩, by simp [newOb]⟩, fun _ => ⟨w.heap.size, by rw [hup_same]; rfl, by simp⟩⟩

theorem run_allocE (hE : EnvOk E) (h : Rel N base w0 X S α a w) {K t : Nat} {d : Nat} (hK : d < N) {c : Prop} {p : PV} {o' : Objs} (hq : allocE E S K t = some (c, p, o')) :
    ∃ α' v w', (Instr.alloc t true (.tuple #[])).run E.P w = .ok v w' ∧ Rel N base w0 X { (S.put (some d) p) with o := o' } α' (a.put (some d) v) w' := by
  unfold allocE at hq
  split at hq
  · rename_i ti ht
    split at hq
    · rename_i hpl
      simp only [Option.some.injEq, Prod.mk.injEq] at hq
      obtain ⟨_, rfl, rfl⟩ := hq
      obtain ⟨i, z, hi, hs, hb, hz, hzc, hzo, hzl⟩ := ty_zero hE ht (by unfold plainTI at hpl; split at hpl <;> simp_all)
      refine ⟨_, .pointer (some ⟨w.heap.size, 0, none⟩), w.alloc (.cells z.cells t), ?_, h.newBox hK (vals := z.cells) (by rw [hzc]; exact zpvs_rel hzo) ?_⟩
      · simp [Instr.alloc, zeroValue, typeInfo, hi, hz, newVar, newRow]
      · rw [hzc]
        intro u hu
        obtain ⟨d, hd, rfl⟩ := List.mem_map.1 hu
        exact zval_one (hzo d hd)
    · cases hq
  · cases hq

theorem own_hdr {w : World} {base e sz n : Nat} {hdr : Value} {vals : List Value} (h : w.ownsRow base e sz hdr n vals) : ∃ A c, hdr = .slice A n c ∧ n ≤ maxLen ∧ (0 < n → ∃ g, A = some ⟨g, 0, none⟩) := by
  rcases h.2 with ⟨e1, e2⟩ | ⟨g, cap, cur, e1, _, _, h1, h2, _⟩
  · subst e2; exact ⟨none, 0, e1, by simp [maxLen], by omega⟩
  · exact ⟨_, cap, e1, by omega, fun _ => ⟨g, rfl⟩⟩
/-- What a slice that is appended, or copied, holds. -/
theorem rdRows_vals {w : World} {ok : Nat → Prop} {sz b : Nat} : ∀ {o : Nat} {xs : List (List D)}, rdRows w ok sz b o xs → (∀ r ∈ xs, r.length = sz) ∧ ∃ vals, rdVals w ok xs.flatten vals ∧ (∀ u ∈ vals, u.oneCell' = true) ∧ w.rangeAt b o vals
  | o, [], h => ⟨by simp, [], by simp [rdVals], by simp, fun j v hv => by simp at hv⟩
  | o, r :: xs, h => by
    simp only [rdRows] at h
    obtain ⟨h1, vals, h2, h3, h4⟩ := rdRows_vals h.2
    obtain ⟨us, h5, _, h6⟩ := rdCells_vals h.1.2
    have hl := rdVals_length h5
    refine ⟨fun x hx => ?_, us ++ vals, by simpa using rdVals_append h5 h2, fun u hu => ?_, fun j v hv => ?_⟩
    · rcases List.mem_cons.1 hx with rfl | hx
      · exact h.1.1
      · exact h1 x hx
    · rcases List.mem_append.1 hu with hu | hu
      · obtain ⟨j, hj⟩ := List.mem_iff_getElem?.1 hu
        have hj' : j < r.length := by rw [← hl]; exact (List.getElem?_eq_some_iff.1 hj).1
        obtain ⟨_, u', hc, h7, _⟩ := rdCells_get h.1.2 j _ (List.getElem?_eq_getElem hj')
        have := h6 j u hj
        rw [this] at hc
        simp only [Option.some.injEq] at hc
        rw [hc]; exact h7
      · exact h3 u hu
    · by_cases hj : j < us.length
      · exact h6 j v (by rwa [List.getElem?_append_left hj] at hv)
      · rw [List.getElem?_append_right (by omega)] at hv
        have := h4 _ v hv
        rwa [show o + sz + (j - us.length) = o + j by have := h.1.1; omega] at this

theorem rowsV_src (h : Rel N base w0 X S α a w) {sz : Nat} {q : PV} {ys : List (List D)} {v : Value} (hq : rowsV S sz q = some ys) (hv : q.rel S.o α w (okOf X.A S.o α) v) :
    ∃ A c, v = .slice A ys.length c ∧ (A = none → c = 0 ∧ ys = []) ∧ (∀ r ∈ ys, r.length = sz) ∧ ∃ vals, rdVals w (okOf X.A S.o α) ys.flatten vals ∧ (∀ u ∈ vals, u.oneCell' = true) ∧ ∀ ad, A = some ad → ∀ j u, vals[j]? = some u → w.cell? (ad.add j) = some u := by
  have lst : ∀ {xs : List (List D)}, (D.lst sz xs).rd w (okOf X.A S.o α) v → ∃ A c, v = .slice A xs.length c ∧ (A = none → c = 0 ∧ xs = []) ∧ (∀ r ∈ xs, r.length = sz) ∧ ∃ vals, rdVals w (okOf X.A S.o α) xs.flatten vals ∧ (∀ u ∈ vals, u.oneCell' = true) ∧ ∀ ad, A = some ad → ∀ j u, vals[j]? = some u → w.cell? (ad.add j) = some u := by
    intro xs hv
    simp only [D.rd] at hv
    obtain ⟨A, c, rfl, ⟨h1, h2⟩, h3, h4⟩ := hv
    by_cases hx : xs = []
    · subst hx
      exact ⟨A, c, rfl, fun e => ⟨h2 e, rfl⟩, by simp, [], by simp [rdVals], by simp, by simp⟩
    · obtain ⟨b, o, rfl, hr⟩ := h4 hx
      refine ⟨_, c, rfl, by simp, ?_⟩
      obtain ⟨h5, vals, h6, h7, h8⟩ := rdRows_vals hr
      refine ⟨h5, vals, h6, h7, fun ad e j u hj => ?_⟩
      simp only [Option.some.injEq] at e
      subst e
      rw [Addr.add_mid]
      exact h8 j u hj
  unfold rowsV at hq
  split at hq
  · split at hq
    · rename_i e; subst e
      simp only [Option.some.injEq] at hq; subst hq
      exact lst (by simpa only [PV.rel] using hv)
    · cases hq
  · simp only [Option.some.injEq] at hq; subst hq
    simp only [PV.rel] at hv; subst hv
    exact ⟨none, 0, rfl, fun _ => ⟨rfl, rfl⟩, by simp, [], by simp [rdVals], by simp, by simp⟩
  · split at hq
    · rename_i e; subst e
      simp only [Option.some.injEq] at hq; subst hq
      simp only [PV.rel] at hv
      exact lst hv.2
    · cases hq
  · rename_i K ver n
    split at hq
    · rename_i sz' e xs hob
      split at hq
      · rename_i e; subst e
        simp only [Option.some.injEq] at hq; subst hq
        obtain ⟨hl, hx⟩ := obj_some hob
        simp only [PV.rel] at hv
        have hva := hv.2 hl
        subst hva
        obtain ⟨vals, hown, h1, h2, h3⟩ := h.o K _ hx
        have : ∃ A cp, α K = .slice A xs.length cp ∧ (A = none → cp = 0 ∧ xs = []) ∧ ∀ ad, A = some ad → ∀ j u, vals[j]? = some u → w.cell? (ad.add j) = some u := by
          rcases hown.2 with ⟨e1, e2⟩ | ⟨g, cap, cur, e1, _⟩
          · exact ⟨none, 0, by rw [e1, e2], fun _ => ⟨rfl, List.eq_nil_of_length_eq_zero e2⟩, by simp⟩
          · refine ⟨_, cap, e1, by simp, fun ad e j u hj => ?_⟩
            simp only [Option.some.injEq] at e
            subst e
            exact hown.cells (g := g) (by rw [e1]; rfl) j u hj
        obtain ⟨A, cp, e1, e2, e3⟩ := this
        exact ⟨A, cp, e1, e2, h1, vals, h2, h3, e3⟩
      · cases hq
    · cases hq
  · cases hq

theorem own_blk {v : Value} (h : ∃ A n c, v = .slice A n c) : v.ownBlock = hblk v := by
  obtain ⟨A, n, c, rfl⟩ := h
  cases A <;> rfl
theorem own_shape {w : World} {base e sz n : Nat} {hdr : Value} {vals : List Value} (h : w.ownsRow base e sz hdr n vals) : ∃ A n' c, hdr = .slice A n' c := by
  rcases h.2 with ⟨e1, _⟩ | ⟨g, cap, cur, e1, _⟩
  · exact ⟨_, _, _, e1⟩
  · exact ⟨_, _, _, e1⟩

/-- append, at the run's level: to a row of the call's own. -/
theorem run_append_any (P : Program) (w : World) (base t ty e : Nat) (i : TypeInfo) (z : Value) (ht : P.underlying t = some (.slice e)) (hi : P.info? e = some i) (hz : i.zero = some z) (hzs : z.cells.size = i.size) (hsz : 0 < i.size)
    (v : Value) (n : Nat) (xs : List Value) (hown : w.ownsRow base e i.size v n xs) (A : Option Addr) (m c : Nat) (hA : A = none → c = 0) (news : List Value) (hl : news.length = m * i.size) (hmc : A = none → m = 0)
    (hnews : ∀ ad, A = some ad → ∀ j u, news[j]? = some u → w.cell? (ad.add j) = some u) (h1 : ∀ u ∈ news, u.oneCell' = true)
    (h63 : n + m ≤ maxLen) (hbytes : (n + m) * i.bytes ≤ 140737488355328) (hbase : base ≤ w.heap.size) :
    ∃ v' w', (Builtin.append_ #[t, t] ty #[v, .slice A m c]).run P w = .ok v' w' ∧ w'.ownsRow base e i.size v' (n + m) (xs ++ news) ∧ w.grownBy w' v.ownBlock ∧ (v'.ownBlock = v.ownBlock ∨ v'.ownBlock = some w.heap.size) := by
  cases A with
  | none =>
    obtain rfl := hA rfl
    obtain rfl := hmc rfl
    have : news = [] := List.eq_nil_of_length_eq_zero (by rw [hl]; simp)
    subst this
    exact ⟨v, w, run_append_owned_none w base t ty e i i.size ht hi v n xs hown, by simpa using hown, grownBy_refl w _, .inl rfl⟩
  | some ad =>
    obtain ⟨v', w', h2, h3, h4, h5, h6⟩ := run_append_own_at w base t ty e i z i.size i.bytes ht hi hz rfl rfl hzs hsz v n xs hown ad m c news hl (hnews ad rfl) h1 h63 hbytes hbase
    exact ⟨v', w', h2, h3, h4, h6⟩

theorem movOb_self (o : Objs) (K : Nat) (x : Ob) : movOb o K K x = newOb o K x := by
  funext k; unfold movOb newOb; by_cases e : k = K <;> simp [e]
/-- A source of cells told one by one. -/
theorem rowsP_src (h : Rel N base w0 X S α a w) {sz : Nat} {q : PV} {ys : List (List PV)} {v : Value} (hq : rowsP S sz q = some ys) (hv : q.rel S.o α w (okOf X.A S.o α) v) :
    ∃ A c, v = .slice A ys.length c ∧ (A = none → c = 0 ∧ ys = []) ∧ (∀ r ∈ ys, r.length = sz) ∧ ∃ vals, PV.rels S.o α w (okOf X.A S.o α) ys.flatten vals ∧ (∀ u ∈ vals, u.oneCell' = true) ∧ ∀ ad, A = some ad → ∀ j u, vals[j]? = some u → w.cell? (ad.add j) = some u := by
  unfold rowsP at hq
  split at hq
  · rename_i K ver n
    split at hq
    · rename_i sz' e xs hob
      split at hq
      · rename_i e; subst e
        simp only [Option.some.injEq] at hq; subst hq
        obtain ⟨hl, hx⟩ := obj_some hob
        simp only [PV.rel] at hv
        have hva := hv.2 hl
        subst hva
        obtain ⟨vals, hown, h1, h2, h3⟩ := h.o K _ hx
        have : ∃ A cp, α K = .slice A xs.length cp ∧ (A = none → cp = 0 ∧ xs = []) ∧ ∀ ad, A = some ad → ∀ j u, vals[j]? = some u → w.cell? (ad.add j) = some u := by
          rcases hown.2 with ⟨e1, e2⟩ | ⟨g, cap, cur, e1, _⟩
          · exact ⟨none, 0, by rw [e1, e2], fun _ => ⟨rfl, List.eq_nil_of_length_eq_zero e2⟩, by simp⟩
          · refine ⟨_, cap, e1, by simp, fun ad e j u hj => ?_⟩
            simp only [Option.some.injEq] at e
            subst e
            exact hown.cells (g := g) (by rw [e1]; rfl) j u hj
        obtain ⟨A, cp, e1, e2, e3⟩ := this
        exact ⟨A, cp, e1, e2, h1, vals, h2, h3, e3⟩
      · cases hq
    · cases hq
  · cases hq
section
variable {te : TI} {e : Nat}
theorem app_max (hE : EnvOk E) (hte : E.ty e = some te) {n : Nat} (hn : n * te.bytes ≤ 140737488355328) : n ≤ maxLen := by
  obtain ⟨_, _, _, _, h3, hb0⟩ := ty_info hE hte
  have := Nat.le_trans (Nat.le_mul_of_pos_right n hb0) hn
  simp only [maxLen]; omega
theorem run_appR (hE : EnvOk E) (h : Rel N base w0 X S α a w) {K t ty : Nat} {d : Nat} (hK : d < N) (ht : E.tk t = some (.slice e)) (hte : E.ty e = some te) {s x : PV} {ys : List (List D)} (hys : rowsV S te.size x = some ys) {c : Prop} {p : PV} {o' : Objs} (hq : appR te S K e s ys = some (c, p, o')) (hc : c) {vs vx : Value} (hs : s.rel S.o α w (okOf X.A S.o α) vs) (hx : x.rel S.o α w (okOf X.A S.o α) vx) :
    ∃ α' v w', (Builtin.append_ #[t, t] ty #[vs, vx]).run E.P w = .ok v w' ∧ Rel N base w0 X { (S.put (some d) p) with o := o' } α' (a.put (some d) v) w' := by
  obtain ⟨_, _, _, _, hsz0, hb0⟩ := ty_info hE hte
  unfold appR at hq
  split at hq
  · split at hq
    · rename_i hpl
      simp only [Option.some.injEq, Prod.mk.injEq] at hq
      obtain ⟨rfl, rfl, rfl⟩ := hq
      obtain ⟨i, z, hi, hsi, hbi, hz, hzc, hzo, hzl⟩ := ty_zero hE hte (by unfold plainTI at hpl; split at hpl <;> simp_all)
      obtain ⟨A, cx, rfl, hA, hrows, vals, hv1, hv2, hv3⟩ := rowsV_src h hys hx
      simp only [PV.rel] at hs
      subst hs
      have hlen : vals.length = ys.length * i.size := by rw [rdVals_length hv1, flat_length hrows, hsi]
      have hzs : z.cells.size = i.size := by rw [← Array.length_toList, hzc, List.length_map, hzl, hsi]
      have hm0 : A = none → ys.length = 0 := fun e => by rw [(hA e).2]; rfl
      obtain ⟨v', w', h2, h3, h4, h5⟩ := run_append_any E.P w base t ty e i z (tk_slice hE ht) hi hz hzs (by omega) (.slice none 0 0) 0 [] (World.ownsRow_nil w base e i.size) A ys.length cx (fun e => (hA e).1) vals hlen hm0 hv3 hv2 (by simpa using app_max hE hte hc) (by simpa [hbi] using hc) h.base
      refine ⟨hup α K v', v', w', h2, h.new (hdr := v') (by simpa using hK) h4 (fun g hg => ?_) (fun hk htn => ?_) (fun hk htn => ?_)⟩
      · rw [own_blk (own_shape h3), hg] at h5
        simp [Value.ownBlock] at h5
        omega
      · refine ⟨vals, by simpa [hsi] using h3, hrows, rdVals_keeps hk _ _ hv1, hv2⟩
      · simp only [rowNew, PV.rel]
        exact ⟨⟨by simpa using own_hdr h3, by simp [newOb]⟩, fun _ => by rw [hup_same]⟩
    · cases hq
  · rename_i sz xs
    split at hq
    · rename_i hcond
      obtain ⟨hpl, rfl⟩ := hcond
      simp only [Option.some.injEq, Prod.mk.injEq] at hq
      obtain ⟨rfl, rfl, rfl⟩ := hq
      obtain ⟨hc1, hc2⟩ := hc
      obtain ⟨i, z, hi, hsi, hbi, hz, hzc, hzo, hzl⟩ := ty_zero hE hte (by unfold plainTI at hpl; split at hpl <;> simp_all)
      obtain ⟨A, cx, rfl, hA, hrows, vals, hv1, hv2, hv3⟩ := rowsV_src h hys hx
      obtain ⟨B, cb, hvs, hB, hrowsS, olds, hs1, hs2, hs3⟩ := rowsV_src (ys := xs) (sz := te.size) h (by simp [rowsV]) hs
      simp only [PV.rel] at hs
      obtain ⟨⟨B', hB'⟩, _⟩ := hs
      rw [hvs] at hB'
      simp only [Value.slice.injEq, true_and] at hB'
      obtain ⟨_, rfl⟩ := hB'
      subst hvs
      have hlen : vals.length = ys.length * te.size := by rw [rdVals_length hv1, flat_length hrows]
      have hlenS : olds.length = xs.length * te.size := by rw [rdVals_length hs1, flat_length hrowsS]
      have hzs : z.cells.size = te.size := by rw [← Array.length_toList, hzc, List.length_map, hzl]
      have hmax := app_max hE hte hc1
      have fin : ∃ v' w', (Builtin.append_ #[t, t] ty #[.slice B xs.length xs.length, .slice A ys.length cx]).run E.P w = .ok v' w' ∧ w'.ownsRow w.heap.size e te.size v' (xs.length + ys.length) (olds ++ vals) ∧ w.grownBy w' none := by
        cases A with
        | none => have := (hA rfl).2; subst this; simp at hc2
        | some ad =>
          cases B with
          | some b => exact run_append_arg_grows w t ty e i z te.size te.bytes (tk_slice hE ht) hi hz hsi hbi hzs hsz0 b xs.length xs.length olds hlenS (hs3 b rfl) ad ys.length cx vals hlen (hv3 ad rfl) (by omega) hmax hc1
          | none =>
            obtain ⟨_, rfl⟩ := hB rfl
            have ho : olds = [] := List.eq_nil_of_length_eq_zero (by rw [hlenS]; simp)
            subst ho
            obtain ⟨v', w', h2, h3, h4, h5, h6⟩ := run_append_own_at w w.heap.size t ty e i z te.size te.bytes (tk_slice hE ht) hi hz hsi hbi hzs hsz0 (.slice none 0 0) 0 [] (World.ownsRow_nil w _ e te.size) ad ys.length cx vals hlen (hv3 ad rfl) hv2 (by simpa using hmax) (by simpa using hc1) (Nat.le_refl _)
            exact ⟨v', w', h2, by simpa using h3, h4⟩
      obtain ⟨v', w', h2, h3, h4⟩ := fin
      have h3' : w'.ownsRow base e te.size v' (xs.length + ys.length) (olds ++ vals) := ⟨h3.1, by
        rcases h3.2 with h5 | ⟨g, cap, cur, e1, hb, rest⟩
        · exact .inl h5
        · exact .inr ⟨g, cap, cur, e1, Nat.le_trans h.base hb, rest⟩⟩
      refine ⟨hup α K v', v', w', h2, h.new (hdr := v') (by simpa using hK) h4 (fun g hg => ?_) (fun hk htn => ?_) (fun hk htn => ?_)⟩
      · obtain ⟨_, _, _, _, hb⟩ := own_head h3 hg
        exact hb
      · refine ⟨olds ++ vals, by rw [List.length_append]; exact h3', fun r hr => ?_, ?_, fun u hu => ?_⟩
        · rcases List.mem_append.1 hr with hr | hr
          · exact hrowsS r hr
          · exact hrows r hr
        · rw [List.flatten_append]
          exact rdVals_append (rdVals_keeps hk _ _ hs1) (rdVals_keeps hk _ _ hv1)
        · rcases List.mem_append.1 hu with hu | hu
          · exact hs2 u hu
          · exact hv2 u hu
      · simp only [rowNew, PV.rel]
        exact ⟨⟨by simpa using own_hdr h3', by simp [newOb]⟩, fun _ => by rw [hup_same]⟩
    · cases hq
  · rename_i K0 v0 n0
    split at hq
    · rename_i sz e' xs hob
      split at hq
      · rename_i hcond
        obtain ⟨hpl, rfl, rfl⟩ := hcond
        simp only [Option.some.injEq, Prod.mk.injEq] at hq
        obtain ⟨rfl, rfl, rfl⟩ := hq
        obtain ⟨i, z, hi, hsi, hbi, hz, hzc, hzo, hzl⟩ := ty_zero hE hte (by unfold plainTI at hpl; split at hpl <;> simp_all)
        obtain ⟨hl0, hx0⟩ := obj_some hob
        simp only [PV.rel] at hs
        have hva := hs.2 hl0
        subst hva
        obtain ⟨A, cx, rfl, hA, hrows, vals, hv1, hv2, hv3⟩ := rowsV_src h hys hx
        obtain ⟨us, hown, hu1, hu2, hu3⟩ := h.o K0 _ hx0
        have hlen : vals.length = ys.length * i.size := by rw [rdVals_length hv1, flat_length hrows, hsi]
        have hzs : z.cells.size = i.size := by rw [← Array.length_toList, hzc, List.length_map, hzl, hsi]
        have hm0 : A = none → ys.length = 0 := fun e => by rw [(hA e).2]; rfl
        obtain ⟨v', w', h2, h3, h4, h5⟩ := run_append_any E.P w base t ty e' i z (tk_slice hE ht) hi hz hzs (by omega) (α K0) xs.length us (by rw [hsi]; exact hown) A ys.length cx (fun e => (hA e).1) vals hlen hm0 hv3 hv2 (by simpa using app_max hE hte hc) (by simpa [hbi] using hc) h.base
        have hbl := own_blk (own_shape hown)
        rw [← movOb_self]
        refine ⟨hup α K0 v', v', w', h2, h.mov (hdr := v') (by simpa using hK) (by rw [← hbl]; exact h4) hx0 (fun g hg => ?_) (fun hk htn => ?_) (fun hk htn => ?_)⟩
        · rw [own_blk (own_shape h3), hg, hbl] at h5
          rcases h5 with h5 | h5
          · exact .inl h5.symm
          · simp at h5; exact .inr (by omega)
        · refine ⟨us ++ vals, by rw [List.length_append]; rw [hsi] at h3; exact h3, fun r hr => ?_, ?_, fun u hu => ?_⟩
          · rcases List.mem_append.1 hr with hr | hr
            · exact hu1 r hr
            · exact hrows r hr
          · rw [List.flatten_append]
            exact rdVals_append (rdVals_keeps hk _ _ hu2) (rdVals_keeps hk _ _ hv1)
          · rcases List.mem_append.1 hu with hu | hu
            · exact hu3 u hu
            · exact hv2 u hu
        · simp only [rowNew, PV.rel]
          exact ⟨⟨own_hdr h3, by simp [movOb]⟩, fun _ => by rw [hup_same]⟩
      · cases hq
    · cases hq
  · cases hq
theorem run_appP (hE : EnvOk E) (h : Rel N base w0 X S α a w) {K t ty : Nat} {d : Nat} (hK : d < N) (ht : E.tk t = some (.slice e)) (hte : E.ty e = some te) {s x : PV} {ys : List (List PV)} (hys : rowsP S te.size x = some ys) {c : Prop} {p : PV} {o' : Objs} (hq : appP te S K e s ys = some (c, p, o')) (hc : c) {vs vx : Value} (hs : s.rel S.o α w (okOf X.A S.o α) vs) (hx : x.rel S.o α w (okOf X.A S.o α) vx) :
    ∃ α' v w', (Builtin.append_ #[t, t] ty #[vs, vx]).run E.P w = .ok v w' ∧ Rel N base w0 X { (S.put (some d) p) with o := o' } α' (a.put (some d) v) w' := by
  obtain ⟨_, _, _, _, hsz0, hb0⟩ := ty_info hE hte
  unfold appP at hq
  split at hq
  · split at hq
    · rename_i hpl
      simp only [Option.some.injEq, Prod.mk.injEq] at hq
      obtain ⟨rfl, rfl, rfl⟩ := hq
      obtain ⟨i, z, hi, hsi, hbi, hz, hzc, hzo, hzl⟩ := ty_zero hE hte (by unfold plainTI at hpl; split at hpl <;> simp_all)
      obtain ⟨A, cx, rfl, hA, hrows, vals, hv1, hv2, hv3⟩ := rowsP_src h hys hx
      simp only [PV.rel] at hs
      subst hs
      have hlen : vals.length = ys.length * i.size := by rw [PV.rels_length hv1, flat_length hrows, hsi]
      have hzs : z.cells.size = i.size := by rw [← Array.length_toList, hzc, List.length_map, hzl, hsi]
      have hm0 : A = none → ys.length = 0 := fun e => by rw [(hA e).2]; rfl
      obtain ⟨v', w', h2, h3, h4, h5⟩ := run_append_any E.P w base t ty e i z (tk_slice hE ht) hi hz hzs (by omega) (.slice none 0 0) 0 [] (World.ownsRow_nil w base e i.size) A ys.length cx (fun e => (hA e).1) vals hlen hm0 hv3 hv2 (by simpa using app_max hE hte hc) (by simpa [hbi] using hc) h.base
      refine ⟨hup α K v', v', w', h2, h.new (hdr := v') (by simpa using hK) h4 (fun g hg => ?_) (fun hk htn => ?_) (fun hk htn => ?_)⟩
      · rw [own_blk (own_shape h3), hg] at h5
        simp [Value.ownBlock] at h5
        omega
      · refine ⟨vals, by simpa [hsi] using h3, hrows, PV.rels_turn hk htn _ _ hv1, hv2⟩
      · simp only [rowNew, PV.rel]
        exact ⟨⟨by simpa using own_hdr h3, by simp [newOb]⟩, fun _ => by rw [hup_same]⟩
    · cases hq
  · rename_i K0 v0 n0
    split at hq
    · rename_i sz e' xs hob
      split at hq
      · rename_i hcond
        obtain ⟨hpl, rfl, rfl⟩ := hcond
        simp only [Option.some.injEq, Prod.mk.injEq] at hq
        obtain ⟨rfl, rfl, rfl⟩ := hq
        obtain ⟨i, z, hi, hsi, hbi, hz, hzc, hzo, hzl⟩ := ty_zero hE hte (by unfold plainTI at hpl; split at hpl <;> simp_all)
        obtain ⟨hl0, hx0⟩ := obj_some hob
        simp only [PV.rel] at hs
        have hva := hs.2 hl0
        subst hva
        obtain ⟨A, cx, rfl, hA, hrows, vals, hv1, hv2, hv3⟩ := rowsP_src h hys hx
        obtain ⟨us, hown, hu1, hu2, hu3⟩ := h.o K0 _ hx0
        have hlen : vals.length = ys.length * i.size := by rw [PV.rels_length hv1, flat_length hrows, hsi]
        have hzs : z.cells.size = i.size := by rw [← Array.length_toList, hzc, List.length_map, hzl, hsi]
        have hm0 : A = none → ys.length = 0 := fun e => by rw [(hA e).2]; rfl
        obtain ⟨v', w', h2, h3, h4, h5⟩ := run_append_any E.P w base t ty e' i z (tk_slice hE ht) hi hz hzs (by omega) (α K0) xs.length us (by rw [hsi]; exact hown) A ys.length cx (fun e => (hA e).1) vals hlen hm0 hv3 hv2 (by simpa using app_max hE hte hc) (by simpa [hbi] using hc) h.base
        have hbl := own_blk (own_shape hown)
        rw [← movOb_self]
        refine ⟨hup α K0 v', v', w', h2, h.mov (hdr := v') (by simpa using hK) (by rw [← hbl]; exact h4) hx0 (fun g hg => ?_) (fun hk htn => ?_) (fun hk htn => ?_)⟩
        · rw [own_blk (own_shape h3), hg, hbl] at h5
          rcases h5 with h5 | h5
          · exact .inl h5.symm
          · simp at h5; exact .inr (by omega)
        · refine ⟨us ++ vals, by rw [List.length_append]; rw [hsi] at h3; exact h3, fun r hr => ?_, ?_, fun u hu => ?_⟩
          · rcases List.mem_append.1 hr with hr | hr
            · exact hu1 r hr
            · exact hrows r hr
          · rw [List.flatten_append]
            exact PV.rels_append (PV.rels_turn hk htn _ _ hu2) (PV.rels_turn hk htn _ _ hv1)
          · rcases List.mem_append.1 hu with hu | hu
            · exact hu3 u hu
            · exact hv2 u hu
        · simp only [rowNew, PV.rel]
          exact ⟨⟨own_hdr h3, by simp [movOb]⟩, fun _ => by rw [hup_same]⟩
      · cases hq
    · cases hq
  · cases hq
end
theorem run_appE (hE : EnvOk E) (h : Rel N base w0 X S α a w) {K t ty : Nat} {d : Nat} (hK : d < N) {s x : PV} {c : Prop} {p : PV} {o' : Objs} (hq : appE E S K t s x = some (c, p, o')) (hc : c) {vs vx : Value} (hs : s.rel S.o α w (okOf X.A S.o α) vs) (hx : x.rel S.o α w (okOf X.A S.o α) vx) :
    ∃ α' v w', (Builtin.append_ #[t, t] ty #[vs, vx]).run E.P w = .ok v w' ∧ Rel N base w0 X { (S.put (some d) p) with o := o' } α' (a.put (some d) v) w' := by
  unfold appE at hq
  split at hq
  · rename_i e ht
    split at hq
    · rename_i te hte
      split at hq
      · rename_i ys hys
        exact run_appR hE h hK ht hte hys hq hc hs hx
      · split at hq
        · rename_i ys hys
          exact run_appP hE h hK ht hte hys hq hc hs hx
        · cases hq
    · cases hq
  · cases hq
end
end Go.Proofs.Ytomnjbebgfadoaa.Pi
end
