/- Data of a pure interpreter for the program's functions: what a value of the machine reads as (D), what a temporary holds (PV), what an object of the call's own holds (Ob), and the relations between these and the machine's world.
   Conditions: none; a text of definitions and of lemmas on them. -/
import Derived.Orders
import Derived.Below
import Derived.Maps.AppendAt
import Derived.Laws.MakeOwn
import Derived.Laws.OwnMore
import Derived.Laws.NewBlocks
import Derived.OwnWalk
import Derived.KernelRfl
set_option linter.unusedVariables false
set_option linter.unusedSimpArgs false
namespace Go.Proofs.Ytomnjbebgfadoaa.Pi
open Go Go.RowKit

/-! ### 1. Data -/
inductive D where
  | int (k : IntKind) (n : Int)
  | bool (b : Bool)
  | str (s : ByteArray)
  | lst (sz : Nat) (xs : List (List D))
  | agg (cs : List D)
  | ptr (cs : List D) (off : Nat)
  | fn (f : Nat) (caps : List D)
  | nil (k : Nat)
/-- The nil values of one cell: of maps, pointers, functions, interfaces. -/
def nilV : Nat → Value
  | 0 => .map none
  | 1 => .pointer none
  | 2 => .nilFunc
  | _ => .nilIface
instance : Inhabited D := ⟨.bool false⟩

mutual
def D.rd (w : World) (ok : Nat → Prop) : D → Value → Prop
  | .int k n, v => v = .int k n
  | .bool b, v => v = .bool b
  | .str s, v => v = .string s ∧ s.size ≤ maxLen
  | .lst sz xs, v => ∃ A c, v = .slice A xs.length c ∧ (xs.length ≤ c ∧ (A = none → c = 0)) ∧ xs.length ≤ maxLen ∧ (xs ≠ [] → ∃ b o, A = some ⟨b, o, none⟩ ∧ rdRows w ok sz b o xs)
  | .agg cs, v => ∃ vs, v = .agg vs ∧ (∀ u ∈ vs.toList, u.oneCell' = true) ∧ rdVals w ok cs vs.toList
  | .ptr cs off, v => ∃ b o, v = .pointer (some ⟨b, o + off, none⟩) ∧ rdCells w ok b o cs
  | .fn f caps, v => ∃ vs, v = .func (.func f) #[] vs ∧ rdVals w ok caps vs.toList
  | .nil k, v => v = nilV k
def rdVals (w : World) (ok : Nat → Prop) : List D → List Value → Prop
  | [], vs => vs = []
  | d :: ds, vs => ∃ v vs', vs = v :: vs' ∧ d.rd w ok v ∧ rdVals w ok ds vs'
def rdCells (w : World) (ok : Nat → Prop) (b : Nat) : Nat → List D → Prop
  | _, [] => True
  | o, d :: ds => (ok b ∧ ∃ u, w.cell? ⟨b, o, none⟩ = some u ∧ u.oneCell' = true ∧ d.rd w ok u) ∧ rdCells w ok b (o + 1) ds
def rdRows (w : World) (ok : Nat → Prop) (sz : Nat) (b : Nat) : Nat → List (List D) → Prop
  | _, [] => True
  | o, r :: rs => (r.length = sz ∧ rdCells w ok b o r) ∧ rdRows w ok sz b (o + sz) rs
end

/-- The blocks that are read stand as they stood. -/
def Keeps (w : World) (ok : Nat → Prop) (w' : World) (ok' : Nat → Prop) : Prop := ∀ b, b < w.heap.size → ok b → ok' b ∧ w'.heap[b]? = w.heap[b]?

theorem Keeps.cell {w w' : World} {ok ok' : Nat → Prop} (h : Keeps w ok w' ok') {b o : Nat} {u : Value} (hb : ok b) (hc : w.cell? ⟨b, o, none⟩ = some u) : ok' b ∧ w'.cell? ⟨b, o, none⟩ = some u := by
  have hlt := World.block_lt_of_cell? w _ hc
  obtain ⟨h1, h2⟩ := h b hlt hb
  exact ⟨h1, (World.cell?_of_block (w := w) (w' := w') (a := ⟨b, o, none⟩) h2).trans hc⟩

mutual
theorem D.rd_keeps {w w' : World} {ok ok' : Nat → Prop} (h : Keeps w ok w' ok') : ∀ (d : D) (v : Value), d.rd w ok v → d.rd w' ok' v
  | .int k n, v, hd => by simpa only [D.rd] using hd
  | .bool b, v, hd => by simpa only [D.rd] using hd
  | .str s, v, hd => by simpa only [D.rd] using hd
  | .lst sz xs, v, hd => by
    simp only [D.rd] at hd ⊢
    obtain ⟨A, c, hv, h1, h2, h3⟩ := hd
    refine ⟨A, c, hv, h1, h2, fun hx => ?_⟩
    obtain ⟨b, o, hA, hr⟩ := h3 hx
    exact ⟨b, o, hA, rdRows_keeps h sz b o xs hr⟩
  | .agg cs, v, hd => by
    simp only [D.rd] at hd ⊢
    obtain ⟨vs, hv, h1, hr⟩ := hd
    exact ⟨vs, hv, h1, rdVals_keeps h cs _ hr⟩
  | .ptr cs off, v, hd => by
    simp only [D.rd] at hd ⊢
    obtain ⟨b, o, hv, hr⟩ := hd
    exact ⟨b, o, hv, rdCells_keeps h b o cs hr⟩
  | .fn f caps, v, hd => by
    simp only [D.rd] at hd ⊢
    obtain ⟨vs, hv, hr⟩ := hd
    exact ⟨vs, hv, rdVals_keeps h caps _ hr⟩
  | .nil k, v, hd => by simpa only [D.rd] using hd
theorem rdVals_keeps {w w' : World} {ok ok' : Nat → Prop} (h : Keeps w ok w' ok') : ∀ (ds : List D) (vs : List Value), rdVals w ok ds vs → rdVals w' ok' ds vs
  | [], vs, hd => by simpa only [rdVals] using hd
  | d :: ds, vs, hd => by
    simp only [rdVals] at hd ⊢
    obtain ⟨v, vs', e, h1, h2⟩ := hd
    exact ⟨v, vs', e, d.rd_keeps h v h1, rdVals_keeps h ds vs' h2⟩
theorem rdCells_keeps {w w' : World} {ok ok' : Nat → Prop} (h : Keeps w ok w' ok') (b : Nat) : ∀ (o : Nat) (ds : List D), rdCells w ok b o ds → rdCells w' ok' b o ds
  | o, [], hd => by simp only [rdCells]
  | o, d :: ds, hd => by
    simp only [rdCells] at hd ⊢
    obtain ⟨⟨hb, u, hc, h1, hr⟩, hs⟩ := hd
    exact ⟨⟨(h.cell hb hc).1, u, (h.cell hb hc).2, h1, d.rd_keeps h u hr⟩, rdCells_keeps h b (o + 1) ds hs⟩
theorem rdRows_keeps {w w' : World} {ok ok' : Nat → Prop} (h : Keeps w ok w' ok') (sz b : Nat) : ∀ (o : Nat) (rs : List (List D)), rdRows w ok sz b o rs → rdRows w' ok' sz b o rs
  | o, [], hd => by simp only [rdRows]
  | o, r :: rs, hd => by
    simp only [rdRows] at hd ⊢
    obtain ⟨⟨hl, hc⟩, hs⟩ := hd
    exact ⟨⟨hl, rdCells_keeps h b o r hc⟩, rdRows_keeps h sz b (o + sz) rs hs⟩
end

theorem rdVals_length {w : World} {ok : Nat → Prop} : ∀ {ds : List D} {vs : List Value}, rdVals w ok ds vs → vs.length = ds.length
  | [], vs, h => by simp only [rdVals] at h; simp [h]
  | d :: ds, vs, h => by
    simp only [rdVals] at h
    obtain ⟨v, vs', rfl, _, h2⟩ := h
    simp [rdVals_length h2]

theorem rdVals_get {w : World} {ok : Nat → Prop} : ∀ {ds : List D} {vs : List Value}, rdVals w ok ds vs → ∀ (i : Nat) (d : D), ds[i]? = some d → ∃ v, vs[i]? = some v ∧ d.rd w ok v
  | [], vs, h, i, d, hd => by simp at hd
  | x :: ds, vs, h, i, d, hd => by
    simp only [rdVals] at h
    obtain ⟨v, vs', rfl, h1, h2⟩ := h
    cases i with
    | zero => simp at hd; subst hd; exact ⟨v, by simp, h1⟩
    | succ i => simpa using rdVals_get h2 i d (by simpa using hd)

theorem rdVals_append {w : World} {ok : Nat → Prop} : ∀ {ds es : List D} {vs us : List Value}, rdVals w ok ds vs → rdVals w ok es us → rdVals w ok (ds ++ es) (vs ++ us)
  | [], es, vs, us, h, h' => by simp only [rdVals] at h; subst h; simpa using h'
  | d :: ds, es, vs, us, h, h' => by
    simp only [rdVals] at h
    obtain ⟨v, vs', rfl, h1, h2⟩ := h
    simp only [List.cons_append, rdVals]
    exact ⟨v, vs' ++ us, rfl, h1, rdVals_append h2 h'⟩

theorem rdVals_split {w : World} {ok : Nat → Prop} : ∀ {ds es : List D} {vs : List Value}, rdVals w ok (ds ++ es) vs → rdVals w ok ds (vs.take ds.length) ∧ rdVals w ok es (vs.drop ds.length)
  | [], es, vs, h => by simpa [rdVals] using h
  | d :: ds, es, vs, h => by
    simp only [List.cons_append, rdVals] at h
    obtain ⟨v, vs', rfl, h1, h2⟩ := h
    have := rdVals_split h2
    simp only [List.length_cons, List.take_succ_cons, List.drop_succ_cons, rdVals]
    exact ⟨⟨v, _, rfl, h1, this.1⟩, this.2⟩

theorem rdVals_set {w : World} {ok : Nat → Prop} : ∀ {ds : List D} {vs : List Value}, rdVals w ok ds vs → ∀ (i : Nat) {d : D} {v : Value}, d.rd w ok v → rdVals w ok (ds.set i d) (vs.set i v)
  | [], vs, h, i, d, v, hd => by simp only [rdVals] at h; subst h; simp [rdVals]
  | x :: ds, vs, h, i, d, v, hd => by
    simp only [rdVals] at h
    obtain ⟨u, vs', rfl, h1, h2⟩ := h
    cases i with
    | zero => simp only [List.set_cons_zero, rdVals]; exact ⟨v, vs', rfl, hd, h2⟩
    | succ i => simp only [List.set_cons_succ, rdVals]; exact ⟨u, _, rfl, h1, rdVals_set h2 i hd⟩

theorem rdCells_get {w : World} {ok : Nat → Prop} {b : Nat} : ∀ {o : Nat} {ds : List D}, rdCells w ok b o ds → ∀ (i : Nat) (d : D), ds[i]? = some d → ok b ∧ ∃ u, w.cell? ⟨b, o + i, none⟩ = some u ∧ u.oneCell' = true ∧ d.rd w ok u
  | o, [], h, i, d, hd => by simp at hd
  | o, x :: ds, h, i, d, hd => by
    simp only [rdCells] at h
    cases i with
    | zero => simp at hd; subst hd; exact h.1
    | succ i =>
      have := rdCells_get h.2 i d (by simpa using hd)
      rwa [show o + 1 + i = o + (i + 1) by omega] at this

theorem rdCells_mk {w : World} {ok : Nat → Prop} {b : Nat} : ∀ {o : Nat} {ds : List D}, (∀ (i : Nat) (d : D), ds[i]? = some d → ok b ∧ ∃ u, w.cell? ⟨b, o + i, none⟩ = some u ∧ u.oneCell' = true ∧ d.rd w ok u) → rdCells w ok b o ds
  | o, [], h => by simp only [rdCells]
  | o, x :: ds, h => by
    simp only [rdCells]
    refine ⟨by simpa using h 0 x (by simp), rdCells_mk fun i d hd => ?_⟩
    have := h (i + 1) d (by simpa using hd)
    rwa [show o + (i + 1) = o + 1 + i by omega] at this

theorem rdRows_get {w : World} {ok : Nat → Prop} {sz b : Nat} : ∀ {o : Nat} {rs : List (List D)}, rdRows w ok sz b o rs → ∀ (i : Nat) (r : List D), rs[i]? = some r → r.length = sz ∧ rdCells w ok b (o + i * sz) r
  | o, [], h, i, d, hd => by simp at hd
  | o, x :: rs, h, i, r, hd => by
    simp only [rdRows] at h
    cases i with
    | zero => simp at hd; subst hd; simpa using h.1
    | succ i =>
      have := rdRows_get h.2 i r (by simpa using hd)
      rwa [show o + sz + i * sz = o + (i + 1) * sz by rw [Nat.add_mul]; omega] at this

theorem rdRows_mk {w : World} {ok : Nat → Prop} {sz b : Nat} : ∀ {o : Nat} {rs : List (List D)}, (∀ (i : Nat) (r : List D), rs[i]? = some r → r.length = sz ∧ rdCells w ok b (o + i * sz) r) → rdRows w ok sz b o rs
  | o, [], h => by simp only [rdRows]
  | o, x :: rs, h => by
    simp only [rdRows]
    refine ⟨by simpa using h 0 x (by simp), rdRows_mk fun i r hr => ?_⟩
    have := h (i + 1) r (by simpa using hr)
    rwa [show o + (i + 1) * sz = o + sz + i * sz by rw [Nat.add_mul]; omega] at this

/-- All cells of rows of one size, one after the other. -/
theorem flat_length {α : Type} {sz : Nat} : ∀ {rs : List (List α)}, (∀ r ∈ rs, r.length = sz) → rs.flatten.length = rs.length * sz
  | [], _ => by simp
  | r :: rs, h => by
    simp only [List.flatten_cons, List.length_append, List.length_cons]
    rw [h r (by simp), flat_length (fun x hx => h x (by simp [hx])), Nat.add_mul]
    omega

theorem flat_get {α : Type} {sz : Nat} : ∀ {rs : List (List α)}, (∀ r ∈ rs, r.length = sz) → ∀ (i j : Nat) (r : List α) (x : α), rs[i]? = some r → r[j]? = some x → rs.flatten[i * sz + j]? = some x
  | [], _, i, j, r, x, hi, hj => by simp at hi
  | r0 :: rs, h, i, j, r, x, hi, hj => by
    have h0 := h r0 (by simp)
    simp only [List.flatten_cons]
    cases i with
    | zero =>
      simp at hi; subst hi
      have hlt : j < r0.length := (List.getElem?_eq_some_iff.1 hj).1
      rw [List.getElem?_append_left (by omega)]
      simpa using hj
    | succ i =>
      have := flat_get (rs := rs) (fun y hy => h y (List.mem_cons_of_mem _ hy)) i j r x (by simpa using hi) hj
      rw [List.getElem?_append_right (by rw [h0, Nat.add_mul]; omega), h0]
      rwa [show (i + 1) * sz + j - sz = i * sz + j by rw [Nat.add_mul]; omega]

end Go.Proofs.Ytomnjbebgfadoaa.Pi
