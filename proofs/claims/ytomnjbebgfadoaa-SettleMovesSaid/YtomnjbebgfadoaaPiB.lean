/- The states of the pure interpreter, and what it means that a state of the machine is told by one.
   Conditions: none; a text of definitions and of lemmas on them. -/
import Derived.Test.YtomnjbebgfadoaaPiA
set_option linter.unusedVariables false
set_option linter.unusedSimpArgs false
namespace Go.Proofs.Ytomnjbebgfadoaa.Pi
open Go Go.RowKit

/-! ### 2. Values of temporaries; objects of the call's own; states -/
inductive PV where
  | un
  | d (x : D)
  | nils
  | ref (K ver sz i off : Nat)
  | row (K ver n : Nat)
  | map (K ver : Nat)
  | fn (f : Nat) (caps : List PV)
  | agg (cs : List PV)
  | tup (vs : List PV)
  | opt (b : Bool) (x : PV)
  | clip (sz : Nat) (xs : List (List D))
instance : Inhabited PV := ⟨.un⟩

/-- Objects: a slice whose cells are data; a variable; a slice whose cells are told one by one; a map (the entries' stamps, keys and values). -/
inductive Ob where
  | row (sz e : Nat) (xs : List (List D))
  | box (e : Nat) (cs : List PV)
  | vec (sz e : Nat) (xs : List (List PV))
  | map (kt e clock : Nat) (es : List (Nat × D × PV))

structure St where
  t : Nat → PV
  o : Nat → Nat × Option Ob

def hblk : Value → Option Nat
  | .slice (some a) _ _ => some a.block
  | .pointer (some a) => some a.block
  | .map (some b) => some b
  | _ => none

def live (o : Nat → Nat × Option Ob) (K ver : Nat) : Prop := (o K).1 = ver ∧ (o K).2 ≠ none

mutual
def PV.rel (o : Nat → Nat × Option Ob) (α : Nat → Value) (w : World) (ok : Nat → Prop) : PV → Value → Prop
  | .un, _ => True
  | .d x, v => x.rd w ok v
  | .nils, v => v = .slice none 0 0
  | .ref K ver sz i off, v => ((∃ g, v = .pointer (some ⟨g, i * sz + off, none⟩)) ∧ ver ≤ (o K).1) ∧ (live o K ver → ∃ g, hblk (α K) = some g ∧ v = .pointer (some ⟨g, i * sz + off, none⟩))
  | .row K ver n, v => ((∃ A c, v = .slice A n c ∧ n ≤ maxLen ∧ (0 < n → ∃ g, A = some ⟨g, 0, none⟩)) ∧ ver ≤ (o K).1) ∧ (live o K ver → v = α K)
  | .map K ver, v => (v.oneCell' = true ∧ ver ≤ (o K).1) ∧ (live o K ver → v = α K)
  | .fn f caps, v => ∃ vs, v = .func (.func f) #[] vs ∧ PV.rels o α w ok caps vs.toList
  | .agg cs, v => ∃ vs, v = .agg vs ∧ (∀ u ∈ vs.toList, u.oneCell' = true) ∧ PV.rels o α w ok cs vs.toList
  | .tup xs, v => ∃ vs, v = .tuple vs ∧ PV.rels o α w ok xs vs.toList
  | .opt b x, v => (b = true → x.rel o α w ok v) ∧ (b = false → v = undef)
  | .clip sz xs, v => (∃ A, v = .slice A xs.length xs.length) ∧ (D.lst sz xs).rd w ok v
def PV.rels (o : Nat → Nat × Option Ob) (α : Nat → Value) (w : World) (ok : Nat → Prop) : List PV → List Value → Prop
  | [], vs => vs = []
  | x :: xs, vs => ∃ v vs', vs = v :: vs' ∧ x.rel o α w ok v ∧ PV.rels o α w ok xs vs'
end

/-- The entries of a map. -/
def relME (o : Nat → Nat × Option Ob) (α : Nat → Value) (w : World) (ok : Nat → Prop) : List (Nat × D × PV) → List MapEntry → Prop
  | [], l => l = []
  | x :: es, l => ∃ m l', l = m :: l' ∧ (m.born = x.1 ∧ x.2.1.rd w ok m.key ∧ x.2.2.rel o α w ok m.val) ∧ relME o α w ok es l'
def Ob.rel (o : Nat → Nat × Option Ob) (α : Nat → Value) (w : World) (ok : Nat → Prop) (base : Nat) (hdr : Value) : Ob → Prop
  | .row sz e xs => ∃ vals, w.ownsRow base e sz hdr xs.length vals ∧ (∀ r ∈ xs, r.length = sz) ∧ rdVals w ok xs.flatten vals ∧ (∀ u ∈ vals, u.oneCell' = true)
  | .box e cs => ∃ g vals, hdr = .pointer (some ⟨g, 0, none⟩) ∧ base ≤ g ∧ w.heap[g]? = some (.cells vals e (0, 0)) ∧ PV.rels o α w ok cs vals.toList ∧ (∀ u ∈ vals.toList, u.oneCell' = true)
  | .vec sz e xs => ∃ vals, w.ownsRow base e sz hdr xs.length vals ∧ (∀ r ∈ xs, r.length = sz) ∧ PV.rels o α w ok xs.flatten vals ∧ (∀ u ∈ vals, u.oneCell' = true)
  | .map kt e clock es => ∃ g ents, hdr = .map (some g) ∧ base ≤ g ∧ w.heap[g]? = some (.map ents clock) ∧ relME o α w ok es ents.toList

/-- The blocks that no object of the call's own lies in. -/
def okOf (A : Nat → Prop) (o : Nat → Nat × Option Ob) (α : Nat → Value) : Nat → Prop := fun b => A b ∧ ∀ K, (o K).2 ≠ none → hblk (α K) ≠ some b
/-- What a frame keeps: values that are told along, and the blocks that may be read as data. -/
structure Fr where
  x : PV → Value → Prop
  A : Nat → Prop


structure Rel (N base : Nat) (w0 : World) (X : Fr) (S : St) (α : Nat → Value) (a : Act) (w : World) : Prop where
  defers : a.defers = []
  size : N ≤ a.tmps.size
  t : ∀ k, (S.t k).rel S.o α w (okOf X.A S.o α) (a.tmps.getD k undef)
  o : ∀ K x, (S.o K).2 = some x → x.rel S.o α w (okOf X.A S.o α) base (α K)
  inj : ∀ K K', K ≠ K' → (S.o K).2 ≠ none → (S.o K').2 ≠ none → ∀ g, hblk (α K) = some g → hblk (α K') ≠ some g
  below : Below base w0 w
  free : ∀ b, base ≤ b → X.A b
  base : base ≤ w.heap.size
  x : ∀ p v, X.x p v → p.rel S.o α w (okOf X.A S.o α) v

/-- What is told but a frame's temporaries. -/
structure RelO (base : Nat) (w0 : World) (X : Fr) (o : Nat → Nat × Option Ob) (α : Nat → Value) (w : World) : Prop where
  obs : ∀ K x, (o K).2 = some x → x.rel o α w (okOf X.A o α) base (α K)
  inj : ∀ K K', K ≠ K' → (o K).2 ≠ none → (o K').2 ≠ none → ∀ g, hblk (α K) = some g → hblk (α K') ≠ some g
  below : Below base w0 w
  free : ∀ b, base ≤ b → X.A b
  base : base ≤ w.heap.size
  x : ∀ p v, X.x p v → p.rel o α w (okOf X.A o α) v
theorem Rel.toO {N base : Nat} {w0 : World} {X : Fr} {S : St} {α : Nat → Value} {a : Act} {w : World} (h : Rel N base w0 X S α a w) : RelO base w0 X S.o α w := ⟨h.o, h.inj, h.below, h.free, h.base, h.x⟩

/-- What refers to an object goes on doing so, or is no longer looked at. -/
def Turns (o : Nat → Nat × Option Ob) (α : Nat → Value) (o' : Nat → Nat × Option Ob) (α' : Nat → Value) : Prop :=
  ∀ K ver, ver ≤ (o K).1 → ver ≤ (o' K).1 ∧ (live o' K ver → live o K ver ∧ α' K = α K)

theorem Turns.refl (o : Nat → Nat × Option Ob) (α : Nat → Value) : Turns o α o α := fun K ver h => ⟨h, fun h' => ⟨h', rfl⟩⟩
theorem Keeps.refl (w : World) (ok : Nat → Prop) : Keeps w ok w ok := fun b _ h => ⟨h, rfl⟩

section
variable {o o' : Nat → Nat × Option Ob} {α α' : Nat → Value} {w w' : World} {ok ok' : Nat → Prop}
mutual
theorem PV.rel_turn (hk : Keeps w ok w' ok') (ht : Turns o α o' α') : ∀ (p : PV) (v : Value), p.rel o α w ok v → p.rel o' α' w' ok' v
  | .un, v, h => by simp only [PV.rel]
  | .d x, v, h => by simp only [PV.rel] at h ⊢; exact x.rd_keeps hk v h
  | .nils, v, h => by simpa only [PV.rel] using h
  | .ref K ver sz i off, v, h => by
    simp only [PV.rel] at h ⊢
    obtain ⟨h1, h2⟩ := ht K ver h.1.2
    refine ⟨⟨h.1.1, h1⟩, fun hl => ?_⟩
    obtain ⟨h3, h4⟩ := h2 hl
    rw [h4]
    exact h.2 h3
  | .row K ver n, v, h => by
    simp only [PV.rel] at h ⊢
    obtain ⟨h1, h2⟩ := ht K ver h.1.2
    refine ⟨⟨h.1.1, h1⟩, fun hl => ?_⟩
    obtain ⟨h3, h4⟩ := h2 hl
    rw [h4]
    exact h.2 h3
  | .map K ver, v, h => by
    simp only [PV.rel] at h ⊢
    obtain ⟨h1, h2⟩ := ht K ver h.1.2
    refine ⟨⟨h.1.1, h1⟩, fun hl => ?_⟩
    obtain ⟨h3, h4⟩ := h2 hl
    rw [h4]
    exact h.2 h3
  | .fn f caps, v, h => by
    simp only [PV.rel] at h ⊢
    obtain ⟨vs, e, hr⟩ := h
    exact ⟨vs, e, PV.rels_turn hk ht caps _ hr⟩
  | .agg cs, v, h => by
    simp only [PV.rel] at h ⊢
    obtain ⟨vs, e, h1, hr⟩ := h
    exact ⟨vs, e, h1, PV.rels_turn hk ht cs _ hr⟩
  | .tup cs, v, h => by
    simp only [PV.rel] at h ⊢
    obtain ⟨vs, e, hr⟩ := h
    exact ⟨vs, e, PV.rels_turn hk ht cs _ hr⟩
  | .opt b x, v, h => by
    simp only [PV.rel] at h ⊢
    exact ⟨fun hb => x.rel_turn hk ht v (h.1 hb), h.2⟩
  | .clip sz xs, v, h => by
    simp only [PV.rel] at h ⊢
    exact ⟨h.1, (D.lst sz xs).rd_keeps hk v h.2⟩
theorem PV.rels_turn (hk : Keeps w ok w' ok') (ht : Turns o α o' α') : ∀ (ps : List PV) (vs : List Value), PV.rels o α w ok ps vs → PV.rels o' α' w' ok' ps vs
  | [], vs, h => by simpa only [PV.rels] using h
  | p :: ps, vs, h => by
    simp only [PV.rels] at h ⊢
    obtain ⟨v, vs', e, h1, h2⟩ := h
    exact ⟨v, vs', e, p.rel_turn hk ht v h1, PV.rels_turn hk ht ps vs' h2⟩
end

theorem PV.rels_length : ∀ {ps : List PV} {vs : List Value}, PV.rels o α w ok ps vs → vs.length = ps.length
  | [], vs, h => by simp only [PV.rels] at h; simp [h]
  | p :: ps, vs, h => by
    simp only [PV.rels] at h
    obtain ⟨v, vs', rfl, _, h2⟩ := h
    simp [PV.rels_length h2]
theorem PV.rels_get : ∀ {ps : List PV} {vs : List Value}, PV.rels o α w ok ps vs → ∀ (i : Nat) (p : PV), ps[i]? = some p → ∃ v, vs[i]? = some v ∧ p.rel o α w ok v
  | [], vs, h, i, p, hp => by simp at hp
  | x :: ps, vs, h, i, p, hp => by
    simp only [PV.rels] at h
    obtain ⟨v, vs', rfl, h1, h2⟩ := h
    cases i with
    | zero => simp at hp; subst hp; exact ⟨v, by simp, h1⟩
    | succ i => simpa using PV.rels_get h2 i p (by simpa using hp)
theorem PV.rels_set : ∀ {ps : List PV} {vs : List Value}, PV.rels o α w ok ps vs → ∀ (i : Nat) {p : PV} {v : Value}, p.rel o α w ok v → PV.rels o α w ok (ps.set i p) (vs.set i v)
  | [], vs, h, i, p, v, hp => by simp only [PV.rels] at h; subst h; simp [PV.rels]
  | x :: ps, vs, h, i, p, v, hp => by
    simp only [PV.rels] at h
    obtain ⟨u, vs', rfl, h1, h2⟩ := h
    cases i with
    | zero => simp only [List.set_cons_zero, PV.rels]; exact ⟨v, vs', rfl, hp, h2⟩
    | succ i => simp only [List.set_cons_succ, PV.rels]; exact ⟨u, _, rfl, h1, PV.rels_set h2 i hp⟩
theorem PV.rels_append : ∀ {ps qs : List PV} {vs us : List Value}, PV.rels o α w ok ps vs → PV.rels o α w ok qs us → PV.rels o α w ok (ps ++ qs) (vs ++ us)
  | [], qs, vs, us, h, h' => by simp only [PV.rels] at h; subst h; simpa using h'
  | q :: ds, qs, vs, us, h, h' => by
    simp only [PV.rels] at h
    obtain ⟨v, vs', rfl, h1, h2⟩ := h
    simp only [List.cons_append, PV.rels]
    exact ⟨v, vs' ++ us, rfl, h1, PV.rels_append h2 h'⟩
theorem PV.rels_take : ∀ {ps : List PV} {vs : List Value}, PV.rels o α w ok ps vs → ∀ n, PV.rels o α w ok (ps.take n) (vs.take n)
  | [], vs, h, n => by simp only [PV.rels] at h; subst h; simp [PV.rels]
  | x :: ps, vs, h, n => by
    simp only [PV.rels] at h
    obtain ⟨u, vs', rfl, h1, h2⟩ := h
    cases n with
    | zero => simp [PV.rels]
    | succ n => simp only [List.take_succ_cons, PV.rels]; exact ⟨u, _, rfl, h1, PV.rels_take h2 n⟩
theorem PV.rels_drop : ∀ {ps : List PV} {vs : List Value}, PV.rels o α w ok ps vs → ∀ n, PV.rels o α w ok (ps.drop n) (vs.drop n)
  | [], vs, h, n => by simp only [PV.rels] at h; subst h; simp [PV.rels]
  | x :: ps, vs, h, n => by
    simp only [PV.rels] at h
    obtain ⟨u, vs', rfl, h1, h2⟩ := h
    cases n with
    | zero => simp only [List.drop_zero, PV.rels]; exact ⟨u, vs', rfl, h1, h2⟩
    | succ n => simpa only [List.drop_succ_cons] using PV.rels_drop h2 n
theorem PV.rels_d : ∀ {ds : List D} {vs : List Value}, rdVals w ok ds vs → PV.rels o α w ok (ds.map PV.d) vs
  | [], vs, h => by simpa only [rdVals, List.map_nil, PV.rels] using h
  | q :: ds, vs, h => by
    simp only [rdVals] at h
    obtain ⟨v, vs', e, h1, h2⟩ := h
    simp only [List.map_cons, PV.rels, PV.rel]
    exact ⟨v, vs', e, h1, PV.rels_d h2⟩

theorem relME_turn (hk : Keeps w ok w' ok') (ht : Turns o α o' α') : ∀ (es : List (Nat × D × PV)) (l : List MapEntry), relME o α w ok es l → relME o' α' w' ok' es l
  | [], l, h => by simpa only [relME] using h
  | x :: es, l, h => by
    simp only [relME] at h ⊢
    obtain ⟨m, l', e, ⟨h1, h2, h3⟩, h4⟩ := h
    exact ⟨m, l', e, ⟨h1, x.2.1.rd_keeps hk _ h2, x.2.2.rel_turn hk ht _ h3⟩, relME_turn hk ht es l' h4⟩
theorem rowHdr_lt {base e sz n : Nat} {hdr : Value} {vals : List Value} (hown : w.ownsRow base e sz hdr n vals) : ∀ g, hblk hdr = some g → base ≤ g ∧ g < w.heap.size := by
  intro g hg
  refine hown.lt g ?_
  rcases hown.2 with ⟨rfl, _⟩ | ⟨g', cap, cur, rfl, _⟩
  · simp [hblk] at hg
  · simpa [hblk, Value.ownBlock] using hg
theorem Ob.rel_lt {base : Nat} {hdr : Value} : ∀ {x : Ob}, x.rel o α w ok base hdr → ∀ g, hblk hdr = some g → base ≤ g ∧ g < w.heap.size
  | .row sz e xs, h, g, hg => by
    obtain ⟨vals, hown, _⟩ := h
    exact rowHdr_lt hown g hg
  | .box e cs, h, g, hg => by
    obtain ⟨g', vals, rfl, hb, hh, _⟩ := h
    simp [hblk] at hg
    subst hg
    exact ⟨hb, (Array.getElem?_eq_some_iff.1 hh).1⟩
  | .vec sz e xs, h, g, hg => by
    obtain ⟨vals, hown, _⟩ := h
    exact rowHdr_lt hown g hg
  | .map kt e clock es, h, g, hg => by
    obtain ⟨g', ents, rfl, hb, hh, _⟩ := h
    simp [hblk] at hg
    subst hg
    exact ⟨hb, (Array.getElem?_eq_some_iff.1 hh).1⟩

/-- An object whose block stands as it stood. -/
theorem Ob.rel_turn (hk : Keeps w ok w' ok') (ht : Turns o α o' α') {base : Nat} {hdr : Value} (hb : ∀ g, hblk hdr = some g → w'.heap[g]? = w.heap[g]?) : ∀ {x : Ob}, x.rel o α w ok base hdr → x.rel o' α' w' ok' base hdr
  | .row sz e xs, h => by
    obtain ⟨vals, hown, h1, h2, h3⟩ := h
    refine ⟨vals, ⟨hown.1, ?_⟩, h1, rdVals_keeps hk _ _ h2, h3⟩
    rcases hown.2 with hn | ⟨g, cap, cur, rfl, hbg, hh, rest⟩
    · exact .inl hn
    · exact .inr ⟨g, cap, cur, rfl, hbg, (hb g rfl).trans hh, rest⟩
  | .box e cs, h => by
    obtain ⟨g, vals, rfl, hbg, hh, hr, h1⟩ := h
    exact ⟨g, vals, rfl, hbg, (hb g rfl).trans hh, PV.rels_turn hk ht _ _ hr, h1⟩
  | .vec sz e xs, h => by
    obtain ⟨vals, hown, h1, h2, h3⟩ := h
    refine ⟨vals, ⟨hown.1, ?_⟩, h1, PV.rels_turn hk ht _ _ h2, h3⟩
    rcases hown.2 with hn | ⟨g, cap, cur, rfl, hbg, hh, rest⟩
    · exact .inl hn
    · exact .inr ⟨g, cap, cur, rfl, hbg, (hb g rfl).trans hh, rest⟩
  | .map kt e clock es, h => by
    obtain ⟨g, ents, rfl, hbg, hh, hr⟩ := h
    exact ⟨g, ents, rfl, hbg, (hb g rfl).trans hh, relME_turn hk ht _ _ hr⟩
end

def St.put (S : St) (dst : Option Nat) (p : PV) : St := match dst with
  | some d => { S with t := fun k => if k = d then p else S.t k }
  | none => S
theorem St.put_o (S : St) (dst : Option Nat) (p : PV) : (S.put dst p).o = S.o := by cases dst <;> rfl

theorem getD_put (a : Act) (d k : Nat) (v : Value) (hd : d < a.tmps.size) : (a.put (some d) v).tmps.getD k undef = if k = d then v else a.tmps.getD k undef := by
  simp only [Act.put, Array.getD_eq_getD_getElem?, Array.getElem?_setIfInBounds]
  by_cases h : d = k
  · subst h; simp [hd]
  · simp [h, Ne.symm h]

/-- The one lemma on a step: the objects of Nw are new, or turned; other objects stand. -/
theorem Rel.updS {N base : Nat} {w0 : World} {X : Fr} {S : St} {α : Nat → Value} {a : Act} {w : World} (h : Rel N base w0 X S α a w) {o' : Nat → Nat × Option Ob} {α' : Nat → Value} {w' : World} {row : Option Nat} {dst : Option Nat} {p : PV} {v : Value} (Nw : Nat → Prop)
    (hdst : ∀ d, dst = some d → d < N) (hg : w.grownBy w' row) (hrow : ∀ g, row = some g → ∃ K, (S.o K).2 ≠ none ∧ hblk (α K) = some g)
    (hver : ∀ K, (S.o K).1 ≤ (o' K).1)
    (hold : ∀ K, ¬ Nw K → (o' K).2 ≠ none → o' K = S.o K ∧ α' K = α K ∧ ∀ g, hblk (α K) = some g → row ≠ some g)
    (hK1 : ∀ K, Nw K → (o' K).2 ≠ none → ((S.o K).1 < (o' K).1 ∨ ((S.o K).1 = (o' K).1 ∧ (S.o K).2 ≠ none ∧ α' K = α K)) ∧ ∀ g, hblk (α' K) = some g → row = some g ∨ w.heap.size ≤ g)
    (hinj : ∀ K K', Nw K → Nw K' → K ≠ K' → (o' K).2 ≠ none → (o' K').2 ≠ none → ∀ g, hblk (α' K) = some g → hblk (α' K') ≠ some g)
    (hnew : Keeps w (okOf X.A S.o α) w' (okOf X.A o' α') → Turns S.o α o' α' → ∀ K x, Nw K → (o' K).2 = some x → x.rel o' α' w' (okOf X.A o' α') base (α' K))
    (hp : Keeps w (okOf X.A S.o α) w' (okOf X.A o' α') → Turns S.o α o' α' → p.rel o' α' w' (okOf X.A o' α') v) :
    Rel N base w0 X { (S.put dst p) with o := o' } α' (a.put dst v) w' := by
  have hlt : ∀ K, (S.o K).2 ≠ none → ∀ g, hblk (α K) = some g → base ≤ g ∧ g < w.heap.size := by
    intro K hK g hgK
    cases hx : (S.o K).2 with
    | none => exact absurd hx hK
    | some x => exact Ob.rel_lt (h.o K x hx) g hgK
  have hk : Keeps w (okOf X.A S.o α) w' (okOf X.A o' α') := by
    intro b hb hok
    have hne : row ≠ some b := fun e => by
      obtain ⟨K, hK, hgK⟩ := hrow b e
      exact hok.2 K hK hgK
    refine ⟨⟨hok.1, fun K hK hgK => ?_⟩, hg.block b hb (fun e => hne e.symm)⟩
    by_cases hKK : Nw K
    · rcases (hK1 K hKK hK).2 b hgK with e | e
      · exact hne e
      · omega
    · obtain ⟨e1, e2, _⟩ := hold K hKK hK
      rw [e2] at hgK
      exact hok.2 K (by rw [← e1]; exact hK) hgK
  have ht : Turns S.o α o' α' := by
    intro K ver hle
    refine ⟨Nat.le_trans hle (hver K), fun hl => ?_⟩
    by_cases hKK : Nw K
    · rcases (hK1 K hKK hl.2).1 with e | ⟨e1, e2, e3⟩
      · have := hl.1; omega
      · exact ⟨⟨e1.trans hl.1, e2⟩, e3⟩
    · obtain ⟨e1, e2, _⟩ := hold K hKK hl.2
      exact ⟨⟨by rw [← e1]; exact hl.1, by rw [← e1]; exact hl.2⟩, e2⟩
  have hbrow : ∀ g, row = some g → base ≤ g := fun g e => by
    obtain ⟨K, hK, hgK⟩ := hrow g e
    exact (hlt K hK g hgK).1
  refine ⟨?_, ?_, ?_, ?_, ?_, h.below.grown hg h.base hbrow, h.free, Nat.le_trans h.base hg.size, fun p v hp => PV.rel_turn hk ht _ _ (h.x p v hp)⟩
  · cases dst <;> exact h.defers
  · have := h.size
    cases dst <;> simpa [Act.put] using this
  · intro k
    cases dst with
    | none => exact (S.t k).rel_turn hk ht _ (h.t k)
    | some d =>
      have hd : d < a.tmps.size := Nat.lt_of_lt_of_le (hdst d rfl) h.size
      rw [getD_put a d k v hd]
      simp only [St.put]
      by_cases e : k = d
      · simp only [e, if_true]; exact hp hk ht
      · simp only [e, if_false]; exact (S.t k).rel_turn hk ht _ (h.t k)
  · intro K x hx
    by_cases hKK : Nw K
    · exact hnew hk ht K x hKK hx
    · have hK : (o' K).2 ≠ none := by rw [hx]; simp
      obtain ⟨e1, e2, e3⟩ := hold K hKK hK
      rw [e2]
      have hxs : (S.o K).2 = some x := by rw [← e1]; exact hx
      exact Ob.rel_turn hk ht (fun g hgK => hg.block g (hlt K (by rw [hxs]; simp) g hgK).2 fun e => e3 g hgK e.symm) (h.o K x hxs)
  · intro K K' hne hK hK' g hgK hgK'
    by_cases hKK : Nw K
    · by_cases hKK' : Nw K'
      · exact hinj K K' hKK hKK' hne hK hK' g hgK hgK'
      · obtain ⟨e1, e2, e3⟩ := hold K' hKK' hK'
        have hl' := hlt K' (by rw [← e1]; exact hK') g (by rw [← e2]; exact hgK')
        rcases (hK1 K hKK hK).2 g hgK with e | e
        · exact e3 g (by rw [← e2]; exact hgK') e
        · omega
    · obtain ⟨e1, e2, e3⟩ := hold K hKK hK
      by_cases hKK' : Nw K'
      · have hl := hlt K (by rw [← e1]; exact hK) g (by rw [← e2]; exact hgK)
        rcases (hK1 K' hKK' hK').2 g hgK' with e | e
        · exact e3 g (by rw [← e2]; exact hgK) e
        · omega
      · obtain ⟨e1', e2', _⟩ := hold K' hKK' hK'
        exact h.inj K K' hne (by rw [← e1]; exact hK) (by rw [← e1']; exact hK') g (by rw [← e2]; exact hgK) (by rw [← e2']; exact hgK')
theorem Rel.upd {N base : Nat} {w0 : World} {X : Fr} {S : St} {α : Nat → Value} {a : Act} {w : World} (h : Rel N base w0 X S α a w) {o' : Nat → Nat × Option Ob} {α' : Nat → Value} {w' : World} {row : Option Nat} {dst : Option Nat} {p : PV} {v : Value} (K1 : Nat)
    (hdst : ∀ d, dst = some d → d < N) (hg : w.grownBy w' row) (hrow : ∀ g, row = some g → ∃ K, (S.o K).2 ≠ none ∧ hblk (α K) = some g)
    (hver : ∀ K, (S.o K).1 ≤ (o' K).1)
    (hold : ∀ K, K ≠ K1 → (o' K).2 ≠ none → o' K = S.o K ∧ α' K = α K ∧ ∀ g, hblk (α K) = some g → row ≠ some g)
    (hK1 : (o' K1).2 ≠ none → ((S.o K1).1 < (o' K1).1 ∨ ((S.o K1).1 = (o' K1).1 ∧ (S.o K1).2 ≠ none ∧ α' K1 = α K1)) ∧ ∀ g, hblk (α' K1) = some g → row = some g ∨ w.heap.size ≤ g)
    (hnew : Keeps w (okOf X.A S.o α) w' (okOf X.A o' α') → Turns S.o α o' α' → ∀ x, (o' K1).2 = some x → x.rel o' α' w' (okOf X.A o' α') base (α' K1))
    (hp : Keeps w (okOf X.A S.o α) w' (okOf X.A o' α') → Turns S.o α o' α' → p.rel o' α' w' (okOf X.A o' α') v) :
    Rel N base w0 X { (S.put dst p) with o := o' } α' (a.put dst v) w' :=
  h.updS (fun K => K = K1) hdst hg hrow hver hold (fun K e => by subst e; exact hK1) (fun K K' e e' hne => absurd (e.trans e'.symm) hne) (fun hk ht K x e => by subst e; exact hnew hk ht x) hp

/-- The world grows or draws; no object turns. -/
theorem Rel.plain {N base : Nat} {w0 : World} {X : Fr} {S : St} {α : Nat → Value} {a : Act} {w : World} (h : Rel N base w0 X S α a w) {w' : World} {dst : Option Nat} {p : PV} {v : Value}
    (hdst : ∀ d, dst = some d → d < N) (hg : w.grownBy w' none)
    (hp : Keeps w (okOf X.A S.o α) w' (okOf X.A S.o α) → p.rel S.o α w' (okOf X.A S.o α) v) : Rel N base w0 X (S.put dst p) α (a.put dst v) w' := by
  have hk : Keeps w (okOf X.A S.o α) w' (okOf X.A S.o α) := fun b hb hok => ⟨hok, hg.block b hb (by simp)⟩
  have ht := Turns.refl S.o α
  have hlt : ∀ K x, (S.o K).2 = some x → ∀ g, hblk (α K) = some g → g < w.heap.size := fun K x hx g hgK => (Ob.rel_lt (h.o K x hx) g hgK).2
  refine ⟨?_, ?_, ?_, ?_, ?_, h.below.grown hg h.base (by simp), h.free, Nat.le_trans h.base hg.size, fun p v hp => by rw [St.put_o]; exact PV.rel_turn hk ht _ _ (h.x p v hp)⟩
  · cases dst <;> exact h.defers
  · have := h.size
    cases dst <;> simpa [Act.put] using this
  · intro k
    rw [St.put_o]
    cases dst with
    | none => exact (S.t k).rel_turn hk ht _ (h.t k)
    | some d =>
      have hd : d < a.tmps.size := Nat.lt_of_lt_of_le (hdst d rfl) h.size
      rw [getD_put a d k v hd]
      simp only [St.put]
      by_cases e : k = d
      · simp only [e, if_true]; exact hp hk
      · simp only [e, if_false]; exact (S.t k).rel_turn hk ht _ (h.t k)
  · intro K x hx
    rw [St.put_o] at hx ⊢
    exact Ob.rel_turn hk ht (fun g hgK => hg.block g (hlt K x hx g hgK) (by simp)) (h.o K x hx)
  · intro K K' hne hK hK'
    rw [St.put_o] at hK hK'
    exact h.inj K K' hne hK hK'

theorem grownBy_refl (w : World) (row : Option Nat) : w.grownBy w row := ⟨rfl, rfl, rfl, Nat.le_refl _, fun _ _ _ => rfl⟩
theorem grownBy_drew (w : World) : w.grownBy { w with drawn := w.drawn + 1 } none := ⟨rfl, rfl, rfl, Nat.le_refl _, fun _ _ _ => rfl⟩

end Go.Proofs.Ytomnjbebgfadoaa.Pi
