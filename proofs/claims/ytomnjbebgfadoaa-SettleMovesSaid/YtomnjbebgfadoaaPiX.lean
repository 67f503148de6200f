/- What the statements' readings of arguments give: data of a shape that the type tells.
   Conditions: none; lemmas. -/
import Derived.Test.YtomnjbebgfadoaaPiW
import Derived.ChangeArms
import Derived.DataReads
import Derived.ChangeOld
set_option linter.unusedVariables false
set_option linter.unusedSimpArgs false
namespace Go.Proofs.Ytomnjbebgfadoaa.Pi
open Go Go.RowKit
inductive Sh where
  | int (k : IntKind)
  | bool
  | str
  | lst (sz : Nat) (r : List Sh)
mutual
def Sh.has : Sh → D → Prop
  | .int k, d => ∃ n, d = .int k n
  | .bool, d => ∃ b, d = .bool b
  | .str, d => ∃ s, d = .str s
  | .lst sz r, d => ∃ xs, d = .lst sz xs ∧ ∀ x ∈ xs, hasL r x
def hasL : List Sh → List D → Prop
  | [], ds => ds = []
  | s :: ss, ds => ∃ d ds', ds = d :: ds' ∧ s.has d ∧ hasL ss ds'
end
def shFs (P : Program) (f : TypeId → Option (List Sh)) : List Field → Nat → Option (List Sh)
  | [], _ => some []
  | x :: xs, off => if x.offset = off then (match f x.type with
    | some r => if r.length = P.cellsOf x.type then (shFs P f xs (off + r.length)).map (r ++ ·) else none
    | none => none) else none
def shOf (P : Program) : Nat → TypeId → Option (List Sh)
  | 0, _ => none
  | n + 1, t => match P.underlying t with
    | some (.int k) => some [.int k]
    | some .bool => some [.bool]
    | some .string => some [.str]
    | some (.slice e) => (match shOf P n e with
      | some r => if r.length = P.cellsOf e ∧ 0 < r.length then some [.lst r.length r] else none
      | none => none)
    | some (.struct fs) => (match shFs P (shOf P n) fs.toList 0 with
      | some r => if r.length = P.cellsOf t then some r else none
      | none => none)
    | _ => none
theorem hasL_len : ∀ {ss : List Sh} {ds : List D}, hasL ss ds → ds.length = ss.length
  | [], ds, h => by simp only [hasL] at h; subst h; rfl
  | s :: ss, ds, h => by
    simp only [hasL] at h
    obtain ⟨d, ds', rfl, _, h2⟩ := h
    simp [hasL_len h2]
theorem hasL_app : ∀ {ss ss' : List Sh} {ds ds' : List D}, hasL ss ds → hasL ss' ds' → hasL (ss ++ ss') (ds ++ ds')
  | [], ss', ds, ds', h, h' => by simp only [hasL] at h; subst h; exact h'
  | s :: ss, ss', ds, ds', h, h' => by
    simp only [hasL] at h
    obtain ⟨d, ds1, rfl, h1, h2⟩ := h
    simp only [List.cons_append, hasL]
    exact ⟨d, _, rfl, h1, hasL_app h2 h'⟩
theorem rdVals_app {w : World} {ok : Nat → Prop} : ∀ {ds ds' : List D} {vs vs' : List Value}, rdVals w ok ds vs → rdVals w ok ds' vs' → rdVals w ok (ds ++ ds') (vs ++ vs')
  | [], ds', vs, vs', h, h' => by simp only [rdVals] at h; subst h; exact h'
  | d :: ds, ds', vs, vs', h, h' => by
    simp only [rdVals] at h
    obtain ⟨v, vs1, rfl, h1, h2⟩ := h
    simp only [List.cons_append, rdVals]
    exact ⟨v, _, rfl, h1, rdVals_app h2 h'⟩
theorem rdCells_of {w : World} {b : Nat} : ∀ {ds : List D} {cs : List Value} {o : Nat}, rdVals w (fun _ => True) ds cs → (∀ j, j < cs.length → w.cell? ⟨b, o + j, none⟩ = cs[j]?) → (∀ u ∈ cs, u.oneCell' = true) → rdCells w (fun _ => True) b o ds
  | [], cs, o, h, hc, hu => by simp only [rdCells]
  | d :: ds, cs, o, h, hc, hu => by
    simp only [rdVals] at h
    obtain ⟨v, vs, rfl, h1, h2⟩ := h
    simp only [rdCells]
    refine ⟨⟨trivial, v, ?_, hu v (by simp), h1⟩, rdCells_of h2 (fun j hj => ?_) fun u hu' => hu u (by simp [hu'])⟩
    · have := hc 0 (by simp)
      simpa using this
    · have := hc (j + 1) (by simpa using hj)
      rw [show o + 1 + j = o + (j + 1) by omega, this]
      simp
theorem rdRows_of' {w : World} {b sz : Nat} : ∀ {xs : List (List D)} {o : Nat}, (∀ i (h : i < xs.length), xs[i].length = sz ∧ rdCells w (fun _ => True) b (o + i * sz) xs[i]) → rdRows w (fun _ => True) sz b o xs
  | [], o, h => by simp only [rdRows]
  | x :: xs, o, h => by
    simp only [rdRows]
    have h0 := h 0 (by simp)
    simp only [Nat.zero_mul, Nat.add_zero, List.getElem_cons_zero] at h0
    refine ⟨h0, rdRows_of' fun i hi => ?_⟩
    have h1 := h (i + 1) (by simpa using hi)
    simp only [List.getElem_cons_succ] at h1
    rw [Nat.add_mul, Nat.one_mul] at h1
    rw [show o + sz + i * sz = o + (i * sz + sz) by omega]
    exact h1
theorem list_of {A : Type} {Q : Nat → A → Prop} : ∀ (n : Nat), (∀ i, i < n → ∃ a, Q i a) → ∃ xs : List A, xs.length = n ∧ ∀ i (h : i < xs.length), Q i xs[i]
  | 0, _ => ⟨[], rfl, fun i h => absurd h (by simp)⟩
  | n + 1, h => by
    obtain ⟨xs, hl, hx⟩ := list_of n fun i hi => h i (by omega)
    obtain ⟨a, ha⟩ := h n (by omega)
    refine ⟨xs ++ [a], by simp [hl], fun i hi => ?_⟩
    simp only [List.length_append, List.length_cons, List.length_nil] at hi
    by_cases e : i < xs.length
    · rw [List.getElem_append_left e]; exact hx i e
    · have : i = n := by omega
      subst this
      rw [List.getElem_append_right (by omega)]
      simpa using ha
section
variable {H : Type} {enc : TypeId × Value → H} {P : Program} {w : World} {base : Nat} {spare : Nat → Bool} {held : Bool}
theorem shFs_rd {f : TypeId → Option (List Sh)} {g : TypeId → List Value → Option (DataW H × List MemPlace)} (hf : ∀ t cs x shs, f t = some shs → g t cs = some x → ∃ ds, hasL shs ds ∧ rdVals w (fun _ => True) ds cs ∧ cs.length = shs.length ∧ ∀ u ∈ cs, u.oneCell' = true) :
    ∀ (fs : List Field) (off : Nat) (cs : List Value) (ys : List (DataW H × List MemPlace)) (shs : List Sh), shFs P f fs off = some shs → (fs.mapM fun x => g x.type ((cs.drop x.offset).take (P.cellsOf x.type))) = some ys →
    ∃ ds, hasL shs ds ∧ rdVals w (fun _ => True) ds ((cs.drop off).take shs.length) ∧ ((cs.drop off).take shs.length).length = shs.length ∧ ∀ u ∈ (cs.drop off).take shs.length, u.oneCell' = true
  | [], off, cs, ys, shs, h, hm => by
    simp only [shFs, Option.some.injEq] at h
    subst h
    exact ⟨[], by simp only [hasL], by simp [rdVals], by simp, by simp⟩
  | x :: fs, off, cs, ys, shs, h, hm => by
    simp only [shFs] at h
    split at h
    · rename_i ho
      split at h
      · rename_i r hr
        split at h
        · rename_i hl
          obtain ⟨s2, h2, rfl⟩ := Option.map_eq_some_iff.1 h
          rw [List.mapM_cons] at hm
          cases hg : g x.type ((cs.drop x.offset).take (P.cellsOf x.type)) with
          | none => rw [hg] at hm; simp at hm
          | some y =>
            rw [hg] at hm
            cases hg2 : (fs.mapM fun x => g x.type ((cs.drop x.offset).take (P.cellsOf x.type))) with
            | none => rw [hg2] at hm; simp at hm
            | some ys2 =>
              obtain ⟨d1, a1, a2, a3, a4⟩ := hf _ _ _ _ hr hg
              obtain ⟨d2, b1, b2, b3, b4⟩ := shFs_rd hf fs _ _ _ _ h2 hg2
              have e : (cs.drop off).take (r ++ s2).length = (cs.drop off).take r.length ++ (cs.drop (off + r.length)).take s2.length := by
                rw [List.length_append, List.take_add, List.drop_drop]
              rw [ho, ← hl] at a2 a3 a4
              rw [e]
              refine ⟨d1 ++ d2, hasL_app a1 b1, rdVals_app a2 b2, by rw [List.length_append, a3, b3, List.length_append], fun u hu => ?_⟩
              rcases List.mem_append.1 hu with hu | hu
              · exact a4 u hu
              · exact b4 u hu
        · cases h
      · cases h
    · cases h
theorem trod_sh : ∀ (n fuel : Nat) (t : TypeId) (cs : List Value) (x : DataW H × List MemPlace) (shs : List Sh), shOf P n t = some shs → DataW.trod enc P w base spare held fuel t cs = some x → ∃ ds, hasL shs ds ∧ rdVals w (fun _ => True) ds cs ∧ cs.length = shs.length ∧ ∀ u ∈ cs, u.oneCell' = true
  | 0, fuel, t, cs, x, shs, h, ht => by simp [shOf] at h
  | n + 1, fuel, t, cs, x, shs, h, ht => by
    simp only [shOf] at h
    cases fuel with
    | zero => simp [DataW.trod] at ht
    | succ m =>
      split at h
      · rename_i k hu
        simp only [Option.some.injEq] at h; subst h
        unfold DataW.trod at ht
        rw [hu] at ht
        split at ht <;> simp_all
        rename_i k2 k3 n2 hh; exact ⟨[.int k2 n2], by simp [hasL, Sh.has], by simp [rdVals, D.rd], by simp [Value.oneCell']⟩
      · rename_i hu
        simp only [Option.some.injEq] at h; subst h
        unfold DataW.trod at ht
        rw [hu] at ht
        split at ht <;> simp_all
        rename_i b2; exact ⟨[.bool b2], by simp only [hasL, Sh.has]; exact ⟨_, [], rfl, ⟨_, rfl⟩, rfl⟩, by simp [rdVals, D.rd], by simp [Value.oneCell']⟩
      · rename_i hu
        simp only [Option.some.injEq] at h; subst h
        unfold DataW.trod at ht
        rw [hu] at ht
        split at ht <;> simp_all
        rename_i s2; exact ⟨[.str s2], by simp only [hasL, Sh.has]; exact ⟨_, [], rfl, ⟨_, rfl⟩, rfl⟩, by simp [rdVals, D.rd]; exact ht.1, by simp [Value.oneCell']⟩
      · rename_i e hu
        split at h
        · rename_i r hr
          split at h
          · rename_i hl
            simp only [Option.some.injEq] at h; subst h
            rcases DataW.trod_slice hu ht with ⟨rfl, _⟩ | ⟨a, len, cap, elems, rest, n', _, rfl, _, hb, hlc, hcap, hel, hget, _, _⟩
            · refine ⟨[.lst r.length []], ?_, ?_, by simp, by simp [Value.oneCell']⟩
              · simp [hasL, Sh.has]
              · simp only [rdVals, D.rd]
                exact ⟨_, [], rfl, ⟨none, 0, rfl, ⟨Nat.le_refl _, fun _ => rfl⟩, Nat.zero_le _, fun h => absurd rfl h⟩, rfl⟩
            · have hrow0 : ∀ i, i < len → ∃ ds, (hasL r ds) ∧ ∃ cs', rdVals w (fun _ => True) ds cs' ∧ cs'.length = r.length ∧ (∀ u ∈ cs', u.oneCell' = true) ∧ ∀ j, j < r.length → w.cell? ((a.add (i * r.length)).add j) = cs'[j]? := fun i hi => by
                have h1 := hget i hi
                rw [List.getElem?_eq_getElem (by omega)] at h1
                obtain ⟨cs', h2, h3⟩ := Option.bind_eq_some_iff.1 h1
                obtain ⟨ds, g1, g2, g3, g4⟩ := trod_sh n _ _ _ _ _ hr h3
                obtain ⟨_, hl2, hc⟩ := World.cells?_some h2
                rw [← hl.1] at hc
                exact ⟨ds, g1, cs', g2, g3, g4, hc⟩
              obtain ⟨xs, hx1, hx2⟩ := list_of len hrow0
              refine ⟨[.lst r.length xs], ?_, ?_, by simp, by simp [Value.oneCell']⟩
              · simp only [hasL, Sh.has]
                refine ⟨_, [], rfl, ⟨xs, rfl, fun y hy => ?_⟩, rfl⟩
                obtain ⟨i, hi, rfl⟩ := List.mem_iff_getElem.1 hy
                exact (hx2 i hi).1
              · simp only [rdVals, D.rd]
                refine ⟨_, [], rfl, ⟨some a, cap, by rw [hx1], ⟨by omega, by simp⟩, by omega, fun hne => ?_⟩, rfl⟩
                have hpos : 0 < xs.length := List.length_pos_iff.2 hne
                have hsp : a.spot = none := by
                  obtain ⟨_, cs', _, g3, _, hc⟩ := hx2 0 hpos
                  have := hc 0 hl.2
                  rw [List.getElem?_eq_getElem (by omega)] at this
                  simp only [Nat.zero_mul, Addr.add, if_true] at this
                  unfold World.cell? at this
                  split at this
                  · split at this
                    · cases this
                    · rename_i hs
                      simpa using hs
                  · cases this
                obtain ⟨ab, ao, as⟩ := a
                simp only at hsp
                subst hsp
                have hadd : ∀ i j, ((⟨ab, ao, none⟩ : Addr).add i).add j = ⟨ab, ao + i + j, none⟩ := fun i j => by
                  simp only [Addr.add]
                  split <;> split <;> simp_all
                refine ⟨ab, ao, rfl, rdRows_of' fun i hi => ?_⟩
                obtain ⟨g1, cs', g2, g3, g4, hc⟩ := hx2 i hi
                refine ⟨hasL_len g1, rdCells_of g2 (fun j hj => ?_) g4⟩
                rw [← hc j (by omega), hadd]
          · cases h
        · cases h
      · rename_i fs hu
        unfold DataW.trod at ht
        rw [hu] at ht
        simp only at ht
        split at h
        · rename_i r hr
          split at h
          · rename_i hl
            simp only [Option.some.injEq] at h; subst h
            split at ht
            · rename_i hc
              obtain ⟨ys, hy, _⟩ := Option.map_eq_some_iff.1 ht
              have := shFs_rd (P := P) (w := w) (f := shOf P n) (g := DataW.trod enc P w base spare held m) (fun t cs x shs h1 h2 => trod_sh n _ _ _ _ _ h1 h2) fs.toList 0 cs ys r hr hy
              rw [List.drop_zero, List.take_of_length_le (by omega)] at this
              exact this
            · cases ht
          · cases h
        · cases h
      · cases h
end
/-! The shape's words. -/
theorem hasL_cons {s : Sh} {ss : List Sh} {ds : List D} (h : hasL (s :: ss) ds) : ∃ d ds', ds = d :: ds' ∧ s.has d ∧ hasL ss ds' := by simpa only [hasL] using h
theorem hasL_nil {ds : List D} (h : hasL [] ds) : ds = [] := by simpa only [hasL] using h
theorem got_int {k : IntKind} {d : D} (h : (Sh.int k).has d) : ∃ n, dInt k d = some n := by
  simp only [Sh.has] at h; obtain ⟨n, rfl⟩ := h; exact ⟨n, dInt_int k n⟩
theorem got_bool {d : D} (h : Sh.bool.has d) : ∃ n, dBool d = some n := by
  simp only [Sh.has] at h; obtain ⟨n, rfl⟩ := h; exact ⟨n, dBool_bool n⟩
theorem got_str {d : D} (h : Sh.str.has d) : ∃ n, dStr d = some n := by
  simp only [Sh.has] at h; obtain ⟨n, rfl⟩ := h; exact ⟨n, dStr_str n⟩
theorem got_rows {A : Type} {of : List D → Option A} : ∀ {xs : List (List D)}, (∀ x ∈ xs, ∃ a, of x = some a) → ∃ l, dRows of xs = some l
  | [], _ => ⟨[], rfl⟩
  | x :: xs, h => by
    obtain ⟨a, ha⟩ := h x (by simp)
    obtain ⟨l, hl⟩ := got_rows (xs := xs) fun y hy => h y (by simp [hy])
    exact ⟨a :: l, by simp [dRows, ha, hl]⟩
theorem got_lst {A : Type} {of : List D → Option A} {sz : Nat} {r : List Sh} {d : D} (hf : ∀ ds, hasL r ds → ∃ a, of ds = some a) (h : (Sh.lst sz r).has d) : ∃ l, dLst sz of d = some l := by
  simp only [Sh.has] at h
  obtain ⟨xs, rfl, hx⟩ := h
  obtain ⟨l, hl⟩ := got_rows fun x hm => hf x (hx x hm)
  exact ⟨l, by rw [dLst_lst, hl]⟩
theorem got_i {ds : List D} (h : hasL [.int .i64] ds) : ∃ a, iof ds = some a := by
  obtain ⟨d, ds', rfl, h1, h2⟩ := hasL_cons h
  obtain rfl := hasL_nil h2
  obtain ⟨n, hn⟩ := got_int h1
  exact ⟨n, hn⟩
theorem got_s {ds : List D} (h : hasL [.str] ds) : ∃ a, sof ds = some a := by
  obtain ⟨d, ds', rfl, h1, h2⟩ := hasL_cons h
  obtain rfl := hasL_nil h2
  obtain ⟨n, hn⟩ := got_str h1
  exact ⟨n, hn⟩
theorem got_b {ds : List D} (h : hasL [.bool] ds) : ∃ a, bof ds = some a := by
  obtain ⟨d, ds', rfl, h1, h2⟩ := hasL_cons h
  obtain rfl := hasL_nil h2
  obtain ⟨n, hn⟩ := got_bool h1
  exact ⟨n, hn⟩
theorem got_l {A : Type} {of : List D → Option A} {sz : Nat} {r : List Sh} (hf : ∀ ds, hasL r ds → ∃ a, of ds = some a) {ds : List D} (h : hasL [.lst sz r] ds) : ∃ a, lof sz of ds = some a := by
  obtain ⟨d, ds', rfl, h1, h2⟩ := hasL_cons h
  obtain rfl := hasL_nil h2
  obtain ⟨n, hn⟩ := got_lst hf h1
  exact ⟨n, hn⟩
/-- An argument that is no struct. -/
theorem arg_one {H : Type} {enc : TypeId × Value → H} {P : Program} {w : World} {base : Nat} {spare : Nat → Bool} {held : Bool} {t : TypeId} {v : Value} {d : DataW H} {ps : List MemPlace} {s : Sh} {n : Nat} (hs : shOf P n t = some [s]) (h : DataW.Trod enc P w base spare held t v d ps) (hv : ∀ cs, v ≠ .agg cs) : ∃ x, s.has x ∧ x.rd w (fun _ => True) v := by
  obtain ⟨fuel, hf⟩ := h
  obtain ⟨ds, h1, h2, _, _⟩ := trod_sh n fuel t _ _ _ hs hf
  obtain ⟨x, ds', rfl, h3, h4⟩ := hasL_cons h1
  obtain rfl := hasL_nil h4
  have e : v.cells.toList = [v] := by
    cases v <;> first | rfl | exact absurd rfl (hv _)
  rw [e] at h2
  simp only [rdVals] at h2
  obtain ⟨u, vs, e2, h5, h6⟩ := h2
  obtain ⟨rfl, rfl⟩ := List.cons.inj e2
  exact ⟨x, h3, h5⟩
/-- An argument that is a struct. -/
theorem arg_agg {H : Type} {enc : TypeId × Value → H} {P : Program} {w : World} {base : Nat} {spare : Nat → Bool} {held : Bool} {t : TypeId} {cs : Array Value} {d : DataW H} {ps : List MemPlace} {ss : List Sh} {n : Nat} (hs : shOf P n t = some ss) (h : DataW.Trod enc P w base spare held t (.agg cs) d ps) : ∃ xs, hasL ss xs ∧ (D.agg xs).rd w (fun _ => True) (.agg cs) := by
  obtain ⟨fuel, hf⟩ := h
  obtain ⟨ds, h1, h2, _, h4⟩ := trod_sh n fuel t _ _ _ hs hf
  exact ⟨ds, h1, by simp only [D.rd]; exact ⟨cs, rfl, h4, h2⟩⟩
end Go.Proofs.Ytomnjbebgfadoaa.Pi
