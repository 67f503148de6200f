/- Soundness of the pure interpreter's pure operations, continued: loads, addresses, structs that are built; and all of them together.
   Conditions: none; lemmas. -/
import Derived.Test.YtomnjbebgfadoaaPiE
import Derived.Deep.MidRow
import Derived.Laws.CopyRow
set_option linter.unusedVariables false
set_option linter.unusedSimpArgs false
namespace Go.Proofs.Ytomnjbebgfadoaa.Pi
open Go Go.RowKit

/-! ### 10. Cells -/
theorem rdCells_vals {w : World} {ok : Nat → Prop} {b : Nat} : ∀ {o : Nat} {ds : List D}, rdCells w ok b o ds → ∃ vals, rdVals w ok ds vals ∧ (∀ u ∈ vals, u.oneCell' = true) ∧ w.rangeAt b o vals
  | o, [], h => ⟨[], by simp [rdVals], by simp, fun j v hv => by simp at hv⟩
  | o, d :: ds, h => by
    simp only [rdCells] at h
    obtain ⟨⟨_, u, hc, h0, hr⟩, hs⟩ := h
    obtain ⟨vals, h1, h3, h2⟩ := rdCells_vals hs
    refine ⟨u :: vals, by simp only [rdVals]; exact ⟨u, vals, rfl, hr, h1⟩, fun x hx => ?_, fun j v hv => ?_⟩
    · rcases List.mem_cons.1 hx with rfl | hx
      · exact h0
      · exact h3 x hx
    cases j with
    | zero => simp at hv; subst hv; simpa using hc
    | succ j => have := h2 j v (by simpa using hv); rwa [show o + 1 + j = o + (j + 1) by omega] at this
theorem rdCells_drop {w : World} {ok : Nat → Prop} {b : Nat} : ∀ {o : Nat} {ds : List D} (n : Nat), rdCells w ok b o ds → n ≤ ds.length → rdCells w ok b (o + n) (ds.drop n)
  | o, ds, 0, h, _ => by simpa using h
  | o, [], n + 1, h, hn => by simp at hn
  | o, d :: ds, n + 1, h, hn => by
    simp only [rdCells] at h
    have := rdCells_drop n h.2 (by simpa using hn)
    simp only [List.drop_succ_cons]
    rwa [show o + 1 + n = o + (n + 1) by omega] at this
theorem rdCells_take {w : World} {ok : Nat → Prop} {b : Nat} : ∀ {o : Nat} {ds : List D} (n : Nat), rdCells w ok b o ds → rdCells w ok b o (ds.take n)
  | o, ds, 0, h => by simp [rdCells]
  | o, [], n + 1, h => by simp [rdCells]
  | o, d :: ds, n + 1, h => by
    simp only [rdCells] at h
    simp only [List.take_succ_cons, rdCells]
    exact ⟨h.1, rdCells_take n h.2⟩
theorem rdVals_take {w : World} {ok : Nat → Prop} : ∀ {ds : List D} {vs : List Value} (n : Nat), rdVals w ok ds vs → rdVals w ok (ds.take n) (vs.take n)
  | ds, vs, 0, h => by simp [rdVals]
  | [], vs, n + 1, h => by simp only [rdVals] at h; subst h; simp [rdVals]
  | d :: ds, vs, n + 1, h => by
    simp only [rdVals] at h
    obtain ⟨v, vs', rfl, h1, h2⟩ := h
    simp only [List.take_succ_cons, rdVals]
    exact ⟨v, _, rfl, h1, rdVals_take n h2⟩
theorem rdVals_drop {w : World} {ok : Nat → Prop} : ∀ {ds : List D} {vs : List Value} (n : Nat), rdVals w ok ds vs → rdVals w ok (ds.drop n) (vs.drop n)
  | ds, vs, 0, h => by simpa using h
  | [], vs, n + 1, h => by simp only [rdVals] at h; subst h; simp [rdVals]
  | d :: ds, vs, n + 1, h => by
    simp only [rdVals] at h
    obtain ⟨v, vs', rfl, h1, h2⟩ := h
    simpa only [List.drop_succ_cons] using rdVals_drop n h2
theorem flat_cut {α : Type} {sz : Nat} {rs : List (List α)} (h : ∀ r ∈ rs, r.length = sz) {i : Nat} {r : List α} (hi : rs[i]? = some r) {off n : Nat} (hn : off + n ≤ sz) :
    (rs.flatten.drop (i * sz + off)).take n = (r.drop off).take n := by
  have hr : r.length = sz := h r (List.mem_of_getElem? hi)
  apply List.ext_getElem?
  intro j
  simp only [List.getElem?_take, List.getElem?_drop]
  split
  · rename_i hj
    have hlt : off + j < r.length := by omega
    rw [show i * sz + off + j = i * sz + (off + j) by omega, flat_get h i (off + j) r _ hi (List.getElem?_eq_getElem hlt), List.getElem?_eq_getElem hlt]
  · rfl
theorem own_head {w : World} {base e sz n g : Nat} {hdr : Value} {vals : List Value} (h : w.ownsRow base e sz hdr n vals) (hg : hblk hdr = some g) : ∃ cap, hdr = .slice (some ⟨g, 0, none⟩) n cap ∧ n ≤ cap ∧ cap ≤ maxLen ∧ base ≤ g := by
  rcases h.2 with ⟨rfl, _⟩ | ⟨g', cap, cur, rfl, hb, _, hn, hm, _⟩
  · simp [hblk] at hg
  · simp [hblk] at hg; subst hg; exact ⟨cap, rfl, hn, hm, hb⟩
theorem own_pos {w : World} {base e sz n : Nat} {hdr : Value} {vals : List Value} (h : w.ownsRow base e sz hdr n vals) (hn : 0 < n) : ∃ g, hblk hdr = some g := by
  rcases h.2 with ⟨rfl, h0⟩ | ⟨g', cap, cur, rfl, _⟩
  · omega
  · exact ⟨g', rfl⟩
theorem own_range {w : World} {base e sz n g : Nat} {hdr : Value} {vals : List Value} (h : w.ownsRow base e sz hdr n vals) (hg : hblk hdr = some g) : w.rangeAt g 0 vals := by
  obtain ⟨cap, rfl, _⟩ := own_head h hg
  intro j v hv
  have := h.cells (g := g) rfl j v hv
  rwa [Addr.add_mid] at this
theorem rangeAt_cut {w : World} {b o : Nat} {vals : List Value} (h : w.rangeAt b o vals) (k n : Nat) : w.rangeAt b (o + k) ((vals.drop k).take n) := by
  intro j v hv
  simp only [List.getElem?_take, List.getElem?_drop] at hv
  split at hv
  · have := h (k + j) v hv
    rwa [show o + (k + j) = o + k + j by omega] at this
  · cases hv
theorem obj_some {S : St} {K ver : Nat} {x : Ob} (h : S.obj K ver = some x) : live S.o K ver ∧ (S.o K).2 = some x := by
  unfold St.obj at h
  split at h
  · rename_i e; exact ⟨⟨e, by rw [h]; simp⟩, h⟩
  · cases h

section
variable {E : Env} (hE : EnvOk E) {w : World}
include hE
theorem run_loadVar' {t : Nat} {ti : TI} (ht : E.ty t = some ti) {b o : Nat} {vals : List Value} (hc : w.rangeAt b o vals) :
    (ti.isAgg = true → vals.length = ti.size → (loadVar t ⟨b, o, none⟩).run E.P w = .ok (.agg vals.toArray) w) ∧
    (ti.isAgg = false → ∀ v, vals[0]? = some v → (loadVar t ⟨b, o, none⟩).run E.P w = .ok v w) := by
  obtain ⟨i, hi, hs, _⟩ := ty_info hE ht
  have hag := run_isAgg' hE ht w
  constructor
  · intro h1 h2
    have hl : (loadCells ⟨b, o, none⟩ vals.length).run E.P w = .ok vals.toArray w :=
      run_loadCells_list (P := E.P) w ⟨b, o, none⟩ vals (fun j v hv => by rw [Addr.add_mid]; exact hc j v hv)
    unfold loadVar
    rw [h1] at hag
    simp [hag, sizeOf, typeInfo, hi, hs, ← h2, hl]
  · intro h1 v hv
    rw [h1] at hag
    have := hc 0 v hv
    unfold loadVar
    simp [hag]
    rw [Nat.add_zero] at this
    simp [this]

/-- A variable out of cells that read as data. -/
theorem run_loadD {t : Nat} {ti : TI} (ht : E.ty t = some ti) {b o : Nat} {vals : List Value} {ok : Nat → Prop} {cs : List D} (hr : rdVals w ok cs vals) (h1 : ∀ u ∈ vals, u.oneCell' = true) (hc : w.rangeAt b o vals) {off : Nat} {c : Prop} {p : PV}
    (h : loadD ti.isAgg ti.size cs off = (c, p)) (h' : c) (ov : Nat → Nat × Option Ob) (α : Nat → Value) : ∃ v, (loadVar t ⟨b, o + off, none⟩).run E.P w = .ok v w ∧ p.rel ov α w ok v := by
  have hlen := rdVals_length hr
  have hrange := rangeAt_cut hc off ti.size
  obtain ⟨l1, l2⟩ := run_loadVar' hE ht hrange
  have hsz : 0 < ti.size := by obtain ⟨_, _, _, _, h0, _⟩ := ty_info hE ht; exact h0
  unfold loadD at h
  cases ha : ti.isAgg <;> rw [ha] at h <;> simp only [Bool.false_eq_true, if_false, if_true, Prod.mk.injEq] at h <;> obtain ⟨rfl, rfl⟩ := h
  · have hlt : off < vals.length := by omega
    obtain ⟨v, hv, hd⟩ := rdVals_get hr off _ (List.getElem?_eq_getElem h')
    refine ⟨v, l2 ha v ?_, ?_⟩
    · rw [List.getElem?_take, if_pos hsz, List.getElem?_drop]; simpa using hv
    · simp only [PV.rel]
      rw [List.getD_eq_getElem?_getD, List.getElem?_eq_getElem h', Option.getD_some]; exact hd
  · refine ⟨_, l1 ha (by rw [List.length_take, List.length_drop]; omega), ?_⟩
    simp only [PV.rel, D.rd]
    exact ⟨_, rfl, fun u hu => h1 u (List.mem_of_mem_drop (List.mem_of_mem_take (by simpa using hu))), by simpa [cut] using rdVals_take _ (rdVals_drop off hr)⟩
end

theorem allD_rels {o : Nat → Nat × Option Ob} {α : Nat → Value} {w : World} {ok : Nat → Prop} : ∀ {ps : List PV} {ds : List D} {vs : List Value}, allD ps = some ds → PV.rels o α w ok ps vs → rdVals w ok ds vs
  | [], ds, vs, h, hr => by
    simp only [allD, Option.some.injEq] at h; subst h
    simpa only [PV.rels, rdVals] using hr
  | .d x :: ps, ds, vs, h, hr => by
    simp only [allD, Option.map_eq_some_iff] at h
    obtain ⟨es, h1, rfl⟩ := h
    simp only [PV.rels] at hr
    obtain ⟨v, vs', rfl, h2, h3⟩ := hr
    simp only [PV.rel] at h2
    simp only [rdVals]
    exact ⟨v, vs', rfl, h2, allD_rels h1 h3⟩
  | .un :: ps, ds, vs, h, hr => by simp [allD] at h
  | .nils :: ps, ds, vs, h, hr => by simp [allD] at h
  | .ref .. :: ps, ds, vs, h, hr => by simp [allD] at h
  | .row .. :: ps, ds, vs, h, hr => by simp [allD] at h
  | .map .. :: ps, ds, vs, h, hr => by simp [allD] at h
  | .fn .. :: ps, ds, vs, h, hr => by simp [allD] at h
  | .agg .. :: ps, ds, vs, h, hr => by simp [allD] at h
  | .tup .. :: ps, ds, vs, h, hr => by simp [allD] at h
  | .opt .. :: ps, ds, vs, h, hr => by simp [allD] at h
  | .clip .. :: ps, ds, vs, h, hr => by simp [allD] at h
theorem pagg_rel {o : Nat → Nat × Option Ob} {α : Nat → Value} {w : World} {ok : Nat → Prop} {ps : List PV} {vs : List Value} (h1 : ∀ u ∈ vs, u.oneCell' = true) (h : PV.rels o α w ok ps vs) : (pagg ps).rel o α w ok (.agg vs.toArray) := by
  unfold pagg
  split
  · rename_i ds hd
    simp only [PV.rel, D.rd]
    exact ⟨_, rfl, by simpa using h1, by simpa using allD_rels hd h⟩
  · simp only [PV.rel]
    exact ⟨_, rfl, by simpa using h1, by simpa using h⟩

section
variable {E : Env} (hE : EnvOk E) {w : World}
include hE
theorem run_loadP {t : Nat} {ti : TI} (ht : E.ty t = some ti) {b o : Nat} {vals : List Value} {ok : Nat → Prop} {ov : Nat → Nat × Option Ob} {α : Nat → Value} {cs : List PV} (hr : PV.rels ov α w ok cs vals) (h1 : ∀ u ∈ vals, u.oneCell' = true) (hc : w.rangeAt b o vals) {off : Nat} {c : Prop} {p : PV}
    (h : loadP ti.isAgg ti.size cs off = (c, p)) (h' : c) : ∃ v, (loadVar t ⟨b, o + off, none⟩).run E.P w = .ok v w ∧ p.rel ov α w ok v := by
  have hlen := PV.rels_length hr
  have hrange := rangeAt_cut hc off ti.size
  obtain ⟨l1, l2⟩ := run_loadVar' hE ht hrange
  have hsz : 0 < ti.size := by obtain ⟨_, _, _, _, h0, _⟩ := ty_info hE ht; exact h0
  unfold loadP at h
  cases ha : ti.isAgg <;> rw [ha] at h <;> simp only [Bool.false_eq_true, if_false, if_true, Prod.mk.injEq] at h <;> obtain ⟨rfl, rfl⟩ := h
  · have hlt : off < vals.length := by omega
    obtain ⟨v, hv, hd⟩ := PV.rels_get hr off _ (List.getElem?_eq_getElem h')
    refine ⟨v, l2 ha v ?_, ?_⟩
    · rw [List.getElem?_take, if_pos hsz, List.getElem?_drop]; simpa using hv
    · rw [List.getD_eq_getElem?_getD, List.getElem?_eq_getElem h', Option.getD_some]; exact hd
  · exact ⟨_, l1 ha (by rw [List.length_take, List.length_drop]; omega), pagg_rel (fun u hu => h1 u (List.mem_of_mem_drop (List.mem_of_mem_take hu))) (PV.rels_take (PV.rels_drop hr off) _)⟩

theorem run_loadV {N base : Nat} {w0 : World} {X : Fr} {S : St} {α : Nat → Value} {a : Act} (h : Rel N base w0 X S α a w) {t : Nat} {q p : PV} {c : Prop} (hq : loadV E S t q = some (c, p)) (hc : c) {v : Value} (hv : q.rel S.o α w (okOf X.A S.o α) v) :
    ∃ r, (Instr.loadAt t v).run E.P w = .ok r w ∧ p.rel S.o α w (okOf X.A S.o α) r := by
  unfold loadV at hq
  split at hq
  · rename_i cs off
    simp only [PV.rel, D.rd] at hv
    obtain ⟨b, o, rfl, hcs⟩ := hv
    split at hq
    · rename_i ti ht
      simp only [Option.some.injEq] at hq
      obtain ⟨vals, h1, h3, h2⟩ := rdCells_vals hcs
      obtain ⟨r, hr, hp⟩ := run_loadD hE ht h1 h3 h2 hq hc S.o α
      exact ⟨r, by simpa [Instr.loadAt, Instr.sureAddr] using hr, hp⟩
    · cases hq
  · rename_i K ver sz i off
    simp only [PV.rel] at hv
    split at hq
    · rename_i ti sz' e xs ht hob
      obtain ⟨hl, hx⟩ := obj_some hob
      obtain ⟨g, hg, rfl⟩ := hv.2 hl
      split at hq
      · rename_i te hte
        split at hq
        · rename_i hsz
          subst hsz
          simp only [Option.some.injEq, Prod.mk.injEq] at hq
          obtain ⟨rfl, rfl⟩ := hq
          obtain ⟨hi, hc2⟩ := hc
          obtain ⟨vals, hown, hrows, hrd, hones⟩ := h.o K _ hx
          have hr : xs[i]? = some (xs.getD i te.zero) := by simp [hi]
          have hlen := hrows _ (List.mem_of_getElem? hr)
          have hrange := own_range hown hg
          generalize xs.getD i te.zero = r at hr hlen hc2 ⊢
          have h1 : rdVals w (okOf X.A S.o α) r ((vals.drop (i * sz)).take sz) := by
            have := rdVals_take sz (rdVals_drop (i * sz) hrd)
            have e := flat_cut hrows hr (off := 0) (n := sz) (by omega)
            simp only [Nat.add_zero, List.drop_zero] at e
            rw [e, List.take_of_length_le (by omega)] at this
            exact this
          have h2 := rangeAt_cut hrange (i * sz) sz
          simp only [Nat.zero_add] at h2
          obtain ⟨v, hv1, hv2⟩ := run_loadD hE ht h1 (fun u hu => hones u (List.mem_of_mem_drop (List.mem_of_mem_take hu))) h2 (c := (loadD ti.isAgg ti.size r off).1) (p := (loadD ti.isAgg ti.size r off).2) rfl hc2 S.o α
          exact ⟨v, by simpa [Instr.loadAt, Instr.sureAddr] using hv1, hv2⟩
        · cases hq
      · cases hq
    · rename_i ti e cs ht hob
      obtain ⟨hl, hx⟩ := obj_some hob
      obtain ⟨g, hg, rfl⟩ := hv.2 hl
      simp only [Option.some.injEq] at hq
      obtain ⟨g', vals, hhdr, hb, hh, hr, hones⟩ := h.o K _ hx
      rw [hhdr] at hg
      simp [hblk] at hg
      subst hg
      have hrange : w.rangeAt g' 0 vals.toList := fun j v hv => by
        simp only [Nat.zero_add, World.cell?, hh]
        simpa using hv
      obtain ⟨r, h1, h2⟩ := run_loadP hE ht hr hones hrange hq hc
      exact ⟨r, by simpa [Instr.loadAt, Instr.sureAddr] using h1, h2⟩
    · rename_i ti sz' e xs ht hob
      obtain ⟨hl, hx⟩ := obj_some hob
      obtain ⟨g, hg, rfl⟩ := hv.2 hl
      split at hq
      · rename_i hsz
        subst hsz
        simp only [Option.some.injEq, Prod.mk.injEq] at hq
        obtain ⟨rfl, rfl⟩ := hq
        obtain ⟨hi, hc2⟩ := hc
        obtain ⟨vals, hown, hrows, hrd, hones⟩ := h.o K _ hx
        have hr : xs[i]? = some (xs.getD i []) := by simp [hi]
        have hlen := hrows _ (List.mem_of_getElem? hr)
        have hrange := own_range hown hg
        generalize xs.getD i [] = r at hr hlen hc2 ⊢
        have h1 : PV.rels S.o α w (okOf X.A S.o α) r ((vals.drop (i * sz)).take sz) := by
          have := PV.rels_take (PV.rels_drop hrd (i * sz)) sz
          have e := flat_cut hrows hr (off := 0) (n := sz) (by omega)
          simp only [Nat.add_zero, List.drop_zero] at e
          rw [e, List.take_of_length_le (by omega)] at this
          exact this
        have h2 := rangeAt_cut hrange (i * sz) sz
        simp only [Nat.zero_add] at h2
        obtain ⟨v, hv1, hv2⟩ := run_loadP hE ht h1 (fun u hu => hones u (List.mem_of_mem_drop (List.mem_of_mem_take hu))) h2 (c := (loadP ti.isAgg ti.size r off).1) (p := (loadP ti.isAgg ti.size r off).2) rfl hc2
        exact ⟨v, by simpa [Instr.loadAt, Instr.sureAddr] using hv1, hv2⟩
      · cases hq
    · cases hq
  · cases hq
end
end Go.Proofs.Ytomnjbebgfadoaa.Pi
