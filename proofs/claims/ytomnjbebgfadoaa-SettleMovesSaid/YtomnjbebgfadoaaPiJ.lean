/- The pure interpreter's operations that make or write objects are sound.
   Conditions: none; lemmas. -/
import Derived.Test.YtomnjbebgfadoaaPiI
set_option linter.unusedVariables false
set_option linter.unusedSimpArgs false
namespace Go.Proofs.Ytomnjbebgfadoaa.Pi
open Go Go.RowKit

section
variable {E : Env} {N base : Nat} {w0 : World} {X : Fr} {S : St} {α : Nat → Value} {a : Act} {w : World}

/-- A new box. -/
theorem Rel.newBox (h : Rel N base w0 X S α a w) {K t : Nat} {cs : List PV} {vals : Array Value} {d : Nat} (hK : d < N) (hr : PV.rels S.o α w (okOf X.A S.o α) cs vals.toList) (h1 : ∀ u ∈ vals.toList, u.oneCell' = true) :
    Rel N base w0 X { (S.put (some d) (refNew S K)) with o := newOb S.o K (.box t cs) } (hup α K (.pointer (some ⟨w.heap.size, 0, none⟩))) (a.put (some d) (.pointer (some ⟨w.heap.size, 0, none⟩))) (w.alloc (.cells vals t)) := by
  refine h.new (by simpa using hK) (grownBy_alloc' w _) (fun g hg => by simp [hblk] at hg; omega) (fun hk ht => ?_) (fun hk ht => ?_)
  · exact ⟨w.heap.size, vals, rfl, h.base, heap_alloc_new w _, PV.rels_turn hk ht _ _ hr, h1⟩
  · simp only [refNew, PV.rel]
    refine ⟨⟨⟨w.heap.size, by simp⟩, by simp [newOb]⟩, fun _ => ⟨w.heap.size, by rw [hup_same]; rfl, by simp⟩⟩

theorem run_allocE (hE : EnvOk E) (h : Rel N base w0 X S α a w) {K t : Nat} {d : Nat} (hK : d < N) {c : Prop} {p : PV} {o' : Objs} (hq : allocE E S K t = some (c, p, o')) :
    ∃ α' v w', (Instr.alloc t true (.tuple #[])).run E.P w = .ok v w' ∧ Rel N base w0 X { (S.put (some d) p) with o := o' } α' (a.put (some d) v) w' := by
  unfold allocE at hq
  split at hq
  · rename_i ti ht
    split at hq
    · rename_i hpl
      simp only [Option.some.injEq, Prod.mk.injEq] at hq
      obtain ⟨_, rfl, rfl⟩ := hq
      obtain ⟨i, z, hi, hs, hb, hz, hzc, hzo, hzl⟩ := ty_zero hE ht (by unfold plainTI at hpl; split at hpl <;> simp_all)
      refine ⟨_, .pointer (some ⟨w.heap.size, 0, none⟩), w.alloc (.cells z.cells t), ?_, h.newBox hK (vals := z.cells) (by rw [hzc]; exact zpvs_rel hzo) ?_⟩
      · simp [Instr.alloc, zeroValue, typeInfo, hi, hz, newVar, newRow]
      · rw [hzc]
        intro u hu
        obtain ⟨d, hd, rfl⟩ := List.mem_map.1 hu
        exact zval_one (hzo d hd)
    · cases hq
  · cases hq

theorem own_hdr {w : World} {base e sz n : Nat} {hdr : Value} {vals : List Value} (h : w.ownsRow base e sz hdr n vals) : ∃ A c, hdr = .slice A n c ∧ n ≤ maxLen ∧ (0 < n → ∃ g, A = some ⟨g, 0, none⟩) := by
  rcases h.2 with ⟨e1, e2⟩ | ⟨g, cap, cur, e1, _, _, h1, h2, _⟩
  · subst e2; exact ⟨none, 0, e1, by simp [maxLen], by omega⟩
  · exact ⟨_, cap, e1, by omega, fun _ => ⟨g, rfl⟩⟩
/-- What a slice that is appended, or copied, holds. -/
theorem rdRows_vals {w : World} {ok : Nat → Prop} {sz b : Nat} : ∀ {o : Nat} {xs : List (List D)}, rdRows w ok sz b o xs → (∀ r ∈ xs, r.length = sz) ∧ ∃ vals, rdVals w ok xs.flatten vals ∧ (∀ u ∈ vals, u.oneCell' = true) ∧ w.rangeAt b o vals
  | o, [], h => ⟨by simp, [], by simp [rdVals], by simp, fun j v hv => by simp at hv⟩
  | o, r :: xs, h => by
    simp only [rdRows] at h
    obtain ⟨h1, vals, h2, h3, h4⟩ := rdRows_vals h.2
    obtain ⟨us, h5, _, h6⟩ := rdCells_vals h.1.2
    have hl := rdVals_length h5
    refine ⟨fun x hx => ?_, us ++ vals, by simpa using rdVals_append h5 h2, fun u hu => ?_, fun j v hv => ?_⟩
    · rcases List.mem_cons.1 hx with rfl | hx
      · exact h.1.1
      · exact h1 x hx
    · rcases List.mem_append.1 hu with hu | hu
      · obtain ⟨j, hj⟩ := List.mem_iff_getElem?.1 hu
        have hj' : j < r.length := by rw [← hl]; exact (List.getElem?_eq_some_iff.1 hj).1
        obtain ⟨_, u', hc, h7, _⟩ := rdCells_get h.1.2 j _ (List.getElem?_eq_getElem hj')
        have := h6 j u hj
        rw [this] at hc
        simp only [Option.some.injEq] at hc
        rw [hc]; exact h7
      · exact h3 u hu
    · by_cases hj : j < us.length
      · exact h6 j v (by rwa [List.getElem?_append_left hj] at hv)
      · rw [List.getElem?_append_right (by omega)] at hv
        have := h4 _ v hv
        rwa [show o + sz + (j - us.length) = o + j by have := h.1.1; omega] at this

theorem rowsV_src (h : Rel N base w0 X S α a w) {sz : Nat} {q : PV} {ys : List (List D)} {v : Value} (hq : rowsV S sz q = some ys) (hv : q.rel S.o α w (okOf X.A S.o α) v) :
    ∃ A c, v = .slice A ys.length c ∧ (A = none → c = 0 ∧ ys = []) ∧ (∀ r ∈ ys, r.length = sz) ∧ ∃ vals, rdVals w (okOf X.A S.o α) ys.flatten vals ∧ (∀ u ∈ vals, u.oneCell' = true) ∧ ∀ ad, A = some ad → ∀ j u, vals[j]? = some u → w.cell? (ad.add j) = some u := by
  have lst : ∀ {xs : List (List D)}, (D.lst sz xs).rd w (okOf X.A S.o α) v → ∃ A c, v = .slice A xs.length c ∧ (A = none → c = 0 ∧ xs = []) ∧ (∀ r ∈ xs, r.length = sz) ∧ ∃ vals, rdVals w (okOf X.A S.o α) xs.flatten vals ∧ (∀ u ∈ vals, u.oneCell' = true) ∧ ∀ ad, A = some ad → ∀ j u, vals[j]? = some u → w.cell? (ad.add j) = some u := by
    intro xs hv
    simp only [D.rd] at hv
    obtain ⟨A, c, rfl, ⟨h1, h2⟩, h3, h4⟩ := hv
    by_cases hx : xs = []
    · subst hx
      exact ⟨A, c, rfl, fun e => ⟨h2 e, rfl⟩, by simp, [], by simp [rdVals], by simp, by simp⟩
    · obtain ⟨b, o, rfl, hr⟩ := h4 hx
      refine ⟨_, c, rfl, by simp, ?_⟩
      obtain ⟨h5, vals, h6, h7, h8⟩ := rdRows_vals hr
      refine ⟨h5, vals, h6, h7, fun ad e j u hj => ?_⟩
      simp only [Option.some.injEq] at e
      subst e
      rw [Addr.add_mid]
      exact h8 j u hj
  unfold rowsV at hq
  split at hq
  · split at hq
    · rename_i e; subst e
      simp only [Option.some.injEq] at hq; subst hq
      exact lst (by simpa only [PV.rel] using hv)
    · cases hq
  · simp only [Option.some.injEq] at hq; subst hq
    simp only [PV.rel] at hv; subst hv
    exact ⟨none, 0, rfl, fun _ => ⟨rfl, rfl⟩, by simp, [], by simp [rdVals], by simp, by simp⟩
  · split at hq
    · rename_i e; subst e
      simp only [Option.some.injEq] at hq; subst hq
      simp only [PV.rel] at hv
      exact lst hv.2
    · cases hq
  · rename_i K ver n
    split at hq
    · rename_i sz' e xs hob
      split at hq
      · rename_i e; subst e
        simp only [Option.some.injEq] at hq; subst hq
        obtain ⟨hl, hx⟩ := obj_some hob
        simp only [PV.rel] at hv
        have hva := hv.2 hl
        subst hva
        obtain ⟨vals, hown, h1, h2, h3⟩ := h.o K _ hx
        have : ∃ A cp, α K = .slice A xs.length cp ∧ (A = none → cp = 0 ∧ xs = []) ∧ ∀ ad, A = some ad → ∀ j u, vals[j]? = some u → w.cell? (ad.add j) = some u := by
          rcases hown.2 with ⟨e1, e2⟩ | ⟨g, cap, cur, e1, _⟩
          · exact ⟨none, 0, by rw [e1, e2], fun _ => ⟨rfl, List.eq_nil_of_length_eq_zero e2⟩, by simp⟩
          · refine ⟨_, cap, e1, by simp, fun ad e j u hj => ?_⟩
            simp only [Option.some.injEq] at e
            subst e
            exact hown.cells (g := g) (by rw [e1]; rfl) j u hj
        obtain ⟨A, cp, e1, e2, e3⟩ := this
        exact ⟨A, cp, e1, e2, h1, vals, h2, h3, e3⟩
      · cases hq
    · cases hq
  · cases hq

theorem own_blk {v : Value} (h : ∃ A n c, v = .slice A n c) : v.ownBlock = hblk v := by
  obtain ⟨A, n, c, rfl⟩ := h
  cases A <;> rfl
theorem own_shape {w : World} {base e sz n : Nat} {hdr : Value} {vals : List Value} (h : w.ownsRow base e sz hdr n vals) : ∃ A n' c, hdr = .slice A n' c := by
  rcases h.2 with ⟨e1, _⟩ | ⟨g, cap, cur, e1, _⟩
  · exact ⟨_, _, _, e1⟩
  · exact ⟨_, _, _, e1⟩

/-- append, at the run's level: to a row of the call's own. -/
theorem run_append_any (P : Program) (w : World) (base t ty e : Nat) (i : TypeInfo) (z : Value) (ht : P.underlying t = some (.slice e)) (hi : P.info? e = some i) (hz : i.zero = some z) (hzs : z.cells.size = i.size) (hsz : 0 < i.size)
    (v : Value) (n : Nat) (xs : List Value) (hown : w.ownsRow base e i.size v n xs) (A : Option Addr) (m c : Nat) (hA : A = none → c = 0) (news : List Value) (hl : news.length = m * i.size) (hmc : A = none → m = 0)
    (hnews : ∀ ad, A = some ad → ∀ j u, news[j]? = some u → w.cell? (ad.add j) = some u) (h1 : ∀ u ∈ news, u.oneCell' = true)
    (h63 : n + m ≤ maxLen) (hbytes : (n + m) * i.bytes ≤ 140737488355328) (hbase : base ≤ w.heap.size) :
    ∃ v' w', (Builtin.append_ #[t, t] ty #[v, .slice A m c]).run P w = .ok v' w' ∧ w'.ownsRow base e i.size v' (n + m) (xs ++ news) ∧ w.grownBy w' v.ownBlock ∧ (v'.ownBlock = v.ownBlock ∨ v'.ownBlock = some w.heap.size) := by
  cases A with
  | none =>
    obtain rfl := hA rfl
    obtain rfl := hmc rfl
    have : news = [] := List.eq_nil_of_length_eq_zero (by rw [hl]; simp)
    subst this
    exact ⟨v, w, run_append_owned_none w base t ty e i i.size ht hi v n xs hown, by simpa using hown, grownBy_refl w _, .inl rfl⟩
  | some ad =>
    obtain ⟨v', w', h2, h3, h4, h5, h6⟩ := run_append_own_at w base t ty e i z i.size i.bytes ht hi hz rfl rfl hzs hsz v n xs hown ad m c news hl (hnews ad rfl) h1 h63 hbytes hbase
    exact ⟨v', w', h2, h3, h4, h6⟩

theorem movOb_self (o : Objs) (K : Nat) (x : Ob) : movOb o K K x = newOb o K x := by
  funext k; unfold movOb newOb; by_cases e : k = K <;> simp [e]
/-- A source of cells told one by one. -/
theorem rowsP_src (h : Rel N base w0 X S α a w) {sz : Nat} {q : PV} {ys : List (List PV)} {v : Value} (hq : rowsP S sz q = some ys) (hv : q.rel S.o α w (okOf X.A S.o α) v) :
    ∃ A c, v = .slice A ys.length c ∧ (A = none → c = 0 ∧ ys = []) ∧ (∀ r ∈ ys, r.length = sz) ∧ ∃ vals, PV.rels S.o α w (okOf X.A S.o α) ys.flatten vals ∧ (∀ u ∈ vals, u.oneCell' = true) ∧ ∀ ad, A = some ad → ∀ j u, vals[j]? = some u → w.cell? (ad.add j) = some u := by
  unfold rowsP at hq
  split at hq
  · rename_i K ver n
    split at hq
    · rename_i sz' e xs hob
      split at hq
      · rename_i e; subst e
        simp only [Option.some.injEq] at hq; subst hq
        obtain ⟨hl, hx⟩ := obj_some hob
        simp only [PV.rel] at hv
        have hva := hv.2 hl
        subst hva
        obtain ⟨vals, hown, h1, h2, h3⟩ := h.o K _ hx
        have : ∃ A cp, α K = .slice A xs.length cp ∧ (A = none → cp = 0 ∧ xs = []) ∧ ∀ ad, A = some ad → ∀ j u, vals[j]? = some u → w.cell? (ad.add j) = some u := by
          rcases hown.2 with ⟨e1, e2⟩ | ⟨g, cap, cur, e1, _⟩
          · exact ⟨none, 0, by rw [e1, e2], fun _ => ⟨rfl, List.eq_nil_of_length_eq_zero e2⟩, by simp⟩
          · refine ⟨_, cap, e1, by simp, fun ad e j u hj => ?_⟩
            simp only [Option.some.injEq] at e
            subst e
            exact hown.cells (g := g) (by rw [e1]; rfl) j u hj
        obtain ⟨A, cp, e1, e2, e3⟩ := this
        exact ⟨A, cp, e1, e2, h1, vals, h2, h3, e3⟩
      · cases hq
    · cases hq
  · cases hq
section
variable {te : TI} {e : Nat}
theorem app_max (hE : EnvOk E) (hte : E.ty e = some te) {n : Nat} (hn : n * te.bytes ≤ 140737488355328) : n ≤ maxLen := by
  obtain ⟨_, _, _, _, h3, hb0⟩ := ty_info hE hte
  have := Nat.le_trans (Nat.le_mul_of_pos_right n hb0) hn
  simp only [maxLen]; omega
theorem run_appR (hE : EnvOk E) (h : Rel N base w0 X S α a w) {K t ty : Nat} {d : Nat} (hK : d < N) (ht : E.tk t = some (.slice e)) (hte : E.ty e = some te) {s x : PV} {ys : List (List D)} (hys : rowsV S te.size x = some ys) {c : Prop} {p : PV} {o' : Objs} (hq : appR te S K e s ys = some (c, p, o')) (hc : c) {vs vx : Value} (hs : s.rel S.o α w (okOf X.A S.o α) vs) (hx : x.rel S.o α w (okOf X.A S.o α) vx) :
    ∃ α' v w', (Builtin.append_ #[t, t] ty #[vs, vx]).run E.P w = .ok v w' ∧ Rel N base w0 X { (S.put (some d) p) with o := o' } α' (a.put (some d) v) w' := by
  obtain ⟨_, _, _, _, hsz0, hb0⟩ := ty_info hE hte
  unfold appR at hq
  split at hq
  · split at hq
    · rename_i hpl
      simp only [Option.some.injEq, Prod.mk.injEq] at hq
      obtain ⟨rfl, rfl, rfl⟩ := hq
      obtain ⟨i, z, hi, hsi, hbi, hz, hzc, hzo, hzl⟩ := ty_zero hE hte (by unfold plainTI at hpl; split at hpl <;> simp_all)
      obtain ⟨A, cx, rfl, hA, hrows, vals, hv1, hv2, hv3⟩ := rowsV_src h hys hx
      simp only [PV.rel] at hs
      subst hs
      have hlen : vals.length = ys.length * i.size := by rw [rdVals_length hv1, flat_length hrows, hsi]
      have hzs : z.cells.size = i.size := by rw [← Array.length_toList, hzc, List.length_map, hzl, hsi]
      have hm0 : A = none → ys.length = 0 := fun e => by rw [(hA e).2]; rfl
      obtain ⟨v', w', h2, h3, h4, h5⟩ := run_append_any E.P w base t ty e i z (tk_slice hE ht) hi hz hzs (by omega) (.slice none 0 0) 0 [] (World.ownsRow_nil w base e i.size) A ys.length cx (fun e => (hA e).1) vals hlen hm0 hv3 hv2 (by simpa using app_max hE hte hc) (by simpa [hbi] using hc) h.base
      refine ⟨hup α K v', v', w', h2, h.new (hdr := v') (by simpa using hK) h4 (fun g hg => ?_) (fun hk htn => ?_) (fun hk htn => ?_)⟩
      · rw [own_blk (own_shape h3), hg] at h5
        simp [Value.ownBlock] at h5
        omega
      · refine ⟨vals, by simpa [hsi] using h3, hrows, rdVals_keeps hk _ _ hv1, hv2⟩
      · simp only [rowNew, PV.rel]
        exact ⟨⟨by simpa using own_hdr h3, by simp [newOb]⟩, fun _ => by rw [hup_same]⟩
    · cases hq
  · rename_i K0 v0 n0
    split at hq
    · rename_i sz e' xs hob
      split at hq
      · rename_i hcond
        obtain ⟨hpl, rfl, rfl⟩ := hcond
        simp only [Option.some.injEq, Prod.mk.injEq] at hq
        obtain ⟨rfl, rfl, rfl⟩ := hq
        obtain ⟨i, z, hi, hsi, hbi, hz, hzc, hzo, hzl⟩ := ty_zero hE hte (by unfold plainTI at hpl; split at hpl <;> simp_all)
        obtain ⟨hl0, hx0⟩ := obj_some hob
        simp only [PV.rel] at hs
        have hva := hs.2 hl0
        subst hva
        obtain ⟨A, cx, rfl, hA, hrows, vals, hv1, hv2, hv3⟩ := rowsV_src h hys hx
        obtain ⟨us, hown, hu1, hu2, hu3⟩ := h.o K0 _ hx0
        have hlen : vals.length = ys.length * i.size := by rw [rdVals_length hv1, flat_length hrows, hsi]
        have hzs : z.cells.size = i.size := by rw [← Array.length_toList, hzc, List.length_map, hzl, hsi]
        have hm0 : A = none → ys.length = 0 := fun e => by rw [(hA e).2]; rfl
        obtain ⟨v', w', h2, h3, h4, h5⟩ := run_append_any E.P w base t ty e' i z (tk_slice hE ht) hi hz hzs (by omega) (α K0) xs.length us (by rw [hsi]; exact hown) A ys.length cx (fun e => (hA e).1) vals hlen hm0 hv3 hv2 (by simpa using app_max hE hte hc) (by simpa [hbi] using hc) h.base
        have hbl := own_blk (own_shape hown)
        rw [← movOb_self]
        refine ⟨hup α K0 v', v', w', h2, h.mov (hdr := v') (by simpa using hK) (by rw [← hbl]; exact h4) hx0 (fun g hg => ?_) (fun hk htn => ?_) (fun hk htn => ?_)⟩
        · rw [own_blk (own_shape h3), hg, hbl] at h5
          rcases h5 with h5 | h5
          · exact .inl h5.symm
          · simp at h5; exact .inr (by omega)
        · refine ⟨us ++ vals, by rw [List.length_append]; rw [hsi] at h3; exact h3, fun r hr => ?_, ?_, fun u hu => ?_⟩
          · rcases List.mem_append.1 hr with hr | hr
            · exact hu1 r hr
            · exact hrows r hr
          · rw [List.flatten_append]
            exact rdVals_append (rdVals_keeps hk _ _ hu2) (rdVals_keeps hk _ _ hv1)
          · rcases List.mem_append.1 hu with hu | hu
            · exact hu3 u hu
            · exact hv2 u hu
        · simp only [rowNew, PV.rel]
          exact ⟨⟨own_hdr h3, by simp [movOb]⟩, fun _ => by rw [hup_same]⟩
      · cases hq
    · cases hq
  · cases hq
theorem run_appP (hE : EnvOk E) (h : Rel N base w0 X S α a w) {K t ty : Nat} {d : Nat} (hK : d < N) (ht : E.tk t = some (.slice e)) (hte : E.ty e = some te) {s x : PV} {ys : List (List PV)} (hys : rowsP S te.size x = some ys) {c : Prop} {p : PV} {o' : Objs} (hq : appP te S K e s ys = some (c, p, o')) (hc : c) {vs vx : Value} (hs : s.rel S.o α w (okOf X.A S.o α) vs) (hx : x.rel S.o α w (okOf X.A S.o α) vx) :
    ∃ α' v w', (Builtin.append_ #[t, t] ty #[vs, vx]).run E.P w = .ok v w' ∧ Rel N base w0 X { (S.put (some d) p) with o := o' } α' (a.put (some d) v) w' := by
  obtain ⟨_, _, _, _, hsz0, hb0⟩ := ty_info hE hte
  unfold appP at hq
  split at hq
  · split at hq
    · rename_i hpl
      simp only [Option.some.injEq, Prod.mk.injEq] at hq
      obtain ⟨rfl, rfl, rfl⟩ := hq
      obtain ⟨i, z, hi, hsi, hbi, hz, hzc, hzo, hzl⟩ := ty_zero hE hte (by unfold plainTI at hpl; split at hpl <;> simp_all)
      obtain ⟨A, cx, rfl, hA, hrows, vals, hv1, hv2, hv3⟩ := rowsP_src h hys hx
      simp only [PV.rel] at hs
      subst hs
      have hlen : vals.length = ys.length * i.size := by rw [PV.rels_length hv1, flat_length hrows, hsi]
      have hzs : z.cells.size = i.size := by rw [← Array.length_toList, hzc, List.length_map, hzl, hsi]
      have hm0 : A = none → ys.length = 0 := fun e => by rw [(hA e).2]; rfl
      obtain ⟨v', w', h2, h3, h4, h5⟩ := run_append_any E.P w base t ty e i z (tk_slice hE ht) hi hz hzs (by omega) (.slice none 0 0) 0 [] (World.ownsRow_nil w base e i.size) A ys.length cx (fun e => (hA e).1) vals hlen hm0 hv3 hv2 (by simpa using app_max hE hte hc) (by simpa [hbi] using hc) h.base
      refine ⟨hup α K v', v', w', h2, h.new (hdr := v') (by simpa using hK) h4 (fun g hg => ?_) (fun hk htn => ?_) (fun hk htn => ?_)⟩
      · rw [own_blk (own_shape h3), hg] at h5
        simp [Value.ownBlock] at h5
        omega
      · refine ⟨vals, by simpa [hsi] using h3, hrows, PV.rels_turn hk htn _ _ hv1, hv2⟩
      · simp only [rowNew, PV.rel]
        exact ⟨⟨by simpa using own_hdr h3, by simp [newOb]⟩, fun _ => by rw [hup_same]⟩
    · cases hq
  · rename_i K0 v0 n0
    split at hq
    · rename_i sz e' xs hob
      split at hq
      · rename_i hcond
        obtain ⟨hpl, rfl, rfl⟩ := hcond
        simp only [Option.some.injEq, Prod.mk.injEq] at hq
        obtain ⟨rfl, rfl, rfl⟩ := hq
        obtain ⟨i, z, hi, hsi, hbi, hz, hzc, hzo, hzl⟩ := ty_zero hE hte (by unfold plainTI at hpl; split at hpl <;> simp_all)
        obtain ⟨hl0, hx0⟩ := obj_some hob
        simp only [PV.rel] at hs
        have hva := hs.2 hl0
        subst hva
        obtain ⟨A, cx, rfl, hA, hrows, vals, hv1, hv2, hv3⟩ := rowsP_src h hys hx
        obtain ⟨us, hown, hu1, hu2, hu3⟩ := h.o K0 _ hx0
        have hlen : vals.length = ys.length * i.size := by rw [PV.rels_length hv1, flat_length hrows, hsi]
        have hzs : z.cells.size = i.size := by rw [← Array.length_toList, hzc, List.length_map, hzl, hsi]
        have hm0 : A = none → ys.length = 0 := fun e => by rw [(hA e).2]; rfl
        obtain ⟨v', w', h2, h3, h4, h5⟩ := run_append_any E.P w base t ty e' i z (tk_slice hE ht) hi hz hzs (by omega) (α K0) xs.length us (by rw [hsi]; exact hown) A ys.length cx (fun e => (hA e).1) vals hlen hm0 hv3 hv2 (by simpa using app_max hE hte hc) (by simpa [hbi] using hc) h.base
        have hbl := own_blk (own_shape hown)
        rw [← movOb_self]
        refine ⟨hup α K0 v', v', w', h2, h.mov (hdr := v') (by simpa using hK) (by rw [← hbl]; exact h4) hx0 (fun g hg => ?_) (fun hk htn => ?_) (fun hk htn => ?_)⟩
        · rw [own_blk (own_shape h3), hg, hbl] at h5
          rcases h5 with h5 | h5
          · exact .inl h5.symm
          · simp at h5; exact .inr (by omega)
        · refine ⟨us ++ vals, by rw [List.length_append]; rw [hsi] at h3; exact h3, fun r hr => ?_, ?_, fun u hu => ?_⟩
          · rcases List.mem_append.1 hr with hr | hr
            · exact hu1 r hr
            · exact hrows r hr
          · rw [List.flatten_append]
            exact PV.rels_append (PV.rels_turn hk htn _ _ hu2) (PV.rels_turn hk htn _ _ hv1)
          · rcases List.mem_append.1 hu with hu | hu
            · exact hu3 u hu
            · exact hv2 u hu
        · simp only [rowNew, PV.rel]
          exact ⟨⟨own_hdr h3, by simp [movOb]⟩, fun _ => by rw [hup_same]⟩
      · cases hq
    · cases hq
  · cases hq
end
theorem run_appE (hE : EnvOk E) (h : Rel N base w0 X S α a w) {K t ty : Nat} {d : Nat} (hK : d < N) {s x : PV} {c : Prop} {p : PV} {o' : Objs} (hq : appE E S K t s x = some (c, p, o')) (hc : c) {vs vx : Value} (hs : s.rel S.o α w (okOf X.A S.o α) vs) (hx : x.rel S.o α w (okOf X.A S.o α) vx) :
    ∃ α' v w', (Builtin.append_ #[t, t] ty #[vs, vx]).run E.P w = .ok v w' ∧ Rel N base w0 X { (S.put (some d) p) with o := o' } α' (a.put (some d) v) w' := by
  unfold appE at hq
  split at hq
  · rename_i e ht
    split at hq
    · rename_i te hte
      split at hq
      · rename_i ys hys
        exact run_appR hE h hK ht hte hys hq hc hs hx
      · split at hq
        · rename_i ys hys
          exact run_appP hE h hK ht hte hys hq hc hs hx
        · cases hq
    · cases hq
  · cases hq
end
end Go.Proofs.Ytomnjbebgfadoaa.Pi
