/- The pure interpreter's operations that make or write objects are sound, continued: stores, make, literals; all of them together.
   Conditions: none; lemmas. -/
import Derived.Test.YtomnjbebgfadoaaPiJ
set_option linter.unusedVariables false
set_option linter.unusedSimpArgs false
namespace Go.Proofs.Ytomnjbebgfadoaa.Pi
open Go Go.RowKit

section
variable {E : Env} {N base : Nat} {w0 : World} {X : Fr} {S : St} {α : Nat → Value} {a : Act} {w : World}

theorem run_boxE (h : Rel N base w0 X S α a w) {K t : Nat} {d : Nat} (hK : d < N) {x : PV} {c : Prop} {p : PV} {o' : Objs} (hq : boxE E S K t x = some (c, p, o')) {vx : Value} (hx : x.rel S.o α w (okOf X.A S.o α) vx) :
    ∃ α' v w', (Instr.box t vx).run E.P w = .ok v w' ∧ Rel N base w0 X { (S.put (some d) p) with o := o' } α' (a.put (some d) v) w' := by
  unfold boxE at hq
  split at hq
  · rename_i ti cs ht hcs
    simp only [Option.some.injEq, Prod.mk.injEq] at hq
    obtain ⟨_, rfl, rfl⟩ := hq
    exact ⟨_, .pointer (some ⟨w.heap.size, 0, none⟩), w.alloc (.cells vx.cells t), by simp [Instr.box, newVar, newRow], h.newBox hK (cells_rel hcs hx) (cells_ones hcs hx)⟩
  · cases hq

theorem run_storeAt' (hE : EnvOk E) {t : Nat} {ti : TI} (ht : E.ty t = some ti) {g q e : Nat} {cur : Array Value} (hg : w.heap[g]? = some (.cells cur e (0, 0))) {x : Value} (hx : x.cells.size = ti.size) (hq : q + ti.size ≤ cur.size) (h1 : ∀ u ∈ x.cells.toList, u.oneCell' = true) :
    (Instr.storeAt t (.pointer (some ⟨g, q, none⟩)) x).run E.P w = .ok () (w.setRow g (cur.toList.take q ++ x.cells.toList ++ cur.toList.drop (q + x.cells.size)).toArray) := by
  obtain ⟨i, hi, hs, _⟩ := ty_info hE ht
  have := run_storeCells_at (P := E.P) g q e x.cells.toList 0 cur w hg (by simp; omega) h1
  simp only [Nat.add_zero, Array.length_toList] at this
  simp [Instr.storeAt, Instr.sureAddr, storeVar, sizeOf, typeInfo, hi, hs, hx, this]

theorem splice_rels {o : Objs} {α : Nat → Value} {w : World} {ok : Nat → Prop} {bs cs : List PV} {us vs : List Value} (hb : PV.rels o α w ok bs us) (hc : PV.rels o α w ok cs vs) (q : Nat) : PV.rels o α w ok (bs.take q ++ cs ++ bs.drop (q + cs.length)) (us.take q ++ vs ++ us.drop (q + vs.length)) := by
  refine PV.rels_append (PV.rels_append (PV.rels_take hb _) hc) ?_
  rw [PV.rels_length hc]
  exact PV.rels_drop hb _
theorem splice_vals {w : World} {ok : Nat → Prop} {bs cs : List D} {us vs : List Value} (hb : rdVals w ok bs us) (hc : rdVals w ok cs vs) (q : Nat) : rdVals w ok (bs.take q ++ cs ++ bs.drop (q + cs.length)) (us.take q ++ vs ++ us.drop (q + vs.length)) := by
  refine rdVals_append (rdVals_append (rdVals_take _ hb) hc) ?_
  rw [rdVals_length hc]
  exact rdVals_drop _ hb
theorem splice_ones {us vs : List Value} (hu : ∀ u ∈ us, u.oneCell' = true) (hv : ∀ u ∈ vs, u.oneCell' = true) (q k : Nat) : ∀ u ∈ us.take q ++ vs ++ us.drop k, u.oneCell' = true := by
  intro u h
  rcases List.mem_append.1 h with h | h
  · rcases List.mem_append.1 h with h | h
    · exact hu u (List.mem_of_mem_take h)
    · exact hv u h
  · exact hu u (List.mem_of_mem_drop h)

/-- One row of several is written. -/
theorem flat_set {α : Type} {sz : Nat} : ∀ {rs : List (List α)}, (∀ r ∈ rs, r.length = sz) → ∀ {i : Nat} {r : List α}, rs[i]? = some r → ∀ (off : Nat) (ds : List α), off + ds.length ≤ sz →
    (rs.set i (r.take off ++ ds ++ r.drop (off + ds.length))).flatten = rs.flatten.take (i * sz + off) ++ ds ++ rs.flatten.drop (i * sz + off + ds.length)
  | [], _, i, r, hi, _, _, _ => by simp at hi
  | r0 :: rs, h, 0, r, hi, off, ds, hl => by
    simp at hi; subst hi
    have h0 : r0.length = sz := h r0 (by simp)
    simp only [List.set_cons_zero, List.flatten_cons, Nat.zero_mul, Nat.zero_add]
    rw [List.take_append_of_le_length (by omega), List.drop_append_of_le_length (by omega)]
    simp [List.append_assoc]
  | r0 :: rs, h, i + 1, r, hi, off, ds, hl => by
    have h0 : r0.length = sz := h r0 (by simp)
    have ih := flat_set (rs := rs) (fun y hy => h y (List.mem_cons_of_mem _ hy)) (i := i) (r := r) (by simpa using hi) off ds hl
    simp only [List.set_cons_succ, List.flatten_cons, ih]
    have e1 : (i + 1) * sz + off = r0.length + (i * sz + off) := by rw [Nat.add_mul, h0]; omega
    have e2 : (i + 1) * sz + off + ds.length = r0.length + (i * sz + off + ds.length) := by rw [Nat.add_mul, h0]; omega
    rw [e2, e1, List.take_length_add_append, List.drop_length_add_append]
    simp [List.append_assoc]

theorem take_splice {α : Type} (cur us : List α) (m q : Nat) (h : q + us.length ≤ m) (hm : m ≤ cur.length) :
    (cur.take q ++ us ++ cur.drop (q + us.length)).take m = (cur.take m).take q ++ us ++ (cur.take m).drop (q + us.length) := by
  have e1 : (cur.take m).take q = cur.take q := by rw [List.take_take, Nat.min_eq_left (by omega)]
  have e2 : (cur.take q ++ us).length = q + us.length := by simp; omega
  rw [e1, List.take_append, List.take_of_length_le (by omega), e2, List.drop_take]

theorem run_storeE (hE : EnvOk E) (h : Rel N base w0 X S α a w) {dst : Option Nat} (hdst : ∀ d, dst = some d → d < N) {t : Nat} {adr x : PV} {c : Prop} {p : PV} {o' : Objs} (hq : storeE E S t adr x = some (c, p, o')) (hc : c)
    {va vx : Value} (ha : adr.rel S.o α w (okOf X.A S.o α) va) (hx : x.rel S.o α w (okOf X.A S.o α) vx) :
    ∃ α' w', (Instr.storeAt t va vx).run E.P w = .ok () w' ∧ Rel N base w0 X { (S.put dst p) with o := o' } α' (a.put dst undef) w' := by
  unfold storeE at hq
  split at hq
  · rename_i ti K ver sz i off cs ht hcs
    have hcr := cells_rel hcs hx
    have hco := cells_ones hcs hx
    have hcl := PV.rels_length hcr
    simp only [Array.length_toList] at hcl
    simp only [PV.rel] at ha
    split at hq
    · rename_i e bs hob
      obtain ⟨hl, hx0⟩ := obj_some hob
      obtain ⟨g, hg, rfl⟩ := ha.2 hl
      simp only [Option.some.injEq, Prod.mk.injEq] at hq
      obtain ⟨rfl, rfl, rfl⟩ := hq
      obtain ⟨hc1, hc2⟩ := hc
      obtain ⟨g', vals, hhdr, hb, hh, hr, hones⟩ := h.o K _ hx0
      have hg' : g' = g := by rw [hhdr] at hg; simpa [hblk] using hg
      subst hg'
      have hbl := PV.rels_length hr
      simp only [Array.length_toList] at hbl
      have hrun := run_storeAt' hE ht hh (x := vx) (q := i * sz + off) (by omega) (by omega) hco
      refine ⟨α, _, hrun, h.set hdst (grownBy_setRow w g' _) hx0 hg (fun hk htn => ?_) (fun hk htn => by simp only [PV.rel])⟩
      refine ⟨g', _, hhdr, hb, setRow_heap w g' _ _ _ _ hh, ?_, ?_⟩
      · have := splice_rels (PV.rels_turn hk htn _ _ hr) (PV.rels_turn hk htn _ _ hcr) (i * sz + off)
        simpa [Array.length_toList] using this
      · exact splice_ones hones hco _ _
    · rename_i sz' e xs hob
      obtain ⟨hl, hx0⟩ := obj_some hob
      obtain ⟨g, hg, rfl⟩ := ha.2 hl
      split at hq
      · rename_i te hte
        split at hq
        · rename_i ds hds
          split at hq
          · rename_i hsz
            subst hsz
            simp only [Option.some.injEq, Prod.mk.injEq] at hq
            obtain ⟨rfl, rfl, rfl⟩ := hq
            obtain ⟨hc1, hc2, hc3⟩ := hc
            obtain ⟨vals, hown, hrows, hrd, hones⟩ := h.o K _ hx0
            have hdr := dcells_rd hds hcr
            have hdl : ds.length = cs.length := by rw [← rdVals_length hdr, PV.rels_length hcr]
            have hri : xs[i]? = some (xs.getD i te.zero) := by simp [hc2]
            generalize xs.getD i te.zero = r at hri ⊢
            have hrl := hrows r (List.mem_of_getElem? hri)
            obtain ⟨cap, hhdr, hn, hm, hbg⟩ := own_head hown hg
            rcases hown.2 with ⟨e1, _⟩ | ⟨g', cap', cur, e1, hb', hh, hn', hm', hcs', htake⟩
            · rw [hhdr] at e1; simp at e1
            · rw [hhdr] at e1
              simp only [Value.slice.injEq, Option.some.injEq, Addr.mk.injEq, and_true, true_and] at e1
              obtain ⟨rfl, rfl⟩ := e1
              have hle : i * sz + sz ≤ xs.length * sz := by
                have : (i + 1) * sz ≤ xs.length * sz := Nat.mul_le_mul_right sz hc2
                rw [Nat.add_mul] at this; omega
              have hle2 : xs.length * sz ≤ cap * sz := Nat.mul_le_mul_right sz hn
              have hrun := run_storeAt' hE ht hh (x := vx) (q := i * sz + off) (by omega) (by omega) hco
              refine ⟨α, _, hrun, h.set hdst (grownBy_setRow w g _) hx0 hg (fun hk htn => ?_) (fun hk htn => by simp only [PV.rel])⟩
              have hvl : vals.length = xs.length * sz := hown.1
              have hnew : (cur.toList.take (i * sz + off) ++ vx.cells.toList ++ cur.toList.drop (i * sz + off + vx.cells.toList.length)).take (xs.length * sz) = vals.take (i * sz + off) ++ vx.cells.toList ++ vals.drop (i * sz + off + vx.cells.toList.length) := by
                rw [← htake]
                exact take_splice _ _ _ _ (by simp; omega) (by simp; omega)
              refine ⟨vals.take (i * sz + off) ++ vx.cells.toList ++ vals.drop (i * sz + off + vx.cells.toList.length), ⟨?_, .inr ⟨g, cap, _, by rw [hhdr, List.length_set], hbg, setRow_heap w g _ _ _ _ hh, by rw [List.length_set]; exact hn, hm, ?_, ?_⟩⟩, ?_, ?_, splice_ones hones hco _ _⟩
              · rw [List.length_set]
                simp
                omega
              · simp
                omega
              · rw [List.length_set]
                simpa using hnew
              · intro r' hr'
                rcases List.mem_or_eq_of_mem_set hr' with hr' | rfl
                · exact hrows r' hr'
                · simp; omega
              · have hfs := flat_set hrows hri off ds (by omega)
                rw [hdl] at hfs
                rw [hfs, ← hdl]
                have := splice_vals (rdVals_keeps hk _ _ hrd) (rdVals_keeps hk _ _ hdr) (i * sz + off)
                rw [hdl] at this ⊢
                simpa using this
          · cases hq
        · cases hq
      · cases hq
    · rename_i sz' e xs hob
      obtain ⟨hl, hx0⟩ := obj_some hob
      obtain ⟨g, hg, rfl⟩ := ha.2 hl
      split at hq
      · rename_i hsz
        subst hsz
        simp only [Option.some.injEq, Prod.mk.injEq] at hq
        obtain ⟨rfl, rfl, rfl⟩ := hq
        obtain ⟨hc1, hc2, hc3⟩ := hc
        obtain ⟨vals, hown, hrows, hrd, hones⟩ := h.o K _ hx0
        have hdl := PV.rels_length hcr
        have hri : xs[i]? = some (xs.getD i []) := by simp [hc2]
        generalize xs.getD i [] = r at hri ⊢
        have hrl := hrows r (List.mem_of_getElem? hri)
        obtain ⟨cap, hhdr, hn, hm, hbg⟩ := own_head hown hg
        rcases hown.2 with ⟨e1, _⟩ | ⟨g', cap', cur, e1, hb', hh, hn', hm', hcs', htake⟩
        · rw [hhdr] at e1; simp at e1
        · rw [hhdr] at e1
          simp only [Value.slice.injEq, Option.some.injEq, Addr.mk.injEq, and_true, true_and] at e1
          obtain ⟨rfl, rfl⟩ := e1
          have hle : i * sz + sz ≤ xs.length * sz := by
            have : (i + 1) * sz ≤ xs.length * sz := Nat.mul_le_mul_right sz hc2
            rw [Nat.add_mul] at this; omega
          have hle2 : xs.length * sz ≤ cap * sz := Nat.mul_le_mul_right sz hn
          have hrun := run_storeAt' hE ht hh (x := vx) (q := i * sz + off) (by omega) (by omega) hco
          refine ⟨α, _, hrun, h.set hdst (grownBy_setRow w g _) hx0 hg (fun hk htn => ?_) (fun hk htn => by simp only [PV.rel])⟩
          have hvl : vals.length = xs.length * sz := hown.1
          have hnew : (cur.toList.take (i * sz + off) ++ vx.cells.toList ++ cur.toList.drop (i * sz + off + vx.cells.toList.length)).take (xs.length * sz) = vals.take (i * sz + off) ++ vx.cells.toList ++ vals.drop (i * sz + off + vx.cells.toList.length) := by
            rw [← htake]
            exact take_splice _ _ _ _ (by simp; omega) (by simp; omega)
          refine ⟨vals.take (i * sz + off) ++ vx.cells.toList ++ vals.drop (i * sz + off + vx.cells.toList.length), ⟨?_, .inr ⟨g, cap, _, by rw [hhdr, List.length_set], hbg, setRow_heap w g _ _ _ _ hh, by rw [List.length_set]; exact hn, hm, ?_, ?_⟩⟩, ?_, ?_, splice_ones hones hco _ _⟩
          · rw [List.length_set]
            simp
            omega
          · simp
            omega
          · rw [List.length_set]
            simpa using hnew
          · intro r' hr'
            rcases List.mem_or_eq_of_mem_set hr' with hr' | rfl
            · exact hrows r' hr'
            · simp; omega
          · have hfs := flat_set hrows hri off cs (by omega)
            rw [hfs]
            have := splice_rels (PV.rels_turn hk htn _ _ hrd) (PV.rels_turn hk htn _ _ hcr) (i * sz + off)
            simpa using this
      · cases hq
    · cases hq
  · cases hq

theorem made_flat {z : List Value} {n : Nat} (hz : 0 < z.length) : (madeCells z.toArray (n * z.length)).toList = (List.replicate n z).flatten := by
  apply List.ext_getElem?
  intro j
  have hfl : (List.replicate n z).flatten.length = n * z.length := by rw [flat_length (sz := z.length)]; simp; simp
  by_cases hj : j < n * z.length
  · have h1 : j / z.length < n := (Nat.div_lt_iff_lt_mul hz).2 hj
    have h2 : j % z.length < z.length := Nat.mod_lt _ hz
    have h3 := flat_get (rs := List.replicate n z) (sz := z.length) (by simp) (j / z.length) (j % z.length) z _ (by simp [h1]) (List.getElem?_eq_getElem h2)
    rw [show j / z.length * z.length + j % z.length = j by rw [Nat.mul_comm]; exact Nat.div_add_mod j _] at h3
    rw [h3]
    simp [madeCells, hj, h2]
  · rw [List.getElem?_eq_none (by simp [madeCells]; omega), List.getElem?_eq_none (by rw [hfl]; omega)]

theorem reps_vals {w : World} {ok : Nat → Prop} {zs : List D} (h : ∀ d ∈ zs, zok d = true) : ∀ n, rdVals w ok (List.replicate n zs).flatten (List.replicate n (zs.map zval)).flatten
  | 0 => by simp [rdVals]
  | n + 1 => by
    simp only [List.replicate_succ, List.flatten_cons]
    exact rdVals_append (zvals_rd h) (reps_vals h n)

theorem reps_rels {o : Objs} {w : World} {ok : Nat → Prop} {zs : List D} (h : ∀ d ∈ zs, zok d = true) : ∀ n, PV.rels o α w ok (List.replicate n (zs.map zpv)).flatten (List.replicate n (zs.map zval)).flatten
  | 0 => by simp [PV.rels]
  | n + 1 => by
    simp only [List.replicate_succ, List.flatten_cons]
    exact PV.rels_append (zpvs_rel h) (reps_rels h n)
theorem run_makeE (hE : EnvOk E) (h : Rel N base w0 X S α a w) {K t : Nat} {d : Nat} (hK : d < N) {cells : Bool} {l m : PV} {c : Prop} {p : PV} {o' : Objs} (hq : makeE E S K t cells l m = some (c, p, o')) (hc : c) {vl vm : Value} (hl : l.rel S.o α w (okOf X.A S.o α) vl) (hm : m.rel S.o α w (okOf X.A S.o α) vm) :
    ∃ α' v w', (Instr.makeSlice t vl vm).run E.P w = .ok v w' ∧ Rel N base w0 X { (S.put (some d) p) with o := o' } α' (a.put (some d) v) w' := by
  unfold makeE at hq
  split at hq
  · rename_i e k1 n k2 m ht
    simp only [PV.rel, D.rd] at hl hm
    subst hl; subst hm
    split at hq
    · rename_i te hte
      split at hq
      · rename_i hpl
        simp only [Option.some.injEq, Prod.mk.injEq] at hq
        obtain ⟨rfl, rfl, rfl⟩ := hq
        obtain ⟨rfl, hc1, hc2⟩ := hc
        obtain ⟨i, z, hi, hsi, hbi, hz, hzc, hzo, hzl⟩ := ty_zero hE hte (by unfold plainTI at hpl; split at hpl <;> simp_all)
        obtain ⟨_, _, _, _, hsz0, hb0⟩ := ty_info hE hte
        obtain ⟨q, rfl⟩ := Int.eq_ofNat_of_zero_le hc1
        have hq2 : q * te.bytes ≤ 281474976710656 := by rwa [Int.toNat_natCast] at hc2
        have hqm : q ≤ 281474976710656 := Nat.le_trans (Nat.le_mul_of_pos_right q hb0) hq2
        have hqm' : q ≤ maxLen := Nat.le_trans hqm (by decide)
        obtain ⟨w', h1, h2, h3⟩ := run_make_full w base t e i z te.size (tk_slice hE ht) hi hz hsi k1 k2 q (by rw [hbi, Nat.mul_comm]; exact hq2) hqm' h.base
        have hzcs : z.cells = (te.zero.map zval).toArray := by rw [← hzc]
        have hmf : (madeCells z.cells (q * te.size)).toList = (List.replicate q (te.zero.map zval)).flatten := by
          have := made_flat (z := te.zero.map zval) (n := q) (by rw [List.length_map]; omega)
          rw [hzcs, ← this, List.length_map, hzl]
        rw [hmf] at h2
        have hones : ∀ u ∈ (List.replicate q (te.zero.map zval)).flatten, u.oneCell' = true := by
          intro u hu
          obtain ⟨x, hx, hux⟩ := List.mem_flatten.1 hu
          rw [List.eq_of_mem_replicate hx] at hux
          obtain ⟨d, hd, rfl⟩ := List.mem_map.1 hux
          exact zval_one (hzo d hd)
        refine ⟨_, _, w', h1, h.new (hdr := .slice (some ⟨w.heap.size, 0, none⟩) q q) (by simpa using hK) h3 (fun g hg => by simp [hblk] at hg; omega) (fun hk htn => ?_) (fun hk htn => ?_)⟩
        · split
          · refine ⟨_, by simpa using h2, ?_, ?_, hones⟩
            · intro r hr
              rw [List.eq_of_mem_replicate hr, List.length_map, hzl]
            · simpa using reps_rels hzo q
          · refine ⟨_, by simpa using h2, ?_, ?_, hones⟩
            · intro r hr
              rw [List.eq_of_mem_replicate hr, hzl]
            · simpa using reps_vals hzo q
        · simp only [rowNew, PV.rel]
          exact ⟨⟨⟨some ⟨w.heap.size, 0, none⟩, q, by simp, by simpa using hqm', fun _ => ⟨_, rfl⟩⟩, by simp [newOb]⟩, fun _ => by rw [hup_same]⟩
      · cases hq
    · cases hq
  · cases hq

theorem chunk_flat {α : Type} (sz : Nat) : ∀ (n : Nat) (ds : List α), ds.length = n * sz → (chunk sz n ds).flatten = ds ∧ (∀ r ∈ chunk sz n ds, r.length = sz) ∧ (chunk sz n ds).length = n
  | 0, ds, h => by
    have : ds = [] := List.eq_nil_of_length_eq_zero (by simpa using h)
    simp [chunk, this]
  | n + 1, ds, h => by
    rw [Nat.add_mul] at h
    obtain ⟨h1, h2, h3⟩ := chunk_flat sz n (ds.drop sz) (by simp; omega)
    refine ⟨by simp [chunk, h1], fun r hr => ?_, by simp [chunk, h3]⟩
    rcases List.mem_cons.1 hr with rfl | hr
    · simp; omega
    · exact h2 r hr

theorem fillP_length : ∀ {fs : List FI} {cells cells' : List PV} {parts : List (Nat × PV)}, fillP fs cells parts = some cells' → cells'.length = cells.length := by
  intro fs cells cells' parts
  induction parts generalizing cells with
  | nil => intro h; simp only [fillP, Option.some.injEq] at h; rw [h]
  | cons x parts ih =>
    intro h
    obtain ⟨j, q⟩ := x
    rw [fillP] at h
    split at h
    · split at h
      · rw [ih h]; simp; omega
      · cases h
    · cases h
/-- A slice literal: its cells in a new block. -/
theorem run_litRowsP (hE : EnvOk E) {t n e : Nat} {te : TI} (ht : E.tk t = some (.slice e)) (hte : E.ty e = some te) (hpl : plainTI te = true) (hn : n * te.size ≤ 16777216) {parts : List (Nat × PV)} {vparts : Array (Nat × Value)} {cs : List PV} (hcs : fillP (elemsFI te.size n) (((List.replicate n te.zero).flatten).map zpv) parts = some cs)
    {ov : Objs} {ok : Nat → Prop} (hp : partsRel ov α w ok parts vparts.toList) :
    ∃ cells, (Instr.buildSlice t n vparts).run E.P w = .ok (.slice (some ⟨w.heap.size, 0, none⟩) n n) (w.alloc (.cells cells e)) ∧ cs.length = n * te.size ∧ PV.rels ov α w ok cs cells.toList ∧ (∀ u ∈ cells.toList, u.oneCell' = true) := by
  obtain ⟨i, z, hi, hsi, hbi, hz, hzc, hzo, hzl⟩ := ty_zero hE hte (by unfold plainTI at hpl; split at hpl <;> simp_all)
  obtain ⟨_, _, _, _, hsz0, hb0⟩ := ty_info hE hte
  have hzcs : z.cells = (te.zero.map zval).toArray := by rw [← hzc]
  have hzz : ((Array.range (n * i.size)).map (z.cells[· % z.cells.size]!)).toList = (((List.replicate n te.zero).flatten).map zval) := by
    have := made_flat (z := te.zero.map zval) (n := n) (by rw [List.length_map]; omega)
    rw [List.length_map, hzl] at this
    unfold madeCells at this
    rw [hzcs, hsi, this]
    simp [List.map_flatten]
  have hall : ∀ d ∈ (List.replicate n te.zero).flatten, zok d = true := by
    intro d hd
    obtain ⟨x, hx, hdx⟩ := List.mem_flatten.1 hd
    rw [List.eq_of_mem_replicate hx] at hdx
    exact hzo d hdx
  obtain ⟨cells, h1, h2, h3⟩ := fill_rel (place := fun j => some (j * i.size, i.size)) (fs := elemsFI te.size n) (fun j x hx => by
      unfold elemsFI at hx
      simp only [List.getElem?_map, Option.map_eq_some_iff] at hx
      obtain ⟨q, hq, rfl⟩ := hx
      have : q = j := by
        have := List.getElem?_eq_some_iff.1 hq
        obtain ⟨_, h⟩ := this
        simpa using h.symm
      simp [this, hsi]) hp hcs (vals := (Array.range (n * i.size)).map (z.cells[· % z.cells.size]!)) (by rw [hzz]; exact zpvs_rel hall) (by
      rw [hzz]; intro u hu
      obtain ⟨d, hd, rfl⟩ := List.mem_map.1 hu
      exact zval_one (hall d hd))
  have hcl : cs.length = n * te.size := by
    have h7 := fillP_length hcs
    rw [List.length_map, flat_length (sz := te.size) (by intro r hr; rw [List.eq_of_mem_replicate hr, hzl]), List.length_replicate] at h7
    exact h7
  by_cases hn0 : n = 0
  · subst hn0
    have hp0 : parts = [] := by
      cases parts with
      | nil => rfl
      | cons x rest =>
        obtain ⟨i, p⟩ := x
        simp [fillP, elemsFI] at hcs
    subst hp0
    simp only [partsRel] at hp
    obtain rfl : vparts = #[] := by rw [← Array.toList_inj]; exact hp
    have hcs0 : cs = [] := List.length_eq_zero_iff.1 (by rw [hcl, Nat.zero_mul])
    subst hcs0
    have hr : ∀ f : Nat → Value, Array.map f (Array.range 0) = #[] := fun f => Array.eq_empty_of_size_eq_zero (by simp)
    exact ⟨#[], by simp [Instr.buildSlice, run_underlying (tk_slice hE ht), sizeOf, typeInfo, hi, Instr.fill, newRow, hr], by simp, by simp [PV.rels], by simp⟩
  have hpos : 0 < n * te.size := Nat.mul_pos (by omega) hsz0
  exact ⟨cells, run_buildSlice w t e n vparts cells i z (tk_slice hE ht) hi hz (by rw [hsi]; omega) (by rw [hsi]; omega) h1, hcl, h2, h3⟩
theorem run_litRows (hE : EnvOk E) {t n e : Nat} {te : TI} (ht : E.tk t = some (.slice e)) (hte : E.ty e = some te) (hpl : plainTI te = true) (hn : n * te.size ≤ 16777216) {parts : List (Nat × PV)} {vparts : Array (Nat × Value)} {rows : List (List D)} (hr : litRows te n parts = some rows)
    {ov : Objs} {ok : Nat → Prop} (hp : partsRel ov α w ok parts vparts.toList) :
    ∃ cells, (Instr.buildSlice t n vparts).run E.P w = .ok (.slice (some ⟨w.heap.size, 0, none⟩) n n) (w.alloc (.cells cells e)) ∧ rows.length = n ∧ (∀ r ∈ rows, r.length = te.size) ∧ rdVals w ok rows.flatten cells.toList ∧ (∀ u ∈ cells.toList, u.oneCell' = true) := by
  unfold litRows at hr
  simp only [Option.bind_eq_some_iff, Option.map_eq_some_iff] at hr
  obtain ⟨cs, hcs, ds, hds, rfl⟩ := hr
  obtain ⟨cells, h1, h2, h3, h4⟩ := run_litRowsP hE ht hte hpl hn hcs hp
  have hrd := dcells_rd hds h3
  have hdl : ds.length = n * te.size := by
    have h5 := rdVals_length hrd
    have h6 := PV.rels_length h3
    omega
  obtain ⟨c1, c2, c3⟩ := chunk_flat te.size n ds hdl
  exact ⟨cells, h1, c3, c2, by rw [c1]; exact hrd, h4⟩

theorem rdRows_of {w : World} {ok : Nat → Prop} {sz b : Nat} : ∀ {rows : List (List D)} {vals : List Value} {o : Nat}, (∀ r ∈ rows, r.length = sz) → rdVals w ok rows.flatten vals → (∀ u ∈ vals, u.oneCell' = true) → w.rangeAt b o vals → ok b → rdRows w ok sz b o rows := by
  intro rows vals o hrows hrd hones hrange hok
  refine rdRows_mk fun i r hr => ⟨hrows r (List.mem_of_getElem? hr), rdCells_mk fun j d hd => ⟨hok, ?_⟩⟩
  have := flat_get hrows i j r d hr hd
  obtain ⟨u, hu, hdu⟩ := rdVals_get hrd _ d this
  have hc := hrange _ u hu
  exact ⟨u, by rwa [show o + (i * sz + j) = o + i * sz + j by omega] at hc, hones u (List.mem_of_getElem? hu), hdu⟩

theorem run_litE (hE : EnvOk E) (h : Rel N base w0 X S α a w) {K t n : Nat} {d : Nat} (hK : d < N) {parts : List (Nat × PV)} {vparts : Array (Nat × Value)} {c : Prop} {p : PV} {o' : Objs} (hq : litE E S K t n parts = some (c, p, o')) (hp : partsRel S.o α w (okOf X.A S.o α) parts vparts.toList) :
    ∃ α' v w', (Instr.buildSlice t n vparts).run E.P w = .ok v w' ∧ Rel N base w0 X { (S.put (some d) p) with o := o' } α' (a.put (some d) v) w' := by
  unfold litE at hq
  split at hq
  · rename_i e ht
    split at hq
    · rename_i te hte
      split at hq
      · rename_i hcond
        obtain ⟨_, _, _, _, hsz0, hb0⟩ := ty_info hE hte
        have hnm : n ≤ maxLen := by
          have := Nat.le_trans (Nat.le_mul_of_pos_right n hsz0) hcond.2
          simp only [maxLen]; omega
        split at hq
        · rename_i rows hrows
          simp only [Option.some.injEq, Prod.mk.injEq] at hq
          obtain ⟨_, rfl, rfl⟩ := hq
          obtain ⟨cells, h1, h2, h3, h4, h5⟩ := run_litRows (α := α) (w := w) hE ht hte hcond.1 hcond.2 hrows hp
          have hcl : cells.size = n * te.size := by
            have := rdVals_length h4
            rw [flat_length h3, h2] at this
            simpa using this
          refine ⟨_, _, _, h1, h.new (hdr := .slice (some ⟨w.heap.size, 0, none⟩) n n) (by simpa using hK) (grownBy_alloc' w _) (fun g hg => by simp [hblk] at hg; omega) (fun hk htn => ?_) (fun hk htn => ?_)⟩
          · refine ⟨cells.toList, ?_, h3, rdVals_keeps hk _ _ h4, h5⟩
            rw [h2]
            exact World.ownsRow_lit w cells n h.base hnm hcl
          · simp only [rowNew, PV.rel]
            exact ⟨⟨⟨_, _, rfl, hnm, fun _ => ⟨_, rfl⟩⟩, by simp [newOb]⟩, fun _ => by rw [hup_same]⟩
        · obtain ⟨rows, hrows, he⟩ := Option.map_eq_some_iff.1 hq
          simp only [Prod.mk.injEq] at he
          obtain ⟨_, rfl, rfl⟩ := he
          unfold litRowsP at hrows
          obtain ⟨cs, hcs, rfl⟩ := Option.map_eq_some_iff.1 hrows
          obtain ⟨cells, h1, h2, h4, h5⟩ := run_litRowsP (α := α) (w := w) hE ht hte hcond.1 hcond.2 hcs hp
          obtain ⟨c1, c2, c3⟩ := chunk_flat te.size n cs h2
          have hcl : cells.size = n * te.size := by
            have := PV.rels_length h4
            simp only [Array.length_toList] at this
            omega
          refine ⟨_, _, _, h1, h.new (hdr := .slice (some ⟨w.heap.size, 0, none⟩) n n) (by simpa using hK) (grownBy_alloc' w _) (fun g hg => by simp [hblk] at hg; omega) (fun hk htn => ?_) (fun hk htn => ?_)⟩
          · refine ⟨cells.toList, ?_, c2, by rw [c1]; exact PV.rels_turn hk htn _ _ h4, h5⟩
            rw [c3]
            exact World.ownsRow_lit w cells n h.base hnm hcl
          · simp only [rowNew, PV.rel]
            exact ⟨⟨⟨_, _, rfl, hnm, fun _ => ⟨_, rfl⟩⟩, by simp [newOb]⟩, fun _ => by rw [hup_same]⟩
      · cases hq
    · cases hq
  · cases hq

/-- A literal that is only read. -/
theorem run_litV (hE : EnvOk E) (h : Rel N base w0 X S α a w) {dst : Option Nat} (hdst : ∀ d, dst = some d → d < N) {t n : Nat} {parts : List (Nat × PV)} {vparts : Array (Nat × Value)} {c : Prop} {p : PV} (hq : litV E t n parts = some (c, p)) (hp : partsRel S.o α w (okOf X.A S.o α) parts vparts.toList) :
    ∃ v w', (Instr.buildSlice t n vparts).run E.P w = .ok v w' ∧ Rel N base w0 X (S.put dst p) α (a.put dst v) w' := by
  unfold litV at hq
  split at hq
  · rename_i e ht
    split at hq
    · rename_i te hte
      split at hq
      · rename_i hcond
        obtain ⟨rows, hrows, he⟩ := Option.map_eq_some_iff.1 hq
        simp only [Prod.mk.injEq] at he
        obtain ⟨_, rfl⟩ := he
        obtain ⟨cells, h1, h2, h3, h4, h5⟩ := run_litRows (α := α) (w := w) hE ht hte hcond.1 hcond.2 hrows hp
        obtain ⟨_, _, _, _, hsz0, hb0⟩ := ty_info hE hte
        have hnm : n ≤ maxLen := by
          have := Nat.le_trans (Nat.le_mul_of_pos_right n hsz0) hcond.2
          simp only [maxLen]; omega
        refine ⟨_, _, h1, h.plain hdst (grownBy_alloc' w _) fun hk => ?_⟩
        simp only [PV.rel, D.rd]
        refine ⟨some ⟨w.heap.size, 0, none⟩, n, by rw [h2], ⟨by omega, by simp⟩, by omega, fun _ => ⟨w.heap.size, 0, rfl, ?_⟩⟩
        refine rdRows_of h3 (rdVals_keeps hk _ _ h4) h5 (fun j v hv => ?_) ⟨h.free _ h.base, fun K hK hg => ?_⟩
        · simp only [Nat.zero_add, World.cell?, heap_alloc_new]
          simpa using hv
        · cases hx : (S.o K).2 with
          | none => exact hK hx
          | some x => have := (Ob.rel_lt (h.o K x hx) _ hg).2; omega
      · cases hq
    · cases hq
  · cases hq
end
end Go.Proofs.Ytomnjbebgfadoaa.Pi
