/- The pure interpreter's operations that make or write objects are sound, continued: stores, make, literals; all of them together.
   Conditions: none; lemmas. -/
import Derived.Test.YtomnjbebgfadoaaG1
import Derived.LoopN
import Derived.Tactics
section
set_option linter.unusedVariables false
set_option linter.unusedSimpArgs false
namespace Go.Proofs.Ytomnjbebgfadoaa.Pi
open Go Go.RowKit

section
variable {E : Env} {N base : Nat} {w0 : World} {X : Fr} {S : St} {α : Nat → Value} {a : Act} {w : World}

theorem run_boxE (h : Rel N base w0 X S α a w) {K t : Nat} {d : Nat} (hK : d < N) {x : PV} {c : Prop} {p : PV} {o' : Objs} (hq : boxE E S K t x = some (c, p, o')) {vx : Value} (hx : x.rel S.o α w (okOf X.A S.o α) vx) :
    ∃ α' v w', (Instr.box t vx).run E.P w = .ok v w' ∧ Rel N base w0 X { (S.put (some d) p) with o := o' } α' (a.put (some d) v) w' := by
  unfold boxE at hq
  split at hq
  · rename_i ti cs ht hcs
    simp only [Option.some.injEq, Prod.mk.injEq] at hq
    obtain ⟨_, rfl, rfl⟩ := hq
    exact ⟨_, .pointer (some ⟨w.heap.size, 0, none⟩), w.alloc (.cells vx.cells t), by simp [Instr.box, newVar, newRow], h.newBox hK (cells_rel hcs hx) (cells_ones hcs hx)⟩
  · cases hq

theorem run_storeAt' (hE : EnvOk E) {t : Nat} {ti : TI} (ht : E.ty t = some ti) {g q e : Nat} {cur : Array Value} (hg : w.heap[g]? = some (.cells cur e (0, 0))) {x : Value} (hx : x.cells.size = ti.size) (hq : q + ti.size ≤ cur.size) (h1 : ∀ u ∈ x.cells.toList, u.oneCell' = true) :
    (Instr.storeAt t (.pointer (some ⟨g, q, none⟩)) x).run E.P w = .ok () (w.setRow g (cur.toList.take q ++ x.cells.toList ++ cur.toList.drop (q + x.cells.size)).toArray) := by
  obtain ⟨i, hi, hs, _⟩ := ty_info hE ht
  have := run_storeCells_at (P := E.P) g q e x.cells.toList 0 cur w hg (by simp; omega) h1
  simp only [Nat.add_zero, Array.length_toList] at this
  simp [Instr.storeAt, Instr.sureAddr, storeVar, sizeOf, typeInfo, hi, hs, hx, this]

theorem splice_rels {o : Objs} {α : Nat → Value} {w : World} {ok : Nat → Prop} {bs cs : List PV} {us vs : List Value} (hb : PV.rels o α w ok bs us) (hc : PV.rels o α w ok cs vs) (q : Nat) : PV.rels o α w ok (bs.take q ++ cs ++ bs.drop (q + cs.length)) (us.take q ++ vs ++ us.drop (q + vs.length)) := by
  refine PV.rels_append (PV.rels_append (PV.rels_take hb _) hc) ?_
  rw [PV.rels_length hc]
  exact PV.rels_drop hb _
theorem splice_vals {w : World} {ok : Nat → Prop} {bs cs : List D} {us vs : List Value} (hb : rdVals w ok bs us) (hc : rdVals w ok cs vs) (q : Nat) : rdVals w ok (bs.take q ++ cs ++ bs.drop (q + cs.length)) (us.take q ++ vs ++ us.drop (q + vs.length)) := by
  refine rdVals_append (rdVals_append (rdVals_take _ hb) hc) ?_
  rw [rdVals_length hc]
  exact rdVals_drop _ hb
theorem splice_ones {us vs : List Value} (hu : ∀ u ∈ us, u.oneCell' = true) (hv : ∀ u ∈ vs, u.oneCell' = true) (q k : Nat) : ∀ u ∈ us.take q ++ vs ++ us.drop k, u.oneCell' = true := by
  intro u h
  rcases List.mem_append.1 h with h | h
  · rcases List.mem_append.1 h with h | h
    · exact hu u (List.mem_of_mem_take h)
    · exact hv u h
  · exact hu u (List.mem_of_mem_drop h)

/-- One row of several is written. -/
theorem flat_set {α : Type} {sz : Nat} : ∀ {rs : List (List α)}, (∀ r ∈ rs, r.length = sz) → ∀ {i : Nat} {r : List α}, rs[i]? = some r → ∀ (off : Nat) (ds : List α), off + ds.length ≤ sz →
    (rs.set i (r.take off ++ ds ++ r.drop (off + ds.length))).flatten = rs.flatten.take (i * sz + off) ++ ds ++ rs.flatten.drop (i * sz + off + ds.length)
  | [], _, i, r, hi, _, _, _ => by simp at hi
  | r0 :: rs, h, 0, r, hi, off, ds, hl => by
    simp at hi; subst hi
    have h0 : r0.length = sz := h r0 (by simp)
    simp only [List.set_cons_zero, List.flatten_cons, Nat.zero_mul, Nat.zero_add]
    rw [List.take_append_of_le_length (by omega), List.drop_append_of_le_length (by omega)]
    simp [List.append_assoc]
  | r0 :: rs, h, i + 1, r, hi, off, ds, hl => by
    have h0 : r0.length = sz := h r0 (by simp)
    have ih := flat_set (rs := rs) (fun y hy => h y (List.mem_cons_of_mem _ hy)) (i := i) (r := r) (by simpa using hi) off ds hl
    simp only [List.set_cons_succ, List.flatten_cons, ih]
    have e1 : (i + 1) * sz + off = r0.length + (i * sz + off) := by rw [Nat.add_mul, h0]; omega
    have e2 : (i + 1) * sz + off + ds.length = r0.length + (i * sz + off + ds.length) := by rw [Nat.add_mul, h0]; omega
    rw [e2, e1, List.take_length_add_append, List.drop_length_add_append]
    simp [List.append_assoc]

theorem take_splice {α : Type} (cur us : List α) (m q : Nat) (h : q + us.length ≤ m) (hm : m ≤ cur.length) :
    (cur.take q ++ us ++ cur.drop (q + us.length)).take m = (cur.take m).take q ++ us ++ (cur.take m).drop (q + us.length) := by
  have e1 : (cur.take m).take q = cur.take q := by rw [List.take_take, Nat.min_eq_left (by omega)]
  have e2 : (cur.take q ++ us).length = q + us.length := by simp; omega
  rw [e1, List.take_append, List.take_of_length_le (by omega), e2, List.drop_take]

theorem run_storeE (hE : EnvOk E) (h : Rel N base w0 X S α a w) {dst : Option Nat} (hdst : ∀ d, dst = some d → d < N) {t : Nat} {adr x : PV} {c : Prop} {p : PV} {o' : Objs} (hq : storeE E S t adr x = some (c, p, o')) (hc : c)
    {va vx : Value} (ha : adr.rel S.o α w (okOf X.A S.o α) va) (hx : x.rel S.o α w (okOf X.A S.o α) vx) :
    ∃ α' w', (Instr.storeAt t va vx).run E.P w = .ok () w' ∧ Rel N base w0 X { (S.put dst p) with o := o' } α' (a.put dst undef) w' := by
  unfold storeE at hq
  split at hq
  · rename_i ti K ver sz i off cs ht hcs
    have hcr := cells_rel hcs hx
    have hco := cells_ones hcs hx
    have hcl := PV.rels_length hcr
    simp only [Array.length_toList] at hcl
    simp only [PV.rel] at ha
    split at hq
    · rename_i e bs hob
      obtain ⟨hl, hx0⟩ := obj_some hob
      obtain ⟨g, hg, rfl⟩ := ha.2 hl
      simp only [Option.some.injEq, Prod.mk.injEq] at hq
      obtain ⟨rfl, rfl, rfl⟩ := hq
      obtain ⟨hc1, hc2⟩ := hc
      obtain ⟨g', vals, hhdr, hb, hh, hr, hones⟩ := h.o K _ hx0
      have hg' : g' = g := by rw [hhdr] at hg; simpa [hblk] using hg
      subst hg'
      have hbl := PV.rels_length hr
      simp only [Array.length_toList] at hbl
      have hrun := run_storeAt' hE ht hh (x := vx) (q := i * sz + off) (by omega) (by omega) hco
      refine ⟨α, _, hrun, h.set hdst (grownBy_setRow w g' _) hx0 hg (fun hk htn => ?_) (fun hk htn => by simp only [PV.rel])⟩
      refine ⟨g', _, hhdr, hb, setRow_heap w g' _ _ _ _ hh, ?_, ?_⟩
      · have := splice_rels (PV.rels_turn hk htn _ _ hr) (PV.rels_turn hk htn _ _ hcr) (i * sz + off)
        simpa [Array.length_toList] using this
      · exact splice_ones hones hco _ _
    · rename_i sz' e xs hob
      obtain ⟨hl, hx0⟩ := obj_some hob
      obtain ⟨g, hg, rfl⟩ := ha.2 hl
      split at hq
      · rename_i te hte
        split at hq
        · rename_i ds hds
          split at hq
          · rename_i hsz
            subst hsz
            simp only [Option.some.injEq, Prod.mk.injEq] at hq
            obtain ⟨rfl, rfl, rfl⟩ := hq
            obtain ⟨hc1, hc2, hc3⟩ := hc
            obtain ⟨vals, hown, hrows, hrd, hones⟩ := h.o K _ hx0
            have hdr := dcells_rd hds hcr
            have hdl : ds.length = cs.length := by rw [← rdVals_length hdr, PV.rels_length hcr]
            have hri : xs[i]? = some (xs.getD i te.zero) := by simp [hc2]
            generalize xs.getD i te.zero = r at hri ⊢
            have hrl := hrows r (List.mem_of_getElem? hri)
            obtain ⟨cap, hhdr, hn, hm, hbg⟩ := own_head hown hg
            rcases hown.2 with ⟨e1, _⟩ | ⟨g', cap', cur, e1, hb', hh, hn', hm', hcs', htake⟩
            · rw [hhdr] at e1; simp at e1
            · rw [hhdr] at e1
              simp only [Value.slice.injEq, Option.some.injEq, Addr.mk.injEq, and_true, true_and] at e1
              obtain ⟨rfl, rfl⟩ := e1
              have hle : i * sz + sz ≤ xs.length * sz := by
                have : (i + 1) * sz ≤ xs.length * sz := Nat.mul_le_mul_right sz hc2
                rw [Nat.add_mul] at this; omega
              have hle2 : xs.length * sz ≤ cap * sz := Nat.mul_le_mul_right sz hn
              have hrun := run_storeAt' hE ht hh (x := vx) (q := i * sz + off) (by omega) (by omega) hco
              refine ⟨α, _, hrun, h.set hdst (grownBy_setRow w g _) hx0 hg (fun hk htn => ?_) (fun hk htn => by simp only [PV.rel])⟩
              have hvl : vals.length = xs.length * sz := hown.1
              have hnew : (cur.toList.take (i * sz + off) ++ vx.cells.toList ++ cur.toList.drop (i * sz + off + vx.cells.toList.length)).take (xs.length * sz) = vals.take (i * sz + off) ++ vx.cells.toList ++ vals.drop (i * sz + off + vx.cells.toList.length) := by
                rw [← htake]
                exact take_splice _ _ _ _ (by simp; omega) (by simp; omega)
              refine ⟨vals.take (i * sz + off) ++ vx.cells.toList ++ vals.drop (i * sz + off + vx.cells.toList.length), ⟨?_, .inr ⟨g, cap, _, by rw [hhdr, List.length_set], hbg, setRow_heap w g _ _ _ _ hh, by rw [List.length_set]; exact hn, hm, ?_, ?_⟩⟩, ?_, ?_, splice_ones hones hco _ _⟩
              · rw [List.length_set]
                simp
                omega
              · simp
                omega
              · rw [List.length_set]
                simpa using hnew
              · intro r' hr'
                rcases List.mem_or_eq_of_mem_set hr' with hr' | rfl
                · exact hrows r' hr'
                · simp; omega
              · have hfs := flat_set hrows hri off ds (by omega)
                rw [hdl] at hfs
                rw [hfs, ← hdl]
                have := splice_vals (rdVals_keeps hk _ _ hrd) (rdVals_keeps hk _ _ hdr) (i * sz + off)
                rw [hdl] at this ⊢
                simpa using this
          · cases hq
        · cases hq
      · cases hq
    · rename_i sz' e xs hob
      obtain ⟨hl, hx0⟩ := obj_some hob
      obtain ⟨g, hg, rfl⟩ := ha.2 hl
      split at hq
      · rename_i hsz
        subst hsz
        simp only [Option.some.injEq, Prod.mk.injEq] at hq
        obtain ⟨rfl, rfl, rfl⟩ := hq
        obtain ⟨hc1, hc2, hc3⟩ := hc
        obtain ⟨vals, hown, hrows, hrd, hones⟩ := h.o K _ hx0
        have hdl := PV.rels_length hcr
        have hri : xs[i]? = some (xs.getD i []) := by simp [hc2]
        generalize xs.getD i [] = r at hri ⊢
        have hrl := hrows r (List.mem_of_getElem? hri)
        obtain ⟨cap, hhdr, hn, hm, hbg⟩ := own_head hown hg
        rcases hown.2 with ⟨e1, _⟩ | ⟨g', cap', cur, e1, hb', hh, hn', hm', hcs', htake⟩
        · rw [hhdr] at e1; simp at e1
        · rw [hhdr] at e1
          simp only [Value.slice.injEq, Option.some.injEq, Addr.mk.injEq, and_true, true_and] at e1
          obtain ⟨rfl, rfl⟩ := e1
          have hle : i * sz + sz ≤ xs.length * sz := by
            have : (i + 1) * sz ≤ xs.length * sz := Nat.mul_le_mul_right sz hc2
            rw [Nat.add_mul] at this; omega
          have hle2 : xs.length * sz ≤ cap * sz := Nat.mul_le_mul_right sz hn
          have hrun := run_storeAt' hE ht hh (x := vx) (q := i * sz + off) (by omega) (by omega) hco
          refine ⟨α, _, hrun, h.set hdst (grownBy_setRow w g _) hx0 hg (fun hk htn => ?_) (fun hk htn => by simp only [PV.rel])⟩
          have hvl : vals.length = xs.length * sz := hown.1
          have hnew : (cur.toList.take (i * sz + off) ++ vx.cells.toList ++ cur.toList.drop (i * sz + off + vx.cells.toList.length)).take (xs.length * sz) = vals.take (i * sz + off) ++ vx.cells.toList ++ vals.drop (i * sz + off + vx.cells.toList.length) := by
            rw [← htake]
            exact take_splice _ _ _ _ (by simp; omega) (by simp; omega)
          refine ⟨vals.take (i * sz + off) ++ vx.cells.toList ++ vals.drop (i * sz + off + vx.cells.toList.length), ⟨?_, .inr ⟨g, cap, _, by rw [hhdr, List.length_set], hbg, setRow_heap w g _ _ _ _ hh, by rw [List.length_set]; exact hn, hm, ?_, ?_⟩⟩, ?_, ?_, splice_ones hones hco _ _⟩
          · rw [List.length_set]
            simp
            omega
          · simp
            omega
          · rw [List.length_set]
            simpa using hnew
          · intro r' hr'
            rcases List.mem_or_eq_of_mem_set hr' with hr' | rfl
            · exact hrows r' hr'
            · simp; omega
          · have hfs := flat_set hrows hri off cs (by omega)
            rw [hfs]
            have := splice_rels (PV.rels_turn hk htn _ _ hrd) (PV.rels_turn hk htn _ _ hcr) (i * sz + off)
            simpa using this
      · cases hq
    · cases hq
  · cases hq

theorem made_flat {z : List Value} {n : Nat} (hz : 0 < z.length) : (madeCells z.toArray (n * z.length)).toList = (List.replicate n z).flatten := by
  apply List.ext_getElem?
  intro j
  have hfl : (List.replicate n z).flatten.length = n * z.length := by rw [flat_length (sz := z.length)]; simp; simp
  by_cases hj : j < n * z.length
  · have h1 : j / z.length < n := (Nat.div_lt_iff_lt_mul hz).2 hj
    have h2 : j % z.length < z.length := Nat.mod_lt _ hz
    have h3 := flat_get (rs := List.replicate n z) (sz := z.length) (by simp) (j / z.length) (j % z.length) z _ (by simp [h1]) (List.getElem?_eq_getElem h2)
    rw [show j / z.length * z.length + j % z.length = j by rw [Nat.mul_comm]; exact Nat.div_add_mod j _] at h3
    rw [h3]
    simp [madeCells, hj, h2]
  · rw [List.getElem?_eq_none (by simp [madeCells]; omega), List.getElem?_eq_none (by rw [hfl]; omega)]

theorem reps_vals {w : World} {ok : Nat → Prop} {zs : List D} (h : ∀ d ∈ zs, zok d = true) : ∀ n, rdVals w ok (List.replicate n zs).flatten (List.replicate n (zs.map zval)).flatten
  | 0 => by simp [rdVals]
  | n + 1 => by
    simp only [List.replicate_succ, List.flatten_cons]
    exact rdVals_append (zvals_rd h) (reps_vals h n)

theorem reps_rels {o : Objs} {w : World} {ok : Nat → Prop} {zs : List D} (h : ∀ d ∈ zs, zok d = true) : ∀ n, PV.rels o α w ok (List.replicate n (zs.map zpv)).flatten (List.replicate n (zs.map zval)).flatten
  | 0 => by simp [PV.rels]
  | n + 1 => by
    simp only [List.replicate_succ, List.flatten_cons]
    exact PV.rels_append (zpvs_rel h) (reps_rels h n)
theorem run_makeE (hE : EnvOk E) (h : Rel N base w0 X S α a w) {K t : Nat} {d : Nat} (hK : d < N) {cells : Bool} {l m : PV} {c : Prop} {p : PV} {o' : Objs} (hq : makeE E S K t cells l m = some (c, p, o')) (hc : c) {vl vm : Value} (hl : l.rel S.o α w (okOf X.A S.o α) vl) (hm : m.rel S.o α w (okOf X.A S.o α) vm) :
    ∃ α' v w', (Instr.makeSlice t vl vm).run E.P w = .ok v w' ∧ Rel N base w0 X { (S.put (some d) p) with o := o' } α' (a.put (some d) v) w' := by
  unfold makeE at hq
  split at hq
  · rename_i e k1 n k2 m ht
    simp only [PV.rel, D.rd] at hl hm
    subst hl; subst hm
    split at hq
    · rename_i te hte
      split at hq
      · rename_i hpl
        simp only [Option.some.injEq, Prod.mk.injEq] at hq
        obtain ⟨rfl, rfl, rfl⟩ := hq
        obtain ⟨rfl, hc1, hc2⟩ := hc
        obtain ⟨i, z, hi, hsi, hbi, hz, hzc, hzo, hzl⟩ := ty_zero hE hte (by unfold plainTI at hpl; split at hpl <;> simp_all)
        obtain ⟨_, _, _, _, hsz0, hb0⟩ := ty_info hE hte
        obtain ⟨q, rfl⟩ := Int.eq_ofNat_of_zero_le hc1
        have hq2 : q * te.bytes ≤ 281474976710656 := by rwa [Int.toNat_natCast] at hc2
        have hqm : q ≤ 281474976710656 := Nat.le_trans (Nat.le_mul_of_pos_right q hb0) hq2
        have hqm' : q ≤ maxLen := Nat.le_trans hqm (by decide)
        obtain ⟨w', h1, h2, h3⟩ := run_make_full w base t e i z te.size (tk_slice hE ht) hi hz hsi k1 k2 q (by rw [hbi, Nat.mul_comm]; exact hq2) hqm' h.base
        have hzcs : z.cells = (te.zero.map zval).toArray := by rw [← hzc]
        have hmf : (madeCells z.cells (q * te.size)).toList = (List.replicate q (te.zero.map zval)).flatten := by
          have := made_flat (z := te.zero.map zval) (n := q) (by rw [List.length_map]; omega)
          rw [hzcs, ← this, List.length_map, hzl]
        rw [hmf] at h2
        have hones : ∀ u ∈ (List.replicate q (te.zero.map zval)).flatten, u.oneCell' = true := by
          intro u hu
          obtain ⟨x, hx, hux⟩ := List.mem_flatten.1 hu
          rw [List.eq_of_mem_replicate hx] at hux
          obtain ⟨d, hd, rfl⟩ := List.mem_map.1 hux
          exact zval_one (hzo d hd)
        refine ⟨_, _, w', h1, h.new (hdr := .slice (some ⟨w.heap.size, 0, none⟩) q q) (by simpa using hK) h3 (fun g hg => by simp [hblk] at hg; omega) (fun hk htn => ?_) (fun hk htn => ?_)⟩
        · split
          · refine ⟨_, by simpa using h2, ?_, ?_, hones⟩
            · intro r hr
              rw [List.eq_of_mem_replicate hr, List.length_map, hzl]
            · simpa using reps_rels hzo q
          · refine ⟨_, by simpa using h2, ?_, ?_, hones⟩
            · intro r hr
              rw [List.eq_of_mem_replicate hr, hzl]
            · simpa using reps_vals hzo q
        · simp only [rowNew, PV.rel]
          exact ⟨⟨⟨some ⟨w.heap.size, 0, none⟩, q, by simp, by simpa using hqm', fun _ => ⟨_, rfl⟩⟩, by simp [newOb]⟩, fun _ => by rw [hup_same]⟩
      · cases hq
    · cases hq
  · cases hq

theorem chunk_flat {α : Type} (sz : Nat) : ∀ (n : Nat) (ds : List α), ds.length = n * sz → (chunk sz n ds).flatten = ds ∧ (∀ r ∈ chunk sz n ds, r.length = sz) ∧ (chunk sz n ds).length = n
  | 0, ds, h => by
    have : ds = [] := List.eq_nil_of_length_eq_zero (by simpa using h)
    simp [chunk, this]
  | n + 1, ds, h => by
    rw [Nat.add_mul] at h
    obtain ⟨h1, h2, h3⟩ := chunk_flat sz n (ds.drop sz) (by simp; omega)
    refine ⟨by simp [chunk, h1], fun r hr => ?_, by simp [chunk, h3]⟩
    rcases List.mem_cons.1 hr with rfl | hr
    · simp; omega
    · exact h2 r hr

theorem fillP_length : ∀ {fs : List FI} {cells cells' : List PV} {parts : List (Nat × PV)}, fillP fs cells parts = some cells' → cells'.length = cells.length := by
  intro fs cells cells' parts
  induction parts generalizing cells with
  | nil => intro h; simp only [fillP, Option.some.injEq] at h; rw [h]
  | cons x parts ih =>
    intro h
    obtain ⟨j, q⟩ := x
    rw [fillP] at h
    split at h
    · split at h
      · rw [ih h]; simp; omega
      · cases h
    · cases h
/-- A slice literal: its cells in a new block. -/
theorem run_litRowsP (hE : EnvOk E) {t n e : Nat} {te : TI} (ht : E.tk t = some (.slice e)) (hte : E.ty e = some te) (hpl : plainTI te = true) (hn : n * te.size ≤ 16777216) {parts : List (Nat × PV)} {vparts : Array (Nat × Value)} {cs : List PV} (hcs : fillP (elemsFI te.size n) (((List.replicate n te.zero).flatten).map zpv) parts = some cs)
    {ov : Objs} {ok : Nat → Prop} (hp : partsRel ov α w ok parts vparts.toList) :
    ∃ cells, (Instr.buildSlice t n vparts).run E.P w = .ok (.slice (some ⟨w.heap.size, 0, none⟩) n n) (w.alloc (.cells cells e)) ∧ cs.length = n * te.size ∧ PV.rels ov α w ok cs cells.toList ∧ (∀ u ∈ cells.toList, u.oneCell' = true) := by
  obtain ⟨i, z, hi, hsi, hbi, hz, hzc, hzo, hzl⟩ := ty_zero hE hte (by unfold plainTI at hpl; split at hpl <;> simp_all)
  obtain ⟨_, _, _, _, hsz0, hb0⟩ := ty_info hE hte
  have hzcs : z.cells = (te.zero.map zval).toArray := by rw [← hzc]
  have hzz : ((Array.range (n * i.size)).map (z.cells[· % z.cells.size]!)).toList = (((List.replicate n te.zero).flatten).map zval) := by
    have := made_flat (z := te.zero.map zval) (n := n) (by rw [List.length_map]; omega)
    rw [List.length_map, hzl] at this
    unfold madeCells at this
    rw [hzcs, hsi, this]
    simp [List.map_flatten]
  have hall : ∀ d ∈ (List.replicate n te.zero).flatten, zok d = true := by
    intro d hd
    obtain ⟨x, hx, hdx⟩ := List.mem_flatten.1 hd
    rw [List.eq_of_mem_replicate hx] at hdx
    exact hzo d hdx
  obtain ⟨cells, h1, h2, h3⟩ := fill_rel (place := fun j => some (j * i.size, i.size)) (fs := elemsFI te.size n) (fun j x hx => by
      unfold elemsFI at hx
      simp only [List.getElem?_map, Option.map_eq_some_iff] at hx
      obtain ⟨q, hq, rfl⟩ := hx
      have : q = j := by
        have := List.getElem?_eq_some_iff.1 hq
        obtain ⟨_, h⟩ := this
        simpa using h.symm
      simp [this, hsi]) hp hcs (vals := (Array.range (n * i.size)).map (z.cells[· % z.cells.size]!)) (by rw [hzz]; exact zpvs_rel hall) (by
      rw [hzz]; intro u hu
      obtain ⟨d, hd, rfl⟩ := List.mem_map.1 hu
      exact zval_one (hall d hd))
  have hcl : cs.length = n * te.size := by
    have h7 := fillP_length hcs
    rw [List.length_map, flat_length (sz := te.size) (by intro r hr; rw [List.eq_of_mem_replicate hr, hzl]), List.length_replicate] at h7
    exact h7
  by_cases hn0 : n = 0
  · subst hn0
    have hp0 : parts = [] := by
      cases parts with
      | nil => rfl
      | cons x rest =>
        obtain ⟨i, p⟩ := x
        simp [fillP, elemsFI] at hcs
    subst hp0
    simp only [partsRel] at hp
    obtain rfl : vparts = #[] := by rw [← Array.toList_inj]; exact hp
    have hcs0 : cs = [] := List.length_eq_zero_iff.1 (by rw [hcl, Nat.zero_mul])
    subst hcs0
    have hr : ∀ f : Nat → Value, Array.map f (Array.range 0) = #[] := fun f => Array.eq_empty_of_size_eq_zero (by simp)
    exact ⟨#[], by simp [Instr.buildSlice, run_underlying (tk_slice hE ht), sizeOf, typeInfo, hi, Instr.fill, newRow, hr], by simp, by simp [PV.rels], by simp⟩
  have hpos : 0 < n * te.size := Nat.mul_pos (by omega) hsz0
  exact ⟨cells, run_buildSlice w t e n vparts cells i z (tk_slice hE ht) hi hz (by rw [hsi]; omega) (by rw [hsi]; omega) h1, hcl, h2, h3⟩
theorem run_litRows (hE : EnvOk E) {t n e : Nat} {te : TI} (ht : E.tk t = some (.slice e)) (hte : E.ty e = some te) (hpl : plainTI te = true) (hn : n * te.size ≤ 16777216) {parts : List (Nat × PV)} {vparts : Array (Nat × Value)} {rows : List (List D)} (hr : litRows te n parts = some rows)
    {ov : Objs} {ok : Nat → Prop} (hp : partsRel ov α w ok parts vparts.toList) :
    ∃ cells, (Instr.buildSlice t n vparts).run E.P w = .ok (.slice (some ⟨w.heap.size, 0, none⟩) n n) (w.alloc (.cells cells e)) ∧ rows.length = n ∧ (∀ r ∈ rows, r.length = te.size) ∧ rdVals w ok rows.flatten cells.toList ∧ (∀ u ∈ cells.toList, u.oneCell' = true) := by
  unfold litRows at hr
  simp only [Option.bind_eq_some_iff, Option.map_eq_some_iff] at hr
  obtain ⟨cs, hcs, ds, hds, rfl⟩ := hr
  obtain ⟨cells, h1, h2, h3, h4⟩ := run_litRowsP hE ht hte hpl hn hcs hp
  have hrd := dcells_rd hds h3
  have hdl : ds.length = n * te.size := by
    have h5 := rdVals_length hrd
    have h6 := PV.rels_length h3
    omega
  obtain ⟨c1, c2, c3⟩ := chunk_flat te.size n ds hdl
  exact ⟨cells, h1, c3, c2, by rw [c1]; exact hrd, h4⟩

theorem rdRows_of {w : World} {ok : Nat → Prop} {sz b : Nat} : ∀ {rows : List (List D)} {vals : List Value} {o : Nat}, (∀ r ∈ rows, r.length = sz) → rdVals w ok rows.flatten vals → (∀ u ∈ vals, u.oneCell' = true) → w.rangeAt b o vals → ok b → rdRows w ok sz b o rows := by
  intro rows vals o hrows hrd hones hrange hok
  refine rdRows_mk fun i r hr => ⟨hrows r (List.mem_of_getElem? hr), rdCells_mk fun j d hd => ⟨hok, ?_⟩⟩
  have := flat_get hrows i j r d hr hd
  obtain ⟨u, hu, hdu⟩ := rdVals_get hrd _ d this
  have hc := hrange _ u hu
  exact ⟨u, by rwa [show o + (i * sz + j) = o + i * sz + j by omega] at hc, hones u (List.mem_of_getElem? hu), hdu⟩

theorem run_litE (hE : EnvOk E) (h : Rel N base w0 X S α a w) {K t n : Nat} {d : Nat} (hK : d < N) {parts : List (Nat × PV)} {vparts : Array (Nat × Value)} {c : Prop} {p : PV} {o' : Objs} (hq : litE E S K t n parts = some (c, p, o')) (hp : partsRel S.o α w (okOf X.A S.o α) parts vparts.toList) :
    ∃ α' v w', (Instr.buildSlice t n vparts).run E.P w = .ok v w' ∧ Rel N base w0 X { (S.put (some d) p) with o := o' } α' (a.put (some d) v) w' := by
  unfold litE at hq
  split at hq
  · rename_i e ht
    split at hq
    · rename_i te hte
      split at hq
      · rename_i hcond
        obtain ⟨_, _, _, _, hsz0, hb0⟩ := ty_info hE hte
        have hnm : n ≤ maxLen := by
          have := Nat.le_trans (Nat.le_mul_of_pos_right n hsz0) hcond.2
          simp only [maxLen]; omega
        split at hq
        · rename_i rows hrows
          simp only [Option.some.injEq, Prod.mk.injEq] at hq
          obtain ⟨_, rfl, rfl⟩ := hq
          obtain ⟨cells, h1, h2, h3, h4, h5⟩ := run_litRows (α := α) (w := w) hE ht hte hcond.1 hcond.2 hrows hp
          have hcl : cells.size = n * te.size := by
            have := rdVals_length h4
            rw [flat_length h3, h2] at this
            simpa using this
          refine ⟨_, _, _, h1, h.new (hdr := .slice (some ⟨w.heap.size, 0, none⟩) n n) (by simpa using hK) (grownBy_alloc' w _) (fun g hg => by simp [hblk] at hg; omega) (fun hk htn => ?_) (fun hk htn => ?_)⟩
          · refine ⟨cells.toList, ?_, h3, rdVals_keeps hk _ _ h4, h5⟩
            rw [h2]
            exact World.ownsRow_lit w cells n h.base hnm hcl
          · simp only [rowNew, PV.rel]
            exact ⟨⟨⟨_, _, rfl, hnm, fun _ => ⟨_, rfl⟩⟩, by simp [newOb]⟩, fun _ => by rw [hup_same]⟩
        · obtain ⟨rows, hrows, he⟩ := Option.map_eq_some_iff.1 hq
          simp only [Prod.mk.injEq] at he
          obtain ⟨_, rfl, rfl⟩ := he
          unfold litRowsP at hrows
          obtain ⟨cs, hcs, rfl⟩ := Option.map_eq_some_iff.1 hrows
          obtain ⟨cells, h1, h2, h4, h5⟩ := run_litRowsP (α := α) (w := w) hE ht hte hcond.1 hcond.2 hcs hp
          obtain ⟨c1, c2, c3⟩ := chunk_flat te.size n cs h2
          have hcl : cells.size = n * te.size := by
            have := PV.rels_length h4
            simp only [Array.length_toList] at this
            omega
          refine ⟨_, _, _, h1, h.new (hdr := .slice (some ⟨w.heap.size, 0, none⟩) n n) (by simpa using hK) (grownBy_alloc' w _) (fun g hg => by simp [hblk] at hg; omega) (fun hk htn => ?_) (fun hk htn => ?_)⟩
          · refine ⟨cells.toList, ?_, c2, by rw [c1]; exact PV.rels_turn hk htn _ _ h4, h5⟩
            rw [c3]
            exact World.ownsRow_lit w cells n h.base hnm hcl
          · simp only [rowNew, PV.rel]
            exact ⟨⟨⟨_, _, rfl, hnm, fun _ => ⟨_, rfl⟩⟩, by simp [newOb]⟩, fun _ => by rw [hup_same]⟩
      · cases hq
    · cases hq
  · cases hq

/-- A literal that is only read. -/
theorem run_litV (hE : EnvOk E) (h : Rel N base w0 X S α a w) {dst : Option Nat} (hdst : ∀ d, dst = some d → d < N) {t n : Nat} {parts : List (Nat × PV)} {vparts : Array (Nat × Value)} {c : Prop} {p : PV} (hq : litV E t n parts = some (c, p)) (hp : partsRel S.o α w (okOf X.A S.o α) parts vparts.toList) :
    ∃ v w', (Instr.buildSlice t n vparts).run E.P w = .ok v w' ∧ Rel N base w0 X (S.put dst p) α (a.put dst v) w' := by
  unfold litV at hq
  split at hq
  · rename_i e ht
    split at hq
    · rename_i te hte
      split at hq
      · rename_i hcond
        obtain ⟨rows, hrows, he⟩ := Option.map_eq_some_iff.1 hq
        simp only [Prod.mk.injEq] at he
        obtain ⟨_, rfl⟩ := he
        obtain ⟨cells, h1, h2, h3, h4, h5⟩ := run_litRows (α := α) (w := w) hE ht hte hcond.1 hcond.2 hrows hp
        obtain ⟨_, _, _, _, hsz0, hb0⟩ := ty_info hE hte
        have hnm : n ≤ maxLen := by
          have := Nat.le_trans (Nat.le_mul_of_pos_right n hsz0) hcond.2
          simp only [maxLen]; omega
        refine ⟨_, _, h1, h.plain hdst (grownBy_alloc' w _) fun hk => ?_⟩
        simp only [PV.rel, D.rd]
        refine ⟨some ⟨w.heap.size, 0, none⟩, n, by rw [h2], ⟨by omega, by simp⟩, by omega, fun _ => ⟨w.heap.size, 0, rfl, ?_⟩⟩
        refine rdRows_of h3 (rdVals_keeps hk _ _ h4) h5 (fun j v hv => ?_) ⟨h.free _ h.base, fun K hK hg => ?_⟩
        · simp only [Nat.zero_add, World.cell?, heap_alloc_new]
          simpa using hv
        · cases hx : (S.o K).2 with
          | none => exact hK hx
          | some x => have := (Ob.rel_lt (h.o K x hx) _ hg).2; omega
      · cases hq
    · cases hq
  · cases hq
end
end Go.Proofs.Ytomnjbebgfadoaa.Pi
end
section
/- The pure interpreter's operations on maps are sound.
   Conditions: none; lemmas. -/
set_option linter.unusedVariables false
set_option linter.unusedSimpArgs false
namespace Go.Proofs.Ytomnjbebgfadoaa.Pi
open Go Go.RowKit

theorem grownBy_setObj (w : World) (g : Nat) (x : Obj) : w.grownBy { w with heap := w.heap.setIfInBounds g x } (some g) :=
  ⟨rfl, rfl, rfl, by simp, fun k _ hk => by
    have : g ≠ k := fun e => hk (by rw [e])
    simp [Array.getElem?_setIfInBounds_ne this]⟩
theorem setObj_at {w : World} {g : Nat} {x y : Obj} (h : w.heap[g]? = some y) : (w.heap.setIfInBounds g x)[g]? = some x := by
  have := (Array.getElem?_eq_some_iff.1 h).1
  simp [this]
theorem relME_stamp {o : Objs} {α : Nat → Value} {w : World} {ok : Nat → Prop} {n : Int} {p : PV} {v : Value} (hp : p.rel o α w ok v) : ∀ {es : List (Nat × D × PV)} {l : List MapEntry}, relME o α w ok es l → mlast n es = true →
    ∃ j, l.findIdx? (fun e => (e.born : Int) == n) = some j ∧ relME o α w ok (mstamp n p es) (l.modify j fun e => { e with val := v })
  | [], l, h, hm => by simp [mlast] at hm
  | x :: es, l, h, hm => by
    simp only [relME] at h
    obtain ⟨m, l', rfl, ⟨h1, h2, h3⟩, h4⟩ := h
    simp only [mlast, List.any_cons, Bool.or_eq_true] at hm
    by_cases hx : ((x.1 : Int) == n) = true
    · refine ⟨0, by simp [List.findIdx?_cons, h1, hx], ?_⟩
      simp only [mstamp, hx, if_true, List.modify_zero_cons, relME]
      exact ⟨_, l', rfl, ⟨h1, h2, hp⟩, h4⟩
    · obtain ⟨j, e1, e2⟩ := relME_stamp hp h4 (by unfold mlast; simpa [hx] using hm)
      refine ⟨j + 1, by simp [List.findIdx?_cons, h1, hx, e1], ?_⟩
      simp only [mstamp, hx, if_false, List.modify_succ_cons, relME]
      exact ⟨m, _, rfl, ⟨h1, h2, h3⟩, e2⟩
theorem modify_set {α : Type} (l : List α) (j : Nat) (f : α → α) (x : α) (h : l[j]? = some x) : l.modify j f = l.set j (f x) := by
  apply List.ext_getElem?
  intro i
  rw [List.getElem?_modify, List.getElem?_set]
  by_cases e : j = i
  · subst e
    obtain ⟨hl, hx⟩ := List.getElem?_eq_some_iff.1 h
    simp [hl, hx]
  · simp [e]

section
variable {E : Env} {N base : Nat} {w0 : World} {X : Fr} {S : St} {α : Nat → Value} {a : Act} {w : World}
theorem run_makeMapE (h : Rel N base w0 X S α a w) {K t : Nat} {d : Nat} (hK : d < N) {c : Prop} {p : PV} {o' : Objs} (hq : makeMapE E S K t = some (c, p, o')) :
    ∃ α' v w', (Instr.makeMap t none).run E.P w = .ok v w' ∧ Rel N base w0 X { (S.put (some d) p) with o := o' } α' (a.put (some d) v) w' := by
  unfold makeMapE at hq
  split at hq
  · rename_i kt e ht
    simp only [Option.some.injEq, Prod.mk.injEq] at hq
    obtain ⟨_, rfl, rfl⟩ := hq
    refine ⟨_, .map (some w.heap.size), w.alloc (.map #[] 0), by simp [Instr.makeMap], h.new (hdr := .map (some w.heap.size)) (by simpa using hK) (grownBy_alloc' w _) (fun g hg => by simp [hblk] at hg; omega) (fun hk htn => ?_) (fun hk htn => ?_)⟩
    · exact ⟨w.heap.size, #[], rfl, h.base, heap_alloc_new w _, by simp [relME]⟩
    · simp only [PV.rel]
      exact ⟨⟨rfl, by simp [newOb]⟩, fun _ => by rw [hup_same]⟩
  · cases hq

/-- A map's entries turn. -/
theorem Rel.setMap (h : Rel N base w0 X S α a w) {K g kt e clock clock' kt' e' : Nat} {es es' : List (Nat × D × PV)} {ents ents' : Array MapEntry} {dst : Option Nat} {p : PV} {v : Value} (hdst : ∀ d, dst = some d → d < N) (hx : (S.o K).2 = some (.map kt e clock es)) (e1 : α K = .map (some g)) (hb : base ≤ g) (hh : w.heap[g]? = some (.map ents clock))
    (hr : relME S.o α w (okOf X.A S.o α) es' ents'.toList) (hp : p.rel S.o α w (okOf X.A S.o α) v) :
    Rel N base w0 X { (S.put dst p) with o := setOb S.o K (.map kt' e' clock' es') } α (a.put dst v) { w with heap := w.heap.setIfInBounds g (.map ents' clock') } := by
  refine h.set (g := g) hdst (grownBy_setObj w g _) hx (by rw [e1]; rfl) (fun hk htn => ?_) (fun hk htn => p.rel_turn hk htn _ hp)
  exact ⟨g, ents', e1, hb, setObj_at hh, relME_turn hk htn _ _ hr⟩

theorem run_mapUpdE (hE : EnvOk E) (h : Rel N base w0 X S α a w) {t : Nat} {dst : Option Nat} (hdst : ∀ d, dst = some d → d < N) {m k x : PV} {c : Prop} {p : PV} {o' : Objs} (hq : mapUpdE E S t m k x = some (c, p, o')) (hc : c) {vm vk vx : Value} (hm : m.rel S.o α w (okOf X.A S.o α) vm) (hk : k.rel S.o α w (okOf X.A S.o α) vk) (hx : x.rel S.o α w (okOf X.A S.o α) vx) :
    ∃ α' w', (Instr.mapUpdate t vm vk vx).run E.P w = .ok () w' ∧ Rel N base w0 X { (S.put dst p) with o := o' } α' (a.put dst undef) w' := by
  unfold mapUpdE at hq
  split at hq
  · rename_i K ver kd
    split at hq
    · rename_i kt e kt' e' clock es ht hob
      simp only [Option.some.injEq, Prod.mk.injEq] at hq
      obtain ⟨rfl, rfl, rfl⟩ := hq
      obtain ⟨hl, hx0⟩ := obj_some hob
      simp only [PV.rel] at hm hk
      have hva := hm.2 hl
      subst hva
      obtain ⟨g, ents, e1, hb, hh, hr⟩ := h.o K _ hx0
      rw [e1]
      have hf := run_findKey' hE hc.1 hk hc.2 hr
      have hck := run_checkKey' hE hc.1 hk false
      have hut : E.P.underlying t = some (.map kt e) := tk_map hE ht
      cases hfi : mfind kd es with
      | none =>
        have hm0 := mres_none (i := 0) hr hfi
        have hnew := mput_none hk hx (c := clock) hr hfi
        have q := h.setMap (dst := dst) (p := .un) (v := undef) (ents' := ents.push { key := vk, val := vx, born := clock }) (clock' := clock + 1) (kt' := kt') (e' := e') hdst hx0 e1 hb hh (es' := mput kd x clock es) (by simpa using hnew) (by simp only [PV.rel])
        have ec : mclock kd es clock = clock + 1 := by simp [mclock, mhas, hfi]
        rw [ec]
        refine ⟨α, _, ?_, q⟩
        simp [Instr.mapUpdate, run_underlying hut, MapKept.run_getObj_map hh, hck, hf, hm0, MapKept.run_setObj_map _ hh]
      | some y =>
        obtain ⟨b, pv⟩ := y
        obtain ⟨j, m, h1, h2, h3, h4, ⟨kd', h5, h6, _⟩, h7⟩ := mres_some (i := 0) hr hfi
        have hbits := same_bits hk h6 h5 (mkey_flat hc.1)
        have h2' : ents[j]? = some m := by simpa using h2
        have hset := h7 vk vx x hk hx clock
        have hmod : (ents.modify j fun e => { e with key := vk, val := vx }).toList = ents.toList.set j { key := vk, val := vx, born := m.born } := by
          rw [Array.toList_modify, modify_set _ _ _ m h2]
        have q := h.setMap (dst := dst) (p := .un) (v := undef) (ents' := ents.modify j fun e => { e with key := vk, val := vx }) (clock' := clock) (kt' := kt') (e' := e') hdst hx0 e1 hb hh (es' := mput kd x clock es) (by rw [hmod]; exact hset) (by simp only [PV.rel])
        have ec : mclock kd es clock = clock := by simp [mclock, mhas, hfi]
        rw [ec]
        refine ⟨α, _, ?_, q⟩
        simp [Instr.mapUpdate, run_underlying hut, MapKept.run_getObj_map hh, hck, hf, h1, h2', Instr.keyThatStays, hbits, MapKept.run_setObj_map _ hh]
    · cases hq
  · cases hq

theorem run_mapEntE (hE : EnvOk E) (h : Rel N base w0 X S α a w) {t : Nat} {d : Nat} (hd : d < N) {m k : PV} {c : Prop} {p : PV} {o' : Objs} (hq : mapEntE E S t m k = some (c, p, o')) (hc : c) {vm vk : Value} (hm : m.rel S.o α w (okOf X.A S.o α) vm) (hk : k.rel S.o α w (okOf X.A S.o α) vk) :
    ∃ α' v w', (Instr.mapEntry t vm vk).run E.P w = .ok v w' ∧ Rel N base w0 X { (S.put (some d) p) with o := o' } α' (a.put (some d) v) w' := by
  unfold mapEntE at hq
  split at hq
  · rename_i K ver kd
    split at hq
    · rename_i kt e kt' e' clock es ht hob
      split at hq
      · rename_i te hte
        split at hq
        · rename_i hpl
          simp only [Option.some.injEq, Prod.mk.injEq] at hq
          obtain ⟨rfl, rfl, rfl⟩ := hq
          obtain ⟨hl, hx0⟩ := obj_some hob
          simp only [PV.rel] at hm hk
          have hva := hm.2 hl
          subst hva
          obtain ⟨g, ents, e1, hb, hh, hr⟩ := h.o K _ hx0
          rw [e1]
          have hf := run_findKey' hE hc.1 hk hc.2 hr
          have hck := run_checkKey' hE hc.1 hk false
          have hut : E.P.underlying t = some (.map kt e) := tk_map hE ht
          obtain ⟨z, hz1, hz2⟩ := ty_zvp hE hte hpl w
          cases hfi : mfind kd es with
          | none =>
            have hm0 := mres_none (i := 0) hr hfi
            have ev : mval kd es (zvp te) = zvp te := by simp [mval, hfi]
            have eb : mborn kd es clock = clock := by simp [mborn, hfi]
            have ec : mclock kd es clock = clock + 1 := by simp [mclock, mhas, hfi]
            have hnew := mput_none hk (hz2 S.o α (okOf X.A S.o α)) (c := clock) hr hfi
            have q := h.setMap (dst := some d) (p := .tup [zvp te, .d (.int .i64 clock)]) (v := .tuple #[z, .int .i64 clock]) (ents' := ents.push { key := vk, val := z, born := clock }) (clock' := clock + 1) (kt' := kt') (e' := e') (by simpa using hd) hx0 e1 hb hh (es' := mput kd (zvp te) clock es) (by simpa using hnew)
              (by simp only [PV.rel, PV.rels, D.rd]; exact ⟨_, rfl, z, _, rfl, hz2 _ _ _, _, [], rfl, rfl, rfl⟩)
            rw [ev, eb, ec]
            refine ⟨α, _, _, ?_, q⟩
            simp [Instr.mapEntry, run_underlying hut, MapKept.run_getObj_map hh, hck, hf, hm0, hz1, MapKept.run_setObj_map _ hh, goInt]
          | some y =>
            obtain ⟨b, pv⟩ := y
            obtain ⟨j, m, h1, h2, h3, h4, ⟨kd', h5, h6, _⟩, h7⟩ := mres_some (i := 0) hr hfi
            have ev : mval kd es (zvp te) = pv := by simp [mval, hfi]
            have eb : mborn kd es clock = b := by simp [mborn, hfi]
            have ec : mclock kd es clock = clock := by simp [mclock, mhas, hfi]
            have hbits := same_bits hk h6 h5 (mkey_flat hc.1)
            have h2' : ents[j]? = some m := by simpa using h2
            have hset := h7 vk m.val pv hk h4 clock
            have hmod : (ents.modify j fun e => { e with key := vk }).toList = ents.toList.set j { key := vk, val := m.val, born := m.born } := by
              rw [Array.toList_modify, modify_set _ _ _ m h2]
            have q := h.setMap (dst := some d) (p := .tup [pv, .d (.int .i64 b)]) (v := .tuple #[m.val, .int .i64 m.born]) (ents' := ents.modify j fun e => { e with key := vk }) (clock' := clock) (kt' := kt') (e' := e') (by simpa using hd) hx0 e1 hb hh (es' := mput kd pv clock es) (by rw [hmod]; exact hset)
              (by simp only [PV.rel, PV.rels, D.rd]; exact ⟨_, rfl, m.val, _, rfl, h4, _, [], rfl, by rw [h3], rfl⟩)
            rw [ev, eb, ec]
            refine ⟨α, _, _, ?_, q⟩
            simp [Instr.mapEntry, run_underlying hut, MapKept.run_getObj_map hh, hck, hf, h1, h2', Instr.keyThatStays, hbits, MapKept.run_setObj_map _ hh, goInt]
        · cases hq
      · cases hq
    · cases hq
  · cases hq

theorem run_mapStoE (h : Rel N base w0 X S α a w) {t : Nat} {dst : Option Nat} (hdst : ∀ d, dst = some d → d < N) {m s x : PV} {c : Prop} {p : PV} {o' : Objs} (hq : mapStoE S m s x = some (c, p, o')) (hc : c) {vm vs vx : Value} (hm : m.rel S.o α w (okOf X.A S.o α) vm) (hs : s.rel S.o α w (okOf X.A S.o α) vs) (hx : x.rel S.o α w (okOf X.A S.o α) vx) :
    ∃ α' w', (Instr.entryStore t vm vs vx).run E.P w = .ok () w' ∧ Rel N base w0 X { (S.put dst p) with o := o' } α' (a.put dst undef) w' := by
  unfold mapStoE at hq
  split at hq
  · rename_i K ver k n
    split at hq
    · rename_i kt' e' clock es hob
      simp only [Option.some.injEq, Prod.mk.injEq] at hq
      obtain ⟨rfl, rfl, rfl⟩ := hq
      obtain ⟨hl, hx0⟩ := obj_some hob
      simp only [PV.rel, D.rd] at hm hs
      subst hs
      have hva := hm.2 hl
      subst hva
      obtain ⟨g, ents, e1, hb, hh, hr⟩ := h.o K _ hx0
      rw [e1]
      obtain ⟨j, h1, h2⟩ := relME_stamp hx hr hc
      have h1' : ents.findIdx? (fun e => (e.born : Int) == n) = some j := by
        cases ents; simpa using h1
      have q := h.setMap (dst := dst) (p := .un) (v := undef) (ents' := ents.modify j fun e => { e with val := vx }) (clock' := clock) (kt' := kt') (e' := e') hdst hx0 e1 hb hh (es' := mstamp n x es) (by rw [Array.toList_modify]; exact h2) (by simp only [PV.rel])
      refine ⟨α, _, ?_, q⟩
      simp [Instr.entryStore, MapKept.run_getObj_map hh, asInt, asIntOf, h1', MapKept.run_setObj_map _ hh]
    · cases hq
  · cases hq
theorem run_rangeE (hE : EnvOk E) (h : Rel N base w0 X S α a w) {K t : Nat} {d : Nat} (hK : d < N) {m : PV} {c : Prop} {p : PV} {o' : Objs} (hq : rangeE E S K t m = some (c, p, o')) {vm : Value} (hm : m.rel S.o α w (okOf X.A S.o α) vm) :
    ∃ α' v w', (Instr.range t vm).run E.P w = .ok v w' ∧ Rel N base w0 X { (S.put (some d) p) with o := o' } α' (a.put (some d) v) w' := by
  unfold rangeE at hq
  split at hq
  · rename_i M mver
    split at hq
    · rename_i kt e kt' e' clock es ht hob
      split at hq
      · cases hq
      · rename_i hne
        simp only [Option.some.injEq, Prod.mk.injEq] at hq
        obtain ⟨_, rfl, rfl⟩ := hq
        obtain ⟨hl, hx0⟩ := obj_some hob
        have hm0 := hm
        simp only [PV.rel] at hm
        have hva := hm.2 hl
        subst hva
        obtain ⟨g, ents, e1, hb, hh, hr⟩ := h.o M _ hx0
        have hut : E.P.underlying t = some (.map kt e) := tk_map hE ht
        rw [e1] at hm0 ⊢
        refine ⟨_, .pointer (some ⟨w.heap.size, 0, none⟩), w.alloc (.mapIter (some g) clock #[] clock), ?_, h.new (hdr := .pointer (some ⟨w.heap.size, 0, none⟩)) (by simpa using hK) (grownBy_alloc' w _) (fun g hg => by simp [hblk] at hg; omega) (fun hk htn => ?_) (fun hk htn => ?_)⟩
        · simp [Instr.range, run_underlying hut, MapKept.run_getObj_map hh]
        · exact ⟨w.heap.size, g, rfl, h.base, heap_alloc_new w _, PV.rel_turn hk htn _ _ hm0⟩
        · simp only [PV.rel, refNew]
          exact ⟨⟨⟨_, rfl⟩, by simp [newOb]⟩, fun _ => ⟨w.heap.size, by rw [hup_same]; rfl, rfl⟩⟩
    · cases hq
  · cases hq
end
end Go.Proofs.Ytomnjbebgfadoaa.Pi
end
section
/- All operations on objects together; what is handed to a call and what comes back.
   Conditions: none; definitions and lemmas. -/
set_option linter.unusedVariables false
set_option linter.unusedSimpArgs false
namespace Go.Proofs.Ytomnjbebgfadoaa.Pi
open Go Go.RowKit

section
variable {E : Env} {base : Nat} {w0 : World} {X : Fr} {S : St} {α : Nat → Value} {a : Act} {w : World}

end

/-! ### 13. What is handed to a call: data -/
/-- A cell as data; z: its zero. -/
def snapC (S : St) (z : D) : PV → Option D
  | .d x => some x
  | .nils => match z with | .lst sz _ => some (.lst sz []) | _ => none
  | .clip sz xs => some (.lst sz xs)
  | .row K ver _ => match S.obj K ver with
    | some (.row sz _ xs) => some (.lst sz xs)
    | _ => none
  | _ => none
def keysC : PV → List Nat
  | .row K _ _ => [K]
  | _ => []
def snapCs (S : St) : List D → List PV → Option (List D)
  | [], [] => some []
  | z :: zs, p :: ps => (snapC S z p).bind fun x => (snapCs S zs ps).map (x :: ·)
  | _, _ => none
/-- A captured variable. -/
def snapR (E : Env) (S : St) : PV → Option D
  | .d x => some x
  | .ref K ver sz i off => match S.obj K ver with
    | some (.box e cs) => match E.ty e with
      | some te => (snapCs S te.zero cs).map fun ds => .ptr ds (i * sz + off)
      | none => none
    | _ => none
  | _ => none
def keysR (S : St) : PV → List Nat
  | .ref K ver _ _ _ => match S.obj K ver with
    | some (.box _ cs) => K :: cs.flatMap keysC
    | _ => []
  | _ => []
def snapRs (E : Env) (S : St) : List PV → Option (List D)
  | [] => some []
  | p :: ps => (snapR E S p).bind fun x => (snapRs E S ps).map (x :: ·)
def snapV (E : Env) (S : St) (t : Nat) (q : PV) : Option D := match q with
  | .ref .. => snapR E S q
  | .fn f caps => (snapRs E S caps).map (.fn f)
  | .agg cs => match E.ty t with
    | some ti => (snapCs S ti.zero cs).map .agg
    | none => none
  | .nils => match E.tk t with
    | some (.slice e) => (E.ty e).map fun te => .lst te.size []
    | _ => none
  | q => snapC S (.bool false) q
def keysV (S : St) (q : PV) : List Nat := match q with
  | .ref .. => keysR S q
  | .fn _ caps => caps.flatMap (keysR S)
  | .agg cs => cs.flatMap keysC
  | q => keysC q

/-- The blocks of these objects may be read, too. -/
def Opens (A : Nat → Prop) (S : St) (α : Nat → Value) (ks : List Nat) (ok : Nat → Prop) : Prop := (∀ b, okOf A S.o α b → ok b) ∧ ∀ K ∈ ks, (S.o K).2 ≠ none → ∀ g, hblk (α K) = some g → ok g

section
variable {E : Env} {base N : Nat} {w0 : World} {X : Fr} {S : St} {α : Nat → Value} {a : Act} {w : World}
theorem Opens.sub {ks ks' : List Nat} {ok : Nat → Prop} (h : Opens X.A S α ks ok) (hs : ∀ K ∈ ks', K ∈ ks) : Opens X.A S α ks' ok := ⟨h.1, fun K hK => h.2 K (hs K hK)⟩
theorem Opens.keeps {ks : List Nat} {ok : Nat → Prop} (h : Opens X.A S α ks ok) : Keeps w (okOf X.A S.o α) w ok := fun b _ hb => ⟨h.1 b hb, rfl⟩

theorem snapC_sound (h : Rel N base w0 X S α a w) {z : D} {q : PV} {d : D} (hq : snapC S z q = some d) {ok : Nat → Prop} (ho : Opens X.A S α (keysC q) ok) {v : Value} (hv : q.rel S.o α w (okOf X.A S.o α) v) : d.rd w ok v := by
  unfold snapC at hq
  split at hq
  · simp only [Option.some.injEq] at hq; subst hq
    simp only [PV.rel] at hv
    exact D.rd_keeps ho.keeps _ _ hv
  · split at hq
    · simp only [Option.some.injEq] at hq; subst hq
      simp only [PV.rel] at hv; subst hv
      simp only [D.rd]
      exact ⟨none, 0, by simp, by simp, by simp, by simp⟩
    · cases hq
  · simp only [Option.some.injEq] at hq; subst hq
    simp only [PV.rel] at hv
    exact D.rd_keeps ho.keeps _ _ hv.2
  · rename_i K ver n
    split at hq
    · rename_i sz e xs hob
      simp only [Option.some.injEq] at hq; subst hq
      obtain ⟨hl, hx⟩ := obj_some hob
      simp only [PV.rel] at hv
      have hva := hv.2 hl
      subst hva
      obtain ⟨vals, hown, h1, h2, h3⟩ := h.o K _ hx
      simp only [D.rd]
      rcases hown.2 with ⟨e1, e2⟩ | ⟨g, cap, cur, e1, hb, hh, hn, hm, _⟩
      · have hxs : xs = [] := List.eq_nil_of_length_eq_zero e2
        subst hxs
        exact ⟨none, 0, by rw [e1]; rfl, by simp, by simp, by simp⟩
      · have hg : hblk (α K) = some g := by rw [e1]; rfl
        refine ⟨_, cap, e1, ⟨hn, by simp⟩, Nat.le_trans hn hm, fun _ => ⟨g, 0, rfl, ?_⟩⟩
        exact rdRows_of h1 (rdVals_keeps ho.keeps _ _ h2) h3 (own_range hown hg) (ho.2 K (by simp [keysC]) (by rw [hx]; simp) g hg)
    · cases hq
  · cases hq
theorem snapCs_sound (h : Rel N base w0 X S α a w) {ok : Nat → Prop} : ∀ {zs : List D} {ps : List PV} {ds : List D} {vs : List Value}, snapCs S zs ps = some ds → Opens X.A S α (ps.flatMap keysC) ok → PV.rels S.o α w (okOf X.A S.o α) ps vs → rdVals w ok ds vs
  | [], [], ds, vs, hq, ho, hv => by
    simp only [snapCs, Option.some.injEq] at hq; subst hq
    simpa only [PV.rels, rdVals] using hv
  | [], _ :: _, ds, vs, hq, ho, hv => by simp [snapCs] at hq
  | _ :: _, [], ds, vs, hq, ho, hv => by simp [snapCs] at hq
  | z :: zs, p :: ps, ds, vs, hq, ho, hv => by
    simp only [snapCs, Option.bind_eq_some_iff, Option.map_eq_some_iff] at hq
    obtain ⟨x, h1, es, h2, rfl⟩ := hq
    simp only [PV.rels] at hv
    obtain ⟨v, vs', rfl, h3, h4⟩ := hv
    simp only [rdVals]
    exact ⟨v, vs', rfl, snapC_sound h h1 (ho.sub fun K hK => by simp [hK]) h3, snapCs_sound h h2 (ho.sub fun K hK => by simp only [List.flatMap_cons, List.mem_append]; exact .inr hK) h4⟩
theorem snapR_sound (h : Rel N base w0 X S α a w) {q : PV} {d : D} (hq : snapR E S q = some d) {ok : Nat → Prop} (ho : Opens X.A S α (keysR S q) ok) {v : Value} (hv : q.rel S.o α w (okOf X.A S.o α) v) : d.rd w ok v := by
  unfold snapR at hq
  split at hq
  · simp only [Option.some.injEq] at hq; subst hq
    simp only [PV.rel] at hv
    exact D.rd_keeps ho.keeps _ _ hv
  · rename_i K ver sz i off
    split at hq
    · rename_i e cs hob
      split at hq
      · rename_i te hte
        obtain ⟨ds, hds, rfl⟩ := Option.map_eq_some_iff.1 hq
        obtain ⟨hl, hx⟩ := obj_some hob
        simp only [PV.rel] at hv
        obtain ⟨g, hg, rfl⟩ := hv.2 hl
        obtain ⟨g', vals, hhdr, hb, hh, hr, hones⟩ := h.o K _ hx
        have hg' : g' = g := by rw [hhdr] at hg; simpa [hblk] using hg
        subst hg'
        have hkeys : keysR S (.ref K ver sz i off) = K :: cs.flatMap keysC := by simp [keysR, hob]
        rw [hkeys] at ho
        have hrd := snapCs_sound h hds (ho.sub fun K hK => by simp only [List.mem_cons]; exact .inr hK) hr
        simp only [D.rd]
        refine ⟨g', 0, by simp, rdCells_mk fun j d hd => ⟨ho.2 K (by simp) (by rw [hx]; simp) g' hg, ?_⟩⟩
        obtain ⟨u, hu, hdu⟩ := rdVals_get hrd j d hd
        refine ⟨u, ?_, hones u (List.mem_of_getElem? hu), hdu⟩
        simp only [Nat.zero_add, World.cell?, hh]
        simpa using hu
      · cases hq
    · cases hq
  · cases hq
theorem snapRs_sound (h : Rel N base w0 X S α a w) {ok : Nat → Prop} : ∀ {ps : List PV} {ds : List D} {vs : List Value}, snapRs E S ps = some ds → Opens X.A S α (ps.flatMap (keysR S)) ok → PV.rels S.o α w (okOf X.A S.o α) ps vs → rdVals w ok ds vs
  | [], ds, vs, hq, ho, hv => by
    simp only [snapRs, Option.some.injEq] at hq; subst hq
    simpa only [PV.rels, rdVals] using hv
  | p :: ps, ds, vs, hq, ho, hv => by
    simp only [snapRs, Option.bind_eq_some_iff, Option.map_eq_some_iff] at hq
    obtain ⟨x, h1, es, h2, rfl⟩ := hq
    simp only [PV.rels] at hv
    obtain ⟨v, vs', rfl, h3, h4⟩ := hv
    simp only [rdVals]
    exact ⟨v, vs', rfl, snapR_sound h h1 (ho.sub fun K hK => by simp [hK]) h3, snapRs_sound h h2 (ho.sub fun K hK => by simp only [List.flatMap_cons, List.mem_append]; exact .inr hK) h4⟩
theorem snapV_sound (h : Rel N base w0 X S α a w) {t : Nat} {q : PV} {d : D} (hq : snapV E S t q = some d) {ok : Nat → Prop} (ho : Opens X.A S α (keysV S q) ok) {v : Value} (hv : q.rel S.o α w (okOf X.A S.o α) v) : d.rd w ok v := by
  unfold snapV at hq
  split at hq
  · exact snapR_sound h hq ho hv
  · rename_i f caps
    obtain ⟨ds, hds, rfl⟩ := Option.map_eq_some_iff.1 hq
    simp only [PV.rel] at hv
    obtain ⟨vs, rfl, hr⟩ := hv
    simp only [D.rd]
    exact ⟨vs, rfl, snapRs_sound h hds ho hr⟩
  · rename_i cs
    split at hq
    · obtain ⟨ds, hds, rfl⟩ := Option.map_eq_some_iff.1 hq
      simp only [PV.rel] at hv
      obtain ⟨vs, rfl, h1, hr⟩ := hv
      simp only [D.rd]
      exact ⟨vs, rfl, h1, snapCs_sound h hds ho hr⟩
    · cases hq
  · split at hq
    · obtain ⟨te, hte, rfl⟩ := Option.map_eq_some_iff.1 hq
      simp only [PV.rel] at hv; subst hv
      simp only [D.rd]
      exact ⟨none, 0, by simp, by simp, by simp, by simp⟩
    · cases hq
  · rename_i h1 h2 h3 h4
    have hk : keysV S q = keysC q := by
      unfold keysV
      split
      · exact absurd rfl (h1 _ _ _ _ _)
      · exact absurd rfl (h2 _ _)
      · exact absurd rfl (h3 _)
      · rfl
    rw [hk] at ho
    exact snapC_sound h hq ho hv

/-- Objects are given up: what they hold may be read as data from now on. -/
theorem Rel.drop (h : Rel N base w0 X S α a w) (ks : List Nat) : Rel N base w0 X { S with o := dropObs S.o ks } α a w ∧ Opens X.A S α ks (okOf X.A (dropObs S.o ks) α) := by
  have hl : ∀ K, (dropObs S.o ks K).2 ≠ none → K ∉ ks ∧ dropObs S.o ks K = S.o K := fun K hK => by
    unfold dropObs at hK ⊢
    split at hK
    · exact absurd rfl hK
    · rename_i hn; exact ⟨hn, by rw [if_neg hn]⟩
  have hok : ∀ b, okOf X.A S.o α b → okOf X.A (dropObs S.o ks) α b := fun b hb => ⟨hb.1, fun K hK => hb.2 K (by rw [← (hl K hK).2]; exact hK)⟩
  have hk : Keeps w (okOf X.A S.o α) w (okOf X.A (dropObs S.o ks) α) := fun b _ hb => ⟨hok b hb, rfl⟩
  have ht : Turns S.o α (dropObs S.o ks) α := fun K ver hv => by
    refine ⟨?_, fun hlv => ?_⟩
    · unfold dropObs; split <;> exact hv
    · obtain ⟨h1, h2⟩ := hl K hlv.2
      exact ⟨⟨by rw [← h2]; exact hlv.1, by rw [← h2]; exact hlv.2⟩, rfl⟩
  refine ⟨⟨h.defers, h.size, fun k => (S.t k).rel_turn hk ht _ (h.t k), fun K x hx => ?_, fun K K' hne hK hK' g hg => ?_, h.below, h.free, h.base, fun p v hp => PV.rel_turn hk ht _ _ (h.x p v hp)⟩, hok, fun K hK hKn g hg => ⟨?_, fun K' hK' hg' => ?_⟩⟩
  · obtain ⟨h1, h2⟩ := hl K (by simp only at hx; rw [hx]; simp)
    exact Ob.rel_turn hk ht (fun _ _ => rfl) (h.o K x (by rw [← h2]; exact hx))
  · exact h.inj K K' hne (by rw [← (hl K hK).2]; exact hK) (by rw [← (hl K' hK').2]; exact hK') g hg
  · cases hx : (S.o K).2 with
    | none => exact absurd hx hKn
    | some x => exact h.free g (Ob.rel_lt (h.o K x hx) g hg).1
  · obtain ⟨h1, h2⟩ := hl K' hK'
    have hne : K ≠ K' := fun e => h1 (e ▸ hK)
    exact h.inj K K' hne hKn (by rw [← h2]; exact hK') g hg hg'
theorem run_sliceE (hE : EnvOk E) (h : Rel N base w0 X S α a w) {t d : Nat} (hd : d < N) {x : PV} {ql qh : Option PV} {c : Prop} {p : PV} {o' : Objs} (hq : sliceE E S t x ql qh = some (c, p, o')) (hc : c) {v : Value} {vl vh : Option Value} (hv : x.rel S.o α w (okOf X.A S.o α) v)
    (hl : ∀ p, ql = some p → ∃ u, vl = some u ∧ p.rel S.o α w (okOf X.A S.o α) u) (hln : ql = none → vl = none) (hh : ∀ p, qh = some p → ∃ u, vh = some u ∧ p.rel S.o α w (okOf X.A S.o α) u) (hhn : qh = none → vh = none) :
    ∃ r, (Instr.sliceAt t v vl vh none).run E.P w = .ok r w ∧ Rel N base w0 X { (S.put (some d) p) with o := o' } α (a.put (some d) r) w := by
  unfold sliceE at hq
  split at hq
  · rename_i K ver n
    split at hq
    · rename_i sz e xs hob
      obtain ⟨⟨c1, p1⟩, h1, h2⟩ := Option.map_eq_some_iff.1 hq
      simp only [Prod.mk.injEq] at h2
      obtain ⟨rfl, rfl, rfl⟩ := h2
      obtain ⟨hR, hO⟩ := h.drop [K]
      have hrd : (D.lst sz xs).rd w (okOf X.A (dropObs S.o [K]) α) v := snapC_sound (z := .bool false) h (by simp only [snapC, hob]) (by simpa [keysC] using hO) hv
      have hk : Keeps w (okOf X.A S.o α) w (okOf X.A (dropObs S.o [K]) α) := hO.keeps
      have ht : Turns S.o α (dropObs S.o [K]) α := fun K' ver' hv' => by
        refine ⟨?_, fun hlv => ?_⟩
        · unfold dropObs; split <;> exact hv'
        · have h2 := hlv.2
          have h1 := hlv.1
          unfold dropObs at h1 h2
          split at h2
          · exact absurd rfl h2
          · rename_i hn; rw [if_neg hn] at h1; exact ⟨⟨h1, h2⟩, rfl⟩
      obtain ⟨r, hr1, hr2⟩ := run_sliceV hE (o := dropObs S.o [K]) (α := α) (w := w) (ok := okOf X.A (dropObs S.o [K]) α) h1 hc (v := v) (by simp only [PV.rel]; exact hrd) (fun _ _ _ e => by cases e)
        (fun p hp => by obtain ⟨u, e, hu⟩ := hl p hp; exact ⟨u, e, PV.rel_turn hk ht _ _ hu⟩) hln (fun p hp => by obtain ⟨u, e, hu⟩ := hh p hp; exact ⟨u, e, PV.rel_turn hk ht _ _ hu⟩) hhn
      refine ⟨r, hr1, ?_⟩
      exact hR.plain (dst := some d) (by simpa using hd) (grownBy_refl w none) fun _ => hr2
    · cases hq
  · cases hq
theorem run_clearE (hE : EnvOk E) (h : Rel N base w0 X S α a w) {t ty : Nat} {x : PV} {c : Prop} {p : PV} {o' : Objs} (hq : clearE E S t x = some (c, p, o')) (hc : c) {v : Value} (hv : x.rel S.o α w (okOf X.A S.o α) v) :
    ∃ w', (Builtin.clear_ #[t] ty #[v]).run E.P w = .ok (.tuple #[]) w' ∧ Rel N base w0 X { (S.put none p) with o := o' } α (a.put none (.tuple #[])) w' := by
  unfold clearE at hq
  split at hq
  · rename_i e K ver sz i n ht
    split at hq
    · rename_i sz' e' xs te hob hte
      split at hq
      · rename_i hcond
        obtain ⟨rfl, hts, hpl⟩ := hcond
        simp only [Option.some.injEq, Prod.mk.injEq] at hq
        obtain ⟨rfl, rfl, rfl⟩ := hq
        obtain ⟨hc1, hc2⟩ := hc
        obtain ⟨hl, hx0⟩ := obj_some hob
        simp only [PV.rel] at hv
        obtain ⟨g, cp, hg, rfl⟩ := hv.2 hl hc2
        obtain ⟨ii, z, hi, hsi, hbi, hz, hzc, hzo, hzl⟩ := ty_zero hE hte (by unfold plainTI at hpl; split at hpl <;> simp_all)
        obtain ⟨_, _, _, _, hsz0, hb0⟩ := ty_info hE hte
        have hzcs : z.cells = (te.zero.map zval).toArray := by rw [← hzc]
        have hzz : (Builtin.zeroCells z.cells n).toList = (((List.replicate n te.zero).flatten).map zval) := by
          have := made_flat (z := te.zero.map zval) (n := n) (by rw [List.length_map]; omega)
          rw [List.length_map, hzl] at this
          unfold madeCells at this
          unfold Builtin.zeroCells
          rw [hzcs]
          simp only [List.size_toArray, List.length_map, hzl] at this ⊢
          rw [this]
          simp [List.map_flatten]
        have hall : ∀ d ∈ (List.replicate n te.zero).flatten, zok d = true := by
          intro d hd
          obtain ⟨x, hx, hdx⟩ := List.mem_flatten.1 hd
          rw [List.eq_of_mem_replicate hx] at hdx
          exact hzo d hdx
        have hzlen : (Builtin.zeroCells z.cells n).toList.length = n * sz' := by
          rw [hzz, List.length_map, flat_length (sz := te.size) (by intro r hr; rw [List.eq_of_mem_replicate hr, hzl]), List.length_replicate, hts]
        have hzone : ∀ u ∈ (Builtin.zeroCells z.cells n).toList, u.oneCell' = true := by
          rw [hzz]; intro u hu
          obtain ⟨d, hd, rfl⟩ := List.mem_map.1 hu
          exact zval_one (hall d hd)
        have hzrd : ∀ ok : Nat → Prop, ∀ w : World, rdVals w ok (List.replicate n te.zero).flatten (Builtin.zeroCells z.cells n).toList := fun ok w => by
          rw [hzz]; exact zvals_rd hall
        obtain ⟨vals, hown, hrows, hrd, hones⟩ := h.o K _ hx0
        obtain ⟨cap, hhdr, hn, hm, hbg⟩ := own_head hown hg
        rcases hown.2 with ⟨e1, _⟩ | ⟨g', cap', cur, e1, hb', hh, hn', hm', hcs', htake⟩
        · rw [hhdr] at e1; simp at e1
        · rw [hhdr] at e1
          simp only [Value.slice.injEq, Option.some.injEq, Addr.mk.injEq, and_true, true_and] at e1
          obtain ⟨rfl, rfl⟩ := e1
          have hle2 : xs.length * sz' ≤ cap * sz' := Nat.mul_le_mul_right sz' hn
          have hin : i * sz' + n * sz' = xs.length * sz' := by rw [← Nat.add_mul, hc1]
          generalize hZ : (Builtin.zeroCells z.cells n).toList = Z at hzlen hzone hzrd
          have hst := run_storeCells_at (P := E.P) g (i * sz') e' Z 0 cur w hh (by omega) hzone
          simp only [Nat.add_zero] at hst
          have hrun : (Builtin.clear_ #[t] ty #[.slice (some ⟨g, i * sz', none⟩) n cp]).run E.P w = .ok (.tuple #[]) (w.setRow g (cur.toList.take (i * sz') ++ Z ++ cur.toList.drop (i * sz' + Z.length)).toArray) := by
            cases n with
            | zero => omega
            | succ n => simp [Builtin.clear_, run_underlying (tk_slice hE ht), zeroValue, typeInfo, hi, hz, hZ, hst]
          refine ⟨_, hrun, h.set (dst := none) (by simp) (grownBy_setRow w g _) hx0 hg (fun hk htn => ?_) (fun hk htn => by simp only [PV.rel])⟩
          have hvl : vals.length = xs.length * sz' := hown.1
          have hnl : (xs.take i ++ List.replicate n te.zero).length = xs.length := by simp; omega
          have hnew : (cur.toList.take (i * sz') ++ Z ++ cur.toList.drop (i * sz' + Z.length)).take (xs.length * sz') = vals.take (i * sz') ++ Z ++ vals.drop (i * sz' + Z.length) := by
            rw [← htake]
            exact take_splice _ _ _ _ (by first | omega | (simp; omega)) (by first | omega | (simp; omega))
          have hdrop : vals.drop (i * sz' + Z.length) = [] := List.drop_of_length_le (by omega)
          rw [hdrop, List.append_nil] at hnew
          refine ⟨vals.take (i * sz') ++ Z, ⟨?_, .inr ⟨g, cap, _, by rw [hhdr, hnl], hbg, setRow_heap w g _ _ _ _ hh, by rw [hnl]; exact hn, hm, ?_, ?_⟩⟩, ?_, ?_, ?_⟩
          · rw [hnl]; simp; omega
          · simp; omega
          · rw [hnl]; simpa using hnew
          · intro r' hr'
            rcases List.mem_append.1 hr' with hr' | hr'
            · exact hrows r' (List.mem_of_mem_take hr')
            · rw [List.eq_of_mem_replicate hr', hzl, hts]
          · rw [List.flatten_append]
            refine rdVals_append ?_ (hzrd _ _)
            have : (xs.take i).flatten = xs.flatten.take (i * sz') := by
              have e2 : (xs.take i).flatten.length = i * sz' := by rw [flat_length (sz := sz') fun r hr => hrows r (List.mem_of_mem_take hr), List.length_take]; congr 1; omega
              have e1 : xs.flatten = (xs.take i).flatten ++ (xs.drop i).flatten := by rw [← List.flatten_append, List.take_append_drop]
              rw [e1, ← e2]
              simp
            rw [this]
            exact rdVals_take _ (rdVals_keeps hk _ _ hrd)
          · intro u hu
            rcases List.mem_append.1 hu with hu | hu
            · exact hones u (List.mem_of_mem_take hu)
            · exact hzone u hu
      · cases hq
    · cases hq
  · cases hq
theorem effOp_sound (hE : EnvOk E) (h : Rel E.n base w0 X S α a w) (o : Oper) (hdst : ∀ d, o.dst = some d → d < E.n) {c : Prop} {p : PV} {o' : Objs} (hp : effOp E S o.dst o.op = some (c, p, o')) (hc : c) :
    ∃ α' v w', ((execOp a.eval o).run E.P w = .ok (.value v) w' ∨ ((execOp a.eval o).run E.P w = .ok .skip w' ∧ v = undef)) ∧ Rel E.n base w0 X { (S.put o.dst p) with o := o' } α' (a.put o.dst v) w' := by
  obtain ⟨dst, op, type, pos, after, guard⟩ := o
  simp only at hdst hp ⊢
  unfold effOp at hp
  split at hp
  · rename_i t K
    obtain ⟨α', v, w', h1, h2⟩ := run_allocE hE h (hdst K rfl) hp
    exact ⟨α', v, w', .inl (by simp [execOp, h1]), h2⟩
  · rename_i t x K
    obtain ⟨⟨c1, p1, o1⟩, h1, h2⟩ := Option.map_eq_some_iff.1 hp
    simp only [Prod.mk.injEq] at h2
    obtain ⟨rfl, rfl, rfl⟩ := h2
    obtain ⟨α', v, w', h1, h2⟩ := run_boxE h (hdst K rfl) h1 (sv_rel h x hc.1)
    exact ⟨α', v, w', .inl (by simp [execOp, h1]), h2⟩
  · rename_i d t adr x
    obtain ⟨⟨c1, p1, o1⟩, h1, h2⟩ := Option.map_eq_some_iff.1 hp
    simp only [Prod.mk.injEq] at h2
    obtain ⟨rfl, rfl, rfl⟩ := h2
    obtain ⟨α', w', h1, h2⟩ := run_storeE hE h (dst := dst) hdst h1 hc.2 (sv_rel h adr hc.1.1) (sv_rel h x hc.1.2)
    exact ⟨α', undef, w', .inr ⟨by simp [execOp, h1], rfl⟩, h2⟩
  · rename_i t l m K
    obtain ⟨⟨c1, p1, o1⟩, h1, h2⟩ := Option.map_eq_some_iff.1 hp
    simp only [Prod.mk.injEq] at h2
    obtain ⟨rfl, rfl, rfl⟩ := h2
    obtain ⟨α', v, w', h1, h2⟩ := run_makeE hE h (hdst K rfl) h1 hc.2 (sv_rel h l hc.1.1) (sv_rel h m hc.1.2)
    exact ⟨α', v, w', .inl (by simp [execOp, h1]), h2⟩
  · rename_i t n parts K
    obtain ⟨⟨c1, p1, o1⟩, h1, h2⟩ := Option.map_eq_some_iff.1 hp
    simp only [Prod.mk.injEq] at h2
    obtain ⟨rfl, rfl, rfl⟩ := h2
    obtain ⟨α', v, w', h1, h2⟩ := run_litE hE h (hdst K rfl) (vparts := parts.map fun p => (p.1, a.eval p.2)) h1 (by simpa using parts_rel h hc.1)
    exact ⟨α', v, w', .inl (by simp [execOp, h1]), h2⟩
  · rename_i cl K
    obtain ⟨callee, args, argTypes⟩ := cl
    unfold callE at hp
    simp only at hp
    split at hp
    · split at hp
      · rename_i s x t t' hx ht
        split at hp
        · rename_i e
          subst e
          have hx' : args = #[s, x] := by simpa [← Array.toList_inj] using hx
          have ht' : argTypes = #[t, t] := by simpa [← Array.toList_inj] using ht
          subst hx' ht'
          obtain ⟨⟨c1, p1, o1⟩, h1, h2⟩ := Option.map_eq_some_iff.1 hp
          simp only [Prod.mk.injEq] at h2
          obtain ⟨rfl, rfl, rfl⟩ := h2
          obtain ⟨α', v, w', h1, h2⟩ := run_appE (ty := type) hE h (hdst K rfl) h1 hc.2 (sv_rel h s hc.1.1) (sv_rel h x hc.1.2)
          exact ⟨α', v, w', .inl (by simp [execOp, resolve, invoke, builtin, h1]), h2⟩
        · cases hp
      · cases hp
    · cases hp
  · rename_i cl
    obtain ⟨callee, args, argTypes⟩ := cl
    unfold clrE at hp
    simp only at hp
    split at hp
    · split at hp
      · rename_i s t hx ht
        have hx' : args = #[s] := by simpa [← Array.toList_inj] using hx
        have ht' : argTypes = #[t] := by simpa [← Array.toList_inj] using ht
        subst hx' ht'
        obtain ⟨⟨c1, p1, o1⟩, h1, h2⟩ := Option.map_eq_some_iff.1 hp
        simp only [Prod.mk.injEq] at h2
        obtain ⟨rfl, rfl, rfl⟩ := h2
        obtain ⟨w', h1, h2⟩ := run_clearE (ty := type) hE h h1 hc.2 (sv_rel h s hc.1)
        exact ⟨α, _, w', .inl (by simp [execOp, resolve, invoke, builtin, h1]), h2⟩
      · cases hp
    · cases hp
  · rename_i t x lo hi d
    obtain ⟨⟨c1, p1, o1⟩, h1, h2⟩ := Option.map_eq_some_iff.1 hp
    simp only [Prod.mk.injEq] at h2
    obtain ⟨rfl, rfl, rfl⟩ := h2
    have hall : ∀ {xs : List Operand}, argsC S xs → ∀ y ∈ xs, S.sc y := by
      intro xs
      induction xs with
      | nil => intro _ y hy; cases hy
      | cons z xs ih =>
        intro hz y hy
        simp only [argsC] at hz
        rcases List.mem_cons.1 hy with rfl | hy
        · exact hz.1
        · exact ih hz.2 y hy
    have hsc := hall hc.1
    obtain ⟨v, h3, h4⟩ := run_sliceE hE h (hdst d rfl) (vl := lo.map a.eval) (vh := hi.map a.eval) h1 hc.2 (sv_rel h x (hsc x (by simp)))
      (fun p hp => by cases lo with | none => simp at hp | some y => simp at hp; subst hp; exact ⟨_, rfl, sv_rel h y (hsc y (by simp))⟩) (fun e => by cases lo with | none => rfl | some y => simp at e)
      (fun p hp => by cases hi with | none => simp at hp | some y => simp at hp; subst hp; exact ⟨_, rfl, sv_rel h y (hsc y (by simp))⟩) (fun e => by cases hi with | none => rfl | some y => simp at e)
    exact ⟨α, v, w, .inl (by simp [execOp, h3]), h4⟩
  · rename_i t K
    obtain ⟨α', v, w', h1, h2⟩ := run_makeMapE h (hdst K rfl) hp
    exact ⟨α', v, w', .inl (by simp [execOp, h1]), h2⟩
  · rename_i t x K
    obtain ⟨⟨c1, p1, o1⟩, h1, h2⟩ := Option.map_eq_some_iff.1 hp
    simp only [Prod.mk.injEq] at h2
    obtain ⟨rfl, rfl, rfl⟩ := h2
    obtain ⟨α', v, w', h1, h2⟩ := run_rangeE hE h (hdst K rfl) h1 (sv_rel h x hc.1)
    exact ⟨α', v, w', .inl (by simp [execOp, h1]), h2⟩
  · rename_i d t m k x
    obtain ⟨⟨c1, p1, o1⟩, h1, h2⟩ := Option.map_eq_some_iff.1 hp
    simp only [Prod.mk.injEq] at h2
    obtain ⟨rfl, rfl, rfl⟩ := h2
    obtain ⟨α', w', h1, h2⟩ := run_mapUpdE hE h (dst := dst) hdst h1 hc.2 (sv_rel h m hc.1.1.1) (sv_rel h k hc.1.1.2) (sv_rel h x hc.1.2)
    exact ⟨α', undef, w', .inr ⟨by simp [execOp, h1], rfl⟩, h2⟩
  · rename_i d t m k x
    obtain ⟨⟨c1, p1, o1⟩, h1, h2⟩ := Option.map_eq_some_iff.1 hp
    simp only [Prod.mk.injEq] at h2
    obtain ⟨rfl, rfl, rfl⟩ := h2
    obtain ⟨α', w', h1, h2⟩ := run_mapUpdE hE h (dst := dst) hdst h1 hc.2 (sv_rel h m hc.1.1.1) (sv_rel h k hc.1.1.2) (sv_rel h x hc.1.2)
    exact ⟨α', undef, w', .inr ⟨by simp [execOp, h1], rfl⟩, h2⟩
  · rename_i t m k K
    obtain ⟨⟨c1, p1, o1⟩, h1, h2⟩ := Option.map_eq_some_iff.1 hp
    simp only [Prod.mk.injEq] at h2
    obtain ⟨rfl, rfl, rfl⟩ := h2
    obtain ⟨α', v, w', h1, h2⟩ := run_mapEntE hE h (hdst K rfl) h1 hc.2 (sv_rel h m hc.1.1) (sv_rel h k hc.1.2)
    exact ⟨α', v, w', .inl (by simp [execOp, h1]), h2⟩
  · rename_i d t m s x
    obtain ⟨⟨c1, p1, o1⟩, h1, h2⟩ := Option.map_eq_some_iff.1 hp
    simp only [Prod.mk.injEq] at h2
    obtain ⟨rfl, rfl, rfl⟩ := h2
    obtain ⟨α', w', h1, h2⟩ := run_mapStoE (E := E) (t := t) h (dst := dst) hdst h1 hc.2 (sv_rel h m hc.1.1.1) (sv_rel h s hc.1.1.2) (sv_rel h x hc.1.2)
    exact ⟨α', undef, w', .inr ⟨by simp [execOp, h1], rfl⟩, h2⟩
  · cases hp
end
end Go.Proofs.Ytomnjbebgfadoaa.Pi
end
section
/- Steps of the pure interpreter: what an operation asks, what may come back, and what it leaves; regions; code.
   Conditions: none; definitions. -/
set_option linter.unusedVariables false
set_option linter.unusedSimpArgs false
namespace Go.Proofs.Ytomnjbebgfadoaa.Pi
open Go Go.RowKit

/-! ### 14. Steps -/
/-- Is a guarded operation carried out? -/
def gB : PV → Bool → Option Bool
  | .d (.bool b), want => some (b == want)
  | .opt g x, want => (gB x want).map fun r => g && r
  | _, _ => none
def wantedP (ops : Array Oper) (S : St) (o : Oper) : Option Bool := match o.guard with
  | none => some true
  | some (j, want) => match (ops[j]?).bind (·.dst) with
    | some d => gB (S.t d) want
    | none => none
def gopt (o : Oper) (g : Bool) (p : PV) : PV := match o.guard with
  | none => p
  | some _ => .opt g p

/-- What a step asks, and which value and objects it may leave. -/
structure SR where
  vc : Prop
  post : PV → Objs → Prop

inductive Kind where
  | pure | eff | lit | call | len | nxt
def kindOf (E : Env) (o : Oper) : Kind := match o.op with
  | .alloc _ | .box .. | .store .. | .makeSlice .. | .makeMap .. | .mapUpdate .. | .insert .. | .mapEntry .. | .entryStore .. | .range .. => .eff
  | .next .. => .nxt
  | .buildSlice .. => match o.dst with
    | some d => if E.own d then .eff else .lit
    | none => .lit
  | .slice .. => match o.dst with
    | some d => if E.own d then .eff else .pure
    | none => .pure
  | .call c => match c.callee with
    | .builtin .append | .builtin .clear => .eff
    | .builtin .len => match o.dst with
      | some d => if E.fact d then .len else .pure
      | none => .pure
    | .builtin _ => .pure
    | .value _ => .call
    | .invoke .. => .pure
  | _ => .pure

/-- What a call is handed. -/
structure CI where
  f : Nat
  ds : List D
  ks : List Nat
  c : Prop
def snapVs (E : Env) (S : St) : List Operand → List Nat → Option (List D)
  | [], [] => some []
  | x :: xs, t :: ts => (snapV E S t (S.sv x)).bind fun d => (snapVs E S xs ts).map (d :: ·)
  | _, _ => none
def callInfo (E : Env) (S : St) (c : Call) : Option CI := match c.callee with
  | .value x => match S.sv x with
    | .d (.fn f cd) => (snapVs E S c.args.toList c.argTypes.toList).map fun ds => ⟨f, ds ++ cd, c.args.toList.flatMap fun x => keysV S (S.sv x), argsC S c.args.toList ∧ S.sc x⟩
    | .fn f caps => (snapVs E S c.args.toList c.argTypes.toList).bind fun ds => (snapRs E S caps).map fun cd => ⟨f, ds ++ cd, (c.args.toList.flatMap fun x => keysV S (S.sv x)) ++ caps.flatMap (keysR S), argsC S c.args.toList ∧ S.sc x⟩
    | _ => none
  | _ => none

/-- What a call is handed that goes on with the objects. -/
def icallInfo (S : St) (c : Call) : Option (Nat × List PV × Prop) := match c.callee with
  | .value x => match S.sv x with
    | .d (.fn f cd) => some (f, c.args.toList.map S.sv ++ cd.map PV.d, argsC S c.args.toList ∧ S.sc x)
    | .fn f caps => some (f, c.args.toList.map S.sv ++ caps, argsC S c.args.toList ∧ S.sc x)
    | _ => none
  | _ => none

def RV.flatP : RV → PV
  | .d x => .d x
  | .own .. => .un
def packP (ps : List PV) : PV := match ps with
  | [p] => p
  | ps => .tup ps
def retP (o : Objs) (K : Nat) : Nat → List RV → List PV
  | _, [] => []
  | j, .d x :: rs => .d x :: retP o K (j + 1) rs
  | j, .own sz e xs :: rs => .row (K + 1000 * j) ((o (K + 1000 * j)).1 + 1) xs.length :: retP o K (j + 1) rs
def retO (o : Objs) (K : Nat) : Nat → List RV → Objs
  | _, [] => o
  | j, .d x :: rs => retO o K (j + 1) rs
  | j, .own sz e xs :: rs => retO (newOb o (K + 1000 * j) (.row sz e xs)) K (j + 1) rs

def callRep (E : Env) (S : St) (o : Oper) (g : Bool) (ci : CI) (con : Con) : SR :=
  if con.flat then ⟨g = true → ci.c ∧ con.pre ci.ds, fun p o' => ∃ rs, ((g = true ∨ ∃ rs', con.post ci.ds rs') → con.post ci.ds rs) ∧ p = gopt o g (packP (rs.map RV.flatP)) ∧ o' = S.o⟩
  else match o.dst with
    | some d => ⟨g = true ∧ ci.c ∧ con.pre ci.ds, fun p o' => ∃ rs, con.post ci.ds rs ∧ p = packP (retP (dropObs S.o ci.ks) (E.key d) 0 rs) ∧ o' = retO (dropObs S.o ci.ks) (E.key d) 0 rs⟩
    | none => ⟨g = true ∧ ci.c ∧ con.pre ci.ds, fun p o' => ∃ rs, con.post ci.ds rs ∧ p = .un ∧ o' = dropObs S.o ci.ks⟩

def litOp (E : Env) (S : St) (op : Op) : PR := match op with
  | .buildSlice t n parts => (litV E t n (parts.toList.map fun p => (p.1, S.sv p.2))).map fun r => (argsC S (parts.toList.map (·.2)) ∧ r.1, r.2)
  | _ => none
def callOf (op : Op) : Option Call := match op with
  | .call c => some c
  | _ => none

/-- What is known behind a len: no slice is longer than this. -/
def lenF (S : St) (q : PV) : Prop := match q with
  | .d (.str s) => s.size ≤ maxLen
  | .d (.lst _ xs) => xs.length ≤ maxLen
  | .row K ver n => n ≤ maxLen
  | _ => True
def opF (S : St) (op : Op) : Prop := match op with
  | .call c => match c.callee, c.args.toList with
    | .builtin .len, [x] => lenF S (S.sv x)
    | _, _ => True
  | _ => True

/-- A loop over a map goes on: nothing is left, or one of the entries that are left comes, whichever. -/
def nextR (S : St) (x : PV) : Option SR := match x with
  | .ref K ver 0 0 0 => match S.obj K ver with
    | some (.iter M mver since seen last) => match S.obj M mver with
      | some (.map _ _ clock es) => some ⟨(∀ y ∈ es, y.1 < since) ∧ since ≤ last, fun p o' =>
          ((∀ y ∈ es, y.1 ∈ seen) ∧ p = .tup [.d (.bool false)] ∧ o' = S.o) ∨ ∃ y ∈ es, y.1 ∉ seen ∧ p = .tup [.d (.bool true), .d y.2.1, y.2.2] ∧ o' = setOb S.o K (.iter M mver since (seen ++ [y.1]) clock)⟩
      | _ => none
    | _ => none
  | _ => none
def nextOp (S : St) (op : Op) : Option SR := match op with
  | .next x false => (nextR S (S.sv x)).map fun r => ⟨S.sc x ∧ r.vc, r.post⟩
  | _ => none
def rep1 (E : Env) (S : St) (o : Oper) (g : Bool) : Option SR := match kindOf E o with
  | .pure => (pureOp E S o.op).map fun r => ⟨g = true → r.1, fun p o' => p = gopt o g r.2 ∧ o' = S.o⟩
  | .len => (pureOp E S o.op).map fun r => ⟨g = true → r.1, fun p o' => (p = gopt o g r.2 ∧ o' = S.o) ∧ (g = true → opF S o.op)⟩
  | .lit => (litOp E S o.op).map fun r => ⟨g = true → r.1, fun p o' => p = gopt o g r.2 ∧ o' = S.o⟩
  | .eff => (effOp E S o.dst o.op).map fun r => ⟨g = true ∧ r.1, fun p o' => p = r.2.1 ∧ o' = r.2.2⟩
  | .nxt => (nextOp S o.op).map fun r => ⟨g = true ∧ r.vc, r.post⟩
  | .call => (callOf o.op).bind fun c => (icallInfo S c).bind fun ic => match E.icon ic.1 with
    | some con => some ⟨g = true ∧ ic.2.2 ∧ con.pre S.o ic.2.1, fun p o' => con.post S.o ic.2.1 o' p⟩
    | none => (callInfo E S c).bind fun ci => (E.con ci.f).map fun con => callRep E S o g ci con
def rep (E : Env) (ops : Array Oper) (S : St) (o : Oper) : Option SR := (wantedP ops S o).bind fun g => rep1 E S o g

def dstOk (E : Env) (o : Oper) : Bool := match o.dst with
  | some d => decide (d < E.n)
  | none => true
/-- The state behind a step. -/
def St.after (S : St) (d : Option Nat) (p : PV) (o' : Objs) : St := { (S.put d p) with o := o' }
def popOne (E : Env) (ops : Array Oper) (i : Nat) (S : St) (K : St → Prop) : Prop := match ops[i]? with
  | none => K S
  | some o => ∃ r, rep E ops S o = some r ∧ r.vc ∧ ∀ p o', r.post p o' → K (S.after o.dst p o')
def popsL (E : Env) (ops : Array Oper) : List Nat → St → (St → Prop) → Prop
  | [], S, Q => Q S
  | i :: l, S, Q => popOne E ops i S fun S' => popsL E ops l S' Q

/-! ### 15. Regions of open order: which operations may change places -/
/-- 0: looks at no object; 1: looks at objects; 2: writes them; 3: is never moved. -/
def cls (E : Env) (o : Oper) : Nat := match kindOf E o with
  | .pure => match o.op with
    | .load .. | .call .. | .lookup .. | .entry .. => 1
    | _ => 0
  | .lit => 0
  | .eff => 2
  | .len => 3
  | .nxt => 3
  | .call => match o.op with
    | .call c => match c.callee with
      | .value (.func f) => match E.icon f, E.con f with
        | none, some con => if con.flat then 1 else 2
        | _, _ => 2
      | _ => 2
    | _ => 2
/-- A reading of a map's value ahead of the same map's entry. -/
def mapPair (x y : Oper) : Bool := match x.op, y.op with
  | .lookup t _ _ false, .mapEntry t' _ _ => t == t' && x.guard.isNone && y.guard.isNone && y.dst.isSome
  | _, _ => false
def mayswap (E : Env) (ops : Array Oper) (x y : Oper) : Bool := x.apart ops y && (mapPair x y || (decide (cls E x ≤ 1) && decide (cls E y ≤ 1)) || (decide (cls E x = 0) && decide (cls E y ≤ 2)) || (decide (cls E y = 0) && decide (cls E x ≤ 2)))
/-- Does an operation wait for this one, straight or by what it waits for (m: such bits, as a hint)? -/
def waitsFor (m : List Nat) (o : Oper) (i : Nat) : Bool := o.after.toList.any fun e => Region.binds .any e && (e.on == i || (decide (i < e.on) && (m.getD e.on 0).testBit i))
def masks (ops : List Oper) : List Nat := ops.foldl (fun acc o => acc ++ [o.after.toList.foldl (fun s e => if Region.binds .any e then s ||| 2 ^ e.on ||| acc.getD e.on 0 else s) 0]) []
def drawOk (E : Env) (ops : Array Oper) : Bool :=
  Region.noSelect ops && (List.range ops.size).all fun j => match ops[j]? with
    | some oj => (oj.after.toList.all fun e => !Region.binds .any e || decide (e.on < j)) && (List.range j).all fun i => match ops[i]? with
        | some oi => if ((masks ops.toList).getD j 0).testBit i then waitsFor (masks ops.toList) oj i else mayswap E ops oi oj
        | none => false
    | none => false

/-! ### 16. Code -/
/-- What is checked of a function's code beforehand. -/
def codeOk (E : Env) : Code → Bool
  | .region _ ops draw => ops.toList.all (dstOk E) && (!draw || drawOk E ops)
  | .seq x y => codeOk E x && codeOk E y
  | .cond _ x y => codeOk E x && codeOk E y
  | .block _ x => codeOk E x
  | .loop x => codeOk E x
  | _ => true
inductive PEx where
  | normal
  | exit (id : Nat)
  | ret

def ofL (l : List (Nat × PV)) : Nat → PV := fun k => (l.lookup k).getD .un
def ofO (l : List (Nat × Nat × Ob)) : Objs := fun k => match l.lookup k with
  | some (v, x) => (v, some x)
  | none => (0, none)
end Go.Proofs.Ytomnjbebgfadoaa.Pi
end
section
/- A step of the pure interpreter is sound.
   Conditions: none; lemmas. -/
set_option linter.unusedVariables false
set_option linter.unusedSimpArgs false
namespace Go.Proofs.Ytomnjbebgfadoaa.Pi
open Go Go.RowKit

mutual
theorem flat_rd {w w' : World} {ok ok' : Nat → Prop} : ∀ (d : D) (v : Value), d.flat = true → d.rd w ok v → d.rd w' ok' v
  | .int k n, v, hf, h => by simpa only [D.rd] using h
  | .bool b, v, hf, h => by simpa only [D.rd] using h
  | .str s, v, hf, h => by simpa only [D.rd] using h
  | .lst sz xs, v, hf, h => by simp [D.flat] at hf
  | .ptr cs off, v, hf, h => by simp [D.flat] at hf
  | .fn f caps, v, hf, h => by simp [D.flat] at hf
  | .nil k, v, hf, h => by simpa only [D.rd] using h
  | .agg cs, v, hf, h => by
    simp only [D.flat] at hf
    simp only [D.rd] at h ⊢
    obtain ⟨vs, e, h1, h2⟩ := h
    exact ⟨vs, e, h1, flats_rd cs _ hf h2⟩
theorem flats_rd {w w' : World} {ok ok' : Nat → Prop} : ∀ (ds : List D) (vs : List Value), flats ds = true → rdVals w ok ds vs → rdVals w' ok' ds vs
  | [], vs, hf, h => by simpa only [rdVals] using h
  | d :: ds, vs, hf, h => by
    simp only [flats, Bool.and_eq_true] at hf
    simp only [rdVals] at h ⊢
    obtain ⟨v, vs', e, h1, h2⟩ := h
    exact ⟨v, vs', e, flat_rd d v hf.1 h1, flats_rd ds vs' hf.2 h2⟩
end

theorem pack_rel {o : Objs} {α : Nat → Value} {w : World} {ok : Nat → Prop} {ps : List PV} {us : List Value} (h : PV.rels o α w ok ps us) : (packP ps).rel o α w ok (packV us) := by
  have hl := PV.rels_length h
  match ps, us, h, hl with
  | [p], [u], h, _ =>
    simp only [PV.rels] at h
    obtain ⟨v, vs', e, h1, h2⟩ := h
    simp only [List.cons.injEq] at e
    obtain ⟨rfl, _⟩ := e
    exact h1
  | [], [], h, _ => simp only [packP, packV, PV.rel]; exact ⟨_, rfl, by simpa using h⟩
  | p :: q :: ps, u :: u' :: us, h, _ => simp only [packP, packV, PV.rel]; exact ⟨_, rfl, by simpa using h⟩
  | [], _ :: _, _, hl => simp at hl
  | [_], [], _, hl => simp at hl
  | [_], _ :: _ :: _, _, hl => simp at hl
  | _ :: _ :: _, [], _, hl => simp at hl
  | _ :: _ :: _, [_], _, hl => simp at hl

theorem own_none_of_flat {rs : List RV} {us : List Value} (h : ∀ x ∈ rs, RV.flat x = true) : ownBlks rs us = [] := by
  induction rs generalizing us with
  | nil => cases us <;> rfl
  | cons r rs ih =>
    cases r with
    | d x =>
      cases us with
      | nil => rfl
      | cons u us => simp only [ownBlks]; exact ih fun y hy => h y (by simp [hy])
    | own sz e xs => have := h (.own sz e xs) (by simp); simp [RV.flat] at this
theorem flat_rels {w w' : World} {ok ok' : Nat → Prop} {base : Nat} {o : Objs} {α : Nat → Value} : ∀ {rs : List RV} {us : List Value}, (∀ x ∈ rs, RV.flat x = true) → RV.rels w ok base rs us → PV.rels o α w' ok' (rs.map RV.flatP) us
  | [], us, hf, h => by simpa only [RV.rels, List.map_nil, PV.rels] using h
  | .own sz e xs :: rs, us, hf, h => by have := hf (.own sz e xs) (by simp); simp [RV.flat] at this
  | .d x :: rs, us, hf, h => by
    simp only [RV.rels] at h
    obtain ⟨v, vs', rfl, h1, h2⟩ := h
    simp only [List.map_cons, RV.flatP, PV.rels, PV.rel]
    exact ⟨v, vs', rfl, flat_rd x v (by have := hf (.d x) (by simp); simpa [RV.flat] using this) h1, flat_rels (fun y hy => hf y (by simp [hy])) h2⟩

section
variable {E : Env} {N base : Nat} {w0 : World} {X : Fr} {S : St} {α : Nat → Value} {a : Act} {w : World}

theorem gB_sound {o : Objs} {α : Nat → Value} {w : World} {ok : Nat → Prop} : ∀ {p : PV} {want g : Bool} {v : Value}, gB p want = some g → p.rel o α w ok v → ((match v with | .bool b => some b | _ => none) == some want) = g
  | .d (.bool b), want, g, v, h, hr => by
    simp only [gB, Option.some.injEq] at h
    simp only [PV.rel, D.rd] at hr
    subst hr; subst h
    cases b <;> cases want <;> rfl
  | .opt q x, want, g, v, h, hr => by
    simp only [gB, Option.map_eq_some_iff] at h
    obtain ⟨r, h1, rfl⟩ := h
    simp only [PV.rel] at hr
    cases q with
    | true => simpa using gB_sound h1 (hr.1 rfl)
    | false => rw [hr.2 rfl]; simp [undef]
  | .un, _, _, _, h, _ => by simp [gB] at h
  | .nils, _, _, _, h, _ => by simp [gB] at h
  | .ref .., _, _, _, h, _ => by simp [gB] at h
  | .row .., _, _, _, h, _ => by simp [gB] at h
  | .map .., _, _, _, h, _ => by simp [gB] at h
  | .fn .., _, _, _, h, _ => by simp [gB] at h
  | .agg .., _, _, _, h, _ => by simp [gB] at h
  | .tup .., _, _, _, h, _ => by simp [gB] at h
  | .clip .., _, _, _, h, _ => by simp [gB] at h
  | .sub .., _, _, _, h, _ => by simp [gB] at h
  | .d (.int ..), _, _, _, h, _ => by simp [gB] at h
  | .d (.str ..), _, _, _, h, _ => by simp [gB] at h
  | .d (.lst ..), _, _, _, h, _ => by simp [gB] at h
  | .d (.agg ..), _, _, _, h, _ => by simp [gB] at h
  | .d (.ptr ..), _, _, _, h, _ => by simp [gB] at h
  | .d (.fn ..), _, _, _, h, _ => by simp [gB] at h

theorem wanted_sound (h : Rel N base w0 X S α a w) {ops : Array Oper} {o : Oper} {g : Bool} (hg : wantedP ops S o = some g) : Region.wanted o (yielded ops a.tmps) = g := by
  unfold wantedP at hg
  unfold Region.wanted
  split at hg
  · rename_i he
    simp only [Option.some.injEq] at hg
    rw [he]; exact hg
  · rename_i j want he
    rw [he]
    simp only
    split at hg
    · rename_i d hd
      have := gB_sound hg (h.t d)
      rw [← this]
      unfold yielded
      rw [hd]
      simp only [Option.bind_some]
      by_cases hlt : d < a.tmps.size
      · simp only [Array.getD_eq_getD_getElem?, Array.getElem?_eq_getElem hlt, Option.getD_some]
        cases a.tmps[d] <;> rfl
      · have hn : a.tmps[d]? = none := Array.getElem?_eq_none (Nat.le_of_not_lt hlt)
        simp [Array.getD_eq_getD_getElem?, hn, undef]
    · cases hg

theorem after_o (S : St) (d : Option Nat) (p : PV) : ({ (S.put d p) with o := S.o } : St) = S.put d p := by cases d <;> rfl

theorem gopt_true {o : Oper} {p : PV} {ob : Objs} {α : Nat → Value} {w : World} {ok : Nat → Prop} {v : Value} (h : p.rel ob α w ok v) : (gopt o true p).rel ob α w ok v := by
  unfold gopt
  split
  · exact h
  · simp only [PV.rel]; exact ⟨fun _ => h, by simp⟩

theorem snapVs_sound (h : Rel N base w0 X S α a w) {ok : Nat → Prop} : ∀ {xs : List Operand} {ts : List Nat} {ds : List D}, snapVs E S xs ts = some ds → Opens X.A S α (xs.flatMap fun x => keysV S (S.sv x)) ok → argsC S xs → rdVals w ok ds (xs.map a.eval)
  | [], [], ds, hq, ho, hc => by
    simp only [snapVs, Option.some.injEq] at hq; subst hq
    simp [rdVals]
  | [], _ :: _, ds, hq, ho, hc => by simp [snapVs] at hq
  | _ :: _, [], ds, hq, ho, hc => by simp [snapVs] at hq
  | x :: xs, t :: ts, ds, hq, ho, hc => by
    simp only [snapVs, Option.bind_eq_some_iff, Option.map_eq_some_iff] at hq
    obtain ⟨d, h1, es, h2, rfl⟩ := hq
    simp only [argsC] at hc
    simp only [List.map_cons, rdVals]
    exact ⟨_, _, rfl, snapV_sound h h1 (ho.sub fun K hK => by simp [hK]) (sv_rel h x hc.1), snapVs_sound h h2 (ho.sub fun K hK => by simp only [List.flatMap_cons, List.mem_append]; exact .inr hK) hc.2⟩

theorem callInfo_sound (hE : EnvOk E) (h : Rel N base w0 X S α a w) {o : Oper} {c : Call} (hop : o.op = .call c) {ci : CI} (hi : callInfo E S c = some ci) (hc : ci.c) {con : Con} (hcon : E.con ci.f = some con) :
    ∃ vs, (execOp a.eval o).run E.P w = .ok (.enter ci.f vs.toArray) w ∧ ∀ ok, Opens X.A S α ci.ks ok → rdVals w ok ci.ds vs := by
  obtain ⟨⟨fn, hfn, hbody, hname⟩, _⟩ := hE.con _ _ hcon
  have key : ∀ (x : Operand) (caps : Array Value), c.callee = .value x → a.eval x = .func (.func ci.f) #[] caps → (execOp a.eval o).run E.P w = .ok (.enter ci.f ((c.args.toList.map a.eval ++ caps.toList).toArray)) w := by
    intro x caps hx hv
    obtain ⟨dst, op, type, pos, after, guard⟩ := o
    simp only at hop; subst hop
    obtain ⟨callee, args, argTypes⟩ := c
    simp only at hx; subst hx
    have e : (args.map a.eval ++ caps) = (args.toList.map a.eval ++ caps.toList).toArray := by
      rw [← Array.toList_inj]; simp
    have hname' : fn.name ≠ "runtime.NumGoroutine" := by simpa using hname
    have hbody' : fn.body ≠ none := by intro e; rw [e] at hbody; simp at hbody
    simp [execOp, resolve, hv, Deferred.ofValue, invoke, callFunc, hfn, hname', hbody', e]
  unfold callInfo at hi
  split at hi
  · rename_i x hx
    have hsv : S.sc x → (S.sv x).rel S.o α w (okOf X.A S.o α) (a.eval x) := sv_rel h x
    generalize S.sv x = px at hi hsv
    split at hi
    · rename_i f cd
      obtain ⟨ds, hds, rfl⟩ := Option.map_eq_some_iff.1 hi
      simp only at hc hcon key ⊢
      have := hsv hc.2
      simp only [PV.rel, D.rd] at this
      obtain ⟨caps, hv, hr⟩ := this
      refine ⟨_, key x caps hx hv, fun ok ho => rdVals_append (snapVs_sound h hds ho hc.1) (rdVals_keeps ho.keeps _ _ hr)⟩
    · rename_i f caps
      simp only [Option.bind_eq_some_iff, Option.map_eq_some_iff] at hi
      obtain ⟨ds, hds, cd, hcd, rfl⟩ := hi
      simp only at hc hcon key ⊢
      have := hsv hc.2
      simp only [PV.rel] at this
      obtain ⟨vcaps, hv, hr⟩ := this
      refine ⟨_, key x vcaps hx hv, fun ok ho => rdVals_append (snapVs_sound h hds (ho.sub fun K hK => by simp [hK]) hc.1) (snapRs_sound h hcd (ho.sub fun K hK => by simp only [List.mem_append]; exact .inr hK) hr)⟩
    · cases hi
  · cases hi

theorem svs_rels (h : Rel N base w0 X S α a w) : ∀ {xs : List Operand}, argsC S xs → PV.rels S.o α w (okOf X.A S.o α) (xs.map S.sv) (xs.map a.eval)
  | [], _ => by simp [PV.rels]
  | x :: xs, hc => by
    simp only [argsC] at hc
    simp only [List.map_cons, PV.rels]
    exact ⟨_, _, rfl, sv_rel h x hc.1, svs_rels h hc.2⟩
theorem rels_of_rdVals {o : Objs} {α : Nat → Value} {w : World} {ok : Nat → Prop} : ∀ {ds : List D} {vs : List Value}, rdVals w ok ds vs → PV.rels o α w ok (ds.map PV.d) vs
  | [], vs, h => by simpa only [rdVals, List.map_nil, PV.rels] using h
  | d :: ds, vs, h => by
    simp only [rdVals] at h
    obtain ⟨v, vs', rfl, h1, h2⟩ := h
    simp only [List.map_cons, PV.rels, PV.rel]
    exact ⟨v, vs', rfl, h1, rels_of_rdVals h2⟩

theorem run_enter {P : Program} {f : Nat} {fn : Func} (hfn : P.funcs[f]? = some fn) (hbody : fn.body.isNone = false) (hname : (fn.name == "runtime.NumGoroutine") = false) (args : Array Value) (w : World) : (callFunc f args).run P w = .ok (.enter f args) w := by
  have hname' : fn.name ≠ "runtime.NumGoroutine" := by simpa using hname
  have hbody' : fn.body ≠ none := by intro e; rw [e] at hbody; simp at hbody
  simp [callFunc, hfn, hname', hbody']
theorem icallInfo_sound (hE : EnvOk E) (h : Rel N base w0 X S α a w) {o : Oper} {c : Call} (hop : o.op = .call c) {f : Nat} {ps : List PV} {cd : Prop} (hi : icallInfo S c = some (f, ps, cd)) (hc : cd) :
    ∃ vs, (execOp a.eval o).run E.P w = (callFunc f vs.toArray).run E.P w ∧ PV.rels S.o α w (okOf X.A S.o α) ps vs := by
  have key : ∀ (x : Operand) (caps : Array Value), c.callee = .value x → a.eval x = .func (.func f) #[] caps → (execOp a.eval o).run E.P w = (callFunc f ((c.args.toList.map a.eval ++ caps.toList).toArray)).run E.P w := by
    intro x caps hx hv
    obtain ⟨dst, op, type, pos, after, guard⟩ := o
    simp only at hop; subst hop
    obtain ⟨callee, args, argTypes⟩ := c
    simp only at hx; subst hx
    have e : (args.map a.eval ++ caps) = (args.toList.map a.eval ++ caps.toList).toArray := by
      rw [← Array.toList_inj]; simp
    simp [execOp, resolve, hv, Deferred.ofValue, invoke, e]
  unfold icallInfo at hi
  split at hi
  · rename_i x hx
    have hsv : S.sc x → (S.sv x).rel S.o α w (okOf X.A S.o α) (a.eval x) := sv_rel h x
    generalize S.sv x = px at hi hsv
    split at hi
    · rename_i f' cd'
      simp only [Option.some.injEq, Prod.mk.injEq] at hi
      obtain ⟨rfl, rfl, rfl⟩ := hi
      have := hsv hc.2
      simp only [PV.rel, D.rd] at this
      obtain ⟨caps, hv, hr⟩ := this
      exact ⟨_, key x caps hx hv, PV.rels_append (svs_rels h hc.1) (rels_of_rdVals hr)⟩
    · rename_i f' caps
      simp only [Option.some.injEq, Prod.mk.injEq] at hi
      obtain ⟨rfl, rfl, rfl⟩ := hi
      have := hsv hc.2
      simp only [PV.rel] at this
      obtain ⟨vcaps, hv, hr⟩ := this
      exact ⟨_, key x vcaps hx hv, PV.rels_append (svs_rels h hc.1) hr⟩
    · cases hi
  · cases hi

/-! results of a call that are the call's own -/
def retα (α : Nat → Value) (K : Nat) : Nat → List RV → List Value → Nat → Value
  | j, .d _ :: rs, _ :: us => retα α K (j + 1) rs us
  | j, .own .. :: rs, u :: us => retα (hup α (K + 1000 * j) u) K (j + 1) rs us
  | _, _, _ => α
def NewK (K : Nat) (j : Nat) (rs : List RV) (k : Nat) : Prop := ∃ i, k = K + 1000 * (j + i) ∧ ∃ sz e xs, rs[i]? = some (.own sz e xs)

theorem ret_old {K : Nat} : ∀ {rs : List RV} {us : List Value} {j : Nat} {o : Objs} {α : Nat → Value} {k : Nat}, ¬ NewK K j rs k → retO o K j rs k = o k ∧ retα α K j rs us k = α k
  | [], us, j, o, α, k, h => by cases us <;> simp [retO, retα]
  | .d x :: rs, [], j, o, α, k, h => by
    have h' : ¬ NewK K (j + 1) rs k := fun ⟨i, e, r⟩ => h ⟨i + 1, by omega, by simpa using r⟩
    exact ⟨by simpa only [retO] using (ret_old (us := []) (α := α) h').1, by simp [retα]⟩
  | .d x :: rs, u :: us, j, o, α, k, h => by
    have h' : ¬ NewK K (j + 1) rs k := fun ⟨i, e, r⟩ => h ⟨i + 1, by omega, by simpa using r⟩
    simpa only [retO, retα] using ret_old h'
  | .own sz e xs :: rs, [], j, o, α, k, h => by
    have h' : ¬ NewK K (j + 1) rs k := fun ⟨i, e, r⟩ => h ⟨i + 1, by omega, by simpa using r⟩
    have hk : k ≠ K + 1000 * j := fun e' => h ⟨0, by simpa using e', sz, e, xs, by simp⟩
    refine ⟨?_, by simp [retα]⟩
    simp only [retO]
    rw [(ret_old (us := []) (α := α) h').1]
    simp [newOb, hk]
  | .own sz e xs :: rs, u :: us, j, o, α, k, h => by
    have h' : ¬ NewK K (j + 1) rs k := fun ⟨i, e, r⟩ => h ⟨i + 1, by omega, by simpa using r⟩
    have hk : k ≠ K + 1000 * j := fun e' => h ⟨0, by simpa using e', sz, e, xs, by simp⟩
    simp only [retO, retα]
    obtain ⟨h1, h2⟩ := ret_old (us := us) (o := newOb o (K + 1000 * j) (.row sz e xs)) (α := hup α (K + 1000 * j) u) h'
    rw [h1, h2]
    simp [newOb, hup, hk]
theorem ret_new {K : Nat} : ∀ {rs : List RV} {us : List Value} {j : Nat} {o : Objs} {α : Nat → Value} {i : Nat} {sz e : Nat} {xs : List (List D)} {u : Value}, rs[i]? = some (.own sz e xs) → us[i]? = some u →
    retO o K j rs (K + 1000 * (j + i)) = ((o (K + 1000 * (j + i))).1 + 1, some (.row sz e xs)) ∧ retα α K j rs us (K + 1000 * (j + i)) = u
  | [], us, j, o, α, i, sz, e, xs, u, h, hu => by simp at h
  | r :: rs, [], j, o, α, i, sz, e, xs, u, h, hu => by simp at hu
  | .d x :: rs, u0 :: us, j, o, α, i, sz, e, xs, u, h, hu => by
    cases i with
    | zero => simp at h
    | succ i =>
      have := ret_new (K := K) (rs := rs) (us := us) (j := j + 1) (o := o) (α := α) (by simpa using h) (by simpa using hu)
      rw [show j + 1 + i = j + (i + 1) by omega] at this
      simpa only [retO, retα] using this
  | .own sz' e' xs' :: rs, u0 :: us, j, o, α, i, sz, e, xs, u, h, hu => by
    cases i with
    | zero =>
      simp at h hu
      obtain ⟨rfl, rfl, rfl⟩ := h
      subst hu
      simp only [retO, retα]
      have h' : ¬ NewK K (j + 1) rs (K + 1000 * (j + 0)) := fun ⟨i, e, r⟩ => by omega
      obtain ⟨h1, h2⟩ := ret_old (us := us) (o := newOb o (K + 1000 * j) (.row sz' e' xs')) (α := hup α (K + 1000 * j) u0) h'
      rw [h1, h2]
      simp [newOb, hup]
    | succ i =>
      have := ret_new (K := K) (rs := rs) (us := us) (j := j + 1) (o := newOb o (K + 1000 * j) (.row sz' e' xs')) (α := hup α (K + 1000 * j) u0) (by simpa using h) (by simpa using hu)
      rw [show j + 1 + i = j + (i + 1) by omega] at this
      simp only [retO, retα]
      have hk : ¬ (K + 1000 * (j + (i + 1)) = K + 1000 * j) := by omega
      refine ⟨by rw [this.1]; unfold newOb; rw [if_neg hk], this.2⟩
theorem own_mem : ∀ {rs : List RV} {us : List Value} {i sz e : Nat} {xs : List (List D)} {u : Value} {g : Nat}, rs[i]? = some (.own sz e xs) → us[i]? = some u → hblk u = some g → g ∈ ownBlks rs us
  | [], us, i, sz, e, xs, u, g, h, hu, hg => by simp at h
  | r :: rs, [], i, sz, e, xs, u, g, h, hu, hg => by simp at hu
  | .d x :: rs, u0 :: us, i, sz, e, xs, u, g, h, hu, hg => by
    cases i with
    | zero => simp at h
    | succ i => simp only [ownBlks]; exact own_mem (by simpa using h) (by simpa using hu) hg
  | .own sz' e' xs' :: rs, u0 :: us, i, sz, e, xs, u, g, h, hu, hg => by
    simp only [ownBlks, List.mem_append]
    cases i with
    | zero => simp at hu; subst hu; left; simp [hg]
    | succ i => right; exact own_mem (by simpa using h) (by simpa using hu) hg
theorem own_apart : ∀ {rs : List RV} {us : List Value} {i i' : Nat} {sz e sz' e' : Nat} {xs xs' : List (List D)} {u u' : Value} {g : Nat}, (ownBlks rs us).Nodup → rs[i]? = some (.own sz e xs) → us[i]? = some u → rs[i']? = some (.own sz' e' xs') → us[i']? = some u' → hblk u = some g → hblk u' = some g → i = i'
  | [], us, i, i', sz, e, sz', e', xs, xs', u, u', g, hn, h, hu, h', hu', hg, hg' => by simp at h
  | r :: rs, [], i, i', sz, e, sz', e', xs, xs', u, u', g, hn, h, hu, h', hu', hg, hg' => by simp at hu
  | .d x :: rs, u0 :: us, i, i', sz, e, sz', e', xs, xs', u, u', g, hn, h, hu, h', hu', hg, hg' => by
    cases i with
    | zero => simp at h
    | succ i =>
      cases i' with
      | zero => simp at h'
      | succ i' => exact congrArg (· + 1) (own_apart (rs := rs) (us := us) (by simpa only [ownBlks] using hn) (by simpa using h) (by simpa using hu) (by simpa using h') (by simpa using hu') hg hg')
  | .own sz0 e0 xs0 :: rs, u0 :: us, i, i', sz, e, sz', e', xs, xs', u, u', g, hn, h, hu, h', hu', hg, hg' => by
    simp only [ownBlks, List.nodup_append] at hn
    cases i with
    | zero =>
      cases i' with
      | zero => rfl
      | succ i' =>
        simp at hu; subst hu
        have := own_mem (rs := rs) (us := us) (by simpa using h') (by simpa using hu') hg'
        exact absurd rfl (hn.2.2 g (by simp [hg]) g this)
    | succ i =>
      cases i' with
      | zero =>
        simp at hu'; subst hu'
        have := own_mem (rs := rs) (us := us) (by simpa using h) (by simpa using hu) hg
        exact absurd rfl (hn.2.2 g (by simp [hg']) g this)
      | succ i' => exact congrArg (· + 1) (own_apart (rs := rs) (us := us) hn.2.1 (by simpa using h) (by simpa using hu) (by simpa using h') (by simpa using hu') hg hg')
theorem RV.rels_get {w : World} {ok : Nat → Prop} {base : Nat} : ∀ {rs : List RV} {us : List Value}, RV.rels w ok base rs us → ∀ (i : Nat) (r : RV), rs[i]? = some r → ∃ u, us[i]? = some u ∧ r.rel w ok base u
  | [], us, h, i, r, hr => by simp at hr
  | x :: rs, us, h, i, r, hr => by
    simp only [RV.rels] at h
    obtain ⟨v, vs', rfl, h1, h2⟩ := h
    cases i with
    | zero => simp at hr; subst hr; exact ⟨v, by simp, h1⟩
    | succ i => simpa using RV.rels_get h2 i r (by simpa using hr)

/-- The results as they are told behind the call. -/
theorem retP_rels {w : World} {okr ok' : Nat → Prop} {base : Nat} {oF : Objs} {αF : Nat → Value} (hk : Keeps w okr w ok') {K : Nat} {oI : Objs} : ∀ {rs : List RV} {us : List Value} {j : Nat}, RV.rels w okr base rs us →
    (∀ i sz e xs u, rs[i]? = some (.own sz e xs) → us[i]? = some u → oF (K + 1000 * (j + i)) = ((oI (K + 1000 * (j + i))).1 + 1, some (.row sz e xs)) ∧ αF (K + 1000 * (j + i)) = u) → PV.rels oF αF w ok' (retP oI K j rs) us
  | [], us, j, h, hF => by simpa only [RV.rels, retP, PV.rels] using h
  | .d x :: rs, us, j, h, hF => by
    simp only [RV.rels] at h
    obtain ⟨v, vs', rfl, h1, h2⟩ := h
    simp only [retP, PV.rels, PV.rel]
    refine ⟨v, vs', rfl, D.rd_keeps hk _ _ h1, retP_rels hk h2 fun i sz e xs u hi hu => ?_⟩
    have := hF (i + 1) sz e xs u (by simpa using hi) (by simpa using hu)
    rwa [show j + (i + 1) = j + 1 + i by omega] at this
  | .own sz e xs :: rs, us, j, h, hF => by
    simp only [RV.rels] at h
    obtain ⟨v, vs', rfl, h1, h2⟩ := h
    simp only [retP, PV.rels, PV.rel]
    refine ⟨v, vs', rfl, ?_, retP_rels hk h2 fun i sz e xs u hi hu => ?_⟩
    · obtain ⟨e1, e2⟩ := hF 0 sz e xs v (by simp) (by simp)
      simp only [Nat.add_zero] at e1 e2
      refine ⟨⟨?_, by rw [e1]; exact Nat.le_refl _⟩, fun _ => e2.symm⟩
      obtain ⟨vals, hown, _⟩ := h1
      exact own_hdr hown
    · have := hF (i + 1) sz e xs u (by simpa using hi) (by simpa using hu)
      rwa [show j + (i + 1) = j + 1 + i by omega] at this

theorem grownBy_of_below {w w' : World} (h : Below w.heap.size w w') : w.grownBy w' none := ⟨h.os, h.tape, h.output, h.size, fun k hk _ => h.block k hk⟩

/-- What a call that may make rows leaves. -/
theorem Rel.ret (h : Rel N base w0 X S α a w) {K d : Nat} (hK : d < N) {rs : List RV} {us : List Value} {w' : World} (hb : Below w.heap.size w w') (hn : (ownBlks rs us).Nodup)
    (hr : RV.rels w' (fun b => (okOf X.A S.o α b ∨ w.heap.size ≤ b) ∧ b ∉ ownBlks rs us) w.heap.size rs us) :
    Rel N base w0 X { (S.put (some d) (packP (retP S.o K 0 rs))) with o := retO S.o K 0 rs } (retα α K 0 rs us) (a.put (some d) (packV us)) w' := by
  have hnew : ∀ {i sz e xs}, rs[i]? = some (.own sz e xs) → ∃ u vals, us[i]? = some u ∧ (w'.ownsRow w.heap.size e sz u xs.length vals ∧ (∀ r ∈ xs, r.length = sz) ∧ rdVals w' (fun b => (okOf X.A S.o α b ∨ w.heap.size ≤ b) ∧ b ∉ ownBlks rs us) xs.flatten vals ∧ (∀ u ∈ vals, u.oneCell' = true)) ∧ retO S.o K 0 rs (K + 1000 * (0 + i)) = ((S.o (K + 1000 * (0 + i))).1 + 1, some (.row sz e xs)) ∧ retα α K 0 rs us (K + 1000 * (0 + i)) = u := by
    intro i sz e xs hi
    obtain ⟨u, hu, vals, hx⟩ := RV.rels_get hr i _ hi
    exact ⟨u, vals, hu, hx, (ret_new (o := S.o) (α := α) hi hu).1, (ret_new (o := S.o) (α := α) hi hu).2⟩
  have hg := grownBy_of_below hb
  have hkr : Keeps w (okOf X.A S.o α) w' (okOf X.A (retO S.o K 0 rs) (retα α K 0 rs us)) → Keeps w' (fun b => (okOf X.A S.o α b ∨ w.heap.size ≤ b) ∧ b ∉ ownBlks rs us) w' (okOf X.A (retO S.o K 0 rs) (retα α K 0 rs us)) := by
    intro hk b hbl hok
    refine ⟨⟨?_, fun k hkl hgk => ?_⟩, rfl⟩
    · rcases hok.1 with hok1 | hok1
      · exact hok1.1
      · exact h.free _ (Nat.le_trans h.base hok1)
    by_cases hN : NewK K 0 rs k
    · obtain ⟨i, rfl, sz, e, xs, hi⟩ := hN
      obtain ⟨u, vals, hu, hx, e1, e2⟩ := hnew hi
      rw [e2] at hgk
      exact hok.2 (own_mem hi hu hgk)
    · obtain ⟨e1, e2⟩ := ret_old (us := us) (o := S.o) (α := α) hN
      rw [e1] at hkl; rw [e2] at hgk
      rcases hok.1 with hok1 | hok1
      · exact hok1.2 k hkl hgk
      · cases hx : (S.o k).2 with
        | none => exact hkl hx
        | some x => have := (Ob.rel_lt (h.o k x hx) b hgk).2; omega
  refine h.updS (NewK K 0 rs) (by simpa using hK) hg (by simp) (fun k => ?_) (fun k hk hl => ?_) (fun k hk hl => ?_) (fun k k' hk hk' hne hl hl' g hg1 hg2 => ?_) (fun hk ht k x hkN hx => ?_) (fun hk ht => ?_)
  · by_cases hN : NewK K 0 rs k
    · obtain ⟨i, rfl, sz, e, xs, hi⟩ := hN
      obtain ⟨u, vals, hu, hx, e1, e2⟩ := hnew hi
      rw [e1]; simp
    · rw [(ret_old (us := us) (α := α) hN).1]; exact Nat.le_refl _
  · obtain ⟨e1, e2⟩ := ret_old (us := us) (o := S.o) (α := α) hk
    exact ⟨e1, e2, by simp⟩
  · obtain ⟨i, rfl, sz, e, xs, hi⟩ := hk
    obtain ⟨u, vals, hu, hx, e1, e2⟩ := hnew hi
    refine ⟨.inl (by rw [e1]; simp), fun g hg1 => .inr ?_⟩
    rw [e2] at hg1
    obtain ⟨_, _, _, _, hbg⟩ := own_head hx.1 hg1
    exact hbg
  · obtain ⟨i, rfl, sz, e, xs, hi⟩ := hk
    obtain ⟨i', rfl, sz', e', xs', hi'⟩ := hk'
    obtain ⟨u, vals, hu, hx, e1, e2⟩ := hnew hi
    obtain ⟨u', vals', hu', hx', e1', e2'⟩ := hnew hi'
    rw [e2] at hg1; rw [e2'] at hg2
    have := own_apart hn hi hu hi' hu' hg1 hg2
    subst this
    exact hne rfl
  · obtain ⟨i, rfl, sz, e, xs, hi⟩ := hkN
    obtain ⟨u, vals, hu, hx1, e1, e2⟩ := hnew hi
    rw [e1] at hx
    simp only [Option.some.injEq] at hx
    subst hx
    rw [e2]
    refine ⟨vals, ?_, hx1.2.1, rdVals_keeps (hkr hk) _ _ hx1.2.2.1, hx1.2.2.2⟩
    refine ⟨hx1.1.1, ?_⟩
    rcases hx1.1.2 with hnl | ⟨g, cap, cur, q1, q2, rest⟩
    · exact .inl hnl
    · exact .inr ⟨g, cap, cur, q1, Nat.le_trans h.base q2, rest⟩
  · refine pack_rel (retP_rels (hkr hk) hr fun i sz e xs u hi hu => ?_)
    obtain ⟨u', vals, hu', hx, e1, e2⟩ := hnew hi
    rw [hu] at hu'
    simp only [Option.some.injEq] at hu'
    subst hu'
    exact ⟨e1, e2⟩
end
end Go.Proofs.Ytomnjbebgfadoaa.Pi
end
section
/- One operation of a region, as the pure interpreter steps it, is sound.
   Conditions: none; lemmas. -/
set_option linter.unusedVariables false
set_option linter.unusedSimpArgs false
namespace Go.Proofs.Ytomnjbebgfadoaa.Pi
open Go Go.RowKit Go.ChangeMaps

section
variable {E : Env} {N base : Nat} {w0 : World} {X : Fr} {S : St} {α : Nat → Value} {a : Act} {w : World}

theorem Rel.weak (h : Rel N base w0 X S α a w) {S' : St} (ho : S'.o = S.o) (ht : ∀ k, (S.t k).rel S.o α w (okOf X.A S.o α) (a.tmps.getD k undef) → (S'.t k).rel S.o α w (okOf X.A S.o α) (a.tmps.getD k undef)) : Rel N base w0 X S' α a w := by
  obtain ⟨h1, h2, h3, h4, h5, h6, h7, h9, h8⟩ := h
  refine ⟨h1, h2, fun k => ?_, ?_, ?_, h6, h7, h9, by rw [ho]; exact h8⟩
  · rw [ho]; exact ht k (h3 k)
  · rw [ho]; exact h4
  · rw [ho]; exact h5

theorem St.put_o_self (S : St) (d : Option Nat) (p : PV) : ({ (S.put d p) with o := S.o } : St) = S.put d p := by cases d <;> rfl

theorem wpOp_value {P : Program} {ops : Array Oper} {i : Nat} {o : Oper} {Q : Exit → Act → World → Prop} {K : Act → World → Prop} {v : Value} {w' : World} (hi : ops[i]? = some o) (hw : Region.wanted o (yielded ops a.tmps) = true)
    (he : (execOp a.eval o).run P w = .ok (.value v) w') (hK : K (a.put o.dst v) w') : wpOp P ops Q i K a w := by
  unfold wpOp
  simp only [hi, hw, if_true, Oper.wp, he, Oper.upon]
  exact .inl hK
theorem wpOp_skip {P : Program} {ops : Array Oper} {i : Nat} {o : Oper} {Q : Exit → Act → World → Prop} {K : Act → World → Prop} {w' : World} (hi : ops[i]? = some o) (hw : Region.wanted o (yielded ops a.tmps) = true)
    (he : (execOp a.eval o).run P w = .ok .skip w') (hK : K (a.put o.dst undef) w') : wpOp P ops Q i K a w := by
  unfold wpOp
  simp only [hi, hw, if_true, Oper.wp, he, Oper.upon]
  exact .inl hK
theorem wpOp_unwanted {P : Program} {ops : Array Oper} {i : Nat} {o : Oper} {Q : Exit → Act → World → Prop} {K : Act → World → Prop} (hi : ops[i]? = some o) (hw : Region.wanted o (yielded ops a.tmps) = false)
    (hK : K (a.put o.dst undef) w) : wpOp P ops Q i K a w := by
  unfold wpOp
  simp only [hi, hw]
  exact hK
theorem wpOp_enter {P : Program} {ops : Array Oper} {i : Nat} {o : Oper} {Q : Exit → Act → World → Prop} {K : Act → World → Prop} {f : Nat} {args : Array Value} (hi : ops[i]? = some o) (hw : Region.wanted o (yielded ops a.tmps) = true)
    (he : (execOp a.eval o).run P w = .ok (.enter f args) w) {R : Ending → World → Prop} (hc : Calls P f args w R) (hR : ∀ e w', R e w' → ∃ v, e = .returned v ∧ K (a.put o.dst v) w') : wpOp P ops Q i K a w := by
  unfold wpOp
  simp only [hi, hw, if_true, Oper.wp, he, Oper.upon]
  refine .inl (Calls.mono hc fun e w' h => ?_)
  obtain ⟨v, rfl, hk⟩ := hR e w' h
  exact hk

theorem dstOk_lt {o : Oper} (hd : dstOk E o = true) : ∀ d, o.dst = some d → d < E.n := by
  intro d e
  unfold dstOk at hd
  rw [e] at hd
  simpa using hd

/-- An operation that is left out. -/
theorem gopt_false {o : Oper} (hg : o.guard ≠ none) (p : PV) {ob : Objs} {α : Nat → Value} {w : World} {ok : Nat → Prop} : (gopt o false p).rel ob α w ok undef := by
  unfold gopt
  split
  · rename_i e; exact absurd e hg
  · simp only [PV.rel]; exact ⟨by simp, fun _ => trivial⟩

theorem wanted_guard {ops : Array Oper} {o : Oper} (hg : wantedP ops S o = some false) : o.guard ≠ none := by
  intro e
  unfold wantedP at hg
  rw [e] at hg
  simp at hg

theorem opF_sound (h : Rel N base w0 X S α a w) {op : Op} {c : Prop} {p : PV} (hp : pureOp E S op = some (c, p)) (hc : c) : opF S op := by
  unfold opF
  split
  · rename_i cl
    split
    · rename_i x hcal hargs
      have hsc : S.sc x := by
        simp only [pureOp, callOp] at hp
        rw [hcal] at hp
        simp only [hargs] at hp
        split at hp
        · rename_i x' t h1 h2
          simp only [List.cons.injEq, and_true] at h1
          subst h1
          obtain ⟨r, h3, h4⟩ := Option.map_eq_some_iff.1 hp
          simp only [Prod.mk.injEq] at h4
          rw [← h4.1] at hc
          exact hc.1
        · rename_i heq; cases heq
        · rename_i heq; cases heq
        · cases hp
      have hv := sv_rel h x hsc
      generalize S.sv x = q at hv
      unfold lenF
      split
      · simp only [PV.rel, D.rd] at hv
        exact hv.2
      · simp only [PV.rel, D.rd] at hv
        obtain ⟨A, c', _, _, h2, _⟩ := hv
        exact h2
      · simp only [PV.rel] at hv
        obtain ⟨⟨⟨_, _, _, h1, _⟩, _⟩, _⟩ := hv
        exact h1
      · trivial
    · trivial
  · trivial

/-- What 'next' may leave. -/
theorem run_nextR (h : Rel N base w0 X S α a w) {dst : Option Nat} (hdst : ∀ d, dst = some d → d < N) {x : PV} {r : SR} {ty : Nat} (hq : nextR S x = some r) (hc : r.vc) {vx : Value} (hx : x.rel S.o α w (okOf X.A S.o α) vx) :
    ∃ v w' p o', (Instr.next vx false ty).run E.P w = .ok v w' ∧ r.post p o' ∧ Rel N base w0 X { (S.put dst p) with o := o' } α (a.put dst v) w' := by
  unfold nextR at hq
  split at hq
  · rename_i K ver
    split at hq
    · rename_i M mver since seen last hob
      split at hq
      · rename_i kt e clock es hM
        simp only [Option.some.injEq] at hq
        subst hq
        obtain ⟨hold, hsc⟩ := hc
        obtain ⟨hl, hx0⟩ := obj_some hob
        obtain ⟨hlM, hxM⟩ := obj_some hM
        simp only [PV.rel, Nat.zero_mul, Nat.add_zero] at hx
        obtain ⟨g, hg, rfl⟩ := hx.2 hl
        obtain ⟨g', m, e1, hb, hh, hr⟩ := h.o K _ hx0
        rw [e1] at hg
        simp only [hblk, Option.some.injEq] at hg
        subst hg
        have hr0 := hr
        simp only [PV.rel] at hr
        have hm := hr.2 hlM
        obtain ⟨g2, ents, e2, hb2, hh2, hr2⟩ := h.o M _ hxM
        rw [e2] at hm
        simp only [Value.map.injEq, Option.some.injEq] at hm
        subst hm
        have hold' : ∀ y ∈ ents.toList, y.born < since := fun y hy => by
          obtain ⟨z, hz, h1, _⟩ := relME_mem hr2 y hy
          rw [h1]; exact hold z hz
        rcases run_next_at (P := E.P) w ty g' m since last seen.toArray ents clock hh hh2 hold' hsc with ⟨h1, h2⟩ | ⟨me, h1, w1, h2, h3⟩
        · refine ⟨_, w, _, S.o, h2, .inl ⟨fun y hy => ?_, rfl, rfl⟩, ?_⟩
          · obtain ⟨z, hz, hz2⟩ := relME_mem' hr2 y hy
            have hz0 : ∀ q ∈ ents, seen.toArray.contains q.born = true := by
              unfold leftOf at h1
              rw [Array.size_eq_zero_iff, Array.filter_eq_empty_iff] at h1
              intro q hq
              have := h1 q hq
              simpa using this
            have := hz0 z (by simpa using hz)
            rw [hz2] at this
            simpa using this
          · rw [St.put_o_self]
            exact h.plain hdst (grownBy_refl w none) fun _ => by
              simp only [PV.rel, PV.rels, D.rd]; exact ⟨_, rfl, _, [], rfl, rfl, rfl⟩
        · have hin : me ∈ ents.toList ∧ me.born ∉ seen := by
            unfold leftOf at h1
            simp only [Array.toList_filter, List.mem_filter] at h1
            exact ⟨h1.1, by simpa using h1.2⟩
          obtain ⟨y, hy, hy1, hy2, hy3⟩ := relME_mem hr2 me hin.1
          have hg : w.grownBy (setBlock w1 g' (.mapIter (some m) since (seen.toArray.push me.born) clock)) (some g') := by
            have := grownBy_setObj w1 g' (.mapIter (some m) since (seen.toArray.push me.born) clock)
            rcases h2 with rfl | rfl
            · exact this
            · exact ⟨this.os, this.tape, this.output, this.size, this.block⟩
          refine ⟨_, _, _, _, h3, .inr ⟨y, hy, by rw [← hy1]; exact hin.2, rfl, rfl⟩, h.set (g := g') hdst hg hx0 (by rw [e1]; rfl) (fun hk htn => ?_) (fun hk htn => ?_)⟩
          · refine ⟨g', m, e1, hb, ?_, PV.rel_turn hk htn _ _ hr0⟩
            have : w1.heap[g']? = w.heap[g']? := by rcases h2 with rfl | rfl <;> rfl
            have e := setObj_at (w := w1) (x := .mapIter (some m) since (seen.toArray.push me.born) clock) (this.trans hh)
            rw [← hy1]
            simpa [setBlock] using e
          · refine PV.rel_turn hk htn _ _ ?_
            simp only [PV.rel, PV.rels, D.rd]
            exact ⟨_, rfl, _, _, rfl, rfl, me.key, _, rfl, hy2, me.val, [], rfl, hy3, rfl⟩
      · cases hq
    · cases hq
  · cases hq
theorem rep1_sound (hE : EnvOk E) (h : Rel E.n base w0 X S α a w) {ops : Array Oper} {i : Nat} {o : Oper} (hi : ops[i]? = some o) (hd : dstOk E o = true) {g : Bool} (hg : wantedP ops S o = some g) {r : SR} (hr : rep1 E S o g = some r) (hc : r.vc)
    {Q : Exit → Act → World → Prop} {K : Act → World → Prop} (hK : ∀ p o' α' a' w', r.post p o' → Rel E.n base w0 X (S.after o.dst p o') α' a' w' → K a' w') : wpOp E.P ops Q i K a w := by
  have hlt := dstOk_lt hd
  have hw := wanted_sound h hg
  have plainOff : ∀ (p : PV), g = false → Rel E.n base w0 X (S.put o.dst (gopt o g p)) α (a.put o.dst undef) w := fun p e => by
    subst e
    exact h.plain hlt (grownBy_refl w none) fun _ => gopt_false (wanted_guard hg) p
  unfold rep1 at hr
  split at hr
  · obtain ⟨⟨c, p⟩, h1, rfl⟩ := Option.map_eq_some_iff.1 hr
    simp only [St.after] at hc hK
    cases g with
    | false => exact wpOp_unwanted hi hw (hK _ _ α _ w ⟨rfl, rfl⟩ (by rw [St.put_o_self]; exact plainOff p rfl))
    | true =>
      obtain ⟨v, h2, h3⟩ := pureOp_sound hE h o h1 (hc rfl)
      exact wpOp_value hi hw h2 (hK _ _ α _ w ⟨rfl, rfl⟩ (by rw [St.put_o_self]; exact h.plain hlt (grownBy_refl w none) fun _ => gopt_true h3))
  · obtain ⟨⟨c, p⟩, h1, rfl⟩ := Option.map_eq_some_iff.1 hr
    simp only [St.after] at hc hK
    cases g with
    | false => exact wpOp_unwanted hi hw (hK _ _ α _ w ⟨⟨rfl, rfl⟩, by simp⟩ (by rw [St.put_o_self]; exact plainOff p rfl))
    | true =>
      obtain ⟨v, h2, h3⟩ := pureOp_sound hE h o h1 (hc rfl)
      exact wpOp_value hi hw h2 (hK _ _ α _ w ⟨⟨rfl, rfl⟩, fun _ => opF_sound h h1 (hc rfl)⟩ (by rw [St.put_o_self]; exact h.plain hlt (grownBy_refl w none) fun _ => gopt_true h3))
  · obtain ⟨⟨c, p⟩, h1, rfl⟩ := Option.map_eq_some_iff.1 hr
    simp only [St.after] at hc hK
    cases g with
    | false => exact wpOp_unwanted hi hw (hK _ _ α _ w ⟨rfl, rfl⟩ (by rw [St.put_o_self]; exact plainOff p rfl))
    | true =>
      have hc := hc rfl
      unfold litOp at h1
      split at h1
      · rename_i t n parts hop
        obtain ⟨⟨c1, p1⟩, h2, h3⟩ := Option.map_eq_some_iff.1 h1
        simp only [Prod.mk.injEq] at h3
        obtain ⟨rfl, rfl⟩ := h3
        obtain ⟨v, w', h4, h5⟩ := run_litV hE h hlt (vparts := parts.map fun p => (p.1, a.eval p.2)) h2 (by simpa using parts_rel h hc.1)
        refine wpOp_value hi hw (v := v) (w' := w') ?_ (hK _ _ α _ w' ⟨rfl, rfl⟩ ?_)
        · obtain ⟨dst, op, type, pos, after, guard⟩ := o
          simp only at hop; subst hop
          simp [execOp, h4]
        · rw [St.put_o_self]
          refine h5.weak (by simp [St.put_o]) fun k hk => ?_
          rw [St.put_o] at hk ⊢
          revert hk
          cases o.dst with
          | none => exact fun hk => hk
          | some d =>
            simp only [St.put]
            by_cases e : k = d
            · simp only [e, if_true]; exact gopt_true
            · simp only [e, if_false]; exact fun hk => hk
      · cases h1
  · obtain ⟨⟨c, p, o'⟩, h1, rfl⟩ := Option.map_eq_some_iff.1 hr
    simp only [St.after] at hc hK
    obtain ⟨rfl, hc⟩ := hc
    obtain ⟨α', v, w', h2, h3⟩ := effOp_sound hE h o hlt h1 hc
    rcases h2 with h2 | ⟨h2, rfl⟩
    · exact wpOp_value hi hw h2 (hK _ _ α' _ w' ⟨rfl, rfl⟩ h3)
    · exact wpOp_skip hi hw h2 (hK _ _ α' _ w' ⟨rfl, rfl⟩ h3)
  · obtain ⟨r0, h1, rfl⟩ := Option.map_eq_some_iff.1 hr
    obtain ⟨rfl, hc⟩ := hc
    unfold nextOp at h1
    split at h1
    · rename_i x hop
      obtain ⟨r1, h2, rfl⟩ := Option.map_eq_some_iff.1 h1
      obtain ⟨v, w', p, o', h3, h4, h5⟩ := run_nextR (E := E) (ty := o.type) h hlt h2 hc.2 (sv_rel h x hc.1)
      refine wpOp_value hi hw (v := v) (w' := w') ?_ (hK p o' α _ w' h4 h5)
      obtain ⟨dst, op, type, pos, after, guard⟩ := o
      simp only at hop; subst hop
      simp [execOp, h3]
    · cases h1
  · obtain ⟨c, h1, hr⟩ := Option.bind_eq_some_iff.1 hr
    obtain ⟨⟨f, ps, cd⟩, hii, hr⟩ := Option.bind_eq_some_iff.1 hr
    have hop : o.op = .call c := by
      unfold callOf at h1
      split at h1
      · rename_i hop; rw [hop]; simpa using h1
      · cases h1
    simp only at hr
    split at hr
    · rename_i con hcon
      simp only [Option.some.injEq] at hr
      subst hr
      simp only at hc hK
      obtain ⟨rfl, hc1, hpre⟩ := hc
      obtain ⟨vs, h4, h5⟩ := icallInfo_sound hE h hop hii hc1
      have hO : RelO base w0 { X with x := fun p v => X.x p v ∨ ∃ k, p = S.t k ∧ v = a.tmps.getD k undef } S.o α w := ⟨h.o, h.inj, h.below, h.free, h.base, fun p v hp => by
        rcases hp with hp | ⟨k, rfl, rfl⟩
        · exact h.x p v hp
        · exact h.t k⟩
      have fin : ∀ (o' : Objs) (α' : Nat → Value) (p : PV) (u : Value) (w' : World), con.post S.o ps o' p → RelO base w0 { X with x := fun p v => X.x p v ∨ ∃ k, p = S.t k ∧ v = a.tmps.getD k undef } o' α' w' → p.rel o' α' w' (okOf X.A o' α') u → Rel E.n base w0 X (S.after o.dst p o') α' (a.put o.dst u) w' := by
        intro o' α' p u w' hpost hO' hpu
        refine ⟨?_, ?_, fun k => ?_, hO'.obs, hO'.inj, hO'.below, hO'.free, hO'.base, fun p v hp => hO'.x p v (.inl hp)⟩
        · cases o.dst <;> exact h.defers
        · have := h.size
          cases o.dst <;> simpa [Act.put] using this
        · cases hdd : o.dst with
          | none => exact hO'.x _ _ (.inr ⟨k, rfl, rfl⟩)
          | some d =>
            have hd' : d < a.tmps.size := Nat.lt_of_lt_of_le (hlt d hdd) h.size
            rw [getD_put a d k u hd']
            simp only [St.after, St.put]
            by_cases e : k = d
            · simp only [e, if_true]; exact hpu
            · simp only [e, if_false]; exact hO'.x _ _ (.inr ⟨k, rfl, rfl⟩)
      rcases hE.icon _ _ hcon with ⟨⟨fn, hfn, hbody, hname⟩, hok⟩ | hok
      · refine wpOp_enter hi hw (h4.trans (run_enter hfn hbody hname _ _)) (hok.calls base w0 _ S.o α w ps vs hpre hO h5) fun e w' hp => ?_
        obtain ⟨o', α', p, u, hpost, rfl, hO', hpu⟩ := hp
        exact ⟨_, rfl, hK p o' α' _ w' hpost (fin o' α' p u w' hpost hO' hpu)⟩
      · obtain ⟨o', α', p, u, w', hrun, hpost, hO', hpu⟩ := hok.calls base w0 _ S.o α w ps vs hpre hO h5
        exact wpOp_value hi hw (h4.trans hrun) (hK p o' α' _ w' hpost (fin o' α' p u w' hpost hO' hpu))
    simp only [Option.bind_eq_some_iff, Option.map_eq_some_iff] at hr
    obtain ⟨ci, h2, con, h3, rfl⟩ := hr
    have hcon := (hE.con _ _ h3).2
    unfold callRep at hc hK
    split at hc
    · rename_i hf
      rw [if_pos hf] at hK
      simp only [St.after] at hc hK
      cases g with
      | false =>
        have hex : ∃ rs, (false = true ∨ ∃ rs', con.post ci.ds rs') → con.post ci.ds rs := by
          by_cases he : ∃ rs', con.post ci.ds rs'
          · obtain ⟨rs, hrs⟩ := he; exact ⟨rs, fun _ => hrs⟩
          · exact ⟨[], fun h => absurd (h.resolve_left (by simp)) he⟩
        obtain ⟨rs, hrs⟩ := hex
        exact wpOp_unwanted hi hw (hK _ _ α _ w ⟨rs, hrs, rfl, rfl⟩ (by rw [St.put_o_self]; exact plainOff _ rfl))
      | true =>
        obtain ⟨hc1, hpre⟩ := hc rfl
        obtain ⟨vs, h4, h5⟩ := callInfo_sound hE h hop h2 hc1 h3
        refine wpOp_enter hi hw h4 (hcon.calls _ hpre w (fun _ => True) vs (h5 _ ⟨fun _ _ => trivial, fun _ _ _ _ _ => trivial⟩)) fun e w' hp => ?_
        obtain ⟨rs, us, hpost, rfl, hb, hn, hrel⟩ := hp
        refine ⟨_, rfl, hK _ _ α _ w' ⟨rs, fun _ => hpost, rfl, rfl⟩ ?_⟩
        rw [St.put_o_self]
        exact h.plain hlt (grownBy_of_below hb) fun _ => gopt_true (pack_rel (flat_rels (hcon.flat hf _ _ hpost) hrel))
    · rename_i hf
      rw [if_neg hf] at hK
      cases hdst : o.dst with
      | none =>
        simp only [hdst, St.after] at hc hK
        obtain ⟨rfl, hc1, hpre⟩ := hc
        obtain ⟨vs, h4, h5⟩ := callInfo_sound hE h hop h2 hc1 h3
        obtain ⟨hdr, hop2⟩ := h.drop ci.ks
        refine wpOp_enter hi hw h4 (hcon.calls _ hpre w (okOf X.A (dropObs S.o ci.ks) α) vs (h5 _ hop2)) fun e w' hp => ?_
        obtain ⟨rs, us, hpost, rfl, hb, hn, hrel⟩ := hp
        refine ⟨_, rfl, hK _ _ α _ w' ⟨rs, hpost, rfl, rfl⟩ ?_⟩
        have := hdr.plain (dst := none) (p := .un) (v := packV us) (by simp) (grownBy_of_below hb) fun _ => by simp only [PV.rel]
        rw [hdst]
        exact this
      | some k =>
        simp only [hdst, St.after] at hc hK
        obtain ⟨rfl, hc1, hpre⟩ := hc
        obtain ⟨vs, h4, h5⟩ := callInfo_sound hE h hop h2 hc1 h3
        obtain ⟨hdr, hop2⟩ := h.drop ci.ks
        refine wpOp_enter hi hw h4 (hcon.calls _ hpre w (okOf X.A (dropObs S.o ci.ks) α) vs (h5 _ hop2)) fun e w' hp => ?_
        obtain ⟨rs, us, hpost, rfl, hb, hn, hrel⟩ := hp
        refine ⟨_, rfl, hK _ _ (retα α (E.key k) 0 rs us) _ w' ⟨rs, hpost, rfl, rfl⟩ ?_⟩
        have := hdr.ret (K := E.key k) (hlt k hdst) hb hn hrel
        rw [hdst]
        exact this

theorem rep_sound (hE : EnvOk E) (h : Rel E.n base w0 X S α a w) {ops : Array Oper} {i : Nat} {o : Oper} (hi : ops[i]? = some o) (hd : dstOk E o = true) {r : SR} (hr : rep E ops S o = some r) (hc : r.vc)
    {Q : Exit → Act → World → Prop} {K : Act → World → Prop} (hK : ∀ p o' α' a' w', r.post p o' → Rel E.n base w0 X (S.after o.dst p o') α' a' w' → K a' w') : wpOp E.P ops Q i K a w := by
  unfold rep at hr
  obtain ⟨g, hg, h1⟩ := Option.bind_eq_some_iff.1 hr
  exact rep1_sound hE h hi hd hg h1 hc hK

/-- What the machine's state is told by, whatever the homes of the objects. -/
def Tells (E : Env) (base : Nat) (w0 : World) (X : Fr) (S : St) (a : Act) (w : World) : Prop := ∃ α, Rel E.n base w0 X S α a w

theorem popOne_sound (hE : EnvOk E) {ops : Array Oper} (hds : ∀ (i : Nat) o, ops[i]? = some o → dstOk E o = true) {i : Nat} {K : St → Prop} (h : popOne E ops i S K) {Q : Exit → Act → World → Prop} {K' : Act → World → Prop} (hT : Tells E base w0 X S a w) (hK : ∀ S' a' w', K S' → Tells E base w0 X S' a' w' → K' a' w') : wpOp E.P ops Q i K' a w := by
  obtain ⟨α, hT⟩ := hT
  unfold popOne at h
  cases hi : ops[i]? with
  | none => rw [hi] at h; unfold wpOp; rw [hi]; exact hK S a w h ⟨α, hT⟩
  | some o =>
    rw [hi] at h
    obtain ⟨r, hr, hc, hq⟩ := h
    exact rep_sound hE hT hi (hds i o hi) hr hc fun p o' α' a' w' hp hrel => hK _ a' w' (hq p o' hp) ⟨α', hrel⟩
theorem popsL_sound (hE : EnvOk E) {ops : Array Oper} (hds : ∀ (i : Nat) o, ops[i]? = some o → dstOk E o = true) {Qp : St → Prop} {Q : Exit → Act → World → Prop} (hQ : ∀ S' a' w', Qp S' → Tells E base w0 X S' a' w' → Q .normal a' w') : ∀ {l : List Nat} {S : St} {a : Act} {w : World}, popsL E ops l S Qp → Tells E base w0 X S a w → wpOps E.P ops Q l a w
  | [], S, a, w, h, hT => by simp only [popsL] at h; simp only [wpOps]; exact hQ S a w h hT
  | i :: l, S, a, w, h, hT => by
    simp only [popsL] at h
    rw [wpOps_cons]
    exact popOne_sound hE hds h hT fun S' a' w' h' hT' => popsL_sound hE hds hQ h' hT'
end
end Go.Proofs.Ytomnjbebgfadoaa.Pi
end
section
/- What a step looks at: an operation's step is the same in states that agree there.
   Conditions: none; lemmas. -/
set_option linter.unusedVariables false
set_option linter.unusedSimpArgs false
namespace Go.Proofs.Ytomnjbebgfadoaa.Pi
open Go Go.RowKit

/-- States that agree on some operands. -/
def Agree (S S' : St) (xs : List Operand) : Prop := ∀ x ∈ xs, S'.ev x = S.ev x

section
variable {E : Env} {S S' : St}
theorem Agree.sv {xs : List Operand} (h : Agree S S' xs) {x : Operand} (hx : x ∈ xs) : S'.sv x = S.sv x := by unfold St.sv; rw [h x hx]
theorem Agree.sc {xs : List Operand} (h : Agree S S' xs) {x : Operand} (hx : x ∈ xs) : S'.sc x = S.sc x := by unfold St.sc; rw [h x hx]
theorem Agree.svs {xs : List Operand} (h : Agree S S' xs) : ∀ {ys : List Operand}, (∀ y ∈ ys, y ∈ xs) → ys.map S'.sv = ys.map S.sv
  | [], _ => rfl
  | y :: ys, hy => by simp only [List.map_cons]; rw [h.sv (hy y (by simp)), h.svs fun z hz => hy z (by simp [hz])]
theorem Agree.argsC {xs : List Operand} (h : Agree S S' xs) : ∀ {ys : List Operand}, (∀ y ∈ ys, y ∈ xs) → argsC S' ys = argsC S ys
  | [], _ => rfl
  | y :: ys, hy => by simp only [Pi.argsC]; rw [h.sc (hy y (by simp)), h.argsC fun z hz => hy z (by simp [hz])]
theorem Agree.parts {xs : List Operand} (h : Agree S S' xs) : ∀ {ys : List (Nat × Operand)}, (∀ y ∈ ys, y.2 ∈ xs) → (ys.map fun p => (p.1, S'.sv p.2)) = ys.map fun p => (p.1, S.sv p.2)
  | [], _ => rfl
  | y :: ys, hy => by simp only [List.map_cons]; rw [h.sv (hy y (by simp)), h.parts fun z hz => hy z (by simp [hz])]

/-- Operations whose step looks at no object. -/
def noObj : Op → Bool
  | .load .. | .call .. | .lookup .. | .entry .. => false
  | _ => true

theorem obj_congr (ho : S'.o = S.o) : S'.obj = S.obj := by funext K ver; unfold St.obj; rw [ho]
theorem loadV_congr (ho : S'.o = S.o) : loadV E S' = loadV E S := by funext t q; unfold loadV; rw [obj_congr ho]
theorem lenV_congr (ho : S'.o = S.o) : lenV E S' = lenV E S := by funext t q; unfold lenV; rw [obj_congr ho]

theorem entryV_congr (ho : S'.o = S.o) : entryV S' = entryV S := by funext q; unfold entryV; rw [obj_congr ho]
theorem nextR_congr (ho : S'.o = S.o) : nextR S' = nextR S := by funext q; unfold nextR; rw [obj_congr ho, ho]
theorem lookupV_congr (ho : S'.o = S.o) : lookupV E S' = lookupV E S := by funext t b q i; unfold lookupV; rw [obj_congr ho]
theorem Agree.opts {xs : List Operand} (h : Agree S S' xs) {y : Option Operand} (hy : ∀ z, y = some z → z ∈ xs) : y.map S'.sv = y.map S.sv := by
  cases y with
  | none => rfl
  | some z => simp only [Option.map_some]; rw [h.sv (hy z rfl)]

theorem callOp_congr (ho : S'.o = S.o) {c : Call} (h : Agree S S' c.operands.toList) : callOp E S' c = callOp E S c := by
  obtain ⟨callee, args, tys⟩ := c
  have hlen := lenV_congr (E := E) ho
  have ha : ∀ y ∈ args.toList, y ∈ (Call.operands ⟨callee, args, tys⟩).toList := fun y hy => by
    simp only [Call.operands, Array.toList_append, List.mem_append]; exact .inr hy
  unfold callOp
  simp only [hlen]
  cases callee with
  | value x => rfl
  | invoke r m => rfl
  | builtin b =>
    simp only
    split
    · rename_i x t hx ht
      have hx' : x ∈ (Call.operands ⟨.builtin .len, args, tys⟩).toList := ha x (by rw [hx]; simp)
      rw [h.sv hx', h.sc hx']
    · rename_i xs hx
      rw [h.svs ha, h.argsC ha]
    · rename_i xs hx
      rw [h.svs ha, h.argsC ha]
    · rfl

theorem pureOp_congr {op : Op} (ho : S'.o = S.o ∨ noObj op = true) (h : Agree S S' op.operands.toList) : pureOp E S' op = pureOp E S op := by
  cases op <;> simp only [noObj, Bool.false_eq_true, or_false, or_true] at ho <;> (try rfl) <;> simp only [Op.operands] at h <;> simp only [pureOp]
  case move x => rw [h x (by simp)]
  case assign x => rw [h x (by simp)]
  case pick c a b => rw [h.sv (x := c) (by simp), h.sv (x := a) (by simp), h.sv (x := b) (by simp), h.sc (x := c) (by simp), h.sc (x := a) (by simp), h.sc (x := b) (by simp)]
  case build t ps =>
    rw [h.parts (ys := ps.toList) (fun y hy => by simp; exact ⟨y.1, by simpa using hy⟩), h.argsC (ys := ps.toList.map (·.2)) (fun y hy => by simpa using hy)]
  case load t x => rw [h.sv (x := x) (by simp), h.sc (x := x) (by simp), loadV_congr ho]
  case binOp op t x y t' => rw [h.sv (x := x) (by simp), h.sc (x := x) (by simp), h.sv (x := y) (by simp), h.sc (x := y) (by simp)]
  case unOp op t x => rw [h.sv (x := x) (by simp), h.sc (x := x) (by simp)]
  case convert s d x => rw [h.sv (x := x) (by simp), h.sc (x := x) (by simp)]
  case fieldAddr t x f => rw [h.sv (x := x) (by simp), h.sc (x := x) (by simp)]
  case field t x f => rw [h.sv (x := x) (by simp), h.sc (x := x) (by simp)]
  case indexAddr t x y => rw [h.sv (x := x) (by simp), h.sc (x := x) (by simp), h.sv (x := y) (by simp), h.sc (x := y) (by simp)]
  case index t x y => rw [h.sv (x := x) (by simp), h.sc (x := x) (by simp), h.sv (x := y) (by simp), h.sc (x := y) (by simp)]
  case extract x i => rw [h.sv (x := x) (by simp), h.sc (x := x) (by simp)]
  case call c => exact callOp_congr ho h
  case lookup t x i b => rw [h.sv (x := x) (by simp), h.sc (x := x) (by simp), h.sv (x := i) (by simp), h.sc (x := i) (by simp), lookupV_congr ho]
  case entry x => rw [h.sv (x := x) (by simp), h.sc (x := x) (by simp), entryV_congr ho]
  case nilCheck x => rw [h.sv (x := x) (by simp), h.sc (x := x) (by simp)]
  case makeFunc f first caps => rw [h.svs (ys := caps.toList) (fun y hy => by simp at hy ⊢; exact .inr hy), h.argsC (ys := caps.toList) (fun y hy => by simp at hy ⊢; exact .inr hy)]
  case slice t x lo hi mx =>
    cases mx with
    | some m =>
      cases lo with
      | some l => rfl
      | none =>
        cases hi with
        | none => rfl
        | some y =>
          simp only
          rw [h.sv (x := x) (by simp), h.sc (x := x) (by simp), h.sv (x := y) (by simp), h.sc (x := y) (by simp), h.sv (x := m) (by simp), h.sc (x := m) (by simp)]
    | none =>
      simp only
      rw [h.sv (x := x) (by simp), h.opts (y := lo) (fun z hz => by subst hz; simp), h.opts (y := hi) (fun z hz => by subst hz; simp), h.argsC (ys := x :: (lo.toList ++ hi.toList)) (fun y hy => by simp at hy ⊢; rcases hy with hy | hy | hy <;> simp [hy])]

theorem litOp_congr {op : Op} (h : Agree S S' op.operands.toList) : litOp E S' op = litOp E S op := by
  cases op <;> (try rfl)
  case buildSlice t n ps =>
    simp only [Op.operands] at h
    simp only [litOp]
    rw [h.parts (ys := ps.toList) (fun y hy => by simp; exact ⟨y.1, by simpa using hy⟩), h.argsC (ys := ps.toList.map (·.2)) (fun y hy => by simpa using hy)]

theorem allocE_congr (ho : S'.o = S.o) : allocE E S' = allocE E S := by funext K t; unfold allocE refNew; rw [ho]
theorem boxE_congr (ho : S'.o = S.o) : boxE E S' = boxE E S := by funext K t x; unfold boxE refNew; rw [ho]
theorem rowsV_congr (ho : S'.o = S.o) : rowsV S' = rowsV S := by funext n x; unfold rowsV; rw [obj_congr ho]
theorem rowsP_congr (ho : S'.o = S.o) : rowsP S' = rowsP S := by funext n x; unfold rowsP; rw [obj_congr ho]
theorem appR_congr {te : TI} (ho : S'.o = S.o) : appR te S' = appR te S := by funext K e s x; unfold appR rowNew; rw [obj_congr ho, ho]
theorem appP_congr {te : TI} (ho : S'.o = S.o) : appP te S' = appP te S := by funext K e s x; unfold appP rowNew; rw [obj_congr ho, ho]
theorem appE_congr (ho : S'.o = S.o) : appE E S' = appE E S := by
  funext K t s x; unfold appE; rw [rowsV_congr ho, rowsP_congr ho]
  have h1 := fun te => appR_congr (te := te) ho
  have h2 := fun te => appP_congr (te := te) ho
  simp only [h1, h2]
theorem storeE_congr (ho : S'.o = S.o) : storeE E S' = storeE E S := by funext t a x; unfold storeE; rw [obj_congr ho, ho]
theorem makeE_congr (ho : S'.o = S.o) : makeE E S' = makeE E S := by funext K t b a x; unfold makeE rowNew; rw [ho]
theorem makeMapE_congr (ho : S'.o = S.o) : makeMapE E S' = makeMapE E S := by funext K t; unfold makeMapE; rw [ho]
theorem rangeE_congr (ho : S'.o = S.o) : rangeE E S' = rangeE E S := by funext K t q; unfold rangeE refNew; rw [obj_congr ho, ho]
theorem mapUpdE_congr (ho : S'.o = S.o) : mapUpdE E S' = mapUpdE E S := by funext t m k v; unfold mapUpdE; rw [obj_congr ho, ho]
theorem mapEntE_congr (ho : S'.o = S.o) : mapEntE E S' = mapEntE E S := by funext t m k; unfold mapEntE; rw [obj_congr ho, ho]
theorem mapStoE_congr (ho : S'.o = S.o) : mapStoE S' = mapStoE S := by funext m k v; unfold mapStoE; rw [obj_congr ho, ho]
theorem litE_congr (ho : S'.o = S.o) : litE E S' = litE E S := by funext K t n ps; unfold litE rowNew; rw [ho]

theorem callE_congr (ho : S'.o = S.o) {K : Nat} {c : Call} (h : Agree S S' c.operands.toList) : callE E S' K c = callE E S K c := by
  obtain ⟨callee, args, tys⟩ := c
  have ha : ∀ y ∈ args.toList, y ∈ (Call.operands ⟨callee, args, tys⟩).toList := fun y hy => by
    simp only [Call.operands, Array.toList_append, List.mem_append]; exact .inr hy
  unfold callE
  rw [appE_congr ho]
  cases callee with
  | value x => rfl
  | invoke r m => rfl
  | builtin b =>
    cases b <;> (try rfl)
    simp only
    split
    · rename_i s x t t' hx ht
      have h1 : s ∈ (Call.operands ⟨.builtin .append, args, tys⟩).toList := ha s (by rw [hx]; simp)
      have h2 : x ∈ (Call.operands ⟨.builtin .append, args, tys⟩).toList := ha x (by rw [hx]; simp)
      rw [h.sv h1, h.sc h1, h.sv h2, h.sc h2]
    · rfl
theorem sliceE_congr (ho : S'.o = S.o) : sliceE E S' = sliceE E S := by funext t x l h; unfold sliceE; rw [ho]; simp only [obj_congr ho]
theorem clearE_congr (ho : S'.o = S.o) : clearE E S' = clearE E S := by funext t x; unfold clearE; rw [ho]; simp only [obj_congr ho]
theorem clrE_congr (ho : S'.o = S.o) {c : Call} (h : Agree S S' c.operands.toList) : clrE E S' c = clrE E S c := by
  obtain ⟨callee, args, tys⟩ := c
  have ha : ∀ y ∈ args.toList, y ∈ (Call.operands ⟨callee, args, tys⟩).toList := fun y hy => by
    simp only [Call.operands, Array.toList_append, List.mem_append]; exact .inr hy
  unfold clrE
  rw [clearE_congr ho]
  cases callee with
  | value x => rfl
  | invoke r m => rfl
  | builtin b =>
    cases b <;> (try rfl)
    simp only
    split
    · rename_i s t hx ht
      have h1 : s ∈ (Call.operands ⟨.builtin .clear, args, tys⟩).toList := ha s (by rw [hx]; simp)
      rw [h.sv h1, h.sc h1]
    · rfl
theorem effOp_congr (ho : S'.o = S.o) {dst : Option Nat} {op : Op} (h : Agree S S' op.operands.toList) : effOp E S' dst op = effOp E S dst op := by
  cases op <;> cases dst <;> (try rfl) <;> simp only [Op.operands] at h <;> simp only [effOp]
  case alloc.some t d => rw [allocE_congr ho]
  case box.some t x d => rw [h.sv (x := x) (by simp), h.sc (x := x) (by simp), boxE_congr ho]
  case store.none t x y => rw [h.sv (x := x) (by simp), h.sc (x := x) (by simp), h.sv (x := y) (by simp), h.sc (x := y) (by simp), storeE_congr ho]
  case store.some t x y d => rw [h.sv (x := x) (by simp), h.sc (x := x) (by simp), h.sv (x := y) (by simp), h.sc (x := y) (by simp), storeE_congr ho]
  case makeSlice.some t x y d => rw [h.sv (x := x) (by simp), h.sc (x := x) (by simp), h.sv (x := y) (by simp), h.sc (x := y) (by simp), makeE_congr ho]
  case buildSlice.some t n ps d =>
    rw [h.parts (ys := ps.toList) (fun y hy => by simp; exact ⟨y.1, by simpa using hy⟩), h.argsC (ys := ps.toList.map (·.2)) (fun y hy => by simpa using hy), litE_congr ho]
  case call.some c d => exact callE_congr ho h
  case call.none c => exact clrE_congr ho h
  case slice.some t x lo hi mx d =>
    cases mx with
    | some m => rfl
    | none =>
      simp only [effOp]
      have hx : x ∈ (x :: (lo.toList ++ hi.toList)) := by simp
      rw [sliceE_congr ho, h.sv (x := x) (by simp), h.argsC (ys := x :: (lo.toList ++ hi.toList)) (fun y hy => by simpa using hy)]
      cases lo <;> cases hi <;> simp only [Option.map_none, Option.map_some] <;> (repeat rw [h.sv (by simp)])
  case makeMap.some t r d => cases r <;> simp only [effOp] <;> rw [makeMapE_congr ho]
  case range.some t x d => rw [h.sv (x := x) (by simp), h.sc (x := x) (by simp), rangeE_congr ho]
  case insert.none t m k v => rw [h.sv (x := m) (by simp), h.sc (x := m) (by simp), h.sv (x := k) (by simp), h.sc (x := k) (by simp), h.sv (x := v) (by simp), h.sc (x := v) (by simp), mapUpdE_congr ho]
  case insert.some t m k v d => rw [h.sv (x := m) (by simp), h.sc (x := m) (by simp), h.sv (x := k) (by simp), h.sc (x := k) (by simp), h.sv (x := v) (by simp), h.sc (x := v) (by simp), mapUpdE_congr ho]
  case mapUpdate.none t m k v => rw [h.sv (x := m) (by simp), h.sc (x := m) (by simp), h.sv (x := k) (by simp), h.sc (x := k) (by simp), h.sv (x := v) (by simp), h.sc (x := v) (by simp), mapUpdE_congr ho]
  case mapUpdate.some t m k v d => rw [h.sv (x := m) (by simp), h.sc (x := m) (by simp), h.sv (x := k) (by simp), h.sc (x := k) (by simp), h.sv (x := v) (by simp), h.sc (x := v) (by simp), mapUpdE_congr ho]
  case mapEntry.some t m k d => rw [h.sv (x := m) (by simp), h.sc (x := m) (by simp), h.sv (x := k) (by simp), h.sc (x := k) (by simp), mapEntE_congr ho]
  case entryStore.none t m k v => rw [h.sv (x := m) (by simp), h.sc (x := m) (by simp), h.sv (x := k) (by simp), h.sc (x := k) (by simp), h.sv (x := v) (by simp), h.sc (x := v) (by simp), mapStoE_congr ho]
  case entryStore.some t m k v d => rw [h.sv (x := m) (by simp), h.sc (x := m) (by simp), h.sv (x := k) (by simp), h.sc (x := k) (by simp), h.sv (x := v) (by simp), h.sc (x := v) (by simp), mapStoE_congr ho]

theorem snapC_congr (ho : S'.o = S.o) : snapC S' = snapC S := by funext z q; unfold snapC; rw [obj_congr ho]
theorem snapCs_congr (ho : S'.o = S.o) : ∀ zs ps, snapCs S' zs ps = snapCs S zs ps
  | [], [] => rfl
  | [], _ :: _ => rfl
  | _ :: _, [] => rfl
  | z :: zs, p :: ps => by simp only [snapCs]; rw [snapC_congr ho, snapCs_congr ho zs ps]
theorem snapR_congr (ho : S'.o = S.o) : snapR E S' = snapR E S := by
  have h1 : snapCs S' = snapCs S := by funext a b; exact snapCs_congr ho a b
  funext q; unfold snapR; rw [obj_congr ho, h1]
theorem snapRs_congr (ho : S'.o = S.o) : ∀ ps, snapRs E S' ps = snapRs E S ps
  | [] => rfl
  | p :: ps => by simp only [snapRs]; rw [snapR_congr ho, snapRs_congr ho ps]
theorem snapV_congr (ho : S'.o = S.o) : snapV E S' = snapV E S := by
  have h1 : snapCs S' = snapCs S := by funext a b; exact snapCs_congr ho a b
  have h2 : snapRs E S' = snapRs E S := by funext a; exact snapRs_congr ho a
  funext t q; unfold snapV; rw [snapR_congr ho, h1, h2, snapC_congr ho]
theorem keysR_congr (ho : S'.o = S.o) : keysR S' = keysR S := by funext q; unfold keysR; rw [obj_congr ho]
theorem keysV_congr (ho : S'.o = S.o) : keysV S' = keysV S := by funext q; unfold keysV; rw [keysR_congr ho]
theorem snapVs_congr (ho : S'.o = S.o) {xs : List Operand} (h : Agree S S' xs) : ∀ {ys : List Operand} {ts : List Nat}, (∀ y ∈ ys, y ∈ xs) → snapVs E S' ys ts = snapVs E S ys ts
  | [], [], _ => rfl
  | [], _ :: _, _ => rfl
  | _ :: _, [], _ => rfl
  | y :: ys, t :: ts, hy => by simp only [snapVs]; rw [snapV_congr ho, h.sv (hy y (by simp)), snapVs_congr ho h fun z hz => hy z (by simp [hz])]
theorem flatKeys_congr (ho : S'.o = S.o) {xs : List Operand} (h : Agree S S' xs) : ∀ {ys : List Operand}, (∀ y ∈ ys, y ∈ xs) → (ys.flatMap fun x => keysV S' (S'.sv x)) = ys.flatMap fun x => keysV S (S.sv x)
  | [], _ => rfl
  | y :: ys, hy => by
    have e := flatKeys_congr ho h (ys := ys) fun z hz => hy z (by simp [hz])
    simp only [List.flatMap_cons]
    rw [e, keysV_congr ho, h.sv (hy y (by simp))]
theorem callInfo_congr (ho : S'.o = S.o) {c : Call} (h : Agree S S' c.operands.toList) : callInfo E S' c = callInfo E S c := by
  obtain ⟨callee, args, tys⟩ := c
  have ha : ∀ y ∈ args.toList, y ∈ (Call.operands ⟨callee, args, tys⟩).toList := fun y hy => by
    simp only [Call.operands, Array.toList_append, List.mem_append]; exact .inr hy
  have h2 : snapRs E S' = snapRs E S := by funext a; exact snapRs_congr ho a
  unfold callInfo
  cases callee with
  | value x =>
    have hx : x ∈ (Call.operands ⟨.value x, args, tys⟩).toList := by simp [Call.operands]
    simp only
    rw [h.sv hx, h.sc hx, snapVs_congr ho h ha, flatKeys_congr ho h ha, h.argsC ha, h2, keysR_congr ho]
  | invoke r m => rfl
  | builtin b => rfl
theorem icallInfo_congr {c : Call} (h : Agree S S' c.operands.toList) : icallInfo S' c = icallInfo S c := by
  obtain ⟨callee, args, tys⟩ := c
  have ha : ∀ y ∈ args.toList, y ∈ (Call.operands ⟨callee, args, tys⟩).toList := fun y hy => by
    simp only [Call.operands, Array.toList_append, List.mem_append]; exact .inr hy
  unfold icallInfo
  cases callee with
  | value x =>
    have hx : x ∈ (Call.operands ⟨.value x, args, tys⟩).toList := by simp [Call.operands]
    simp only
    rw [h.sv hx, h.sc hx, h.svs ha, h.argsC ha]
  | invoke r m => rfl
  | builtin b => rfl

theorem opF_congr (ho : S'.o = S.o) {op : Op} (h : Agree S S' op.operands.toList) : opF S' op = opF S op := by
  have hl : lenF S' = lenF S := by funext q; unfold lenF; rfl
  cases op <;> (try rfl)
  rename_i c
  obtain ⟨callee, args, tys⟩ := c
  have ha : ∀ y ∈ args.toList, y ∈ (Call.operands ⟨callee, args, tys⟩).toList := fun y hy => by
    simp only [Call.operands, Array.toList_append, List.mem_append]; exact .inr hy
  simp only [opF, hl]
  split
  · rename_i x hx
    rw [h.sv (ha x (by rw [hx]; simp))]
  · rfl
theorem nextOp_congr (ho : S'.o = S.o) {op : Op} (h : Agree S S' op.operands.toList) : nextOp S' op = nextOp S op := by
  cases op <;> (try rfl)
  case next x b =>
    simp only [Op.operands] at h
    cases b
    · simp only [nextOp]
      rw [h.sv (x := x) (by simp), h.sc (x := x) (by simp), nextR_congr ho]
    · rfl
theorem rep1_congr (ho : S'.o = S.o) {o : Oper} {g : Bool} (h : Agree S S' o.op.operands.toList) : rep1 E S' o g = rep1 E S o g := by
  unfold rep1
  split
  · rw [pureOp_congr (.inl ho) h, ho]
  · rw [pureOp_congr (.inl ho) h, ho, opF_congr ho h]
  · rw [litOp_congr h, ho]
  · rw [effOp_congr ho h]
  · rw [nextOp_congr ho h]
  · cases hop : callOf o.op with
    | none => rfl
    | some c =>
      have hc : o.op = .call c := by
        unfold callOf at hop
        split at hop
        · rename_i hq; rw [hq]; simpa using hop
        · cases hop
      rw [hc] at h
      simp only [Op.operands] at h
      simp only [Option.bind_some]
      rw [icallInfo_congr h, callInfo_congr ho h, ho]
      have : ∀ ci con, callRep E S' o g ci con = callRep E S o g ci con := fun ci con => by unfold callRep; rw [ho]
      simp only [this]

theorem wantedP_congr {ops : Array Oper} {o : Oper} (h : ∀ t ∈ o.looksAt ops, S'.t t = S.t t) : wantedP ops S' o = wantedP ops S o := by
  unfold wantedP
  split
  · rfl
  · rename_i j want he
    split
    · rename_i d hd
      rw [h d]
      simp only [Oper.looksAt, he, List.mem_append]
      exact .inr (by simpa using hd)
    · rfl

theorem Agree.of_looks {ops : Array Oper} {o : Oper} (h : ∀ t ∈ o.looksAt ops, S'.t t = S.t t) : Agree S S' o.op.operands.toList := by
  intro x hx
  cases x with
  | tmp t =>
    exact h t (by simp only [Oper.looksAt, List.mem_append, List.mem_filterMap]; exact .inl ⟨.tmp t, hx, rfl⟩)
  | _ => rfl

theorem rep_congr (ho : S'.o = S.o) {ops : Array Oper} {o : Oper} (h : ∀ t ∈ o.looksAt ops, S'.t t = S.t t) : rep E ops S' o = rep E ops S o := by
  unfold rep
  rw [wantedP_congr h]
  congr 1
  funext g
  exact rep1_congr ho (.of_looks h)

/-- An operation that looks at no object: its step is the same whatever the objects, and leaves them. -/
theorem rep_congr0 {ops : Array Oper} {o : Oper} (h0 : cls E o = 0) (h : ∀ t ∈ o.looksAt ops, S'.t t = S.t t) {r : SR} (hr : rep E ops S o = some r) :
    ∃ f : PV, r = ⟨r.vc, fun p o' => p = f ∧ o' = S.o⟩ ∧ rep E ops S' o = some ⟨r.vc, fun p o' => p = f ∧ o' = S'.o⟩ := by
  unfold rep at hr ⊢
  rw [wantedP_congr h]
  obtain ⟨g, hg, h1⟩ := Option.bind_eq_some_iff.1 hr
  rw [hg]
  simp only [Option.bind_some]
  have hag := Agree.of_looks h
  unfold rep1 at h1 ⊢
  unfold cls at h0
  split at h1
  · rename_i hk
    rw [hk] at h0
    simp only at h0
    obtain ⟨⟨c, p⟩, h2, rfl⟩ := Option.map_eq_some_iff.1 h1
    have hno : noObj o.op = true := by
      revert h0
      cases o.op <;> simp [noObj]
    refine ⟨gopt o g p, rfl, ?_⟩
    rw [pureOp_congr (.inr hno) hag, h2]
    rfl
  · rename_i hk; rw [hk] at h0; simp at h0
  · obtain ⟨⟨c, p⟩, h2, rfl⟩ := Option.map_eq_some_iff.1 h1
    refine ⟨gopt o g p, rfl, ?_⟩
    rw [litOp_congr hag, h2]
    rfl
  · rename_i hk; rw [hk] at h0; simp at h0
  · rename_i hk; rw [hk] at h0; simp at h0
  · rename_i hk
    rw [hk] at h0
    simp only at h0
    split at h0
    · split at h0
      · split at h0
        · split at h0 <;> simp at h0
        · simp at h0
      · simp at h0
    · simp at h0

/-- An operation that only looks at objects leaves them. -/
theorem rep_keeps1 {ops : Array Oper} {o : Oper} (h1 : cls E o ≤ 1) {r : SR} (hr : rep E ops S o = some r) : ∃ q : PV → Prop, r = ⟨r.vc, fun p o' => q p ∧ o' = S.o⟩ := by
  unfold rep at hr
  obtain ⟨g, hg, h2⟩ := Option.bind_eq_some_iff.1 hr
  unfold rep1 at h2
  unfold cls at h1
  split at h2
  · obtain ⟨⟨c, p⟩, h3, rfl⟩ := Option.map_eq_some_iff.1 h2
    exact ⟨fun x => x = gopt o g p, rfl⟩
  · rename_i hk; rw [hk] at h1; simp at h1
  · obtain ⟨⟨c, p⟩, h3, rfl⟩ := Option.map_eq_some_iff.1 h2
    exact ⟨fun x => x = gopt o g p, rfl⟩
  · rename_i hk; rw [hk] at h1; simp at h1
  · rename_i hk; rw [hk] at h1; simp at h1
  · rename_i hk
    rw [hk] at h1
    simp only at h1
    split at h1
    · rename_i c hop
      split at h1
      · rename_i f hcal
        split at h1
        · rename_i con hic hcon
          split at h1
          · rename_i hf
            obtain ⟨c', hc', h3⟩ := Option.bind_eq_some_iff.1 h2
            have : c' = c := by rw [hop] at hc'; simpa [callOf] using hc'.symm
            subst this
            obtain ⟨ic, hi, h4⟩ := Option.bind_eq_some_iff.1 h3
            have hf1 : ic.1 = f := by
              unfold icallInfo at hi
              rw [hcal] at hi
              simp only [St.sv, St.ev, strip, Option.some.injEq] at hi
              rw [← hi]
            rw [hf1, hic] at h4
            simp only at h4
            obtain ⟨ci, h5, h6⟩ := Option.bind_eq_some_iff.1 h4
            obtain ⟨con', h7, rfl⟩ := Option.map_eq_some_iff.1 h6
            have hf2 : ci.f = f := by
              unfold callInfo at h5
              rw [hcal] at h5
              simp only [St.sv, St.ev, strip] at h5
              obtain ⟨ds, _, rfl⟩ := Option.map_eq_some_iff.1 h5
              rfl
            rw [hf2, hcon] at h7
            simp only [Option.some.injEq] at h7
            subst h7
            unfold callRep
            rw [if_pos hf]
            refine ⟨fun p => ∃ rs, ((g = true ∨ ∃ rs', con.post ci.ds rs') → con.post ci.ds rs) ∧ p = gopt o g (packP (rs.map RV.flatP)), ?_⟩
            simp only [SR.mk.injEq, true_and]
            funext p o'
            simp only [eq_iff_iff]
            constructor
            · rintro ⟨rs, a, b, c⟩; exact ⟨⟨rs, a, b⟩, c⟩
            · rintro ⟨⟨rs, a, b⟩, c⟩; exact ⟨rs, a, b, c⟩
          · simp at h1
        · simp at h1
      · simp at h1
    · simp at h1
end

/-- A step that may be taken leaves something. -/
theorem rep_some {E : Env} (hE : EnvOk E) {S : St} {ops : Array Oper} {o : Oper} (h2' : cls E o ≤ 2) {r : SR} (hr : rep E ops S o = some r) (hc : r.vc) : ∃ p o', r.post p o' := by
  unfold rep at hr
  obtain ⟨g, hg, h2⟩ := Option.bind_eq_some_iff.1 hr
  unfold rep1 at h2
  split at h2
  · obtain ⟨⟨c, p⟩, h3, rfl⟩ := Option.map_eq_some_iff.1 h2
    exact ⟨_, _, rfl, rfl⟩
  · rename_i hk; unfold cls at h2'; rw [hk] at h2'; simp at h2'
  · obtain ⟨⟨c, p⟩, h3, rfl⟩ := Option.map_eq_some_iff.1 h2
    exact ⟨_, _, rfl, rfl⟩
  · obtain ⟨⟨c, p, o'⟩, h3, rfl⟩ := Option.map_eq_some_iff.1 h2
    exact ⟨_, _, rfl, rfl⟩
  · rename_i hk; unfold cls at h2'; rw [hk] at h2'; simp at h2'
  · obtain ⟨c, hc', h3⟩ := Option.bind_eq_some_iff.1 h2
    obtain ⟨ic, hi, h4⟩ := Option.bind_eq_some_iff.1 h3
    split at h4
    · rename_i con hcon
      simp only [Option.some.injEq] at h4
      subst h4
      obtain ⟨o', p, hp⟩ : ∃ o' p, con.post S.o ic.2.1 o' p := by
        rcases hE.icon _ _ hcon with ⟨_, hok⟩ | hok
        · exact hok.some _ _ hc.2.2
        · exact hok.some _ _ hc.2.2
      exact ⟨p, o', hp⟩
    · obtain ⟨ci, h5, h6⟩ := Option.bind_eq_some_iff.1 h4
      obtain ⟨con, h7, rfl⟩ := Option.map_eq_some_iff.1 h6
      have hok := (hE.con _ _ h7).2
      unfold callRep at hc ⊢
      split at hc
      · rename_i hf
        cases g with
        | false =>
          rw [if_pos hf]
          by_cases he : ∃ rs', con.post ci.ds rs'
          · obtain ⟨rs, hrs⟩ := he; exact ⟨_, _, rs, fun _ => hrs, rfl, rfl⟩
          · exact ⟨_, _, [], fun h => absurd (h.resolve_left (by simp)) he, rfl, rfl⟩
        | true =>
          obtain ⟨rs, hrs⟩ := hok.some _ (hc rfl).2
          rw [if_pos hf]
          exact ⟨_, _, rs, fun _ => hrs, rfl, rfl⟩
      · rename_i hf
        rw [if_neg hf]
        split at hc
        · rename_i d hd
          obtain ⟨rs, hrs⟩ := hok.some _ hc.2.2
          simp only [hd]
          exact ⟨_, _, rs, hrs, rfl, rfl⟩
        · rename_i hd
          obtain ⟨rs, hrs⟩ := hok.some _ hc.2.2
          simp only [hd]
          exact ⟨_, _, rs, hrs, rfl, rfl⟩
end Go.Proofs.Ytomnjbebgfadoaa.Pi
end
section
/- Regions of open order: whatever the order drawn, the pure interpreter's order of the text speaks of it.
   Conditions: none; lemmas. -/
set_option linter.unusedVariables false
set_option linter.unusedSimpArgs false
namespace Go.Proofs.Ytomnjbebgfadoaa.Pi
open Go Go.RowKit

section
variable {E : Env}
theorem after_t {S : St} {d : Option Nat} {p : PV} {o' : Objs} {t : Nat} (h : d ≠ some t) : (S.after d p o').t t = S.t t := by
  unfold St.after
  cases d with
  | none => rfl
  | some e =>
    have : t ≠ e := fun x => h (by rw [x])
    simp [St.put, this]
theorem st_after_o {S : St} {d : Option Nat} {p : PV} {o' : Objs} : (S.after d p o').o = o' := rfl
theorem after_comm {S : St} {d d' : Option Nat} {p p' : PV} {o1 o2 o3 o4 : Objs} (h : ∀ e, d = some e → d' ≠ some e) (ho : o2 = o4) : ((S.after d p o1).after d' p' o2) = ((S.after d' p' o3).after d p o4) := by
  subst ho
  unfold St.after
  cases d with
  | none => cases d' <;> rfl
  | some e =>
    cases d' with
    | none => rfl
    | some e' =>
      have hne : e ≠ e' := fun x => h e rfl (by rw [x])
      simp only [St.put, St.mk.injEq, and_true]
      funext k
      by_cases h1 : k = e'
      · subst h1; simp [Ne.symm hne]
      · simp [h1]
theorem looks_after {ops : Array Oper} {x y : Oper} (h : x.apart ops y = true) {S : St} {p : PV} {o' : Objs} : (∀ t ∈ y.looksAt ops, (S.after x.dst p o').t t = S.t t) ∧ (∀ t ∈ x.looksAt ops, (S.after y.dst p o').t t = S.t t) := by
  obtain ⟨h1, h2, h3⟩ := Oper.apart_spec h
  exact ⟨fun t ht => after_t fun e => h1 t e ht, fun t ht => after_t fun e => h3 t e ht⟩

theorem popOne_mono {ops : Array Oper} {i : Nat} {S : St} {K K' : St → Prop} (h : popOne E ops i S K) (hk : ∀ S, K S → K' S) : popOne E ops i S K' := by
  unfold popOne at h ⊢
  split
  · rename_i e; rw [e] at h; exact hk _ h
  · rename_i o e
    rw [e] at h
    obtain ⟨r, h2, h3, h4⟩ := h
    exact ⟨r, h2, h3, fun p o' hp => hk _ (h4 p o' hp)⟩

theorem bytes_eq {a b : ByteArray} (h : (a == b) = true) : a = b := by
  rw [beq_toListBytes] at h
  have := eq_of_beq h
  rw [ByteArray.toList_eq, ByteArray.toList_eq] at this
  obtain ⟨⟨x⟩⟩ := a
  obtain ⟨⟨y⟩⟩ := b
  simpa using this
mutual
theorem keq_eq : ∀ (x y : D), keq x y = true → x = y
  | .int k a, y, h => by
    cases y <;> simp only [keq, Bool.false_eq_true, Bool.and_eq_true, decide_eq_true_eq, beq_iff_eq] at h
    rw [h.1, h.2]
  | .bool a, y, h => by
    cases y <;> simp only [keq, Bool.false_eq_true, beq_iff_eq] at h
    rw [h]
  | .str a, y, h => by
    cases y <;> simp only [keq, Bool.false_eq_true] at h
    rw [bytes_eq h]
  | .agg xs, y, h => by
    cases y <;> simp only [keq, Bool.false_eq_true] at h
    rw [keqs_eq xs _ h]
  | .lst _ _, y, h => by cases y <;> simp [keq] at h
  | .ptr _ _, y, h => by cases y <;> simp [keq] at h
  | .fn _ _, y, h => by cases y <;> simp [keq] at h
  | .nil _, y, h => by cases y <;> simp [keq] at h
theorem keqs_eq : ∀ (xs ys : List D), keqs xs ys = true → xs = ys
  | [], ys, h => by cases ys <;> simp [keqs] at h; rfl
  | x :: xs, ys, h => by
    cases ys <;> simp only [keqs, Bool.false_eq_true, Bool.and_eq_true] at h
    rw [keq_eq x _ h.1, keqs_eq xs _ h.2]
end
theorem mput_some {k : D} {v : PV} {c b : Nat} : ∀ {es : List (Nat × D × PV)}, mfind k es = some (b, v) → mput k v c es = es
  | [], h => by simp [mfind] at h
  | x :: es, h => by
    simp only [mfind] at h
    split at h
    · rename_i hq
      simp only [Option.some.injEq, Prod.mk.injEq] at h
      obtain ⟨rfl, rfl⟩ := h
      simp only [mput, hq, if_true]
      rw [keq_eq _ _ hq]
    · rename_i hn
      simp only [mput, hn, if_false, Bool.false_eq_true]
      rw [mput_some h]
theorem mput_none' {k : D} {v : PV} {c : Nat} : ∀ {es : List (Nat × D × PV)}, mfind k es = none → mput k v c es = es ++ [(c, k, v)]
  | [], _ => rfl
  | x :: es, h => by
    simp only [mfind] at h
    split at h
    · cases h
    · rename_i hn
      simp only [mput, hn, if_false, List.cons_append, Bool.false_eq_true]
      rw [mput_none' h]
theorem mfind_app (k : D) (e : Nat × D × PV) : ∀ es : List (Nat × D × PV), mfind k (es ++ [e]) = (mfind k es).or (if keq k e.2.1 = true then some (e.1, e.2.2) else none)
  | [] => by simp [mfind]
  | x :: es => by
    simp only [List.cons_append, mfind]
    split
    · simp
    · exact mfind_app k e es
theorem mval_mput (k k2 : D) (z : PV) (c : Nat) (es : List (Nat × D × PV)) : mval k (mput k2 (mval k2 es z) c es) z = mval k es z := by
  cases h : mfind k2 es with
  | none =>
    rw [mput_none' h]
    unfold mval
    rw [mfind_app]
    cases h2 : mfind k es with
    | some x => simp
    | none =>
      simp only [Option.none_or, Option.map_none, Option.getD_none]
      split <;> simp [h]
  | some x =>
    obtain ⟨b, v⟩ := x
    have : mval k2 es z = v := by simp [mval, h]
    rw [this, mput_some h]
theorem mkeys_mput {E : Env} {kt : Nat} {k : D} (v : PV) (c : Nat) (hk : mkey E kt k = true) : ∀ {es : List (Nat × D × PV)}, mkeys E kt es = true → mkeys E kt (mput k v c es) = true
  | [], _ => by simp [mput, mkeys, hk]
  | x :: es, h => by
    simp only [mkeys, List.all_cons, Bool.and_eq_true] at h
    simp only [mput]
    split
    · simp only [mkeys, List.all_cons, Bool.and_eq_true]; exact ⟨hk, h.2⟩
    · have := mkeys_mput v c hk (es := es) h.2
      simp only [mkeys, List.all_cons, Bool.and_eq_true] at this ⊢
      exact ⟨h.1, this⟩
/-- The reading of a map's value, and the entry: in either order. -/
theorem pair_swap {ops : Array Oper} {oi oj : Oper} (hp : mapPair oj oi = true) (hap : oj.apart ops oi = true) {S : St} {K : St → Prop} {rj : SR} (hrj : rep E ops S oj = some rj) (hcj : rj.vc)
    (hq : ∀ p o', rj.post p o' → ∃ r, rep E ops (S.after oj.dst p o') oi = some r ∧ r.vc ∧ ∀ p_1 o'_1, r.post p_1 o'_1 → K ((S.after oj.dst p o').after oi.dst p_1 o'_1)) :
    ∃ r, rep E ops S oi = some r ∧ r.vc ∧ ∀ p o', r.post p o' → ∃ r, rep E ops (S.after oi.dst p o') oj = some r ∧ r.vc ∧ ∀ p_1 o'_1, r.post p_1 o'_1 → K ((S.after oi.dst p o').after oj.dst p_1 o'_1) := by
  obtain ⟨ap1, ap2, ap3⟩ := Oper.apart_spec hap
  obtain ⟨dj, opj, tyj, posj, afj, gj⟩ := oj
  obtain ⟨di, opi, tyi, posi, afi, gi⟩ := oi
  unfold mapPair at hp
  simp only at hp
  split at hp
  · rename_i t x ix t' m k
    simp only [Bool.and_eq_true, beq_iff_eq, Option.isNone_iff_eq_none] at hp
    obtain ⟨⟨⟨rfl, rfl⟩, rfl⟩, hdi⟩ := hp
    obtain ⟨d, rfl⟩ := Option.isSome_iff_exists.1 hdi
    have eqj : ∀ S' : St, rep E ops S' ⟨dj, .lookup t x ix false, tyj, posj, afj, none⟩ = (pureOp E S' (.lookup t x ix false)).map fun r => ⟨true = true → r.1, fun p o' => p = r.2 ∧ o' = S'.o⟩ := fun _ => rfl
    have eqi : ∀ S' : St, rep E ops S' ⟨some d, .mapEntry t m k, tyi, posi, afi, none⟩ = (effOp E S' (some d) (.mapEntry t m k)).map fun r => ⟨true = true ∧ r.1, fun p o' => p = r.2.1 ∧ o' = r.2.2⟩ := fun _ => rfl
    rw [eqj] at hrj
    obtain ⟨⟨c, v⟩, h1, rfl⟩ := Option.map_eq_some_iff.1 hrj
    obtain ⟨ri, hri, hci, hki⟩ := hq v S.o ⟨rfl, rfl⟩
    have hcong := rep_congr (E := E) (S := S) (S' := S.after dj v S.o) st_after_o (looks_after (o' := S.o) (p := v) (S := S) hap).1
    rw [hcong, eqi] at hri
    obtain ⟨⟨c2, p2, o2⟩, h2, rfl⟩ := Option.map_eq_some_iff.1 hri
    refine ⟨_, by rw [eqi, h2]; rfl, hci, ?_⟩
    rintro p o' ⟨rfl, rfl⟩
    have hlook := (looks_after (S := S) (p := p) (o' := o') hap).2
    have hag := Agree.of_looks (S := S) (S' := S.after (some d) p o') hlook
    simp only [Op.operands] at hag
    have hcong2 : (S.after (some d) p o').sv x = S.sv x ∧ (S.after (some d) p o').sc x = S.sc x ∧ (S.after (some d) p o').sv ix = S.sv ix ∧ (S.after (some d) p o').sc ix = S.sc ix := ⟨hag.sv (by simp), hag.sc (by simp), hag.sv (by simp), hag.sc (by simp)⟩
    simp only [pureOp] at h1
    obtain ⟨⟨c1, v1⟩, h3, h4⟩ := Option.map_eq_some_iff.1 h1
    simp only [Prod.mk.injEq] at h4
    obtain ⟨rfl, rfl⟩ := h4
    simp only [effOp] at h2
    obtain ⟨⟨c3, p3, o3⟩, h5, h6⟩ := Option.map_eq_some_iff.1 h2
    simp only [Prod.mk.injEq] at h6
    obtain ⟨rfl, rfl, rfl⟩ := h6
    have key : ∃ c4, lookupV E (S.after (some d) p3 o3) t false (S.sv x) (S.sv ix) = some (c4, v1) ∧ c4 := by
      have hc1 := (hcj rfl).2
      have hc3 := hci.2.2
      unfold lookupV at h3 ⊢
      split at h3
      · rename_i K1 ver1 kd hx hix
        split at h3
        · rename_i kt e kt' e' clock es ht hob
          split at h3
          · rename_i te hte
            split at h3
            · rename_i hpl
              simp only [Option.some.injEq, Prod.mk.injEq, Bool.false_eq_true, if_false] at h3
              obtain ⟨rfl, rfl⟩ := h3
              unfold mapEntE at h5
              split at h5
              · rename_i K2 ver2 kd2 hm hk
                rw [ht] at h5
                split at h5
                · rename_i kt2 e2 kt2' e2' clock2 es2 ht2 hob2
                  simp only [Option.some.injEq, TK.map.injEq] at ht2
                  obtain ⟨rfl, rfl⟩ := ht2
                  rw [hte] at h5
                  simp only [hpl, if_true, Option.some.injEq, Prod.mk.injEq] at h5
                  obtain ⟨rfl, rfl, rfl⟩ := h5
                  by_cases hK : K1 = K2
                  · subst hK
                    have hv12 : ver1 = ver2 := by
                      have a1 := (obj_some hob).1.1
                      have a2 := (obj_some hob2).1.1
                      rw [← a1, ← a2]
                    subst hv12
                    rw [hob] at hob2
                    simp only [Option.some.injEq, Ob.map.injEq] at hob2
                    obtain ⟨rfl, rfl, rfl, rfl⟩ := hob2
                    have hob' : (S.after (some d) (.tup [mval kd2 es (zvp te), .d (.int .i64 (mborn kd2 es clock))]) (setOb S.o K1 (.map kt' e' (mclock kd2 es clock) (mput kd2 (mval kd2 es (zvp te)) clock es)))).obj K1 ver1 = some (.map kt' e' (mclock kd2 es clock) (mput kd2 (mval kd2 es (zvp te)) clock es)) := by
                      have a1 := (obj_some hob).1.1
                      simp [St.obj, St.after, setOb, a1]
                    rw [hob', ht]; simp only [hte]
                    simp only [hpl, if_true, Bool.false_eq_true, if_false]
                    exact ⟨_, congrArg (fun z => some (_, z)) (mval_mput kd kd2 _ _ _), hc1.1, mkeys_mput _ _ hc3.1 hc1.2⟩
                  · have hob' : (S.after (some d) (.tup [mval kd2 es2 (zvp te), .d (.int .i64 (mborn kd2 es2 clock2))]) (setOb S.o K2 (.map kt2' e2' (mclock kd2 es2 clock2) (mput kd2 (mval kd2 es2 (zvp te)) clock2 es2)))).obj K1 ver1 = some (.map kt' e' clock es) := by
                      rw [← hob]
                      simp [St.obj, St.after, setOb, hK]
                    rw [hob', ht]; simp only [hte]
                    simp only [hpl, if_true, Bool.false_eq_true, if_false]
                    exact ⟨_, rfl, hc1⟩
                · cases h5
              · cases h5
            · cases h3
          · cases h3
        · cases h3
      · cases h3
    obtain ⟨c4, h7, h8⟩ := key
    refine ⟨⟨true = true → (S.sc x ∧ S.sc ix) ∧ c4, fun p' o' => p' = v1 ∧ o' = (S.after (some d) p3 o3).o⟩, ?_, fun _ => ⟨(hcj rfl).1, h8⟩, ?_⟩
    · rw [eqj]
      simp only [pureOp]
      rw [hcong2.1, hcong2.2.1, hcong2.2.2.1, hcong2.2.2.2, h7]
      rfl
    · rintro p1 o1 ⟨hp1, ho1⟩
      have ho2 : o1 = o3 := ho1
      rw [hp1, ho2]
      have := hki p3 o3 ⟨rfl, rfl⟩
      rw [after_comm (o3 := o3) (o4 := o3) ap2 rfl] at this
      exact this
  · cases hp
/-- Two operations change places. -/
theorem pop_swap (hE : EnvOk E) {ops : Array Oper} {i j : Nat} {oi oj : Oper} (hi : ops[i]? = some oi) (hj : ops[j]? = some oj) (hsw : mayswap E ops oj oi = true) {S : St} {K : St → Prop} (h : popOne E ops j S fun S' => popOne E ops i S' K) :
    popOne E ops i S fun S' => popOne E ops j S' K := by
  unfold mayswap at hsw
  simp only [Bool.and_eq_true, Bool.or_eq_true, decide_eq_true_eq] at hsw
  obtain ⟨hap, hcl⟩ := hsw
  obtain ⟨ap1, ap2, ap3⟩ := Oper.apart_spec hap
  unfold popOne at h ⊢
  simp only [hi, hj] at h ⊢
  obtain ⟨rj, hrj, hcj, hq⟩ := h
  have main0 : ∀ {f : PV}, rj = ⟨rj.vc, fun p o' => p = f ∧ o' = S.o⟩ → (∀ S', (∀ t ∈ oj.looksAt ops, S'.t t = S.t t) → rep E ops S' oj = some ⟨rj.vc, fun p o' => p = f ∧ o' = S'.o⟩) →
      (∃ r, rep E ops S oi = some r ∧ r.vc ∧ ∀ p o', r.post p o' → ∃ r, rep E ops (S.after oi.dst p o') oj = some r ∧ r.vc ∧ ∀ p_1 o'_1, r.post p_1 o'_1 → K ((S.after oi.dst p o').after oj.dst p_1 o'_1)) := by
    intro f e1 e2
    obtain ⟨ri, hri, hci, hki⟩ := hq f S.o (by rw [e1]; exact ⟨rfl, rfl⟩)
    rw [rep_congr st_after_o (looks_after hap).1] at hri
    refine ⟨ri, hri, hci, fun p o' hp => ⟨_, e2 _ (looks_after hap).2, hcj, fun p1 o1 hp1 => ?_⟩⟩
    obtain ⟨rfl, ho1⟩ := hp1
    have ho2 : o1 = o' := ho1
    subst ho2
    have := hki p o1 hp
    rw [after_comm (o3 := o1) (o4 := o1) ap2 rfl] at this
    exact this
  rcases hcl with ((hpair | ⟨hc1, hc2⟩) | ⟨hc0, hcx⟩) | ⟨hc0, hcx⟩
  · exact pair_swap hpair hap hrj hcj hq
  · obtain ⟨qj, ej⟩ := rep_keeps1 hc1 hrj
    obtain ⟨pj, oj', hpj⟩ := rep_some hE (Nat.le_trans hc1 (by omega)) hrj hcj
    rw [ej] at hpj
    obtain ⟨hqj, rfl⟩ := hpj
    obtain ⟨ri, hri, hci, hki⟩ := hq pj S.o (by rw [ej]; exact ⟨hqj, rfl⟩)
    rw [rep_congr st_after_o (looks_after hap).1] at hri
    obtain ⟨qi, ei⟩ := rep_keeps1 hc2 hri
    refine ⟨ri, hri, hci, fun p o' hp => ⟨rj, ?_, hcj, fun p1 o1 hp1 => ?_⟩⟩
    · rw [ei] at hp
      obtain ⟨_, rfl⟩ := hp
      rw [rep_congr st_after_o (looks_after hap).2]; exact hrj
    · obtain ⟨ri', hri', _, hki'⟩ := hq p1 o1 hp1
      rw [ej] at hp1
      obtain ⟨_, rfl⟩ := hp1
      rw [rep_congr st_after_o (looks_after hap).1] at hri'
      rw [hri] at hri'
      simp only [Option.some.injEq] at hri'
      subst hri'
      have := hki' p o' hp
      rw [ei] at hp
      obtain ⟨_, rfl⟩ := hp
      rw [after_comm (o3 := S.o) (o4 := S.o) ap2 rfl] at this
      exact this
  · obtain ⟨f, e1, _⟩ := rep_congr0 hc0 (fun _ _ => rfl) hrj
    refine main0 e1 fun S' ht => ?_
    obtain ⟨f', e1', e2'⟩ := rep_congr0 (S' := S') hc0 ht hrj
    have : f' = f := by
      rw [e1] at e1'
      simp only [SR.mk.injEq, true_and] at e1'
      have := congrFun (congrFun e1' f) S.o
      simp only [and_true, eq_iff_iff, true_iff] at this
      exact this.symm
    subst this
    exact e2'
  · -- oi looks at no object: it goes first
    have hex : ∀ p1 o1, rj.post p1 o1 → ∃ fi vci, vci ∧ rep E ops S oi = some ⟨vci, fun p o' => p = fi ∧ o' = S.o⟩ ∧ K ((S.after oi.dst fi S.o).after oj.dst p1 o1) := by
      intro p1 o1 hp1
      obtain ⟨ri, hri, hci, hki⟩ := hq p1 o1 hp1
      obtain ⟨fi, e1, e2⟩ := rep_congr0 (S' := S) hc0 (fun t ht => ((looks_after hap).1 t ht).symm) hri
      have := hki fi (S.after oj.dst p1 o1).o (by rw [e1]; exact ⟨rfl, rfl⟩)
      rw [after_comm (o3 := S.o) (o4 := (S.after oj.dst p1 o1).o) ap2 rfl] at this
      exact ⟨fi, ri.vc, hci, e2, this⟩
    obtain ⟨p1, o1, hp1⟩ := rep_some hE hcx hrj hcj
    obtain ⟨fi, vci, hvi, hri, _⟩ := hex p1 o1 hp1
    refine ⟨_, hri, hvi, fun p o' hp => ⟨rj, ?_, hcj, fun p2 o2 hp2 => ?_⟩⟩
    · obtain ⟨rfl, rfl⟩ := hp
      rw [rep_congr st_after_o (looks_after hap).2]; exact hrj
    · obtain ⟨rfl, rfl⟩ := hp
      obtain ⟨fi', vci', _, hri', hK⟩ := hex p2 o2 hp2
      rw [hri] at hri'
      simp only [Option.some.injEq, SR.mk.injEq] at hri'
      have : p = fi' := by
        have := congrFun (congrFun hri'.2 p) S.o
        simp only [and_true, eq_iff_iff, true_iff] at this
        exact this
      subst this
      exact hK
end
end Go.Proofs.Ytomnjbebgfadoaa.Pi
end
section
/- Regions of open order, the whole; code; functions.
   Conditions: none; definitions and lemmas. -/
set_option linter.unusedVariables false
set_option linter.unusedSimpArgs false
namespace Go.Proofs.Ytomnjbebgfadoaa.Pi
open Go Go.RowKit

section
variable {E : Env}
theorem popsL_mono {ops : Array Oper} {Q Q' : St → Prop} (hq : ∀ S, Q S → Q' S) : ∀ {l : List Nat} {S : St}, popsL E ops l S Q → popsL E ops l S Q'
  | [], S, h => hq S h
  | i :: l, S, h => by
    simp only [popsL] at h ⊢
    exact popOne_mono h fun S' h' => popsL_mono hq h'
/-- An operation goes ahead of others. -/
theorem pops_bubble (hE : EnvOk E) {ops : Array Oper} {i : Nat} {oi : Oper} (hi : ops[i]? = some oi) {Q : St → Prop} {l2 : List Nat} : ∀ {l1 : List Nat} {S : St}, (∀ j ∈ l1, ∃ oj, ops[j]? = some oj ∧ mayswap E ops oj oi = true) → popsL E ops (l1 ++ i :: l2) S Q → popsL E ops (i :: (l1 ++ l2)) S Q
  | [], S, hs, h => h
  | j :: l1, S, hs, h => by
    simp only [List.cons_append, popsL] at h ⊢
    obtain ⟨oj, hj, hsw⟩ := hs j (by simp)
    refine pop_swap hE hi hj hsw (popOne_mono h fun S' h' => ?_)
    have := pops_bubble hE hi (fun k hk => hs k (by simp [hk])) h'
    simpa only [popsL] using this

/-- The operations that are not listed yet, in the order of the text. -/
def unl (n : Nat) (listed : Array Bool) : List Nat := (List.range n).filter fun i => !listed.getD i true
theorem mem_unl {n : Nat} {listed : Array Bool} {i : Nat} : i ∈ unl n listed ↔ i < n ∧ listed.getD i true = false := by simp [unl]
theorem unl_sorted (n : Nat) (listed : Array Bool) : (unl n listed).Pairwise (· < ·) := List.Pairwise.filter _ List.pairwise_lt_range
theorem unl_set {n : Nat} {listed : Array Bool} (hs : listed.size = n) {i : Nat} {l1 l2 : List Nat} (h : unl n listed = l1 ++ i :: l2) : unl n (listed.setIfInBounds i true) = l1 ++ l2 ∧ (∀ j ∈ l1, j < i) := by
  have hp := unl_sorted n listed
  rw [h] at hp
  obtain ⟨p1, p2, p3⟩ := List.pairwise_append.1 hp
  have hlt : ∀ j ∈ l1, j < i := fun j hj => p3 j hj i (by simp)
  have hgt : ∀ j ∈ l2, i < j := fun j hj => (List.pairwise_cons.1 p2).1 j hj
  have him : i ∈ unl n listed := by rw [h]; simp
  obtain ⟨hin, _⟩ := mem_unl.1 him
  have e : unl n (listed.setIfInBounds i true) = (unl n listed).filter fun k => k != i := by
    unfold unl
    rw [List.filter_filter]
    refine List.filter_congr fun k hk => ?_
    by_cases hki : k = i
    · subst hki
      have : k < listed.size := by rw [hs]; exact hin
      simp [this]
    · rw [getD_set_ne true (Ne.symm hki)]
      simp [hki]
  refine ⟨?_, hlt⟩
  rw [e, h, List.filter_append, List.filter_cons]
  have f1 : l1.filter (fun k => k != i) = l1 := List.filter_eq_self.2 fun k hk => by have := hlt k hk; simp; omega
  have f2 : l2.filter (fun k => k != i) = l2 := List.filter_eq_self.2 fun k hk => by have := hgt k hk; simp; omega
  rw [f1, f2]
  simp

theorem rounds_mono {P : Program} {c : Code} {Q : Exit → Act → World → Prop} : ∀ {m n : Nat}, m ≤ n → ∀ a w, Code.rounds P c Q m a w → Code.rounds P c Q n a w
  | 0, n, hmn, a, w, h => h.elim
  | m + 1, 0, hmn, a, w, h => by omega
  | m + 1, n + 1, hmn, a, w, h => by
    rw [rounds_succ] at h ⊢
    refine wp_mono h fun e a' w' he => ?_
    cases e <;> first | exact rounds_mono (Nat.le_of_succ_le_succ hmn) a' w' he | exact he

/-- What is listed has what it waits for listed. -/
def Closed (ops : Array Oper) (listed : Array Bool) : Prop := ∀ k o, ops[k]? = some o → listed.getD k false = true → ∀ e ∈ o.after, Region.binds .any e = true → listed.getD e.on false = true

theorem drawOk_spec {ops : Array Oper} (h : drawOk E ops = true) : Region.noSelect ops = true ∧ ∀ j oj, ops[j]? = some oj → (∀ e ∈ oj.after, Region.binds .any e = true → e.on < j) ∧
    ∀ i, i < j → ∃ oi, ops[i]? = some oi ∧ ((((masks ops.toList).getD j 0).testBit i = true → waitsFor (masks ops.toList) oj i = true) ∧ (((masks ops.toList).getD j 0).testBit i = false → mayswap E ops oi oj = true)) := by
  unfold drawOk at h
  simp only [Bool.and_eq_true, List.all_eq_true, List.mem_range] at h
  refine ⟨h.1, fun j oj hj => ?_⟩
  have hlt : j < ops.size := (Array.getElem?_eq_some_iff.1 hj).1
  have h2 := h.2 j hlt
  rw [hj] at h2
  simp only [Bool.and_eq_true, List.all_eq_true, List.mem_range] at h2
  refine ⟨fun e he hb => ?_, fun i hi => ?_⟩
  · have := h2.1 e (by simpa using he)
    simpa [hb] using this
  · have := h2.2 i hi
    cases hoi : ops[i]? with
    | none => rw [hoi] at this; simp at this
    | some oi =>
      rw [hoi] at this
      refine ⟨oi, rfl, fun hb => ?_, fun hb => ?_⟩
      · rw [hb] at this; simpa using this
      · rw [hb] at this; simpa using this

theorem waits_spec {ops : Array Oper} (h : drawOk E ops = true) {listed : Array Bool} (hcl : Closed ops listed) : ∀ (j : Nat) (oj : Oper), ops[j]? = some oj → (∀ e ∈ oj.after, Region.binds .any e = true → listed.getD e.on false = true) →
    ∀ i, i < j → ((masks ops.toList).getD j 0).testBit i = true → listed.getD i false = true := by
  intro j
  induction j using Nat.strongRecOn with
  | _ j ih =>
    intro oj hj hall i hij hbit
    obtain ⟨hback, hch⟩ := (drawOk_spec h).2 j oj hj
    obtain ⟨oi, hoi, hw, _⟩ := hch i hij
    have hw := hw hbit
    unfold waitsFor at hw
    obtain ⟨e, he, hb⟩ := List.any_eq_true.1 hw
    simp only [Bool.and_eq_true, Bool.or_eq_true, beq_iff_eq, decide_eq_true_eq] at hb
    obtain ⟨hbind, hb⟩ := hb
    have hem : e ∈ oj.after := by simpa using he
    have hel := hall e hem hbind
    rcases hb with rfl | ⟨hlt, hbit'⟩
    · exact hel
    · have hej := hback e hem hbind
      have hjs : j < ops.size := (Array.getElem?_eq_some_iff.1 hj).1
      have hoe : ops[e.on]? = some ops[e.on] := Array.getElem?_eq_getElem (Nat.lt_trans hej hjs)
      exact ih e.on hej _ hoe (hcl e.on _ hoe hel) i hlt hbit'

theorem closed_set {ops : Array Oper} {listed : Array Bool} (hcl : Closed ops listed) {i : Nat} {oi : Oper} (hi : ops[i]? = some oi) (hall : ∀ e ∈ oi.after, Region.binds .any e = true → listed.getD e.on false = true) : Closed ops (listed.setIfInBounds i true) := by
  intro k o ho hk e he hb
  refine getD_set_true ?_
  by_cases hki : k = i
  · subst hki
    rw [hi] at ho
    simp only [Option.some.injEq] at ho
    subst ho
    exact hall e he hb
  · rw [getD_set_ne false (Ne.symm hki)] at hk
    exact hcl k o ho hk e he hb

theorem wpAny_of_pops (hE : EnvOk E) {ops : Array Oper} (hds : ∀ (i : Nat) o, ops[i]? = some o → dstOk E o = true) (hd : drawOk E ops = true) {base : Nat} {w0 : World} {X : Fr} {Qp : St → Prop} {Q : Exit → Act → World → Prop} (hQ : ∀ S' a' w', Qp S' → Tells E base w0 X S' a' w' → Q .normal a' w') :
    ∀ (fuel : Nat) (listed : Array Bool) (S : St) (a : Act) (w : World), listed.size = ops.size → Closed ops listed → (unl ops.size listed).length ≤ fuel → popsL E ops (unl ops.size listed) S Qp → Tells E base w0 X S a w → wpAny E.P .any ops Q fuel listed a w := by
  intro fuel
  induction fuel with
  | zero =>
    intro listed S a w hs hcl hl h hT
    have hnil : unl ops.size listed = [] := List.eq_nil_of_length_eq_zero (Nat.le_zero.1 hl)
    rw [hnil] at h
    refine ⟨?_, hQ S a w h hT⟩
    cases hr : Region.ready .any ops listed with
    | nil => rfl
    | cons x xs =>
      have hx : x ∈ Region.ready .any ops listed := by rw [hr]; simp
      obtain ⟨h0, o, ho, _⟩ := mem_ready.1 hx
      have : x ∈ unl ops.size listed := mem_unl.2 ⟨(Array.getElem?_eq_some_iff.1 ho).1, h0⟩
      rw [hnil] at this
      simp at this
  | succ fuel ih =>
    intro listed S a w hs hcl hl h hT
    refine ⟨fun hr => ?_, fun i hi => ?_⟩
    · cases hu : unl ops.size listed with
      | nil => rw [hu] at h; exact hQ S a w h hT
      | cons j rest =>
        exfalso
        have hj : j ∈ unl ops.size listed := by rw [hu]; simp
        obtain ⟨hjn, hj0⟩ := mem_unl.1 hj
        have hoj : ops[j]? = some ops[j] := Array.getElem?_eq_getElem hjn
        have : j ∈ Region.ready .any ops listed := by
          refine mem_ready.2 ⟨hj0, _, hoj, fun e he hb => ?_⟩
          have hlt := ((drawOk_spec hd).2 j _ hoj).1 e he hb
          cases hle : listed.getD e.on true with
          | false =>
            have hmem : e.on ∈ unl ops.size listed := mem_unl.2 ⟨Nat.lt_trans hlt hjn, hle⟩
            have hp := unl_sorted ops.size listed
            rw [hu] at hmem hp
            rcases List.mem_cons.1 hmem with h1 | h1
            · omega
            · have := (List.pairwise_cons.1 hp).1 _ h1; omega
          | true =>
            have : e.on < listed.size := by rw [hs]; exact Nat.lt_trans hlt hjn
            simpa [Array.getD_eq_getD_getElem?, this] using hle
        rw [hr] at this
        simp at this
    · obtain ⟨hi0, oi, hoi, hall⟩ := mem_ready.1 hi
      have hin : i < ops.size := (Array.getElem?_eq_some_iff.1 hoi).1
      have him : i ∈ unl ops.size listed := mem_unl.2 ⟨hin, hi0⟩
      obtain ⟨l1, l2, hu⟩ := List.append_of_mem him
      obtain ⟨hset, hlt⟩ := unl_set hs hu
      rw [hu] at h
      have hb := pops_bubble hE hoi (fun j hj => ?_) h
      · simp only [popsL] at hb
        refine popOne_sound hE hds hb hT fun S' a' w' h' hT' => ih _ S' a' w' (by simpa using hs) (closed_set hcl hoi hall) ?_ (by rw [hset]; exact h') hT'
        rw [hset]
        rw [hu] at hl
        simp only [List.length_append, List.length_cons] at hl ⊢
        omega
      · have hjm : j ∈ unl ops.size listed := by rw [hu]; simp [hj]
        obtain ⟨hjn, hj0⟩ := mem_unl.1 hjm
        obtain ⟨oj, hoj, h1, h2⟩ := ((drawOk_spec hd).2 i oi hoi).2 j (hlt j hj)
        refine ⟨oj, hoj, ?_⟩
        cases hbit : ((masks ops.toList).getD i 0).testBit j with
        | false => exact h2 hbit
        | true =>
          have := waits_spec hd hcl i oi hoi hall j (hlt j hj) hbit
          exfalso
          have hjl : j < listed.size := by rw [hs]; exact hjn
          simp [Array.getD_eq_getD_getElem?, hjl] at hj0 this
          rw [this] at hj0
          cases hj0

theorem Tells.drew {base : Nat} {w0 : World} {X : Fr} {S : St} {a : Act} {w : World} (h : Tells E base w0 X S a w) : Tells E base w0 X S a { w with drawn := w.drawn + 1 } := by
  obtain ⟨α, h⟩ := h
  exact ⟨α, h.plain (dst := none) (p := .un) (v := undef) (by simp) (grownBy_drew w) fun _ => by simp only [PV.rel]⟩

/-! ### 16b. Turns of the telling alone -/
/-- A row that a map's entry holds gets another name. -/
def moveOb (o : Objs) (M K K' vm : Nat) (x y : Ob) : Objs := fun j => if j = K' then ((o K').1 + 1, some x) else if j = M then (vm, some y) else if j = K then ((o K).1, none) else o j
/-- A nil slice may be told as an empty row of the call's own; and the like. -/
inductive Ghost : St → St → Prop
  | refl (S : St) : Ghost S S
  | nil {S S' : St} (k K sz e : Nat) (h : S.t k = .nils) (r : Ghost ⟨fun j => if j = k then .row K ((S.o K).1 + 1) 0 else S.t j, newOb S.o K (.row sz e [])⟩ S') : Ghost S S'
  | move {S S' : St} (M K K' ver vm n : Nat) (x : Ob) (kt e' clock : Nat) (l1 l2 : List (Nat × D × PV)) (st : Nat) (kd : D) (hK : S.o K = (ver, some x)) (hM : S.o M = (vm, some (.map kt e' clock (l1 ++ (st, kd, .row K ver n) :: l2)))) (hne : K ≠ M) (hK' : (S.o K').2 = none)
      (r : Ghost ⟨S.t, moveOb S.o M K K' vm x (.map kt e' clock (l1 ++ (st, kd, .row K' ((S.o K').1 + 1) n) :: l2))⟩ S') : Ghost S S'
  /-- What is forgotten. -/
  | drop {S S' : St} (ks : List Nat) (r : Ghost { S with o := dropObs S.o ks } S') : Ghost S S'
theorem Tells.nil {base : Nat} {w0 : World} {X : Fr} {S : St} {a : Act} {w : World} (h : Tells E base w0 X S a w) {k K sz e : Nat} (hk : S.t k = .nils) : Tells E base w0 X ⟨fun j => if j = k then .row K ((S.o K).1 + 1) 0 else S.t j, newOb S.o K (.row sz e [])⟩ a w := by
  obtain ⟨α, h⟩ := h
  have hn := h.new (K := K) (x := .row sz e []) (hdr := .slice none 0 0) (dst := none) (p := .un) (v := undef) (by simp) (grownBy_refl w none) (by intro g hg; simp [hblk] at hg) (fun _ _ => by
    simp only [Ob.rel]
    exact ⟨[], ⟨by simp, .inl ⟨rfl, rfl⟩⟩, by simp, by simp [rdVals], by simp⟩) (fun _ _ => by simp only [PV.rel])
  refine ⟨hup α K (.slice none 0 0), ⟨hn.defers, hn.size, fun j => ?_, hn.o, hn.inj, hn.below, hn.free, hn.base, hn.x⟩⟩
  simp only
  by_cases hj : j = k
  · subst hj
    simp only [if_true]
    have := h.t j
    rw [hk] at this
    simp only [PV.rel] at this ⊢
    have e : a.tmps.getD j undef = .slice none 0 0 := this
    have e' : (a.put none undef).tmps.getD j undef = .slice none 0 0 := e
    refine ⟨⟨by rw [e]; exact ⟨none, 0, rfl, by simp, by simp⟩, by simp [newOb]⟩, fun _ => ?_⟩
    rw [hup_same]
    exact e
  · simp only [hj, if_false]
    exact hn.t j
theorem relME_put {o o' : Objs} {α α' : Nat → Value} {w : World} {ok ok' : Nat → Prop} (hk : Keeps w ok w ok') (ht : Turns o α o' α') {st : Nat} {kd : D} {p q : PV} (hpq : ∀ v, p.rel o α w ok v → q.rel o' α' w ok' v) {l2 : List (Nat × D × PV)} : ∀ {l1 : List (Nat × D × PV)} {l : List MapEntry}, relME o α w ok (l1 ++ (st, kd, p) :: l2) l → relME o' α' w ok' (l1 ++ (st, kd, q) :: l2) l
  | [], l, h => by
    simp only [List.nil_append, relME] at h ⊢
    obtain ⟨m, l', e, ⟨h1, h2, h3⟩, h4⟩ := h
    exact ⟨m, l', e, ⟨h1, D.rd_keeps hk _ _ h2, hpq _ h3⟩, relME_turn hk ht _ _ h4⟩
  | y :: l1, l, h => by
    simp only [List.cons_append, relME] at h ⊢
    obtain ⟨m, l', e, ⟨h1, h2, h3⟩, h4⟩ := h
    exact ⟨m, l', e, ⟨h1, D.rd_keeps hk _ _ h2, PV.rel_turn hk ht _ _ h3⟩, relME_put hk ht hpq h4⟩
theorem Tells.move {base : Nat} {w0 : World} {X : Fr} {S : St} {a : Act} {w : World} (h : Tells E base w0 X S a w) {M K K' ver vm n : Nat} {x : Ob} {kt e' clock : Nat} {l1 l2 : List (Nat × D × PV)} {st : Nat} {kd : D} (hK : S.o K = (ver, some x)) (hM : S.o M = (vm, some (.map kt e' clock (l1 ++ (st, kd, .row K ver n) :: l2)))) (hne : K ≠ M) (hK' : (S.o K').2 = none) :
    Tells E base w0 X ⟨S.t, moveOb S.o M K K' vm x (.map kt e' clock (l1 ++ (st, kd, .row K' ((S.o K').1 + 1) n) :: l2))⟩ a w := by
  obtain ⟨α, h⟩ := h
  have hKK : K' ≠ K := fun e => by subst e; rw [hK] at hK'; cases hK'
  have hKM : K' ≠ M := fun e => by subst e; rw [hM] at hK'; cases hK'
  have hKn : (S.o K).2 ≠ none := by rw [hK]; simp
  generalize ho : moveOb S.o M K K' vm x (.map kt e' clock (l1 ++ (st, kd, .row K' ((S.o K').1 + 1) n) :: l2)) = o'
  have oK' : o' K' = ((S.o K').1 + 1, some x) := by subst ho; simp [moveOb]
  have oM : o' M = (vm, some (.map kt e' clock (l1 ++ (st, kd, .row K' ((S.o K').1 + 1) n) :: l2))) := by subst ho; simp [moveOb, Ne.symm hKM]
  have oK : o' K = (ver, none) := by subst ho; simp [moveOb, Ne.symm hKK, hne, hK]
  have oo : ∀ j, j ≠ K' → j ≠ M → j ≠ K → o' j = S.o j := fun j h1 h2 h3 => by subst ho; simp [moveOb, h1, h2, h3]
  have aK : ∀ j, j ≠ K' → hup α K' (α K) j = α j := fun j hj => hup_ne α _ hj
  have ht : Turns S.o α o' (hup α K' (α K)) := fun j v hv => by
    by_cases h1 : j = K'
    · subst h1; rw [oK']; exact ⟨by simp only; omega, fun hl => by have := hl.1; rw [oK'] at this; simp only at this; omega⟩
    · by_cases h2 : j = M
      · subst h2
        rw [hM] at hv
        rw [oM]; exact ⟨hv, fun hl => ⟨⟨by have := hl.1; rw [oM] at this; rw [hM]; exact this, by rw [hM]; simp⟩, aK _ h1⟩⟩
      · by_cases h3 : j = K
        · subst h3
          rw [hK] at hv
          rw [oK]; exact ⟨hv, fun hl => by have := hl.2; rw [oK] at this; simp at this⟩
        · rw [oo j h1 h2 h3]; exact ⟨hv, fun hl => ⟨by unfold live at hl ⊢; rw [oo j h1 h2 h3] at hl; exact hl, aK j h1⟩⟩
  have hmap : ∀ j, (o' j).2 ≠ none → ∃ k, (S.o k).2 ≠ none ∧ hup α K' (α K) j = α k ∧ (j = K' ∧ k = K ∨ j ≠ K' ∧ k = j ∧ j ≠ K) := fun j hj => by
    by_cases h1 : j = K'
    · exact ⟨K, hKn, by rw [h1, hup_same], .inl ⟨h1, rfl⟩⟩
    · have h3 : j ≠ K := fun e => by subst e; rw [oK] at hj; exact hj rfl
      refine ⟨j, ?_, aK j h1, .inr ⟨h1, rfl, h3⟩⟩
      by_cases h2 : j = M
      · subst h2; rw [hM]; simp
      · rw [← oo j h1 h2 h3]; exact hj
  have hk : Keeps w (okOf X.A S.o α) w (okOf X.A o' (hup α K' (α K))) := fun b _ hb => ⟨⟨hb.1, fun j hj => by
    obtain ⟨k, h1, h2, _⟩ := hmap j hj
    rw [h2]; exact hb.2 k h1⟩, rfl⟩
  refine ⟨hup α K' (α K), h.defers, h.size, fun k => (S.t k).rel_turn hk ht _ (h.t k), fun j y hy => ?_, fun j j' hj h1 h2 g hg => ?_, h.below, h.free, h.base, fun p v hp => PV.rel_turn hk ht _ _ (h.x p v hp)⟩
  · simp only at hy
    by_cases h1 : j = K'
    · subst h1
      rw [oK'] at hy
      simp only [Option.some.injEq] at hy
      subst hy
      rw [hup_same]
      exact Ob.rel_turn hk ht (fun _ _ => rfl) (h.o K _ (by rw [hK]))
    · rw [aK j h1]
      by_cases h2 : j = M
      · subst h2
        rw [oM] at hy
        simp only [Option.some.injEq] at hy
        subst hy
        obtain ⟨g, ents, e1, hb, hh, hr⟩ := h.o j _ (by rw [hM])
        refine ⟨g, ents, e1, hb, hh, relME_put hk ht (fun v hv => ?_) hr⟩
        simp only [PV.rel] at hv ⊢
        refine ⟨⟨hv.1.1, by rw [oK']; exact Nat.le_refl _⟩, fun _ => ?_⟩
        rw [hup_same]
        exact hv.2 ⟨by rw [hK], hKn⟩
      · by_cases h3 : j = K
        · subst h3; rw [oK] at hy; cases hy
        · rw [oo j h1 h2 h3] at hy
          exact Ob.rel_turn hk ht (fun _ _ => rfl) (h.o j y hy)
  · obtain ⟨k, q1, q2, q3⟩ := hmap j h1
    obtain ⟨k', q1', q2', q3'⟩ := hmap j' h2
    rw [q2] at hg
    rw [q2']
    exact h.inj k k' (by rintro rfl; rcases q3 with ⟨a, b⟩ | ⟨a, b, c⟩ <;> rcases q3' with ⟨a', b'⟩ | ⟨a', b', c'⟩ <;> simp_all) q1 q1' g hg
theorem Tells.ghost {S S' : St} (hg : Ghost S S') : ∀ {base : Nat} {w0 : World} {X : Fr} {a : Act} {w : World}, Tells E base w0 X S a w → Tells E base w0 X S' a w := by
  induction hg with
  | refl S => intro _ _ _ _ _ h; exact h
  | nil k K sz e hk r ih => intro _ _ _ _ _ h; exact ih (h.nil hk)
  | move M K K' ver vm n x kt e' clock l1 l2 st kd hK hM hne hK' r ih => intro _ _ _ _ _ h; exact ih (h.move hK hM hne hK')
  | drop ks r ih => intro _ _ _ _ _ h; obtain ⟨α, h⟩ := h; exact ih ⟨α, (h.drop ks).1⟩

/-! ### 17. Code -/
def thenP (next : St → Prop) (Q : PEx → St → Prop) : PEx → St → Prop
  | .normal, S => next S
  | e, S => Q e S
def inBlockP (id : Nat) (Q : PEx → St → Prop) : PEx → St → Prop
  | .exit id', S => if id' = id then Q .normal S else Q (.exit id') S
  | e, S => Q e S
def pwp (E : Env) : Code → (PEx → St → Prop) → St → Prop
  | .skip, Q, S => Q .normal S
  | .region _ ops _, Q, S => popsL E ops (List.range ops.size) S (Q .normal)
  | .seq x y, Q, S => pwp E x (thenP (pwp E y Q) Q) S
  | .cond c x y, Q, S => ∃ t, S.sv c = .d (.bool t) ∧ S.sc c ∧ (t = true → pwp E x Q S) ∧ (t = false → pwp E y Q S)
  | .block id x, Q, S => pwp E x (inBlockP id Q) S
  | .loop x, Q, S => ∃ I : Nat → St → Prop, (∃ S0, Ghost S S0 ∧ ∃ n, I n S0) ∧ ∀ n S', I n S' → pwp E x (thenP (fun S'' => ∃ S0, Ghost S'' S0 ∧ ∃ m, m < n ∧ I m S0) Q) S'
  | .exit id, Q, S => Q (.exit id) S
  | .ret, Q, S => Q .ret S
  | _, _, _ => False
def PEx.up : PEx → Exit
  | .normal => .normal
  | .exit id => .exit id
  | .ret => .ret

theorem pwp_sound (hE : EnvOk E) {base : Nat} {w0 : World} {X : Fr} : ∀ (c : Code) {Qp : PEx → St → Prop} {Q : Exit → Act → World → Prop} {S : St} {a : Act} {w : World},
    codeOk E c = true → (∀ e S' a' w', Qp e S' → Tells E base w0 X S' a' w' → Q e.up a' w') → pwp E c Qp S → Tells E base w0 X S a w → c.wp E.P Q a w
  | .skip, Qp, Q, S, a, w, hc, hQ, h, hT => wp_skip (hQ .normal S a w h hT)
  | .region id ops draw, Qp, Q, S, a, w, hc, hQ, h, hT => by
    simp only [pwp] at h
    simp only [codeOk, Bool.and_eq_true, List.all_eq_true, Bool.or_eq_true, Bool.not_eq_true'] at hc
    have hds : ∀ (i : Nat) o, ops[i]? = some o → dstOk E o = true := fun i o hi => hc.1 o (by simpa using Array.mem_of_getElem? hi)
    cases draw with
    | false => exact wp_region (popsL_sound hE hds (fun S' a' w' => hQ .normal S' a' w') h hT)
    | true =>
      refine wp_region_any hE.mixed (wpAny_of_pops hE hds (hc.2.resolve_left (by simp)) (fun S' a' w' => hQ .normal S' a' w') ops.size _ S a _ (by simp) ?_ ?_ ?_ hT.drew)
      · intro k o ho hk e he hb
        have hlt : k < ops.size := (Array.getElem?_eq_some_iff.1 ho).1
        simp [Array.getD_eq_getD_getElem?, hlt] at hk
      · unfold unl
        exact Nat.le_trans (List.length_filter_le _ _) (by simp)
      · have : unl ops.size (Array.replicate ops.size false) = List.range ops.size := by
          unfold unl
          refine List.filter_eq_self.2 fun k hk => ?_
          have hlt : k < ops.size := List.mem_range.1 hk
          simp [Array.getD_eq_getD_getElem?, hlt]
        rw [this]
        exact h
  | .seq x y, Qp, Q, S, a, w, hc, hQ, h, hT => by
    simp only [pwp] at h
    simp only [codeOk, Bool.and_eq_true] at hc
    refine wp_seq (pwp_sound hE x hc.1 (fun e S' a' w' hq hT' => ?_) h hT)
    cases e with
    | normal => exact pwp_sound hE y hc.2 hQ hq hT'
    | exit id => exact hQ (.exit id) S' a' w' hq hT'
    | ret => exact hQ .ret S' a' w' hq hT'
  | .cond c x y, Qp, Q, S, a, w, hc, hQ, h, hT => by
    simp only [pwp] at h
    simp only [codeOk, Bool.and_eq_true] at hc
    obtain ⟨t, h1, h2, h3, h4⟩ := h
    obtain ⟨α, hR⟩ := hT
    have hv := sv_rel hR c h2
    rw [h1] at hv
    simp only [PV.rel, D.rd] at hv
    refine wp_cond_split hv (fun ht => pwp_sound hE x hc.1 hQ (h3 ht) ⟨α, hR⟩) (fun ht => pwp_sound hE y hc.2 hQ (h4 ht) ⟨α, hR⟩)
  | .block id x, Qp, Q, S, a, w, hc, hQ, h, hT => by
    simp only [pwp] at h
    simp only [codeOk] at hc
    refine wp_block (pwp_sound hE x hc (fun e S' a' w' hq hT' => ?_) h hT)
    cases e with
    | normal => exact hQ .normal S' a' w' hq hT'
    | ret => exact hQ .ret S' a' w' hq hT'
    | exit id' =>
      simp only [inBlockP] at hq
      simp only [PEx.up, Exit.inBlock]
      split
      · rename_i e; rw [if_pos e] at hq; exact hQ .normal S' a' w' hq hT'
      · rename_i e; rw [if_neg e] at hq; exact hQ (.exit id') S' a' w' hq hT'
  | .loop x, Qp, Q, S, a, w, hc, hQ, h, hT => by
    simp only [pwp] at h
    simp only [codeOk] at hc
    obtain ⟨I, ⟨S0, hg, n, hI⟩, hstep⟩ := h
    have key : ∀ n S a w, I n S → Tells E base w0 X S a w → Code.rounds E.P x Q (n + 1) a w := by
      intro n
      induction n using Nat.strongRecOn with
      | _ n ih =>
        intro S a w hI hT
        rw [rounds_succ]
        refine pwp_sound hE x hc (fun e S' a' w' hq hT' => ?_) (hstep n S hI) hT
        cases e with
        | normal =>
          obtain ⟨S1, hg1, m, hm, hIm⟩ := hq
          have := ih m hm S1 a' w' hIm (hT'.ghost hg1)
          exact rounds_mono (Nat.succ_le_of_lt hm) a' w' this
        | exit id => exact hQ (.exit id) S' a' w' hq hT'
        | ret => exact hQ .ret S' a' w' hq hT'
    exact wp_loop_rounds (n + 1) (key n S0 a w hI (hT.ghost hg))
  | .exit id, Qp, Q, S, a, w, hc, hQ, h, hT => wp_exit (hQ (.exit id) S a w h hT)
  | .ret, Qp, Q, S, a, w, hc, hQ, h, hT => wp_ret (hQ .ret S a w h hT)
  | .label _, _, _, _, _, _, _, _, h, _ => by simp [pwp] at h
  | .goto _, _, _, _, _, _, _, _, h, _ => by simp [pwp] at h
  | .rangeFunc .., _, _, _, _, _, _, _, h, _ => by simp [pwp] at h
  | .scope _, _, _, _, _, _, _, _, h, _ => by simp [pwp] at h
  | .refuse _, _, _, _, _, _, _, _, h, _ => by simp [pwp] at h
end
end Go.Proofs.Ytomnjbebgfadoaa.Pi
end
section
/- Functions: results, contracts out of walks.
   Conditions: none; definitions and lemmas. -/
set_option linter.unusedVariables false
set_option linter.unusedSimpArgs false
namespace Go.Proofs.Ytomnjbebgfadoaa.Pi
open Go Go.RowKit

/-! ### 18. Results -/
def ResOk (P : Program) (tmps : Array Value) (w : World) (r : ResultVar) (v : Value) : Prop := match r with
  | .tmp t => v = tmps.getD t undef
  | .cell a t => ∃ A, tmps.getD a undef = .pointer (some A) ∧ (loadVar t A).run P w = .ok v w
def ResOks (P : Program) (tmps : Array Value) (w : World) : List ResultVar → List Value → Prop
  | [], vs => vs = []
  | r :: rs, vs => ∃ v vs', vs = v :: vs' ∧ ResOk P tmps w r v ∧ ResOks P tmps w rs vs'

theorem results_run {fn : Func} {rs : List ResultVar} (h : fn.results = rs.toArray) (hl : rs.length ≤ 3) (hq3 : rs.length = 3 → rs.all (fun r => match r with | .tmp _ => true | _ => false) = true) {tmps : Array Value} {P : Program} {w : World} {vs : List Value} (hv : ResOks P tmps w rs vs) : (results fn tmps).run P w = .ok (packV vs) w := by
  match rs, hl, hq3, hv with
  | [], _, _, hv => simp only [ResOks] at hv; subst hv; simp [results, h, packV]
  | [r], _, _, hv =>
    simp only [ResOks] at hv
    obtain ⟨v, vs', rfl, h1, rfl⟩ := hv
    cases r with
    | tmp t => simp only [ResOk] at h1; simp [results, h, packV, h1]
    | cell a t => simp only [ResOk] at h1; obtain ⟨A, e1, e2⟩ := h1; simp [results, h, packV, ← Array.getD_eq_getD_getElem?, e1, e2, asAddr]
  | [r, r'], _, _, hv =>
    simp only [ResOks] at hv
    obtain ⟨v, vs', rfl, h1, v', vs'', rfl, h2, rfl⟩ := hv
    cases r with
    | tmp t =>
      cases r' with
      | tmp t' => simp only [ResOk] at h1 h2; simp [results, h, packV, h1, h2]
      | cell a' t' => simp only [ResOk] at h1 h2; obtain ⟨A', e1', e2'⟩ := h2; simp [results, h, packV, ← Array.getD_eq_getD_getElem?, h1, e1', e2', asAddr]
    | cell a t =>
      simp only [ResOk] at h1
      obtain ⟨A, e1, e2⟩ := h1
      cases r' with
      | tmp t' => simp only [ResOk] at h2; simp [results, h, packV, ← Array.getD_eq_getD_getElem?, h2, e1, e2, asAddr]
      | cell a' t' => simp only [ResOk] at h2; obtain ⟨A', e1', e2'⟩ := h2; simp [results, h, packV, ← Array.getD_eq_getD_getElem?, e1, e2, e1', e2', asAddr]
  | [r, r', r''], _, hq3, hv =>
    simp only [ResOks] at hv
    obtain ⟨v, vs', rfl, h1, v', vs'', rfl, h2, v3, vs3, rfl, h3, rfl⟩ := hv
    cases r with
    | tmp t =>
      cases r' with
      | tmp t' =>
        cases r'' with
        | tmp t'' => simp only [ResOk] at h1 h2 h3; simp [results, h, packV, h1, h2, h3]
        | cell a'' t'' => simp at hq3
      | cell a' t' => simp at hq3
    | cell a t => simp at hq3
  | _ :: _ :: _ :: _ :: _, hl, _, _ => simp at hl

def resP (E : Env) (S : St) : ResultVar → Option (Prop × PV)
  | .tmp t => some (S.sc (.tmp t), S.sv (.tmp t))
  | .cell a t => (loadV E S t (S.sv (.tmp a))).map fun r => (S.sc (.tmp a) ∧ r.1, r.2)
def resPs (E : Env) (S : St) : List ResultVar → Option (Prop × List PV)
  | [] => some (True, [])
  | r :: rs => (resP E S r).bind fun x => (resPs E S rs).map fun y => (x.1 ∧ y.1, x.2 :: y.2)

section
variable {E : Env} {N base : Nat} {w0 : World} {X : Fr} {S : St} {α : Nat → Value} {a : Act} {w : World}
theorem loadV_ptr (h : Rel N base w0 X S α a w) {t : Nat} {q p : PV} {c : Prop} (hq : loadV E S t q = some (c, p)) {v : Value} (hv : q.rel S.o α w (okOf X.A S.o α) v) : ∃ A, v = .pointer (some A) := by
  unfold loadV at hq
  split at hq
  · simp only [PV.rel, D.rd] at hv
    obtain ⟨b, o, rfl, _⟩ := hv
    exact ⟨_, rfl⟩
  · simp only [PV.rel] at hv
    split at hq
    · rename_i hob
      obtain ⟨g, _, rfl⟩ := hv.2 (obj_some hob).1
      exact ⟨_, rfl⟩
    · rename_i hob
      obtain ⟨g, _, rfl⟩ := hv.2 (obj_some hob).1
      exact ⟨_, rfl⟩
    · rename_i hob
      obtain ⟨g, _, rfl⟩ := hv.2 (obj_some hob).1
      exact ⟨_, rfl⟩
    · cases hq
  · cases hq
theorem resP_sound (hE : EnvOk E) (h : Rel N base w0 X S α a w) {r : ResultVar} {c : Prop} {p : PV} (hr : resP E S r = some (c, p)) (hc : c) : ∃ u, ResOk E.P a.tmps w r u ∧ p.rel S.o α w (okOf X.A S.o α) u := by
  cases r with
  | tmp t =>
    simp only [resP, Option.some.injEq, Prod.mk.injEq] at hr
    obtain ⟨rfl, rfl⟩ := hr
    refine ⟨_, rfl, ?_⟩
    have := sv_rel h (.tmp t) hc
    simpa [Act.eval] using this
  | cell b t =>
    simp only [resP] at hr
    obtain ⟨⟨c1, p1⟩, h1, h2⟩ := Option.map_eq_some_iff.1 hr
    simp only [Prod.mk.injEq] at h2
    obtain ⟨rfl, rfl⟩ := h2
    have hv := sv_rel h (.tmp b) hc.1
    obtain ⟨A, hA⟩ := loadV_ptr h h1 hv
    obtain ⟨u, hu, hrel⟩ := run_loadV hE h h1 hc.2 hv
    have hA' : a.tmps.getD b undef = .pointer (some A) := by simpa [Act.eval] using hA
    refine ⟨u, ⟨A, hA', ?_⟩, hrel⟩
    rw [hA] at hu
    simpa [Instr.loadAt, Instr.sureAddr] using hu
theorem resPs_sound (hE : EnvOk E) (h : Rel N base w0 X S α a w) : ∀ {rs : List ResultVar} {c : Prop} {ps : List PV}, resPs E S rs = some (c, ps) → c → ∃ us, ResOks E.P a.tmps w rs us ∧ PV.rels S.o α w (okOf X.A S.o α) ps us
  | [], c, ps, hr, hc => by
    simp only [resPs, Option.some.injEq, Prod.mk.injEq] at hr
    obtain ⟨rfl, rfl⟩ := hr
    exact ⟨[], by simp [ResOks], by simp [PV.rels]⟩
  | r :: rs, c, ps, hr, hc => by
    simp only [resPs] at hr
    obtain ⟨⟨c1, p1⟩, h1, hr⟩ := Option.bind_eq_some_iff.1 hr
    obtain ⟨⟨c2, ps2⟩, h2, h3⟩ := Option.map_eq_some_iff.1 hr
    simp only [Prod.mk.injEq] at h3
    obtain ⟨rfl, rfl⟩ := h3
    obtain ⟨u, hu, hur⟩ := resP_sound hE h h1 hc.1
    obtain ⟨us, hus, husr⟩ := resPs_sound hE h h2 hc.2
    exact ⟨u :: us, by simp only [ResOks]; exact ⟨u, us, rfl, hu, hus⟩, by simp only [PV.rels]; exact ⟨u, us, rfl, hur, husr⟩⟩
end

/-- How a result is told: data, or a row of the caller's own from now on. -/
inductive RM where
  | data (t : Nat)
  | own (e : Nat)
def rvOf (E : Env) (S : St) (m : RM) (p : PV) : Option RV := match m with
  | .data t => (snapV E S t p).map .d
  | .own e => match p with
    | .row K ver _ => match S.obj K ver with
      | some (.row sz e' xs) => if e' = e then some (.own sz e xs) else none
      | _ => none
    | .nils => (E.ty e).map fun te => .own te.size e []
    | _ => none
def rvsOf (E : Env) (S : St) : List RM → List PV → Option (List RV)
  | [], [] => some []
  | m :: ms, p :: ps => (rvOf E S m p).bind fun r => (rvsOf E S ms ps).map (r :: ·)
  | _, _ => none
def ownKs : List RM → List PV → List Nat
  | .own _ :: ms, .row K _ _ :: ps => K :: ownKs ms ps
  | _ :: ms, _ :: ps => ownKs ms ps
  | _, _ => []
def dataKs (S : St) : List RM → List PV → List Nat
  | .data _ :: ms, p :: ps => keysV S p ++ dataKs S ms ps
  | .own _ :: ms, _ :: ps => dataKs S ms ps
  | _, _ => []
def nodupB : List Nat → Bool
  | [] => true
  | x :: xs => !xs.contains x && nodupB xs
theorem nodupB_spec : ∀ {l : List Nat}, nodupB l = true → l.Nodup
  | [], _ => List.nodup_nil
  | x :: xs, h => by
    simp only [nodupB, Bool.and_eq_true, Bool.not_eq_true', List.contains_eq_mem, decide_eq_false_iff_not] at h
    exact List.nodup_cons.2 ⟨h.1, nodupB_spec h.2⟩
def sepB (S : St) (ms : List RM) (ps : List PV) : Bool := nodupB (ownKs ms ps) && (ownKs ms ps).all fun k => !(dataKs S ms ps).contains k
def outRes (E : Env) (ms : List RM) (rs : List ResultVar) (post : List RV → Prop) (S : St) : Prop :=
  ∃ x, resPs E S rs = some x ∧ x.1 ∧ ∃ rvs, rvsOf E S ms x.2 = some rvs ∧ sepB S ms x.2 = true ∧ post rvs

section
variable {E : Env} {N base : Nat} {w0 : World} {X : Fr} {S : St} {α : Nat → Value} {a : Act} {w : World}

theorem rels_cons {o : Objs} {α : Nat → Value} {w : World} {ok : Nat → Prop} {p : PV} {ps : List PV} {us : List Value} (h : PV.rels o α w ok (p :: ps) us) : ∃ u us', us = u :: us' ∧ p.rel o α w ok u ∧ PV.rels o α w ok ps us' := by
  simpa only [PV.rels] using h

/-- The blocks of own results are those of live objects. -/
theorem ownBlks_keys (h : Rel N base w0 X S α a w) : ∀ {ms : List RM} {ps : List PV} {rvs : List RV} {us : List Value}, rvsOf E S ms ps = some rvs → PV.rels S.o α w (okOf X.A S.o α) ps us → ∀ b ∈ ownBlks rvs us, ∃ K ∈ ownKs ms ps, (S.o K).2 ≠ none ∧ hblk (α K) = some b
  | [], [], rvs, us, hr, hu, b, hb => by
    simp only [rvsOf, Option.some.injEq] at hr; subst hr
    simp [ownBlks] at hb
  | [], _ :: _, rvs, us, hr, hu, b, hb => by simp [rvsOf] at hr
  | _ :: _, [], rvs, us, hr, hu, b, hb => by simp [rvsOf] at hr
  | m :: ms, p :: ps, rvs, us, hr, hu, b, hb => by
    simp only [rvsOf] at hr
    obtain ⟨r, h1, hr⟩ := Option.bind_eq_some_iff.1 hr
    obtain ⟨rs, h2, rfl⟩ := Option.map_eq_some_iff.1 hr
    obtain ⟨u, us', rfl, hu1, hu2⟩ := rels_cons hu
    have ih := ownBlks_keys h h2 hu2
    have lift : (∃ K ∈ ownKs ms ps, (S.o K).2 ≠ none ∧ hblk (α K) = some b) → ∃ K ∈ ownKs (m :: ms) (p :: ps), (S.o K).2 ≠ none ∧ hblk (α K) = some b := by
      rintro ⟨K, hK, hx⟩
      refine ⟨K, ?_, hx⟩
      unfold ownKs
      split
      · rename_i e1 e2; simp only [List.cons.injEq] at e1 e2; obtain ⟨_, rfl⟩ := e1; obtain ⟨_, rfl⟩ := e2; simp [hK]
      · rename_i e1 e2; simp only [List.cons.injEq] at e1 e2; obtain ⟨_, rfl⟩ := e1; obtain ⟨_, rfl⟩ := e2; exact hK
      · rename_i hn; exact absurd rfl (hn _ _ _ _ rfl)
    cases r with
    | d x => simp only [ownBlks] at hb; exact lift (ih b hb)
    | own sz e xs =>
      simp only [ownBlks, List.mem_append] at hb
      rcases hb with hb | hb
      · cases m with
        | data t => simp only [rvOf] at h1; obtain ⟨_, _, h3⟩ := Option.map_eq_some_iff.1 h1; cases h3
        | own e' =>
          simp only [rvOf] at h1
          split at h1
          · rename_i K ver n
            split at h1
            · rename_i sz' e'' xs' hob
              obtain ⟨hl, hx⟩ := obj_some hob
              simp only [PV.rel] at hu1
              have := hu1.2 hl
              subst this
              refine ⟨K, by simp [ownKs], by rw [hx]; simp, ?_⟩
              cases hg : hblk (α K) with
              | none => rw [hg] at hb; simp at hb
              | some g => rw [hg] at hb; simp at hb; rw [hb]
            · cases h1
          · simp only [PV.rel] at hu1
            subst hu1
            simp [hblk] at hb
          · cases h1
      · exact lift (ih b hb)
theorem ownBlks_nodup (h : Rel N base w0 X S α a w) : ∀ {ms : List RM} {ps : List PV} {rvs : List RV} {us : List Value}, rvsOf E S ms ps = some rvs → PV.rels S.o α w (okOf X.A S.o α) ps us → (ownKs ms ps).Nodup → (ownBlks rvs us).Nodup
  | [], [], rvs, us, hr, hu, hn => by
    simp only [rvsOf, Option.some.injEq] at hr; subst hr
    simp [ownBlks]
  | [], _ :: _, rvs, us, hr, hu, hn => by simp [rvsOf] at hr
  | _ :: _, [], rvs, us, hr, hu, hn => by simp [rvsOf] at hr
  | m :: ms, p :: ps, rvs, us, hr, hu, hn => by
    simp only [rvsOf] at hr
    obtain ⟨r, h1, hr⟩ := Option.bind_eq_some_iff.1 hr
    obtain ⟨rs, h2, rfl⟩ := Option.map_eq_some_iff.1 hr
    obtain ⟨u, us', rfl, hu1, hu2⟩ := rels_cons hu
    have hks := ownBlks_keys h h2 hu2
    have hn' : (ownKs ms ps).Nodup := by
      unfold ownKs at hn
      split at hn
      · rename_i e1 e2; simp only [List.cons.injEq] at e1 e2; obtain ⟨_, rfl⟩ := e1; obtain ⟨_, rfl⟩ := e2; exact (List.nodup_cons.1 hn).2
      · rename_i e1 e2; simp only [List.cons.injEq] at e1 e2; obtain ⟨_, rfl⟩ := e1; obtain ⟨_, rfl⟩ := e2; exact hn
      · rename_i hn'; exact absurd rfl (hn' _ _ _ _ rfl)
    have ih := ownBlks_nodup h h2 hu2 hn'
    cases r with
    | d x => simpa only [ownBlks] using ih
    | own sz e xs =>
      simp only [ownBlks]
      cases m with
      | data t => simp only [rvOf] at h1; obtain ⟨_, _, h3⟩ := Option.map_eq_some_iff.1 h1; cases h3
      | own e' =>
        simp only [rvOf] at h1
        split at h1
        · rename_i K ver n
          split at h1
          · rename_i sz' e'' xs' hob
            obtain ⟨hl, hx⟩ := obj_some hob
            simp only [PV.rel] at hu1
            have := hu1.2 hl
            subst this
            simp only [ownKs, List.nodup_cons] at hn
            cases hg : hblk (α K) with
            | none => simpa using ih
            | some g =>
              simp only [Option.toList_some, List.singleton_append, List.nodup_cons]
              refine ⟨fun hm => ?_, ih⟩
              obtain ⟨K', hK', hl', hb'⟩ := hks g hm
              have hne : K ≠ K' := fun e => hn.1 (e ▸ hK')
              exact h.inj K K' hne (by rw [hx]; simp) hl' g hg hb'
          · cases h1
        · simp only [PV.rel] at hu1
          subst hu1
          simpa [hblk] using ih
        · cases h1
theorem rvs_rels (hE : EnvOk E) (h : Rel N base w0 X S α a w) {ok : Nat → Prop} (hok : ∀ b, okOf X.A S.o α b → ok b) : ∀ {ms : List RM} {ps : List PV} {rvs : List RV} {us : List Value}, rvsOf E S ms ps = some rvs → PV.rels S.o α w (okOf X.A S.o α) ps us →
    (∀ K ∈ dataKs S ms ps, (S.o K).2 ≠ none → ∀ g, hblk (α K) = some g → ok g) → RV.rels w ok base rvs us
  | [], [], rvs, us, hr, hu, hd => by
    simp only [rvsOf, Option.some.injEq] at hr; subst hr
    simpa only [PV.rels, RV.rels] using hu
  | [], _ :: _, rvs, us, hr, hu, hd => by simp [rvsOf] at hr
  | _ :: _, [], rvs, us, hr, hu, hd => by simp [rvsOf] at hr
  | m :: ms, p :: ps, rvs, us, hr, hu, hd => by
    simp only [rvsOf] at hr
    obtain ⟨r, h1, hr⟩ := Option.bind_eq_some_iff.1 hr
    obtain ⟨rs, h2, rfl⟩ := Option.map_eq_some_iff.1 hr
    obtain ⟨u, us', rfl, hu1, hu2⟩ := rels_cons hu
    have hk : Keeps w (okOf X.A S.o α) w ok := fun b _ hb => ⟨hok b hb, rfl⟩
    simp only [RV.rels]
    cases m with
    | data t =>
      simp only [dataKs, List.mem_append] at hd
      refine ⟨u, us', rfl, ?_, rvs_rels hE h hok h2 hu2 fun K hK => hd K (.inr hK)⟩
      simp only [rvOf] at h1
      obtain ⟨d, h3, rfl⟩ := Option.map_eq_some_iff.1 h1
      simp only [RV.rel]
      exact snapV_sound h h3 ⟨hok, fun K hK => hd K (.inl hK)⟩ hu1
    | own e =>
      simp only [dataKs] at hd
      refine ⟨u, us', rfl, ?_, rvs_rels hE h hok h2 hu2 hd⟩
      simp only [rvOf] at h1
      split at h1
      · rename_i K ver n
        split at h1
        · rename_i sz e' xs hob
          split at h1
          · rename_i e; subst e
            simp only [Option.some.injEq] at h1
            subst h1
            obtain ⟨hl, hx⟩ := obj_some hob
            simp only [PV.rel] at hu1
            have := hu1.2 hl
            subst this
            obtain ⟨vals, h3, h4, h5, h6⟩ := h.o K _ hx
            exact ⟨vals, h3, h4, rdVals_keeps hk _ _ h5, h6⟩
          · cases h1
        · cases h1
      · obtain ⟨te, hte, rfl⟩ := Option.map_eq_some_iff.1 h1
        simp only [PV.rel] at hu1
        subst hu1
        exact ⟨[], ⟨by simp, .inl ⟨rfl, rfl⟩⟩, by simp, by simp [rdVals], by simp⟩
      · cases h1
end

/-! ### 19. Contracts out of walks -/
def startP (ps : List PV) (o : Objs) : St := ⟨fun k => ps.getD k .un, o⟩
def noObs : Objs := fun _ => (0, none)
/-- How a function's walk ends. -/
def endP (Q : St → Prop) : PEx → St → Prop
  | .ret, S => Q S
  | .normal, S => Q S
  | .exit _, _ => False

theorem start_rel {o : Objs} {α : Nat → Value} {w : World} {ok : Nat → Prop} {ps : List PV} {vs : List Value} (h : PV.rels o α w ok ps vs) (n : Nat) (k : Nat) : (ps.getD k .un).rel o α w ok ((vs.toArray ++ Array.replicate n undef).getD k undef) := by
  by_cases hk : k < ps.length
  · have hp : ps[k]? = some ps[k] := List.getElem?_eq_getElem hk
    obtain ⟨v, hv, hr⟩ := PV.rels_get h k _ hp
    have hl := PV.rels_length h
    have e1 : ps.getD k .un = ps[k] := by simp [hk]
    have e2 : (vs.toArray ++ Array.replicate n undef).getD k undef = v := by
      have : k < vs.length := by omega
      have hv' : vs[k] = v := by rw [List.getElem?_eq_getElem this] at hv; simpa using hv
      simp [Array.getD_eq_getD_getElem?, Array.getElem?_append, this, hv']
    rw [e1, e2]
    exact hr
  · have : ps.getD k .un = .un := by simp [List.getElem?_eq_none (Nat.le_of_not_lt hk)]
    rw [this]
    simp only [PV.rel]

theorem con_of_pwp {E : Env} (hE : EnvOk E) {f : Nat} {fn : Func} {c : Code} (hf : E.P.funcs[f]? = some fn) (hb : fn.body = some c) (hn : E.n ≤ fn.ntmps) (hco : codeOk E c = true) {con : Con} {rs : List ResultVar} (hrs : fn.results = rs.toArray) (hl : rs.length ≤ 3)
    (hq3 : rs.length = 3 → rs.all (fun r => match r with | .tmp _ => true | _ => false) = true) (ms : List RM)
    (hsome : ∀ ds, con.pre ds → ∃ r, con.post ds r) (hflat : con.flat = true → ∀ ds r, con.post ds r → ∀ x ∈ r, RV.flat x = true)
    (h : ∀ ds, con.pre ds → pwp E c (endP (outRes E ms rs (con.post ds))) (startP (ds.map .d) noObs)) : ConOk E.P f con := by
  refine ⟨hsome, hflat, fun ds hpre w ok vs hv => calls_of_wp hf hb ?_⟩
  have hT : Tells E w.heap.size w ⟨fun _ _ => False, fun b => ok b ∨ w.heap.size ≤ b⟩ (startP (ds.map .d) noObs) { tmps := vs.toArray ++ Array.replicate (fn.ntmps - vs.toArray.size) undef, defers := [] } w := by
    refine ⟨fun _ => undef, rfl, ?_, fun k => ?_, fun K x hx => by simp [startP, noObs] at hx, fun K K' _ hK => by simp [startP, noObs] at hK, Below.refl _ _, fun b hb => .inr hb, Nat.le_refl _, fun p v hp => hp.elim⟩
    · simp only [Array.size_append, Array.size_replicate]; omega
    · refine start_rel (rels_of_rdVals (rdVals_keeps (fun b _ hb => ⟨⟨.inl hb, fun K hK => by simp [startP, noObs] at hK⟩, rfl⟩) _ _ hv)) _ k
  refine pwp_sound hE c hco (fun e S' a' w' hq hT' => ?_) (h ds hpre) hT
  have main : outRes E ms rs (con.post ds) S' → a'.defers = [] ∧ ∃ v, (results fn a'.tmps).run E.P w' = .ok v w' ∧ ∃ rs us, con.post ds rs ∧ Ending.returned v = .returned (packV us) ∧ Below w.heap.size w w' ∧ (ownBlks rs us).Nodup ∧
      RV.rels w' (fun b => (ok b ∨ w.heap.size ≤ b) ∧ b ∉ ownBlks rs us) w.heap.size rs us := by
    rintro ⟨⟨cc, ps⟩, h1, h2, rvs, h3, h4, h5⟩
    obtain ⟨α, hR⟩ := hT'
    obtain ⟨us, hus, hrel⟩ := resPs_sound hE hR h1 h2
    simp only [sepB, Bool.and_eq_true, List.all_eq_true, Bool.not_eq_true', List.contains_eq_mem, decide_eq_false_iff_not] at h4
    have hkeys := ownBlks_keys hR h3 hrel
    refine ⟨hR.defers, _, results_run hrs hl hq3 hus, rvs, us, h5, rfl, hR.below, ownBlks_nodup hR h3 hrel (nodupB_spec h4.1), ?_⟩
    refine rvs_rels (ok := fun b => (ok b ∨ w.heap.size ≤ b) ∧ b ∉ ownBlks rvs us) hE hR (fun b hb => ⟨hb.1, fun hm => ?_⟩) h3 hrel (fun K hK hKl g hg => ⟨?_, fun hm => ?_⟩)
    · obtain ⟨K, hK, hKl, hg⟩ := hkeys b hm
      exact hb.2 K hKl hg
    · cases hx : (S'.o K).2 with
      | none => exact absurd hx hKl
      | some x => exact .inr (Ob.rel_lt (hR.o K x hx) g hg).1
    · obtain ⟨K', hK', hKl', hg'⟩ := hkeys g hm
      have hne : K ≠ K' := fun e => h4.2 K' hK' (e ▸ hK)
      exact hR.inj K K' hne hKl hKl' g hg hg'
  cases e with
  | normal => exact main hq
  | ret => exact main hq
  | exit id => exact hq.elim

theorem icon_of_pwp {E : Env} (hE : EnvOk E) {f : Nat} {fn : Func} {c : Code} (hf : E.P.funcs[f]? = some fn) (hb : fn.body = some c) (hn : E.n ≤ fn.ntmps) (hco : codeOk E c = true) {con : ICon} {rs : List ResultVar} (hrs : fn.results = rs.toArray) (hl : rs.length ≤ 3)
    (hq3 : rs.length = 3 → rs.all (fun r => match r with | .tmp _ => true | _ => false) = true)
    (hsome : ∀ o ps, con.pre o ps → ∃ o' p, con.post o ps o' p)
    (h : ∀ o ps, con.pre o ps → pwp E c (endP fun S => ∃ x, resPs E S rs = some x ∧ x.1 ∧ con.post o ps S.o (packP x.2)) (startP ps o)) : IConOk E.P f con := by
  refine ⟨hsome, fun base w0 X o α w ps vs hpre hO hv => calls_of_wp hf hb ?_⟩
  have hT : Tells E base w0 X (startP ps o) { tmps := vs.toArray ++ Array.replicate (fn.ntmps - vs.toArray.size) undef, defers := [] } w := by
    refine ⟨α, rfl, ?_, fun k => start_rel hv _ k, hO.obs, hO.inj, hO.below, hO.free, hO.base, hO.x⟩
    simp only [Array.size_append, Array.size_replicate]; omega
  refine pwp_sound hE c hco (fun e S' a' w' hq hT' => ?_) (h o ps hpre) hT
  have main : (∃ x, resPs E S' rs = some x ∧ x.1 ∧ con.post o ps S'.o (packP x.2)) → a'.defers = [] ∧ ∃ v, (results fn a'.tmps).run E.P w' = .ok v w' ∧ ∃ o' α' p u, con.post o ps o' p ∧ Ending.returned v = .returned u ∧ RelO base w0 X o' α' w' ∧ p.rel o' α' w' (okOf X.A o' α') u := by
    rintro ⟨⟨cc, qs⟩, h1, h2, h3⟩
    obtain ⟨α', hR⟩ := hT'
    obtain ⟨us, hus, hrel⟩ := resPs_sound hE hR h1 h2
    exact ⟨hR.defers, _, results_run hrs hl hq3 hus, S'.o, α', _, _, h3, rfl, hR.toO, pack_rel hrel⟩
  cases e with
  | normal => exact main hq
  | ret => exact main hq
  | exit id => exact hq.elim

/-! ### 20. Contracts gathered -/
def Env.at (E : Env) (n : Nat) (own : Nat → Bool) (key : Nat → Nat) (fact : Nat → Bool) : Env := { E with n := n, own := own, key := key, fact := fact }
theorem EnvOk.at {E : Env} (h : EnvOk E) (n : Nat) (own : Nat → Bool) (key : Nat → Nat) (fact : Nat → Bool) : EnvOk (E.at n own key fact) := ⟨h.ty, h.con, h.icon, h.mixed⟩
def Env.add (E : Env) (f : Nat) (c : Con) : Env := { E with con := fun g => if g = f then some c else E.con g }
theorem EnvOk.add {E : Env} (h : EnvOk E) {f : Nat} {c : Con} {fn : Func} (hf : E.P.funcs[f]? = some fn) (hb : fn.body.isNone = false) (hm : (fn.name == "runtime.NumGoroutine") = false) (hc : ConOk E.P f c) : EnvOk (E.add f c) := by
  refine ⟨h.ty, fun g c' hg => ?_, h.icon, h.mixed⟩
  simp only [Env.add] at hg
  split at hg
  · rename_i e; subst e
    simp only [Option.some.injEq] at hg
    subst hg
    exact ⟨⟨fn, hf, hb, hm⟩, hc⟩
  · exact h.con g c' hg
def Env.iadd (E : Env) (f : Nat) (c : ICon) : Env := { E with icon := fun g => if g = f then some c else E.icon g }
theorem EnvOk.iadd {E : Env} (h : EnvOk E) {f : Nat} {c : ICon} {fn : Func} (hf : E.P.funcs[f]? = some fn) (hb : fn.body.isNone = false) (hm : (fn.name == "runtime.NumGoroutine") = false) (hc : IConOk E.P f c) : EnvOk (E.iadd f c) := by
  refine ⟨h.ty, h.con, fun g c' hg => ?_, h.mixed⟩
  simp only [Env.iadd] at hg
  split at hg
  · rename_i e; subst e
    simp only [Option.some.injEq] at hg
    subst hg
    exact .inl ⟨⟨fn, hf, hb, hm⟩, hc⟩
  · exact h.icon g c' hg
theorem EnvOk.xadd {E : Env} (h : EnvOk E) {f : Nat} {c : ICon} (hc : IExtOk E.P f c) : EnvOk (E.iadd f c) := by
  refine ⟨h.ty, h.con, fun g c' hg => ?_, h.mixed⟩
  simp only [Env.iadd] at hg
  split at hg
  · rename_i e; subst e
    simp only [Option.some.injEq] at hg
    subst hg
    exact .inr hc
  · exact h.icon g c' hg
end Go.Proofs.Ytomnjbebgfadoaa.Pi
end
