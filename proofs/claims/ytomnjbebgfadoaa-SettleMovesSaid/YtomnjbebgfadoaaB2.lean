/- The grants of a day.
   Conditions: none; lemmas. -/
import Derived.Test.YtomnjbebgfadoaaB1
set_option linter.unusedVariables false
set_option linter.unusedSimpArgs false
namespace Go.Proofs.Ytomnjbebgfadoaa.Pi
open Go Go.RowKit Go.Proofs
set_option maxHeartbeats 4000000
set_option pp.maxSteps 2000
set_option pp.deepTerms.threshold 12
theorem reachG_in (pl : List Place) : ∀ (k : Nat) (p : Int) (out : List Int), (∀ x ∈ out, 0 ≤ x ∧ x < (pl.length : Int)) → ∀ x ∈ reachG pl k p out, 0 ≤ x ∧ x < (pl.length : Int)
  | 0, p, out, h, x, hx => h x hx
  | k + 1, p, out, h, x, hx => by
    rw [reachG] at hx
    split at hx
    · rename_i hc
      have h' : ∀ y ∈ out ++ [p], 0 ≤ y ∧ y < (pl.length : Int) := by
        intro y hy
        rcases List.mem_append.1 hy with hy | hy
        · exact h y hy
        · simp only [List.mem_singleton] at hy; subst hy; exact ⟨hc.1, hc.2.1⟩
      split at hx
      · exact h' x hx
      · exact reachG_in pl k _ _ h' x hx
    · exact h x hx
theorem reach_in (pl : List Place) (p : Int) : ∀ x ∈ reachF pl p, 0 ≤ x ∧ x < (pl.length : Int) := reachG_in pl _ _ _ (by simp)
def addAt (s : Int) (left : List Int) (q : Int) : List Int := left.set q.toNat (addF (left.getD q.toNat 0) s)
def subAt (n : Int) (left : List Int) (q : Int) : List Int := left.set q.toNat (IntKind.i64.wrap (left.getD q.toNat 0 - n))
def dayFill (pl : List Place) (sup left : List Int) (p : Nat) : List Int := if p < sup.length ∧ 0 ≤ sup.getD p 0 then (reachF pl p).foldl (addAt (sup.getD p 0)) left else left
def dayLeft (pl : List Place) (sup : List Int) : Nat → List Int
  | 0 => List.replicate pl.length 0
  | i + 1 => dayFill pl sup (dayLeft pl sup i) i
def dayGrant (pl : List Place) (left : List Int) (r : Claim) : Int := if reachF pl r.Place = [] then 0 else if 0 < leastF left r.Rate (reachF pl r.Place) then leastF left r.Rate (reachF pl r.Place) else 0
def dayStep (pl : List Place) (s : List Grant × List Int) (r : Claim) : List Grant × List Int := (s.1 ++ [⟨r.Id, dayGrant pl s.2 r⟩], (reachF pl r.Place).foldl (subAt (dayGrant pl s.2 r)) s.2)
def dayF (pl : List Place) (roster : List Claim) (sup : List Int) : List Grant × List Int := roster.foldl (dayStep pl) ([], dayLeft pl sup pl.length)
theorem foldl_len {α : Type} (f : List Int → α → List Int) (hf : ∀ l q, (f l q).length = l.length) : ∀ (qs : List α) (l : List Int), (qs.foldl f l).length = l.length
  | [], l => rfl
  | q :: qs, l => by rw [List.foldl_cons, foldl_len f hf qs, hf]
theorem addAt_len (s : Int) (l : List Int) (q : Int) : (addAt s l q).length = l.length := by simp [addAt]
theorem subAt_len (s : Int) (l : List Int) (q : Int) : (subAt s l q).length = l.length := by simp [subAt]
theorem dayLeft_len (pl : List Place) (sup : List Int) : ∀ i, (dayLeft pl sup i).length = pl.length
  | 0 => by simp [dayLeft]
  | i + 1 => by
    rw [dayLeft, dayFill]
    split
    · rw [foldl_len _ (addAt_len _), dayLeft_len]
    · exact dayLeft_len pl sup i
theorem irep (n : Nat) : List.replicate n ([.int .i64 0] : List D) = (List.replicate n (0 : Int)).map irow := by simp [irow]
theorem iset (l : List Int) (i : Nat) (x : Int) : (l.map irow).set i [.int .i64 x] = (l.set i x).map irow := by rw [List.map_set]; rfl
theorem lit1g (te : TI) (a b : Int) (h : te.size = 2) (hz : te.zero = [.int .i64 0, .int .i64 0]) : litRows te 1 [(0, .d (.agg [.int .i64 a, .int .i64 b]))] = some [[.int .i64 a, .int .i64 b]] := by
  simp [litRows, elemsFI, fillP, dcells, dcell, chunk, cellsP, h, hz, List.range_succ, List.replicate_succ, zpv]
abbrev cDay : Cod (Basin × List Claim × List Int) := codC Basin.d (dAgg Basin.of) Basin.diff (codC (fun l => .lst 9 (l.map Claim.row)) (dLst 9 Claim.of) (fun _ _ => dLst_iff Claim.iff) (cod1 (fun l => .lst 1 (l.map irow)) (dLst 1 iof) (fun _ _ => dLst_iff iof_iff)))
abbrev con11 : Con := .of cDay (fun a => a.1.Places.length ≤ 1000000 ∧ a.2.1.length ≤ 1000000) (fun a rs => rs = [.d (.lst 2 ((dayF a.1.Places a.2.1 a.2.2).1.map Grant.row)), .d (.lst 1 ((dayF a.1.Places a.2.1 a.2.2).2.map irow))]) false
noncomputable def E11 : Env := (((E0.add 21 con21).add 22 con22).add 23 con23).at 105 (fun d => false) (fun d => d) (fun d => true)
theorem E11_ok : EnvOk E11 := (((E0_ok.add Try.func21 rfl rfl ok21).add Try.func22 rfl rfl ok22).add Try.func23 rfl rfl ok23).at _ _ _ _
theorem E11_r : E11.ty = E0.ty ∧ (E11.con 21 = some con21 ∧ E11.icon 21 = none) ∧ (E11.con 22 = some con22 ∧ E11.icon 22 = none) ∧ (E11.con 23 = some con23 ∧ E11.icon 23 = none) ∧ E11.own 100 = false ∧ E11.own 22 = false ∧ E11.fact 21 = true ∧ E11.fact 25 = true ∧ E11.fact 31 = true ∧ E11.fact 43 = true ∧ E11.fact 63 = true ∧ E11.fact 79 = true ∧ E11.fact 82 = true ∧ (∀ d, E11.key d = d) := ⟨rfl, ⟨rfl, rfl⟩, ⟨rfl, rfl⟩, ⟨rfl, rfl⟩, rfl, rfl, rfl, rfl, rfl, rfl, rfl, rfl, rfl, fun _ => rfl⟩

set_option maxRecDepth 20000 in
theorem ok11 : ConOk Try.prog 11 con11 := by
  refine con_of (E := E11) E11_ok (fn := Try.f11) Try.func11 rfl (by decide) (by kernel_rfl) (rs := [.tmp 6, .tmp 7]) rfl (by decide) (by decide) [.data 37, .data 29]  (fun _ _ => ⟨_, rfl⟩) (by simp) ?_
  rintro ⟨b, ro, sup⟩ ⟨hb1, hb2⟩
  simp only at hb1 hb2
  simp (maxSteps := 1000000) only [startP_eq, startL, List.map_cons, List.map_nil, run_skip, run_region, run_seq, run_cond, run_block, run_exit, run_ret, run_loop, opsK_nil, opsK_op, seqK_normal, seqK_exit, seqK_ret, blkK_normal, blkK_exit, blkK_ret, loopK_normal, loopK_exit, loopK_ret, endP_ret, endP_normal, condK_bool, condK_opt, upd_apply, after_some, after_none, ev_tmp, ev_int, ev_bool, ev_str, ev_nils, ev_func, St.sv, St.sc, strip, stripC, argsC, pK_none, pK_some, gpK_some, pmap_some, gK, gB_bool, gB_opt, op_move, op_assign, op_gmove, op_gassign, on_pick, on_bin, op_un, op_conv, op_ext, op_load, op_fa, op_f, op_ia, op_i, op_build, on_gpick, on_gbin, op_gun, op_gconv, op_gext, op_gload, op_gfa, op_gf, op_gia, op_gi, op_gbuild, op_len, op_glen, op_min, op_max, minK, maxK, bin_add, bin_sub, bin_mul, bin_quo, bin_rem, bin_eql, bin_neq, bin_lss, bin_leq, bin_gtr, bin_geq, bin_str, bin_bool, bin_agg, pick_b, unV, sbin, eK_some, emap_some, op_alloc, op_box, op_store, op_make, op_app, op_lit, lK_true, lK_false, op_call, op_gcall, cgK_some, iK_some, iK2_none, iK2_some, cK_some, cK2_some, conK_flat, conK_gflat, conK_own, conK_void, icallInfo_func, callInfo_func, ciK_some, snapVs_nil, snapVs_cons, outK, outL, outM, resPs, resP, rvsOf, rvOf, snapV, snapC, sepB, ownKs, dataKs, keysV, keysC, nodupB, packP, RV.flatP, extV, Option.bind_some, Option.map_some, true_implies, true_and, and_true, implies_true, ↓reduceIte, Nat.reduceEqDiff, reduceCtorEq, Nat.reduceAdd, Nat.reduceMul, Nat.reduceSub, Nat.reduceLT, Nat.reduceLeDiff, Nat.zero_add, Nat.add_zero, List.all_nil, List.append_nil, List.nil_append, List.flatMap_cons, List.flatMap_nil, Bool.and_self, List.getElem?_toArray, List.getElem?_cons_succ, List.getElem?_cons_zero, beq_true, beq_false, beq_self_eq_true, Bool.and_true, Bool.true_and, Bool.not_eq_true', Bool.and_eq_true, decide_eq_true_eq, decide_eq_false_iff_not, List.contains_nil, Bool.not_false, Bool.not_true, List.toList_toArray, at_n, of_pre, of_post, of_flat, cod0_enc, cod0_dec, cod1_enc, cod1_dec, codC_enc, codC_dec, dInt_int, dBool_bool, dStr_str, dAgg_agg, dLst_lst, dRows_nil, dRows_cons, some_ex, some_ex1, imp_self, and_self, Env.tk, loadV, fieldAddrV, indexAddrV, lenV, loadD, loadP, allocE, boxE, storeE, St.obj, TI.isAgg, getD_map, plainTI, zpv, cellsP, refNew, newOb, setOb, cut, List.getD_cons_zero, List.getD_cons_succ, List.length_cons, List.length_nil, List.length_map, ex_bool, all_bool, ex_eq, or_true, true_or, imp_eq, pN_bool, pN_int, pN_str, pN_gbool, pN_gint, pN_gstr, gpN_some, lbK_true, lbK_false, lnK_none, lnK_some, glbK_some, lenF, oneCells, deqs, deq, D.sk, List.take_succ_cons, List.take_zero, List.drop_zero, List.drop_succ_cons, List.take_nil, List.drop_nil, Option.isSome_some, Nat.mul_zero, Nat.zero_mul, all_ex, all_exc, ex_ex, ex_exc, ex_btrue, pagg, allD, bin_and, bin_or, bin_xor, bin_shl, bin_shr, ints_1, ints_2, minI_2, maxI_2, buildV, fillP, dcells, dcell, List.map_append, List.cons_append, List.drop_append_of_le_length, List.take_append_of_le_length, List.getElem?_map, retP, retO, dropObs_nil, dropObs_apply, contains_cons', Bool.or_false, Bool.false_or, Bool.or_true, Bool.true_or, Nat.reduceBEq, Bool.false_eq_true, indexV, bsize, List.size_toArray, maxLen_eq, op_lookup, op_nilCheck, op_slice, op_makeFunc, op_glookup, op_gnilCheck, op_gslice, op_makeMap, op_insert, op_mapUpdate, op_mapEntry, op_entryStore, lookupV, nilCheckV, sliceV, boundV, makeFuncV, makeMapE, mapUpdE, mapEntE, mapStoE, plainTI, Option.map_none, lapp_nil, lapp_cons, Int.reduceToNat, Int.toNat_zero, Int.toNat_one, ty_r, E11_r, Point.getD, Point.row, Point.d, Point.of2, Point.drows, Cell.getD, Cell.row, Cell.d, Cell.of2, Cell.drows, Band.getD, Band.row, Band.d, Band.of2, Band.drows, Place.getD, Place.row, Place.d, Place.of2, Place.drows, Link.getD, Link.row, Link.d, Link.of2, Link.drows, Town.getD, Town.row, Town.d, Town.of2, Town.drows, Shelter.getD, Shelter.row, Shelter.d, Shelter.of2, Shelter.drows, Gauge.getD, Gauge.row, Gauge.d, Gauge.of2, Gauge.drows, Road.getD, Road.row, Road.d, Road.of2, Road.drows, Basin.getD, Basin.row, Basin.d, Basin.of2, Basin.drows, Claim.getD, Claim.row, Claim.d, Claim.of2, Claim.drows, Grant.getD, Grant.row, Grant.d, Grant.of2, Grant.drows, Entry.getD, Entry.row, Entry.d, Entry.of2, Entry.drows, Report.getD, Report.row, Report.d, Report.of2, Report.drows, Triple.getD, Triple.row, Triple.d, Triple.of2, Triple.drows, Posting.getD, Posting.row, Posting.d, Posting.of2, Posting.drows, irow, srow, lrow, igetD, sgetD, lgetD, idrows, sdrows, makeE, irep, rowNew]
  refine fun _ => ⟨by omega, fun _ => ?_⟩
  refine pwp_loop (fun n S => ∃ i : Int, 0 ≤ i ∧ i ≤ (b.Places.length : Int) ∧ n = ((b.Places.length : Int) - i).toNat ∧ S.t 26 = .d (.int .i64 i) ∧ S.t 25 = .d (.int .i64 b.Places.length) ∧ S.t 1 = .d (.lst 9 (ro.map Claim.row)) ∧ S.t 2 = .d (.lst 1 (sup.map irow)) ∧ S.t 3 = .ref 3 1 0 0 0 ∧ S.t 8 = .row 22 1 b.Places.length
    ∧ S.o 3 = (1, some (.box 31 (b.row.map PV.d))) ∧ S.o 22 = (1, some (.row 1 3 ((dayLeft b.Places sup i.toNat).map irow)))) ((b.Places.length : Int) - 0).toNat ⟨0, by omega, by omega, rfl, rfl, rfl, rfl, rfl, rfl, rfl, rfl, rfl⟩ ?_
  rintro n ⟨t, o⟩ ⟨i, hi0, hil, hn, h26, h25, h1, h2, h3, h8, ho3, ho22⟩
  simp only at h26 h25 h1 h2 h3 h8 ho3 ho22
  simp (maxSteps := 1000000) only [startP_eq, startL, List.map_cons, List.map_nil, run_skip, run_region, run_seq, run_cond, run_block, run_exit, run_ret, run_loop, opsK_nil, opsK_op, seqK_normal, seqK_exit, seqK_ret, blkK_normal, blkK_exit, blkK_ret, loopK_normal, loopK_exit, loopK_ret, endP_ret, endP_normal, condK_bool, condK_opt, upd_apply, after_some, after_none, ev_tmp, ev_int, ev_bool, ev_str, ev_nils, ev_func, St.sv, St.sc, strip, stripC, argsC, pK_none, pK_some, gpK_some, pmap_some, gK, gB_bool, gB_opt, op_move, op_assign, op_gmove, op_gassign, on_pick, on_bin, op_un, op_conv, op_ext, op_load, op_fa, op_f, op_ia, op_i, op_build, on_gpick, on_gbin, op_gun, op_gconv, op_gext, op_gload, op_gfa, op_gf, op_gia, op_gi, op_gbuild, op_len, op_glen, op_min, op_max, minK, maxK, bin_add, bin_sub, bin_mul, bin_quo, bin_rem, bin_eql, bin_neq, bin_lss, bin_leq, bin_gtr, bin_geq, bin_str, bin_bool, bin_agg, pick_b, unV, sbin, eK_some, emap_some, op_alloc, op_box, op_store, op_make, op_app, op_lit, lK_true, lK_false, op_call, op_gcall, cgK_some, iK_some, iK2_none, iK2_some, cK_some, cK2_some, conK_flat, conK_gflat, conK_own, conK_void, icallInfo_func, callInfo_func, ciK_some, snapVs_nil, snapVs_cons, outK, outL, outM, resPs, resP, rvsOf, rvOf, snapV, snapC, sepB, ownKs, dataKs, keysV, keysC, nodupB, packP, RV.flatP, extV, Option.bind_some, Option.map_some, true_implies, true_and, and_true, implies_true, ↓reduceIte, Nat.reduceEqDiff, reduceCtorEq, Nat.reduceAdd, Nat.reduceMul, Nat.reduceSub, Nat.reduceLT, Nat.reduceLeDiff, Nat.zero_add, Nat.add_zero, List.all_nil, List.append_nil, List.nil_append, List.flatMap_cons, List.flatMap_nil, Bool.and_self, List.getElem?_toArray, List.getElem?_cons_succ, List.getElem?_cons_zero, beq_true, beq_false, beq_self_eq_true, Bool.and_true, Bool.true_and, Bool.not_eq_true', Bool.and_eq_true, decide_eq_true_eq, decide_eq_false_iff_not, List.contains_nil, Bool.not_false, Bool.not_true, List.toList_toArray, at_n, of_pre, of_post, of_flat, cod0_enc, cod0_dec, cod1_enc, cod1_dec, codC_enc, codC_dec, dInt_int, dBool_bool, dStr_str, dAgg_agg, dLst_lst, dRows_nil, dRows_cons, some_ex, some_ex1, imp_self, and_self, Env.tk, loadV, fieldAddrV, indexAddrV, lenV, loadD, loadP, allocE, boxE, storeE, St.obj, TI.isAgg, getD_map, plainTI, zpv, cellsP, refNew, newOb, setOb, cut, List.getD_cons_zero, List.getD_cons_succ, List.length_cons, List.length_nil, List.length_map, ex_bool, all_bool, ex_eq, or_true, true_or, imp_eq, pN_bool, pN_int, pN_str, pN_gbool, pN_gint, pN_gstr, gpN_some, lbK_true, lbK_false, lnK_none, lnK_some, glbK_some, lenF, oneCells, deqs, deq, D.sk, List.take_succ_cons, List.take_zero, List.drop_zero, List.drop_succ_cons, List.take_nil, List.drop_nil, Option.isSome_some, Nat.mul_zero, Nat.zero_mul, all_ex, all_exc, ex_ex, ex_exc, ex_btrue, pagg, allD, bin_and, bin_or, bin_xor, bin_shl, bin_shr, ints_1, ints_2, minI_2, maxI_2, buildV, fillP, dcells, dcell, List.map_append, List.cons_append, List.drop_append_of_le_length, List.take_append_of_le_length, List.getElem?_map, retP, retO, dropObs_nil, dropObs_apply, contains_cons', Bool.or_false, Bool.false_or, Bool.or_true, Bool.true_or, Nat.reduceBEq, Bool.false_eq_true, indexV, bsize, List.size_toArray, maxLen_eq, op_lookup, op_nilCheck, op_slice, op_makeFunc, op_glookup, op_gnilCheck, op_gslice, op_makeMap, op_insert, op_mapUpdate, op_mapEntry, op_entryStore, lookupV, nilCheckV, sliceV, boundV, makeFuncV, makeMapE, mapUpdE, mapEntE, mapStoE, plainTI, Option.map_none, lapp_nil, lapp_cons, Int.reduceToNat, Int.toNat_zero, Int.toNat_one, ty_r, E11_r, Point.getD, Point.row, Point.d, Point.of2, Point.drows, Cell.getD, Cell.row, Cell.d, Cell.of2, Cell.drows, Band.getD, Band.row, Band.d, Band.of2, Band.drows, Place.getD, Place.row, Place.d, Place.of2, Place.drows, Link.getD, Link.row, Link.d, Link.of2, Link.drows, Town.getD, Town.row, Town.d, Town.of2, Town.drows, Shelter.getD, Shelter.row, Shelter.d, Shelter.of2, Shelter.drows, Gauge.getD, Gauge.row, Gauge.d, Gauge.of2, Gauge.drows, Road.getD, Road.row, Road.d, Road.of2, Road.drows, Basin.getD, Basin.row, Basin.d, Basin.of2, Basin.drows, Claim.getD, Claim.row, Claim.d, Claim.of2, Claim.drows, Grant.getD, Grant.row, Grant.d, Grant.of2, Grant.drows, Entry.getD, Entry.row, Entry.d, Entry.of2, Entry.drows, Report.getD, Report.row, Report.d, Report.of2, Report.drows, Triple.getD, Triple.row, Triple.d, Triple.of2, Triple.drows, Posting.getD, Posting.row, Posting.d, Posting.of2, Posting.drows, irow, srow, lrow, igetD, sgetD, lgetD, idrows, sdrows, h26, h25, h1, h2, h3, h8, ho3, ho22]
  intro x hx
  simp only [Named] at hx
  refine ⟨fun hxt hsup y hy => ?_, fun hxf hro => ?_⟩
  · simp only [Named] at hy
    have hlt : i < (b.Places.length : Int) := by subst hx; simpa using hxt
    have hi' : (i + 1).toNat = i.toNat + 1 := by omega
    refine ⟨fun hyf => ⟨hyf, hi0, by subst hy; simpa using hyf⟩, fun z hz u hu => ?_⟩
    simp only [Named] at hz hu
    refine ⟨fun hut => ?_, fun huf => ?_⟩
    · have hno : ¬ (i.toNat < sup.length ∧ 0 ≤ sup.getD i.toNat 0) := by
        rintro ⟨c1, c2⟩
        subst hu hz hy
        have c3 : ¬ (i ≥ (sup.length : Int)) := by omega
        have c4 : ¬ (sup.getD i.toNat 0 < 0) := by omega
        simp only [c3, decide_false, Bool.false_eq_true, if_false, decide_eq_true_eq] at hut
        exact c4 hut
      have hl : dayLeft b.Places sup (i + 1).toNat = dayLeft b.Places sup i.toNat := by rw [hi', dayLeft, dayFill, if_neg hno]
      refine ghost_id ⟨((b.Places.length : Int) - (i + 1)).toNat, by omega, i + 1, by omega, by omega, rfl, ?_, h25, h1, h2, h3, h8, ho3, by rw [hl]; exact ho22⟩
      simp only [upd_apply, Nat.reduceEqDiff, ↓reduceIte]; rw [wrap64 (by omega) (by omega)]
    · have hyes : i.toNat < sup.length ∧ 0 ≤ sup.getD i.toNat 0 := by
        subst hu hz hy
        by_cases c3 : i ≥ (sup.length : Int)
        · simp [c3] at huf
        · simp only [c3, decide_false, Bool.false_eq_true, if_false, decide_eq_false_iff_not] at huf
          exact ⟨by omega, by omega⟩
      have hl : dayLeft b.Places sup (i + 1).toNat = (reachF b.Places i).foldl (addAt (sup.getD i.toNat 0)) (dayLeft b.Places sup i.toNat) := by
        rw [hi', dayLeft, dayFill, if_pos hyes, Int.toNat_of_nonneg hi0]
      have hl0 := dayLeft_len b.Places sup i.toNat
      generalize dayLeft b.Places sup i.toNat = L at hl hl0 ho22
      have hri := reach_in b.Places i
      generalize reachF b.Places i = R at hl hri
      clear hx hy hz hu hxt huf
      refine ⟨hb1, fun hRl => ?_⟩
      refine pwp_loop (fun n S => ∃ k : Int, 0 ≤ k ∧ k ≤ (R.length : Int) ∧ n = ((R.length : Int) - k).toNat ∧ S.t 44 = .d (.int .i64 k) ∧ S.t 43 = .d (.int .i64 R.length) ∧ S.t 42 = .d (.lst 1 (R.map irow)) ∧ S.t 9 = .d (.int .i64 i) ∧ S.t 26 = .d (.int .i64 i) ∧ S.t 25 = .d (.int .i64 b.Places.length) ∧ S.t 1 = .d (.lst 9 (ro.map Claim.row)) ∧ S.t 2 = .d (.lst 1 (sup.map irow)) ∧ S.t 3 = .ref 3 1 0 0 0 ∧ S.t 8 = .row 22 1 b.Places.length
        ∧ S.o 3 = (1, some (.box 31 (b.row.map PV.d))) ∧ S.o 22 = (1, some (.row 1 3 (((R.take k.toNat).foldl (addAt (sup.getD i.toNat 0)) L).map irow)))) ((R.length : Int) - 0).toNat ⟨0, by omega, by omega, rfl, rfl, rfl, rfl, rfl, h26, h25, h1, h2, h3, h8, ho3, ho22⟩ ?_
      clear h26 h25 h1 h2 h3 h8 ho3 ho22
      rintro n2 ⟨t, o⟩ ⟨k, hk0, hkl, hn2, h44, h43, h42, h9, h26, h25, h1, h2, h3, h8, ho3, ho22⟩
      simp only at h44 h43 h42 h9 h26 h25 h1 h2 h3 h8 ho3 ho22
      have hLk : ((R.take k.toNat).foldl (addAt (sup.getD i.toNat 0)) L).length = b.Places.length := by rw [foldl_len _ (addAt_len _), hl0]
      generalize hLL : (R.take k.toNat).foldl (addAt (sup.getD i.toNat 0)) L = LL at ho22 hLk
      simp (maxSteps := 1000000) only [startP_eq, startL, List.map_cons, List.map_nil, run_skip, run_region, run_seq, run_cond, run_block, run_exit, run_ret, run_loop, opsK_nil, opsK_op, seqK_normal, seqK_exit, seqK_ret, blkK_normal, blkK_exit, blkK_ret, loopK_normal, loopK_exit, loopK_ret, endP_ret, endP_normal, condK_bool, condK_opt, upd_apply, after_some, after_none, ev_tmp, ev_int, ev_bool, ev_str, ev_nils, ev_func, St.sv, St.sc, strip, stripC, argsC, pK_none, pK_some, gpK_some, pmap_some, gK, gB_bool, gB_opt, op_move, op_assign, op_gmove, op_gassign, on_pick, on_bin, op_un, op_conv, op_ext, op_load, op_fa, op_f, op_ia, op_i, op_build, on_gpick, on_gbin, op_gun, op_gconv, op_gext, op_gload, op_gfa, op_gf, op_gia, op_gi, op_gbuild, op_len, op_glen, op_min, op_max, minK, maxK, bin_add, bin_sub, bin_mul, bin_quo, bin_rem, bin_eql, bin_neq, bin_lss, bin_leq, bin_gtr, bin_geq, bin_str, bin_bool, bin_agg, pick_b, unV, sbin, eK_some, emap_some, op_alloc, op_box, op_store, op_make, op_app, op_lit, lK_true, lK_false, op_call, op_gcall, cgK_some, iK_some, iK2_none, iK2_some, cK_some, cK2_some, conK_flat, conK_gflat, conK_own, conK_void, icallInfo_func, callInfo_func, ciK_some, snapVs_nil, snapVs_cons, outK, outL, outM, resPs, resP, rvsOf, rvOf, snapV, snapC, sepB, ownKs, dataKs, keysV, keysC, nodupB, packP, RV.flatP, extV, Option.bind_some, Option.map_some, true_implies, true_and, and_true, implies_true, ↓reduceIte, Nat.reduceEqDiff, reduceCtorEq, Nat.reduceAdd, Nat.reduceMul, Nat.reduceSub, Nat.reduceLT, Nat.reduceLeDiff, Nat.zero_add, Nat.add_zero, List.all_nil, List.append_nil, List.nil_append, List.flatMap_cons, List.flatMap_nil, Bool.and_self, List.getElem?_toArray, List.getElem?_cons_succ, List.getElem?_cons_zero, beq_true, beq_false, beq_self_eq_true, Bool.and_true, Bool.true_and, Bool.not_eq_true', Bool.and_eq_true, decide_eq_true_eq, decide_eq_false_iff_not, List.contains_nil, Bool.not_false, Bool.not_true, List.toList_toArray, at_n, of_pre, of_post, of_flat, cod0_enc, cod0_dec, cod1_enc, cod1_dec, codC_enc, codC_dec, dInt_int, dBool_bool, dStr_str, dAgg_agg, dLst_lst, dRows_nil, dRows_cons, some_ex, some_ex1, imp_self, and_self, Env.tk, loadV, fieldAddrV, indexAddrV, lenV, loadD, loadP, allocE, boxE, storeE, St.obj, TI.isAgg, getD_map, plainTI, zpv, cellsP, refNew, newOb, setOb, cut, List.getD_cons_zero, List.getD_cons_succ, List.length_cons, List.length_nil, List.length_map, ex_bool, all_bool, ex_eq, or_true, true_or, imp_eq, pN_bool, pN_int, pN_str, pN_gbool, pN_gint, pN_gstr, gpN_some, lbK_true, lbK_false, lnK_none, lnK_some, glbK_some, lenF, oneCells, deqs, deq, D.sk, List.take_succ_cons, List.take_zero, List.drop_zero, List.drop_succ_cons, List.take_nil, List.drop_nil, Option.isSome_some, Nat.mul_zero, Nat.zero_mul, all_ex, all_exc, ex_ex, ex_exc, ex_btrue, pagg, allD, bin_and, bin_or, bin_xor, bin_shl, bin_shr, ints_1, ints_2, minI_2, maxI_2, buildV, fillP, dcells, dcell, List.map_append, List.cons_append, List.drop_append_of_le_length, List.take_append_of_le_length, List.getElem?_map, retP, retO, dropObs_nil, dropObs_apply, contains_cons', Bool.or_false, Bool.false_or, Bool.or_true, Bool.true_or, Nat.reduceBEq, Bool.false_eq_true, indexV, bsize, List.size_toArray, maxLen_eq, op_lookup, op_nilCheck, op_slice, op_makeFunc, op_glookup, op_gnilCheck, op_gslice, op_makeMap, op_insert, op_mapUpdate, op_mapEntry, op_entryStore, lookupV, nilCheckV, sliceV, boundV, makeFuncV, makeMapE, mapUpdE, mapEntE, mapStoE, plainTI, Option.map_none, lapp_nil, lapp_cons, Int.reduceToNat, Int.toNat_zero, Int.toNat_one, ty_r, E11_r, Point.getD, Point.row, Point.d, Point.of2, Point.drows, Cell.getD, Cell.row, Cell.d, Cell.of2, Cell.drows, Band.getD, Band.row, Band.d, Band.of2, Band.drows, Place.getD, Place.row, Place.d, Place.of2, Place.drows, Link.getD, Link.row, Link.d, Link.of2, Link.drows, Town.getD, Town.row, Town.d, Town.of2, Town.drows, Shelter.getD, Shelter.row, Shelter.d, Shelter.of2, Shelter.drows, Gauge.getD, Gauge.row, Gauge.d, Gauge.of2, Gauge.drows, Road.getD, Road.row, Road.d, Road.of2, Road.drows, Basin.getD, Basin.row, Basin.d, Basin.of2, Basin.drows, Claim.getD, Claim.row, Claim.d, Claim.of2, Claim.drows, Grant.getD, Grant.row, Grant.d, Grant.of2, Grant.drows, Entry.getD, Entry.row, Entry.d, Entry.of2, Entry.drows, Report.getD, Report.row, Report.d, Report.of2, Report.drows, Triple.getD, Triple.row, Triple.d, Triple.of2, Triple.drows, Posting.getD, Posting.row, Posting.d, Posting.of2, Posting.drows, irow, srow, lrow, igetD, sgetD, lgetD, idrows, sdrows, h44, h43, h42, h9, h26, h25, h1, h2, h3, h8, ho3, ho22]
      intro x hx
      simp only [Named] at hx
      refine ⟨fun hxt => ?_, fun hxf => ?_⟩
      · have hlt2 : k < (R.length : Int) := by subst hx; simpa using hxt
        have hk2 : k.toNat < R.length := by omega
        have hq := hri (R.getD k.toNat 0) (by rw [List.getD_eq_getElem?_getD, List.getElem?_eq_getElem hk2]; simp)
        have hfo := foldTake (addAt (sup.getD i.toNat 0)) L R k.toNat 0 hk2
        rw [hLL] at hfo
        generalize R.getD k.toNat 0 = q at hq hfo
        clear hx hxt
        refine ⟨⟨hk0, hlt2⟩, hq, by omega, ⟨hi0, by omega⟩, hq, by omega, ghost_id ⟨((R.length : Int) - (k + 1)).toNat, by omega, k + 1, by omega, by omega, rfl, ?_, h43, h42, h9, h26, h25, h1, h2, h3, h8, ?_, ?_⟩⟩
        · simp only [upd_apply, Nat.reduceEqDiff, ↓reduceIte]; rw [wrap64 (by omega) (by omega)]
        · simp only [setOb, Nat.reduceEqDiff, ↓reduceIte, ho3]; rfl
        · simp only [setOb, ↓reduceIte, ho22, iset]
          rw [show (k + 1).toNat = k.toNat + 1 by omega, hfo]
          rfl
      · have hge : R.take k.toNat = R := List.take_of_length_le (by subst hx; simp at hxf; omega)
        rw [hge] at hLL
        refine ghost_id ⟨((b.Places.length : Int) - (i + 1)).toNat, by omega, i + 1, by omega, by omega, rfl, ?_, h25, h1, h2, h3, h8, ho3, by rw [hl, hLL]; exact ho22⟩
        simp only [upd_apply, Nat.reduceEqDiff, ↓reduceIte]; rw [wrap64 (by omega) (by omega)]
  have hge : i.toNat = b.Places.length := by subst hx; simp at hxf; omega
  rw [hge] at ho22
  have hl0 := dayLeft_len b.Places sup b.Places.length
  refine pwp_loopG (fun n S => ∃ (k : Int) (G : List Grant) (L : List Int) (v : Nat), 0 ≤ k ∧ k ≤ (ro.length : Int) ∧ n = ((ro.length : Int) - k).toNat ∧ (ro.take k.toNat).foldl (dayStep b.Places) ([], dayLeft b.Places sup b.Places.length) = (G, L) ∧ L.length = b.Places.length ∧ G.length = k.toNat
      ∧ S.t 64 = .d (.int .i64 k) ∧ S.t 63 = .d (.int .i64 ro.length) ∧ S.t 62 = .d (.lst 9 (ro.map Claim.row)) ∧ S.t 3 = .ref 3 1 0 0 0 ∧ S.t 8 = .row 22 1 b.Places.length ∧ S.o 3 = (1, some (.box 31 (b.row.map PV.d))) ∧ S.o 22 = (1, some (.row 1 3 (L.map irow))) ∧ S.t 12 = .row 101 v G.length ∧ S.o 101 = (v, some (.row 2 61 (G.map Grant.row))))
    _ (.nil 12 101 2 61 rfl (.refl _)) ((ro.length : Int) - 0).toNat ⟨0, [], _, _, by omega, by omega, rfl, rfl, hl0, rfl, rfl, rfl, rfl, h3, h8, ho3, ho22, rfl, rfl⟩ ?_
  clear h26 h25 h1 h2 h3 h8 ho3 ho22 hx hxf hge hl0
  rintro n ⟨t, o⟩ ⟨k, G, L, v, hk0, hkl, hn, hGL, hLl, hGl, h64, h63, h62, h3, h8, ho3, ho22, h12, ho101⟩
  simp only at h64 h63 h62 h3 h8 ho3 ho22 h12 ho101
  have hri := fun p => reach_in b.Places p
  simp (maxSteps := 1000000) only [startP_eq, startL, List.map_cons, List.map_nil, run_skip, run_region, run_seq, run_cond, run_block, run_exit, run_ret, run_loop, opsK_nil, opsK_op, seqK_normal, seqK_exit, seqK_ret, blkK_normal, blkK_exit, blkK_ret, loopK_normal, loopK_exit, loopK_ret, endP_ret, endP_normal, condK_bool, condK_opt, upd_apply, after_some, after_none, ev_tmp, ev_int, ev_bool, ev_str, ev_nils, ev_func, St.sv, St.sc, strip, stripC, argsC, pK_none, pK_some, gpK_some, pmap_some, gK, gB_bool, gB_opt, op_move, op_assign, op_gmove, op_gassign, on_pick, on_bin, op_un, op_conv, op_ext, op_load, op_fa, op_f, op_ia, op_i, op_build, on_gpick, on_gbin, op_gun, op_gconv, op_gext, op_gload, op_gfa, op_gf, op_gia, op_gi, op_gbuild, op_len, op_glen, op_min, op_max, minK, maxK, bin_add, bin_sub, bin_mul, bin_quo, bin_rem, bin_eql, bin_neq, bin_lss, bin_leq, bin_gtr, bin_geq, bin_str, bin_bool, bin_agg, pick_b, unV, sbin, eK_some, emap_some, op_alloc, op_box, op_store, op_make, op_app, op_lit, lK_true, lK_false, op_call, op_gcall, cgK_some, iK_some, iK2_none, iK2_some, cK_some, cK2_some, conK_flat, conK_gflat, conK_own, conK_void, icallInfo_func, callInfo_func, ciK_some, snapVs_nil, snapVs_cons, outK, outL, outM, resPs, resP, rvsOf, rvOf, snapV, snapC, sepB, ownKs, dataKs, keysV, keysC, nodupB, packP, RV.flatP, extV, Option.bind_some, Option.map_some, true_implies, true_and, and_true, implies_true, ↓reduceIte, Nat.reduceEqDiff, reduceCtorEq, Nat.reduceAdd, Nat.reduceMul, Nat.reduceSub, Nat.reduceLT, Nat.reduceLeDiff, Nat.zero_add, Nat.add_zero, List.all_nil, List.append_nil, List.nil_append, List.flatMap_cons, List.flatMap_nil, Bool.and_self, List.getElem?_toArray, List.getElem?_cons_succ, List.getElem?_cons_zero, beq_true, beq_false, beq_self_eq_true, Bool.and_true, Bool.true_and, Bool.not_eq_true', Bool.and_eq_true, decide_eq_true_eq, decide_eq_false_iff_not, List.contains_nil, Bool.not_false, Bool.not_true, List.toList_toArray, at_n, of_pre, of_post, of_flat, cod0_enc, cod0_dec, cod1_enc, cod1_dec, codC_enc, codC_dec, dInt_int, dBool_bool, dStr_str, dAgg_agg, dLst_lst, dRows_nil, dRows_cons, some_ex, some_ex1, imp_self, and_self, Env.tk, loadV, fieldAddrV, indexAddrV, lenV, loadD, loadP, allocE, boxE, storeE, St.obj, TI.isAgg, getD_map, plainTI, zpv, cellsP, refNew, newOb, setOb, cut, List.getD_cons_zero, List.getD_cons_succ, List.length_cons, List.length_nil, List.length_map, ex_bool, all_bool, ex_eq, or_true, true_or, imp_eq, pN_bool, pN_int, pN_str, pN_gbool, pN_gint, pN_gstr, gpN_some, lbK_true, lbK_false, lnK_none, lnK_some, glbK_some, lenF, oneCells, deqs, deq, D.sk, List.take_succ_cons, List.take_zero, List.drop_zero, List.drop_succ_cons, List.take_nil, List.drop_nil, Option.isSome_some, Nat.mul_zero, Nat.zero_mul, all_ex, all_exc, ex_ex, ex_exc, ex_btrue, pagg, allD, bin_and, bin_or, bin_xor, bin_shl, bin_shr, ints_1, ints_2, minI_2, maxI_2, buildV, fillP, dcells, dcell, List.map_append, List.cons_append, List.drop_append_of_le_length, List.take_append_of_le_length, List.getElem?_map, retP, retO, dropObs_nil, dropObs_apply, contains_cons', Bool.or_false, Bool.false_or, Bool.or_true, Bool.true_or, Nat.reduceBEq, Bool.false_eq_true, indexV, bsize, List.size_toArray, maxLen_eq, op_lookup, op_nilCheck, op_slice, op_makeFunc, op_glookup, op_gnilCheck, op_gslice, op_makeMap, op_insert, op_mapUpdate, op_mapEntry, op_entryStore, lookupV, nilCheckV, sliceV, boundV, makeFuncV, makeMapE, mapUpdE, mapEntE, mapStoE, plainTI, Option.map_none, lapp_nil, lapp_cons, Int.reduceToNat, Int.toNat_zero, Int.toNat_one, ty_r, E11_r, Point.getD, Point.row, Point.d, Point.of2, Point.drows, Cell.getD, Cell.row, Cell.d, Cell.of2, Cell.drows, Band.getD, Band.row, Band.d, Band.of2, Band.drows, Place.getD, Place.row, Place.d, Place.of2, Place.drows, Link.getD, Link.row, Link.d, Link.of2, Link.drows, Town.getD, Town.row, Town.d, Town.of2, Town.drows, Shelter.getD, Shelter.row, Shelter.d, Shelter.of2, Shelter.drows, Gauge.getD, Gauge.row, Gauge.d, Gauge.of2, Gauge.drows, Road.getD, Road.row, Road.d, Road.of2, Road.drows, Basin.getD, Basin.row, Basin.d, Basin.of2, Basin.drows, Claim.getD, Claim.row, Claim.d, Claim.of2, Claim.drows, Grant.getD, Grant.row, Grant.d, Grant.of2, Grant.drows, Entry.getD, Entry.row, Entry.d, Entry.of2, Entry.drows, Report.getD, Report.row, Report.d, Report.of2, Report.drows, Triple.getD, Triple.row, Triple.d, Triple.of2, Triple.drows, Posting.getD, Posting.row, Posting.d, Posting.of2, Posting.drows, irow, srow, lrow, igetD, sgetD, lgetD, idrows, sdrows, h64, h63, h62, h3, h8, ho3, ho22, h12, ho101, idrows]
  intro x hx
  simp only [Named] at hx
  refine ⟨fun hxt => ?_, fun hxf => ?_⟩
  · have hlt : k < (ro.length : Int) := by subst hx; simpa using hxt
    have hk2 : k.toNat < ro.length := by omega
    have hfo := foldTake (dayStep b.Places) ([], dayLeft b.Places sup b.Places.length) ro k.toNat .zero hk2
    rw [hGL] at hfo
    refine ⟨⟨hk0, hlt⟩, hb1, by rw [hLl]; exact hri _, ?_⟩
    generalize ro.getD k.toNat .zero = c at hfo
    have hrc := hri c.Place
    have hg0 : dayGrant b.Places L c = if reachF b.Places c.Place = [] then 0 else if 0 < leastF L c.Rate (reachF b.Places c.Place) then leastF L c.Rate (reachF b.Places c.Place) else 0 := rfl
    simp only [dayStep] at hfo
    generalize dayGrant b.Places L c = g at hfo hg0
    generalize reachF b.Places c.Place = R at hfo hg0 hrc
    intro hRl y hy
    simp only [Named] at hy
    refine ⟨fun hyt _ => ?_, fun hyf _ => ?_⟩
    · have hg : (0 : Int) = g := by
        subst hy
        have : R = [] := by cases R with | nil => rfl | cons => simp at hyt; omega
        rw [hg0, if_pos this]
      refine pwp_loop (fun n S => ∃ j : Int, 0 ≤ j ∧ j ≤ (R.length : Int) ∧ n = ((R.length : Int) - j).toNat ∧ S.t 83 = .d (.int .i64 j) ∧ S.t 82 = .d (.int .i64 R.length) ∧ S.t 81 = .d (.lst 1 (R.map irow)) ∧ S.t 16 = .d (.int .i64 g) ∧ S.t 14 = .ref 14 ((o 14).1 + 1) 0 0 0 ∧ S.t 64 = .d (.int .i64 k) ∧ S.t 63 = .d (.int .i64 ro.length) ∧ S.t 62 = .d (.lst 9 (ro.map Claim.row)) ∧ S.t 3 = .ref 3 1 0 0 0 ∧ S.t 8 = .row 22 1 b.Places.length ∧ S.t 12 = .row 101 v G.length
        ∧ S.o 14 = ((o 14).1 + 1, some (.box 49 (c.row.map PV.d))) ∧ S.o 3 = (1, some (.box 31 (b.row.map PV.d))) ∧ S.o 101 = (v, some (.row 2 61 (G.map Grant.row))) ∧ S.o 22 = (1, some (.row 1 3 (((R.take j.toNat).foldl (subAt g) L).map irow)))) ((R.length : Int) - 0).toNat ⟨0, by omega, by omega, rfl, rfl, rfl, rfl, congrArg (fun z => PV.d (.int .i64 z)) hg, rfl, h64, h63, h62, h3, h8, h12, rfl, ho3, ho101, ho22⟩ ?_
      clear h64 h63 h62 h3 h8 h12 ho3 ho22 ho101
      generalize (o 14).1 + 1 = v14
      rintro n2 ⟨t, o⟩ ⟨j, hj0, hjl, hn2, h83, h82, h81, h16, h14, h64, h63, h62, h3, h8, h12, ho14, ho3, ho101, ho22⟩
      simp only at h83 h82 h81 h16 h14 h64 h63 h62 h3 h8 h12 ho14 ho3 ho101 ho22
      have hLj : ((R.take j.toNat).foldl (subAt g) L).length = b.Places.length := by rw [foldl_len _ (subAt_len _), hLl]
      generalize hLL : (R.take j.toNat).foldl (subAt g) L = LL at ho22 hLj
      simp (maxSteps := 1000000) only [startP_eq, startL, List.map_cons, List.map_nil, run_skip, run_region, run_seq, run_cond, run_block, run_exit, run_ret, run_loop, opsK_nil, opsK_op, seqK_normal, seqK_exit, seqK_ret, blkK_normal, blkK_exit, blkK_ret, loopK_normal, loopK_exit, loopK_ret, endP_ret, endP_normal, condK_bool, condK_opt, upd_apply, after_some, after_none, ev_tmp, ev_int, ev_bool, ev_str, ev_nils, ev_func, St.sv, St.sc, strip, stripC, argsC, pK_none, pK_some, gpK_some, pmap_some, gK, gB_bool, gB_opt, op_move, op_assign, op_gmove, op_gassign, on_pick, on_bin, op_un, op_conv, op_ext, op_load, op_fa, op_f, op_ia, op_i, op_build, on_gpick, on_gbin, op_gun, op_gconv, op_gext, op_gload, op_gfa, op_gf, op_gia, op_gi, op_gbuild, op_len, op_glen, op_min, op_max, minK, maxK, bin_add, bin_sub, bin_mul, bin_quo, bin_rem, bin_eql, bin_neq, bin_lss, bin_leq, bin_gtr, bin_geq, bin_str, bin_bool, bin_agg, pick_b, unV, sbin, eK_some, emap_some, op_alloc, op_box, op_store, op_make, op_app, op_lit, lK_true, lK_false, op_call, op_gcall, cgK_some, iK_some, iK2_none, iK2_some, cK_some, cK2_some, conK_flat, conK_gflat, conK_own, conK_void, icallInfo_func, callInfo_func, ciK_some, snapVs_nil, snapVs_cons, outK, outL, outM, resPs, resP, rvsOf, rvOf, snapV, snapC, sepB, ownKs, dataKs, keysV, keysC, nodupB, packP, RV.flatP, extV, Option.bind_some, Option.map_some, true_implies, true_and, and_true, implies_true, ↓reduceIte, Nat.reduceEqDiff, reduceCtorEq, Nat.reduceAdd, Nat.reduceMul, Nat.reduceSub, Nat.reduceLT, Nat.reduceLeDiff, Nat.zero_add, Nat.add_zero, List.all_nil, List.append_nil, List.nil_append, List.flatMap_cons, List.flatMap_nil, Bool.and_self, List.getElem?_toArray, List.getElem?_cons_succ, List.getElem?_cons_zero, beq_true, beq_false, beq_self_eq_true, Bool.and_true, Bool.true_and, Bool.not_eq_true', Bool.and_eq_true, decide_eq_true_eq, decide_eq_false_iff_not, List.contains_nil, Bool.not_false, Bool.not_true, List.toList_toArray, at_n, of_pre, of_post, of_flat, cod0_enc, cod0_dec, cod1_enc, cod1_dec, codC_enc, codC_dec, dInt_int, dBool_bool, dStr_str, dAgg_agg, dLst_lst, dRows_nil, dRows_cons, some_ex, some_ex1, imp_self, and_self, Env.tk, loadV, fieldAddrV, indexAddrV, lenV, loadD, loadP, allocE, boxE, storeE, St.obj, TI.isAgg, getD_map, plainTI, zpv, cellsP, refNew, newOb, setOb, cut, List.getD_cons_zero, List.getD_cons_succ, List.length_cons, List.length_nil, List.length_map, ex_bool, all_bool, ex_eq, or_true, true_or, imp_eq, pN_bool, pN_int, pN_str, pN_gbool, pN_gint, pN_gstr, gpN_some, lbK_true, lbK_false, lnK_none, lnK_some, glbK_some, lenF, oneCells, deqs, deq, D.sk, List.take_succ_cons, List.take_zero, List.drop_zero, List.drop_succ_cons, List.take_nil, List.drop_nil, Option.isSome_some, Nat.mul_zero, Nat.zero_mul, all_ex, all_exc, ex_ex, ex_exc, ex_btrue, pagg, allD, bin_and, bin_or, bin_xor, bin_shl, bin_shr, ints_1, ints_2, minI_2, maxI_2, buildV, fillP, dcells, dcell, List.map_append, List.cons_append, List.drop_append_of_le_length, List.take_append_of_le_length, List.getElem?_map, retP, retO, dropObs_nil, dropObs_apply, contains_cons', Bool.or_false, Bool.false_or, Bool.or_true, Bool.true_or, Nat.reduceBEq, Bool.false_eq_true, indexV, bsize, List.size_toArray, maxLen_eq, op_lookup, op_nilCheck, op_slice, op_makeFunc, op_glookup, op_gnilCheck, op_gslice, op_makeMap, op_insert, op_mapUpdate, op_mapEntry, op_entryStore, lookupV, nilCheckV, sliceV, boundV, makeFuncV, makeMapE, mapUpdE, mapEntE, mapStoE, plainTI, Option.map_none, lapp_nil, lapp_cons, Int.reduceToNat, Int.toNat_zero, Int.toNat_one, ty_r, E11_r, Point.getD, Point.row, Point.d, Point.of2, Point.drows, Cell.getD, Cell.row, Cell.d, Cell.of2, Cell.drows, Band.getD, Band.row, Band.d, Band.of2, Band.drows, Place.getD, Place.row, Place.d, Place.of2, Place.drows, Link.getD, Link.row, Link.d, Link.of2, Link.drows, Town.getD, Town.row, Town.d, Town.of2, Town.drows, Shelter.getD, Shelter.row, Shelter.d, Shelter.of2, Shelter.drows, Gauge.getD, Gauge.row, Gauge.d, Gauge.of2, Gauge.drows, Road.getD, Road.row, Road.d, Road.of2, Road.drows, Basin.getD, Basin.row, Basin.d, Basin.of2, Basin.drows, Claim.getD, Claim.row, Claim.d, Claim.of2, Claim.drows, Grant.getD, Grant.row, Grant.d, Grant.of2, Grant.drows, Entry.getD, Entry.row, Entry.d, Entry.of2, Entry.drows, Report.getD, Report.row, Report.d, Report.of2, Report.drows, Triple.getD, Triple.row, Triple.d, Triple.of2, Triple.drows, Posting.getD, Posting.row, Posting.d, Posting.of2, Posting.drows, irow, srow, lrow, igetD, sgetD, lgetD, idrows, sdrows, h83, h82, h81, h16, h14, h64, h63, h62, h3, h8, h12, ho14, ho3, ho101, ho22, litV, lit1g, appE, appR, rowsV, rowNew]
      intro x hx
      simp only [Named] at hx
      refine ⟨fun hxt => ?_, fun hxf => ?_⟩
      · have hlt2 : j < (R.length : Int) := by subst hx; simpa using hxt
        have hj2 : j.toNat < R.length := by omega
        have hq := hrc (R.getD j.toNat 0) (by rw [List.getD_eq_getElem?_getD, List.getElem?_eq_getElem hj2]; simp)
        have hfo2 := foldTake (subAt g) L R j.toNat 0 hj2
        rw [hLL] at hfo2
        generalize R.getD j.toNat 0 = q at hq hfo2
        refine ⟨⟨hj0, hlt2⟩, hq, by omega, hq, by omega, ghost_id ⟨((R.length : Int) - (j + 1)).toNat, by omega, j + 1, by omega, by omega, rfl, ?_, h82, h81, h16, h14, h64, h63, h62, h3, h8, h12, ?_, ?_, ?_, ?_⟩⟩
        · simp only [upd_apply, Nat.reduceEqDiff, ↓reduceIte]; rw [wrap64 (by omega) (by omega)]
        · simp only [setOb, Nat.reduceEqDiff, ↓reduceIte, ho14]; rfl
        · simp only [setOb, Nat.reduceEqDiff, ↓reduceIte, ho3]; rfl
        · simp only [setOb, Nat.reduceEqDiff, ↓reduceIte, ho101]
        · simp only [setOb, ↓reduceIte, ho22, iset]
          rw [show (j + 1).toNat = j.toNat + 1 by omega, hfo2]
          rfl
      · have hge : R.take j.toNat = R := List.take_of_length_le (by subst hx; simp at hxf; omega)
        rw [hge] at hLL
        refine ⟨by omega, ghost_id ⟨((ro.length : Int) - (k + 1)).toNat, by omega, k + 1, G ++ [⟨c.Id, g⟩], LL, v + 1, by omega, by omega, rfl, ?_, hLj, ?_, ?_, h63, h62, h3, h8, ?_, ?_, ?_, ?_⟩⟩
        · rw [show (k + 1).toNat = k.toNat + 1 by omega, hfo, hLL]
        · simp only [List.length_append, List.length_cons, List.length_nil]; omega
        · simp only [upd_apply, Nat.reduceEqDiff, ↓reduceIte]; rw [wrap64 (by omega) (by omega)]
        · simp only [newOb, Nat.reduceEqDiff, ↓reduceIte, ho3]; rfl
        · simp only [newOb, Nat.reduceEqDiff, ↓reduceIte, ho22]
        · simp only [upd_apply, Nat.reduceEqDiff, ↓reduceIte, List.length_append, List.length_cons, List.length_nil, Nat.zero_add]
        · simp only [newOb, ↓reduceIte, List.map_append, List.map_cons, List.map_nil, ho101]; rfl
    · have hg : (if 0 < leastF L c.Rate R then leastF L c.Rate R else 0) = g := by
        subst hy
        have : R ≠ [] := by rintro rfl; simp at hyf
        rw [hg0, if_neg this]
      refine pwp_loop (fun n S => ∃ j : Int, 0 ≤ j ∧ j ≤ (R.length : Int) ∧ n = ((R.length : Int) - j).toNat ∧ S.t 83 = .d (.int .i64 j) ∧ S.t 82 = .d (.int .i64 R.length) ∧ S.t 81 = .d (.lst 1 (R.map irow)) ∧ S.t 16 = .d (.int .i64 g) ∧ S.t 14 = .ref 14 ((o 14).1 + 1) 0 0 0 ∧ S.t 64 = .d (.int .i64 k) ∧ S.t 63 = .d (.int .i64 ro.length) ∧ S.t 62 = .d (.lst 9 (ro.map Claim.row)) ∧ S.t 3 = .ref 3 1 0 0 0 ∧ S.t 8 = .row 22 1 b.Places.length ∧ S.t 12 = .row 101 v G.length
        ∧ S.o 14 = ((o 14).1 + 1, some (.box 49 (c.row.map PV.d))) ∧ S.o 3 = (1, some (.box 31 (b.row.map PV.d))) ∧ S.o 101 = (v, some (.row 2 61 (G.map Grant.row))) ∧ S.o 22 = (1, some (.row 1 3 (((R.take j.toNat).foldl (subAt g) L).map irow)))) ((R.length : Int) - 0).toNat ⟨0, by omega, by omega, rfl, rfl, rfl, rfl, congrArg (fun z => PV.d (.int .i64 z)) hg, rfl, h64, h63, h62, h3, h8, h12, rfl, ho3, ho101, ho22⟩ ?_
      clear h64 h63 h62 h3 h8 h12 ho3 ho22 ho101
      generalize (o 14).1 + 1 = v14
      rintro n2 ⟨t, o⟩ ⟨j, hj0, hjl, hn2, h83, h82, h81, h16, h14, h64, h63, h62, h3, h8, h12, ho14, ho3, ho101, ho22⟩
      simp only at h83 h82 h81 h16 h14 h64 h63 h62 h3 h8 h12 ho14 ho3 ho101 ho22
      have hLj : ((R.take j.toNat).foldl (subAt g) L).length = b.Places.length := by rw [foldl_len _ (subAt_len _), hLl]
      generalize hLL : (R.take j.toNat).foldl (subAt g) L = LL at ho22 hLj
      simp (maxSteps := 1000000) only [startP_eq, startL, List.map_cons, List.map_nil, run_skip, run_region, run_seq, run_cond, run_block, run_exit, run_ret, run_loop, opsK_nil, opsK_op, seqK_normal, seqK_exit, seqK_ret, blkK_normal, blkK_exit, blkK_ret, loopK_normal, loopK_exit, loopK_ret, endP_ret, endP_normal, condK_bool, condK_opt, upd_apply, after_some, after_none, ev_tmp, ev_int, ev_bool, ev_str, ev_nils, ev_func, St.sv, St.sc, strip, stripC, argsC, pK_none, pK_some, gpK_some, pmap_some, gK, gB_bool, gB_opt, op_move, op_assign, op_gmove, op_gassign, on_pick, on_bin, op_un, op_conv, op_ext, op_load, op_fa, op_f, op_ia, op_i, op_build, on_gpick, on_gbin, op_gun, op_gconv, op_gext, op_gload, op_gfa, op_gf, op_gia, op_gi, op_gbuild, op_len, op_glen, op_min, op_max, minK, maxK, bin_add, bin_sub, bin_mul, bin_quo, bin_rem, bin_eql, bin_neq, bin_lss, bin_leq, bin_gtr, bin_geq, bin_str, bin_bool, bin_agg, pick_b, unV, sbin, eK_some, emap_some, op_alloc, op_box, op_store, op_make, op_app, op_lit, lK_true, lK_false, op_call, op_gcall, cgK_some, iK_some, iK2_none, iK2_some, cK_some, cK2_some, conK_flat, conK_gflat, conK_own, conK_void, icallInfo_func, callInfo_func, ciK_some, snapVs_nil, snapVs_cons, outK, outL, outM, resPs, resP, rvsOf, rvOf, snapV, snapC, sepB, ownKs, dataKs, keysV, keysC, nodupB, packP, RV.flatP, extV, Option.bind_some, Option.map_some, true_implies, true_and, and_true, implies_true, ↓reduceIte, Nat.reduceEqDiff, reduceCtorEq, Nat.reduceAdd, Nat.reduceMul, Nat.reduceSub, Nat.reduceLT, Nat.reduceLeDiff, Nat.zero_add, Nat.add_zero, List.all_nil, List.append_nil, List.nil_append, List.flatMap_cons, List.flatMap_nil, Bool.and_self, List.getElem?_toArray, List.getElem?_cons_succ, List.getElem?_cons_zero, beq_true, beq_false, beq_self_eq_true, Bool.and_true, Bool.true_and, Bool.not_eq_true', Bool.and_eq_true, decide_eq_true_eq, decide_eq_false_iff_not, List.contains_nil, Bool.not_false, Bool.not_true, List.toList_toArray, at_n, of_pre, of_post, of_flat, cod0_enc, cod0_dec, cod1_enc, cod1_dec, codC_enc, codC_dec, dInt_int, dBool_bool, dStr_str, dAgg_agg, dLst_lst, dRows_nil, dRows_cons, some_ex, some_ex1, imp_self, and_self, Env.tk, loadV, fieldAddrV, indexAddrV, lenV, loadD, loadP, allocE, boxE, storeE, St.obj, TI.isAgg, getD_map, plainTI, zpv, cellsP, refNew, newOb, setOb, cut, List.getD_cons_zero, List.getD_cons_succ, List.length_cons, List.length_nil, List.length_map, ex_bool, all_bool, ex_eq, or_true, true_or, imp_eq, pN_bool, pN_int, pN_str, pN_gbool, pN_gint, pN_gstr, gpN_some, lbK_true, lbK_false, lnK_none, lnK_some, glbK_some, lenF, oneCells, deqs, deq, D.sk, List.take_succ_cons, List.take_zero, List.drop_zero, List.drop_succ_cons, List.take_nil, List.drop_nil, Option.isSome_some, Nat.mul_zero, Nat.zero_mul, all_ex, all_exc, ex_ex, ex_exc, ex_btrue, pagg, allD, bin_and, bin_or, bin_xor, bin_shl, bin_shr, ints_1, ints_2, minI_2, maxI_2, buildV, fillP, dcells, dcell, List.map_append, List.cons_append, List.drop_append_of_le_length, List.take_append_of_le_length, List.getElem?_map, retP, retO, dropObs_nil, dropObs_apply, contains_cons', Bool.or_false, Bool.false_or, Bool.or_true, Bool.true_or, Nat.reduceBEq, Bool.false_eq_true, indexV, bsize, List.size_toArray, maxLen_eq, op_lookup, op_nilCheck, op_slice, op_makeFunc, op_glookup, op_gnilCheck, op_gslice, op_makeMap, op_insert, op_mapUpdate, op_mapEntry, op_entryStore, lookupV, nilCheckV, sliceV, boundV, makeFuncV, makeMapE, mapUpdE, mapEntE, mapStoE, plainTI, Option.map_none, lapp_nil, lapp_cons, Int.reduceToNat, Int.toNat_zero, Int.toNat_one, ty_r, E11_r, Point.getD, Point.row, Point.d, Point.of2, Point.drows, Cell.getD, Cell.row, Cell.d, Cell.of2, Cell.drows, Band.getD, Band.row, Band.d, Band.of2, Band.drows, Place.getD, Place.row, Place.d, Place.of2, Place.drows, Link.getD, Link.row, Link.d, Link.of2, Link.drows, Town.getD, Town.row, Town.d, Town.of2, Town.drows, Shelter.getD, Shelter.row, Shelter.d, Shelter.of2, Shelter.drows, Gauge.getD, Gauge.row, Gauge.d, Gauge.of2, Gauge.drows, Road.getD, Road.row, Road.d, Road.of2, Road.drows, Basin.getD, Basin.row, Basin.d, Basin.of2, Basin.drows, Claim.getD, Claim.row, Claim.d, Claim.of2, Claim.drows, Grant.getD, Grant.row, Grant.d, Grant.of2, Grant.drows, Entry.getD, Entry.row, Entry.d, Entry.of2, Entry.drows, Report.getD, Report.row, Report.d, Report.of2, Report.drows, Triple.getD, Triple.row, Triple.d, Triple.of2, Triple.drows, Posting.getD, Posting.row, Posting.d, Posting.of2, Posting.drows, irow, srow, lrow, igetD, sgetD, lgetD, idrows, sdrows, h83, h82, h81, h16, h14, h64, h63, h62, h3, h8, h12, ho14, ho3, ho101, ho22, litV, lit1g, appE, appR, rowsV, rowNew]
      intro x hx
      simp only [Named] at hx
      refine ⟨fun hxt => ?_, fun hxf => ?_⟩
      · have hlt2 : j < (R.length : Int) := by subst hx; simpa using hxt
        have hj2 : j.toNat < R.length := by omega
        have hq := hrc (R.getD j.toNat 0) (by rw [List.getD_eq_getElem?_getD, List.getElem?_eq_getElem hj2]; simp)
        have hfo2 := foldTake (subAt g) L R j.toNat 0 hj2
        rw [hLL] at hfo2
        generalize R.getD j.toNat 0 = q at hq hfo2
        refine ⟨⟨hj0, hlt2⟩, hq, by omega, hq, by omega, ghost_id ⟨((R.length : Int) - (j + 1)).toNat, by omega, j + 1, by omega, by omega, rfl, ?_, h82, h81, h16, h14, h64, h63, h62, h3, h8, h12, ?_, ?_, ?_, ?_⟩⟩
        · simp only [upd_apply, Nat.reduceEqDiff, ↓reduceIte]; rw [wrap64 (by omega) (by omega)]
        · simp only [setOb, Nat.reduceEqDiff, ↓reduceIte, ho14]; rfl
        · simp only [setOb, Nat.reduceEqDiff, ↓reduceIte, ho3]; rfl
        · simp only [setOb, Nat.reduceEqDiff, ↓reduceIte, ho101]
        · simp only [setOb, ↓reduceIte, ho22, iset]
          rw [show (j + 1).toNat = j.toNat + 1 by omega, hfo2]
          rfl
      · have hge : R.take j.toNat = R := List.take_of_length_le (by subst hx; simp at hxf; omega)
        rw [hge] at hLL
        refine ⟨by omega, ghost_id ⟨((ro.length : Int) - (k + 1)).toNat, by omega, k + 1, G ++ [⟨c.Id, g⟩], LL, v + 1, by omega, by omega, rfl, ?_, hLj, ?_, ?_, h63, h62, h3, h8, ?_, ?_, ?_, ?_⟩⟩
        · rw [show (k + 1).toNat = k.toNat + 1 by omega, hfo, hLL]
        · simp only [List.length_append, List.length_cons, List.length_nil]; omega
        · simp only [upd_apply, Nat.reduceEqDiff, ↓reduceIte]; rw [wrap64 (by omega) (by omega)]
        · simp only [newOb, Nat.reduceEqDiff, ↓reduceIte, ho3]; rfl
        · simp only [newOb, Nat.reduceEqDiff, ↓reduceIte, ho22]
        · simp only [upd_apply, Nat.reduceEqDiff, ↓reduceIte, List.length_append, List.length_cons, List.length_nil, Nat.zero_add]
        · simp only [newOb, ↓reduceIte, List.map_append, List.map_cons, List.map_nil, ho101]; rfl
  · have e : dayF b.Places ro sup = (G, L) := by
      rw [← hGL, List.take_of_length_le (by subst hx; simp at hxf; omega)]; rfl
    rw [e]
end Go.Proofs.Ytomnjbebgfadoaa.Pi
