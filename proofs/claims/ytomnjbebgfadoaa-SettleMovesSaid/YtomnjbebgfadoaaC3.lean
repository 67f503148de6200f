/- SettleMoves, in the program.
   Conditions: none; lemmas. -/
import Derived.Test.YtomnjbebgfadoaaC1
import Derived.Test.YtomnjbebgfadoaaC2
set_option linter.unusedVariables false
set_option linter.unusedSimpArgs false
namespace Go.Proofs.Ytomnjbebgfadoaa.Pi
open Go Go.RowKit Go.Proofs
set_option maxHeartbeats 4000000
set_option pp.maxSteps 20000
set_option pp.deepTerms.threshold 9
abbrev con4 : Con := .of cSame (fun _ => True) (fun _ rs => rs = [.d (.bool true)]) true
theorem lit0 (te : TI) : litRows te 0 [] = some [] := by
  simp [litRows, elemsFI, fillP, dcells, chunk]
theorem cset (l : List Claim) (k : Nat) (a b c d e f g h i : Int) : (l.map Claim.row).set k [.int .i64 a, .int .i64 b, .int .i64 c, .int .i64 d, .int .i64 e, .int .i64 f, .int .i64 g, .int .i64 h, .int .i64 i] = (l.set k ⟨a, b, c, d, e, f, g, h, i⟩).map Claim.row := by
  rw [List.map_set]; rfl
def moveS (owner : Int) (old : Claim) (s : Int × Int × Int) (e : Entry) : Int × Int × Int := if e.Owner = owner then (IntKind.i64.wrap (s.1 + e.Litres), s.2.1, s.2.2) else if e.Owner = old.Owner then (s.1, IntKind.i64.wrap (s.2.1 + e.Litres), s.2.2) else (s.1, s.2.1, IntKind.i64.wrap (s.2.2 + e.Litres))
theorem map_same {ro : List Claim} (hn : (ro.map (·.Id)).Nodup) {old : Claim} (h : old ∈ ro) : ro.map (other old.Id old.Owner) = ro := by
  have : ∀ c ∈ ro, other old.Id old.Owner c = c := fun c hc => by
    unfold other
    split
    · rename_i e
      have h1 := find_id hn hc
      have h2 := find_id hn h
      rw [e, h2] at h1
      obtain rfl : old = c := by simpa using h1
      rfl
    · rfl
  rw [List.map_congr_left this, List.map_id']
noncomputable def E4 : Env := ((((((((E0.add 7 con7).add 8 con8).add 9 con9).add 10 con10).add 11 con11).add 12 con12).add 14 con14).add 15 con15).at 194 (fun d => d == 62) (fun d => d) (fun d => true)
theorem E4_ok : EnvOk E4 := ((((((((E0_ok.add Try.func7 rfl rfl ok7).add Try.func8 rfl rfl ok8).add Try.func9 rfl rfl ok9).add Try.func10 rfl rfl ok10).add Try.func11 rfl rfl ok11).add Try.func12 rfl rfl ok12).add Try.func14 rfl rfl ok14).add Try.func15 rfl rfl ok15).at _ _ _ _
theorem E4_r : E4.ty = E0.ty ∧ (E4.con 7 = some con7 ∧ E4.icon 7 = none) ∧ (E4.con 8 = some con8 ∧ E4.icon 8 = none) ∧ (E4.con 9 = some con9 ∧ E4.icon 9 = none) ∧ (E4.con 10 = some con10 ∧ E4.icon 10 = none) ∧ (E4.con 11 = some con11 ∧ E4.icon 11 = none) ∧ (E4.con 12 = some con12 ∧ E4.icon 12 = none) ∧ (E4.con 14 = some con14 ∧ E4.icon 14 = none) ∧ (E4.con 15 = some con15 ∧ E4.icon 15 = none) ∧ E4.own 62 = true ∧ E4.own 91 = false ∧ E4.fact 47 = true ∧ E4.fact 58 = true ∧ E4.fact 113 = true ∧ E4.fact 118 = true ∧ E4.fact 176 = true ∧ (∀ d, E4.key d = d) := ⟨rfl, ⟨rfl, rfl⟩, ⟨rfl, rfl⟩, ⟨rfl, rfl⟩, ⟨rfl, rfl⟩, ⟨rfl, rfl⟩, ⟨rfl, rfl⟩, ⟨rfl, rfl⟩, ⟨rfl, rfl⟩, rfl, rfl, rfl, rfl, rfl, rfl, rfl, fun _ => rfl⟩

set_option maxRecDepth 20000 in
theorem ok4 : ConOk Try.prog 4 con4 := by
  refine con_of (E := E4) E4_ok (fn := Try.f4) Try.func4 rfl (by decide) (by kernel_rfl) (rs := [.tmp 10]) rfl (by decide) (by decide) [.data 4]  (fun _ _ => ⟨_, rfl⟩) boolFlat ?_
  rintro ⟨b, ro, sup, w, owner⟩ _
  simp (maxSteps := 1000000) only [startP_eq, startL, List.map_cons, List.map_nil, run_skip, run_region, run_seq, run_cond, run_block, run_exit, run_ret, run_loop, opsK_nil, opsK_op, seqK_normal, seqK_exit, seqK_ret, blkK_normal, blkK_exit, blkK_ret, loopK_normal, loopK_exit, loopK_ret, endP_ret, endP_normal, condK_bool, condK_opt, upd_apply, after_some, after_none, ev_tmp, ev_int, ev_bool, ev_str, ev_nils, ev_func, St.sv, St.sc, strip, stripC, argsC, pK_none, pK_some, gpK_some, pmap_some, gK, gB_bool, gB_opt, op_move, op_assign, op_gmove, op_gassign, on_pick, on_bin, op_un, op_conv, op_ext, op_load, op_fa, op_f, op_ia, op_i, op_build, on_gpick, on_gbin, op_gun, op_gconv, op_gext, op_gload, op_gfa, op_gf, op_gia, op_gi, op_gbuild, op_len, op_glen, op_min, op_max, minK, maxK, bin_add, bin_sub, bin_mul, bin_quo, bin_rem, bin_eql, bin_neq, bin_lss, bin_leq, bin_gtr, bin_geq, bin_str, bin_bool, bin_agg, pick_b, unV, sbin, eK_some, emap_some, op_alloc, op_box, op_store, op_make, op_app, op_lit, lK_true, lK_false, op_call, op_gcall, cgK_some, iK_some, iK2_none, iK2_some, cK_some, cK2_some, conK_flat, conK_gflat, conK_own, conK_void, icallInfo_func, callInfo_func, ciK_some, snapVs_nil, snapVs_cons, outK, outL, outM, resPs, resP, rvsOf, rvOf, snapV, snapC, sepB, ownKs, dataKs, keysV, keysC, nodupB, packP, RV.flatP, extV, Option.bind_some, Option.map_some, true_implies, true_and, and_true, implies_true, ↓reduceIte, Nat.reduceEqDiff, reduceCtorEq, Nat.reduceAdd, Nat.reduceMul, Nat.reduceSub, Nat.reduceLT, Nat.reduceLeDiff, Nat.zero_add, Nat.add_zero, List.all_nil, List.append_nil, List.nil_append, List.flatMap_cons, List.flatMap_nil, Bool.and_self, List.getElem?_toArray, List.getElem?_cons_succ, List.getElem?_cons_zero, beq_true, beq_false, beq_self_eq_true, Bool.and_true, Bool.true_and, Bool.not_eq_true', Bool.and_eq_true, decide_eq_true_eq, decide_eq_false_iff_not, List.contains_nil, Bool.not_false, Bool.not_true, List.toList_toArray, at_n, of_pre, of_post, of_flat, cod0_enc, cod0_dec, cod1_enc, cod1_dec, codC_enc, codC_dec, dInt_int, dBool_bool, dStr_str, dAgg_agg, dLst_lst, dRows_nil, dRows_cons, some_ex, some_ex1, imp_self, and_self, Env.tk, loadV, fieldAddrV, indexAddrV, lenV, loadD, loadP, allocE, boxE, storeE, St.obj, TI.isAgg, getD_map, plainTI, zpv, cellsP, refNew, newOb, setOb, cut, List.getD_cons_zero, List.getD_cons_succ, List.length_cons, List.length_nil, List.length_map, ex_bool, all_bool, ex_eq, or_true, true_or, imp_eq, pN_bool, pN_int, pN_str, pN_gbool, pN_gint, pN_gstr, gpN_some, lbK_true, lbK_false, lnK_none, lnK_some, glbK_some, lenF, oneCells, deqs, deq, D.sk, List.take_succ_cons, List.take_zero, List.drop_zero, List.drop_succ_cons, List.take_nil, List.drop_nil, Option.isSome_some, Nat.mul_zero, Nat.zero_mul, all_ex, all_exc, ex_ex, ex_exc, ex_btrue, pagg, allD, bin_and, bin_or, bin_xor, bin_shl, bin_shr, ints_1, ints_2, minI_2, maxI_2, buildV, fillP, dcells, dcell, List.map_append, List.cons_append, List.drop_append_of_le_length, List.take_append_of_le_length, List.getElem?_map, retP, retO, dropObs_nil, dropObs_apply, contains_cons', Bool.or_false, Bool.false_or, Bool.or_true, Bool.true_or, Nat.reduceBEq, Bool.false_eq_true, indexV, bsize, List.size_toArray, maxLen_eq, op_lookup, op_nilCheck, op_slice, op_makeFunc, op_glookup, op_gnilCheck, op_gslice, op_makeMap, op_insert, op_mapUpdate, op_mapEntry, op_entryStore, lookupV, nilCheckV, sliceV, boundV, makeFuncV, makeMapE, mapUpdE, mapEntE, mapStoE, plainTI, Option.map_none, lapp_nil, lapp_cons, Int.reduceToNat, Int.toNat_zero, Int.toNat_one, ty_r, E4_r, Point.getD, Point.row, Point.d, Point.of2, Point.drows, Cell.getD, Cell.row, Cell.d, Cell.of2, Cell.drows, Band.getD, Band.row, Band.d, Band.of2, Band.drows, Place.getD, Place.row, Place.d, Place.of2, Place.drows, Link.getD, Link.row, Link.d, Link.of2, Link.drows, Town.getD, Town.row, Town.d, Town.of2, Town.drows, Shelter.getD, Shelter.row, Shelter.d, Shelter.of2, Shelter.drows, Gauge.getD, Gauge.row, Gauge.d, Gauge.of2, Gauge.drows, Road.getD, Road.row, Road.d, Road.of2, Road.drows, Basin.getD, Basin.row, Basin.d, Basin.of2, Basin.drows, Claim.getD, Claim.row, Claim.d, Claim.of2, Claim.drows, Grant.getD, Grant.row, Grant.d, Grant.of2, Grant.drows, Entry.getD, Entry.row, Entry.d, Entry.of2, Entry.drows, Report.getD, Report.row, Report.d, Report.of2, Report.drows, Triple.getD, Triple.row, Triple.d, Triple.of2, Triple.drows, Posting.getD, Posting.row, Posting.d, Posting.of2, Posting.drows, irow, srow, lrow, igetD, sgetD, lgetD, idrows, sdrows, zvp, litE, lit0, litV, lit1c, appE, appR, rowsV, rowNew, cset, Claim.drows, Option.bind_some, Option.map_some]
  refine ⟨⟨(), trivial⟩, fun _ x hx x1 hx1 b1 hb1 x2 hx2 b2 hb2 b3 hb3 b4 hb4 => ?_⟩
  simp only [Named] at hb1 hb2 hb3 hb4
  intro _ b5 hb5 b6 hb6 b7 hb7 b8 hb8 _ b9 hb9 b10 hb10 hf
  simp only [Named] at hb5 hb6 hb7 hb8 hb9 hb10
  have hc : x = true ∧ x1 = true ∧ 0 ≤ w ∧ w < (ro.length : Int) ∧ 0 ≤ owner ∧ owner < (b.Owners.length : Int) := by subst_vars; grind
  obtain ⟨hxt, hx1t, hw0, hwl, ho0, hol⟩ := hc
  obtain ⟨hp1, -, hp3, -, -, -⟩ := hx hxt
  obtain ⟨hpl, hnd⟩ := hx1 hx1t
  simp only at hp1 hp3
  clear hx hx1 hx2 hb1 hb2 hb3 hb4 hb5 hb6 hb7 hb8 hb9 hb10 hf hxt hx1t
  have hw : w.toNat < ro.length := by omega
  have hold : ro.getD w.toNat .zero ∈ ro := by
    have : ro.getD w.toNat .zero = ro[w.toNat] := by simp [hw]
    rw [this]; exact List.getElem_mem hw
  have hset : ro.set w.toNat ⟨(ro.getD w.toNat .zero).Id, owner, (ro.getD w.toNat .zero).Date, (ro.getD w.toNat .zero).Place, (ro.getD w.toNat .zero).Rate, (ro.getD w.toNat .zero).From, (ro.getD w.toNat .zero).Until, (ro.getD w.toNat .zero).Back, (ro.getD w.toNat .zero).BackTo⟩ = ro.map (other (ro.getD w.toNat .zero).Id owner) := by
    have : ro.getD w.toNat .zero = ro[w.toNat] := by simp [hw]
    rw [this]; exact set_other hnd hw owner
  rw [hset]
  generalize hg : ro.getD w.toNat .zero = old at hold
  have hpo := hpl old hold
  obtain ⟨hlit, hri⟩ := day_ok b.Places ro sup
  have hdo := day_other b.Places ro sup old.Id owner
  have hG := dayF_len b.Places ro ([], dayLeft b.Places sup b.Places.length)
  change (dayF b.Places ro sup).1.length = 0 + ro.length at hG
  simp only [hdo]
  generalize dayF b.Places ro sup = GL at hlit hri hG
  have hlen : (ro.map (other old.Id owner)).length = ro.length := by simp
  refine ⟨by omega, ⟨hw0, hwl⟩, hw, ⟨hw0, hwl⟩, ⟨by omega, by omega⟩, ⟨by omega, by omega, by omega, by omega⟩, fun r hr => ⟨fun h => (by rw [hr trivial] at h; cases h), fun _ b1 hb1 b2 hb2 b3 hb3 => ?_⟩⟩
  simp only [Named] at hb1 hb2 hb3
  by_cases hown : owner = old.Owner
  · have e : corrF 5 1 ro (ro.map (other old.Id owner)) GL.1 GL.1 = [] := by rw [hown, map_same hnd hold, corr_same]
    rw [e]
    refine ⟨fun h3 hl b4 hb4 b5 hb5 => ?_, fun h3 => ?_⟩
    · simp only [Named] at hb4 hb5
      subst hb5 hb4; rfl
    · subst hb3 hb2; simp [hown] at h3
  obtain ⟨n, hn0, hn1, hsh, hcf⟩ := corr_moves 5 1 hnd hold hri hlit hown
  rw [hsh] at hb1
  rw [hsh, hcf]
  by_cases hz : n = 0
  · rw [if_pos hz]
    refine ⟨fun h3 hl b4 hb4 b5 hb5 => ?_, fun h3 => ?_⟩
    · simp only [Named] at hb4 hb5
      subst hb5 hb4; rfl
    · subst hb3 hb1; simp [hz] at h3
  rw [if_neg hz]
  refine ⟨fun h3 => ?_, fun h3 => ?_⟩
  · subst hb3 hb1 hb2; simp [hz, hown] at h3
  clear hb1 hb2 hb3 h3 hcf hsh
  have hF : ∀ e ∈ ([⟨5, 1, owner, old.Place, n, 1, old.Id⟩, ⟨5, 1, -1, old.Place, -n, 1, old.Id⟩, ⟨5, 1, old.Owner, old.Place, -n, 1, old.Id⟩, ⟨5, 1, -1, old.Place, n, 1, old.Id⟩] : List Entry), e.Place = old.Place ∧ e.Ref = old.Id := by simp
  have hE : ([⟨5, 1, owner, old.Place, n, 1, old.Id⟩, ⟨5, 1, -1, old.Place, -n, 1, old.Id⟩, ⟨5, 1, old.Owner, old.Place, -n, 1, old.Id⟩, ⟨5, 1, -1, old.Place, n, 1, old.Id⟩] : List Entry).foldl (moveS owner old) (0, 0, 0) = (n, -n, 0) := by
    have o1 : (-1 : Int) ≠ owner := by omega
    have o2 : (-1 : Int) ≠ old.Owner := by have := hpo.1; omega
    have o3 : old.Owner ≠ owner := fun e => hown e.symm
    have w1 : IntKind.i64.wrap n = n := wrap64 (by omega) hn1
    have w2 : IntKind.i64.wrap (-n) = -n := wrap64 (by omega) (by omega)
    have w3 : IntKind.i64.wrap 0 = 0 := rfl
    have w4 : -n + n = 0 := by omega
    simp only [List.foldl_cons, List.foldl_nil, moveS, if_true, o1, o2, o3, if_false, Int.zero_add, w1, w2, w4, w3]
  have hL : ([⟨5, 1, owner, old.Place, n, 1, old.Id⟩, ⟨5, 1, -1, old.Place, -n, 1, old.Id⟩, ⟨5, 1, old.Owner, old.Place, -n, 1, old.Id⟩, ⟨5, 1, -1, old.Place, n, 1, old.Id⟩] : List Entry).length = 4 := rfl
  generalize ([⟨5, 1, owner, old.Place, n, 1, old.Id⟩, ⟨5, 1, -1, old.Place, -n, 1, old.Id⟩, ⟨5, 1, old.Owner, old.Place, -n, 1, old.Id⟩, ⟨5, 1, -1, old.Place, n, 1, old.Id⟩] : List Entry) = F at hF hE hL
  refine pwp_loop (fun m S => ∃ i : Int, 0 ≤ i ∧ i ≤ (F.length : Int) ∧ m = ((F.length : Int) - i).toNat ∧ S.t 22 = .d (.int .i64 i) ∧ S.t 17 = .d (.lst 7 (F.map Entry.row)) ∧ S.t 13 = .ref 13 1 0 0 0 ∧ S.o 13 = (1, some (.box 49 (old.row.map PV.d))) ∧ S.t 4 = .d (.int .i64 owner) ∧ S.t 18 = .d (.int .i64 n) ∧ S.t 11 = .d (.bool true)
      ∧ S.t 19 = .d (.int .i64 ((F.take i.toNat).foldl (moveS owner old) (0, 0, 0)).1) ∧ S.t 20 = .d (.int .i64 ((F.take i.toNat).foldl (moveS owner old) (0, 0, 0)).2.1) ∧ S.t 21 = .d (.int .i64 ((F.take i.toNat).foldl (moveS owner old) (0, 0, 0)).2.2)) ((F.length : Int) - 0).toNat ⟨0, by omega, by omega, rfl, rfl, rfl, rfl, rfl, rfl, rfl, rfl, rfl, rfl, rfl⟩ ?_
  clear hlit hri hG
  rintro m ⟨t, o⟩ ⟨i, hi0, hil, hm, h22, h17, h13, ho13, h4, h18, h11, h19, h20, h21⟩
  simp only at h22 h17 h13 ho13 h4 h18 h11 h19 h20 h21
  by_cases hlt : i < (F.length : Int)
  · have hi2 : i.toNat < F.length := by omega
    have hfo := foldTake (moveS owner old) (0, 0, 0) F i.toNat .zero hi2
    have hFe := hF (F.getD i.toNat .zero) (by rw [List.getD_eq_getElem?_getD, List.getElem?_eq_getElem hi2]; simp)
    generalize (F.take i.toNat).foldl (moveS owner old) (0, 0, 0) = s at hfo h19 h20 h21
    simp (maxSteps := 1000000) only [startP_eq, startL, List.map_cons, List.map_nil, run_skip, run_region, run_seq, run_cond, run_block, run_exit, run_ret, run_loop, opsK_nil, opsK_op, seqK_normal, seqK_exit, seqK_ret, blkK_normal, blkK_exit, blkK_ret, loopK_normal, loopK_exit, loopK_ret, endP_ret, endP_normal, condK_bool, condK_opt, upd_apply, after_some, after_none, ev_tmp, ev_int, ev_bool, ev_str, ev_nils, ev_func, St.sv, St.sc, strip, stripC, argsC, pK_none, pK_some, gpK_some, pmap_some, gK, gB_bool, gB_opt, op_move, op_assign, op_gmove, op_gassign, on_pick, on_bin, op_un, op_conv, op_ext, op_load, op_fa, op_f, op_ia, op_i, op_build, on_gpick, on_gbin, op_gun, op_gconv, op_gext, op_gload, op_gfa, op_gf, op_gia, op_gi, op_gbuild, op_len, op_glen, op_min, op_max, minK, maxK, bin_add, bin_sub, bin_mul, bin_quo, bin_rem, bin_eql, bin_neq, bin_lss, bin_leq, bin_gtr, bin_geq, bin_str, bin_bool, bin_agg, pick_b, unV, sbin, eK_some, emap_some, op_alloc, op_box, op_store, op_make, op_app, op_lit, lK_true, lK_false, op_call, op_gcall, cgK_some, iK_some, iK2_none, iK2_some, cK_some, cK2_some, conK_flat, conK_gflat, conK_own, conK_void, icallInfo_func, callInfo_func, ciK_some, snapVs_nil, snapVs_cons, outK, outL, outM, resPs, resP, rvsOf, rvOf, snapV, snapC, sepB, ownKs, dataKs, keysV, keysC, nodupB, packP, RV.flatP, extV, Option.bind_some, Option.map_some, true_implies, true_and, and_true, implies_true, ↓reduceIte, Nat.reduceEqDiff, reduceCtorEq, Nat.reduceAdd, Nat.reduceMul, Nat.reduceSub, Nat.reduceLT, Nat.reduceLeDiff, Nat.zero_add, Nat.add_zero, List.all_nil, List.append_nil, List.nil_append, List.flatMap_cons, List.flatMap_nil, Bool.and_self, List.getElem?_toArray, List.getElem?_cons_succ, List.getElem?_cons_zero, beq_true, beq_false, beq_self_eq_true, Bool.and_true, Bool.true_and, Bool.not_eq_true', Bool.and_eq_true, decide_eq_true_eq, decide_eq_false_iff_not, List.contains_nil, Bool.not_false, Bool.not_true, List.toList_toArray, at_n, of_pre, of_post, of_flat, cod0_enc, cod0_dec, cod1_enc, cod1_dec, codC_enc, codC_dec, dInt_int, dBool_bool, dStr_str, dAgg_agg, dLst_lst, dRows_nil, dRows_cons, some_ex, some_ex1, imp_self, and_self, Env.tk, loadV, fieldAddrV, indexAddrV, lenV, loadD, loadP, allocE, boxE, storeE, St.obj, TI.isAgg, getD_map, plainTI, zpv, cellsP, refNew, newOb, setOb, cut, List.getD_cons_zero, List.getD_cons_succ, List.length_cons, List.length_nil, List.length_map, ex_bool, all_bool, ex_eq, or_true, true_or, imp_eq, pN_bool, pN_int, pN_str, pN_gbool, pN_gint, pN_gstr, gpN_some, lbK_true, lbK_false, lnK_none, lnK_some, glbK_some, lenF, oneCells, deqs, deq, D.sk, List.take_succ_cons, List.take_zero, List.drop_zero, List.drop_succ_cons, List.take_nil, List.drop_nil, Option.isSome_some, Nat.mul_zero, Nat.zero_mul, all_ex, all_exc, ex_ex, ex_exc, ex_btrue, pagg, allD, bin_and, bin_or, bin_xor, bin_shl, bin_shr, ints_1, ints_2, minI_2, maxI_2, buildV, fillP, dcells, dcell, List.map_append, List.cons_append, List.drop_append_of_le_length, List.take_append_of_le_length, List.getElem?_map, retP, retO, dropObs_nil, dropObs_apply, contains_cons', Bool.or_false, Bool.false_or, Bool.or_true, Bool.true_or, Nat.reduceBEq, Bool.false_eq_true, indexV, bsize, List.size_toArray, maxLen_eq, op_lookup, op_nilCheck, op_slice, op_makeFunc, op_glookup, op_gnilCheck, op_gslice, op_makeMap, op_insert, op_mapUpdate, op_mapEntry, op_entryStore, lookupV, nilCheckV, sliceV, boundV, makeFuncV, makeMapE, mapUpdE, mapEntE, mapStoE, plainTI, Option.map_none, lapp_nil, lapp_cons, Int.reduceToNat, Int.toNat_zero, Int.toNat_one, ty_r, E4_r, Point.getD, Point.row, Point.d, Point.of2, Point.drows, Cell.getD, Cell.row, Cell.d, Cell.of2, Cell.drows, Band.getD, Band.row, Band.d, Band.of2, Band.drows, Place.getD, Place.row, Place.d, Place.of2, Place.drows, Link.getD, Link.row, Link.d, Link.of2, Link.drows, Town.getD, Town.row, Town.d, Town.of2, Town.drows, Shelter.getD, Shelter.row, Shelter.d, Shelter.of2, Shelter.drows, Gauge.getD, Gauge.row, Gauge.d, Gauge.of2, Gauge.drows, Road.getD, Road.row, Road.d, Road.of2, Road.drows, Basin.getD, Basin.row, Basin.d, Basin.of2, Basin.drows, Claim.getD, Claim.row, Claim.d, Claim.of2, Claim.drows, Grant.getD, Grant.row, Grant.d, Grant.of2, Grant.drows, Entry.getD, Entry.row, Entry.d, Entry.of2, Entry.drows, Report.getD, Report.row, Report.d, Report.of2, Report.drows, Triple.getD, Triple.row, Triple.d, Triple.of2, Triple.drows, Posting.getD, Posting.row, Posting.d, Posting.of2, Posting.drows, irow, srow, lrow, igetD, sgetD, lgetD, idrows, sdrows, h22, h17, h13, ho13, h4, h18, h11, h19, h20, h21]
    generalize F.getD i.toNat .zero = e at hfo hFe
    intro _ y0 hy0
    simp only [Named] at hy0
    refine ⟨fun _ => ⟨⟨hi0, hlt⟩, fun y1 hy1 => ⟨fun h => ⟨h, hi0, hlt⟩, fun y2 hy2 y3 hy3 => ⟨fun h => ?_, fun h => ⟨⟨hi0, hlt⟩, fun y4 hy4 => ⟨fun h5 => ⟨⟨hi0, hlt⟩, ?_⟩, fun h5 y5 hy5 => ⟨fun h6 => ⟨⟨hi0, hlt⟩, ?_⟩, fun h6 => ⟨⟨hi0, hlt⟩, ?_⟩⟩⟩⟩⟩⟩⟩, fun h => ?_⟩
    · exfalso; simp only [Named] at hy1 hy2 hy3; subst hy3 hy2 hy1; simp [hFe.1, hFe.2] at h
    · simp only [Named] at hy4
      have o1 : e.Owner = owner := by subst hy4; simpa using h5
      refine ghost_id ⟨((F.length : Int) - (i + 1)).toNat, by omega, i + 1, by omega, by omega, rfl, ?_, h17, h13, ho13, h4, h18, h11, ?_, ?_, ?_⟩
      · simp only [upd_apply, Nat.reduceEqDiff, ↓reduceIte]; rw [wrap64 (by omega) (by omega)]
      all_goals (rw [show (i + 1).toNat = i.toNat + 1 by omega, hfo]; unfold moveS; rw [if_pos o1]; simp only [upd_apply, Nat.reduceEqDiff, ↓reduceIte, h19, h20, h21])
    · simp only [Named] at hy4 hy5
      have o1 : ¬e.Owner = owner := by subst hy4; simpa using h5
      have o2 : e.Owner = old.Owner := by subst hy5; simpa using h6
      refine ghost_id ⟨((F.length : Int) - (i + 1)).toNat, by omega, i + 1, by omega, by omega, rfl, ?_, h17, h13, ho13, h4, h18, h11, ?_, ?_, ?_⟩
      · simp only [upd_apply, Nat.reduceEqDiff, ↓reduceIte]; rw [wrap64 (by omega) (by omega)]
      all_goals (rw [show (i + 1).toNat = i.toNat + 1 by omega, hfo]; unfold moveS; rw [if_neg o1, if_pos o2]; simp only [upd_apply, Nat.reduceEqDiff, ↓reduceIte, h19, h20, h21])
    · simp only [Named] at hy4 hy5
      have o1 : ¬e.Owner = owner := by subst hy4; simpa using h5
      have o2 : ¬e.Owner = old.Owner := by subst hy5; simpa using h6
      refine ghost_id ⟨((F.length : Int) - (i + 1)).toNat, by omega, i + 1, by omega, by omega, rfl, ?_, h17, h13, ho13, h4, h18, h11, ?_, ?_, ?_⟩
      · simp only [upd_apply, Nat.reduceEqDiff, ↓reduceIte]; rw [wrap64 (by omega) (by omega)]
      all_goals (rw [show (i + 1).toNat = i.toNat + 1 by omega, hfo]; unfold moveS; rw [if_neg o1, if_neg o2]; simp only [upd_apply, Nat.reduceEqDiff, ↓reduceIte, h19, h20, h21])
    · subst hy0; simp [hlt] at h
  · have hge : F.take i.toNat = F := List.take_of_length_le (by omega)
    rw [hge, hE] at h19 h20 h21
    have hdec : decide (i < (F.length : Int)) = false := by simp; omega
    simp (maxSteps := 1000000) only [startP_eq, startL, List.map_cons, List.map_nil, run_skip, run_region, run_seq, run_cond, run_block, run_exit, run_ret, run_loop, opsK_nil, opsK_op, seqK_normal, seqK_exit, seqK_ret, blkK_normal, blkK_exit, blkK_ret, loopK_normal, loopK_exit, loopK_ret, endP_ret, endP_normal, condK_bool, condK_opt, upd_apply, after_some, after_none, ev_tmp, ev_int, ev_bool, ev_str, ev_nils, ev_func, St.sv, St.sc, strip, stripC, argsC, pK_none, pK_some, gpK_some, pmap_some, gK, gB_bool, gB_opt, op_move, op_assign, op_gmove, op_gassign, on_pick, on_bin, op_un, op_conv, op_ext, op_load, op_fa, op_f, op_ia, op_i, op_build, on_gpick, on_gbin, op_gun, op_gconv, op_gext, op_gload, op_gfa, op_gf, op_gia, op_gi, op_gbuild, op_len, op_glen, op_min, op_max, minK, maxK, bin_add, bin_sub, bin_mul, bin_quo, bin_rem, bin_eql, bin_neq, bin_lss, bin_leq, bin_gtr, bin_geq, bin_str, bin_bool, bin_agg, pick_b, unV, sbin, eK_some, emap_some, op_alloc, op_box, op_store, op_make, op_app, op_lit, lK_true, lK_false, op_call, op_gcall, cgK_some, iK_some, iK2_none, iK2_some, cK_some, cK2_some, conK_flat, conK_gflat, conK_own, conK_void, icallInfo_func, callInfo_func, ciK_some, snapVs_nil, snapVs_cons, outK, outL, outM, resPs, resP, rvsOf, rvOf, snapV, snapC, sepB, ownKs, dataKs, keysV, keysC, nodupB, packP, RV.flatP, extV, Option.bind_some, Option.map_some, true_implies, true_and, and_true, implies_true, ↓reduceIte, Nat.reduceEqDiff, reduceCtorEq, Nat.reduceAdd, Nat.reduceMul, Nat.reduceSub, Nat.reduceLT, Nat.reduceLeDiff, Nat.zero_add, Nat.add_zero, List.all_nil, List.append_nil, List.nil_append, List.flatMap_cons, List.flatMap_nil, Bool.and_self, List.getElem?_toArray, List.getElem?_cons_succ, List.getElem?_cons_zero, beq_true, beq_false, beq_self_eq_true, Bool.and_true, Bool.true_and, Bool.not_eq_true', Bool.and_eq_true, decide_eq_true_eq, decide_eq_false_iff_not, List.contains_nil, Bool.not_false, Bool.not_true, List.toList_toArray, at_n, of_pre, of_post, of_flat, cod0_enc, cod0_dec, cod1_enc, cod1_dec, codC_enc, codC_dec, dInt_int, dBool_bool, dStr_str, dAgg_agg, dLst_lst, dRows_nil, dRows_cons, some_ex, some_ex1, imp_self, and_self, Env.tk, loadV, fieldAddrV, indexAddrV, lenV, loadD, loadP, allocE, boxE, storeE, St.obj, TI.isAgg, getD_map, plainTI, zpv, cellsP, refNew, newOb, setOb, cut, List.getD_cons_zero, List.getD_cons_succ, List.length_cons, List.length_nil, List.length_map, ex_bool, all_bool, ex_eq, or_true, true_or, imp_eq, pN_bool, pN_int, pN_str, pN_gbool, pN_gint, pN_gstr, gpN_some, lbK_true, lbK_false, lnK_none, lnK_some, glbK_some, lenF, oneCells, deqs, deq, D.sk, List.take_succ_cons, List.take_zero, List.drop_zero, List.drop_succ_cons, List.take_nil, List.drop_nil, Option.isSome_some, Nat.mul_zero, Nat.zero_mul, all_ex, all_exc, ex_ex, ex_exc, ex_btrue, pagg, allD, bin_and, bin_or, bin_xor, bin_shl, bin_shr, ints_1, ints_2, minI_2, maxI_2, buildV, fillP, dcells, dcell, List.map_append, List.cons_append, List.drop_append_of_le_length, List.take_append_of_le_length, List.getElem?_map, retP, retO, dropObs_nil, dropObs_apply, contains_cons', Bool.or_false, Bool.false_or, Bool.or_true, Bool.true_or, Nat.reduceBEq, Bool.false_eq_true, indexV, bsize, List.size_toArray, maxLen_eq, op_lookup, op_nilCheck, op_slice, op_makeFunc, op_glookup, op_gnilCheck, op_gslice, op_makeMap, op_insert, op_mapUpdate, op_mapEntry, op_entryStore, lookupV, nilCheckV, sliceV, boundV, makeFuncV, makeMapE, mapUpdE, mapEntE, mapStoE, plainTI, Option.map_none, lapp_nil, lapp_cons, Int.reduceToNat, Int.toNat_zero, Int.toNat_one, ty_r, E4_r, Point.getD, Point.row, Point.d, Point.of2, Point.drows, Cell.getD, Cell.row, Cell.d, Cell.of2, Cell.drows, Band.getD, Band.row, Band.d, Band.of2, Band.drows, Place.getD, Place.row, Place.d, Place.of2, Place.drows, Link.getD, Link.row, Link.d, Link.of2, Link.drows, Town.getD, Town.row, Town.d, Town.of2, Town.drows, Shelter.getD, Shelter.row, Shelter.d, Shelter.of2, Shelter.drows, Gauge.getD, Gauge.row, Gauge.d, Gauge.of2, Gauge.drows, Road.getD, Road.row, Road.d, Road.of2, Road.drows, Basin.getD, Basin.row, Basin.d, Basin.of2, Basin.drows, Claim.getD, Claim.row, Claim.d, Claim.of2, Claim.drows, Grant.getD, Grant.row, Grant.d, Grant.of2, Grant.drows, Entry.getD, Entry.row, Entry.d, Entry.of2, Entry.drows, Report.getD, Report.row, Report.d, Report.of2, Report.drows, Triple.getD, Triple.row, Triple.d, Triple.of2, Triple.drows, Posting.getD, Posting.row, Posting.d, Posting.of2, Posting.drows, irow, srow, lrow, igetD, sgetD, lgetD, idrows, sdrows, wint, h22, h17, h13, ho13, h4, h18, h11, h19, h20, h21, hdec]
    have wn : IntKind.i64.wrap (0 - n) = -n := by rw [wrap64 (by omega) (by omega)]; omega
    simp only [hL, wn]
    simp [Named]
end Go.Proofs.Ytomnjbebgfadoaa.Pi
