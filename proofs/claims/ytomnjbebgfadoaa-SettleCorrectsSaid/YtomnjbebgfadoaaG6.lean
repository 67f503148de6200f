/- The course of reports, in the program.
   Conditions: none; lemmas. -/
import Derived.Test.YtomnjbebgfadoaaG5
section
set_option linter.unusedVariables false
set_option linter.unusedSimpArgs false
namespace Go.Proofs.Ytomnjbebgfadoaa.Pi
open Go Go.RowKit Go.Proofs
set_option maxHeartbeats 4000000
abbrev con17 : Con := .of cRep (fun a => a.2.length ≤ 5 ∧ ∀ r ∈ a.2, soundR a.1 r) (fun a rs => rs = [.d (.lst 7 ((booksF a.1 a.2 a.2.length).map Entry.row)), .d (.lst 2 ((if a.2 = [] then [] else dayG a.1 (a.2.getD (a.2.length - 1) .zero)).map Grant.row)), .d (.bool true)]) false
theorem dayG_eq (b : Basin) (r : Report) : (dayF b.Places r.Roster r.Supply).1 = dayG b r := rfl
theorem booksF_row (b : Basin) (l : List Report) (i : Nat) : (booksF b l i).map Entry.row ++ (stepE b l i).map Entry.row = (booksF b l (i + 1)).map Entry.row := by rw [booksF, List.map_append]
theorem booksF_nil {b : Basin} {l : List Report} {i : Nat} (h : stepE b l i = []) : booksF b l (i + 1) = booksF b l i := by rw [booksF, h, List.append_nil]
theorem len_nil {b : Basin} {l : List Report} {i : Nat} (h : (((stepE b l i).length : Int) == 0) = true) : stepE b l i = [] := by simpa using h
theorem len_cons {b : Basin} {l : List Report} {i : Nat} (h : (((stepE b l i).length : Int) == 0) = false) : stepE b l i ≠ [] := by simpa using h
theorem wrap_succ {i : Nat} (h : i ≤ 1000) : IntKind.i64.wrap ((i : Int) + 1) = ((i + 1 : Nat) : Int) := by rw [wrap64 (by omega) (by omega)]; omega
noncomputable def E17 : Env := ((((E0.add 11 con11).add 12 con12).add 13 con13).add 26 con26).at 81 (fun d => false) (fun d => d) (fun d => true)
theorem E17_ok : EnvOk E17 := ((((E0_ok.add Try.func11 rfl rfl ok11).add Try.func12 rfl rfl ok12).add Try.func13 rfl rfl ok13).add Try.func26 rfl rfl ok26).at _ _ _ _
theorem E17_r : E17.ty = E0.ty ∧ (E17.con 11 = some con11 ∧ E17.icon 11 = none) ∧ (E17.con 12 = some con12 ∧ E17.icon 12 = none) ∧ (E17.con 13 = some con13 ∧ E17.icon 13 = none) ∧ (E17.con 26 = some con26 ∧ E17.icon 26 = none) ∧ E17.fact 15 = true ∧ E17.fact 68 = true ∧ (∀ d, E17.key d = d) := ⟨rfl, ⟨rfl, rfl⟩, ⟨rfl, rfl⟩, ⟨rfl, rfl⟩, ⟨rfl, rfl⟩, rfl, rfl, fun _ => rfl⟩

set_option maxRecDepth 20000 in
theorem ok17 : ConOk Try.prog 17 con17 := by
  refine con_of (E := E17) E17_ok (fn := Try.f17) Try.func17 rfl (by decide) (by kernel_rfl) (rs := [.tmp 4, .tmp 5, .tmp 6]) rfl (by decide) (by decide) [.data 40, .data 37, .data 4]  (fun _ _ => ⟨_, rfl⟩) (by simp) ?_
  rintro ⟨b, l⟩ ⟨h5, hs⟩
  simp only at h5 hs
  simp (maxSteps := 1000000) only [startP_eq, startL, List.map_cons, List.map_nil, run_region, run_seq, run_block, run_loop, opsK_nil, opsK_op, seqK_normal, upd_apply, after_some, ev_tmp, ev_int, ev_bool, ev_nils, St.sv, St.sc, strip, stripC, op_assign, eK_some, emap_some, op_box, true_and, ↓reduceIte, Nat.zero_add, cod1_enc, codC_enc, and_self, boxE, cellsP, refNew, ty_r, E17_r, Basin.row, Basin.d]
  refine pwp_loop (fun n S => ∃ i : Nat, i ≤ l.length ∧ n = l.length - i ∧ S.t 9 = .d (.int .i64 i) ∧ S.t 1 = .d (.lst 2 (l.map Report.row)) ∧ S.t 2 = .ref 2 1 0 0 0 ∧ S.o 2 = (1, some (.box 31 (b.row.map PV.d))) ∧ (S.t 7 = .d (.lst 7 ((booksF b l i).map Entry.row)) ∨ S.t 7 = .nils ∧ booksF b l i = []) ∧ (i = 0 ∧ S.t 8 = .nils ∨ ∃ j, i = j + 1 ∧ S.t 8 = .d (.lst 2 ((dayG b (l.getD j .zero)).map Grant.row)))) l.length ⟨0, by omega, by omega, rfl, rfl, rfl, rfl, .inr ⟨rfl, rfl⟩, .inl ⟨rfl, rfl⟩⟩ ?_
  rintro n ⟨t, o⟩ ⟨i, hil, hn, h9, h1, h2, ho2, h7, h8⟩
  simp only at h9 h1 h2 ho2 h7 h8
  by_cases hlt : i < l.length
  · have hd : decide ((i : Int) < (l.length : Int)) = true := by simpa using hlt
    have hsi := getD_sound hs hlt
    have hpo := fun h => post_ok hs h5 hlt h
    have hG := dayG_len hsi
    have hpl := hsi.1.1
    have hro := hsi.1.2.2.1
    simp only at hpl hro
    rcases h8 with ⟨rfl, h8⟩ | ⟨j, rfl, h8⟩
    · have hz : (((0 : Nat) : Int) == 0) = true := rfl
      have hst' : grantsF 5 ((0 : Nat) : Int) (l.getD 0 .zero).Roster (dayG b (l.getD 0 .zero)) = stepE b l 0 := rfl
      rcases h7 with h7 | ⟨h7, hb⟩
      · simp only [List.map_cons, List.map_nil, run_skip, run_region, run_seq, run_cond, run_block, run_exit, run_ret, opsK_nil, opsK_op, seqK_normal, seqK_exit, seqK_ret, blkK_normal, blkK_exit, blkK_ret, loopK_normal, loopK_exit, loopK_ret, endP_ret, condK_bool, upd_apply, after_some, ev_tmp, ev_int, ev_bool, ev_nils, St.sv, St.sc, strip, stripC, argsC, pK_none, pmap_some, op_move, op_assign, op_bin, op_ext, op_load, op_fa, op_ia, op_len, bin_add, bin_sub, bin_eql, bin_neq, bin_lss, op_call, iK_some, iK2_none, cK_some, cK2_some, conK_own, icallInfo_func, callInfo_func, ciK_some, snapVs_nil, snapVs_cons, outK, outL, outM, resPs, resP, rvsOf, rvOf, snapV, snapC, sepB, ownKs, dataKs, keysV, keysC, nodupB, packP, extV, Option.bind_some, Option.map_some, true_implies, true_and, and_true, ↓reduceIte, Nat.reduceEqDiff, reduceCtorEq, Nat.reduceAdd, Nat.reduceLT, Nat.reduceLeDiff, Nat.zero_add, Nat.add_zero, List.all_nil, List.append_nil, List.flatMap_cons, List.flatMap_nil, Bool.and_self, List.getElem?_cons_succ, List.getElem?_cons_zero, List.contains_nil, Bool.not_false, of_pre, of_post, of_flat, cod1_dec, codC_dec, dInt_int, dAgg_agg, dLst_lst, dRows_nil, some_ex, and_self, Env.tk, loadV, fieldAddrV, indexAddrV, lenV, loadD, loadP, St.obj, TI.isAgg, List.getD_cons_zero, List.getD_cons_succ, List.length_cons, List.length_nil, List.length_map, imp_eq, lbK_true, lnK_none, lenF, List.take_succ_cons, List.drop_zero, List.take_nil, Nat.mul_zero, pagg, allD, List.map_append, retP, retO, dropObs_nil, Bool.false_eq_true, maxLen_eq, ty_r, E17_r, Basin.row, Basin.of2, Claim.drows, Grant.drows, Entry.drows, Report.getD, Report.row, idrows, h9, h1, h2, ho2, h7, h8, hd, hz, Int.toNat_natCast, dayG_eq, hst', false_implies, booksF_row, bne_self_eq_false]
        refine fun _ => ⟨by omega, by omega, ⟨by omega, by omega⟩, by omega, ⟨by omega, by omega⟩, fun _ => ⟨fun he => ?_, fun he => ⟨?_, ?_⟩⟩⟩
        · refine ghost_id ⟨l.length - (0 + 1), by omega, 0 + 1, by omega, rfl, ?_, h1, h2, ho2, .inl (by rw [booksF_nil (len_nil he)]; exact h7), .inr ⟨0, rfl, rfl⟩⟩
          simp only [upd_apply, ↓reduceIte]; rw [wrap_succ (by omega)]
        · exact hpo (len_cons he)
        · refine ghost_id ⟨l.length - (0 + 1), by omega, 0 + 1, by omega, rfl, ?_, h1, h2, ho2, .inl rfl, .inr ⟨0, rfl, rfl⟩⟩
          simp only [upd_apply, ↓reduceIte]; rw [wrap_succ (by omega)]
      · simp only [List.map_cons, List.map_nil, run_skip, run_region, run_seq, run_cond, run_block, run_exit, run_ret, opsK_nil, opsK_op, seqK_normal, seqK_exit, seqK_ret, blkK_normal, blkK_exit, blkK_ret, loopK_normal, loopK_exit, loopK_ret, endP_ret, condK_bool, upd_apply, after_some, ev_tmp, ev_int, ev_bool, ev_nils, St.sv, St.sc, strip, stripC, argsC, pK_none, pmap_some, op_move, op_assign, op_bin, op_ext, op_load, op_fa, op_ia, op_len, bin_add, bin_sub, bin_eql, bin_neq, bin_lss, op_call, iK_some, iK2_none, cK_some, cK2_some, conK_own, icallInfo_func, callInfo_func, ciK_some, snapVs_nil, snapVs_cons, outK, outL, outM, resPs, resP, rvsOf, rvOf, snapV, snapC, sepB, ownKs, dataKs, keysV, keysC, nodupB, packP, extV, Option.bind_some, Option.map_some, true_implies, true_and, and_true, ↓reduceIte, Nat.reduceEqDiff, reduceCtorEq, Nat.reduceAdd, Nat.reduceLT, Nat.reduceLeDiff, Nat.zero_add, Nat.add_zero, List.all_nil, List.append_nil, List.nil_append, List.flatMap_cons, List.flatMap_nil, Bool.and_self, List.getElem?_cons_succ, List.getElem?_cons_zero, List.contains_nil, Bool.not_false, of_pre, of_post, of_flat, cod1_dec, codC_dec, dInt_int, dAgg_agg, dLst_lst, dRows_nil, some_ex, and_self, Env.tk, loadV, fieldAddrV, indexAddrV, lenV, loadD, loadP, St.obj, TI.isAgg, List.getD_cons_zero, List.getD_cons_succ, List.length_cons, List.length_nil, List.length_map, imp_eq, lbK_true, lnK_none, lenF, List.take_succ_cons, List.drop_zero, List.take_nil, Nat.mul_zero, pagg, allD, List.map_append, retP, retO, dropObs_nil, Bool.false_eq_true, maxLen_eq, ty_r, E17_r, Basin.row, Basin.of2, Claim.drows, Grant.drows, Entry.drows, Report.getD, Report.row, idrows, h9, h1, h2, ho2, h7, h8, hd, hz, Int.toNat_natCast, dayG_eq, hst', false_implies, bne_self_eq_false]
        refine fun _ => ⟨by omega, by omega, ⟨by omega, by omega⟩, by omega, ⟨by omega, by omega⟩, fun _ => ⟨fun he => ?_, fun he => ⟨?_, ?_⟩⟩⟩
        · refine ghost_id ⟨l.length - (0 + 1), by omega, 0 + 1, by omega, rfl, ?_, h1, h2, ho2, .inr ⟨h7, by rw [booksF_nil (len_nil he)]; exact hb⟩, .inr ⟨0, rfl, rfl⟩⟩
          simp only [upd_apply, ↓reduceIte]; rw [wrap_succ (by omega)]
        · have := hpo (len_cons he); rwa [hb] at this
        · refine ghost_id ⟨l.length - (0 + 1), by omega, 0 + 1, by omega, rfl, ?_, h1, h2, ho2, .inl (by rw [booksF, hb]; rfl), .inr ⟨0, rfl, rfl⟩⟩
          simp only [upd_apply, ↓reduceIte]; rw [wrap_succ (by omega)]
    · have hz : (((j + 1 : Nat) : Int) == 0) = false := by simp; omega
      have hw : IntKind.i64.wrap (((j + 1 : Nat) : Int) - 1) = (j : Int) := by rw [wrap64 (by omega) (by omega)]; omega
      have hst' : corrF 5 ((j + 1 : Nat) : Int) (l.getD j .zero).Roster (l.getD (j + 1) .zero).Roster (dayG b (l.getD j .zero)) (dayG b (l.getD (j + 1) .zero)) = stepE b l (j + 1) := rfl
      have hsj := getD_sound hs (i := j) (by omega)
      have hGj := dayG_len hsj
      have hroj := hsj.1.2.2.1
      simp only at hroj
      rcases h7 with h7 | ⟨h7, hb⟩
      · simp only [List.map_cons, List.map_nil, run_skip, run_region, run_seq, run_cond, run_block, run_exit, run_ret, opsK_nil, opsK_op, seqK_normal, seqK_exit, seqK_ret, blkK_normal, blkK_exit, blkK_ret, loopK_normal, loopK_exit, loopK_ret, endP_ret, condK_bool, upd_apply, after_some, ev_tmp, ev_int, ev_bool, ev_nils, St.sv, St.sc, strip, stripC, argsC, pK_none, pmap_some, op_move, op_assign, op_bin, op_ext, op_load, op_fa, op_ia, op_len, bin_add, bin_sub, bin_eql, bin_neq, bin_lss, op_call, iK_some, iK2_none, cK_some, cK2_some, conK_own, icallInfo_func, callInfo_func, ciK_some, snapVs_nil, snapVs_cons, outK, outL, outM, resPs, resP, rvsOf, rvOf, snapV, snapC, sepB, ownKs, dataKs, keysV, keysC, nodupB, packP, extV, Option.bind_some, Option.map_some, true_implies, true_and, and_true, ↓reduceIte, Nat.reduceEqDiff, reduceCtorEq, Nat.reduceAdd, Nat.reduceLT, Nat.reduceLeDiff, Nat.zero_add, Nat.add_zero, List.all_nil, List.append_nil, List.flatMap_cons, List.flatMap_nil, Bool.and_self, List.getElem?_cons_succ, List.getElem?_cons_zero, List.contains_nil, Bool.not_false, of_pre, of_post, of_flat, cod1_dec, codC_dec, dInt_int, dAgg_agg, dLst_lst, some_ex, and_self, Env.tk, loadV, fieldAddrV, indexAddrV, lenV, loadD, loadP, St.obj, TI.isAgg, List.getD_cons_zero, List.getD_cons_succ, List.length_cons, List.length_nil, List.length_map, imp_eq, lbK_true, lnK_none, lenF, List.take_succ_cons, List.drop_zero, List.take_nil, Nat.mul_zero, pagg, allD, List.map_append, retP, retO, dropObs_nil, Bool.false_eq_true, maxLen_eq, ty_r, E17_r, Basin.row, Basin.of2, Claim.drows, Grant.drows, Entry.drows, Report.getD, Report.row, idrows, h9, h1, h2, ho2, h7, h8, hd, hz, hw, Int.toNat_natCast, dayG_eq, hst', false_implies, booksF_row, bne_self_eq_false]
        refine fun _ => ⟨by omega, by omega, by omega, ⟨by omega, by omega, by omega, by omega⟩,  fun _ => ⟨fun he => ?_, fun he => ⟨?_, ?_⟩⟩⟩
        · refine ghost_id ⟨l.length - ((j + 1) + 1), by omega, (j + 1) + 1, by omega, rfl, ?_, h1, h2, ho2, .inl (by rw [booksF_nil (len_nil he)]; exact h7), .inr ⟨(j + 1), rfl, rfl⟩⟩
          simp only [upd_apply, ↓reduceIte]; rw [wrap_succ (by omega)]
        · exact hpo (len_cons he)
        · refine ghost_id ⟨l.length - ((j + 1) + 1), by omega, (j + 1) + 1, by omega, rfl, ?_, h1, h2, ho2, .inl rfl, .inr ⟨(j + 1), rfl, rfl⟩⟩
          simp only [upd_apply, ↓reduceIte]; rw [wrap_succ (by omega)]
      · simp only [List.map_cons, List.map_nil, run_skip, run_region, run_seq, run_cond, run_block, run_exit, run_ret, opsK_nil, opsK_op, seqK_normal, seqK_exit, seqK_ret, blkK_normal, blkK_exit, blkK_ret, loopK_normal, loopK_exit, loopK_ret, endP_ret, condK_bool, upd_apply, after_some, ev_tmp, ev_int, ev_bool, ev_nils, St.sv, St.sc, strip, stripC, argsC, pK_none, pmap_some, op_move, op_assign, op_bin, op_ext, op_load, op_fa, op_ia, op_len, bin_add, bin_sub, bin_eql, bin_neq, bin_lss, op_call, iK_some, iK2_none, cK_some, cK2_some, conK_own, icallInfo_func, callInfo_func, ciK_some, snapVs_nil, snapVs_cons, outK, outL, outM, resPs, resP, rvsOf, rvOf, snapV, snapC, sepB, ownKs, dataKs, keysV, keysC, nodupB, packP, extV, Option.bind_some, Option.map_some, true_implies, true_and, and_true, ↓reduceIte, Nat.reduceEqDiff, reduceCtorEq, Nat.reduceAdd, Nat.reduceLT, Nat.reduceLeDiff, Nat.zero_add, Nat.add_zero, List.all_nil, List.append_nil, List.nil_append, List.flatMap_cons, List.flatMap_nil, Bool.and_self, List.getElem?_cons_succ, List.getElem?_cons_zero, List.contains_nil, Bool.not_false, of_pre, of_post, of_flat, cod1_dec, codC_dec, dInt_int, dAgg_agg, dLst_lst, dRows_nil, some_ex, and_self, Env.tk, loadV, fieldAddrV, indexAddrV, lenV, loadD, loadP, St.obj, TI.isAgg, List.getD_cons_zero, List.getD_cons_succ, List.length_cons, List.length_nil, List.length_map, imp_eq, lbK_true, lnK_none, lenF, List.take_succ_cons, List.drop_zero, List.take_nil, Nat.mul_zero, pagg, allD, List.map_append, retP, retO, dropObs_nil, Bool.false_eq_true, maxLen_eq, ty_r, E17_r, Basin.row, Basin.of2, Claim.drows, Grant.drows, Entry.drows, Report.getD, Report.row, idrows, h9, h1, h2, ho2, h7, h8, hd, hz, hw, Int.toNat_natCast, dayG_eq, hst', false_implies, bne_self_eq_false]
        refine fun _ => ⟨by omega, by omega, by omega, ⟨by omega, by omega, by omega, by omega⟩,  fun _ => ⟨fun he => ?_, fun he => ⟨?_, ?_⟩⟩⟩
        · refine ghost_id ⟨l.length - ((j + 1) + 1), by omega, (j + 1) + 1, by omega, rfl, ?_, h1, h2, ho2, .inr ⟨h7, by rw [booksF_nil (len_nil he)]; exact hb⟩, .inr ⟨(j + 1), rfl, rfl⟩⟩
          simp only [upd_apply, ↓reduceIte]; rw [wrap_succ (by omega)]
        · have := hpo (len_cons he); rwa [hb] at this
        · refine ghost_id ⟨l.length - ((j + 1) + 1), by omega, (j + 1) + 1, by omega, rfl, ?_, h1, h2, ho2, .inl (by rw [booksF, hb]; rfl), .inr ⟨(j + 1), rfl, rfl⟩⟩
          simp only [upd_apply, ↓reduceIte]; rw [wrap_succ (by omega)]
  · have hd : decide ((i : Int) < (l.length : Int)) = false := by simpa using hlt
    obtain rfl : i = l.length := by omega
    rcases h8 with ⟨h0, h8⟩ | ⟨j, hj, h8⟩
    · have hl0 : l = [] := List.length_eq_zero_iff.1 h0
      rcases h7 with h7 | ⟨h7, hb⟩
      · simp only [List.map_cons, List.map_nil, run_skip, run_region, run_seq, run_cond, run_block, run_exit, run_ret, opsK_nil, opsK_op, seqK_normal, seqK_exit, seqK_ret, blkK_normal, blkK_exit, blkK_ret, loopK_normal, loopK_exit, loopK_ret, endP_ret, condK_bool, upd_apply, after_some, ev_tmp, ev_int, ev_bool, ev_nils, St.sv, St.sc, strip, stripC, argsC, pK_none, pmap_some, op_move, op_assign, op_bin, op_ext, op_load, op_fa, op_ia, op_len, bin_add, bin_sub, bin_eql, bin_neq, bin_lss, op_call, iK_some, iK2_none, cK_some, cK2_some, conK_own, icallInfo_func, callInfo_func, ciK_some, snapVs_nil, snapVs_cons, outK, outL, outM, resPs, resP, rvsOf, rvOf, snapV, snapC, sepB, ownKs, dataKs, keysV, keysC, nodupB, packP, extV, Option.bind_some, Option.map_some, true_implies, true_and, and_true, ↓reduceIte, Nat.reduceEqDiff, Nat.reduceAdd, Nat.reduceLT, Nat.reduceLeDiff, Nat.zero_add, Nat.add_zero, List.all_nil, List.append_nil, List.flatMap_cons, List.flatMap_nil, Bool.and_self, List.getElem?_cons_succ, List.getElem?_cons_zero, List.contains_nil, Bool.not_false, of_pre, of_post, of_flat, cod1_dec, codC_dec, dInt_int, dAgg_agg, dLst_lst, dRows_nil, some_ex, and_self, Env.tk, loadV, fieldAddrV, indexAddrV, lenV, loadD, loadP, St.obj, TI.isAgg, List.getD_cons_zero, List.getD_cons_succ, List.length_cons, List.length_nil, List.length_map, imp_eq, lbK_true, lnK_none, lenF, List.take_succ_cons, List.drop_zero, List.take_nil, Nat.mul_zero, pagg, allD, List.map_append, retP, retO, dropObs_nil, Bool.false_eq_true, maxLen_eq, ty_r, E17_r, Basin.row, Basin.of2, Claim.drows, Grant.drows, Entry.drows, Report.getD, Report.row, idrows, h9, h1, h2, ho2, h7, h8, hd, false_implies]
        intro _
        rw [if_pos hl0]; rfl
      · simp only [List.map_cons, List.map_nil, run_skip, run_region, run_seq, run_cond, run_block, run_exit, run_ret, opsK_nil, opsK_op, seqK_normal, seqK_exit, seqK_ret, blkK_normal, blkK_exit, blkK_ret, loopK_normal, loopK_exit, loopK_ret, endP_ret, condK_bool, upd_apply, after_some, ev_tmp, ev_int, ev_bool, ev_nils, St.sv, St.sc, strip, stripC, argsC, pK_none, pmap_some, op_move, op_assign, op_bin, op_ext, op_load, op_fa, op_ia, op_len, bin_add, bin_sub, bin_eql, bin_neq, bin_lss, op_call, iK_some, iK2_none, cK_some, cK2_some, conK_own, icallInfo_func, callInfo_func, ciK_some, snapVs_nil, snapVs_cons, outK, outL, outM, resPs, resP, rvsOf, rvOf, snapV, snapC, sepB, ownKs, dataKs, keysV, keysC, nodupB, packP, extV, Option.bind_some, Option.map_some, true_implies, true_and, and_true, ↓reduceIte, Nat.reduceEqDiff, Nat.reduceAdd, Nat.reduceLT, Nat.reduceLeDiff, Nat.zero_add, Nat.add_zero, List.all_nil, List.append_nil, List.nil_append, List.flatMap_cons, List.flatMap_nil, Bool.and_self, List.getElem?_cons_succ, List.getElem?_cons_zero, List.contains_nil, Bool.not_false, of_pre, of_post, of_flat, cod1_dec, codC_dec, dInt_int, dAgg_agg, dLst_lst, dRows_nil, some_ex, and_self, Env.tk, loadV, fieldAddrV, indexAddrV, lenV, loadD, loadP, St.obj, TI.isAgg, List.getD_cons_zero, List.getD_cons_succ, List.length_cons, List.length_nil, List.length_map, imp_eq, lbK_true, lnK_none, lenF, List.take_succ_cons, List.drop_zero, List.take_nil, Nat.mul_zero, pagg, allD, List.map_append, retP, retO, dropObs_nil, Bool.false_eq_true, maxLen_eq, ty_r, E17_r, Basin.row, Basin.of2, Claim.drows, Grant.drows, Entry.drows, Report.getD, Report.row, idrows, h9, h1, h2, ho2, h7, h8, hd, false_implies]
        intro _
        rw [if_pos hl0, hb]; rfl
    · have hl0 : l ≠ [] := fun h => by rw [h] at hj; simp at hj
      have hjj : l.length - 1 = j := by omega
      rcases h7 with h7 | ⟨h7, hb⟩
      · simp only [List.map_cons, List.map_nil, run_skip, run_region, run_seq, run_cond, run_block, run_exit, run_ret, opsK_nil, opsK_op, seqK_normal, seqK_exit, seqK_ret, blkK_normal, blkK_exit, blkK_ret, loopK_normal, loopK_exit, loopK_ret, endP_ret, condK_bool, upd_apply, after_some, ev_tmp, ev_int, ev_bool, ev_nils, St.sv, St.sc, strip, stripC, argsC, pK_none, pmap_some, op_move, op_assign, op_bin, op_ext, op_load, op_fa, op_ia, op_len, bin_add, bin_sub, bin_eql, bin_neq, bin_lss, op_call, iK_some, iK2_none, cK_some, cK2_some, conK_own, icallInfo_func, callInfo_func, ciK_some, snapVs_nil, snapVs_cons, outK, outL, outM, resPs, resP, rvsOf, rvOf, snapV, snapC, sepB, ownKs, dataKs, keysV, keysC, nodupB, packP, extV, Option.bind_some, Option.map_some, true_implies, true_and, and_true, ↓reduceIte, Nat.reduceEqDiff, Nat.reduceAdd, Nat.reduceLT, Nat.reduceLeDiff, Nat.zero_add, Nat.add_zero, List.all_nil, List.append_nil, List.flatMap_cons, List.flatMap_nil, Bool.and_self, List.getElem?_cons_succ, List.getElem?_cons_zero, List.contains_nil, Bool.not_false, of_pre, of_post, of_flat, cod1_dec, codC_dec, dInt_int, dAgg_agg, dLst_lst, some_ex, and_self, Env.tk, loadV, fieldAddrV, indexAddrV, lenV, loadD, loadP, St.obj, TI.isAgg, List.getD_cons_zero, List.getD_cons_succ, List.length_cons, List.length_nil, List.length_map, imp_eq, lbK_true, lnK_none, lenF, List.take_succ_cons, List.drop_zero, List.take_nil, Nat.mul_zero, pagg, allD, List.map_append, retP, retO, dropObs_nil, Bool.false_eq_true, maxLen_eq, ty_r, E17_r, Basin.row, Basin.of2, Claim.drows, Grant.drows, Entry.drows, Report.getD, Report.row, idrows, h9, h1, h2, ho2, h7, h8, hd, false_implies]
        intro _
        rw [if_neg hl0, hjj]
      · simp only [List.map_cons, List.map_nil, run_skip, run_region, run_seq, run_cond, run_block, run_exit, run_ret, opsK_nil, opsK_op, seqK_normal, seqK_exit, seqK_ret, blkK_normal, blkK_exit, blkK_ret, loopK_normal, loopK_exit, loopK_ret, endP_ret, condK_bool, upd_apply, after_some, ev_tmp, ev_int, ev_bool, ev_nils, St.sv, St.sc, strip, stripC, argsC, pK_none, pmap_some, op_move, op_assign, op_bin, op_ext, op_load, op_fa, op_ia, op_len, bin_add, bin_sub, bin_eql, bin_neq, bin_lss, op_call, iK_some, iK2_none, cK_some, cK2_some, conK_own, icallInfo_func, callInfo_func, ciK_some, snapVs_nil, snapVs_cons, outK, outL, outM, resPs, resP, rvsOf, rvOf, snapV, snapC, sepB, ownKs, dataKs, keysV, keysC, nodupB, packP, extV, Option.bind_some, Option.map_some, true_implies, true_and, and_true, ↓reduceIte, Nat.reduceEqDiff, Nat.reduceAdd, Nat.reduceLT, Nat.reduceLeDiff, Nat.zero_add, Nat.add_zero, List.all_nil, List.append_nil, List.nil_append, List.flatMap_cons, List.flatMap_nil, Bool.and_self, List.getElem?_cons_succ, List.getElem?_cons_zero, List.contains_nil, Bool.not_false, of_pre, of_post, of_flat, cod1_dec, codC_dec, dInt_int, dAgg_agg, dLst_lst, dRows_nil, some_ex, and_self, Env.tk, loadV, fieldAddrV, indexAddrV, lenV, loadD, loadP, St.obj, TI.isAgg, List.getD_cons_zero, List.getD_cons_succ, List.length_cons, List.length_nil, List.length_map, imp_eq, lbK_true, lnK_none, lenF, List.take_succ_cons, List.drop_zero, List.take_nil, Nat.mul_zero, pagg, allD, List.map_append, retP, retO, dropObs_nil, Bool.false_eq_true, maxLen_eq, ty_r, E17_r, Basin.row, Basin.of2, Claim.drows, Grant.drows, Entry.drows, Report.getD, Report.row, idrows, h9, h1, h2, ho2, h7, h8, hd, false_implies]
        intro _
        rw [if_neg hl0, hjj, hb]; rfl
end Go.Proofs.Ytomnjbebgfadoaa.Pi
end
section
/- What is known in an hour does not change, in the program.
   Conditions: none; lemmas. -/
set_option linter.unusedVariables false
set_option linter.unusedSimpArgs false
namespace Go.Proofs.Ytomnjbebgfadoaa.Pi
open Go Go.RowKit Go.Proofs
set_option maxHeartbeats 4000000
abbrev cKeep : Cod (Basin × List Report × Int) := codC Basin.d (dAgg Basin.of) Basin.diff (codC (fun l => .lst 2 (l.map Report.row)) (dLst 2 Report.of) (fun _ _ => dLst_iff Report.iff) cI)
theorem cKeep_enc (a : Basin × List Report × Int) : cKeep.enc a = [a.1.d, .lst 2 (a.2.1.map Report.row), .int .i64 a.2.2] := rfl
abbrev con5 : Con := .of cKeep (fun _ => True) (fun _ rs => rs = [.d (.bool true)]) true
theorem acc_keep {b : Basin} {l : List Report} (h : ∀ r ∈ l, soundR b r) (h5 : l.length ≤ 5) {k : Nat} (hk : k ≤ l.length) (o p : Int) : accF (booksF b l k) (5, 16777216, o, p) = accF (booksF b l l.length) (5, (k : Int) - 1, o, p) := by
  have e : ∀ (L : List Entry) (kn : Int), L.filter (mean (5, kn, o, p)) = (L.filter (fun e => decide (e.Known ≤ kn))).filter (fun e => decide (e.Day ≤ 5) && ((o == -1 || e.Owner == o) && (p == -1 || e.Place == p))) := by
    intro L kn
    rw [List.filter_filter]
    refine List.filter_congr fun x _ => ?_
    simp only [mean, meant]
    cases decide (x.Day ≤ 5) <;> cases decide (x.Known ≤ kn) <;> simp
  unfold accF
  congr 2
  rw [e, e (booksF b l l.length), booksF_known b l k _ hk]
  have hb := (books_ok h h5 hk).2
  have e1 : (booksF b l k).filter (fun e => decide (e.Known ≤ 16777216)) = booksF b l k := List.filter_eq_self.2 fun x hx => by have := (hb x hx).1; simp; omega
  have e2 : (booksF b l k).filter (fun e => decide (e.Known ≤ (k : Int) - 1)) = booksF b l k := List.filter_eq_self.2 fun x hx => by have := (hb x hx).1; simp; omega
  rw [e1, e2]
theorem books_litR {b : Basin} {l : List Report} (h : ∀ r ∈ l, soundR b r) (h5 : l.length ≤ 5) {k : Nat} (hk : k ≤ l.length) : (booksF b l k).length ≤ 1000000 ∧ litR (booksF b l k) := by
  have hb := books_ok h h5 hk
  refine ⟨by omega, fun e he => ?_⟩
  have := (hb.2 e he).2
  omega
noncomputable def E5 : Env := ((((E0.add 7 con7).add 16 con16).add 17 con17).add 18 con18).at 80 (fun d => false) (fun d => d) (fun d => true)
theorem E5_ok : EnvOk E5 := ((((E0_ok.add Try.func7 rfl rfl ok7).add Try.func16 rfl rfl ok16).add Try.func17 rfl rfl ok17).add Try.func18 rfl rfl ok18).at _ _ _ _
theorem E5_r : E5.ty = E0.ty ∧ (E5.con 7 = some con7 ∧ E5.icon 7 = none) ∧ (E5.con 16 = some con16 ∧ E5.icon 16 = none) ∧ (E5.con 17 = some con17 ∧ E5.icon 17 = none) ∧ (E5.con 18 = some con18 ∧ E5.icon 18 = none) ∧ E5.own 36 = false ∧ E5.fact 22 = true ∧ E5.fact 57 = true ∧ E5.fact 64 = true ∧ (∀ d, E5.key d = d) := ⟨rfl, ⟨rfl, rfl⟩, ⟨rfl, rfl⟩, ⟨rfl, rfl⟩, ⟨rfl, rfl⟩, rfl, rfl, rfl, rfl, fun _ => rfl⟩

set_option maxRecDepth 20000 in
theorem ok5 : ConOk Try.prog 5 con5 := by
  refine con_of (E := E5) E5_ok (fn := Try.f5) Try.func5 rfl (by decide) (by kernel_rfl) (rs := [.tmp 6]) rfl (by decide) (by decide) [.data 4]  (fun _ _ => ⟨_, rfl⟩) boolFlat ?_
  rintro ⟨b, l, n⟩ _
  by_cases hg1 : n < 1
  · have hd1 : decide (n < 1) = true := by simpa using hg1
    simp only [startP_eq, startL, List.map_cons, List.map_nil, run_skip, run_region, run_seq, run_cond, run_block, run_ret, run_loop, opsK_nil, opsK_op, seqK_normal, seqK_ret, endP_ret, condK_bool, upd_apply, after_some, ev_tmp, ev_int, ev_bool, St.sv, St.sc, strip, stripC, argsC, pK_none, pK_some, gpK_some, pmap_some, gK, gB_bool, op_move, op_assign, op_gmove, op_pick, op_bin, op_un, op_ext, op_load, op_gbin, op_gun, op_gload, op_glen, bin_lss, bin_gtr, pick_b, unV, eK_some, emap_some, op_box, op_call, op_gcall, cgK_some, iK_some, iK2_none, cK_some, cK2_some, conK_flat, conK_gflat, conK_own, icallInfo_func, callInfo_func, ciK_some, snapVs_nil, snapVs_cons, outK, outL, outM, resPs, resP, rvsOf, rvOf, snapV, snapC, sepB, ownKs, dataKs, keysV, keysC, nodupB, packP, RV.flatP, extV, Option.bind_some, Option.map_some, true_implies, true_and, and_true, implies_true, ↓reduceIte, Nat.reduceEqDiff, reduceCtorEq, Nat.reduceAdd, Nat.reduceLeDiff, Nat.zero_add, Nat.add_zero, List.all_nil, List.append_nil, List.flatMap_cons, List.flatMap_nil, Bool.and_self, List.getElem?_toArray, List.getElem?_cons_succ, List.getElem?_cons_zero, beq_false, beq_self_eq_true, List.contains_nil, Bool.not_false, Bool.not_true, of_pre, of_post, of_flat, cod0_dec, cod1_enc, cod1_dec, codC_enc, codC_dec, dAgg_agg, dLst_lst, some_ex, some_ex1, imp_self, and_self, Env.tk, loadV, lenV, loadP, boxE, St.obj, TI.isAgg, cellsP, refNew, newOb, List.length_cons, List.length_nil, List.length_map, or_true, imp_eq, lbK_true, lnK_some, glbK_some, lenF, List.take_succ_cons, List.drop_zero, List.take_nil, Nat.mul_zero, all_ex, all_exc, ex_exc, ex_btrue, pagg, allD, retP, retO, dropObs_nil, Bool.false_eq_true, maxLen_eq, op_slice, sliceV, boundV, Option.map_none, sK_false, ty_r, E5_r, Basin.row, Basin.d, Basin.of2, Report.drows, hd1]
    simp
  by_cases hg2 : (l.length : Int) < n
  · have hd1 : decide (n < 1) = false := by simpa using hg1
    have hd2 : decide (n > (l.length : Int)) = true := by simpa using hg2
    simp only [startP_eq, startL, List.map_cons, List.map_nil, run_skip, run_region, run_seq, run_cond, run_block, run_ret, run_loop, opsK_nil, opsK_op, seqK_normal, seqK_ret, endP_ret, condK_bool, upd_apply, after_some, ev_tmp, ev_int, ev_bool, St.sv, St.sc, strip, stripC, argsC, pK_none, pK_some, gpK_some, pmap_some, gK, gB_bool, op_move, op_assign, op_gmove, op_pick, op_bin, op_un, op_ext, op_load, op_gbin, op_gun, op_gload, op_glen, bin_lss, bin_gtr, pick_b, unV, eK_some, emap_some, op_box, op_call, op_gcall, cgK_some, iK_some, iK2_none, cK_some, cK2_some, conK_flat, conK_gflat, conK_own, icallInfo_func, callInfo_func, ciK_some, snapVs_nil, snapVs_cons, outK, outL, outM, resPs, resP, rvsOf, rvOf, snapV, snapC, sepB, ownKs, dataKs, keysV, keysC, nodupB, packP, RV.flatP, extV, Option.bind_some, Option.map_some, true_implies, true_and, and_true, implies_true, ↓reduceIte, Nat.reduceEqDiff, reduceCtorEq, Nat.reduceAdd, Nat.reduceLeDiff, Nat.zero_add, Nat.add_zero, List.all_nil, List.append_nil, List.flatMap_cons, List.flatMap_nil, Bool.and_self, List.getElem?_toArray, List.getElem?_cons_succ, List.getElem?_cons_zero, beq_false, beq_self_eq_true, List.contains_nil, Bool.not_false, Bool.not_true, of_pre, of_post, of_flat, cod0_dec, cod1_enc, cod1_dec, codC_enc, codC_dec, dAgg_agg, dLst_lst, some_ex, some_ex1, imp_self, and_self, Env.tk, loadV, lenV, loadP, boxE, St.obj, TI.isAgg, cellsP, refNew, newOb, List.length_cons, List.length_nil, List.length_map, or_true, imp_eq, lbK_true, lnK_some, glbK_some, lenF, List.take_succ_cons, List.drop_zero, List.take_nil, Nat.mul_zero, all_ex, all_exc, ex_exc, ex_btrue, pagg, allD, retP, retO, dropObs_nil, Bool.false_eq_true, maxLen_eq, op_slice, sliceV, boundV, Option.map_none, sK_false, ty_r, E5_r, Basin.row, Basin.d, Basin.of2, Report.drows, hd1, hd2]
    simp
  obtain ⟨k, rfl⟩ : ∃ k : Nat, n = (k : Int) := ⟨n.toNat, by omega⟩
  have hk1 : 1 ≤ k := by omega
  have hk2 : k ≤ l.length := by omega
  have hd1 : decide ((k : Int) < 1) = false := by simp; omega
  have hd2 : decide ((k : Int) > (l.length : Int)) = false := by simp; omega
  have ht : dRows Report.of ((l.map Report.row).take k) = some (l.take k) := by
    rw [← List.map_take]
    exact (dLst_iff (sz := 2) Report.iff (d := .lst 2 ((l.take k).map Report.row))).2 rfl
  have htl : (l.take k).length = k := by simp; omega
  have hbt : booksF b (l.take k) k = booksF b l k := booksF_take b l (Nat.le_refl k)
  simp only [startP_eq, startL, List.map_cons, List.map_nil, run_skip, run_region, run_seq, run_cond, run_block, run_ret, run_loop, opsK_nil, opsK_op, seqK_normal, seqK_ret, endP_ret, condK_bool, upd_apply, after_some, ev_tmp, ev_int, ev_bool, St.sv, St.sc, strip, stripC, argsC, pK_none, pK_some, gpK_some, pmap_some, gK, gB_bool, op_move, op_assign, op_gmove, op_pick, op_bin, op_un, op_ext, op_load, op_gbin, op_gun, op_gload, op_glen, bin_lss, bin_gtr, pick_b, unV, eK_some, emap_some, op_box, op_call, op_gcall, cgK_some, iK_some, iK2_none, cK_some, cK2_some, conK_flat, conK_gflat, conK_own, icallInfo_func, callInfo_func, ciK_some, snapVs_nil, snapVs_cons, outK, outL, outM, resPs, resP, rvsOf, rvOf, snapV, snapC, sepB, ownKs, dataKs, keysV, keysC, nodupB, packP, RV.flatP, extV, Option.bind_some, Option.map_some, true_implies, true_and, and_true, implies_true, ↓reduceIte, Nat.reduceEqDiff, reduceCtorEq, Nat.reduceAdd, Nat.reduceLeDiff, Nat.zero_add, Nat.add_zero, List.all_nil, List.append_nil, List.nil_append, List.flatMap_cons, List.flatMap_nil, Bool.and_self, List.getElem?_toArray, List.getElem?_cons_succ, List.getElem?_cons_zero, beq_self_eq_true, Bool.not_eq_true', List.contains_nil, Bool.not_false, Bool.not_true, of_pre, of_post, of_flat, cod0_dec, cod1_enc, cod1_dec, codC_enc, codC_dec, dAgg_agg, dLst_lst, some_ex, some_ex1, and_self, Env.tk, loadV, lenV, loadP, boxE, St.obj, TI.isAgg, cellsP, refNew, newOb, List.length_cons, List.length_nil, List.length_map, or_true, imp_eq, lbK_true, lnK_some, glbK_some, lenF, List.take_succ_cons, List.drop_zero, List.take_nil, Nat.mul_zero, all_ex, all_exc, ex_exc, ex_btrue, pagg, allD, retP, retO, dropObs_nil, Bool.false_eq_true, maxLen_eq, op_slice, sliceV, boundV, Option.map_none, Int.toNat_zero, sK_false, ty_r, E5_r, Basin.row, Basin.d, Basin.of2, Report.drows, hd1, hd2, List.drop_zero, Int.toNat_natCast, ht, htl, hbt, Option.getD_none, Option.getD_some, Option.toList_none, Option.toList_some, List.append_nil, List.nil_append]
  refine ⟨⟨(), trivial⟩, fun _ h9 x hx hx2 => ?_⟩
  obtain ⟨h5, hs⟩ := hx (by simpa using hx2)
  refine ⟨⟨by omega, by omega, by omega⟩, ⟨by omega, fun r hr => hs r (List.mem_of_mem_take hr)⟩, ⟨h5, hs⟩, fun h => h.elim, ?_⟩
  have hacc := fun o p => acc_keep hs h5 hk2 o p
  have hbk := books_litR hs h5 hk2
  have hbl := books_litR hs h5 (Nat.le_refl l.length)
  refine pwp_loop (fun n S => ∃ i : Int, -1 ≤ i ∧ n = ((b.Owners.length : Int) - i).toNat ∧ S.t 14 = .d (.int .i64 i) ∧ S.t 8 = .d (.lst 7 ((booksF b l k).map Entry.row)) ∧ S.t 11 = .d (.lst 7 ((booksF b l l.length).map Entry.row)) ∧ S.t 2 = .d (.int .i64 k) ∧ S.t 3 = .ref 3 1 0 0 0 ∧ S.t 7 = .d (.bool true) ∧ S.o 3 = (1, some (.box 31 (b.row.map PV.d)))) ((b.Owners.length : Int) - (-1)).toNat ⟨-1, by omega, rfl, rfl, rfl, rfl, rfl, rfl, rfl, rfl⟩ ?_
  rintro n ⟨t, o⟩ ⟨i, hi0, hn, h14, h8, h11, h2, h3, h7, ho3⟩
  simp only at h14 h8 h11 h2 h3 h7 ho3
  simp only [List.map_cons, List.map_nil, run_skip, run_region, run_seq, run_cond, run_block, run_exit, run_ret, run_loop, opsK_nil, opsK_op, seqK_normal, seqK_exit, blkK_exit, loopK_exit, endP_ret, condK_bool, upd_apply, after_some, ev_tmp, ev_int, St.sv, St.sc, strip, stripC, pK_none, pmap_some, op_move, op_assign, op_bin, op_load, op_fa, op_len, bin_lss, outK, outL, outM, resPs, resP, rvsOf, rvOf, snapV, snapC, sepB, ownKs, dataKs, keysV, keysC, nodupB, Option.bind_some, Option.map_some, true_and, and_true, implies_true, ↓reduceIte, Nat.reduceEqDiff, Nat.reduceAdd, Nat.reduceLT, Nat.zero_add, List.all_nil, List.append_nil, Bool.and_self, List.getElem?_cons_succ, List.getElem?_cons_zero, decide_eq_true_eq, decide_eq_false_iff_not, List.contains_nil, Bool.not_false, and_self, Env.tk, loadV, fieldAddrV, lenV, loadP, St.obj, TI.isAgg, List.getD_cons_zero, List.getD_cons_succ, List.length_cons, List.length_nil, List.length_map, lbK_true, lnK_none, lenF, Nat.mul_zero, Bool.false_eq_true, maxLen_eq, ty_r, E5_r, Basin.row, h14, h3, h7, ho3]
  intro hol hlt
  refine pwp_loop (fun n S => ∃ j : Int, -1 ≤ j ∧ n = ((b.Places.length : Int) - j).toNat ∧ S.t 15 = .d (.int .i64 j) ∧ S.t 14 = .d (.int .i64 i) ∧ S.t 8 = .d (.lst 7 ((booksF b l k).map Entry.row)) ∧ S.t 11 = .d (.lst 7 ((booksF b l l.length).map Entry.row)) ∧ S.t 2 = .d (.int .i64 k) ∧ S.t 3 = .ref 3 1 0 0 0 ∧ S.t 7 = .d (.bool true) ∧ S.o 3 = (1, some (.box 31 (b.row.map PV.d)))) ((b.Places.length : Int) - (-1)).toNat ⟨-1, by omega, rfl, rfl, h14, h8, h11, h2, h3, h7, ho3⟩ ?_
  clear h14 h8 h11 h2 h3 h7 ho3
  rintro m ⟨t, o⟩ ⟨j, hj0, hm, h15, h14, h8, h11, h2, h3, h7, ho3⟩
  simp only at h15 h14 h8 h11 h2 h3 h7 ho3
  have hw : IntKind.i64.wrap ((k : Int) - 1) = (k : Int) - 1 := wrap64 (by omega) (by omega)
  simp only [List.map_cons, List.map_nil, run_skip, run_region, run_seq, run_cond, run_block, run_exit, run_ret, opsK_nil, opsK_op, seqK_normal, seqK_exit, seqK_ret, blkK_normal, blkK_exit, blkK_ret, loopK_normal, loopK_exit, loopK_ret, endP_ret, condK_bool, upd_apply, after_some, ev_tmp, ev_int, ev_bool, St.sv, St.sc, strip, stripC, argsC, pK_none, pmap_some, op_move, op_assign, op_bin, op_load, op_fa, op_len, bin_add, bin_sub, bin_neq, bin_lss, op_call, iK_some, iK2_none, cK_some, cK2_some, conK_flat, icallInfo_func, callInfo_func, ciK_some, snapVs_nil, snapVs_cons, outK, outL, outM, resPs, resP, rvsOf, rvOf, snapV, snapC, sepB, ownKs, dataKs, keysV, keysC, nodupB, packP, RV.flatP, Option.bind_some, Option.map_some, true_implies, true_and, and_true, ↓reduceIte, Nat.reduceEqDiff, Nat.reduceAdd, Nat.reduceLT, Nat.zero_add, List.all_nil, List.append_nil, List.flatMap_cons, List.flatMap_nil, Bool.and_self, List.getElem?_cons_succ, List.getElem?_cons_zero, decide_eq_true_eq, decide_eq_false_iff_not, List.contains_nil, Bool.not_false, of_pre, of_post, of_flat, cod1_dec, codC_dec, dInt_int, dLst_lst, some_ex, and_self, Env.tk, loadV, fieldAddrV, lenV, loadP, St.obj, TI.isAgg, List.getD_cons_zero, List.getD_cons_succ, List.length_cons, List.length_nil, List.length_map, imp_eq, lbK_true, lnK_none, lenF, Nat.mul_zero, Bool.false_eq_true, maxLen_eq, ty_r, E5_r, Basin.row, Entry.drows, h15, h14, h8, h11, h2, h3, ho3, hw, hacc, bne_self_eq_false, false_implies]
  refine fun hpl => ⟨fun hjt => ⟨hbk, hbl, ?_⟩, fun _ => ?_⟩
  · refine ghost_id ⟨((b.Places.length : Int) - (j + 1)).toNat, by omega, j + 1, by omega, rfl, ?_, h14, h8, h11, h2, h3, h7, ho3⟩
    simp only [upd_apply, ↓reduceIte]; rw [wrap64 (by omega) (by omega)]
  · refine ghost_id ⟨((b.Owners.length : Int) - (i + 1)).toNat, by omega, i + 1, by omega, rfl, ?_, h8, h11, h2, h3, h7, ho3⟩
    simp only [upd_apply, ↓reduceIte]; rw [wrap64 (by omega) (by omega)]
end Go.Proofs.Ytomnjbebgfadoaa.Pi
end
section
/- Accounts of a course are those of its last report, in plain numbers.
   Conditions: none; lemmas. -/
set_option linter.unusedVariables false
set_option linter.unusedSimpArgs false
namespace Go.Proofs.Ytomnjbebgfadoaa.Pi
open Go Go.RowKit Go.Proofs
set_option maxHeartbeats 4000000
/-- What triples have of an owner at a place. -/
def hit (o p : Int) (t : Triple) : Bool := t.owner == o && t.place == p
def val (o p : Int) : List (Triple × Int) → Int
  | [] => 0
  | x :: L => (if hit o p x.1 = true then x.2 else 0) + val o p L
theorem acc_flat {kn why o p : Int} (hk : kn ≤ 16777216) (ho : 0 ≤ o) (hp : 0 ≤ p) : ∀ L : List (Triple × Int), accF (L.flatMap (entE 5 kn why)) (5, 16777216, o, p) = val o p L
  | [] => rfl
  | x :: L => by
    have ih := acc_flat (why := why) hk ho hp L
    unfold accF at ih ⊢
    rw [List.flatMap_cons, List.filter_append]
    have e : ∀ a b : List Entry, litresF (a ++ b) = litresF a ++ litresF b := fun a b => by simp [litresF]
    rw [e, sumF_app, ih, val]
    congr 1
    have h1 : (o == -1) = false := by simp; omega
    have h2 : (p == -1) = false := by simp; omega
    have h3 : ((-1 : Int) == o) = false := by simp; omega
    have h4 : decide (kn ≤ 16777216) = true := by simpa using hk
    unfold entE hit
    split
    · rename_i h0
      simp [litresF, sumF, h0]
    · by_cases hh : (x.1.owner == o && x.1.place == p) = true
      · simp only [List.filter_cons, mean, meant, h1, h2, h3, h4, Bool.false_or, hh, decide_true, Int.le_refl, Bool.true_and, Bool.false_and, Bool.and_false, if_true, List.filter_nil, Bool.false_eq_true, if_false, litresF, List.map_cons, List.map_nil, sumF, List.foldl_cons, List.foldl_nil, Int.zero_add]
      · have hh' : (x.1.owner == o && x.1.place == p) = false := by simpa using hh
        simp only [List.filter_cons, mean, meant, h1, h2, h3, h4, Bool.false_or, hh', decide_true, Int.le_refl, Bool.true_and, Bool.false_and, Bool.and_false, List.filter_nil, Bool.false_eq_true, if_false, litresF, List.map_nil, sumF, List.foldl_nil]
theorem val_upsert (o p : Int) (t : Triple) (x : Int) : ∀ L : List (Triple × Int), ∃ k : Int, val o p (upsert t x L) = val o p L + (if hit o p t = true then x else 0) + 18446744073709551616 * k
  | [] => by
    simp only [upsert, val]
    split
    · rw [IntKind.wrap_i64]
      exact ⟨-((0 + x + 9223372036854775808) / 18446744073709551616), by omega⟩
    · exact ⟨0, by omega⟩
  | s :: L => by
    by_cases h : teq t s.1 = true
    · have e := teq_iff.1 h
      simp only [upsert, h, if_true, val]
      rw [e]
      split
      · rw [IntKind.wrap_i64]
        exact ⟨-((s.2 + x + 9223372036854775808) / 18446744073709551616), by omega⟩
      · exact ⟨0, by omega⟩
    · simp only [upsert, h, Bool.false_eq_true, if_false, val]
      obtain ⟨k, hk⟩ := val_upsert o p t x L
      exact ⟨k, by omega⟩
/-- What a grant gives an owner at a place. -/
def cS (ro : List Claim) (o p : Int) (g : Grant) : Int := match ro.find? (fun c => c.Id == g.Right) with
  | some c => if g.Litres ≤ 0 then 0 else if hit o p ⟨c.Id, c.Owner, c.Place⟩ = true then g.Litres else 0
  | none => 0
def SS (ro : List Claim) (o p : Int) : List Grant → Int
  | [] => 0
  | g :: G => cS ro o p g + SS ro o p G
theorem val_addG (ro : List Claim) (o p : Int) {sign : Int} (hs : sign = 1 ∨ sign = -1) (L : List (Triple × Int)) (g : Grant) : ∃ k : Int, val o p (addG ro sign L g) = val o p L + sign * cS ro o p g + 18446744073709551616 * k := by
  unfold addG cS
  cases ro.find? (fun c => c.Id == g.Right) with
  | none => exact ⟨0, by simp⟩
  | some c =>
    simp only
    split
    · exact ⟨0, by simp⟩
    · obtain ⟨k, hk⟩ := val_upsert o p ⟨c.Id, c.Owner, c.Place⟩ (IntKind.i64.wrap (sign * g.Litres)) L
      rw [hk]
      split
      · rw [IntKind.wrap_i64]
        exact ⟨k - (sign * g.Litres + 9223372036854775808) / 18446744073709551616, by omega⟩
      · exact ⟨k, by omega⟩
theorem val_fold (ro : List Claim) (o p : Int) {sign : Int} (hs : sign = 1 ∨ sign = -1) : ∀ (G : List Grant) (L : List (Triple × Int)), ∃ k : Int, val o p (G.foldl (addG ro sign) L) = val o p L + sign * SS ro o p G + 18446744073709551616 * k
  | [], L => ⟨0, by simp [SS]⟩
  | g :: G, L => by
    obtain ⟨k1, h1⟩ := val_addG ro o p hs L g
    obtain ⟨k2, h2⟩ := val_fold ro o p hs G (addG ro sign L g)
    refine ⟨k1 + k2, ?_⟩
    rw [List.foldl_cons, h2, h1, SS, Int.mul_add, Int.mul_add]
    omega
theorem cS_bound {ro : List Claim} {o p : Int} {g : Grant} {m : Int} (hm : 0 ≤ m) (h : 0 ≤ g.Litres ∧ g.Litres ≤ m) : 0 ≤ cS ro o p g ∧ cS ro o p g ≤ m := by
  unfold cS
  split
  · split
    · omega
    · split <;> omega
  · omega
theorem SS_bound (ro : List Claim) (o p : Int) : ∀ (G : List Grant), (∀ g ∈ G, 0 ≤ g.Litres ∧ g.Litres ≤ 8796093022208) → 0 ≤ SS ro o p G ∧ SS ro o p G ≤ G.length * 8796093022208
  | [], _ => by simp [SS]
  | g :: G, h => by
    have h1 := cS_bound (ro := ro) (o := o) (p := p) (by omega) (h g (by simp))
    have h2 := SS_bound ro o p G fun g' hg' => h g' (by simp [hg'])
    rw [SS, List.length_cons]
    omega
theorem val_bound (o p : Int) : ∀ (L : List (Triple × Int)), (∀ x ∈ L, -70368744177664 ≤ x.2 ∧ x.2 ≤ 70368744177664) → -(L.length * 70368744177664) ≤ val o p L ∧ val o p L ≤ L.length * 70368744177664
  | [], _ => by simp [val]
  | x :: L, h => by
    have h1 := h x (by simp)
    have h2 := val_bound o p L fun y hy => h y (by simp [hy])
    rw [val, List.length_cons]
    split <;> omega
theorem val_corr {was now : List Claim} {old gr : List Grant} (ho : old.length ≤ 8) (hg : gr.length ≤ 8) (h1 : ∀ g ∈ old, 0 ≤ g.Litres ∧ g.Litres ≤ 8796093022208) (h2 : ∀ g ∈ gr, 0 ≤ g.Litres ∧ g.Litres ≤ 8796093022208) (o p : Int) : val o p (corrL was now old gr) = SS now o p gr - SS was o p old := by
  have hb := val_bound o p _ (corr_bound (was := was) (now := now) ho hg h1 h2)
  have hl := corrL_len was now old gr
  obtain ⟨k1, e1⟩ := val_fold now o p (.inl rfl) gr []
  obtain ⟨k2, e2⟩ := val_fold was o p (.inr rfl) old (gr.foldl (addG now 1) [])
  have a1 := SS_bound now o p gr h2
  have a2 := SS_bound was o p old h1
  unfold corrL at hb hl ⊢
  simp only [val] at e1
  omega
/-! The litres of an owner at a place, as the statement adds them. -/
theorem shareK_none {r0 : List Claim} {o p : Int} {g : Grant} : ∀ {ro : List Claim} {n : Int}, (∀ c ∈ ro, c.Id ≠ g.Right) → ro.foldl (shareK r0 o p g) n = n
  | [], n, _ => rfl
  | c :: ro, n, h => by
    rw [List.foldl_cons]
    have e : shareK r0 o p g n c = n := by unfold shareK; rw [if_neg fun hc => h c (by simp) hc.1]
    rw [e]
    exact shareK_none fun c' hc' => h c' (by simp [hc'])
theorem shareG_eq {r0 : List Claim} {o p : Int} {g : Grant} : ∀ {ro : List Claim} {n : Int}, (ro.map (·.Id)).Nodup → 0 ≤ n → n ≤ 1152921504606846976 → 0 ≤ g.Litres → g.Litres ≤ 8796093022208 → ro.foldl (shareK r0 o p g) n = n + cS ro o p g
  | [], n, _, _, _, _, _ => by simp [cS]
  | c :: ro, n, hn, h0, h1, h2, h3 => by
    simp only [List.map_cons, List.nodup_cons] at hn
    rw [List.foldl_cons]
    by_cases hc : c.Id = g.Right
    · have hnone : ∀ c' ∈ ro, c'.Id ≠ g.Right := fun c' hc' e => hn.1 (by rw [hc, ← e]; exact List.mem_map_of_mem hc')
      rw [shareK_none hnone]
      have hcb : (c.Id == g.Right) = true := by simpa using hc
      unfold shareK cS
      rw [List.find?_cons, hcb]
      simp only
      by_cases ho : c.Owner = o ∧ c.Place = p
      · have hb : hit o p ⟨c.Id, c.Owner, c.Place⟩ = true := by simpa [hit] using ho
        rw [if_pos ⟨hc, ho⟩, hb, wrap64 (by omega) (by omega)]
        simp only [if_true]
        split <;> omega
      · have hb : ¬ hit o p ⟨c.Id, c.Owner, c.Place⟩ = true := by simpa [hit] using ho
        rw [if_neg fun h => ho h.2, if_neg hb]
        split <;> omega
    · have hcb : (c.Id == g.Right) = false := by simpa using hc
      have e1 : shareK r0 o p g n c = n := by unfold shareK; rw [if_neg fun h => hc h.1]
      have e2 : cS (c :: ro) o p g = cS ro o p g := by unfold cS; rw [List.find?_cons, hcb]
      rw [e1, e2]
      exact shareG_eq hn.2 h0 h1 h2 h3
theorem shareF_eq {ro : List Claim} {o p : Int} (hn : (ro.map (·.Id)).Nodup) (G : List Grant) : ∀ n : Int, G.length ≤ 8 → (∀ g ∈ G, 0 ≤ g.Litres ∧ g.Litres ≤ 8796093022208) → 0 ≤ n → n + G.length * 8796093022208 ≤ 1152921504606846976 → G.foldl (shareG ro o p) n = n + SS ro o p G := by
  induction G with
  | nil => intro n _ _ _ _; simp [SS]
  | cons g G ih =>
    intro n hl hG h0 h1
    have hg := hG g (by simp)
    rw [List.length_cons] at h1 hl
    have hb := cS_bound (ro := ro) (o := o) (p := p) (by omega) hg
    have e : shareG ro o p n g = n + cS ro o p g := shareG_eq hn h0 (by omega) hg.1 hg.2
    rw [List.foldl_cons, e, ih (n + cS ro o p g) (by omega) (fun g' hg' => hG g' (by simp [hg'])) (by omega) (by omega), SS]
    omega
/-- The account behind reports. -/
theorem acc_books {b : Basin} {l : List Report} (h : ∀ r ∈ l, soundR b r) (h5 : l.length ≤ 5) {o p : Int} (ho : 0 ≤ o) (hp : 0 ≤ p) : ∀ {i : Nat}, i < l.length → accF (booksF b l (i + 1)) (5, 16777216, o, p) = SS (l.getD i .zero).Roster o p (dayG b (l.getD i .zero))
  | 0, hi => by
    have hs := getD_sound h hi
    have e : booksF b l 1 = stepE b l 0 := rfl
    rw [e, stepE_eq, acc_flat (by omega) ho hp]
    unfold stepL
    rw [if_pos rfl, val_corr (by simp) (dayG_len hs) (by simp) (day_bound b _ hs)]
    simp [SS]
  | i + 1, hi => by
    have hs := getD_sound h hi
    have hs' := getD_sound h (i := i) (by omega)
    have ih := acc_books h h5 ho hp (i := i) (by omega)
    have e : booksF b l (i + 1 + 1) = booksF b l (i + 1) ++ stepE b l (i + 1) := rfl
    have e1 : accF (booksF b l (i + 1 + 1)) (5, 16777216, o, p) = accF (booksF b l (i + 1)) (5, 16777216, o, p) + accF (stepE b l (i + 1)) (5, 16777216, o, p) := by
      rw [e]
      unfold accF
      rw [List.filter_append, ← sumF_app]
      simp [litresF]
    rw [e1, ih, stepE_eq, acc_flat (by omega) ho hp]
    unfold stepL
    rw [if_neg (by omega), Nat.add_sub_cancel, val_corr (dayG_len hs') (dayG_len hs) (day_bound b _ hs') (day_bound b _ hs)]
    omega
theorem acc_share {b : Basin} {l : List Report} (h : ∀ r ∈ l, soundR b r) (h5 : l.length ≤ 5) {o p : Int} (ho : 0 ≤ o) (hp : 0 ≤ p) {i : Nat} (hi : l.length = i + 1) : accF (booksF b l l.length) (5, 16777216, o, p) = shareF (l.getD i .zero).Roster (dayG b (l.getD i .zero)) o p := by
  have hs := getD_sound h (i := i) (by omega)
  rw [hi, acc_books h h5 ho hp (by omega)]
  unfold shareF
  rw [shareF_eq hs.2.2.1 _ 0 (dayG_len hs) (day_bound b _ hs) (by omega) (by have := dayG_len hs; omega)]
  omega
theorem acc_day4 {b : Basin} {l : List Report} (n : Nat) (o p kn : Int) : accF (booksF b l n) (4, kn, o, p) = 0 := by
  have hd : ∀ (n : Nat), ∀ e ∈ booksF b l n, e.Day = 5 := by
    intro n
    induction n with
    | zero => intro e he; cases he
    | succ n ih =>
      intro e he
      rw [booksF] at he
      rcases List.mem_append.1 he with he | he
      · exact ih e he
      · exact (stepE_known b l n e he).2
  have : (booksF b l n).filter (mean (4, kn, o, p)) = [] := by
    rw [List.filter_eq_nil_iff]
    intro e he
    have := hd n e he
    simp [mean, meant, this]
  unfold accF
  rw [this]; rfl
theorem acc_all {b : Basin} {l : List Report} (h : ∀ r ∈ l, soundR b r) (h5 : l.length ≤ 5) : accF (booksF b l l.length) (5, 16777216, -1, -1) = 0 := by
  have hb := books_ok h h5 (Nat.le_refl l.length)
  have e : ∀ n, ∀ e ∈ booksF b l n, e.Day = 5 := by
    intro n
    induction n with
    | zero => intro e he; cases he
    | succ n ih =>
      intro e he
      rw [booksF] at he
      rcases List.mem_append.1 he with he | he
      · exact ih e he
      · exact (stepE_known b l n e he).2
  have : (booksF b l l.length).filter (mean (5, 16777216, -1, -1)) = booksF b l l.length := by
    rw [List.filter_eq_self]
    intro x hx
    have h1 := e _ x hx
    have h2 := (hb.2 x hx).1
    simp [mean, meant, h1]
    omega
  unfold accF
  rw [this]
  have hz : ∀ n, n ≤ l.length → sumF (litresF (booksF b l n)) = 0 := by
    intro n
    induction n with
    | zero => intro _; rfl
    | succ n ih =>
      intro hn
      have e : litresF (booksF b l n ++ stepE b l n) = litresF (booksF b l n) ++ litresF (stepE b l n) := by simp [litresF]
      rw [booksF, e, sumF_app, ih (by omega), (stepE_ok h h5 hn).2.1]; rfl
  exact hz _ (Nat.le_refl _)
end Go.Proofs.Ytomnjbebgfadoaa.Pi
end
section
/- Postings by day and hour: whether all of them balance.
   Conditions: none; lemmas. -/
set_option linter.unusedVariables false
set_option linter.unusedSimpArgs false
namespace Go.Proofs.Ytomnjbebgfadoaa.Pi
open Go Go.RowKit Go.Proofs
set_option maxHeartbeats 4000000
abbrev Grp : Type := Posting × List Entry
def keyE (e : Entry) : Posting := ⟨e.Day, e.Known⟩
def peq (a b : Posting) : Bool := a.day == b.day && a.known == b.known
theorem peq_iff {a b : Posting} : peq a b = true ↔ a = b := by
  obtain ⟨a1, a2⟩ := a
  obtain ⟨b1, b2⟩ := b
  simp [peq]
/-- An entry is added to its posting. -/
def putG (e : Entry) : List Grp → List Grp
  | [] => [(keyE e, [e])]
  | s :: gs => if peq (keyE e) s.1 = true then (s.1, s.2 ++ [e]) :: gs else s :: putG e gs
def grpF (known : Int) (gs : List Grp) (e : Entry) : List Grp := if e.Known ≤ known then putG e gs else gs
/-- The map's entries: rows by their stamps. -/
def esG (o : Nat → Nat × Option Ob) : Nat → List Grp → List (Nat × D × PV)
  | _, [] => []
  | k, g :: gs => (k, .agg g.1.row, .row (k + 100) (o (k + 100)).1 g.2.length) :: esG o (k + 1) gs
def RowsOk (o : Nat → Nat × Option Ob) (gs : List Grp) : Prop := ∀ j, (o (j + 100)).2 = (gs[j]?).map fun g => .row 7 46 (g.2.map Entry.row)
theorem keq_post (a b : Posting) : keq (.agg a.row) (.agg b.row) = peq a b := by simp [Posting.row, keq, keqs, peq]
theorem esG_len (o : Nat → Nat × Option Ob) : ∀ (gs : List Grp) (k : Nat), (esG o k gs).length = gs.length
  | [], k => rfl
  | g :: gs, k => by simp [esG, esG_len o gs]
theorem esG_mem (o : Nat → Nat × Option Ob) : ∀ (gs : List Grp) (k : Nat) (y : Nat × D × PV), y ∈ esG o k gs → ∃ j g, gs[j]? = some g ∧ y = (k + j, .agg g.1.row, .row (k + j + 100) (o (k + j + 100)).1 g.2.length)
  | [], k, y, h => by cases h
  | g :: gs, k, y, h => by
    simp only [esG, List.mem_cons] at h
    rcases h with rfl | h
    · exact ⟨0, g, rfl, rfl⟩
    · obtain ⟨j, g', h1, h2⟩ := esG_mem o gs (k + 1) y h
      exact ⟨j + 1, g', by simpa using h1, by rw [h2, show k + 1 + j = k + (j + 1) by omega]⟩
theorem esG_find (o : Nat → Nat × Option Ob) : ∀ (gs : List Grp) (k j : Nat) (g : Grp), gs[j]? = some g → mfindS (k + j) (esG o k gs) = some (.agg g.1.row, .row (k + j + 100) (o (k + j + 100)).1 g.2.length)
  | [], k, j, g, h => by simp at h
  | g0 :: gs, k, j, g, h => by
    cases j with
    | zero => simp at h; subst h; simp [esG, mfindS]
    | succ j =>
      have := esG_find o gs (k + 1) j g (by simpa using h)
      rw [show k + 1 + j = k + (j + 1) by omega] at this
      simp only [esG, mfindS]
      rw [if_neg (by omega), this]
/-- Where an entry's posting is. -/
def idxG (e : Entry) : List Grp → Option Nat
  | [] => none
  | s :: gs => if peq (keyE e) s.1 = true then some 0 else (idxG e gs).map (· + 1)
theorem mfind_none (o : Nat → Nat × Option Ob) (e : Entry) : ∀ (gs : List Grp) (k : Nat), idxG e gs = none → mfind (.agg (keyE e).row) (esG o k gs) = none
  | [], k, _ => rfl
  | s :: gs, k, h => by
    simp only [idxG] at h
    split at h
    · cases h
    · rename_i hn
      simp only [esG, mfind, keq_post, hn, if_false]
      exact mfind_none o e gs (k + 1) (by simpa using h)
theorem mfind_some (o : Nat → Nat × Option Ob) (e : Entry) : ∀ (gs : List Grp) (k j : Nat), idxG e gs = some j → ∃ g, gs[j]? = some g ∧ g.1 = keyE e ∧ mfind (.agg (keyE e).row) (esG o k gs) = some (k + j, .row (k + j + 100) (o (k + j + 100)).1 g.2.length)
  | [], k, j, h => by simp [idxG] at h
  | s :: gs, k, j, h => by
    simp only [idxG] at h
    split at h
    · rename_i hy
      simp only [Option.some.injEq] at h
      subst h
      exact ⟨s, rfl, (peq_iff.1 hy).symm, by simp only [esG, mfind, keq_post, hy, if_true]; rfl⟩
    · rename_i hn
      obtain ⟨j', h', rfl⟩ := Option.map_eq_some_iff.1 h
      obtain ⟨g, h1, h2, h3⟩ := mfind_some o e gs (k + 1) j' h'
      refine ⟨g, by simpa using h1, h2, ?_⟩
      simp only [esG, mfind, keq_post, hn, if_false]
      rw [h3, show k + 1 + j' = k + (j' + 1) by omega]
      rfl
/-! The posting is there. -/
theorem mput_same (o : Nat → Nat × Option Ob) (e : Entry) (c : Nat) : ∀ (gs : List Grp) (k j : Nat) (g : Grp), idxG e gs = some j → gs[j]? = some g → mput (.agg (keyE e).row) (.row (k + j + 100) (o (k + j + 100)).1 g.2.length) c (esG o k gs) = esG o k gs
  | [], k, j, g, h, _ => by simp [idxG] at h
  | s :: gs, k, j, g, h, hg => by
    simp only [idxG] at h
    split at h
    · rename_i hy
      simp only [Option.some.injEq] at h
      subst h
      simp only [List.getElem?_cons_zero, Option.some.injEq] at hg
      subst hg
      simp only [esG, mput, keq_post, hy, if_true, Nat.add_zero]
      rw [peq_iff.1 hy]
    · rename_i hn
      obtain ⟨j', h', rfl⟩ := Option.map_eq_some_iff.1 h
      have := mput_same o e c gs (k + 1) j' g h' (by simpa using hg)
      rw [show k + 1 + j' = k + (j' + 1) by omega] at this
      simp only [esG, mput, keq_post, hn, if_false, Bool.false_eq_true, this]
theorem mlast_esG (o : Nat → Nat × Option Ob) : ∀ (gs : List Grp) (k j : Nat), j < gs.length → mlast ((k + j : Nat) : Int) (esG o k gs) = true
  | [], k, j, h => by simp at h
  | s :: gs, k, j, h => by
    simp only [esG, mlast, List.any_cons, Bool.or_eq_true]
    cases j with
    | zero => left; simp
    | succ j =>
      right
      have := mlast_esG o gs (k + 1) j (by simpa using h)
      rw [show k + 1 + j = k + (j + 1) by omega] at this
      exact this
theorem putG_some {e : Entry} : ∀ {gs : List Grp} {j : Nat} {g : Grp}, idxG e gs = some j → gs[j]? = some g → (putG e gs).length = gs.length ∧ ∀ i, (putG e gs)[i]? = if i = j then some (g.1, g.2 ++ [e]) else gs[i]?
  | [], j, g, h, _ => by simp [idxG] at h
  | s :: gs, j, g, h, hg => by
    simp only [idxG] at h
    simp only [putG]
    split at h
    · rename_i hy
      simp only [Option.some.injEq] at h
      subst h
      simp only [List.getElem?_cons_zero, Option.some.injEq] at hg
      subst hg
      rw [if_pos hy]
      refine ⟨by simp, fun i => ?_⟩
      cases i <;> simp
    · rename_i hn
      obtain ⟨j', h', rfl⟩ := Option.map_eq_some_iff.1 h
      rw [if_neg hn]
      obtain ⟨h1, h2⟩ := putG_some h' (by simpa using hg)
      refine ⟨by simp [h1], fun i => ?_⟩
      cases i with
      | zero => simp
      | succ i => simp [h2]
theorem esG_congr {o o' : Nat → Nat × Option Ob} : ∀ {gs : List Grp} {k : Nat}, (∀ i, i < gs.length → (o' (k + i + 100)).1 = (o (k + i + 100)).1) → esG o' k gs = esG o k gs
  | [], k, _ => rfl
  | g :: gs, k, h => by
    have h0 := h 0 (by simp)
    have ih := esG_congr (o := o) (o' := o') (gs := gs) (k := k + 1) fun i hi => by
      have := h (i + 1) (by simpa using hi)
      rw [show k + (i + 1) = k + 1 + i by omega] at this
      exact this
    simp only [Nat.add_zero] at h0
    simp only [esG, h0, ih]
theorem mstamp_some {o o' : Nat → Nat × Option Ob} {e : Entry} {v : Nat} : ∀ {gs : List Grp} {k j : Nat} {g : Grp}, idxG e gs = some j → gs[j]? = some g → (∀ i, i ≠ k + j → (o' (i + 100)).1 = (o (i + 100)).1) → (o' (k + j + 100)).1 = v → mstamp ((k + j : Nat) : Int) (.row (k + j + 100) v (g.2.length + 1)) (esG o k gs) = esG o' k (putG e gs)
  | [], k, j, g, h, _, _, _ => by simp [idxG] at h
  | s :: gs, k, j, g, h, hg, h1, h2 => by
    simp only [idxG] at h
    simp only [putG]
    split at h
    · rename_i hy
      simp only [Option.some.injEq] at h
      subst h
      simp only [List.getElem?_cons_zero, Option.some.injEq] at hg
      subst hg
      rw [if_pos hy]
      simp only [Nat.add_zero] at h1 h2 ⊢
      simp only [esG, mstamp, beq_self_eq_true, if_true, h2, List.length_append, List.length_singleton, List.cons.injEq, true_and]
      exact (esG_congr fun i _ => h1 (k + 1 + i) (by omega)).symm
    · rename_i hn
      obtain ⟨j', h', rfl⟩ := Option.map_eq_some_iff.1 h
      rw [if_neg hn]
      have ih := mstamp_some (o := o) (o' := o') (v := v) (k := k + 1) h' (by simpa using hg) (fun i hi => h1 i (by omega)) (by rw [show k + 1 + j' = k + (j' + 1) by omega]; exact h2)
      rw [show k + 1 + j' = k + (j' + 1) by omega] at ih
      have hb : ((k : Int) == ((k + (j' + 1) : Nat) : Int)) = false := by simp; omega
      simp only [esG, mstamp, hb, Bool.false_eq_true, if_false, ih, h1 k (by omega)]
/-! The posting is new. -/
theorem putG_none {e : Entry} : ∀ {gs : List Grp}, idxG e gs = none → putG e gs = gs ++ [(keyE e, [e])]
  | [], _ => rfl
  | s :: gs, h => by
    simp only [idxG] at h
    split at h
    · cases h
    · rename_i hn
      simp only [putG, hn, if_false, Bool.false_eq_true, List.cons_append]
      rw [putG_none (by simpa using h)]
theorem mput_new (o : Nat → Nat × Option Ob) (e : Entry) (c : Nat) (p : PV) : ∀ (gs : List Grp) (k : Nat), idxG e gs = none → mput (.agg (keyE e).row) p c (esG o k gs) = esG o k gs ++ [(c, .agg (keyE e).row, p)]
  | [], k, _ => rfl
  | s :: gs, k, h => by
    simp only [idxG] at h
    split at h
    · cases h
    · rename_i hn
      simp only [esG, mput, keq_post, hn, if_false, Bool.false_eq_true, List.cons_append]
      rw [mput_new o e c p gs (k + 1) (by simpa using h)]
theorem mstamp_none (o : Nat → Nat × Option Ob) (kd : D) (p q : PV) : ∀ (gs : List Grp) (k : Nat), mstamp ((k + gs.length : Nat) : Int) p (esG o k gs ++ [(k + gs.length, kd, q)]) = esG o k gs ++ [(k + gs.length, kd, p)]
  | [], k => by simp [esG, mstamp]
  | s :: gs, k => by
    have ih := mstamp_none o kd p q gs (k + 1)
    rw [show k + 1 + gs.length = k + (gs.length + 1) by omega] at ih
    have hb : ((k : Int) == ((k + (gs.length + 1) : Nat) : Int)) = false := by simp; omega
    simp only [esG, List.length_cons, List.cons_append, mstamp, hb, Bool.false_eq_true, if_false, ih]
theorem mlast_none (o : Nat → Nat × Option Ob) (kd : D) (p : PV) (gs : List Grp) : mlast ((gs.length : Nat) : Int) (esG o 0 gs ++ [(gs.length, kd, p)]) = true := by simp [mlast]
theorem esG_snoc (o : Nat → Nat × Option Ob) (g : Grp) : ∀ (gs : List Grp) (k : Nat), esG o k (gs ++ [g]) = esG o k gs ++ [(k + gs.length, .agg g.1.row, .row (k + gs.length + 100) (o (k + gs.length + 100)).1 g.2.length)]
  | [], k => rfl
  | s :: gs, k => by
    simp only [List.cons_append, esG, List.length_cons, esG_snoc o g gs (k + 1)]
    rw [show k + 1 + gs.length = k + (gs.length + 1) by omega]
theorem putG_mem {e : Entry} : ∀ {gs : List Grp} {g : Grp}, g ∈ putG e gs → g ∈ gs ∨ (∃ s ∈ gs, g = (s.1, s.2 ++ [e])) ∨ g = (keyE e, [e])
  | [], g, h => by simp only [putG, List.mem_singleton] at h; exact .inr (.inr h)
  | s :: gs, g, h => by
    simp only [putG] at h
    split at h
    · rcases List.mem_cons.1 h with rfl | h
      · exact .inr (.inl ⟨s, by simp, rfl⟩)
      · exact .inl (by simp [h])
    · rcases List.mem_cons.1 h with rfl | h
      · exact .inl (by simp)
      · rcases putG_mem h with h | ⟨t, ht, h⟩ | h
        · exact .inl (by simp [h])
        · exact .inr (.inl ⟨t, by simp [ht], h⟩)
        · exact .inr (.inr h)
theorem grp_len (known : Int) : ∀ (L : List Entry) (gs : List Grp) (n : Nat), (∀ g ∈ gs, g.2.length ≤ n) → ∀ g ∈ L.foldl (grpF known) gs, g.2.length ≤ n + L.length
  | [], gs, n, h, g, hg => h g hg
  | e :: L, gs, n, h, g, hg => by
    have := grp_len known L (grpF known gs e) (n + 1) (fun g hg => by
      unfold grpF at hg
      split at hg
      · rcases putG_mem hg with hg | ⟨s, hs, rfl⟩ | rfl
        · have := h g hg; omega
        · have := h s hs; simp; omega
        · simp
      · have := h g hg; omega) g hg
    rw [List.length_cons]; omega
theorem grp_mem (known : Int) : ∀ (L : List Entry) (gs : List Grp) (P : Entry → Prop), (∀ g ∈ gs, ∀ e ∈ g.2, P e) → (∀ e ∈ L, P e) → ∀ g ∈ L.foldl (grpF known) gs, ∀ e ∈ g.2, P e
  | [], gs, P, h, _, g, hg => h g hg
  | e :: L, gs, P, h, hL, g, hg => by
    refine grp_mem known L (grpF known gs e) P (fun g hg => ?_) (fun e' he' => hL e' (by simp [he'])) g hg
    unfold grpF at hg
    split at hg
    · rcases putG_mem hg with hg | ⟨s, hs, rfl⟩ | rfl
      · exact h g hg
      · intro e' he'
        rcases List.mem_append.1 he' with he' | he'
        · exact h s hs e' he'
        · simp only [List.mem_singleton] at he'; subst he'; exact hL _ (by simp)
      · intro e' he'
        simp only [List.mem_singleton] at he'; subst he'; exact hL _ (by simp)
    · exact h g hg
end Go.Proofs.Ytomnjbebgfadoaa.Pi
end
section
/- Whether all postings balance, in the program.
   Conditions: none; lemmas. -/
set_option linter.unusedVariables false
set_option linter.unusedSimpArgs false
namespace Go.Proofs.Ytomnjbebgfadoaa.Pi
open Go Go.RowKit Go.Proofs
set_option maxHeartbeats 4000000
abbrev cBal : Cod (List Entry × Int) := codC (fun l => .lst 7 (l.map Entry.row)) (dLst 7 Entry.of) (fun _ _ => dLst_iff Entry.iff) cI
def groups (known : Int) (l : List Entry) : List Grp := l.foldl (grpF known) []
def balOk (l : List Entry) (known : Int) : Prop := l.length ≤ 1000000 ∧ litR l ∧ ∀ g ∈ groups known l, sumF (litresF g.2) = 0
abbrev con19 : Con := .of cBal (fun a => balOk a.1 a.2) (fun _ rs => rs = [.d (.bool true)]) true
theorem lit1en (te : TI) (a : List D) (h : te.size = 7) (ha : a.length = 7) (hz : te.zero = [.int .i64 0, .int .i64 0, .int .i64 0, .int .i64 0, .int .i64 0, .int .i64 0, .int .i64 0]) : litRows te 1 [(0, .d (.agg a))] = some [a] := by
  match a, ha with
  | [a0, a1, a2, a3, a4, a5, a6], _ => simp [litRows, elemsFI, fillP, dcells, dcell, chunk, cellsP, h, hz, List.range_succ, List.replicate_succ, zpv]
theorem esG_keys (E : Env) (hE : ∀ p : Posting, mkey E 82 (.agg p.row) = true) (o : Nat → Nat × Option Ob) (gs : List Grp) (k : Nat) : mkeys E 82 (esG o k gs) = true := by
  unfold mkeys
  rw [List.all_eq_true]
  intro y hy
  obtain ⟨j, g, _, rfl⟩ := esG_mem o gs k y hy
  exact hE g.1
theorem nodup_len : ∀ (n : Nat) (l : List Nat), l.Nodup → (∀ k ∈ l, k < n) → l.length ≤ n
  | 0, l, _, h => by
    cases l with
    | nil => simp
    | cons a l => have := h a (by simp); omega
  | n + 1, l, hn, h => by
    have h1 := nodup_len n (l.erase n) (hn.erase n) fun k hk => by
      have := h k (List.mem_of_mem_erase hk)
      have hne : k ≠ n := fun e => by subst e; exact (List.Nodup.mem_erase_iff hn).1 hk |>.1 rfl
      omega
    by_cases hm : n ∈ l
    · rw [List.length_erase_of_mem hm] at h1; omega
    · rw [List.erase_of_not_mem hm] at h1; omega
theorem wrap_succ2 {i : Nat} (h : i ≤ 1000000000) : IntKind.i64.wrap ((i : Int) + 1) = ((i + 1 : Nat) : Int) := by rw [wrap64 (by omega) (by omega)]; omega
/-- The round of an entry whose posting is there. -/
theorem roundA {o o' : Nat → Nat × Option Ob} {gs : List Grp} {e : Entry} {g : Grp} {j v vj : Nat} (hrows : RowsOk o gs) (hix : idxG e gs = some j) (hgj : gs[j]? = some g)
    (h1 : o' 11 = (v, some (.map 82 40 gs.length (mstamp (j : Int) (.row (j + 100) (vj + 1) (g.2.length + 1)) (esG o 0 gs))))) (h2 : o' (j + 100) = (vj + 1, some (.row 7 46 (g.2.map Entry.row ++ [e.row])))) (h3 : ∀ i, i ≠ j → o' (i + 100) = o (i + 100)) :
    o' 11 = (v, some (.map 82 40 (putG e gs).length (esG o' 0 (putG e gs)))) ∧ RowsOk o' (putG e gs) := by
  obtain ⟨q1, q2⟩ := putG_some hix hgj
  have := mstamp_some (o := o) (o' := o') (k := 0) (v := vj + 1) hix hgj (fun i hi => by rw [h3 i (by omega)]) (by rw [Nat.zero_add, h2])
  rw [Nat.zero_add] at this
  refine ⟨by rw [h1, q1, this], fun i => ?_⟩
  rw [q2]
  by_cases hi : i = j
  · subst hi
    rw [if_pos rfl, h2]
    simp
  · rw [if_neg hi, h3 i hi]
    exact hrows i
theorem roundC {o o' : Nat → Nat × Option Ob} {gs : List Grp} {v : Nat} (hrows : RowsOk o gs) (h : o 11 = (v, some (.map 82 40 gs.length (esG o 0 gs)))) (h1 : o' 11 = o 11) (h3 : ∀ i, o' (i + 100) = o (i + 100)) :
    o' 11 = (v, some (.map 82 40 gs.length (esG o' 0 gs))) ∧ RowsOk o' gs := by
  refine ⟨?_, fun i => by rw [h3 i]; exact hrows i⟩
  rw [h1, h]
  have : esG o' 0 gs = esG o 0 gs := esG_congr fun i hi => by rw [h3]
  rw [this]
/-- The round of an entry whose posting is new. -/
theorem roundB {o o' : Nat → Nat × Option Ob} {gs : List Grp} {e : Entry} {v : Nat} (hrows : RowsOk o gs) (hix : idxG e gs = none)
    (h1 : o' 11 = (v, some (.map 82 40 (gs.length + 1) (esG o 0 gs ++ [(gs.length, .agg (keyE e).row, .row (gs.length + 100) (o' (gs.length + 100)).1 1)])))) (h2 : (o' (gs.length + 100)).2 = some (.row 7 46 [e.row])) (h3 : ∀ i, i ≠ gs.length → o' (i + 100) = o (i + 100)) :
    o' 11 = (v, some (.map 82 40 (putG e gs).length (esG o' 0 (putG e gs)))) ∧ RowsOk o' (putG e gs) := by
  rw [putG_none hix]
  refine ⟨?_, fun i => ?_⟩
  · rw [h1, esG_snoc, List.length_append, Nat.zero_add]
    have : esG o' 0 gs = esG o 0 gs := esG_congr fun i hi => by rw [Nat.zero_add, h3 i (by omega)]
    rw [this]
    rfl
  · by_cases hi : i = gs.length
    · subst hi
      rw [h2]
      simp
    · rw [h3 i hi, hrows i]
      by_cases hlt : i < gs.length
      · rw [List.getElem?_append_left hlt]
      · rw [List.getElem?_eq_none (by omega), List.getElem?_eq_none (by simp; omega)]
noncomputable def E19 : Env := (E0.add 31 con31).at 45 (fun d => false) (fun d => d) (fun d => true)
theorem E19_ok : EnvOk E19 := (E0_ok.add Try.func31 rfl rfl ok31).at _ _ _ _
theorem E19_r : E19.ty = E0.ty ∧ (E19.con 31 = some con31 ∧ E19.icon 31 = none) ∧ E19.own 31 = false ∧ E19.fact 13 = true ∧ (∀ d, E19.key d = d) := ⟨rfl, ⟨rfl, rfl⟩, rfl, rfl, fun _ => rfl⟩

theorem keyOk19 (p : Posting) : mkey E19 82 (.agg p.row) = true := by
  unfold mkey
  rw [E19_r.1, ty82]
  simp [Posting.row, oneCells, shapes, shape1, D.sk]
set_option maxRecDepth 20000 in
theorem ok19 : ConOk Try.prog 19 con19 := by
  refine con_of (E := E19) E19_ok (fn := Try.f19) Try.func19 rfl (by decide) (by kernel_rfl) (rs := [.tmp 4]) rfl (by decide) (by decide) [.data 4]  (fun _ _ => ⟨_, rfl⟩) boolFlat ?_
  rintro ⟨l, known⟩ ⟨hl, hlr, hg⟩
  simp only at hl hlr hg
  simp only [startP_eq, startL, List.map_cons, List.map_nil, run_region, run_seq, run_block, run_loop, opsK_nil, opsK_op, seqK_normal, upd_apply, after_some, ev_tmp, ev_int, ev_bool, St.sv, St.sc, strip, stripC, pmap_some, op_move, op_assign, op_len, eK_some, Option.map_some, true_and, ↓reduceIte, reduceCtorEq, Nat.zero_add, cod1_enc, codC_enc, and_self, Env.tk, lenV, List.length_map, lbK_true, lnK_none, lenF, maxLen_eq, op_makeMap, makeMapE, ty_r, E19_r]
  intro hlm
  refine pwp_loop (fun n S => ∃ i : Nat, i ≤ l.length ∧ n = l.length - i ∧ S.t 14 = .d (.int .i64 i) ∧ S.t 13 = .d (.int .i64 l.length) ∧ S.t 12 = .d (.lst 7 (l.map Entry.row)) ∧ S.t 1 = .d (.int .i64 known) ∧ ∃ v, S.t 5 = .map 11 v ∧ S.o 11 = (v, some (.map 82 40 ((l.take i).foldl (grpF known) []).length (esG S.o 0 ((l.take i).foldl (grpF known) [])))) ∧ RowsOk S.o ((l.take i).foldl (grpF known) [])) l.length ?_ ?_
  · refine ⟨0, by omega, by omega, rfl, rfl, rfl, rfl, _, rfl, rfl, fun j => ?_⟩
    simp [newOb, noObs]
  rintro n ⟨t, o⟩ ⟨i, hil, hn, h14, h13, h12, h1, v, h5, ho, hrows⟩
  simp only at h14 h13 h12 h1 h5 ho hrows
  by_cases hlt : i < l.length
  · have hd : decide ((i : Int) < (l.length : Int)) = true := by simpa using hlt
    have hfo := foldTake (grpF known) [] l i .zero hlt
    have hgl := grp_len known (l.take i) [] 0 (by simp)
    rw [List.length_take, Nat.min_eq_left hil] at hgl
    generalize (l.take i).foldl (grpF known) [] = gs at ho hrows hfo hgl
    generalize he : l.getD i .zero = e at hfo
    have hK := keyOk19 (keyE e)
    have hKs := esG_keys E19 keyOk19 o gs 0
    by_cases hkn : e.Known ≤ known
    · have hdk : decide (e.Known ≤ known) = true := by simpa using hkn
      rw [grpF, if_pos hkn] at hfo
      cases hix : idxG e gs with
      | some j =>
        obtain ⟨g, hgj, hgk, hmf⟩ := mfind_some o e gs 0 j hix
        have hjl : j < gs.length := (List.getElem?_eq_some_iff.1 hgj).1
        have hr := hrows j
        rw [hgj] at hr
        simp only [Option.map_some] at hr
        obtain ⟨vj, hrow⟩ : ∃ vj, o (j + 100) = (vj, some (.row 7 46 (g.2.map Entry.row))) := ⟨(o (j + 100)).1, Prod.ext rfl hr⟩
        rw [Nat.zero_add, hrow] at hmf
        have hmv : mval (.agg [.int .i64 e.Day, .int .i64 e.Known]) (esG o 0 gs) .nils = .row (j + 100) vj g.2.length := by
          unfold mval; change ((mfind (.agg (keyE e).row) _).map (·.2)).getD _ = _; rw [hmf]; rfl
        have hmb : mborn (.agg [.int .i64 e.Day, .int .i64 e.Known]) (esG o 0 gs) gs.length = j := by
          unfold mborn; change ((mfind (.agg (keyE e).row) _).map (·.1)).getD _ = _; rw [hmf]; rfl
        have hmc : mclock (.agg [.int .i64 e.Day, .int .i64 e.Known]) (esG o 0 gs) gs.length = gs.length := by
          unfold mclock mhas; change (if (mfind (.agg (keyE e).row) _).isSome = true then _ else _) = _; rw [hmf]; rfl
        have hmp : mput (.agg [.int .i64 e.Day, .int .i64 e.Known]) (.row (j + 100) vj g.2.length) gs.length (esG o 0 gs) = esG o 0 gs := by
          have := mput_same o e gs.length gs 0 j g hix hgj
          rw [Nat.zero_add, hrow] at this; exact this
        have hml : mlast (j : Int) (esG o 0 gs) = true := by have := mlast_esG o gs 0 j hjl; rwa [Nat.zero_add] at this
        simp only [List.map_cons, List.map_nil, run_skip, run_region, run_seq, run_cond, run_block, run_exit, run_loop, opsK_nil, opsK_op, seqK_normal, seqK_exit, blkK_normal, blkK_exit, loopK_normal, loopK_exit, condK_bool, upd_apply, after_some, after_none, ev_tmp, ev_int, St.sv, St.sc, strip, stripC, argsC, pK_none, pmap_some, op_move, op_bin, op_ext, op_load, op_fa, op_ia, op_build, bin_add, bin_lss, bin_leq, eK_some, emap_some, op_alloc, op_store, op_app, op_lit, lK_false, extV, Option.bind_some, Option.map_some, true_implies, true_and, and_true, ↓reduceIte, Nat.reduceEqDiff, reduceCtorEq, Nat.reduceAdd, Nat.reduceMul, Nat.reduceLT, Nat.reduceLeDiff, Nat.zero_add, Nat.add_zero, List.append_nil, List.nil_append, List.getElem?_cons_succ, List.getElem?_cons_zero, and_self, Env.tk, loadV, fieldAddrV, indexAddrV, loadD, loadP, allocE, storeE, St.obj, TI.isAgg, plainTI, zpv, cellsP, refNew, newOb, setOb, cut, List.getD_cons_zero, List.getD_cons_succ, List.length_cons, List.length_nil, List.length_map, List.take_succ_cons, List.take_zero, List.drop_zero, List.drop_succ_cons, List.take_nil, List.drop_nil, Nat.mul_zero, pagg, allD, buildV, fillP, dcells, dcell, List.cons_append, Bool.false_eq_true, op_mapEntry, op_entryStore, op_range, rangeE, mapEntE, mapStoE, plainTI, ty_r, E19_r, Entry.getD, Entry.row, zvp, h14, h13, h12, h1, h5, hd, hdk, Int.toNat_natCast, he, litV, lit1en, ho, hmv, hmb, hmc, hmp, hKs, hml, hrow, appE, appR, rowsV, rowNew, false_implies]
        have hgb := hgl g (List.mem_of_getElem? hgj)
        refine ⟨⟨by omega, by omega⟩, hK, by omega, ?_⟩
        refine ghost_id ⟨l.length - (i + 1), by omega, i + 1, by omega, rfl, ?_, h13, h12, h1, v, h5, ?_⟩
        · simp only [upd_apply, ↓reduceIte]; rw [wrap_succ2 (by omega)]
        · rw [hfo]; refine roundA (vj := vj) hrows hix hgj ?_ ?_ fun k hk => ?_
          · simp [setOb, newOb, ho]
          · simp [setOb, newOb, hrow, Entry.row]
          · simp [setOb, newOb, hk]
      | none =>
        have hmf := mfind_none o e gs 0 hix
        have hmv : mval (.agg [.int .i64 e.Day, .int .i64 e.Known]) (esG o 0 gs) .nils = .nils := by
          unfold mval; change ((mfind (.agg (keyE e).row) _).map (·.2)).getD _ = _; rw [hmf]; rfl
        have hmb : mborn (.agg [.int .i64 e.Day, .int .i64 e.Known]) (esG o 0 gs) gs.length = gs.length := by
          unfold mborn; change ((mfind (.agg (keyE e).row) _).map (·.1)).getD _ = _; rw [hmf]; rfl
        have hmc : mclock (.agg [.int .i64 e.Day, .int .i64 e.Known]) (esG o 0 gs) gs.length = gs.length + 1 := by
          unfold mclock mhas; change (if (mfind (.agg (keyE e).row) _).isSome = true then _ else _) = _; rw [hmf]; rfl
        have hmp : mput (.agg [.int .i64 e.Day, .int .i64 e.Known]) .nils gs.length (esG o 0 gs) = esG o 0 gs ++ [(gs.length, .agg [.int .i64 e.Day, .int .i64 e.Known], .nils)] := mput_new o e gs.length .nils gs 0 hix
        have hml := mlast_none o (.agg [.int .i64 e.Day, .int .i64 e.Known]) .nils gs
        have hms : ∀ p, mstamp (gs.length : Int) p (esG o 0 gs ++ [(gs.length, .agg [.int .i64 e.Day, .int .i64 e.Known], .nils)]) = esG o 0 gs ++ [(gs.length, .agg [.int .i64 e.Day, .int .i64 e.Known], p)] := fun p => by
          have := mstamp_none o (.agg [.int .i64 e.Day, .int .i64 e.Known]) p .nils gs 0; rwa [Nat.zero_add] at this
        simp only [List.map_cons, List.map_nil, run_skip, run_region, run_seq, run_cond, run_block, run_exit, run_loop, opsK_nil, opsK_op, seqK_normal, seqK_exit, blkK_normal, blkK_exit, loopK_normal, loopK_exit, condK_bool, upd_apply, after_some, after_none, ev_tmp, ev_int, St.sv, St.sc, strip, stripC, argsC, pK_none, pmap_some, op_move, op_bin, op_ext, op_load, op_fa, op_ia, op_build, bin_add, bin_lss, bin_leq, eK_some, emap_some, op_alloc, op_store, op_app, op_lit, lK_false, extV, Option.bind_some, Option.map_some, true_implies, true_and, and_true, ↓reduceIte, Nat.reduceEqDiff, reduceCtorEq, Nat.reduceAdd, Nat.reduceMul, Nat.reduceLT, Nat.reduceLeDiff, Nat.zero_add, Nat.add_zero, List.append_nil, List.nil_append, List.getElem?_cons_succ, List.getElem?_cons_zero, and_self, Env.tk, loadV, fieldAddrV, indexAddrV, loadD, loadP, allocE, storeE, St.obj, TI.isAgg, plainTI, zpv, cellsP, refNew, newOb, setOb, cut, List.getD_cons_zero, List.getD_cons_succ, List.length_cons, List.length_nil, List.length_map, List.take_succ_cons, List.take_zero, List.drop_zero, List.drop_succ_cons, List.take_nil, List.drop_nil, Nat.mul_zero, pagg, allD, buildV, fillP, dcells, dcell, List.cons_append, Bool.false_eq_true, op_mapEntry, op_entryStore, op_range, rangeE, mapEntE, mapStoE, plainTI, ty_r, E19_r, Entry.getD, Entry.row, zvp, h14, h13, h12, h1, h5, hd, hdk, Int.toNat_natCast, he, litV, lit1en, ho, hmv, hmb, hmc, hmp, hKs, hml, hms, appE, appR, rowsV, rowNew, false_implies]
        refine ⟨⟨by omega, by omega⟩, hK, ?_⟩
        have hrn : (o (gs.length + 100)).2 = none := by rw [hrows]; simp
        refine ⟨_, .move 11 33 (gs.length + 100) ((o 33).1 + 1) v 1 (.row 7 46 [e.row]) 82 40 (gs.length + 1) (esG o 0 gs) [] gs.length (.agg (keyE e).row) ?_ ?_ (by omega) ?_ (.refl _), l.length - (i + 1), by omega, i + 1, by omega, rfl, ?_, h13, h12, h1, v, h5, ?_⟩
        · simp [setOb, newOb, Entry.row]
        · simp [setOb, newOb, ho, Posting.row, keyE]
        · simp [setOb, newOb, hrn]
        · simp only [upd_apply, ↓reduceIte]; rw [wrap_succ2 (by omega)]
        · rw [hfo]; refine roundB hrows hix ?_ ?_ fun k hk => ?_
          · simp [moveOb, setOb, newOb]
          · simp [moveOb, setOb, newOb]
          · simp [moveOb, setOb, newOb, hk]
    · have hdk : decide (e.Known ≤ known) = false := by simpa using hkn
      rw [grpF, if_neg hkn] at hfo
      simp only [List.map_cons, List.map_nil, run_skip, run_region, run_seq, run_cond, run_block, run_exit, opsK_nil, opsK_op, seqK_normal, seqK_exit, blkK_normal, blkK_exit, loopK_normal, loopK_exit, condK_bool, upd_apply, after_some, after_none, ev_tmp, ev_int, St.sv, St.sc, strip, stripC, argsC, pK_none, pmap_some, op_move, op_bin, op_load, op_fa, op_ia, op_build, bin_add, bin_lss, bin_leq, eK_some, emap_some, op_alloc, op_store, op_lit, lK_false, Option.bind_some, Option.map_some, true_implies, true_and, and_true, ↓reduceIte, Nat.reduceEqDiff, reduceCtorEq, Nat.reduceAdd, Nat.reduceLT, Nat.reduceLeDiff, Nat.zero_add, Nat.add_zero, List.append_nil, List.nil_append, List.getElem?_cons_succ, List.getElem?_cons_zero, and_self, Env.tk, loadV, fieldAddrV, indexAddrV, loadD, loadP, allocE, storeE, St.obj, TI.isAgg, plainTI, zpv, cellsP, refNew, newOb, setOb, cut, List.getD_cons_zero, List.getD_cons_succ, List.length_cons, List.length_nil, List.length_map, List.take_succ_cons, List.take_zero, List.drop_zero, List.drop_succ_cons, List.take_nil, List.drop_nil, Nat.mul_zero, pagg, allD, buildV, fillP, dcells, dcell, List.cons_append, Bool.false_eq_true, op_range, rangeE, plainTI, ty_r, E19_r, Entry.getD, Entry.row, h14, h13, h12, h1, h5, hd, hdk, Int.toNat_natCast, he, false_implies]
      refine ⟨⟨by omega, by omega⟩, ghost_id ⟨l.length - (i + 1), by omega, i + 1, by omega, rfl, ?_, h13, h12, h1, v, h5, ?_⟩⟩
      · simp only [upd_apply, ↓reduceIte]; rw [wrap_succ2 (by omega)]
      · rw [hfo]; refine roundC hrows ho ?_ fun k => ?_
        · simp [setOb, newOb]
        · simp [setOb, newOb]
  · have hd : decide ((i : Int) < (l.length : Int)) = false := by simpa using hlt
    have htk : l.take i = l := List.take_of_length_le (by omega)
    rw [htk] at ho hrows
    change RowsOk o (groups known l) at hrows
    change o 11 = (v, some (.map 82 40 (groups known l).length (esG o 0 (groups known l)))) at ho
    have hgl := grp_len known l [] 0 (by simp)
    change ∀ g ∈ groups known l, _ at hgl
    have hgr := grp_mem known l [] (fun e => -9223372036854775808 ≤ e.Litres ∧ e.Litres ≤ 9223372036854775807) (by simp) hlr
    change ∀ g ∈ groups known l, _ at hgr
    generalize groups known l = gs at ho hrows hgl hgr hg
    simp only [List.map_cons, List.map_nil, run_skip, run_region, run_seq, run_cond, run_block, run_exit, run_loop, opsK_nil, opsK_op, seqK_normal, seqK_exit, blkK_normal, blkK_exit, loopK_normal, loopK_exit, condK_bool, upd_apply, after_some, after_none, ev_tmp, ev_int, St.sv, St.sc, strip, stripC, argsC, pK_none, pmap_some, op_move, op_bin, op_load, op_fa, op_ia, op_build, bin_add, bin_lss, bin_leq, eK_some, emap_some, op_alloc, op_store, op_lit, lK_false, Option.bind_some, Option.map_some, true_implies, true_and, ↓reduceIte, Nat.reduceEqDiff, Nat.reduceAdd, Nat.reduceLT, Nat.reduceLeDiff, Nat.zero_add, Nat.add_zero, List.append_nil, List.nil_append, List.getElem?_cons_succ, List.getElem?_cons_zero, decide_eq_true_eq, decide_eq_false_iff_not, and_self, Env.tk, loadV, fieldAddrV, indexAddrV, loadD, loadP, allocE, storeE, St.obj, TI.isAgg, plainTI, zpv, cellsP, refNew, newOb, setOb, cut, List.getD_cons_zero, List.getD_cons_succ, List.length_cons, List.length_nil, List.length_map, List.take_succ_cons, List.take_zero, List.drop_zero, List.drop_succ_cons, List.take_nil, List.drop_nil, Nat.mul_zero, pagg, allD, buildV, fillP, dcells, dcell, List.cons_append, Bool.false_eq_true, op_range, rangeE, plainTI, ty_r, E19_r, Entry.getD, Entry.row, h14, h13, h12, h1, h5, hd, ho, false_implies]
    refine pwp_loop (fun n S => ∃ seen : List Nat, n = gs.length - seen.length ∧ seen.Nodup ∧ (∀ k ∈ seen, k < gs.length) ∧ (∃ v37, S.t 37 = .ref 37 v37 0 0 0 ∧ S.o 37 = (v37, some (.iter 11 v gs.length seen gs.length))) ∧ S.o 11 = (v, some (.map 82 40 gs.length (esG S.o 0 gs))) ∧ RowsOk S.o gs) gs.length ?_ ?_
    · refine ⟨[], by simp, by simp, by simp, ⟨_, rfl, rfl⟩, ?_⟩
      exact roundC hrows ho (by simp [newOb]) (fun k => by simp [newOb])
    clear h14 h13 h12 h1 h5 ho hrows
    rintro n ⟨t, o⟩ ⟨seen, hn, hnd, hsl, ⟨v37, h37, ho37⟩, ho, hrows⟩
    simp only at h37 ho37 ho hrows
    simp only [run_skip, run_region, run_seq, run_cond, run_block, run_exit, run_ret, opsK_nil, opsK_op, seqK_normal, seqK_exit, blkK_exit, loopK_exit, endP_ret, condK_bool, upd_apply, after_some, ev_tmp, ev_bool, St.sv, St.sc, strip, stripC, pK_none, pmap_some, op_assign, op_ext, outK, outL, outM, resPs, resP, rvsOf, rvOf, snapV, snapC, sepB, ownKs, dataKs, keysV, keysC, nodupB, extV, Option.bind_some, Option.map_some, true_implies, true_and, and_true, implies_true, ↓reduceIte, Nat.reduceEqDiff, reduceCtorEq, List.all_nil, List.append_nil, Bool.and_self, List.getElem?_cons_zero, List.contains_nil, Bool.not_false, and_self, St.obj, setOb, Bool.false_eq_true, op_entry, op_next, nK_iter, nextR, entryV, List.getLast?_append, h37, ho37, ho, false_implies]
    refine ⟨⟨fun y hy => ?_, Nat.le_refl _⟩, fun y hy hys => ?_⟩
    · obtain ⟨j, g, hj, rfl⟩ := esG_mem o gs 0 y hy
      have := (List.getElem?_eq_some_iff.1 hj).1
      simp only; omega
    obtain ⟨j, g, hj, rfl⟩ := esG_mem o gs 0 y hy
    have hjl := (List.getElem?_eq_some_iff.1 hj).1
    have hfi := esG_find o gs 0 j g hj
    have hr := hrows j
    rw [hj] at hr
    simp only [Option.map_some] at hr
    obtain ⟨vj, hrow⟩ : ∃ vj, o (j + 100) = (vj, some (.row 7 46 (g.2.map Entry.row))) := ⟨(o (j + 100)).1, Prod.ext rfl hr⟩
    have hgz : (sumF (litresF g.2) == 0) = true := by simpa using hg g (List.mem_of_getElem? hj)
    simp only [Nat.zero_add] at hfi hys
    rw [hrow] at hfi
    simp only [List.map_cons, List.map_nil, run_skip, run_region, run_seq, run_cond, run_ret, opsK_nil, opsK_op, seqK_normal, seqK_ret, blkK_normal, blkK_ret, loopK_normal, loopK_ret, endP_ret, condK_bool, upd_apply, after_some, ev_tmp, ev_bool, St.sv, St.sc, strip, stripC, argsC, pK_none, pmap_some, op_move, op_assign, op_un, op_ext, unV, op_call, iK_some, iK2_none, cK_some, cK2_some, conK_flat, icallInfo_func, callInfo_func, ciK_some, snapVs_nil, snapVs_cons, outK, outL, outM, resPs, resP, rvsOf, rvOf, snapV, snapC, sepB, ownKs, dataKs, keysV, keysC, nodupB, packP, RV.flatP, extV, Option.bind_some, Option.map_some, true_implies, true_and, and_true, ↓reduceIte, Nat.reduceEqDiff, Nat.zero_add, List.all_nil, List.append_nil, List.flatMap_cons, List.flatMap_nil, Bool.and_self, List.getElem?_cons_succ, List.getElem?_cons_zero, List.contains_nil, Bool.not_false, Bool.not_true, of_pre, of_post, of_flat, cod1_dec, dLst_lst, some_ex, and_self, St.obj, setOb, imp_eq, Bool.false_eq_true, E19_r, Entry.drows, Posting.row, Nat.zero_add, hfi, hrow, hgz, List.getLast?_singleton, Option.some_or, false_implies]
    have hb := hgl g (List.mem_of_getElem? hj)
    have hnd' : (seen ++ [j]).Nodup := by
      rw [List.nodup_append]
      refine ⟨hnd, by simp, ?_⟩
      intro a ha b hb e
      simp only [List.mem_singleton] at hb
      subst hb; subst e
      exact hys ha
    have hsl' : ∀ k ∈ seen ++ [j], k < gs.length := fun k hk => by
      rcases List.mem_append.1 hk with hk | hk
      · exact hsl k hk
      · simp only [List.mem_singleton] at hk; subst hk; exact hjl
    have hln := nodup_len gs.length (seen ++ [j]) hnd' hsl'
    rw [List.length_append, List.length_singleton] at hln
    refine ⟨⟨by omega, hgr g (List.mem_of_getElem? hj)⟩, ghost_id ⟨gs.length - (seen.length + 1), by omega, seen ++ [j], by simp, hnd', hsl', ⟨v37, h37, ?_⟩, ?_⟩⟩
    · simp [setOb, ho37]
    · exact roundC hrows ho (by simp [setOb]) fun k => by simp [setOb]
end Go.Proofs.Ytomnjbebgfadoaa.Pi
end
section
/- SettleCorrects, in the program.
   Conditions: none; lemmas. -/
set_option linter.unusedVariables false
set_option linter.unusedSimpArgs false
namespace Go.Proofs.Ytomnjbebgfadoaa.Pi
open Go Go.RowKit Go.Proofs
set_option maxHeartbeats 4000000
theorem putG_last {e : Entry} {xs : List Entry} : ∀ {gs : List Grp}, idxG e gs = none → putG e (gs ++ [(keyE e, xs)]) = gs ++ [(keyE e, xs ++ [e])]
  | [], _ => by simp only [List.nil_append, putG]; rw [if_pos (peq_iff.2 rfl)]
  | s :: gs, h => by
    simp only [idxG] at h
    split at h
    · cases h
    · rename_i hn
      simp only [List.cons_append, putG, hn, if_false, Bool.false_eq_true]
      rw [putG_last (by simpa using h)]
theorem chunkG {known : Int} {k : Posting} {gs : List Grp} (hk : ∀ e, keyE e = k → idxG e gs = none) : ∀ (es xs : List Entry), (∀ e ∈ es, keyE e = k ∧ e.Known ≤ known) → es.foldl (grpF known) (gs ++ [(k, xs)]) = gs ++ [(k, xs ++ es)]
  | [], xs, _ => by simp
  | e :: es, xs, h => by
    obtain ⟨h1, h2⟩ := h e (by simp)
    rw [List.foldl_cons]
    have : grpF known (gs ++ [(k, xs)]) e = gs ++ [(k, xs ++ [e])] := by
      unfold grpF
      rw [if_pos h2, ← h1]
      exact putG_last (hk e h1)
    rw [this, chunkG hk es (xs ++ [e]) fun e' he' => h e' (by simp [he'])]
    simp
theorem idxG_lt {e : Entry} : ∀ {gs : List Grp}, (∀ g ∈ gs, g.1.known < e.Known) → idxG e gs = none
  | [], _ => rfl
  | s :: gs, h => by
    simp only [idxG]
    have h1 := h s (by simp)
    have : ¬ peq (keyE e) s.1 = true := fun hp => by
      have := peq_iff.1 hp
      rw [← this] at h1
      simp [keyE] at h1
    rw [if_neg this, idxG_lt fun g hg => h g (by simp [hg])]
    rfl
theorem groups_books {b : Basin} {l : List Report} (h : ∀ r ∈ l, soundR b r) (h5 : l.length ≤ 5) : ∀ {i : Nat}, i ≤ l.length → ∀ g ∈ groups 16777216 (booksF b l i), sumF (litresF g.2) = 0 ∧ g.1.known < (i : Int)
  | 0, _, g, hg => by cases hg
  | i + 1, hi, g, hg => by
    have ih := groups_books h h5 (i := i) (by omega)
    have hst := stepE_ok h h5 (i := i) (by omega)
    have hk := stepE_known b l i
    unfold groups at hg ih
    rw [booksF, List.foldl_append] at hg
    generalize (booksF b l i).foldl (grpF 16777216) [] = gs at hg ih
    cases hs : stepE b l i with
    | nil =>
      rw [hs] at hg
      have := ih g hg
      exact ⟨this.1, by push_cast; omega⟩
    | cons e es =>
      rw [hs] at hg hk hst
      have hkey : ∀ x ∈ e :: es, keyE x = ⟨5, (i : Int)⟩ ∧ x.Known ≤ 16777216 := fun x hx => by
        have := hk x hx
        refine ⟨by simp [keyE, this.1, this.2], by omega⟩
      have hno : ∀ x, keyE x = ⟨5, (i : Int)⟩ → idxG x gs = none := fun x hx => by
        refine idxG_lt fun g' hg' => ?_
        have h1 := (ih g' hg').2
        have : x.Known = (i : Int) := by simp only [keyE, Posting.mk.injEq] at hx; exact hx.2
        omega
      rw [List.foldl_cons] at hg
      have h1 : grpF 16777216 gs e = gs ++ [(⟨5, (i : Int)⟩, [e])] := by
        unfold grpF
        obtain ⟨h1, h2⟩ := hkey e (by simp)
        rw [if_pos h2, putG_none (hno e h1), h1]
      rw [h1, chunkG hno es [e] fun x hx => hkey x (by simp [hx])] at hg
      rcases List.mem_append.1 hg with hg | hg
      · have := ih g hg
        exact ⟨this.1, by push_cast; omega⟩
      · simp only [List.mem_singleton] at hg
        subst hg
        exact ⟨hst.2.1, by push_cast; omega⟩
theorem share_in {b : Basin} {l : List Report} (h : ∀ r ∈ l, soundR b r) {i : Nat} (hi : i < l.length) (o p : Int) : inR (shareF (l.getD i .zero).Roster (dayG b (l.getD i .zero)) o p) = true := by
  have hs := getD_sound h hi
  have hl := dayG_len hs
  have hb := SS_bound (l.getD i .zero).Roster o p _ (day_bound b _ hs)
  unfold shareF
  rw [shareF_eq hs.2.2.1 _ 0 hl (day_bound b _ hs) (by omega) (by omega)]
  unfold inR
  simp only [Bool.and_eq_true, decide_eq_true_eq]
  change 0 ≤ SS _ o p (dayG b (l.getD i .zero)) ∧ SS _ o p (dayG b (l.getD i .zero)) ≤ ((dayG b (l.getD i .zero)).length : Int) * 8796093022208 at hb
  omega
abbrev con6 : Con := .of cRep (fun _ => True) (fun _ rs => rs = [.d (.bool true)]) true
noncomputable def E6 : Env := ((((((((E0.add 7 con7).add 11 con11).add 14 con14).add 15 con15).add 16 con16).add 17 con17).add 18 con18).add 19 con19).at 97 (fun d => false) (fun d => d) (fun d => true)
theorem E6_ok : EnvOk E6 := ((((((((E0_ok.add Try.func7 rfl rfl ok7).add Try.func11 rfl rfl ok11).add Try.func14 rfl rfl ok14).add Try.func15 rfl rfl ok15).add Try.func16 rfl rfl ok16).add Try.func17 rfl rfl ok17).add Try.func18 rfl rfl ok18).add Try.func19 rfl rfl ok19).at _ _ _ _
theorem E6_r : E6.ty = E0.ty ∧ (E6.con 7 = some con7 ∧ E6.icon 7 = none) ∧ (E6.con 11 = some con11 ∧ E6.icon 11 = none) ∧ (E6.con 14 = some con14 ∧ E6.icon 14 = none) ∧ (E6.con 15 = some con15 ∧ E6.icon 15 = none) ∧ (E6.con 16 = some con16 ∧ E6.icon 16 = none) ∧ (E6.con 17 = some con17 ∧ E6.icon 17 = none) ∧ (E6.con 18 = some con18 ∧ E6.icon 18 = none) ∧ (E6.con 19 = some con19 ∧ E6.icon 19 = none) ∧ E6.fact 16 = true ∧ E6.fact 34 = true ∧ E6.fact 58 = true ∧ E6.fact 65 = true ∧ (∀ d, E6.key d = d) := ⟨rfl, ⟨rfl, rfl⟩, ⟨rfl, rfl⟩, ⟨rfl, rfl⟩, ⟨rfl, rfl⟩, ⟨rfl, rfl⟩, ⟨rfl, rfl⟩, ⟨rfl, rfl⟩, ⟨rfl, rfl⟩, rfl, rfl, rfl, rfl, fun _ => rfl⟩

set_option maxRecDepth 20000 in
theorem ok6 : ConOk Try.prog 6 con6 := by
  refine con_of (E := E6) E6_ok (fn := Try.f6) Try.func6 rfl (by decide) (by kernel_rfl) (rs := [.tmp 4]) rfl (by decide) (by decide) [.data 4]  (fun _ _ => ⟨_, rfl⟩) boolFlat ?_
  rintro ⟨b, l⟩ _
  by_cases h0 : l.length = 0
  · have hd1 : ((l.length : Int) == 0) = true := by simpa using h0
    simp only [startP_eq, startL, List.map_cons, List.map_nil, run_skip, run_region, run_seq, run_cond, run_block, run_ret, run_loop, opsK_nil, opsK_op, seqK_normal, seqK_ret, endP_ret, condK_bool, upd_apply, after_some, after_none, ev_tmp, ev_int, ev_bool, St.sv, St.sc, strip, stripC, argsC, pK_none, pK_some, gpK_some, pmap_some, gK, gB_bool, op_move, op_assign, op_gmove, op_pick, op_bin, op_un, op_ext, op_load, op_fa, op_ia, op_gun, op_gload, op_len, bin_sub, bin_eql, pick_b, unV, eK_some, emap_some, op_alloc, op_box, op_store, op_call, op_gcall, cgK_some, iK_some, iK2_none, cK_some, cK2_some, conK_flat, conK_gflat, conK_own, icallInfo_func, callInfo_func, ciK_some, snapVs_nil, snapVs_cons, outK, outL, outM, resPs, resP, rvsOf, rvOf, snapV, snapC, sepB, ownKs, dataKs, keysV, keysC, nodupB, packP, RV.flatP, extV, Option.bind_some, Option.map_some, true_implies, true_and, and_true, implies_true, ↓reduceIte, Nat.reduceEqDiff, reduceCtorEq, Nat.reduceAdd, Nat.reduceLT, Nat.reduceLeDiff, Nat.zero_add, Nat.add_zero, List.all_nil, List.append_nil, List.nil_append, List.flatMap_cons, List.flatMap_nil, Bool.and_self, List.getElem?_toArray, List.getElem?_cons_succ, List.getElem?_cons_zero, beq_false, beq_self_eq_true, Bool.not_eq_true', List.contains_nil, Bool.not_false, Bool.not_true, of_pre, of_post, of_flat, cod0_dec, cod1_enc, cod1_dec, codC_enc, codC_dec, dAgg_agg, dLst_lst, some_ex, some_ex1, imp_self, and_self, Env.tk, loadV, fieldAddrV, indexAddrV, lenV, loadD, loadP, allocE, boxE, storeE, St.obj, TI.isAgg, plainTI, zpv, cellsP, refNew, newOb, setOb, cut, List.getD_cons_zero, List.getD_cons_succ, List.length_cons, List.length_nil, List.length_map, or_true, true_or, imp_eq, lbK_true, lnK_none, lenF, List.take_succ_cons, List.take_zero, List.drop_zero, List.drop_succ_cons, List.take_nil, List.drop_nil, Nat.mul_zero, all_ex, all_exc, ex_exc, ex_btrue, pagg, allD, retP, retO, dropObs_nil, Bool.false_eq_true, maxLen_eq, plainTI, ty_r, E6_r, Basin.row, Basin.d, Basin.of2, Claim.drows, Grant.drows, Report.getD, Report.row, Report.drows, idrows, hd1]
    simp
  obtain ⟨q, hq⟩ : ∃ q, l.length = q + 1 := ⟨l.length - 1, by omega⟩
  have hd1 : ((l.length : Int) == 0) = false := by simpa using h0
  have hne : (l = []) = False := by simp; intro e; exact h0 (by rw [e]; rfl)
  have hw : IntKind.i64.wrap ((l.length : Int) - 1) = if l.length ≤ 5 then (q : Int) else IntKind.i64.wrap ((l.length : Int) - 1) := by
    split
    · rw [wrap64 (by omega) (by omega)]; omega
    · rfl
  have hq1 : l.length - 1 = q := by omega
  by_cases h5 : l.length ≤ 5
  · rw [if_pos h5] at hw
    simp only [startP_eq, startL, List.map_cons, List.map_nil, run_skip, run_region, run_seq, run_cond, run_block, run_ret, run_loop, opsK_nil, opsK_op, seqK_normal, seqK_ret, endP_ret, condK_bool, upd_apply, after_some, after_none, ev_tmp, ev_int, ev_bool, St.sv, St.sc, strip, stripC, argsC, pK_none, pK_some, gpK_some, pmap_some, gK, gB_bool, op_move, op_assign, op_gmove, op_pick, op_bin, op_un, op_ext, op_load, op_fa, op_ia, op_gun, op_gload, op_len, bin_sub, bin_eql, pick_b, unV, eK_some, emap_some, op_alloc, op_box, op_store, op_call, op_gcall, cgK_some, iK_some, iK2_none, cK_some, cK2_some, conK_flat, conK_gflat, conK_own, icallInfo_func, callInfo_func, ciK_some, snapVs_nil, snapVs_cons, outK, outL, outM, resPs, resP, rvsOf, rvOf, snapV, snapC, sepB, ownKs, dataKs, keysV, keysC, nodupB, packP, RV.flatP, extV, Option.bind_some, Option.map_some, true_and, and_true, implies_true, ↓reduceIte, Nat.reduceEqDiff, reduceCtorEq, Nat.reduceAdd, Nat.reduceLT, Nat.reduceLeDiff, Nat.zero_add, Nat.add_zero, List.all_nil, List.append_nil, List.nil_append, List.flatMap_cons, List.flatMap_nil, Bool.and_self, List.getElem?_toArray, List.getElem?_cons_succ, List.getElem?_cons_zero, beq_self_eq_true, Bool.not_eq_true', List.contains_nil, Bool.not_false, Bool.not_true, of_pre, of_post, of_flat, cod0_dec, cod1_enc, cod1_dec, codC_enc, codC_dec, dAgg_agg, dLst_lst, some_ex, some_ex1, and_self, Env.tk, loadV, fieldAddrV, indexAddrV, lenV, loadD, loadP, allocE, boxE, storeE, St.obj, TI.isAgg, plainTI, zpv, cellsP, refNew, newOb, setOb, cut, List.getD_cons_zero, List.getD_cons_succ, List.length_cons, List.length_nil, List.length_map, ex_eq, or_true, imp_eq, lbK_true, lnK_none, lenF, List.take_succ_cons, List.take_zero, List.drop_zero, List.drop_succ_cons, List.take_nil, List.drop_nil, Nat.mul_zero, all_ex, all_exc, ex_exc, ex_btrue, pagg, allD, retP, retO, dropObs_nil, Bool.false_eq_true, maxLen_eq, plainTI, ty_r, E6_r, Basin.row, Basin.d, Basin.of2, Claim.drows, Grant.drows, Report.getD, Report.row, Report.drows, idrows, hd1, hw, Int.toNat_natCast, dayG_eq, hne, hq1, forall_const]
    refine ⟨⟨(), trivial⟩, fun hlm x hx hx2 => ?_⟩
    obtain ⟨-, hs⟩ := hx (by simpa using hx2)
    have hsq := getD_sound hs (i := q) (by omega)
    have hpl := hsq.1.1
    have hro := hsq.1.2.2.1
    simp only at hpl hro
    refine ⟨⟨h5, hs⟩, fun _ => ⟨⟨by omega, by omega⟩, ⟨by omega, by omega⟩, fun hf => hf.elim, ?_⟩⟩
    have hbl := books_litR hs h5 (Nat.le_refl l.length)
    have hac := fun o p (ho : (0 : Int) ≤ o) (hp : (0 : Int) ≤ p) => acc_share hs h5 ho hp hq
    have hin := fun o p => share_in hs (i := q) (by omega) o p
    have h40 := fun o p => acc_day4 (b := b) (l := l) l.length o p 16777216
    have hall := acc_all hs h5
    have hgr : balOk (booksF b l l.length) 16777216 := ⟨by have := (books_ok hs h5 (Nat.le_refl l.length)).1; omega, hbl.2, fun g hg => (groups_books hs h5 (Nat.le_refl _) g hg).1⟩
    have i0 : inR 0 = true := rfl
    refine pwp_loop (fun n S => ∃ i : Int, 0 ≤ i ∧ n = ((b.Owners.length : Int) - i).toNat ∧ S.t 12 = .d (.int .i64 i) ∧ S.t 6 = .d (.lst 7 ((booksF b l l.length).map Entry.row)) ∧ S.t 10 = .d (.lst 2 ((dayG b (l.getD q .zero)).map Grant.row)) ∧ S.t 2 = .ref 2 1 0 0 0 ∧ S.t 9 = .ref 9 1 0 0 0 ∧ S.t 5 = .d (.bool true) ∧ S.o 2 = (1, some (.box 31 (b.row.map PV.d))) ∧ S.o 9 = (1, some (.box 58 [.d (.lst 9 ((l.getD q .zero).Roster.map Claim.row)), .d (.lst 1 ((l.getD q .zero).Supply.map irow))]))) ((b.Owners.length : Int) - 0).toNat ?_ ?_
    · exact ⟨0, by omega, rfl, rfl, rfl, rfl, rfl, rfl, rfl, rfl, rfl⟩
    rintro n ⟨t, o⟩ ⟨i, hi0, hn, h12, h6, h10, h2, h9, h5', ho2, ho9⟩
    simp only at h12 h6 h10 h2 h9 h5' ho2 ho9
    simp only [List.map_cons, List.map_nil, run_skip, run_region, run_seq, run_cond, run_block, run_exit, run_ret, run_loop, opsK_nil, opsK_op, seqK_normal, seqK_exit, blkK_exit, loopK_exit, endP_ret, condK_bool, upd_apply, after_some, ev_tmp, ev_int, ev_bool, St.sv, St.sc, strip, stripC, argsC, pK_none, pK_some, gpK_some, pmap_some, gK, gB_bool, op_move, op_assign, op_gmove, op_pick, op_bin, op_load, op_fa, op_gbin, op_len, bin_eql, bin_lss, pick_b, op_gcall, cgK_some, iK_some, iK2_none, cK_some, cK2_some, conK_gflat, icallInfo_func, callInfo_func, ciK_some, snapVs_nil, snapVs_cons, outK, outL, outM, resPs, resP, rvsOf, rvOf, snapV, snapC, sepB, ownKs, dataKs, keysV, keysC, nodupB, packP, RV.flatP, Option.bind_some, Option.map_some, true_implies, true_and, and_true, implies_true, ↓reduceIte, Nat.reduceEqDiff, reduceCtorEq, Nat.reduceAdd, Nat.reduceLT, Nat.zero_add, List.all_nil, List.append_nil, List.flatMap_cons, List.flatMap_nil, Bool.and_self, List.getElem?_toArray, List.getElem?_cons_succ, List.getElem?_cons_zero, beq_self_eq_true, decide_eq_true_eq, decide_eq_false_iff_not, List.contains_nil, Bool.not_false, of_pre, of_post, of_flat, cod1_dec, codC_dec, dInt_int, dLst_lst, some_ex, and_self, Env.tk, loadV, fieldAddrV, lenV, loadP, St.obj, TI.isAgg, List.getD_cons_zero, List.getD_cons_succ, List.length_cons, List.length_nil, List.length_map, ex_eq, or_true, imp_eq, lbK_true, lnK_none, lenF, Nat.mul_zero, Bool.false_eq_true, maxLen_eq, ty_r, E6_r, Basin.row, Entry.drows, h12, h6, h2, h5', ho2, hall, i0, beq_self_eq_true]
    refine fun hol => ⟨fun hlt => ?_, fun _ => ?_⟩
    · refine pwp_loop (fun n S => ∃ j : Int, 0 ≤ j ∧ n = ((b.Places.length : Int) - j).toNat ∧ S.t 13 = .d (.int .i64 j) ∧ S.t 12 = .d (.int .i64 i) ∧ S.t 6 = .d (.lst 7 ((booksF b l l.length).map Entry.row)) ∧ S.t 10 = .d (.lst 2 ((dayG b (l.getD q .zero)).map Grant.row)) ∧ S.t 2 = .ref 2 1 0 0 0 ∧ S.t 9 = .ref 9 1 0 0 0 ∧ S.t 5 = .d (.bool true) ∧ S.o 2 = (1, some (.box 31 (b.row.map PV.d))) ∧ S.o 9 = (1, some (.box 58 [.d (.lst 9 ((l.getD q .zero).Roster.map Claim.row)), .d (.lst 1 ((l.getD q .zero).Supply.map irow))]))) ((b.Places.length : Int) - 0).toNat ?_ ?_
      · exact ⟨0, by omega, rfl, rfl, h12, h6, h10, h2, h9, h5', ho2, ho9⟩
      clear h12 h6 h10 h2 h9 h5' ho2 ho9
      rintro m ⟨t, o⟩ ⟨j, hj0, hm, h13, h12, h6, h10, h2, h9, h5', ho2, ho9⟩
      simp only at h13 h12 h6 h10 h2 h9 h5' ho2 ho9
      have hacc := hac i j hi0 hj0
      have hinn := hin i j
      simp only [List.map_cons, List.map_nil, run_skip, run_region, run_seq, run_cond, run_block, run_exit, run_ret, opsK_nil, opsK_op, seqK_normal, seqK_exit, seqK_ret, blkK_normal, blkK_exit, blkK_ret, loopK_normal, loopK_exit, loopK_ret, endP_ret, condK_bool, upd_apply, after_some, ev_tmp, ev_int, ev_bool, St.sv, St.sc, strip, stripC, argsC, pK_none, pK_some, gpK_some, pmap_some, gK, gB_bool, op_move, op_assign, op_gmove, op_pick, op_bin, op_load, op_fa, op_gbin, op_len, bin_add, bin_neq, bin_lss, pick_b, op_call, op_gcall, cgK_some, iK_some, iK2_none, cK_some, cK2_some, conK_flat, conK_gflat, icallInfo_func, callInfo_func, ciK_some, snapVs_nil, snapVs_cons, outK, outL, outM, resPs, resP, rvsOf, rvOf, snapV, snapC, sepB, ownKs, dataKs, keysV, keysC, nodupB, packP, RV.flatP, Option.bind_some, Option.map_some, true_implies, true_and, and_true, implies_true, ↓reduceIte, Nat.reduceEqDiff, Nat.reduceAdd, Nat.reduceLT, Nat.zero_add, Nat.add_zero, List.all_nil, List.append_nil, List.flatMap_cons, List.flatMap_nil, Bool.and_self, List.getElem?_toArray, List.getElem?_cons_succ, List.getElem?_cons_zero, beq_self_eq_true, decide_eq_true_eq, decide_eq_false_iff_not, List.contains_nil, Bool.not_false, of_pre, of_post, of_flat, cod1_dec, codC_dec, dInt_int, dLst_lst, some_ex, some_ex1, and_self, Env.tk, loadV, fieldAddrV, lenV, loadP, St.obj, TI.isAgg, List.getD_cons_zero, List.getD_cons_succ, List.length_cons, List.length_nil, List.length_map, ex_eq, or_true, imp_eq, lbK_true, lnK_none, lenF, Nat.mul_zero, Bool.false_eq_true, maxLen_eq, ty_r, E6_r, Basin.row, Claim.drows, Grant.drows, Entry.drows, h13, h12, h6, h10, h2, h9, ho2, ho9, hacc, hinn, h40, i0, bne_self_eq_false, false_implies]
      refine fun hplm => ⟨fun hjt => ⟨hbl, hbl, ?_⟩, fun _ => ?_⟩
      · refine ghost_id ⟨((b.Places.length : Int) - (j + 1)).toNat, by omega, j + 1, by omega, rfl, ?_, h12, h6, h10, h2, h9, h5', ho2, ho9⟩
        simp only [upd_apply, ↓reduceIte]; rw [wrap64 (by omega) (by omega)]
      · refine ghost_id ⟨((b.Owners.length : Int) - (i + 1)).toNat, by omega, i + 1, by omega, rfl, ?_, h6, h10, h2, h9, h5', ho2, ho9⟩
        simp only [upd_apply, ↓reduceIte]; rw [wrap64 (by omega) (by omega)]
    · exact ⟨hbl, hgr⟩
  · simp only [startP_eq, startL, List.map_cons, List.map_nil, run_skip, run_region, run_seq, run_cond, run_block, run_ret, run_loop, opsK_nil, opsK_op, seqK_normal, seqK_ret, endP_ret, condK_bool, upd_apply, after_some, after_none, ev_tmp, ev_int, ev_bool, St.sv, St.sc, strip, stripC, argsC, pK_none, pK_some, gpK_some, pmap_some, gK, gB_bool, op_move, op_assign, op_gmove, op_pick, op_bin, op_un, op_ext, op_load, op_fa, op_ia, op_gun, op_gload, op_len, bin_sub, bin_eql, pick_b, unV, eK_some, emap_some, op_alloc, op_box, op_store, op_call, op_gcall, cgK_some, iK_some, iK2_none, cK_some, cK2_some, conK_flat, conK_gflat, conK_own, icallInfo_func, callInfo_func, ciK_some, snapVs_nil, snapVs_cons, outK, outL, outM, resPs, resP, rvsOf, rvOf, snapV, snapC, sepB, ownKs, dataKs, keysV, keysC, nodupB, packP, RV.flatP, extV, Option.bind_some, Option.map_some, true_implies, true_and, and_true, implies_true, ↓reduceIte, Nat.reduceEqDiff, reduceCtorEq, Nat.reduceAdd, Nat.reduceLT, Nat.reduceLeDiff, Nat.zero_add, Nat.add_zero, List.all_nil, List.append_nil, List.nil_append, List.flatMap_cons, List.flatMap_nil, Bool.and_self, List.getElem?_toArray, List.getElem?_cons_succ, List.getElem?_cons_zero, beq_self_eq_true, Bool.not_eq_true', List.contains_nil, Bool.not_false, Bool.not_true, of_pre, of_post, of_flat, cod0_dec, cod1_enc, cod1_dec, codC_enc, codC_dec, dAgg_agg, dLst_lst, some_ex, some_ex1, and_self, Env.tk, loadV, fieldAddrV, indexAddrV, lenV, loadD, loadP, allocE, boxE, storeE, St.obj, TI.isAgg, plainTI, zpv, cellsP, refNew, newOb, setOb, cut, List.getD_cons_zero, List.getD_cons_succ, List.length_cons, List.length_nil, List.length_map, or_true, true_or, imp_eq, lbK_true, lnK_none, lenF, List.take_succ_cons, List.take_zero, List.drop_zero, List.drop_succ_cons, List.take_nil, List.drop_nil, Nat.mul_zero, all_ex, all_exc, ex_exc, ex_btrue, pagg, allD, retP, retO, dropObs_nil, Bool.false_eq_true, maxLen_eq, plainTI, ty_r, E6_r, Basin.row, Basin.d, Basin.of2, Claim.drows, Grant.drows, Report.getD, Report.row, Report.drows, idrows, hd1]
    exact ⟨⟨(), trivial⟩, fun _ _ x hx hx2 => absurd (hx (by simpa using hx2)).1 h5⟩
end Go.Proofs.Ytomnjbebgfadoaa.Pi
end
