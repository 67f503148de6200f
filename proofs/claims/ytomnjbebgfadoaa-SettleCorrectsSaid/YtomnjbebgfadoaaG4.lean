/- Contracts: curves under curves; links.
   Conditions: none; lemmas. -/
import Derived.Test.YtomnjbebgfadoaaG3
section
set_option linter.unusedVariables false
set_option linter.unusedSimpArgs false
namespace Go.Proofs.Ytomnjbebgfadoaa.Pi
open Go Go.RowKit Go.Proofs
set_option maxHeartbeats 4000000
abbrev cPtsI : Cod (List Point × Int) := codC (fun l => .lst 2 (l.map Point.row)) (dLst 2 Point.of) (fun _ _ => dLst_iff Point.iff) cI
abbrev cLink : Cod Link := cod1 Link.d (dAgg Link.of) Link.diff
abbrev con71 : Con := .of cPtsI (fun a => 1 ≤ a.1.length) (fun _ rs => ∃ x : Int × Bool, rs = [.d (.int .i64 x.1), .d (.bool x.2)]) true
noncomputable def E71 : Env := (E0.add 68 con68).at 87 (fun d => false) (fun d => d) (fun d => true)
theorem E71_ok : EnvOk E71 := (E0_ok.add Try.func68 rfl rfl ok68).at _ _ _ _
theorem E71_r : E71.ty = E0.ty ∧ (E71.con 68 = some con68 ∧ E71.icon 68 = none) ∧ E71.fact 22 = true ∧ E71.fact 82 = true ∧ (∀ d, E71.key d = d) := ⟨rfl, ⟨rfl, rfl⟩, rfl, rfl, fun _ => rfl⟩

theorem ok71 : ConOk Try.prog 71 con71 := by
  refine con_of (E := E71) E71_ok (fn := Try.f71) Try.func71 rfl (by decide) (by kernel_rfl) (rs := [.tmp 4, .tmp 5]) rfl (by decide) (by decide) [.data 3, .data 4]  (fun _ _ => ⟨_, default, rfl⟩) (by rintro _ a r ⟨b, rfl⟩ x hx; simp only [List.mem_cons, List.not_mem_nil, or_false] at hx; rcases hx with rfl | rfl <;> rfl) ?_
  rintro ⟨l, x⟩ hl
  simp (maxSteps := 1000000) only [startP_eq, startL, List.map_cons, List.map_nil, run_skip, run_region, run_seq, run_cond, run_block, run_ret, run_loop, opsK_nil, opsK_op, seqK_normal, seqK_ret, endP_ret, condK_bool, upd_apply, after_some, ev_tmp, ev_int, ev_bool, St.sv, St.sc, strip, stripC, pK_none, pmap_some, op_move, op_assign, on_bin, op_load, op_fa, op_ia, bin_leq, outK, outL, outM, resPs, resP, rvsOf, rvOf, snapV, snapC, sepB, ownKs, dataKs, keysV, keysC, nodupB, Option.bind_some, Option.map_some, true_and, and_true, ↓reduceIte, Nat.reduceEqDiff, reduceCtorEq, Nat.reduceAdd, Nat.reduceLT, Nat.zero_add, Nat.add_zero, List.all_nil, List.append_nil, Bool.and_self, List.getElem?_cons_succ, List.getElem?_cons_zero, List.contains_nil, Bool.not_false, cod1_enc, codC_enc, and_self, Env.tk, loadV, fieldAddrV, indexAddrV, loadD, TI.isAgg, List.getD_cons_zero, List.getD_cons_succ, List.length_cons, List.length_nil, List.length_map, pN_bool, Bool.false_eq_true, Int.toNat_zero, ty_r, E71_r, Point.getD, Point.row]
  repeat' (first | with_reducible apply And.intro | intro _)
  all_goals (try simp only [Named] at *)
  all_goals (try (first | exact ⟨(_, _), rfl⟩ | (subst_vars; grind)))
  refine pwp_loop (fun n S => ∃ i : Int, 1 ≤ i ∧ i ≤ (l.length : Int) + 1 ∧ n = ((l.length : Int) + 1 - i).toNat ∧ S.t 6 = .d (.int .i64 i) ∧ S.t 0 = .d (.lst 2 (l.map Point.row)) ∧ S.t 1 = .d (.int .i64 x)) ((l.length : Int) + 1 - 1).toNat ⟨1, by omega, by omega, by omega, rfl, (by first | rfl | exact h0 | exact hi), (by first | rfl | exact h1 | exact hi)⟩ ?_
  rintro n ⟨t, o⟩ ⟨i, hi0, hil, hn, hi, h0, h1⟩
  simp only at hi h0 h1
  simp (maxSteps := 1000000) only [List.map_cons, List.map_nil, run_skip, run_region, run_seq, run_cond, run_block, run_exit, run_ret, opsK_nil, opsK_op, seqK_normal, seqK_exit, seqK_ret, blkK_normal, blkK_exit, blkK_ret, loopK_normal, loopK_exit, loopK_ret, endP_ret, condK_bool, upd_apply, after_some, ev_tmp, ev_int, ev_bool, St.sv, St.sc, strip, stripC, argsC, pK_none, pmap_some, op_move, op_assign, on_bin, op_ext, op_load, op_fa, op_ia, op_len, bin_add, bin_sub, bin_lss, bin_leq, bin_gtr, op_call, iK_some, iK2_none, cK_some, cK2_some, conK_flat, icallInfo_func, callInfo_func, ciK_some, snapVs_nil, snapVs_cons, outK, outL, outM, resPs, resP, rvsOf, rvOf, snapV, snapC, sepB, ownKs, dataKs, keysV, keysC, nodupB, packP, RV.flatP, extV, Option.bind_some, Option.map_some, true_and, and_true, ↓reduceIte, Nat.reduceEqDiff, reduceCtorEq, Nat.reduceAdd, Nat.reduceLT, Nat.zero_add, Nat.add_zero, List.all_nil, List.append_nil, List.flatMap_cons, List.flatMap_nil, Bool.and_self, List.getElem?_cons_succ, List.getElem?_cons_zero, List.contains_nil, Bool.not_false, of_pre, of_post, of_flat, cod1_dec, codC_dec, dInt_int, some_ex, some_ex1, and_self, Env.tk, loadV, fieldAddrV, indexAddrV, lenV, loadD, TI.isAgg, List.getD_cons_zero, List.getD_cons_succ, List.length_cons, List.length_nil, List.length_map, pN_bool, pN_int, lbK_true, lnK_none, lenF, all_ex, Bool.false_eq_true, maxLen_eq, ty_r, E71_r, Point.getD, Point.row, hi, h0, h1]
  (try rw [maxLen_eq])
  repeat' (first | with_reducible apply And.intro | intro _)
  all_goals (try simp only [Named] at *)
  all_goals (try (subst_vars; grind [wrap64]))
  all_goals (try (first | exact ⟨(_, _), rfl⟩))
  all_goals (refine ghost_id ⟨((l.length : Int) + 1 - (i + 1)).toNat, ?_, i + 1, ?_, ?_, rfl, ?_, ?_, ?_⟩ <;> (try simp only [upd_apply, Nat.reduceEqDiff, ↓reduceIte, h0, h1]) <;> (first | with_reducible rfl | (subst_vars; grind [wrap64]) | rfl))
abbrev con59 : Con := .of cPts (fun _ => True) (fun _ rs => ∃ n : Int, rs = [.d (.int .i64 n)]) true
noncomputable def E59 : Env := (E0.add 58 con58).at 39 (fun d => false) (fun d => d) (fun d => true)
theorem E59_ok : EnvOk E59 := (E0_ok.add Try.func58 rfl rfl ok58).at _ _ _ _
theorem E59_r : E59.ty = E0.ty ∧ (E59.con 58 = some con58 ∧ E59.icon 58 = none) ∧ E59.fact 7 = true ∧ (∀ d, E59.key d = d) := ⟨rfl, ⟨rfl, rfl⟩, rfl, fun _ => rfl⟩

theorem ok59 : ConOk Try.prog 59 con59 := by
  refine con_of (E := E59) E59_ok (fn := Try.f59) Try.func59 rfl (by decide) (by kernel_rfl) (rs := [.tmp 2]) rfl (by decide) (by decide) [.data 3]  (fun _ _ => ⟨_, 0, rfl⟩) anyInt ?_
  intro l _
  simp (maxSteps := 1000000) only [startP_eq, startL, List.map_cons, List.map_nil, run_region, run_seq, run_block, run_loop, opsK_nil, opsK_op, seqK_normal, ev_int, op_assign, cod1_enc]
  refine pwp_loop (fun n S => ∃ i : Int, 1 ≤ i ∧ i ≤ (l.length : Int) + 1 ∧ n = ((l.length : Int) + 1 - i).toNat ∧ S.t 4 = .d (.int .i64 i) ∧ S.t 0 = .d (.lst 2 (l.map Point.row)) ∧ (∃ v : Int, S.t 3 = .d (.int .i64 v))) ((l.length : Int) + 1 - 1).toNat ⟨1, by omega, by omega, by omega, rfl, (by first | rfl | exact h0 | exact hi), (by first | exact ⟨_, rfl⟩ | exact ⟨_, h3⟩)⟩ ?_
  rintro n ⟨t, o⟩ ⟨i, hi0, hil, hn, hi, h0, ⟨v3, h3⟩⟩
  simp only at hi h0 h3
  simp (maxSteps := 1000000) only [List.map_cons, List.map_nil, run_skip, run_region, run_seq, run_cond, run_block, run_exit, run_ret, opsK_nil, opsK_op, seqK_normal, seqK_exit, blkK_normal, blkK_exit, loopK_normal, loopK_exit, endP_ret, condK_bool, upd_apply, after_some, ev_tmp, ev_int, St.sv, St.sc, strip, stripC, argsC, pK_none, pmap_some, op_move, op_assign, on_bin, op_load, op_fa, op_ia, op_len, op_max, maxK, bin_add, bin_sub, bin_lss, op_call, iK_some, iK2_none, cK_some, cK2_some, conK_flat, icallInfo_func, callInfo_func, ciK_some, snapVs_nil, snapVs_cons, outK, outL, outM, resPs, resP, rvsOf, rvOf, snapV, snapC, sepB, ownKs, dataKs, keysV, keysC, nodupB, packP, RV.flatP, Option.bind_some, Option.map_some, true_and, and_true, ↓reduceIte, Nat.reduceEqDiff, reduceCtorEq, Nat.reduceAdd, Nat.reduceLT, Nat.zero_add, Nat.add_zero, List.all_nil, List.append_nil, List.flatMap_cons, List.flatMap_nil, Bool.and_self, List.getElem?_cons_succ, List.getElem?_cons_zero, List.contains_nil, Bool.not_false, of_pre, of_post, of_flat, cod1_dec, codC_dec, dInt_int, some_ex, some_ex1, and_self, Env.tk, loadV, fieldAddrV, indexAddrV, lenV, loadD, TI.isAgg, List.getD_cons_zero, List.getD_cons_succ, List.length_cons, List.length_nil, List.length_map, pN_bool, pN_int, lbK_true, lnK_none, lenF, all_ex, ints_2, maxI_2, Bool.false_eq_true, maxLen_eq, ty_r, E59_r, Point.getD, Point.row, hi, h0, h3]
  (try rw [maxLen_eq])
  repeat' (first | with_reducible apply And.intro | intro _)
  all_goals (try simp only [Named] at *)
  all_goals (try (subst_vars; grind [wrap64]))
  all_goals (try (first | exact ⟨_, rfl⟩))
  all_goals (refine ghost_id ⟨((l.length : Int) + 1 - (i + 1)).toNat, ?_, i + 1, ?_, ?_, rfl, ?_, ?_, (by first | exact ⟨_, rfl⟩ | exact ⟨_, h3⟩)⟩ <;> (try simp only [upd_apply, Nat.reduceEqDiff, ↓reduceIte, h0]) <;> (first | with_reducible rfl | (subst_vars; grind [wrap64]) | rfl))
abbrev con69 : Con := .of cPts2 (fun _ => True) (fun _ rs => ∃ b : Bool, rs = [.d (.bool b)]) true
noncomputable def E69 : Env := ((E0.add 54 con54).add 71 con71).at 77 (fun d => false) (fun d => d) (fun d => true)
theorem E69_ok : EnvOk E69 := ((E0_ok.add Try.func54 rfl rfl ok54).add Try.func71 rfl rfl ok71).at _ _ _ _
theorem E69_r : E69.ty = E0.ty ∧ (E69.con 54 = some con54 ∧ E69.icon 54 = none) ∧ (E69.con 71 = some con71 ∧ E69.icon 71 = none) ∧ E69.fact 21 = true ∧ E69.fact 44 = true ∧ (∀ d, E69.key d = d) := ⟨rfl, ⟨rfl, rfl⟩, ⟨rfl, rfl⟩, rfl, rfl, fun _ => rfl⟩

theorem ok69 : ConOk Try.prog 69 con69 := by
  refine con_of (E := E69) E69_ok (fn := Try.f69) Try.func69 rfl (by decide) (by kernel_rfl) (rs := [.tmp 4]) rfl (by decide) (by decide) [.data 4]  boolSome anyFlat ?_
  rintro ⟨l, l'⟩ _
  simp (maxSteps := 1000000) only [startP_eq, startL, List.map_cons, List.map_nil, run_skip, run_region, run_seq, run_cond, run_block, run_ret, run_loop, opsK_nil, opsK_op, seqK_normal, seqK_ret, endP_ret, condK_bool, upd_apply, after_some, ev_tmp, ev_int, ev_bool, St.sv, St.sc, strip, stripC, argsC, pK_none, pK_some, gpK_some, pmap_some, gK, gB_bool, op_move, op_assign, op_gmove, on_pick, op_un, op_gun, pick_b, unV, op_call, op_gcall, cgK_some, iK_some, iK2_none, cK_some, cK2_some, conK_flat, conK_gflat, icallInfo_func, callInfo_func, ciK_some, snapVs_nil, snapVs_cons, outK, outL, outM, resPs, resP, rvsOf, rvOf, snapV, snapC, sepB, ownKs, dataKs, keysV, keysC, nodupB, packP, RV.flatP, Option.bind_some, Option.map_some, true_implies, true_and, and_true, implies_true, ↓reduceIte, Nat.reduceEqDiff, reduceCtorEq, Nat.zero_add, List.all_nil, List.append_nil, List.flatMap_cons, List.flatMap_nil, Bool.and_self, List.getElem?_toArray, List.getElem?_cons_succ, List.getElem?_cons_zero, beq_false, Bool.not_eq_true', List.contains_nil, Bool.not_false, of_pre, of_post, of_flat, cod1_enc, cod1_dec, codC_enc, dLst_lst, some_ex, some_ex1, imp_self, and_self, or_true, pN_bool, all_exc, ex_exc, ex_btrue, E69_r, Point.drows]
  repeat' (first | with_reducible apply And.intro | intro _)
  all_goals (try simp only [Named] at *)
  all_goals (try (first | exact ⟨_, rfl⟩ | (subst_vars; grind)))
  have hl : 1 ≤ l.length ∧ 1 ≤ l'.length := by subst_vars; grind
  refine pwp_loop (fun n S => ∃ i : Int, 0 ≤ i ∧ i ≤ (l.length : Int) ∧ n = ((l.length : Int) - i).toNat ∧ S.t 5 = .d (.int .i64 i) ∧ S.t 0 = .d (.lst 2 (l.map Point.row)) ∧ S.t 1 = .d (.lst 2 (l'.map Point.row))) ((l.length : Int) - 0).toNat ⟨0, by omega, by omega, by omega, rfl, (by first | rfl | exact h0 | exact hi), (by first | rfl | exact h1 | exact hi)⟩ ?_
  rintro n ⟨t, o⟩ ⟨i, hi0, hil, hn, hi, h0, h1⟩
  simp only at hi h0 h1
  simp (maxSteps := 1000000) only [List.map_cons, List.map_nil, run_skip, run_region, run_seq, run_cond, run_block, run_exit, run_ret, run_loop, opsK_nil, opsK_op, seqK_normal, seqK_exit, seqK_ret, blkK_normal, blkK_exit, blkK_ret, loopK_normal, loopK_exit, loopK_ret, endP_ret, condK_bool, upd_apply, after_some, ev_tmp, ev_int, ev_bool, St.sv, St.sc, strip, stripC, argsC, pK_none, pmap_some, op_move, op_assign, on_bin, op_ext, op_load, op_fa, op_ia, op_len, bin_add, bin_lss, bin_gtr, op_call, iK_some, iK2_none, cK_some, cK2_some, conK_flat, icallInfo_func, callInfo_func, ciK_some, snapVs_nil, snapVs_cons, outK, outL, outM, resPs, resP, rvsOf, rvOf, snapV, snapC, sepB, ownKs, dataKs, keysV, keysC, nodupB, packP, RV.flatP, extV, Option.bind_some, Option.map_some, true_and, and_true, ↓reduceIte, Nat.reduceEqDiff, reduceCtorEq, Nat.reduceAdd, Nat.reduceLT, Nat.zero_add, Nat.add_zero, List.all_nil, List.append_nil, List.flatMap_cons, List.flatMap_nil, Bool.and_self, List.getElem?_cons_succ, List.getElem?_cons_zero, List.contains_nil, Bool.not_false, of_pre, of_post, of_flat, cod1_dec, codC_dec, dInt_int, dLst_lst, some_ex, and_self, Env.tk, loadV, fieldAddrV, indexAddrV, lenV, loadD, TI.isAgg, List.getD_cons_zero, List.getD_cons_succ, List.length_cons, List.length_nil, List.length_map, pN_bool, pN_int, lbK_true, lnK_none, lenF, all_ex, Bool.false_eq_true, maxLen_eq, ty_r, E69_r, Point.getD, Point.row, Point.drows, hi, h0, h1]
  (try rw [maxLen_eq])
  repeat' (first | with_reducible apply And.intro | intro _)
  all_goals (try simp only [Named] at *)
  all_goals (try (subst_vars; grind [wrap64]))
  all_goals (try (first | exact ⟨_, rfl⟩))
  · (refine ghost_id ⟨((l.length : Int) - (i + 1)).toNat, ?_, i + 1, ?_, ?_, rfl, ?_, ?_, ?_⟩ <;> (try simp only [upd_apply, Nat.reduceEqDiff, ↓reduceIte, h0, h1]) <;> (first | with_reducible rfl | (subst_vars; grind [wrap64]) | rfl))
  refine pwp_loop (fun n S => ∃ i : Int, 0 ≤ i ∧ i ≤ (l'.length : Int) ∧ n = ((l'.length : Int) - i).toNat ∧ S.t 8 = .d (.int .i64 i) ∧ S.t 0 = .d (.lst 2 (l.map Point.row)) ∧ S.t 1 = .d (.lst 2 (l'.map Point.row))) ((l'.length : Int) - 0).toNat ⟨0, by omega, by omega, by omega, rfl, (by first | rfl | exact h0 | exact hi), (by first | rfl | exact h1 | exact hi)⟩ ?_
  rintro n ⟨t, o⟩ ⟨i, hi0, hil, hn, hi, h0, h1⟩
  simp only at hi h0 h1
  simp (maxSteps := 1000000) only [List.map_cons, List.map_nil, run_skip, run_region, run_seq, run_cond, run_block, run_exit, run_ret, opsK_nil, opsK_op, seqK_normal, seqK_exit, seqK_ret, blkK_normal, blkK_exit, blkK_ret, loopK_normal, loopK_exit, loopK_ret, endP_ret, condK_bool, upd_apply, after_some, ev_tmp, ev_int, ev_bool, St.sv, St.sc, strip, stripC, argsC, pK_none, pK_some, gpK_some, pmap_some, gK, gB_bool, gB_opt, op_move, op_assign, op_gmove, on_pick, on_bin, op_ext, op_load, op_fa, op_ia, on_gpick, on_gbin, op_gload, op_gfa, op_gia, op_len, bin_add, bin_eql, bin_lss, bin_gtr, pick_b, op_call, iK_some, iK2_none, cK_some, cK2_some, conK_flat, icallInfo_func, callInfo_func, ciK_some, snapVs_nil, snapVs_cons, outK, outL, outM, resPs, resP, rvsOf, rvOf, snapV, snapC, sepB, ownKs, dataKs, keysV, keysC, nodupB, packP, RV.flatP, extV, Option.bind_some, Option.map_some, true_and, and_true, implies_true, ↓reduceIte, Nat.reduceEqDiff, reduceCtorEq, Nat.reduceAdd, Nat.reduceLT, Nat.zero_add, Nat.add_zero, List.all_nil, List.append_nil, List.flatMap_cons, List.flatMap_nil, Bool.and_self, List.getElem?_toArray, List.getElem?_cons_succ, List.getElem?_cons_zero, beq_true, beq_false, Bool.not_eq_true', Bool.and_eq_true, List.contains_nil, Bool.not_false, of_pre, of_post, of_flat, cod1_dec, codC_dec, dInt_int, dLst_lst, some_ex, imp_self, and_self, Env.tk, loadV, fieldAddrV, indexAddrV, lenV, loadD, TI.isAgg, List.getD_cons_zero, List.getD_cons_succ, List.length_cons, List.length_nil, List.length_map, pN_bool, pN_int, pN_gbool, gpN_some, lbK_true, lnK_none, lenF, all_ex, Bool.false_eq_true, maxLen_eq, ty_r, E69_r, Point.getD, Point.row, Point.drows, hi, h0, h1]
  (try rw [maxLen_eq])
  repeat' (first | with_reducible apply And.intro | intro _)
  all_goals (try simp only [Named] at *)
  all_goals (try (subst_vars; grind [wrap64]))
  all_goals (try (first | exact ⟨_, rfl⟩))
  all_goals (refine ghost_id ⟨((l'.length : Int) - (i + 1)).toNat, ?_, i + 1, ?_, ?_, rfl, ?_, ?_, ?_⟩ <;> (try simp only [upd_apply, Nat.reduceEqDiff, ↓reduceIte, h0, h1]) <;> (first | with_reducible rfl | (subst_vars; grind [wrap64]) | rfl))
abbrev con66 : Con := .of cLink (fun _ => True) (fun _ rs => ∃ b : Bool, rs = [.d (.bool b)]) true
noncomputable def E66 : Env := (E0.add 69 con69).at 17 (fun d => false) (fun d => d) (fun d => true)
theorem E66_ok : EnvOk E66 := (E0_ok.add Try.func69 rfl rfl ok69).at _ _ _ _
theorem E66_r : E66.ty = E0.ty ∧ (E66.con 69 = some con69 ∧ E66.icon 69 = none) ∧ (∀ d, E66.key d = d) := ⟨rfl, ⟨rfl, rfl⟩, fun _ => rfl⟩

theorem ok66 : ConOk Try.prog 66 con66 := by
  refine con_of (E := E66) E66_ok (fn := Try.f66) Try.func66 rfl (by decide) (by kernel_rfl) (rs := [.tmp 2]) rfl (by decide) (by decide) [.data 4]  boolSome anyFlat ?_
  intro l _
  simp (maxSteps := 1000000) only [startP_eq, startL, List.map_cons, List.map_nil, run_region, run_seq, run_ret, opsK_nil, opsK_op, seqK_normal, endP_ret, upd_apply, after_some, ev_tmp, ev_bool, St.sv, St.sc, strip, stripC, argsC, pK_none, pK_some, gpK_some, pmap_some, gK, gB_bool, op_move, op_assign, on_pick, op_load, op_fa, op_gload, op_gfa, pick_b, eK_some, emap_some, op_box, op_call, op_gcall, cgK_some, iK_some, iK2_none, cK_some, cK2_some, conK_flat, conK_gflat, icallInfo_func, callInfo_func, ciK_some, snapVs_nil, snapVs_cons, outK, outL, outM, resPs, resP, rvsOf, rvOf, snapV, snapC, sepB, ownKs, dataKs, keysV, keysC, nodupB, packP, RV.flatP, Option.bind_some, Option.map_some, true_implies, true_and, and_true, implies_true, ↓reduceIte, Nat.reduceEqDiff, Nat.reduceAdd, Nat.reduceLT, Nat.zero_add, Nat.add_zero, List.all_nil, List.append_nil, List.flatMap_cons, List.flatMap_nil, Bool.and_self, List.getElem?_toArray, List.getElem?_cons_succ, List.getElem?_cons_zero, beq_true, List.contains_nil, Bool.not_false, of_pre, of_post, of_flat, cod1_enc, cod1_dec, codC_dec, dLst_lst, some_ex, some_ex1, imp_self, and_self, Env.tk, loadV, fieldAddrV, loadP, boxE, St.obj, TI.isAgg, cellsP, refNew, newOb, List.getD_cons_zero, List.getD_cons_succ, List.length_cons, List.length_nil, ex_bool, all_bool, or_true, pN_bool, Nat.mul_zero, Bool.false_eq_true, ty_r, E66_r, Point.drows, Link.row, Link.d]
  repeat' (first | with_reducible apply And.intro | intro _)
  all_goals (first | exact ⟨_, rfl⟩ | (subst_vars; grind))
def Link.bare (l : Link) : Link := { Link.zero with Name := l.Name, Kind := l.Kind, From := l.From, To := l.To, Delay := l.Delay }
abbrev con65 : Con := .of cLink (fun _ => True) (fun l rs => rs = [.d l.bare.d]) false
noncomputable def E65 : Env := E0.at 14 (fun d => false) (fun d => d) (fun d => true)
theorem E65_ok : EnvOk E65 := E0_ok.at _ _ _ _
theorem E65_r : E65.ty = E0.ty ∧ (∀ d, E65.key d = d) := ⟨rfl, fun _ => rfl⟩

theorem ok65 : ConOk Try.prog 65 con65 := by
  refine con_of (E := E65) E65_ok (fn := Try.f65) Try.func65 rfl (by decide) (by kernel_rfl) (rs := [.cell 2 110]) rfl (by decide) (by decide) [.data 110]  (fun _ _ => ⟨_, rfl⟩) (by simp) ?_
  intro l _
  simp (maxSteps := 1000000) only [startP_eq, startL, List.map_cons, List.map_nil, run_region, run_seq, run_ret, opsK_nil, opsK_op, seqK_normal, endP_ret, upd_apply, after_some, after_none, ev_tmp, St.sv, St.sc, strip, stripC, argsC, pK_none, pmap_some, op_load, op_fa, op_build, eK_some, emap_some, op_alloc, op_box, op_store, outK, outL, outM, resPs, resP, rvsOf, rvOf, snapV, snapC, sepB, ownKs, dataKs, keysV, keysC, nodupB, Option.bind_some, Option.map_some, true_and, and_true, ↓reduceIte, Nat.reduceEqDiff, Nat.reduceAdd, Nat.reduceLT, Nat.reduceLeDiff, Nat.zero_add, Nat.add_zero, List.all_nil, List.append_nil, List.nil_append, Bool.and_self, List.getElem?_cons_succ, List.getElem?_cons_zero, List.contains_nil, Bool.not_false, cod1_enc, and_self, Env.tk, loadV, fieldAddrV, loadP, allocE, boxE, storeE, St.obj, TI.isAgg, plainTI, zpv, cellsP, refNew, newOb, setOb, List.getD_cons_zero, List.getD_cons_succ, List.length_cons, List.length_nil, List.take_succ_cons, List.take_zero, List.drop_zero, List.drop_succ_cons, List.take_nil, List.drop_nil, Nat.mul_zero, pagg, allD, buildV, fillP, dcells, dcell, List.cons_append, Bool.false_eq_true, plainTI, ty_r, E65_r, Link.row, Link.d]
  rfl
abbrev cLink2 : Cod (Link × Link) := codC Link.d (dAgg Link.of) Link.diff cLink
abbrev con67 : Con := .of cLink2 (fun _ => True) (fun _ rs => ∃ b : Bool, rs = [.d (.bool b)]) true
noncomputable def E67 : Env := (E0.add 70 con70).at 139 (fun d => false) (fun d => d) (fun d => true)
theorem E67_ok : EnvOk E67 := (E0_ok.add Try.func70 rfl rfl ok70).at _ _ _ _
theorem E67_r : E67.ty = E0.ty ∧ (E67.con 70 = some con70 ∧ E67.icon 70 = none) ∧ (∀ d, E67.key d = d) := ⟨rfl, ⟨rfl, rfl⟩, fun _ => rfl⟩

set_option maxRecDepth 20000 in
theorem ok67 : ConOk Try.prog 67 con67 := by
  refine con_of (E := E67) E67_ok (fn := Try.f67) Try.func67 rfl (by decide) (by kernel_rfl) (rs := [.tmp 4]) rfl (by decide) (by decide) [.data 4]  boolSome anyFlat ?_
  rintro ⟨l, l'⟩ _
  simp (maxSteps := 1000000) only [startP_eq, startL, List.map_cons, List.map_nil, run_region, run_seq, run_ret, opsK_nil, opsK_op, seqK_normal, endP_ret, upd_apply, after_some, ev_tmp, ev_bool, St.sv, St.sc, strip, stripC, argsC, pK_none, pK_some, gpK_some, pmap_some, gK, gB_bool, op_move, op_assign, op_gmove, on_pick, on_bin, op_load, op_fa, on_gbin, op_gload, op_gfa, bin_eql, bin_str, pick_b, sbin, eK_some, emap_some, op_box, op_call, op_gcall, cgK_some, iK_some, iK2_none, cK_some, cK2_some, conK_flat, conK_gflat, icallInfo_func, callInfo_func, ciK_some, snapVs_nil, snapVs_cons, outK, outL, outM, resPs, resP, rvsOf, rvOf, snapV, snapC, sepB, ownKs, dataKs, keysV, keysC, nodupB, packP, RV.flatP, Option.bind_some, Option.map_some, true_implies, true_and, and_true, implies_true, ↓reduceIte, Nat.reduceEqDiff, reduceCtorEq, Nat.reduceAdd, Nat.reduceLT, Nat.zero_add, Nat.add_zero, List.all_nil, List.append_nil, List.flatMap_cons, List.flatMap_nil, Bool.and_self, List.getElem?_toArray, List.getElem?_cons_succ, List.getElem?_cons_zero, beq_true, List.contains_nil, Bool.not_false, of_pre, of_post, of_flat, cod1_enc, cod1_dec, codC_enc, codC_dec, dLst_lst, some_ex, some_ex1, imp_self, and_self, Env.tk, loadV, fieldAddrV, loadP, boxE, St.obj, TI.isAgg, cellsP, refNew, newOb, List.getD_cons_zero, List.getD_cons_succ, List.length_cons, List.length_nil, ex_bool, all_bool, or_true, pN_bool, pN_gbool, gpN_some, Nat.mul_zero, Bool.false_eq_true, ty_r, E67_r, Point.drows, Link.row, Link.d]
  repeat' (first | with_reducible apply And.intro | intro _)
  all_goals (first | exact ⟨_, rfl⟩ | (subst_vars; grind))
end Go.Proofs.Ytomnjbebgfadoaa.Pi
end
section
/- Contracts: links that are right; slopes.
   Conditions: none; lemmas. -/
set_option linter.unusedVariables false
set_option linter.unusedSimpArgs false
namespace Go.Proofs.Ytomnjbebgfadoaa.Pi
open Go Go.RowKit Go.Proofs
set_option maxHeartbeats 4000000
abbrev con57 : Con := .of cLink (fun _ => True) (fun _ rs => ∃ b : Bool, rs = [.d (.bool b)]) true
noncomputable def E57 : Env := ((((((E0.add 35 con35).add 36 con36).add 53 con53).add 65 con65).add 66 con66).add 67 con67).at 151 (fun d => false) (fun d => d) (fun d => true)
theorem E57_ok : EnvOk E57 := ((((((E0_ok.add Try.func35 rfl rfl ok35).add Try.func36 rfl rfl ok36).add Try.func53 rfl rfl ok53).add Try.func65 rfl rfl ok65).add Try.func66 rfl rfl ok66).add Try.func67 rfl rfl ok67).at _ _ _ _
theorem E57_r : E57.ty = E0.ty ∧ (E57.con 35 = some con35 ∧ E57.icon 35 = none) ∧ (E57.con 36 = some con36 ∧ E57.icon 36 = none) ∧ (E57.con 53 = some con53 ∧ E57.icon 53 = none) ∧ (E57.con 65 = some con65 ∧ E57.icon 65 = none) ∧ (E57.con 66 = some con66 ∧ E57.icon 66 = none) ∧ (E57.con 67 = some con67 ∧ E57.icon 67 = none) ∧ (∀ d, E57.key d = d) := ⟨rfl, ⟨rfl, rfl⟩, ⟨rfl, rfl⟩, ⟨rfl, rfl⟩, ⟨rfl, rfl⟩, ⟨rfl, rfl⟩, ⟨rfl, rfl⟩, fun _ => rfl⟩

set_option maxRecDepth 20000 in
theorem ok57 : ConOk Try.prog 57 con57 := by
  refine con_of (E := E57) E57_ok (fn := Try.f57) Try.func57 rfl (by decide) (by kernel_rfl) (rs := [.tmp 2]) rfl (by decide) (by decide) [.data 4]  boolSome anyFlat ?_
  intro l _
  simp (maxSteps := 1000000) only [startP_eq, startL, List.map_cons, List.map_nil, run_skip, run_region, run_seq, run_cond, run_block, run_ret, opsK_nil, opsK_op, seqK_normal, seqK_ret, blkK_normal, blkK_ret, endP_ret, condK_bool, upd_apply, after_some, after_none, ev_tmp, ev_int, ev_bool, St.sv, St.sc, strip, stripC, argsC, pK_none, pK_some, gpK_some, pmap_some, gK, gB_bool, gB_opt, op_move, op_assign, op_gmove, on_pick, on_bin, op_load, op_fa, on_gpick, on_gbin, op_gload, op_gfa, bin_sub, bin_eql, bin_geq, pick_b, eK_some, emap_some, op_alloc, op_box, op_store, op_call, op_gcall, cgK_some, iK_some, iK2_none, cK_some, cK2_some, conK_flat, conK_gflat, conK_own, icallInfo_func, callInfo_func, ciK_some, snapVs_nil, snapVs_cons, outK, outL, outM, resPs, resP, rvsOf, rvOf, snapV, snapC, sepB, ownKs, dataKs, keysV, keysC, nodupB, packP, RV.flatP, Option.bind_some, Option.map_some, true_implies, true_and, and_true, implies_true, ↓reduceIte, Nat.reduceEqDiff, Nat.reduceAdd, Nat.reduceLT, Nat.reduceLeDiff, Nat.zero_add, Nat.add_zero, List.all_nil, List.append_nil, List.nil_append, List.flatMap_cons, List.flatMap_nil, Bool.and_self, List.getElem?_toArray, List.getElem?_cons_succ, List.getElem?_cons_zero, beq_true, beq_false, Bool.not_eq_true', Bool.and_eq_true, List.contains_nil, Bool.not_false, of_pre, of_post, of_flat, cod1_enc, cod1_dec, codC_dec, dInt_int, dBool_bool, dStr_str, dAgg_agg, dLst_lst, dRows_nil, some_ex, some_ex1, imp_self, and_self, Env.tk, loadV, fieldAddrV, loadP, allocE, boxE, storeE, St.obj, TI.isAgg, plainTI, zpv, cellsP, refNew, newOb, setOb, cut, List.getD_cons_zero, List.getD_cons_succ, List.length_cons, List.length_nil, ex_bool, all_bool, ex_eq, or_true, imp_eq, pN_bool, pN_gbool, pN_gint, gpN_some, List.take_succ_cons, List.take_zero, List.drop_zero, List.drop_succ_cons, List.take_nil, List.drop_nil, Nat.mul_zero, pagg, allD, List.cons_append, retP, retO, dropObs_nil, Bool.false_eq_true, plainTI, ty_r, E57_r, Point.drows, Link.row, Link.d, Link.bare, Link.zero, Link.of]
  repeat' (first | with_reducible apply And.intro | intro _)
  all_goals (try simp only [Named] at *)
  all_goals (first | exact ⟨_, rfl⟩ | (subst_vars; grind))
abbrev con39 : Con := .of cBI (fun a => 0 ≤ a.2 ∧ a.2 < a.1.Links.length) (fun _ rs => ∃ b : Bool, rs = [.d (.bool b)]) true
noncomputable def E39 : Env := (((E0.add 35 con35).add 55 con55).add 57 con57).at 72 (fun d => false) (fun d => d) (fun d => true)
theorem E39_ok : EnvOk E39 := (((E0_ok.add Try.func35 rfl rfl ok35).add Try.func55 rfl rfl ok55).add Try.func57 rfl rfl ok57).at _ _ _ _
theorem E39_r : E39.ty = E0.ty ∧ (E39.con 35 = some con35 ∧ E39.icon 35 = none) ∧ (E39.con 55 = some con55 ∧ E39.icon 55 = none) ∧ (E39.con 57 = some con57 ∧ E39.icon 57 = none) ∧ E39.fact 20 = true ∧ (∀ d, E39.key d = d) := ⟨rfl, ⟨rfl, rfl⟩, ⟨rfl, rfl⟩, ⟨rfl, rfl⟩, rfl, fun _ => rfl⟩

set_option maxRecDepth 20000 in
theorem ok39 : ConOk Try.prog 39 con39 := by
  refine con_of (E := E39) E39_ok (fn := Try.f39) Try.func39 rfl (by decide) (by kernel_rfl) (rs := [.tmp 4]) rfl (by decide) (by decide) [.data 4]  (fun _ _ => ⟨_, true, rfl⟩) anyFlat ?_
  rintro ⟨b, j⟩ ⟨hj0, hj1⟩
  simp (maxSteps := 1000000) only [startP_eq, startL, List.map_cons, List.map_nil, run_skip, run_region, run_seq, run_cond, run_ret, opsK_nil, opsK_op, seqK_normal, seqK_ret, endP_ret, condK_bool, upd_apply, after_some, after_none, ev_tmp, ev_int, ev_bool, St.sv, St.sc, strip, stripC, argsC, pK_none, pK_some, gpK_some, pmap_some, gK, gB_bool, gB_opt, op_move, op_assign, op_gmove, on_pick, on_bin, op_un, op_load, op_fa, op_ia, on_gpick, on_gbin, op_gun, op_gload, op_gfa, op_gia, op_glen, bin_eql, bin_neq, bin_lss, bin_geq, pick_b, unV, eK_some, emap_some, op_alloc, op_box, op_store, op_call, op_gcall, cgK_some, iK_some, iK2_none, cK_some, cK2_some, conK_flat, conK_gflat, icallInfo_func, callInfo_func, ciK_some, snapVs_nil, snapVs_cons, outK, outL, outM, resPs, resP, rvsOf, rvOf, snapV, snapC, sepB, ownKs, dataKs, keysV, keysC, nodupB, packP, RV.flatP, Option.bind_some, Option.map_some, true_implies, true_and, and_true, implies_true, ↓reduceIte, Nat.reduceEqDiff, reduceCtorEq, Nat.reduceAdd, Nat.reduceLT, Nat.reduceLeDiff, Nat.zero_add, Nat.add_zero, List.all_nil, List.append_nil, List.nil_append, List.flatMap_cons, List.flatMap_nil, Bool.and_self, List.getElem?_toArray, List.getElem?_cons_succ, List.getElem?_cons_zero, beq_true, beq_false, Bool.not_eq_true', Bool.and_eq_true, List.contains_nil, Bool.not_false, of_pre, of_post, of_flat, cod1_enc, cod1_dec, codC_enc, codC_dec, dInt_int, dAgg_agg, some_ex, some_ex1, imp_self, and_self, Env.tk, loadV, fieldAddrV, indexAddrV, lenV, loadD, loadP, allocE, boxE, storeE, St.obj, TI.isAgg, plainTI, zpv, cellsP, refNew, newOb, setOb, cut, List.getD_cons_zero, List.getD_cons_succ, List.length_cons, List.length_nil, List.length_map, all_bool, ex_eq, or_true, imp_eq, pN_bool, pN_gbool, gpN_some, lbK_true, lnK_some, glbK_some, lenF, List.take_succ_cons, List.take_zero, List.drop_zero, List.drop_succ_cons, List.take_nil, List.drop_nil, Nat.mul_zero, all_exc, pagg, allD, Bool.false_eq_true, maxLen_eq, plainTI, ty_r, E39_r, Place.getD, Place.row, Link.getD, Link.row, Link.of2, Basin.row, Basin.d, Basin.of2]
  repeat' (first | with_reducible apply And.intro | intro _)
  all_goals (try simp only [Named] at *)
  all_goals (try (first | exact ⟨_, rfl⟩ | (subst_vars; grind)))
abbrev con40 : Con := .of cBI (fun a => 0 ≤ a.2 ∧ a.2 < a.1.Places.length) (fun _ rs => ∃ b : Int, rs = [.d (.int .i64 b)]) true
noncomputable def E40 : Env := ((E0.add 58 con58).add 59 con59).at 111 (fun d => false) (fun d => d) (fun d => true)
theorem E40_ok : EnvOk E40 := ((E0_ok.add Try.func58 rfl rfl ok58).add Try.func59 rfl rfl ok59).at _ _ _ _
theorem E40_r : E40.ty = E0.ty ∧ (E40.con 58 = some con58 ∧ E40.icon 58 = none) ∧ (E40.con 59 = some con59 ∧ E40.icon 59 = none) ∧ E40.fact 24 = true ∧ (∀ d, E40.key d = d) := ⟨rfl, ⟨rfl, rfl⟩, ⟨rfl, rfl⟩, rfl, fun _ => rfl⟩

set_option maxRecDepth 20000 in
theorem ok40 : ConOk Try.prog 40 con40 := by
  refine con_of (E := E40) E40_ok (fn := Try.f40) Try.func40 rfl (by decide) (by kernel_rfl) (rs := [.tmp 4]) rfl (by decide) (by decide) [.data 3]  (fun _ _ => ⟨_, 0, rfl⟩) anyInt ?_
  rintro ⟨b, j⟩ ⟨hj0, hj1⟩
  simp (maxSteps := 1000000) only [startP_eq, startL, List.map_cons, List.map_nil, run_region, run_seq, run_block, run_loop, opsK_nil, opsK_op, seqK_normal, upd_apply, after_some, ev_tmp, ev_int, St.sv, St.sc, strip, stripC, argsC, pK_none, pmap_some, op_move, op_assign, op_load, op_fa, op_ia, eK_some, emap_some, op_box, op_call, iK_some, iK2_none, cK_some, cK2_some, conK_flat, icallInfo_func, callInfo_func, ciK_some, snapVs_nil, snapVs_cons, snapV, snapC, keysV, keysC, packP, RV.flatP, Option.bind_some, Option.map_some, true_and, and_true, ↓reduceIte, Nat.reduceEqDiff, reduceCtorEq, Nat.reduceAdd, Nat.reduceLT, Nat.zero_add, List.append_nil, List.flatMap_cons, List.flatMap_nil, List.getElem?_cons_succ, List.getElem?_cons_zero, of_pre, of_post, of_flat, cod1_enc, cod1_dec, codC_enc, codC_dec, dInt_int, some_ex, some_ex1, and_self, Env.tk, loadV, fieldAddrV, indexAddrV, loadD, loadP, boxE, St.obj, TI.isAgg, cellsP, refNew, newOb, List.getD_cons_zero, List.getD_cons_succ, List.length_cons, List.length_nil, List.length_map, Nat.mul_zero, all_ex, Bool.false_eq_true, ty_r, E40_r, Place.getD, Place.row, Basin.row, Basin.d]
  repeat' (first | with_reducible apply And.intro | intro _)
  all_goals (try simp only [] at *)
  all_goals (try (first | exact ⟨_, rfl⟩ | (subst_vars; grind)))
  refine pwp_loop (fun n S => ∃ i : Int, 0 ≤ i ∧ i ≤ (b.Links.length : Int) ∧ n = ((b.Links.length : Int) - i).toNat ∧ S.t 6 = .d (.int .i64 i) ∧ S.t 1 = .d (.int .i64 j) ∧ S.t 2 = .ref 2 1 0 0 0 ∧ (∃ v : Int, S.t 5 = .d (.int .i64 v)) ∧ S.o 2 = (1, some (.box 31 (b.row.map PV.d)))) ((b.Links.length : Int) - 0).toNat ⟨0, by omega, by omega, by omega, rfl, (by first | rfl | exact h1 | exact hi), (by first | rfl | exact h2 | exact hi), (by first | exact ⟨_, rfl⟩ | exact ⟨_, h5⟩), (by first | rfl | exact ho2 | exact hi)⟩ ?_
  rintro n ⟨t, o⟩ ⟨i, hi0, hil, hn, hi, h1, h2, ⟨v5, h5⟩, ho2⟩
  simp only at hi h1 h2 h5 ho2
  simp (maxSteps := 1000000) only [List.map_cons, List.map_nil, run_skip, run_region, run_seq, run_cond, run_block, run_exit, run_ret, opsK_nil, opsK_op, seqK_normal, seqK_exit, blkK_normal, blkK_exit, loopK_normal, loopK_exit, endP_ret, condK_bool, upd_apply, after_some, after_none, ev_tmp, ev_int, ev_bool, St.sv, St.sc, strip, stripC, argsC, pK_none, pK_some, gpK_some, pmap_some, gK, gB_bool, op_move, op_assign, on_pick, on_bin, op_load, op_fa, op_ia, on_gbin, op_gload, op_gfa, op_len, op_max, maxK, bin_add, bin_mul, bin_eql, bin_lss, pick_b, eK_some, emap_some, op_alloc, op_store, op_call, iK_some, iK2_none, cK_some, cK2_some, conK_flat, icallInfo_func, callInfo_func, ciK_some, snapVs_nil, snapVs_cons, outK, outL, outM, resPs, resP, rvsOf, rvOf, snapV, snapC, sepB, ownKs, dataKs, keysV, keysC, nodupB, packP, RV.flatP, Option.bind_some, Option.map_some, true_and, and_true, implies_true, ↓reduceIte, Nat.reduceEqDiff, Nat.reduceAdd, Nat.reduceLT, Nat.reduceLeDiff, Nat.zero_add, Nat.add_zero, List.all_nil, List.append_nil, List.nil_append, List.flatMap_cons, List.flatMap_nil, Bool.and_self, List.getElem?_toArray, List.getElem?_cons_succ, List.getElem?_cons_zero, beq_true, List.contains_nil, Bool.not_false, of_pre, of_post, of_flat, cod1_dec, codC_dec, dInt_int, dLst_lst, some_ex, some_ex1, imp_self, and_self, Env.tk, loadV, fieldAddrV, indexAddrV, lenV, loadD, loadP, allocE, storeE, St.obj, TI.isAgg, plainTI, zpv, cellsP, refNew, newOb, setOb, cut, List.getD_cons_zero, List.getD_cons_succ, List.length_cons, List.length_nil, List.length_map, pN_bool, pN_int, pN_gbool, gpN_some, lbK_true, lnK_none, lenF, List.take_succ_cons, List.take_zero, List.drop_zero, List.drop_succ_cons, List.take_nil, List.drop_nil, Nat.mul_zero, all_ex, ints_2, maxI_2, Bool.false_eq_true, maxLen_eq, plainTI, ty_r, E40_r, Point.drows, Link.getD, Link.row, Basin.row, hi, h1, h2, h5, ho2]
  (try rw [maxLen_eq])
  repeat' (first | with_reducible apply And.intro | intro _)
  all_goals (try simp only [Named] at *)
  all_goals (try (subst_vars; grind [wrap64]))
  all_goals (try (first | exact ⟨_, rfl⟩))
  all_goals (refine ghost_id ⟨((b.Links.length : Int) - (i + 1)).toNat, ?_, i + 1, ?_, ?_, rfl, ?_, ?_, ?_, (by first | exact ⟨_, rfl⟩ | exact ⟨_, h5⟩), ?_⟩ <;> (try simp only [upd_apply, setOb, newOb, Nat.reduceEqDiff, ↓reduceIte, h1, h2, ho2]) <;> (first | with_reducible rfl | (subst_vars; grind [wrap64]) | rfl))
abbrev cStr : Cod ByteArray := cod1 .str dStr fun _ _ => dStr_iff
abbrev con33 : Con := .of cStr (fun _ => True) (fun _ rs => ∃ b : Bool, rs = [.d (.bool b)]) true
noncomputable def E33 : Env := E0.at 35 (fun d => false) (fun d => d) (fun d => true)
theorem E33_ok : EnvOk E33 := E0_ok.at _ _ _ _
theorem E33_r : E33.ty = E0.ty ∧ E33.fact 6 = true ∧ E33.fact 33 = true ∧ (∀ d, E33.key d = d) := ⟨rfl, rfl, rfl, fun _ => rfl⟩

set_option maxRecDepth 20000 in
theorem ok33 : ConOk Try.prog 33 con33 := by
  refine con_of (E := E33) E33_ok (fn := Try.f33) Try.func33 rfl (by decide) (by kernel_rfl) (rs := [.tmp 2]) rfl (by decide) (by decide) [.data 4]  boolSome anyFlat ?_
  intro s _
  simp (maxSteps := 1000000) only [startP_eq, startL, List.map_cons, List.map_nil, run_region, run_seq, run_block, run_loop, opsK_nil, opsK_op, seqK_normal, ev_int, ev_bool, op_assign, cod1_enc]
  refine pwp_loop (fun n S => ∃ i : Int, 0 ≤ i ∧ i ≤ (s.size : Int) ∧ n = ((s.size : Int) - i).toNat ∧ S.t 3 = .d (.int .i64 i) ∧ S.t 0 = .d (.str s)) ((s.size : Int) - 0).toNat ⟨0, by omega, by omega, by omega, rfl, (by first | rfl | exact h0 | exact hi)⟩ ?_
  rintro n ⟨t, o⟩ ⟨i, hi0, hil, hn, hi, h0⟩
  simp only at hi h0
  simp (maxSteps := 1000000) only [run_skip, run_region, run_seq, run_cond, run_block, run_exit, run_ret, opsK_nil, opsK_op, seqK_normal, seqK_exit, seqK_ret, blkK_normal, blkK_exit, blkK_ret, loopK_normal, loopK_exit, loopK_ret, endP_ret, condK_bool, upd_apply, after_some, ev_tmp, ev_int, ev_bool, St.sv, St.sc, strip, stripC, pK_none, pK_some, gpK_some, pmap_some, gK, gB_bool, op_move, op_assign, op_gmove, on_pick, on_bin, op_i, on_gbin, op_gi, op_len, bin_add, bin_eql, bin_lss, bin_leq, bin_gtr, pick_b, outK, outL, outM, resPs, resP, rvsOf, rvOf, snapV, snapC, sepB, ownKs, dataKs, keysV, keysC, nodupB, Option.bind_some, Option.map_some, true_and, and_true, implies_true, ↓reduceIte, Nat.reduceEqDiff, reduceCtorEq, List.all_nil, List.append_nil, Bool.and_self, List.getElem?_toArray, List.getElem?_cons_succ, List.getElem?_cons_zero, beq_false, Bool.not_eq_true', List.contains_nil, Bool.not_false, imp_self, and_self, Env.tk, lenV, pN_bool, pN_int, pN_gbool, gpN_some, lbK_true, lnK_none, lenF, indexV, maxLen_eq, ty_r, E33_r, hi, h0]
  (try rw [maxLen_eq])
  repeat' (first | with_reducible apply And.intro | intro _)
  all_goals (try simp only [Named] at *)
  all_goals (try (subst_vars; grind [wrap64]))
  all_goals (try (first | exact ⟨_, rfl⟩))
  all_goals (refine ghost_id ⟨((s.size : Int) - (i + 1)).toNat, ?_, i + 1, ?_, ?_, rfl, ?_, ?_⟩ <;> (try simp only [upd_apply, Nat.reduceEqDiff, ↓reduceIte, h0]) <;> (first | with_reducible rfl | (subst_vars; grind [wrap64]) | rfl))
abbrev con32 : Con := .of cBas (fun _ => True) (fun a rs => ∃ b : Bool, (b = true → a.Room.length = 3 ∧ a.Cells ≤ 64 ∧ a.Owners.length ≤ 16 ∧ a.Places.length ≤ 64 ∧ a.Links.length ≤ 96 ∧ a.Towns.length ≤ 40 ∧ a.Gauges.length ≤ 128 ∧ a.Roads.length ≤ 128 ∧ a.Shelters.length ≤ 40) ∧ rs = [.d (.bool b)]) true
noncomputable def E32 : Env := (E0.add 35 con35).at 58 (fun d => false) (fun d => d) (fun d => true)
theorem E32_ok : EnvOk E32 := (E0_ok.add Try.func35 rfl rfl ok35).at _ _ _ _
theorem E32_r : E32.ty = E0.ty ∧ (E32.con 35 = some con35 ∧ E32.icon 35 = none) ∧ E32.fact 7 = true ∧ E32.fact 17 = true ∧ E32.fact 23 = true ∧ E32.fact 28 = true ∧ E32.fact 33 = true ∧ E32.fact 39 = true ∧ E32.fact 45 = true ∧ E32.fact 55 = true ∧ (∀ d, E32.key d = d) := ⟨rfl, ⟨rfl, rfl⟩, rfl, rfl, rfl, rfl, rfl, rfl, rfl, rfl, fun _ => rfl⟩

theorem ok32 : ConOk Try.prog 32 con32 := by
  refine con_of (E := E32) E32_ok (fn := Try.f32) Try.func32 rfl (by decide) (by kernel_rfl) (rs := [.tmp 2]) rfl (by decide) (by decide) [.data 4]  (fun _ _ => ⟨_, false, by simp, rfl⟩) (by rintro _ a r ⟨b, _, rfl⟩ x hx; simp only [List.mem_singleton] at hx; subst hx; rfl) ?_
  intro b _
  simp (maxSteps := 1000000) only [startP_eq, startL, List.map_cons, List.map_nil, run_region, run_seq, run_ret, opsK_nil, opsK_op, seqK_normal, endP_ret, upd_apply, after_some, ev_tmp, ev_int, ev_bool, St.sv, St.sc, strip, stripC, argsC, pK_none, pK_some, gpK_some, pmap_some, gK, gB_bool, op_move, op_assign, op_gmove, on_pick, on_bin, op_load, op_fa, on_gbin, op_gload, op_gfa, op_len, op_glen, bin_eql, bin_leq, pick_b, eK_some, emap_some, op_box, op_call, op_gcall, cgK_some, iK_some, iK2_none, cK_some, cK2_some, conK_flat, conK_gflat, icallInfo_func, callInfo_func, ciK_some, snapVs_nil, snapVs_cons, outK, outL, outM, resPs, resP, rvsOf, rvOf, snapV, snapC, sepB, ownKs, dataKs, keysV, keysC, nodupB, packP, RV.flatP, Option.bind_some, Option.map_some, true_implies, true_and, and_true, implies_true, ↓reduceIte, Nat.reduceEqDiff, Nat.reduceAdd, Nat.reduceLT, Nat.zero_add, List.all_nil, List.append_nil, List.flatMap_cons, List.flatMap_nil, Bool.and_self, List.getElem?_toArray, List.getElem?_cons_succ, List.getElem?_cons_zero, beq_true, List.contains_nil, Bool.not_false, of_pre, of_post, of_flat, cod1_enc, cod1_dec, codC_dec, dInt_int, some_ex, some_ex1, imp_self, and_self, Env.tk, loadV, fieldAddrV, lenV, loadP, boxE, St.obj, TI.isAgg, cellsP, refNew, newOb, List.getD_cons_zero, List.getD_cons_succ, List.length_cons, List.length_nil, List.length_map, ex_eq, or_true, imp_eq, pN_bool, pN_gbool, gpN_some, lbK_true, lnK_none, lnK_some, glbK_some, lenF, Nat.mul_zero, Bool.false_eq_true, maxLen_eq, ty_r, E32_r, Basin.row, Basin.d]
  repeat' (first | with_reducible apply And.intro | intro _)
  all_goals (try simp only [Named] at *)
  all_goals (refine ⟨_, ?_, rfl⟩; subst_vars; simp only [inF]; grind)
end Go.Proofs.Ytomnjbebgfadoaa.Pi
end
section
/- Contracts: names.
   Conditions: none; lemmas. -/
set_option linter.unusedVariables false
set_option linter.unusedSimpArgs false
namespace Go.Proofs.Ytomnjbebgfadoaa.Pi
open Go Go.RowKit Go.Proofs
set_option maxHeartbeats 4000000
abbrev con63 : Con := .of cStr (fun _ => True) (fun _ rs => ∃ b : Bool, rs = [.d (.bool b)]) true
noncomputable def E63 : Env := E0.at 57 (fun d => false) (fun d => d) (fun d => true)
theorem E63_ok : EnvOk E63 := E0_ok.at _ _ _ _
theorem E63_r : E63.ty = E0.ty ∧ E63.fact 7 = true ∧ E63.fact 50 = true ∧ (∀ d, E63.key d = d) := ⟨rfl, rfl, rfl, fun _ => rfl⟩

set_option maxRecDepth 20000 in
theorem ok63 : ConOk Try.prog 63 con63 := by
  refine con_of (E := E63) E63_ok (fn := Try.f63) Try.func63 rfl (by decide) (by kernel_rfl) (rs := [.tmp 2]) rfl (by decide) (by decide) [.data 4]  boolSome anyFlat ?_
  intro s _
  simp (maxSteps := 1000000) only [startP_eq, startL, List.map_cons, List.map_nil, run_region, run_seq, run_block, run_loop, opsK_nil, opsK_op, seqK_normal, ev_int, ev_bool, op_assign, cod1_enc]
  refine pwp_loop (fun n S => ∃ i : Int, 0 ≤ i ∧ i ≤ (s.size : Int) ∧ n = ((s.size : Int) - i).toNat ∧ S.t 3 = .d (.int .i64 i) ∧ S.t 0 = .d (.str s)) ((s.size : Int) - 0).toNat ⟨0, by omega, by omega, by omega, rfl, (by first | rfl | exact h0 | exact hi)⟩ ?_
  rintro n ⟨t, o⟩ ⟨i, hi0, hil, hn, hi, h0⟩
  simp only at hi h0
  simp (maxSteps := 1000000) only [run_skip, run_region, run_seq, run_cond, run_block, run_exit, run_ret, opsK_nil, opsK_op, seqK_normal, seqK_exit, seqK_ret, blkK_normal, blkK_exit, blkK_ret, loopK_normal, loopK_exit, loopK_ret, endP_ret, condK_bool, upd_apply, after_some, ev_tmp, ev_int, ev_bool, ev_str, St.sv, St.sc, strip, stripC, pK_none, pK_some, gpK_some, pmap_some, gK, gB_bool, gB_opt, op_move, op_assign, op_gmove, on_pick, on_bin, op_un, op_i, on_gpick, on_gbin, op_gun, op_gi, op_len, op_glen, bin_add, bin_eql, bin_neq, bin_lss, bin_leq, bin_geq, bin_str, pick_b, unV, sbin, outK, outL, outM, resPs, resP, rvsOf, rvOf, snapV, snapC, sepB, ownKs, dataKs, keysV, keysC, nodupB, Option.bind_some, Option.map_some, true_and, and_true, implies_true, ↓reduceIte, Nat.reduceEqDiff, reduceCtorEq, Nat.reduceAdd, Nat.reduceLeDiff, Nat.zero_add, List.all_nil, List.append_nil, Bool.and_self, List.getElem?_toArray, List.getElem?_cons_succ, List.getElem?_cons_zero, beq_true, beq_false, Bool.not_eq_true', Bool.and_eq_true, List.contains_nil, Bool.not_false, imp_self, and_self, Env.tk, lenV, List.length_cons, List.length_nil, pN_bool, pN_int, pN_gbool, gpN_some, lbK_true, lnK_none, lnK_some, glbK_some, lenF, indexV, bsize, List.size_toArray, maxLen_eq, ty_r, E63_r, hi, h0]
  (try rw [maxLen_eq])
  repeat' (first | with_reducible apply And.intro | intro _)
  all_goals (try simp only [Named] at *)
  all_goals (try (subst_vars; grind [wrap64]))
  all_goals (try (first | exact ⟨_, rfl⟩))
  all_goals (refine ghost_id ⟨((s.size : Int) - (i + 1)).toNat, ?_, i + 1, ?_, ?_, rfl, ?_, ?_⟩ <;> (try simp only [upd_apply, Nat.reduceEqDiff, ↓reduceIte, h0]) <;> (first | with_reducible rfl | (subst_vars; grind [wrap64]) | rfl))
abbrev cStrs : Cod (List ByteArray) := cod1 (fun l => .lst 1 (l.map srow)) (dLst 1 sof) fun _ _ => dLst_iff sof_iff
abbrev con52 : Con := .of cStrs (fun _ => True) (fun _ rs => ∃ b : Bool, rs = [.d (.bool b)]) true
noncomputable def E52 : Env := (E0.add 63 con63).at 31 (fun d => false) (fun d => d) (fun d => true)
theorem E52_ok : EnvOk E52 := (E0_ok.add Try.func63 rfl rfl ok63).at _ _ _ _
theorem E52_r : E52.ty = E0.ty ∧ (E52.con 63 = some con63 ∧ E52.icon 63 = none) ∧ E52.fact 7 = true ∧ (∀ d, E52.key d = d) := ⟨rfl, ⟨rfl, rfl⟩, rfl, fun _ => rfl⟩

set_option maxRecDepth 20000 in
theorem ok52 : ConOk Try.prog 52 con52 := by
  refine con_of (E := E52) E52_ok (fn := Try.f52) Try.func52 rfl (by decide) (by kernel_rfl) (rs := [.tmp 2]) rfl (by decide) (by decide) [.data 4]  boolSome anyFlat ?_
  intro l _
  simp (maxSteps := 1000000) only [startP_eq, startL, List.map_cons, List.map_nil, run_region, run_seq, run_block, run_loop, opsK_nil, opsK_op, seqK_normal, ev_int, ev_bool, op_assign, cod1_enc]
  refine pwp_loop (fun n S => ∃ i : Int, 0 ≤ i ∧ i ≤ (l.length : Int) ∧ n = ((l.length : Int) - i).toNat ∧ S.t 3 = .d (.int .i64 i) ∧ S.t 0 = .d (.lst 1 (l.map srow))) ((l.length : Int) - 0).toNat ⟨0, by omega, by omega, by omega, rfl, (by first | rfl | exact h0 | exact hi)⟩ ?_
  rintro n ⟨t, o⟩ ⟨i, hi0, hil, hn, hi, h0⟩
  simp only at hi h0
  simp (maxSteps := 1000000) only [List.map_cons, List.map_nil, run_skip, run_region, run_seq, run_cond, run_block, run_exit, run_ret, run_loop, opsK_nil, opsK_op, seqK_normal, seqK_exit, seqK_ret, blkK_exit, blkK_ret, loopK_exit, loopK_ret, endP_ret, condK_bool, upd_apply, after_some, ev_tmp, ev_int, ev_bool, St.sv, St.sc, strip, stripC, argsC, pK_none, pmap_some, op_move, op_assign, on_bin, op_un, op_load, op_ia, op_len, bin_lss, unV, op_call, iK_some, iK2_none, cK_some, cK2_some, conK_flat, icallInfo_func, callInfo_func, ciK_some, snapVs_nil, snapVs_cons, outK, outL, outM, resPs, resP, rvsOf, rvOf, snapV, snapC, sepB, ownKs, dataKs, keysV, keysC, nodupB, packP, RV.flatP, Option.bind_some, Option.map_some, true_and, and_true, ↓reduceIte, Nat.reduceEqDiff, reduceCtorEq, Nat.reduceLT, Nat.zero_add, List.all_nil, List.append_nil, List.flatMap_cons, List.flatMap_nil, Bool.and_self, Bool.not_eq_true', List.contains_nil, Bool.not_false, of_pre, of_post, of_flat, cod1_dec, dStr_str, some_ex, some_ex1, and_self, Env.tk, loadV, indexAddrV, lenV, loadD, TI.isAgg, List.getD_cons_zero, List.length_cons, List.length_nil, List.length_map, all_bool, pN_bool, lbK_true, lnK_none, lenF, Bool.false_eq_true, maxLen_eq, ty_r, E52_r, srow, sgetD, hi, h0]
  (try rw [maxLen_eq])
  repeat' (first | with_reducible apply And.intro | intro _)
  all_goals (try simp only [Named] at *)
  all_goals (try (subst_vars; grind [wrap64]))
  all_goals (try (first | exact ⟨_, rfl⟩))
  have hlt : i < l.length := by subst_vars; grind
  refine pwp_loop (fun nq S => ∃ iq : Int, 0 ≤ iq ∧ iq ≤ i ∧ nq = (i - iq).toNat ∧ S.t 4 = .d (.int .i64 iq) ∧ S.t 0 = .d (.lst 1 (l.map srow)) ∧ S.t 3 = .d (.int .i64 i)) (i - 0).toNat ⟨0, by omega, by omega, by omega, rfl, (by first | rfl | exact h0 | exact hi), (by first | rfl | exact h3 | exact hi)⟩ ?_
  rintro nq ⟨tq, oq⟩ ⟨iq, hqz, hql, hnq, hqi, hq0, hq3⟩
  simp only at hqi hq0 hq3
  simp (maxSteps := 1000000) only [run_skip, run_region, run_seq, run_cond, run_block, run_exit, run_ret, opsK_nil, opsK_op, seqK_normal, seqK_exit, seqK_ret, blkK_normal, blkK_exit, blkK_ret, loopK_normal, loopK_exit, loopK_ret, endP_ret, condK_bool, upd_apply, after_some, ev_tmp, ev_int, ev_bool, St.sv, St.sc, strip, stripC, pK_none, pmap_some, op_move, op_assign, on_bin, op_load, op_ia, bin_add, bin_lss, bin_str, sbin, outK, outL, outM, resPs, resP, rvsOf, rvOf, snapV, snapC, sepB, ownKs, dataKs, keysV, keysC, nodupB, Option.bind_some, Option.map_some, true_and, and_true, ↓reduceIte, Nat.reduceEqDiff, reduceCtorEq, Nat.reduceLT, Nat.zero_add, List.all_nil, List.append_nil, Bool.and_self, List.contains_nil, Bool.not_false, and_self, Env.tk, loadV, indexAddrV, loadD, TI.isAgg, List.getD_cons_zero, List.length_cons, List.length_nil, List.length_map, pN_bool, pN_int, Bool.false_eq_true, ty_r, E52_r, srow, sgetD, hqi, hq0, hq3]
  (try rw [maxLen_eq])
  repeat' (first | with_reducible apply And.intro | intro _)
  all_goals (try simp only [Named] at *)
  all_goals (try (subst_vars; grind [wrap64]))
  all_goals (try (first | exact ⟨_, rfl⟩))
  · (refine ghost_id ⟨(i - (iq + 1)).toNat, ?_, iq + 1, ?_, ?_, rfl, ?_, ?_, ?_⟩ <;> (try simp only [upd_apply, Nat.reduceEqDiff, ↓reduceIte, hq0, hq3]) <;> (first | with_reducible rfl | (subst_vars; grind [wrap64]) | rfl))
  · (refine ghost_id ⟨((l.length : Int) - (i + 1)).toNat, by omega, i + 1, by omega, by omega, rfl, ?_, ?_⟩ <;> (try simp only [upd_apply, Nat.reduceEqDiff, ↓reduceIte, hq0]) <;> (first | with_reducible rfl | (subst_vars; grind [wrap64]) | rfl))
end Go.Proofs.Ytomnjbebgfadoaa.Pi
end
section
/- Contracts: towns, gauges, roads, shelters.
   Conditions: none; lemmas. -/
set_option linter.unusedVariables false
set_option linter.unusedSimpArgs false
namespace Go.Proofs.Ytomnjbebgfadoaa.Pi
open Go Go.RowKit Go.Proofs
set_option maxHeartbeats 4000000
theorem lit3 (te : TI) (a b c : Int) (h : te.size = 1) (hz : te.zero = [.int .i64 0]) : litRows te 3 [(0, .d (.int .i64 a)), (1, .d (.int .i64 b)), (2, .d (.int .i64 c))] = some [irow a, irow b, irow c] := by
  simp [litRows, elemsFI, fillP, dcells, dcell, chunk, cellsP, h, hz, List.range_succ, List.replicate_succ, irow, zpv]
theorem get3 (a b c : Int) (k : Nat) : ([[.int .i64 a], [.int .i64 b], [.int .i64 c]] : List (List D)).getD k [.int .i64 0] = [.int .i64 ([a, b, c].getD k 0)] := by
  match k with
  | 0 => rfl
  | 1 => rfl
  | 2 => rfl
  | _ + 3 => rfl
abbrev con41 : Con := .of cBas (fun _ => True) (fun _ rs => ∃ b : Bool, rs = [.d (.bool b)]) true
noncomputable def E41 : Env := ((E0.add 35 con35).add 36 con36).at 206 (fun d => false) (fun d => d) (fun d => true)
theorem E41_ok : EnvOk E41 := ((E0_ok.add Try.func35 rfl rfl ok35).add Try.func36 rfl rfl ok36).at _ _ _ _
theorem E41_r : E41.ty = E0.ty ∧ (E41.con 35 = some con35 ∧ E41.icon 35 = none) ∧ (E41.con 36 = some con36 ∧ E41.icon 36 = none) ∧ E41.own 83 = false ∧ E41.fact 15 = true ∧ E41.fact 19 = true ∧ E41.fact 68 = true ∧ E41.fact 82 = true ∧ E41.fact 115 = true ∧ E41.fact 128 = true ∧ E41.fact 137 = true ∧ E41.fact 140 = true ∧ E41.fact 193 = true ∧ (∀ d, E41.key d = d) := ⟨rfl, ⟨rfl, rfl⟩, ⟨rfl, rfl⟩, rfl, rfl, rfl, rfl, rfl, rfl, rfl, rfl, rfl, rfl, fun _ => rfl⟩

set_option maxRecDepth 20000 in
theorem ok41 : ConOk Try.prog 41 con41 := by
  refine con_of (E := E41) E41_ok (fn := Try.f41) Try.func41 rfl (by decide) (by kernel_rfl) (rs := [.tmp 2]) rfl (by decide) (by decide) [.data 4]  boolSome anyFlat ?_
  intro b _
  simp (maxSteps := 1000000) only [startP_eq, startL, List.map_cons, List.map_nil, run_region, run_seq, run_block, run_loop, opsK_nil, opsK_op, seqK_normal, upd_apply, after_some, ev_tmp, ev_int, ev_bool, St.sv, St.sc, strip, stripC, pK_none, pmap_some, op_assign, op_load, op_fa, op_len, eK_some, emap_some, op_box, Option.map_some, true_and, ↓reduceIte, Nat.reduceEqDiff, Nat.reduceAdd, Nat.reduceLT, Nat.zero_add, List.getElem?_cons_succ, List.getElem?_cons_zero, cod1_enc, and_self, Env.tk, loadV, fieldAddrV, lenV, loadP, boxE, St.obj, TI.isAgg, cellsP, refNew, newOb, List.getD_cons_zero, List.getD_cons_succ, List.length_cons, List.length_nil, List.length_map, lbK_true, lnK_none, lenF, Nat.mul_zero, Bool.false_eq_true, maxLen_eq, lapp_nil, lapp_cons, ty_r, E41_r, Basin.row, Basin.d]
  repeat' (first | with_reducible apply And.intro | intro _)
  refine pwp_loop (fun n S => ∃ i : Int, 0 ≤ i ∧ i ≤ (b.Towns.length : Int) ∧ n = ((b.Towns.length : Int) - i).toNat ∧ S.t 5 = .d (.int .i64 i) ∧ S.t 1 = .ref 1 1 0 0 0 ∧ S.t 3 = .d (.int .i64 b.Places.length) ∧ S.t 4 = .d (.int .i64 1073741824) ∧ S.o 1 = (1, some (.box 31 (b.row.map PV.d)))) ((b.Towns.length : Int) - 0).toNat ⟨0, by omega, by omega, by omega, rfl, (by first | rfl | exact h1 | exact hi), (by first | rfl | exact h3 | exact hi), (by first | rfl | exact h4 | exact hi), (by first | rfl | exact ho1 | exact hi)⟩ ?_
  rintro n ⟨t, o⟩ ⟨i, hi0, hil, hn, hi, h1, h3, h4, ho1⟩
  simp only at hi h1 h3 h4 ho1
  simp (maxSteps := 1000000) only [List.map_cons, List.map_nil, run_skip, run_region, run_seq, run_cond, run_block, run_exit, run_ret, run_loop, opsK_nil, opsK_op, seqK_normal, seqK_exit, seqK_ret, blkK_normal, blkK_exit, blkK_ret, loopK_normal, loopK_exit, loopK_ret, endP_ret, condK_bool, upd_apply, after_some, after_none, ev_tmp, ev_int, ev_bool, St.sv, St.sc, strip, stripC, argsC, pK_none, pK_some, gpK_some, pmap_some, gK, gB_bool, op_move, op_assign, op_gmove, on_pick, on_bin, op_un, op_load, op_fa, op_ia, op_gun, op_gload, op_gfa, op_len, bin_add, bin_sub, bin_lss, pick_b, unV, eK_some, emap_some, op_alloc, op_store, op_call, op_gcall, cgK_some, iK_some, iK2_none, cK_some, cK2_some, conK_flat, conK_gflat, icallInfo_func, callInfo_func, ciK_some, snapVs_nil, snapVs_cons, outK, outL, outM, resPs, resP, rvsOf, rvOf, snapV, snapC, sepB, ownKs, dataKs, keysV, keysC, nodupB, packP, RV.flatP, Option.bind_some, Option.map_some, true_implies, true_and, and_true, implies_true, ↓reduceIte, Nat.reduceEqDiff, Nat.reduceAdd, Nat.reduceLT, Nat.reduceLeDiff, Nat.zero_add, Nat.add_zero, List.all_nil, List.append_nil, List.nil_append, List.flatMap_cons, List.flatMap_nil, Bool.and_self, List.getElem?_toArray, List.getElem?_cons_succ, List.getElem?_cons_zero, beq_false, Bool.not_eq_true', List.contains_nil, Bool.not_false, of_pre, of_post, of_flat, cod1_dec, codC_dec, dInt_int, some_ex, some_ex1, imp_self, and_self, Env.tk, loadV, fieldAddrV, indexAddrV, lenV, loadD, loadP, allocE, storeE, St.obj, TI.isAgg, plainTI, zpv, cellsP, refNew, newOb, setOb, cut, List.getD_cons_zero, List.getD_cons_succ, List.length_cons, List.length_nil, List.length_map, ex_eq, or_true, imp_eq, pN_bool, pN_int, lbK_true, lnK_none, lenF, List.take_succ_cons, List.take_zero, List.drop_zero, List.drop_succ_cons, List.take_nil, List.drop_nil, Nat.mul_zero, Bool.false_eq_true, maxLen_eq, plainTI, ty_r, E41_r, Town.getD, Town.row, Basin.row, hi, h1, h3, h4, ho1]
  (try rw [maxLen_eq])
  repeat' (first | with_reducible apply And.intro | intro _)
  all_goals (try simp only [Named] at *)
  all_goals (try (subst_vars; grind [wrap64]))
  all_goals (try (first | exact ⟨_, rfl⟩))
  · (refine ghost_id ⟨((b.Towns.length : Int) - (i + 1)).toNat, ?_, i + 1, ?_, ?_, rfl, ?_, ?_, ?_, ?_, ?_⟩ <;> (try simp only [upd_apply, setOb, newOb, Nat.reduceEqDiff, ↓reduceIte, h1, h3, h4, ho1]) <;> (first | with_reducible rfl | (subst_vars; grind [wrap64]) | rfl))
  refine pwp_loop (fun n S => ∃ i : Int, 0 ≤ i ∧ i ≤ (b.Gauges.length : Int) ∧ n = ((b.Gauges.length : Int) - i).toNat ∧ S.t 7 = .d (.int .i64 i) ∧ S.t 1 = .ref 1 1 0 0 0 ∧ S.t 3 = .d (.int .i64 b.Places.length) ∧ S.t 4 = .d (.int .i64 1073741824) ∧ S.o 1 = (1, some (.box 31 (b.row.map PV.d)))) ((b.Gauges.length : Int) - 0).toNat ⟨0, by omega, by omega, by omega, rfl, (by first | rfl | exact h1 | exact hi), (by first | rfl | exact h3 | exact hi), (by first | rfl | exact h4 | exact hi), (by first | rfl | exact ho1 | exact hi)⟩ ?_
  rintro n ⟨t, o⟩ ⟨i, hi0, hil, hn, hi, h1, h3, h4, ho1⟩
  simp only at hi h1 h3 h4 ho1
  simp (maxSteps := 1000000) only [List.map_cons, List.map_nil, run_skip, run_region, run_seq, run_cond, run_block, run_exit, run_ret, run_loop, opsK_nil, opsK_op, seqK_normal, seqK_exit, seqK_ret, blkK_normal, blkK_exit, blkK_ret, loopK_normal, loopK_exit, loopK_ret, endP_ret, condK_bool, upd_apply, after_some, after_none, ev_tmp, ev_int, ev_bool, St.sv, St.sc, strip, stripC, argsC, pK_none, pK_some, gpK_some, pmap_some, gK, gB_bool, op_move, op_assign, op_gmove, on_pick, on_bin, op_un, op_load, op_fa, op_ia, on_gbin, op_gun, op_gload, op_gfa, op_gia, op_len, bin_add, bin_sub, bin_lss, pick_b, unV, eK_some, emap_some, op_alloc, op_store, op_lit, lK_false, op_call, op_gcall, cgK_some, iK_some, iK2_none, cK_some, cK2_some, conK_flat, conK_gflat, icallInfo_func, callInfo_func, ciK_some, snapVs_nil, snapVs_cons, outK, outL, outM, resPs, resP, rvsOf, rvOf, snapV, snapC, sepB, ownKs, dataKs, keysV, keysC, nodupB, packP, RV.flatP, Option.bind_some, Option.map_some, true_implies, true_and, and_true, implies_true, ↓reduceIte, Nat.reduceEqDiff, Nat.reduceAdd, Nat.reduceMul, Nat.reduceLT, Nat.reduceLeDiff, Nat.zero_add, Nat.add_zero, List.all_nil, List.append_nil, List.nil_append, List.flatMap_cons, List.flatMap_nil, Bool.and_self, List.getElem?_toArray, List.getElem?_cons_succ, List.getElem?_cons_zero, beq_false, Bool.not_eq_true', List.contains_nil, Bool.not_false, of_pre, of_post, of_flat, cod1_dec, codC_dec, dInt_int, some_ex, some_ex1, imp_self, and_self, Env.tk, loadV, fieldAddrV, indexAddrV, lenV, loadD, loadP, allocE, storeE, St.obj, TI.isAgg, plainTI, zpv, cellsP, refNew, newOb, setOb, cut, List.getD_cons_zero, List.getD_cons_succ, List.length_cons, List.length_nil, List.length_map, ex_eq, or_true, imp_eq, pN_bool, pN_int, pN_gint, gpN_some, lbK_true, lnK_none, lenF, List.take_succ_cons, List.take_zero, List.drop_zero, List.drop_succ_cons, List.take_nil, List.drop_nil, Nat.mul_zero, Bool.false_eq_true, maxLen_eq, plainTI, ty_r, E41_r, Gauge.getD, Gauge.row, Basin.row, irow, litV, lit3, get3, hi, h1, h3, ho1]
  (try rw [maxLen_eq])
  repeat' (first | with_reducible apply And.intro | intro _)
  all_goals (try simp only [Named] at *)
  all_goals (try (subst_vars; grind [wrap64]))
  all_goals (try (first | exact ⟨_, rfl⟩))
  all_goals (try ((refine ghost_id ⟨((b.Gauges.length : Int) - (i + 1)).toNat, ?_, i + 1, ?_, ?_, rfl, ?_, ?_, ?_, ?_, ?_⟩ <;> (try simp only [upd_apply, setOb, newOb, Nat.reduceEqDiff, ↓reduceIte, h1, h3, h4, ho1]) <;> (first | with_reducible rfl | (subst_vars; grind [wrap64]) | rfl)); done))
  all_goals (try (simp only [inF] at *; grind; done))
  refine pwp_loop (fun n S => ∃ i : Int, 0 ≤ i ∧ i ≤ (b.Roads.length : Int) ∧ n = ((b.Roads.length : Int) - i).toNat ∧ S.t 10 = .d (.int .i64 i) ∧ S.t 1 = .ref 1 1 0 0 0 ∧ S.t 3 = .d (.int .i64 b.Places.length) ∧ S.t 4 = .d (.int .i64 1073741824) ∧ S.o 1 = (1, some (.box 31 (b.row.map PV.d)))) ((b.Roads.length : Int) - 0).toNat ⟨0, by omega, by omega, by omega, rfl, (by first | rfl | exact h1 | exact hi), (by first | rfl | exact h3 | exact hi), (by first | rfl | exact h4 | exact hi), (by first | rfl | exact ho1 | exact hi)⟩ ?_
  rintro n ⟨t, o⟩ ⟨i, hi0, hil, hn, hi, h1, h3, h4, ho1⟩
  simp only at hi h1 h3 h4 ho1
  simp (maxSteps := 1000000) only [List.map_cons, List.map_nil, run_skip, run_region, run_seq, run_cond, run_block, run_exit, run_ret, run_loop, opsK_nil, opsK_op, seqK_normal, seqK_exit, seqK_ret, blkK_normal, blkK_exit, blkK_ret, loopK_normal, loopK_exit, loopK_ret, endP_ret, condK_bool, upd_apply, after_some, after_none, ev_tmp, ev_int, ev_bool, St.sv, St.sc, strip, stripC, argsC, pK_none, pK_some, gpK_some, pmap_some, gK, gB_bool, gB_opt, op_move, op_assign, op_gmove, on_pick, on_bin, op_un, op_load, op_fa, op_ia, on_gpick, on_gbin, op_gun, op_gload, op_gfa, op_len, op_glen, bin_add, bin_sub, bin_eql, bin_lss, bin_gtr, pick_b, unV, eK_some, emap_some, op_alloc, op_store, op_call, op_gcall, cgK_some, iK_some, iK2_none, cK_some, cK2_some, conK_flat, conK_gflat, icallInfo_func, callInfo_func, ciK_some, snapVs_nil, snapVs_cons, outK, outL, outM, resPs, resP, rvsOf, rvOf, snapV, snapC, sepB, ownKs, dataKs, keysV, keysC, nodupB, packP, RV.flatP, Option.bind_some, Option.map_some, true_implies, true_and, and_true, implies_true, ↓reduceIte, Nat.reduceEqDiff, Nat.reduceAdd, Nat.reduceLT, Nat.reduceLeDiff, Nat.zero_add, Nat.add_zero, List.all_nil, List.append_nil, List.nil_append, List.flatMap_cons, List.flatMap_nil, Bool.and_self, List.getElem?_toArray, List.getElem?_cons_succ, List.getElem?_cons_zero, beq_true, beq_false, Bool.not_eq_true', Bool.and_eq_true, List.contains_nil, Bool.not_false, of_pre, of_post, of_flat, cod1_dec, codC_dec, dInt_int, some_ex, some_ex1, imp_self, and_self, Env.tk, loadV, fieldAddrV, indexAddrV, lenV, loadD, loadP, allocE, storeE, St.obj, TI.isAgg, plainTI, zpv, cellsP, refNew, newOb, setOb, cut, List.getD_cons_zero, List.getD_cons_succ, List.length_cons, List.length_nil, List.length_map, ex_eq, or_true, imp_eq, pN_bool, pN_int, pN_gbool, pN_gint, gpN_some, lbK_true, lnK_none, lnK_some, glbK_some, lenF, List.take_succ_cons, List.take_zero, List.drop_zero, List.drop_succ_cons, List.take_nil, List.drop_nil, Nat.mul_zero, Bool.false_eq_true, maxLen_eq, plainTI, ty_r, E41_r, Road.getD, Road.row, Basin.row, hi, h1, h3, h4, ho1]
  (try rw [maxLen_eq])
  repeat' (first | with_reducible apply And.intro | intro _)
  all_goals (try simp only [Named] at *)
  all_goals (try (subst_vars; grind [wrap64]))
  all_goals (try (first | exact ⟨_, rfl⟩))
  all_goals (try ((refine ghost_id ⟨((b.Roads.length : Int) - (i + 1)).toNat, ?_, i + 1, ?_, ?_, rfl, ?_, ?_, ?_, ?_, ?_⟩ <;> (try simp only [upd_apply, setOb, newOb, Nat.reduceEqDiff, ↓reduceIte, h1, h3, h4, ho1]) <;> (first | with_reducible rfl | (subst_vars; grind [wrap64]) | rfl)); done))
  refine pwp_loop (fun n S => ∃ i : Int, 0 ≤ i ∧ i ≤ (b.Shelters.length : Int) ∧ n = ((b.Shelters.length : Int) - i).toNat ∧ S.t 12 = .d (.int .i64 i) ∧ S.t 1 = .ref 1 1 0 0 0 ∧ S.t 3 = .d (.int .i64 b.Places.length) ∧ S.t 4 = .d (.int .i64 1073741824) ∧ S.o 1 = (1, some (.box 31 (b.row.map PV.d)))) ((b.Shelters.length : Int) - 0).toNat ⟨0, by omega, by omega, by omega, rfl, (by first | rfl | exact h1 | exact hi), (by first | rfl | exact h3 | exact hi), (by first | rfl | exact h4 | exact hi), (by first | rfl | exact ho1 | exact hi)⟩ ?_
  rintro n ⟨t, o⟩ ⟨i, hi0, hil, hn, hi, h1, h3, h4, ho1⟩
  simp only at hi h1 h3 h4 ho1
  simp (maxSteps := 1000000) only [List.map_cons, List.map_nil, run_skip, run_region, run_seq, run_cond, run_block, run_exit, run_ret, opsK_nil, opsK_op, seqK_normal, seqK_exit, seqK_ret, blkK_normal, blkK_exit, blkK_ret, loopK_normal, loopK_exit, loopK_ret, endP_ret, condK_bool, upd_apply, after_some, ev_tmp, ev_int, ev_bool, St.sv, St.sc, strip, stripC, argsC, pK_none, pmap_some, op_move, op_assign, on_bin, op_un, op_load, op_fa, op_ia, op_len, bin_add, bin_lss, unV, op_call, iK_some, iK2_none, cK_some, cK2_some, conK_flat, icallInfo_func, callInfo_func, ciK_some, snapVs_nil, snapVs_cons, outK, outL, outM, resPs, resP, rvsOf, rvOf, snapV, snapC, sepB, ownKs, dataKs, keysV, keysC, nodupB, packP, RV.flatP, Option.bind_some, Option.map_some, true_and, and_true, ↓reduceIte, Nat.reduceEqDiff, Nat.reduceAdd, Nat.reduceLT, Nat.zero_add, List.all_nil, List.append_nil, List.flatMap_cons, List.flatMap_nil, Bool.and_self, List.getElem?_cons_succ, List.getElem?_cons_zero, Bool.not_eq_true', List.contains_nil, Bool.not_false, of_pre, of_post, of_flat, cod1_dec, codC_dec, dInt_int, some_ex, some_ex1, and_self, Env.tk, loadV, fieldAddrV, indexAddrV, lenV, loadD, loadP, St.obj, TI.isAgg, List.getD_cons_zero, List.getD_cons_succ, List.length_cons, List.length_nil, List.length_map, imp_eq, pN_bool, pN_int, lbK_true, lnK_none, lenF, Nat.mul_zero, Bool.false_eq_true, maxLen_eq, ty_r, E41_r, Shelter.getD, Shelter.row, Basin.row, hi, h1, h4, ho1]
  (try rw [maxLen_eq])
  repeat' (first | with_reducible apply And.intro | intro _)
  all_goals (try simp only [Named] at *)
  all_goals (try (subst_vars; grind [wrap64]))
  all_goals (try (first | exact ⟨_, rfl⟩))
  all_goals (try ((refine ghost_id ⟨((b.Shelters.length : Int) - (i + 1)).toNat, ?_, i + 1, ?_, ?_, rfl, ?_, ?_, ?_, ?_, ?_⟩ <;> (try simp only [upd_apply, Nat.reduceEqDiff, ↓reduceIte, h1, h3, h4, ho1]) <;> (first | with_reducible rfl | (subst_vars; grind [wrap64]) | rfl)); done))
end Go.Proofs.Ytomnjbebgfadoaa.Pi
end
section
/- Contracts: names that differ; a basin that is right.
   Conditions: none; lemmas. -/
set_option linter.unusedVariables false
set_option linter.unusedSimpArgs false
namespace Go.Proofs.Ytomnjbebgfadoaa.Pi
open Go Go.RowKit Go.Proofs
set_option maxHeartbeats 4000000
theorem lit1s (te : TI) (a : ByteArray) (h : te.size = 1) (hz : te.zero = [.str ⟨#[]⟩]) : litRows te 1 [(0, .d (.str a))] = some [[.str a]] := by
  simp [litRows, elemsFI, fillP, dcells, dcell, chunk, cellsP, h, hz, List.range_succ, List.replicate_succ, zpv]
/-- A list of names under way. -/
def okS (o : Objs) (p : PV) (B : Nat) (Ks : List Nat) : Prop := p = .nils ∨ ∃ K v, ∃ l : List ByteArray, K ∈ Ks ∧ p = .row K v l.length ∧ o K = (v, some (.row 1 9 (l.map srow))) ∧ l.length ≤ B
theorem okS_frame {o o' : Objs} {p : PV} {B : Nat} {Ks : List Nat} (h : okS o p B Ks) (hk : ∀ K ∈ Ks, o' K = o K) : okS o' p B Ks := by
  rcases h with rfl | ⟨K, v, l, h1, rfl, h2, h3⟩
  · exact .inl rfl
  · exact .inr ⟨K, v, l, h1, rfl, by rw [hk K h1, h2], h3⟩
theorem okS_mono {o : Objs} {p : PV} {B B' : Nat} {Ks : List Nat} (h : okS o p B Ks) (hk : B ≤ B') : okS o p B' Ks := by
  rcases h with rfl | ⟨K, v, l, h1, rfl, h2, h3⟩
  · exact .inl rfl
  · exact .inr ⟨K, v, l, h1, rfl, h2, by omega⟩
theorem okS_snoc {o : Objs} {K v B n : Nat} {l : List ByteArray} {s : ByteArray} {Ks : List Nat} {rows : List (List D)} (hK : K ∈ Ks) (h : o K = (v, some (.row 1 9 rows))) (hr : rows = (l ++ [s]).map srow) (hn : n = l.length + 1) (hb : l.length + 1 ≤ B) : okS o (.row K v n) B Ks :=
  .inr ⟨K, v, l ++ [s], hK, by simp [hn], by rw [h, hr], by simpa using hb⟩
abbrev con34 : Con := .of cBas (fun b => b.Places.length ≤ 64 ∧ b.Links.length ≤ 96 ∧ b.Towns.length ≤ 40 ∧ b.Gauges.length ≤ 128 ∧ b.Roads.length ≤ 128 ∧ b.Shelters.length ≤ 40) (fun _ rs => ∃ b : Bool, rs = [.d (.bool b)]) true
noncomputable def E34 : Env := (E0.add 52 con52).at 147 (fun d => d == 11) (fun d => d) (fun d => true)
theorem E34_ok : EnvOk E34 := (E0_ok.add Try.func52 rfl rfl ok52).at _ _ _ _
theorem E34_r : E34.ty = E0.ty ∧ (E34.con 52 = some con52 ∧ E34.icon 52 = none) ∧ E34.own 29 = false ∧ E34.own 49 = false ∧ E34.own 69 = false ∧ E34.own 89 = false ∧ E34.own 109 = false ∧ E34.own 129 = false ∧ E34.own 11 = true ∧ E34.fact 15 = true ∧ E34.fact 35 = true ∧ E34.fact 55 = true ∧ E34.fact 75 = true ∧ E34.fact 95 = true ∧ E34.fact 115 = true ∧ E34.fact 134 = true ∧ (∀ d, E34.key d = d) := ⟨rfl, ⟨rfl, rfl⟩, rfl, rfl, rfl, rfl, rfl, rfl, rfl, rfl, rfl, rfl, rfl, rfl, rfl, rfl, fun _ => rfl⟩

theorem vget (cs : List PV) (i : Nat) (h : i < cs.length) : (cs.map fun p => [p]).getD i [] = [cs.getD i .un] := by
  simp [List.getD_eq_getElem?_getD, h]
set_option maxRecDepth 20000 in
theorem ok34 : ConOk Try.prog 34 con34 := by
  refine con_of (E := E34) E34_ok (fn := Try.f34) Try.func34 rfl (by decide) (by kernel_rfl) (rs := [.tmp 2]) rfl (by decide) (by decide) [.data 4]  (fun _ _ => ⟨_, true, rfl⟩) anyFlat ?_
  rintro b ⟨hb1, hb2, hb3, hb4, hb5, hb6⟩
  simp (maxSteps := 1000000) only [startP_eq, startL, List.map_cons, List.map_nil, run_region, run_seq, run_block, run_loop, opsK_nil, opsK_op, seqK_normal, upd_apply, after_some, ev_tmp, ev_int, ev_bool, St.sv, St.sc, strip, stripC, op_assign, eK_some, emap_some, op_box, op_make, Option.map_some, true_and, and_true, ↓reduceIte, Nat.reduceMul, Nat.reduceLeDiff, cod1_enc, and_self, Env.tk, boxE, plainTI, zpv, cellsP, refNew, plainTI, Int.reduceToNat, ty_r, E34_r, Basin.row, Basin.d, makeE]
  refine And.intro (by decide) ?_
  refine pwp_loop (fun n S => ∃ (i : Int) (p0 p1 p2 p3 p4 : PV), 0 ≤ i ∧ i ≤ (b.Places.length : Int) ∧ n = ((b.Places.length : Int) - i).toNat ∧ S.t 4 = .d (.int .i64 i) ∧ S.t 1 = .ref 1 1 0 0 0 ∧ S.t 3 = .row 11 1 5 ∧ S.o 1 = (1, some (.box 31 (b.row.map PV.d))) ∧ S.o 11 = (1, some (.vec 1 22 [[p0], [p1], [p2], [p3], [p4]])) ∧ okS S.o p0 i.toNat [30] ∧ okS S.o p1 0 [50] ∧ okS S.o p2 0 [70, 90] ∧ okS S.o p3 0 [110] ∧ okS S.o p4 0 [130])
    ((b.Places.length : Int) - 0).toNat ⟨0, .nils, .nils, .nils, .nils, .nils, by omega, by omega, rfl, rfl, rfl, rfl, rfl, rfl, .inl rfl, .inl rfl, .inl rfl, .inl rfl, .inl rfl⟩ ?_
  rintro n ⟨t, o⟩ ⟨i, p0, p1, p2, p3, p4, hi0, hil, hn, hi, h1, h3, ho1, ho11, q0, q1, q2, q3, q4⟩
  simp only at hi h1 h3 ho1 ho11 q0 q1 q2 q3 q4
  simp (maxSteps := 1000000) only [List.map_cons, List.map_nil, run_skip, run_region, run_seq, run_cond, run_block, run_exit, run_loop, opsK_nil, opsK_op, seqK_normal, seqK_exit, blkK_exit, loopK_exit, condK_bool, upd_apply, after_some, ev_tmp, ev_int, St.sv, St.sc, strip, stripC, argsC, pK_none, pmap_some, op_move, op_assign, on_bin, op_load, op_fa, op_ia, op_len, bin_lss, op_app, op_lit, lK_false, Option.map_some, true_and, and_true, ↓reduceIte, Nat.reduceEqDiff, Nat.reduceAdd, Nat.reduceMul, Nat.reduceLT, Nat.reduceLeDiff, Nat.zero_add, Nat.add_zero, List.getElem?_cons_succ, List.getElem?_cons_zero, and_self, Env.tk, loadV, fieldAddrV, indexAddrV, lenV, loadD, loadP, St.obj, TI.isAgg, plainTI, List.getD_cons_zero, List.getD_cons_succ, List.length_cons, List.length_nil, List.length_map, pN_bool, lbK_true, lnK_none, lenF, Nat.mul_zero, Bool.false_eq_true, maxLen_eq, plainTI, Int.toNat_zero, ty_r, E34_r, Place.getD, Place.row, Basin.row, hi, h1, h3, ho1, ho11, litV, lit1s]
  refine fun _ b0 hb0 => ⟨fun hbt => ?_, fun hbf => ?_⟩ <;> (try simp only [Named] at *)
  · have hlt : i < (b.Places.length : Int) := by grind
    clear hb0 hbt
    rcases q0 with rfl | ⟨K, v, l, hK, rfl, hoK, hl⟩
    · simp (maxSteps := 1000000) only [run_region, opsK_nil, opsK_op, seqK_normal, blkK_normal, loopK_normal, upd_apply, after_some, after_none, ev_tmp, ev_int, St.sv, St.sc, strip, stripC, pK_none, pmap_some, op_move, op_assign, on_bin, op_ia, bin_add, eK_some, emap_some, op_store, Option.map_some, true_and, ↓reduceIte, Nat.reduceEqDiff, Nat.reduceAdd, Nat.reduceMul, Nat.reduceLT, Nat.reduceLeDiff, Nat.zero_add, List.append_nil, List.nil_append, and_self, Env.tk, indexAddrV, storeE, St.obj, plainTI, cellsP, newOb, List.getD_cons_zero, List.length_cons, List.length_nil, pN_int, List.take_zero, List.drop_succ_cons, List.drop_nil, plainTI, Int.toNat_zero, ty_r, E34_r, hi, ho11, appE, appR, rowsV, rowNew, List.set_cons_zero]
      refine ⟨by decide, by omega, by decide, ?_⟩
      refine ghost_id ⟨(b.Places.length - (i + 1)).toNat, by omega, i + 1, .row 30 ((o 30).1 + 1) 1, p1, p2, p3, p4, by omega, by omega, rfl, by simp only [upd_apply, ↓reduceIte]; rw [wrap64 (by omega) (by omega)], h1, h3, ?_, ?_, ?_, okS_frame q1 (by intro K2 hK2; simp only [List.mem_cons, List.not_mem_nil, or_false] at hK2; simp only [setOb, newOb]; grind), okS_frame q2 (by intro K2 hK2; simp only [List.mem_cons, List.not_mem_nil, or_false] at hK2; simp only [setOb, newOb]; grind), okS_frame q3 (by intro K2 hK2; simp only [List.mem_cons, List.not_mem_nil, or_false] at hK2; simp only [setOb, newOb]; grind), okS_frame q4 (by intro K2 hK2; simp only [List.mem_cons, List.not_mem_nil, or_false] at hK2; simp only [setOb, newOb]; grind)⟩
      · simp only [setOb, newOb, Nat.reduceEqDiff, ↓reduceIte, ho1]; rfl
      · simp only [setOb, newOb, Nat.reduceEqDiff, ↓reduceIte, ho11]
      · exact okS_snoc (l := []) (by simp) (by simp only [setOb, newOb, Nat.reduceEqDiff, ↓reduceIte]; rfl) rfl rfl (by simp only [List.length_nil]; omega)
    · have hK11 : (11 = K) = False := by simp; rintro rfl; simp at hK
      have hK11' : (K = 11) = False := by simp; rintro rfl; simp at hK
      have hK1 : (1 = K) = False := by simp; rintro rfl; simp at hK
      simp (maxSteps := 1000000) only [run_region, opsK_nil, opsK_op, seqK_normal, blkK_normal, loopK_normal, upd_apply, after_some, after_none, ev_tmp, ev_int, St.sv, St.sc, strip, stripC, pK_none, pmap_some, op_move, op_assign, on_bin, op_ia, bin_add, eK_some, emap_some, op_store, Option.map_some, true_and, ↓reduceIte, Nat.reduceEqDiff, Nat.reduceAdd, Nat.reduceLT, Nat.reduceLeDiff, Nat.zero_add, List.append_nil, List.nil_append, and_self, Env.tk, indexAddrV, storeE, St.obj, plainTI, cellsP, newOb, List.getD_cons_zero, List.length_cons, List.length_nil, List.length_map, pN_int, List.take_zero, List.drop_succ_cons, List.drop_nil, plainTI, Int.toNat_zero, ty_r, E34_r, hi, ho11, hoK, hK11, appE, appR, rowsV, rowNew, List.set_cons_zero]
      refine ⟨by decide, by omega, by omega, by decide, ?_⟩
      refine ghost_id ⟨(b.Places.length - (i + 1)).toNat, by omega, i + 1, .row K ((o K).1 + 1) (l.length + 1), p1, p2, p3, p4, by omega, by omega, rfl, by simp only [upd_apply, ↓reduceIte]; rw [wrap64 (by omega) (by omega)], h1, h3, ?_, ?_, ?_, okS_frame q1 (by intro K2 hK2; simp only [List.mem_cons, List.not_mem_nil, or_false] at hK2 hK; simp only [setOb, newOb]; grind), okS_frame q2 (by intro K2 hK2; simp only [List.mem_cons, List.not_mem_nil, or_false] at hK2 hK; simp only [setOb, newOb]; grind), okS_frame q3 (by intro K2 hK2; simp only [List.mem_cons, List.not_mem_nil, or_false] at hK2 hK; simp only [setOb, newOb]; grind), okS_frame q4 (by intro K2 hK2; simp only [List.mem_cons, List.not_mem_nil, or_false] at hK2 hK; simp only [setOb, newOb]; grind)⟩
      · simp only [setOb, newOb, Nat.reduceEqDiff, ↓reduceIte, ho1, hK1]; rfl
      · simp only [setOb, newOb, ↓reduceIte, ho11, hK11, hoK]
      · refine okS_snoc (l := l) hK (by simp only [setOb, newOb, ↓reduceIte, hK11', hoK]; rfl) (by simp only [List.map_append, List.map_cons, List.map_nil]; rfl) rfl (by omega)
  refine pwp_loop (fun n S => ∃ (i : Int) (p0 p1 p2 p3 p4 : PV), 0 ≤ i ∧ i ≤ (b.Links.length : Int) ∧ n = ((b.Links.length : Int) - i).toNat ∧ S.t 5 = .d (.int .i64 i) ∧ S.t 1 = .ref 1 1 0 0 0 ∧ S.t 3 = .row 11 1 5 ∧ S.o 1 = (1, some (.box 31 (b.row.map PV.d))) ∧ S.o 11 = (1, some (.vec 1 22 [[p0], [p1], [p2], [p3], [p4]])) ∧ okS S.o p0 200 [30] ∧ okS S.o p1 i.toNat [50] ∧ okS S.o p2 0 [70, 90] ∧ okS S.o p3 0 [110] ∧ okS S.o p4 0 [130])
    ((b.Links.length : Int) - 0).toNat ⟨0, p0, p1, p2, p3, p4, by omega, by omega, rfl, rfl, h1, h3, ho1, ho11, okS_mono q0 (by omega), okS_mono q1 (by omega), okS_mono q2 (by omega), okS_mono q3 (by omega), okS_mono q4 (by omega)⟩ ?_
  rintro n ⟨t, o⟩ ⟨i, p0, p1, p2, p3, p4, hi0, hil, hn, hi, h1, h3, ho1, ho11, q0, q1, q2, q3, q4⟩
  simp only at hi h1 h3 ho1 ho11 q0 q1 q2 q3 q4
  simp (maxSteps := 1000000) only [List.map_cons, List.map_nil, run_skip, run_region, run_seq, run_cond, run_block, run_exit, run_loop, opsK_nil, opsK_op, seqK_normal, seqK_exit, blkK_exit, loopK_exit, condK_bool, upd_apply, after_some, ev_tmp, ev_int, St.sv, St.sc, strip, stripC, argsC, pK_none, pmap_some, op_move, op_assign, on_bin, op_load, op_fa, op_ia, op_len, bin_lss, op_app, op_lit, lK_false, Option.map_some, true_and, and_true, ↓reduceIte, Nat.reduceEqDiff, Nat.reduceAdd, Nat.reduceMul, Nat.reduceLT, Nat.reduceLeDiff, Nat.zero_add, Nat.add_zero, List.getElem?_cons_succ, List.getElem?_cons_zero, and_self, Env.tk, loadV, fieldAddrV, indexAddrV, lenV, loadD, loadP, St.obj, TI.isAgg, plainTI, List.getD_cons_zero, List.getD_cons_succ, List.length_cons, List.length_nil, List.length_map, pN_bool, lbK_true, lnK_none, lenF, Nat.mul_zero, Bool.false_eq_true, maxLen_eq, plainTI, Int.toNat_one, ty_r, E34_r, Link.getD, Link.row, Basin.row, hi, h1, h3, ho1, ho11, litV, lit1s]
  refine fun _ b0 hb0 => ⟨fun hbt => ?_, fun hbf => ?_⟩ <;> (try simp only [Named] at *)
  · have hlt : i < (b.Links.length : Int) := by grind
    clear hb0 hbt
    rcases q1 with rfl | ⟨K, v, l, hK, rfl, hoK, hl⟩
    · simp (maxSteps := 1000000) only [run_region, opsK_nil, opsK_op, seqK_normal, blkK_normal, loopK_normal, upd_apply, after_some, after_none, ev_tmp, ev_int, St.sv, St.sc, strip, stripC, pK_none, pmap_some, op_move, op_assign, on_bin, op_ia, bin_add, eK_some, emap_some, op_store, Option.map_some, true_and, ↓reduceIte, Nat.reduceEqDiff, Nat.reduceAdd, Nat.reduceMul, Nat.reduceLT, Nat.reduceLeDiff, Nat.zero_add, List.append_nil, List.nil_append, and_self, Env.tk, indexAddrV, storeE, St.obj, plainTI, cellsP, newOb, List.getD_cons_zero, List.getD_cons_succ, List.length_cons, List.length_nil, pN_int, List.take_zero, List.drop_succ_cons, List.drop_nil, plainTI, Int.toNat_one, ty_r, E34_r, hi, ho11, appE, appR, rowsV, rowNew, List.set_cons_zero, List.set_cons_succ]
      refine ⟨by decide, by omega, by decide, ?_⟩
      refine ghost_id ⟨(b.Links.length - (i + 1)).toNat, by omega, i + 1, p0, .row 50 ((o 50).1 + 1) 1, p2, p3, p4, by omega, by omega, rfl, by simp only [upd_apply, ↓reduceIte]; rw [wrap64 (by omega) (by omega)], h1, h3, ?_, ?_, okS_frame q0 (by intro K2 hK2; simp only [List.mem_cons, List.not_mem_nil, or_false] at hK2; simp only [setOb, newOb]; grind), ?_, okS_frame q2 (by intro K2 hK2; simp only [List.mem_cons, List.not_mem_nil, or_false] at hK2; simp only [setOb, newOb]; grind), okS_frame q3 (by intro K2 hK2; simp only [List.mem_cons, List.not_mem_nil, or_false] at hK2; simp only [setOb, newOb]; grind), okS_frame q4 (by intro K2 hK2; simp only [List.mem_cons, List.not_mem_nil, or_false] at hK2; simp only [setOb, newOb]; grind)⟩
      · simp only [setOb, newOb, Nat.reduceEqDiff, ↓reduceIte, ho1]; rfl
      · simp only [setOb, newOb, Nat.reduceEqDiff, ↓reduceIte, ho11]
      · exact okS_snoc (l := []) (by simp) (by simp only [setOb, newOb, Nat.reduceEqDiff, ↓reduceIte]; rfl) rfl rfl (by simp only [List.length_nil]; omega)
    · have hK11 : (11 = K) = False := by simp; rintro rfl; simp at hK
      have hK11' : (K = 11) = False := by simp; rintro rfl; simp at hK
      have hK1 : (1 = K) = False := by simp; rintro rfl; simp at hK
      simp (maxSteps := 1000000) only [run_region, opsK_nil, opsK_op, seqK_normal, blkK_normal, loopK_normal, upd_apply, after_some, after_none, ev_tmp, ev_int, St.sv, St.sc, strip, stripC, pK_none, pmap_some, op_move, op_assign, on_bin, op_ia, bin_add, eK_some, emap_some, op_store, Option.map_some, true_and, ↓reduceIte, Nat.reduceEqDiff, Nat.reduceAdd, Nat.reduceLT, Nat.reduceLeDiff, Nat.zero_add, List.append_nil, List.nil_append, and_self, Env.tk, indexAddrV, storeE, St.obj, plainTI, cellsP, newOb, List.getD_cons_zero, List.getD_cons_succ, List.length_cons, List.length_nil, List.length_map, pN_int, List.take_zero, List.drop_succ_cons, List.drop_nil, plainTI, Int.toNat_one, ty_r, E34_r, hi, ho11, hoK, hK11, appE, appR, rowsV, rowNew, List.set_cons_zero, List.set_cons_succ]
      refine ⟨by decide, by omega, by omega, by decide, ?_⟩
      refine ghost_id ⟨(b.Links.length - (i + 1)).toNat, by omega, i + 1, p0, .row K ((o K).1 + 1) (l.length + 1), p2, p3, p4, by omega, by omega, rfl, by simp only [upd_apply, ↓reduceIte]; rw [wrap64 (by omega) (by omega)], h1, h3, ?_, ?_, okS_frame q0 (by intro K2 hK2; simp only [List.mem_cons, List.not_mem_nil, or_false] at hK2 hK; simp only [setOb, newOb]; grind), ?_, okS_frame q2 (by intro K2 hK2; simp only [List.mem_cons, List.not_mem_nil, or_false] at hK2 hK; simp only [setOb, newOb]; grind), okS_frame q3 (by intro K2 hK2; simp only [List.mem_cons, List.not_mem_nil, or_false] at hK2 hK; simp only [setOb, newOb]; grind), okS_frame q4 (by intro K2 hK2; simp only [List.mem_cons, List.not_mem_nil, or_false] at hK2 hK; simp only [setOb, newOb]; grind)⟩
      · simp only [setOb, newOb, Nat.reduceEqDiff, ↓reduceIte, ho1, hK1]; rfl
      · simp only [setOb, newOb, ↓reduceIte, ho11, hK11, hoK]
      · refine okS_snoc (l := l) hK (by simp only [setOb, newOb, ↓reduceIte, hK11', hoK]; rfl) (by simp only [List.map_append, List.map_cons, List.map_nil]; rfl) rfl (by omega)
  refine pwp_loop (fun n S => ∃ (i : Int) (p0 p1 p2 p3 p4 : PV), 0 ≤ i ∧ i ≤ (b.Towns.length : Int) ∧ n = ((b.Towns.length : Int) - i).toNat ∧ S.t 6 = .d (.int .i64 i) ∧ S.t 1 = .ref 1 1 0 0 0 ∧ S.t 3 = .row 11 1 5 ∧ S.o 1 = (1, some (.box 31 (b.row.map PV.d))) ∧ S.o 11 = (1, some (.vec 1 22 [[p0], [p1], [p2], [p3], [p4]])) ∧ okS S.o p0 200 [30] ∧ okS S.o p1 200 [50] ∧ okS S.o p2 i.toNat [70, 90] ∧ okS S.o p3 0 [110] ∧ okS S.o p4 0 [130])
    ((b.Towns.length : Int) - 0).toNat ⟨0, p0, p1, p2, p3, p4, by omega, by omega, rfl, rfl, h1, h3, ho1, ho11, okS_mono q0 (by omega), okS_mono q1 (by omega), okS_mono q2 (by omega), okS_mono q3 (by omega), okS_mono q4 (by omega)⟩ ?_
  rintro n ⟨t, o⟩ ⟨i, p0, p1, p2, p3, p4, hi0, hil, hn, hi, h1, h3, ho1, ho11, q0, q1, q2, q3, q4⟩
  simp only at hi h1 h3 ho1 ho11 q0 q1 q2 q3 q4
  simp (maxSteps := 1000000) only [List.map_cons, List.map_nil, run_skip, run_region, run_seq, run_cond, run_block, run_exit, run_loop, opsK_nil, opsK_op, seqK_normal, seqK_exit, blkK_exit, loopK_exit, condK_bool, upd_apply, after_some, ev_tmp, ev_int, St.sv, St.sc, strip, stripC, argsC, pK_none, pmap_some, op_move, op_assign, on_bin, op_load, op_fa, op_ia, op_len, bin_lss, op_app, op_lit, lK_false, Option.map_some, true_and, and_true, ↓reduceIte, Nat.reduceEqDiff, Nat.reduceAdd, Nat.reduceMul, Nat.reduceLT, Nat.reduceLeDiff, Nat.zero_add, Nat.add_zero, List.getElem?_cons_succ, List.getElem?_cons_zero, and_self, Env.tk, loadV, fieldAddrV, indexAddrV, lenV, loadD, loadP, St.obj, TI.isAgg, plainTI, List.getD_cons_zero, List.getD_cons_succ, List.length_cons, List.length_nil, List.length_map, pN_bool, lbK_true, lnK_none, lenF, Nat.mul_zero, Bool.false_eq_true, maxLen_eq, plainTI, Int.reduceToNat, ty_r, E34_r, Town.getD, Town.row, Basin.row, hi, h1, h3, ho1, ho11, litV, lit1s]
  refine fun _ b0 hb0 => ⟨fun hbt => ?_, fun hbf => ?_⟩ <;> (try simp only [Named] at *)
  · have hlt : i < (b.Towns.length : Int) := by grind
    clear hb0 hbt
    rcases q2 with rfl | ⟨K, v, l, hK, rfl, hoK, hl⟩
    · simp (maxSteps := 1000000) only [run_region, opsK_nil, opsK_op, seqK_normal, blkK_normal, loopK_normal, upd_apply, after_some, after_none, ev_tmp, ev_int, St.sv, St.sc, strip, stripC, pK_none, pmap_some, op_move, op_assign, on_bin, op_ia, bin_add, eK_some, emap_some, op_store, Option.map_some, true_and, ↓reduceIte, Nat.reduceEqDiff, Nat.reduceAdd, Nat.reduceMul, Nat.reduceLT, Nat.reduceLeDiff, Nat.zero_add, List.append_nil, List.nil_append, and_self, Env.tk, indexAddrV, storeE, St.obj, plainTI, cellsP, newOb, List.getD_cons_zero, List.getD_cons_succ, List.length_cons, List.length_nil, pN_int, List.take_zero, List.drop_succ_cons, List.drop_nil, plainTI, Int.reduceToNat, ty_r, E34_r, hi, ho11, appE, appR, rowsV, rowNew, List.set_cons_zero, List.set_cons_succ]
      refine ⟨by decide, by omega, by decide, ?_⟩
      refine ghost_id ⟨(b.Towns.length - (i + 1)).toNat, by omega, i + 1, p0, p1, .row 70 ((o 70).1 + 1) 1, p3, p4, by omega, by omega, rfl, by simp only [upd_apply, ↓reduceIte]; rw [wrap64 (by omega) (by omega)], h1, h3, ?_, ?_, okS_frame q0 (by intro K2 hK2; simp only [List.mem_cons, List.not_mem_nil, or_false] at hK2; simp only [setOb, newOb]; grind), okS_frame q1 (by intro K2 hK2; simp only [List.mem_cons, List.not_mem_nil, or_false] at hK2; simp only [setOb, newOb]; grind), ?_, okS_frame q3 (by intro K2 hK2; simp only [List.mem_cons, List.not_mem_nil, or_false] at hK2; simp only [setOb, newOb]; grind), okS_frame q4 (by intro K2 hK2; simp only [List.mem_cons, List.not_mem_nil, or_false] at hK2; simp only [setOb, newOb]; grind)⟩
      · simp only [setOb, newOb, Nat.reduceEqDiff, ↓reduceIte, ho1]; rfl
      · simp only [setOb, newOb, Nat.reduceEqDiff, ↓reduceIte, ho11]
      · exact okS_snoc (l := []) (by simp) (by simp only [setOb, newOb, Nat.reduceEqDiff, ↓reduceIte]; rfl) rfl rfl (by simp only [List.length_nil]; omega)
    · have hK11 : (11 = K) = False := by simp; rintro rfl; simp at hK
      have hK11' : (K = 11) = False := by simp; rintro rfl; simp at hK
      have hK1 : (1 = K) = False := by simp; rintro rfl; simp at hK
      simp (maxSteps := 1000000) only [run_region, opsK_nil, opsK_op, seqK_normal, blkK_normal, loopK_normal, upd_apply, after_some, after_none, ev_tmp, ev_int, St.sv, St.sc, strip, stripC, pK_none, pmap_some, op_move, op_assign, on_bin, op_ia, bin_add, eK_some, emap_some, op_store, Option.map_some, true_and, ↓reduceIte, Nat.reduceEqDiff, Nat.reduceAdd, Nat.reduceLT, Nat.reduceLeDiff, Nat.zero_add, List.append_nil, List.nil_append, and_self, Env.tk, indexAddrV, storeE, St.obj, plainTI, cellsP, newOb, List.getD_cons_zero, List.getD_cons_succ, List.length_cons, List.length_nil, List.length_map, pN_int, List.take_zero, List.drop_succ_cons, List.drop_nil, plainTI, Int.reduceToNat, ty_r, E34_r, hi, ho11, hoK, hK11, appE, appR, rowsV, rowNew, List.set_cons_zero, List.set_cons_succ]
      refine ⟨by decide, by omega, by omega, by decide, ?_⟩
      refine ghost_id ⟨(b.Towns.length - (i + 1)).toNat, by omega, i + 1, p0, p1, .row K ((o K).1 + 1) (l.length + 1), p3, p4, by omega, by omega, rfl, by simp only [upd_apply, ↓reduceIte]; rw [wrap64 (by omega) (by omega)], h1, h3, ?_, ?_, okS_frame q0 (by intro K2 hK2; simp only [List.mem_cons, List.not_mem_nil, or_false] at hK2 hK; simp only [setOb, newOb]; grind), okS_frame q1 (by intro K2 hK2; simp only [List.mem_cons, List.not_mem_nil, or_false] at hK2 hK; simp only [setOb, newOb]; grind), ?_, okS_frame q3 (by intro K2 hK2; simp only [List.mem_cons, List.not_mem_nil, or_false] at hK2 hK; simp only [setOb, newOb]; grind), okS_frame q4 (by intro K2 hK2; simp only [List.mem_cons, List.not_mem_nil, or_false] at hK2 hK; simp only [setOb, newOb]; grind)⟩
      · simp only [setOb, newOb, Nat.reduceEqDiff, ↓reduceIte, ho1, hK1]; rfl
      · simp only [setOb, newOb, ↓reduceIte, ho11, hK11, hoK]
      · refine okS_snoc (l := l) hK (by simp only [setOb, newOb, ↓reduceIte, hK11', hoK]; rfl) (by simp only [List.map_append, List.map_cons, List.map_nil]; rfl) rfl (by omega)
  refine pwp_loop (fun n S => ∃ (i : Int) (p0 p1 p2 p3 p4 : PV), 0 ≤ i ∧ i ≤ (b.Shelters.length : Int) ∧ n = ((b.Shelters.length : Int) - i).toNat ∧ S.t 7 = .d (.int .i64 i) ∧ S.t 1 = .ref 1 1 0 0 0 ∧ S.t 3 = .row 11 1 5 ∧ S.o 1 = (1, some (.box 31 (b.row.map PV.d))) ∧ S.o 11 = (1, some (.vec 1 22 [[p0], [p1], [p2], [p3], [p4]])) ∧ okS S.o p0 200 [30] ∧ okS S.o p1 200 [50] ∧ okS S.o p2 (40 + i.toNat) [70, 90] ∧ okS S.o p3 0 [110] ∧ okS S.o p4 0 [130])
    ((b.Shelters.length : Int) - 0).toNat ⟨0, p0, p1, p2, p3, p4, by omega, by omega, rfl, rfl, h1, h3, ho1, ho11, okS_mono q0 (by omega), okS_mono q1 (by omega), okS_mono q2 (by omega), okS_mono q3 (by omega), okS_mono q4 (by omega)⟩ ?_
  rintro n ⟨t, o⟩ ⟨i, p0, p1, p2, p3, p4, hi0, hil, hn, hi, h1, h3, ho1, ho11, q0, q1, q2, q3, q4⟩
  simp only at hi h1 h3 ho1 ho11 q0 q1 q2 q3 q4
  simp (maxSteps := 1000000) only [List.map_cons, List.map_nil, run_skip, run_region, run_seq, run_cond, run_block, run_exit, run_loop, opsK_nil, opsK_op, seqK_normal, seqK_exit, blkK_exit, loopK_exit, condK_bool, upd_apply, after_some, ev_tmp, ev_int, St.sv, St.sc, strip, stripC, argsC, pK_none, pmap_some, op_move, op_assign, on_bin, op_load, op_fa, op_ia, op_len, bin_lss, op_app, op_lit, lK_false, Option.map_some, true_and, and_true, ↓reduceIte, Nat.reduceEqDiff, Nat.reduceAdd, Nat.reduceMul, Nat.reduceLT, Nat.reduceLeDiff, Nat.zero_add, Nat.add_zero, List.getElem?_cons_succ, List.getElem?_cons_zero, and_self, Env.tk, loadV, fieldAddrV, indexAddrV, lenV, loadD, loadP, St.obj, TI.isAgg, plainTI, List.getD_cons_zero, List.getD_cons_succ, List.length_cons, List.length_nil, List.length_map, pN_bool, lbK_true, lnK_none, lenF, Nat.mul_zero, Bool.false_eq_true, maxLen_eq, plainTI, Int.reduceToNat, ty_r, E34_r, Shelter.getD, Shelter.row, Basin.row, hi, h1, h3, ho1, ho11, litV, lit1s]
  refine fun _ b0 hb0 => ⟨fun hbt => ?_, fun hbf => ?_⟩ <;> (try simp only [Named] at *)
  · have hlt : i < (b.Shelters.length : Int) := by grind
    clear hb0 hbt
    rcases q2 with rfl | ⟨K, v, l, hK, rfl, hoK, hl⟩
    · simp (maxSteps := 1000000) only [run_region, opsK_nil, opsK_op, seqK_normal, blkK_normal, loopK_normal, upd_apply, after_some, after_none, ev_tmp, ev_int, St.sv, St.sc, strip, stripC, pK_none, pmap_some, op_move, op_assign, on_bin, op_ia, bin_add, eK_some, emap_some, op_store, Option.map_some, true_and, ↓reduceIte, Nat.reduceEqDiff, Nat.reduceAdd, Nat.reduceMul, Nat.reduceLT, Nat.reduceLeDiff, Nat.zero_add, List.append_nil, List.nil_append, and_self, Env.tk, indexAddrV, storeE, St.obj, plainTI, cellsP, newOb, List.getD_cons_zero, List.getD_cons_succ, List.length_cons, List.length_nil, pN_int, List.take_zero, List.drop_succ_cons, List.drop_nil, plainTI, Int.reduceToNat, ty_r, E34_r, hi, ho11, appE, appR, rowsV, rowNew, List.set_cons_zero, List.set_cons_succ]
      refine ⟨by decide, by omega, by decide, ?_⟩
      refine ghost_id ⟨(b.Shelters.length - (i + 1)).toNat, by omega, i + 1, p0, p1, .row 90 ((o 90).1 + 1) 1, p3, p4, by omega, by omega, rfl, by simp only [upd_apply, ↓reduceIte]; rw [wrap64 (by omega) (by omega)], h1, h3, ?_, ?_, okS_frame q0 (by intro K2 hK2; simp only [List.mem_cons, List.not_mem_nil, or_false] at hK2; simp only [setOb, newOb]; grind), okS_frame q1 (by intro K2 hK2; simp only [List.mem_cons, List.not_mem_nil, or_false] at hK2; simp only [setOb, newOb]; grind), ?_, okS_frame q3 (by intro K2 hK2; simp only [List.mem_cons, List.not_mem_nil, or_false] at hK2; simp only [setOb, newOb]; grind), okS_frame q4 (by intro K2 hK2; simp only [List.mem_cons, List.not_mem_nil, or_false] at hK2; simp only [setOb, newOb]; grind)⟩
      · simp only [setOb, newOb, Nat.reduceEqDiff, ↓reduceIte, ho1]; rfl
      · simp only [setOb, newOb, Nat.reduceEqDiff, ↓reduceIte, ho11]
      · exact okS_snoc (l := []) (by simp) (by simp only [setOb, newOb, Nat.reduceEqDiff, ↓reduceIte]; rfl) rfl rfl (by simp only [List.length_nil]; omega)
    · have hK11 : (11 = K) = False := by simp; rintro rfl; simp at hK
      have hK11' : (K = 11) = False := by simp; rintro rfl; simp at hK
      have hK1 : (1 = K) = False := by simp; rintro rfl; simp at hK
      simp (maxSteps := 1000000) only [run_region, opsK_nil, opsK_op, seqK_normal, blkK_normal, loopK_normal, upd_apply, after_some, after_none, ev_tmp, ev_int, St.sv, St.sc, strip, stripC, pK_none, pmap_some, op_move, op_assign, on_bin, op_ia, bin_add, eK_some, emap_some, op_store, Option.map_some, true_and, ↓reduceIte, Nat.reduceEqDiff, Nat.reduceAdd, Nat.reduceLT, Nat.reduceLeDiff, Nat.zero_add, List.append_nil, List.nil_append, and_self, Env.tk, indexAddrV, storeE, St.obj, plainTI, cellsP, newOb, List.getD_cons_zero, List.getD_cons_succ, List.length_cons, List.length_nil, List.length_map, pN_int, List.take_zero, List.drop_succ_cons, List.drop_nil, plainTI, Int.reduceToNat, ty_r, E34_r, hi, ho11, hoK, hK11, appE, appR, rowsV, rowNew, List.set_cons_zero, List.set_cons_succ]
      refine ⟨by decide, by omega, by omega, by decide, ?_⟩
      refine ghost_id ⟨(b.Shelters.length - (i + 1)).toNat, by omega, i + 1, p0, p1, .row K ((o K).1 + 1) (l.length + 1), p3, p4, by omega, by omega, rfl, by simp only [upd_apply, ↓reduceIte]; rw [wrap64 (by omega) (by omega)], h1, h3, ?_, ?_, okS_frame q0 (by intro K2 hK2; simp only [List.mem_cons, List.not_mem_nil, or_false] at hK2 hK; simp only [setOb, newOb]; grind), okS_frame q1 (by intro K2 hK2; simp only [List.mem_cons, List.not_mem_nil, or_false] at hK2 hK; simp only [setOb, newOb]; grind), ?_, okS_frame q3 (by intro K2 hK2; simp only [List.mem_cons, List.not_mem_nil, or_false] at hK2 hK; simp only [setOb, newOb]; grind), okS_frame q4 (by intro K2 hK2; simp only [List.mem_cons, List.not_mem_nil, or_false] at hK2 hK; simp only [setOb, newOb]; grind)⟩
      · simp only [setOb, newOb, Nat.reduceEqDiff, ↓reduceIte, ho1, hK1]; rfl
      · simp only [setOb, newOb, ↓reduceIte, ho11, hK11, hoK]
      · refine okS_snoc (l := l) hK (by simp only [setOb, newOb, ↓reduceIte, hK11', hoK]; rfl) (by simp only [List.map_append, List.map_cons, List.map_nil]; rfl) rfl (by omega)
  refine pwp_loop (fun n S => ∃ (i : Int) (p0 p1 p2 p3 p4 : PV), 0 ≤ i ∧ i ≤ (b.Gauges.length : Int) ∧ n = ((b.Gauges.length : Int) - i).toNat ∧ S.t 8 = .d (.int .i64 i) ∧ S.t 1 = .ref 1 1 0 0 0 ∧ S.t 3 = .row 11 1 5 ∧ S.o 1 = (1, some (.box 31 (b.row.map PV.d))) ∧ S.o 11 = (1, some (.vec 1 22 [[p0], [p1], [p2], [p3], [p4]])) ∧ okS S.o p0 200 [30] ∧ okS S.o p1 200 [50] ∧ okS S.o p2 200 [70, 90] ∧ okS S.o p3 i.toNat [110] ∧ okS S.o p4 0 [130])
    ((b.Gauges.length : Int) - 0).toNat ⟨0, p0, p1, p2, p3, p4, by omega, by omega, rfl, rfl, h1, h3, ho1, ho11, okS_mono q0 (by omega), okS_mono q1 (by omega), okS_mono q2 (by omega), okS_mono q3 (by omega), okS_mono q4 (by omega)⟩ ?_
  rintro n ⟨t, o⟩ ⟨i, p0, p1, p2, p3, p4, hi0, hil, hn, hi, h1, h3, ho1, ho11, q0, q1, q2, q3, q4⟩
  simp only at hi h1 h3 ho1 ho11 q0 q1 q2 q3 q4
  simp (maxSteps := 1000000) only [List.map_cons, List.map_nil, run_skip, run_region, run_seq, run_cond, run_block, run_exit, run_loop, opsK_nil, opsK_op, seqK_normal, seqK_exit, blkK_exit, loopK_exit, condK_bool, upd_apply, after_some, ev_tmp, ev_int, St.sv, St.sc, strip, stripC, argsC, pK_none, pmap_some, op_move, op_assign, on_bin, op_load, op_fa, op_ia, op_len, bin_lss, op_app, op_lit, lK_false, Option.map_some, true_and, and_true, ↓reduceIte, Nat.reduceEqDiff, Nat.reduceAdd, Nat.reduceMul, Nat.reduceLT, Nat.reduceLeDiff, Nat.zero_add, Nat.add_zero, List.getElem?_cons_succ, List.getElem?_cons_zero, and_self, Env.tk, loadV, fieldAddrV, indexAddrV, lenV, loadD, loadP, St.obj, TI.isAgg, plainTI, List.getD_cons_zero, List.getD_cons_succ, List.length_cons, List.length_nil, List.length_map, pN_bool, lbK_true, lnK_none, lenF, Nat.mul_zero, Bool.false_eq_true, maxLen_eq, plainTI, Int.reduceToNat, ty_r, E34_r, Gauge.getD, Gauge.row, Basin.row, hi, h1, h3, ho1, ho11, litV, lit1s]
  refine fun _ b0 hb0 => ⟨fun hbt => ?_, fun hbf => ?_⟩ <;> (try simp only [Named] at *)
  · have hlt : i < (b.Gauges.length : Int) := by grind
    clear hb0 hbt
    rcases q3 with rfl | ⟨K, v, l, hK, rfl, hoK, hl⟩
    · simp (maxSteps := 1000000) only [run_region, opsK_nil, opsK_op, seqK_normal, blkK_normal, loopK_normal, upd_apply, after_some, after_none, ev_tmp, ev_int, St.sv, St.sc, strip, stripC, pK_none, pmap_some, op_move, op_assign, on_bin, op_ia, bin_add, eK_some, emap_some, op_store, Option.map_some, true_and, ↓reduceIte, Nat.reduceEqDiff, Nat.reduceAdd, Nat.reduceMul, Nat.reduceLT, Nat.reduceLeDiff, Nat.zero_add, List.append_nil, List.nil_append, and_self, Env.tk, indexAddrV, storeE, St.obj, plainTI, cellsP, newOb, List.getD_cons_zero, List.getD_cons_succ, List.length_cons, List.length_nil, pN_int, List.take_zero, List.drop_succ_cons, List.drop_nil, plainTI, Int.reduceToNat, ty_r, E34_r, hi, ho11, appE, appR, rowsV, rowNew, List.set_cons_zero, List.set_cons_succ]
      refine ⟨by decide, by omega, by decide, ?_⟩
      refine ghost_id ⟨(b.Gauges.length - (i + 1)).toNat, by omega, i + 1, p0, p1, p2, .row 110 ((o 110).1 + 1) 1, p4, by omega, by omega, rfl, by simp only [upd_apply, ↓reduceIte]; rw [wrap64 (by omega) (by omega)], h1, h3, ?_, ?_, okS_frame q0 (by intro K2 hK2; simp only [List.mem_cons, List.not_mem_nil, or_false] at hK2; simp only [setOb, newOb]; grind), okS_frame q1 (by intro K2 hK2; simp only [List.mem_cons, List.not_mem_nil, or_false] at hK2; simp only [setOb, newOb]; grind), okS_frame q2 (by intro K2 hK2; simp only [List.mem_cons, List.not_mem_nil, or_false] at hK2; simp only [setOb, newOb]; grind), ?_, okS_frame q4 (by intro K2 hK2; simp only [List.mem_cons, List.not_mem_nil, or_false] at hK2; simp only [setOb, newOb]; grind)⟩
      · simp only [setOb, newOb, Nat.reduceEqDiff, ↓reduceIte, ho1]; rfl
      · simp only [setOb, newOb, Nat.reduceEqDiff, ↓reduceIte, ho11]
      · exact okS_snoc (l := []) (by simp) (by simp only [setOb, newOb, Nat.reduceEqDiff, ↓reduceIte]; rfl) rfl rfl (by simp only [List.length_nil]; omega)
    · have hK11 : (11 = K) = False := by simp; rintro rfl; simp at hK
      have hK11' : (K = 11) = False := by simp; rintro rfl; simp at hK
      have hK1 : (1 = K) = False := by simp; rintro rfl; simp at hK
      simp (maxSteps := 1000000) only [run_region, opsK_nil, opsK_op, seqK_normal, blkK_normal, loopK_normal, upd_apply, after_some, after_none, ev_tmp, ev_int, St.sv, St.sc, strip, stripC, pK_none, pmap_some, op_move, op_assign, on_bin, op_ia, bin_add, eK_some, emap_some, op_store, Option.map_some, true_and, ↓reduceIte, Nat.reduceEqDiff, Nat.reduceAdd, Nat.reduceLT, Nat.reduceLeDiff, Nat.zero_add, List.append_nil, List.nil_append, and_self, Env.tk, indexAddrV, storeE, St.obj, plainTI, cellsP, newOb, List.getD_cons_zero, List.getD_cons_succ, List.length_cons, List.length_nil, List.length_map, pN_int, List.take_zero, List.drop_succ_cons, List.drop_nil, plainTI, Int.reduceToNat, ty_r, E34_r, hi, ho11, hoK, hK11, appE, appR, rowsV, rowNew, List.set_cons_zero, List.set_cons_succ]
      refine ⟨by decide, by omega, by omega, by decide, ?_⟩
      refine ghost_id ⟨(b.Gauges.length - (i + 1)).toNat, by omega, i + 1, p0, p1, p2, .row K ((o K).1 + 1) (l.length + 1), p4, by omega, by omega, rfl, by simp only [upd_apply, ↓reduceIte]; rw [wrap64 (by omega) (by omega)], h1, h3, ?_, ?_, okS_frame q0 (by intro K2 hK2; simp only [List.mem_cons, List.not_mem_nil, or_false] at hK2 hK; simp only [setOb, newOb]; grind), okS_frame q1 (by intro K2 hK2; simp only [List.mem_cons, List.not_mem_nil, or_false] at hK2 hK; simp only [setOb, newOb]; grind), okS_frame q2 (by intro K2 hK2; simp only [List.mem_cons, List.not_mem_nil, or_false] at hK2 hK; simp only [setOb, newOb]; grind), ?_, okS_frame q4 (by intro K2 hK2; simp only [List.mem_cons, List.not_mem_nil, or_false] at hK2 hK; simp only [setOb, newOb]; grind)⟩
      · simp only [setOb, newOb, Nat.reduceEqDiff, ↓reduceIte, ho1, hK1]; rfl
      · simp only [setOb, newOb, ↓reduceIte, ho11, hK11, hoK]
      · refine okS_snoc (l := l) hK (by simp only [setOb, newOb, ↓reduceIte, hK11', hoK]; rfl) (by simp only [List.map_append, List.map_cons, List.map_nil]; rfl) rfl (by omega)
  refine pwp_loop (fun n S => ∃ (i : Int) (p0 p1 p2 p3 p4 : PV), 0 ≤ i ∧ i ≤ (b.Roads.length : Int) ∧ n = ((b.Roads.length : Int) - i).toNat ∧ S.t 9 = .d (.int .i64 i) ∧ S.t 1 = .ref 1 1 0 0 0 ∧ S.t 3 = .row 11 1 5 ∧ S.o 1 = (1, some (.box 31 (b.row.map PV.d))) ∧ S.o 11 = (1, some (.vec 1 22 [[p0], [p1], [p2], [p3], [p4]])) ∧ okS S.o p0 200 [30] ∧ okS S.o p1 200 [50] ∧ okS S.o p2 200 [70, 90] ∧ okS S.o p3 200 [110] ∧ okS S.o p4 i.toNat [130])
    ((b.Roads.length : Int) - 0).toNat ⟨0, p0, p1, p2, p3, p4, by omega, by omega, rfl, rfl, h1, h3, ho1, ho11, okS_mono q0 (by omega), okS_mono q1 (by omega), okS_mono q2 (by omega), okS_mono q3 (by omega), okS_mono q4 (by omega)⟩ ?_
  rintro n ⟨t, o⟩ ⟨i, p0, p1, p2, p3, p4, hi0, hil, hn, hi, h1, h3, ho1, ho11, q0, q1, q2, q3, q4⟩
  simp only at hi h1 h3 ho1 ho11 q0 q1 q2 q3 q4
  simp (maxSteps := 1000000) only [List.map_cons, List.map_nil, run_skip, run_region, run_seq, run_cond, run_block, run_exit, run_loop, opsK_nil, opsK_op, seqK_normal, seqK_exit, blkK_exit, loopK_exit, condK_bool, upd_apply, after_some, ev_tmp, ev_int, St.sv, St.sc, strip, stripC, argsC, pK_none, pmap_some, op_move, op_assign, on_bin, op_load, op_fa, op_ia, op_len, bin_lss, op_app, op_lit, lK_false, Option.map_some, true_and, and_true, ↓reduceIte, Nat.reduceEqDiff, Nat.reduceAdd, Nat.reduceMul, Nat.reduceLT, Nat.reduceLeDiff, Nat.zero_add, Nat.add_zero, List.getElem?_cons_succ, List.getElem?_cons_zero, and_self, Env.tk, loadV, fieldAddrV, indexAddrV, lenV, loadD, loadP, St.obj, TI.isAgg, plainTI, List.getD_cons_zero, List.getD_cons_succ, List.length_cons, List.length_nil, List.length_map, pN_bool, lbK_true, lnK_none, lenF, Nat.mul_zero, Bool.false_eq_true, maxLen_eq, plainTI, Int.reduceToNat, ty_r, E34_r, Road.getD, Road.row, Basin.row, hi, h1, h3, ho1, ho11, litV, lit1s]
  refine fun _ b0 hb0 => ⟨fun hbt => ?_, fun hbf => ?_⟩ <;> (try simp only [Named] at *)
  · have hlt : i < (b.Roads.length : Int) := by grind
    clear hb0 hbt
    rcases q4 with rfl | ⟨K, v, l, hK, rfl, hoK, hl⟩
    · simp (maxSteps := 1000000) only [run_region, opsK_nil, opsK_op, seqK_normal, blkK_normal, loopK_normal, upd_apply, after_some, after_none, ev_tmp, ev_int, St.sv, St.sc, strip, stripC, pK_none, pmap_some, op_move, op_assign, on_bin, op_ia, bin_add, eK_some, emap_some, op_store, Option.map_some, true_and, ↓reduceIte, Nat.reduceEqDiff, Nat.reduceAdd, Nat.reduceMul, Nat.reduceLT, Nat.reduceLeDiff, Nat.zero_add, List.append_nil, List.nil_append, and_self, Env.tk, indexAddrV, storeE, St.obj, plainTI, cellsP, newOb, List.getD_cons_zero, List.getD_cons_succ, List.length_cons, List.length_nil, pN_int, List.take_zero, List.drop_succ_cons, List.drop_nil, plainTI, Int.reduceToNat, ty_r, E34_r, hi, ho11, appE, appR, rowsV, rowNew, List.set_cons_zero, List.set_cons_succ]
      refine ⟨by decide, by omega, by decide, ?_⟩
      refine ghost_id ⟨(b.Roads.length - (i + 1)).toNat, by omega, i + 1, p0, p1, p2, p3, .row 130 ((o 130).1 + 1) 1, by omega, by omega, rfl, by simp only [upd_apply, ↓reduceIte]; rw [wrap64 (by omega) (by omega)], h1, h3, ?_, ?_, okS_frame q0 (by intro K2 hK2; simp only [List.mem_cons, List.not_mem_nil, or_false] at hK2; simp only [setOb, newOb]; grind), okS_frame q1 (by intro K2 hK2; simp only [List.mem_cons, List.not_mem_nil, or_false] at hK2; simp only [setOb, newOb]; grind), okS_frame q2 (by intro K2 hK2; simp only [List.mem_cons, List.not_mem_nil, or_false] at hK2; simp only [setOb, newOb]; grind), okS_frame q3 (by intro K2 hK2; simp only [List.mem_cons, List.not_mem_nil, or_false] at hK2; simp only [setOb, newOb]; grind), ?_⟩
      · simp only [setOb, newOb, Nat.reduceEqDiff, ↓reduceIte, ho1]; rfl
      · simp only [setOb, newOb, Nat.reduceEqDiff, ↓reduceIte, ho11]
      · exact okS_snoc (l := []) (by simp) (by simp only [setOb, newOb, Nat.reduceEqDiff, ↓reduceIte]; rfl) rfl rfl (by simp only [List.length_nil]; omega)
    · have hK11 : (11 = K) = False := by simp; rintro rfl; simp at hK
      have hK11' : (K = 11) = False := by simp; rintro rfl; simp at hK
      have hK1 : (1 = K) = False := by simp; rintro rfl; simp at hK
      simp (maxSteps := 1000000) only [run_region, opsK_nil, opsK_op, seqK_normal, blkK_normal, loopK_normal, upd_apply, after_some, after_none, ev_tmp, ev_int, St.sv, St.sc, strip, stripC, pK_none, pmap_some, op_move, op_assign, on_bin, op_ia, bin_add, eK_some, emap_some, op_store, Option.map_some, true_and, ↓reduceIte, Nat.reduceEqDiff, Nat.reduceAdd, Nat.reduceLT, Nat.reduceLeDiff, Nat.zero_add, List.append_nil, List.nil_append, and_self, Env.tk, indexAddrV, storeE, St.obj, plainTI, cellsP, newOb, List.getD_cons_zero, List.getD_cons_succ, List.length_cons, List.length_nil, List.length_map, pN_int, List.take_zero, List.drop_succ_cons, List.drop_nil, plainTI, Int.reduceToNat, ty_r, E34_r, hi, ho11, hoK, hK11, appE, appR, rowsV, rowNew, List.set_cons_zero, List.set_cons_succ]
      refine ⟨by decide, by omega, by omega, by decide, ?_⟩
      refine ghost_id ⟨(b.Roads.length - (i + 1)).toNat, by omega, i + 1, p0, p1, p2, p3, .row K ((o K).1 + 1) (l.length + 1), by omega, by omega, rfl, by simp only [upd_apply, ↓reduceIte]; rw [wrap64 (by omega) (by omega)], h1, h3, ?_, ?_, okS_frame q0 (by intro K2 hK2; simp only [List.mem_cons, List.not_mem_nil, or_false] at hK2 hK; simp only [setOb, newOb]; grind), okS_frame q1 (by intro K2 hK2; simp only [List.mem_cons, List.not_mem_nil, or_false] at hK2 hK; simp only [setOb, newOb]; grind), okS_frame q2 (by intro K2 hK2; simp only [List.mem_cons, List.not_mem_nil, or_false] at hK2 hK; simp only [setOb, newOb]; grind), okS_frame q3 (by intro K2 hK2; simp only [List.mem_cons, List.not_mem_nil, or_false] at hK2 hK; simp only [setOb, newOb]; grind), ?_⟩
      · simp only [setOb, newOb, Nat.reduceEqDiff, ↓reduceIte, ho1, hK1]; rfl
      · simp only [setOb, newOb, ↓reduceIte, ho11, hK11, hoK]
      · refine okS_snoc (l := l) hK (by simp only [setOb, newOb, ↓reduceIte, hK11', hoK]; rfl) (by simp only [List.map_append, List.map_cons, List.map_nil]; rfl) rfl (by omega)
  refine pwp_loop (fun n S => ∃ (i : Int) (cs : List PV), 0 ≤ i ∧ i ≤ 5 ∧ n = ((5 : Int) - i).toNat ∧ S.t 10 = .d (.int .i64 i) ∧ S.t 1 = .ref 1 1 0 0 0 ∧ S.t 3 = .row 11 1 5 ∧ S.o 1 = (1, some (.box 31 (b.row.map PV.d))) ∧ S.o 11 = (1, some (.vec 1 22 (cs.map fun p => [p]))) ∧ cs.length = 5 ∧ ∀ p ∈ cs, ∃ Ks, okS S.o p 300 Ks)
    ((5 : Int) - 0).toNat ⟨0, [p0, p1, p2, p3, p4], by omega, by omega, rfl, rfl, h1, h3, ho1, ho11, rfl, by
      intro p hp
      simp only [List.mem_cons, List.not_mem_nil, or_false] at hp
      rcases hp with rfl | rfl | rfl | rfl | rfl
      · exact ⟨_, okS_mono q0 (by omega)⟩
      · exact ⟨_, okS_mono q1 (by omega)⟩
      · exact ⟨_, okS_mono q2 (by omega)⟩
      · exact ⟨_, okS_mono q3 (by omega)⟩
      · exact ⟨_, okS_mono q4 (by omega)⟩⟩ ?_
  clear q0 q1 q2 q3 q4 hi h1 h3 ho1 ho11
  rintro n ⟨t, o⟩ ⟨i, cs, hi0, hil, hn, hi, h1, h3, ho1, ho11, hcs, hq⟩
  simp only at hi h1 h3 ho1 ho11 hq
  simp (maxSteps := 1000000) only [List.map_cons, List.map_nil, run_skip, run_region, run_seq, run_cond, run_block, run_exit, run_ret, opsK_nil, opsK_op, seqK_normal, seqK_exit, blkK_exit, loopK_exit, endP_ret, condK_bool, upd_apply, after_some, ev_tmp, St.sv, St.sc, strip, stripC, argsC, pK_none, pmap_some, op_move, op_assign, on_bin, op_load, op_fa, op_ia, op_len, bin_lss, op_call, iK_some, iK2_none, cK_some, cK2_some, conK_flat, icallInfo_func, callInfo_func, ciK_some, snapVs_nil, snapVs_cons, outK, outL, outM, resPs, resP, rvsOf, rvOf, snapV, snapC, sepB, ownKs, dataKs, keysV, keysC, nodupB, packP, RV.flatP, Option.bind_some, Option.map_some, true_implies, true_and, and_true, ↓reduceIte, Nat.reduceEqDiff, Nat.reduceAdd, Nat.reduceLT, Nat.reduceLeDiff, Nat.zero_add, List.all_nil, List.append_nil, List.flatMap_cons, List.flatMap_nil, Bool.and_self, List.getElem?_cons_succ, List.getElem?_cons_zero, of_pre, of_post, of_flat, cod1_dec, dLst_lst, some_ex, some_ex1, and_self, Env.tk, loadV, fieldAddrV, indexAddrV, lenV, loadP, St.obj, TI.isAgg, List.getD_cons_zero, List.getD_cons_succ, List.length_cons, List.length_nil, List.length_map, all_bool, pN_bool, lbK_true, lnK_none, lenF, Nat.mul_zero, Bool.false_eq_true, maxLen_eq, ty_r, E34_r, Basin.row, sdrows, hi, h1, h3, ho1, ho11]
  refine fun b0 hb0 => ⟨fun hbt => ?_, fun hbf => ?_⟩ <;> (try simp only [Named] at *)
  · have hlt : i < 5 := by grind
    have hp : ∃ Ks, okS o (cs.getD i.toNat .un) 300 Ks := hq _ (by rw [List.getD_eq_getElem?_getD, List.getElem?_eq_getElem (by omega)]; simp)
    have hv := vget cs i.toNat (by omega)
    generalize cs.getD i.toNat .un = p at hp hv
    obtain ⟨Ks, rfl | ⟨K, v, l, hK, rfl, hoK, hl⟩⟩ := hp
    · simp (maxSteps := 1000000) only [List.map_cons, List.map_nil, run_skip, run_region, run_seq, run_cond, run_ret, opsK_nil, opsK_op, seqK_normal, seqK_ret, blkK_normal, blkK_ret, loopK_normal, loopK_ret, endP_ret, condK_bool, upd_apply, after_some, ev_tmp, ev_int, ev_bool, St.sv, St.sc, strip, stripC, pK_none, pmap_some, op_move, op_assign, on_bin, op_un, bin_add, unV, cK_some, cK2_some, conK_flat, ciK_some, outK, outL, outM, resPs, resP, rvsOf, rvOf, snapV, snapC, sepB, ownKs, dataKs, keysV, keysC, nodupB, packP, RV.flatP, Option.bind_some, Option.map_some, true_and, and_true, ↓reduceIte, Nat.reduceEqDiff, Nat.reduceLT, Nat.zero_add, List.all_nil, List.append_nil, Bool.and_self, Bool.not_eq_true', List.contains_nil, Bool.not_false, of_pre, of_post, of_flat, cod1_dec, dLst_lst, dRows_nil, some_ex, some_ex1, and_self, List.getD_cons_zero, List.length_cons, List.length_nil, all_bool, pN_int, E34_r, hi, hv]
      refine ⟨by omega, by omega, fun b1 => ⟨fun _ => ⟨_, rfl⟩, fun _ => ?_⟩⟩
      refine ghost_id ⟨((5 : Int) - (i + 1)).toNat, by omega, i + 1, cs, by omega, by omega, rfl, ?_, h1, h3, ho1, ho11, hcs, hq⟩
      simp only [upd_apply, ↓reduceIte]; rw [wrap64 (by omega) (by omega)]
    · simp (maxSteps := 1000000) only [List.map_cons, List.map_nil, run_skip, run_region, run_seq, run_cond, run_ret, opsK_nil, opsK_op, seqK_normal, seqK_ret, blkK_normal, blkK_ret, loopK_normal, loopK_ret, endP_ret, condK_bool, upd_apply, after_some, ev_tmp, ev_int, ev_bool, St.sv, St.sc, strip, stripC, pK_none, pmap_some, op_move, op_assign, on_bin, op_un, bin_add, unV, cK_some, cK2_some, conK_flat, ciK_some, outK, outL, outM, resPs, resP, rvsOf, rvOf, snapV, snapC, sepB, ownKs, dataKs, keysV, keysC, nodupB, packP, RV.flatP, Option.bind_some, Option.map_some, true_and, and_true, ↓reduceIte, Nat.reduceEqDiff, Nat.reduceLT, Nat.zero_add, List.all_nil, List.append_nil, Bool.and_self, Bool.not_eq_true', List.contains_nil, Bool.not_false, of_pre, of_post, of_flat, cod1_dec, dLst_lst, some_ex, some_ex1, and_self, List.getD_cons_zero, List.length_cons, List.length_nil, all_bool, pN_int, E34_r, sdrows, hi, hv, hoK]
      refine ⟨by omega, by omega, fun b1 => ⟨fun _ => ⟨_, rfl⟩, fun _ => ?_⟩⟩
      refine ghost_id ⟨((5 : Int) - (i + 1)).toNat, by omega, i + 1, cs, by omega, by omega, rfl, ?_, h1, h3, ho1, ho11, hcs, hq⟩
      simp only [upd_apply, ↓reduceIte]; rw [wrap64 (by omega) (by omega)]
  · exact fun b => ⟨b, rfl⟩
abbrev con20 : Con := .of cBas (fun _ => True) (fun _ rs => ∃ b : Bool, rs = [.d (.bool b)]) true
noncomputable def E20 : Env := ((((((((((E0.add 32 con32).add 33 con33).add 34 con34).add 35 con35).add 36 con36).add 37 con37).add 38 con38).add 39 con39).add 40 con40).add 41 con41).at 113 (fun d => false) (fun d => d) (fun d => true)
theorem E20_ok : EnvOk E20 := ((((((((((E0_ok.add Try.func32 rfl rfl ok32).add Try.func33 rfl rfl ok33).add Try.func34 rfl rfl ok34).add Try.func35 rfl rfl ok35).add Try.func36 rfl rfl ok36).add Try.func37 rfl rfl ok37).add Try.func38 rfl rfl ok38).add Try.func39 rfl rfl ok39).add Try.func40 rfl rfl ok40).add Try.func41 rfl rfl ok41).at _ _ _ _
theorem E20_r : E20.ty = E0.ty ∧ (E20.con 32 = some con32 ∧ E20.icon 32 = none) ∧ (E20.con 33 = some con33 ∧ E20.icon 33 = none) ∧ (E20.con 34 = some con34 ∧ E20.icon 34 = none) ∧ (E20.con 35 = some con35 ∧ E20.icon 35 = none) ∧ (E20.con 36 = some con36 ∧ E20.icon 36 = none) ∧ (E20.con 37 = some con37 ∧ E20.icon 37 = none) ∧ (E20.con 38 = some con38 ∧ E20.icon 38 = none) ∧ (E20.con 39 = some con39 ∧ E20.icon 39 = none) ∧ (E20.con 40 = some con40 ∧ E20.icon 40 = none) ∧ (E20.con 41 = some con41 ∧ E20.icon 41 = none) ∧ E20.fact 55 = true ∧ E20.fact 70 = true ∧ E20.fact 88 = true ∧ E20.fact 99 = true ∧ (∀ d, E20.key d = d) := ⟨rfl, ⟨rfl, rfl⟩, ⟨rfl, rfl⟩, ⟨rfl, rfl⟩, ⟨rfl, rfl⟩, ⟨rfl, rfl⟩, ⟨rfl, rfl⟩, ⟨rfl, rfl⟩, ⟨rfl, rfl⟩, ⟨rfl, rfl⟩, ⟨rfl, rfl⟩, rfl, rfl, rfl, rfl, fun _ => rfl⟩

set_option maxRecDepth 20000 in
theorem ok20 : ConOk Try.prog 20 con20 := by
  refine con_of (E := E20) E20_ok (fn := Try.f20) Try.func20 rfl (by decide) (by kernel_rfl) (rs := [.tmp 2]) rfl (by decide) (by decide) [.data 4]  boolSome anyFlat ?_
  intro b _
  simp (maxSteps := 1000000) only [startP_eq, startL, List.map_cons, List.map_nil, run_skip, run_region, run_seq, run_cond, run_block, run_ret, run_loop, opsK_nil, opsK_op, seqK_normal, seqK_ret, endP_ret, condK_bool, upd_apply, after_some, ev_tmp, ev_int, ev_bool, St.sv, St.sc, strip, stripC, argsC, pK_none, pK_some, gpK_some, pmap_some, gK, gB_bool, op_move, op_assign, on_pick, op_un, op_load, op_gun, op_gload, op_gfa, op_gia, pick_b, unV, eK_some, emap_some, op_box, op_call, op_gcall, cgK_some, iK_some, iK2_none, cK_some, cK2_some, conK_flat, conK_gflat, icallInfo_func, callInfo_func, ciK_some, snapVs_nil, snapVs_cons, outK, outL, outM, resPs, resP, rvsOf, rvOf, snapV, snapC, sepB, ownKs, dataKs, keysV, keysC, nodupB, packP, RV.flatP, Option.bind_some, Option.map_some, true_implies, true_and, and_true, implies_true, ↓reduceIte, Nat.reduceEqDiff, Nat.reduceAdd, Nat.reduceLT, Nat.reduceLeDiff, Nat.zero_add, Nat.add_zero, List.all_nil, List.append_nil, List.flatMap_cons, List.flatMap_nil, Bool.and_self, List.getElem?_toArray, List.getElem?_cons_succ, List.getElem?_cons_zero, beq_false, Bool.not_eq_true', List.contains_nil, Bool.not_false, of_pre, of_post, of_flat, cod1_enc, cod1_dec, codC_dec, dInt_int, dStr_str, dAgg_agg, some_ex, some_ex1, imp_self, and_self, Env.tk, loadV, fieldAddrV, indexAddrV, loadD, loadP, boxE, St.obj, TI.isAgg, cellsP, refNew, newOb, List.getD_cons_zero, List.getD_cons_succ, List.length_cons, List.length_nil, List.length_map, ex_bool, all_bool, ex_eq, or_true, imp_eq, pN_bool, List.take_succ_cons, List.drop_zero, List.take_nil, Nat.mul_zero, all_exc, pagg, allD, Bool.false_eq_true, Int.reduceToNat, Int.toNat_zero, Int.toNat_one, ty_r, E20_r, Basin.row, Basin.d, Basin.of2, irow, igetD]
  repeat' (first | with_reducible apply And.intro | intro _)
  all_goals (try simp only [Named] at *)
  all_goals (try (first | exact ⟨_, rfl⟩ | (subst_vars; grind)))
  have hc : b.Cells ≤ 64 := by subst_vars; grind
  refine pwp_loop (fun n S => ∃ i : Int, 0 ≤ i ∧ i ≤ (b.Places.length : Int) ∧ n = ((b.Places.length : Int) - i).toNat ∧ S.t 4 = .d (.int .i64 i) ∧ S.t 1 = .ref 1 1 0 0 0 ∧ (∃ v : Int, S.t 3 = .d (.int .i64 v)) ∧ S.o 1 = (1, some (.box 31 (b.row.map PV.d)))) ((b.Places.length : Int) - 0).toNat ⟨0, by omega, by omega, by omega, rfl, (by first | rfl | exact h1 | exact hi), (by first | exact ⟨_, rfl⟩ | exact ⟨_, h3⟩), (by first | rfl | exact ho1 | exact hi)⟩ ?_
  rintro n ⟨t, o⟩ ⟨i, hi0, hil, hn, hi, h1, ⟨v3, h3⟩, ho1⟩
  simp only at hi h1 h3 ho1
  simp (maxSteps := 1000000) only [List.map_cons, List.map_nil, run_skip, run_region, run_seq, run_cond, run_block, run_exit, run_ret, run_loop, opsK_nil, opsK_op, seqK_normal, seqK_exit, seqK_ret, blkK_exit, blkK_ret, loopK_exit, loopK_ret, endP_ret, condK_bool, upd_apply, after_some, ev_tmp, ev_int, ev_bool, St.sv, St.sc, strip, stripC, argsC, pK_none, pmap_some, op_move, op_assign, on_bin, op_un, op_load, op_fa, op_len, bin_lss, unV, op_call, iK_some, iK2_none, cK_some, cK2_some, conK_flat, icallInfo_func, callInfo_func, ciK_some, snapVs_nil, snapVs_cons, outK, outL, outM, resPs, resP, rvsOf, rvOf, snapV, snapC, sepB, ownKs, dataKs, keysV, keysC, nodupB, packP, RV.flatP, Option.bind_some, Option.map_some, true_and, and_true, ↓reduceIte, Nat.reduceEqDiff, Nat.reduceAdd, Nat.reduceLT, Nat.reduceLeDiff, Nat.zero_add, Nat.add_zero, List.all_nil, List.append_nil, List.flatMap_cons, List.flatMap_nil, Bool.and_self, List.getElem?_cons_succ, List.getElem?_cons_zero, Bool.not_eq_true', List.contains_nil, Bool.not_false, of_pre, of_post, of_flat, cod1_dec, codC_dec, dInt_int, dAgg_agg, some_ex, and_self, Env.tk, loadV, fieldAddrV, lenV, loadP, St.obj, TI.isAgg, List.getD_cons_zero, List.getD_cons_succ, List.length_cons, List.length_nil, List.length_map, all_bool, pN_bool, lbK_true, lnK_none, lenF, List.take_succ_cons, List.drop_zero, List.take_nil, Nat.mul_zero, pagg, allD, Bool.false_eq_true, maxLen_eq, ty_r, E20_r, Basin.row, Basin.of2, hi, h1, ho1]
  (try rw [maxLen_eq])
  repeat' (first | with_reducible apply And.intro | intro _)
  all_goals (try simp only [Named] at *)
  all_goals (try (subst_vars; grind [wrap64]))
  all_goals (try (first | exact ⟨_, rfl⟩))
  have hlt : i < b.Places.length := by subst_vars; grind
  refine pwp_loop (fun nq S => ∃ iq : Int, 0 ≤ iq ∧ iq ≤ ((b.Places.getD i.toNat .zero).Start.length : Int) ∧ nq = (((b.Places.getD i.toNat .zero).Start.length : Int) - iq).toNat ∧ S.t 5 = .d (.int .i64 iq) ∧ S.t 1 = .ref 1 1 0 0 0 ∧ (∃ v : Int, S.t 3 = .d (.int .i64 v)) ∧ S.o 1 = (1, some (.box 31 (b.row.map PV.d))) ∧ S.t 4 = .d (.int .i64 i)) (((b.Places.getD i.toNat .zero).Start.length : Int) - 0).toNat ⟨0, by omega, by omega, by omega, rfl, (by first | rfl | exact h1 | exact hi), (by first | exact ⟨_, rfl⟩ | exact ⟨_, h3⟩), (by first | rfl | exact ho1 | exact hi), (by first | rfl | exact h4 | exact hi)⟩ ?_
  rintro nq ⟨tq, oq⟩ ⟨iq, hqz, hql, hnq, hqi, hq1, ⟨vq3, hq3⟩, hqo1, hq4⟩
  simp only at hqi hq1 hq3 hqo1 hq4
  simp (maxSteps := 1000000) only [List.map_cons, List.map_nil, run_skip, run_region, run_seq, run_cond, run_block, run_exit, opsK_nil, opsK_op, seqK_normal, seqK_exit, blkK_normal, blkK_exit, loopK_normal, loopK_exit, condK_bool, upd_apply, after_some, ev_tmp, ev_int, St.sv, St.sc, strip, stripC, argsC, pK_none, pmap_some, op_move, op_assign, on_bin, op_load, op_fa, op_ia, op_len, bin_add, bin_lss, op_call, iK_some, iK2_none, cK_some, cK2_some, conK_flat, icallInfo_func, callInfo_func, ciK_some, snapVs_nil, snapVs_cons, snapV, snapC, keysV, keysC, packP, RV.flatP, Option.bind_some, Option.map_some, true_and, and_true, ↓reduceIte, Nat.reduceEqDiff, Nat.reduceAdd, Nat.reduceLT, Nat.zero_add, List.append_nil, List.flatMap_cons, List.flatMap_nil, List.getElem?_cons_succ, List.getElem?_cons_zero, of_pre, of_post, of_flat, cod1_dec, codC_dec, dInt_int, some_ex, some_ex1, and_self, Env.tk, loadV, fieldAddrV, indexAddrV, lenV, loadD, loadP, St.obj, TI.isAgg, List.getD_cons_zero, List.getD_cons_succ, List.length_cons, List.length_nil, List.length_map, pN_bool, pN_int, lbK_true, lnK_none, lenF, Nat.mul_zero, all_ex, Bool.false_eq_true, maxLen_eq, ty_r, E20_r, Place.getD, Place.row, Basin.row, irow, igetD, hqi, hq1, hq3, hqo1, hq4]
  (try rw [maxLen_eq])
  repeat' (first | with_reducible apply And.intro | intro _)
  all_goals (try simp only [Named] at *)
  all_goals (try (subst_vars; grind [wrap64]))
  all_goals (try (first | exact ⟨_, rfl⟩))
  · (refine ghost_id ⟨(((b.Places.getD i.toNat .zero).Start.length : Int) - (iq + 1)).toNat, ?_, iq + 1, ?_, ?_, rfl, ?_, ?_, (by first | exact ⟨_, rfl⟩ | exact ⟨_, h3⟩), ?_, ?_⟩ <;> (try simp only [upd_apply, Nat.reduceEqDiff, ↓reduceIte, hq1, hqo1, hq4]) <;> (first | with_reducible rfl | (subst_vars; grind [wrap64]) | rfl))
  · (refine ghost_id ⟨((b.Places.length : Int) - (i + 1)).toNat, by omega, i + 1, by omega, by omega, rfl, ?_, ?_, ⟨_, hq3⟩, ?_⟩ <;> (try simp only [upd_apply, Nat.reduceEqDiff, ↓reduceIte, hq1, hqo1]) <;> (first | with_reducible rfl | (subst_vars; grind [wrap64]) | rfl))
  refine pwp_loop (fun n S => ∃ i : Int, 0 ≤ i ∧ i ≤ (b.Links.length : Int) ∧ n = ((b.Links.length : Int) - i).toNat ∧ S.t 6 = .d (.int .i64 i) ∧ S.t 1 = .ref 1 1 0 0 0 ∧ (∃ v : Int, S.t 3 = .d (.int .i64 v)) ∧ S.o 1 = (1, some (.box 31 (b.row.map PV.d)))) ((b.Links.length : Int) - 0).toNat ⟨0, by omega, by omega, by omega, rfl, (by first | rfl | exact h1 | exact hi), (by first | exact ⟨_, rfl⟩ | exact ⟨_, h3⟩), (by first | rfl | exact ho1 | exact hi)⟩ ?_
  rintro n ⟨t, o⟩ ⟨i, hi0, hil, hn, hi, h1, ⟨v3, h3⟩, ho1⟩
  simp only at hi h1 h3 ho1
  simp (maxSteps := 1000000) only [List.map_cons, List.map_nil, run_skip, run_region, run_seq, run_cond, run_block, run_exit, run_ret, run_loop, opsK_nil, opsK_op, seqK_normal, seqK_exit, seqK_ret, blkK_normal, blkK_exit, blkK_ret, loopK_normal, loopK_exit, loopK_ret, endP_ret, condK_bool, upd_apply, after_some, ev_tmp, ev_int, ev_bool, St.sv, St.sc, strip, stripC, argsC, pK_none, pmap_some, op_move, op_assign, on_bin, op_un, op_load, op_fa, op_len, bin_add, bin_lss, unV, op_call, iK_some, iK2_none, cK_some, cK2_some, conK_flat, icallInfo_func, callInfo_func, ciK_some, snapVs_nil, snapVs_cons, outK, outL, outM, resPs, resP, rvsOf, rvOf, snapV, snapC, sepB, ownKs, dataKs, keysV, keysC, nodupB, packP, RV.flatP, Option.bind_some, Option.map_some, true_and, and_true, ↓reduceIte, Nat.reduceEqDiff, Nat.reduceAdd, Nat.reduceLT, Nat.reduceLeDiff, Nat.zero_add, Nat.add_zero, List.all_nil, List.append_nil, List.flatMap_cons, List.flatMap_nil, Bool.and_self, List.getElem?_cons_succ, List.getElem?_cons_zero, Bool.not_eq_true', List.contains_nil, Bool.not_false, of_pre, of_post, of_flat, cod1_dec, codC_dec, dInt_int, dAgg_agg, some_ex, and_self, Env.tk, loadV, fieldAddrV, lenV, loadP, St.obj, TI.isAgg, List.getD_cons_zero, List.getD_cons_succ, List.length_cons, List.length_nil, List.length_map, all_bool, pN_bool, pN_int, lbK_true, lnK_none, lenF, List.take_succ_cons, List.drop_zero, List.take_nil, Nat.mul_zero, pagg, allD, Bool.false_eq_true, maxLen_eq, ty_r, E20_r, Basin.row, Basin.of2, hi, h1, ho1]
  (try rw [maxLen_eq])
  repeat' (first | with_reducible apply And.intro | intro _)
  all_goals (try simp only [Named] at *)
  all_goals (try (subst_vars; grind [wrap64]))
  all_goals (try (first | exact ⟨_, rfl⟩))
  · (refine ghost_id ⟨((b.Links.length : Int) - (i + 1)).toNat, ?_, i + 1, ?_, ?_, rfl, ?_, ?_, (by first | exact ⟨_, rfl⟩ | exact ⟨_, h3⟩), ?_⟩ <;> (try simp only [upd_apply, Nat.reduceEqDiff, ↓reduceIte, h1, ho1]) <;> (first | with_reducible rfl | (subst_vars; grind [wrap64]) | rfl))
  refine pwp_loop (fun n S => ∃ i : Int, 0 ≤ i ∧ i ≤ (b.Places.length : Int) ∧ n = ((b.Places.length : Int) - i).toNat ∧ S.t 7 = .d (.int .i64 i) ∧ S.t 1 = .ref 1 1 0 0 0 ∧ (∃ v : Int, S.t 3 = .d (.int .i64 v)) ∧ S.o 1 = (1, some (.box 31 (b.row.map PV.d)))) ((b.Places.length : Int) - 0).toNat ⟨0, by omega, by omega, by omega, rfl, (by first | rfl | exact h1 | exact hi), (by first | exact ⟨_, rfl⟩ | exact ⟨_, h3⟩), (by first | rfl | exact ho1 | exact hi)⟩ ?_
  rintro n ⟨t, o⟩ ⟨i, hi0, hil, hn, hi, h1, ⟨v3, h3⟩, ho1⟩
  simp only at hi h1 h3 ho1
  simp (maxSteps := 1000000) only [List.map_cons, List.map_nil, run_skip, run_region, run_seq, run_cond, run_block, run_exit, run_ret, opsK_nil, opsK_op, seqK_normal, seqK_exit, seqK_ret, blkK_normal, blkK_exit, blkK_ret, loopK_normal, loopK_exit, loopK_ret, endP_ret, condK_bool, upd_apply, after_some, ev_tmp, ev_int, ev_bool, St.sv, St.sc, strip, stripC, argsC, pK_none, pK_some, gpK_some, pmap_some, gK, gB_bool, op_move, op_assign, on_pick, on_bin, op_load, op_fa, op_gload, op_len, bin_add, bin_lss, bin_leq, bin_gtr, pick_b, op_call, op_gcall, cgK_some, iK_some, iK2_none, cK_some, cK2_some, conK_flat, conK_gflat, icallInfo_func, callInfo_func, ciK_some, snapVs_nil, snapVs_cons, outK, outL, outM, resPs, resP, rvsOf, rvOf, snapV, snapC, sepB, ownKs, dataKs, keysV, keysC, nodupB, packP, RV.flatP, Option.bind_some, Option.map_some, true_implies, true_and, and_true, implies_true, ↓reduceIte, Nat.reduceEqDiff, Nat.reduceAdd, Nat.reduceLT, Nat.reduceLeDiff, Nat.zero_add, Nat.add_zero, List.all_nil, List.append_nil, List.flatMap_cons, List.flatMap_nil, Bool.and_self, List.getElem?_toArray, List.getElem?_cons_succ, List.getElem?_cons_zero, beq_true, List.contains_nil, Bool.not_false, of_pre, of_post, of_flat, cod1_dec, codC_dec, dInt_int, dAgg_agg, some_ex, some_ex1, imp_self, and_self, Env.tk, loadV, fieldAddrV, lenV, loadP, St.obj, TI.isAgg, List.getD_cons_zero, List.getD_cons_succ, List.length_cons, List.length_nil, List.length_map, ex_bool, all_bool, or_true, pN_bool, pN_int, lbK_true, lnK_none, lenF, List.take_succ_cons, List.drop_zero, List.take_nil, Nat.mul_zero, all_ex, pagg, allD, Bool.false_eq_true, maxLen_eq, ty_r, E20_r, Basin.row, Basin.of2, hi, h1, h3, ho1]
  (try rw [maxLen_eq])
  repeat' (first | with_reducible apply And.intro | intro _)
  all_goals (try simp only [Named] at *)
  all_goals (try (subst_vars; grind [wrap64]))
  all_goals (try (first | exact ⟨_, rfl⟩))
  · (refine ghost_id ⟨((b.Places.length : Int) - (i + 1)).toNat, ?_, i + 1, ?_, ?_, rfl, ?_, ?_, (by first | exact ⟨_, rfl⟩ | exact ⟨_, h3⟩), ?_⟩ <;> (try simp only [upd_apply, Nat.reduceEqDiff, ↓reduceIte, h1, ho1]) <;> (first | with_reducible rfl | (subst_vars; grind [wrap64]) | rfl))
end Go.Proofs.Ytomnjbebgfadoaa.Pi
end
section
/- Contracts: places within the day; the least of what is left.
   Conditions: none; lemmas. -/
set_option linter.unusedVariables false
set_option linter.unusedSimpArgs false
namespace Go.Proofs.Ytomnjbebgfadoaa.Pi
open Go Go.RowKit Go.Proofs
set_option maxHeartbeats 4000000
abbrev con42 : Con := .of cBI (fun _ => True) (fun a rs => rs = [.d (.bool (decide (0 ≤ a.2) && decide (a.2 < (a.1.Places.length : Int))))]) true
noncomputable def E42 : Env := E0.at 14 (fun d => false) (fun d => d) (fun d => true)
theorem E42_ok : EnvOk E42 := E0_ok.at _ _ _ _
theorem E42_r : E42.ty = E0.ty ∧ E42.fact 11 = true ∧ (∀ d, E42.key d = d) := ⟨rfl, rfl, fun _ => rfl⟩

theorem ok42 : ConOk Try.prog 42 con42 := by
  refine con_of (E := E42) E42_ok (fn := Try.f42) Try.func42 rfl (by decide) (by kernel_rfl) (rs := [.tmp 4]) rfl (by decide) (by decide) [.data 4]  (fun _ _ => ⟨_, rfl⟩) boolFlat ?_
  rintro ⟨b, p⟩ _
  simp only [startP_eq, startL, List.map_cons, List.map_nil, run_region, run_seq, run_ret, opsK_nil, opsK_op, seqK_normal, endP_ret, upd_apply, after_some, ev_tmp, ev_int, ev_bool, St.sv, St.sc, strip, stripC, pK_none, pK_some, gpK_some, pmap_some, gK, gB_bool, op_move, op_assign, op_gmove, op_pick, op_bin, op_gbin, op_gload, op_gfa, op_glen, bin_lss, bin_geq, pick_b, eK_some, emap_some, op_box, outK, outL, outM, resPs, resP, rvsOf, rvOf, snapV, snapC, sepB, ownKs, dataKs, keysV, keysC, nodupB, Option.bind_some, Option.map_some, true_and, and_true, implies_true, ↓reduceIte, Nat.reduceEqDiff, reduceCtorEq, Nat.reduceAdd, Nat.reduceLT, Nat.zero_add, List.all_nil, List.append_nil, Bool.and_self, List.getElem?_toArray, List.getElem?_cons_succ, List.getElem?_cons_zero, beq_true, decide_eq_true_eq, decide_eq_false_iff_not, List.contains_nil, Bool.not_false, cod1_enc, codC_enc, imp_self, and_self, Env.tk, loadV, fieldAddrV, lenV, loadP, boxE, St.obj, TI.isAgg, cellsP, refNew, newOb, List.getD_cons_zero, List.getD_cons_succ, List.length_cons, List.length_nil, List.length_map, lbK_true, lnK_some, glbK_some, lenF, Nat.mul_zero, Bool.false_eq_true, maxLen_eq, ty_r, E42_r, Basin.row, Basin.d]
  intro _
  by_cases c : 0 ≤ p <;> simp [c]
abbrev cLI : Cod (List Int × Int) := codC (fun l => .lst 1 (l.map irow)) (dLst 1 iof) (fun _ _ => dLst_iff iof_iff) cI
abbrev con60 : Con := .of cLI (fun _ => True) (fun a rs => ∃ n : Int, (0 ≤ n ↔ a.2 ∈ a.1) ∧ rs = [.d (.int .i64 n)]) true
noncomputable def E60 : Env := E0.at 19 (fun d => false) (fun d => d) (fun d => true)
theorem E60_ok : EnvOk E60 := E0_ok.at _ _ _ _
theorem E60_r : E60.ty = E0.ty ∧ E60.fact 7 = true ∧ (∀ d, E60.key d = d) := ⟨rfl, rfl, fun _ => rfl⟩

theorem ok60 : ConOk Try.prog 60 con60 := by
  refine con_of (E := E60) E60_ok (fn := Try.f60) Try.func60 rfl (by decide) (by kernel_rfl) (rs := [.tmp 4]) rfl (by decide) (by decide) [.data 3]  (fun a _ => by by_cases h : a.2 ∈ a.1; exact ⟨_, 0, by simp [h], rfl⟩; exact ⟨_, -1, by simp [h], rfl⟩) (by rintro _ a r ⟨b, _, rfl⟩ x hx; simp only [List.mem_singleton] at hx; subst hx; rfl) ?_
  rintro ⟨l, v⟩ _
  simp only [startP_eq, startL, List.map_cons, List.map_nil, run_region, run_seq, run_block, run_loop, opsK_nil, opsK_op, seqK_normal, upd_apply, after_some, ev_tmp, ev_int, St.sv, St.sc, strip, stripC, pmap_some, op_move, op_assign, op_len, Option.map_some, true_and, ↓reduceIte, reduceCtorEq, Nat.zero_add, cod1_enc, codC_enc, and_self, Env.tk, lenV, List.length_map, lbK_true, lnK_none, lenF, maxLen_eq, ty_r, E60_r]
  intro hlen
  refine pwp_loop (fun n S => ∃ i : Int, 0 ≤ i ∧ i ≤ (l.length : Int) ∧ n = ((l.length : Int) - i).toNat ∧ S.t 8 = .d (.int .i64 i) ∧ S.t 0 = .d (.lst 1 (l.map irow)) ∧ S.t 1 = .d (.int .i64 v) ∧ S.t 7 = .d (.int .i64 l.length) ∧ v ∉ l.take i.toNat) ((l.length : Int) - 0).toNat ⟨0, by omega, by omega, rfl, rfl, rfl, rfl, rfl, by simp⟩ ?_
  rintro n ⟨t, o⟩ ⟨i, hi0, hil, hn, h8, h0, h1, h7, hv⟩
  simp only at h8 h0 h1 h7
  simp (maxSteps := 1000000) only [run_skip, run_region, run_seq, run_cond, run_block, run_exit, run_ret, opsK_nil, opsK_op, seqK_normal, seqK_exit, seqK_ret, blkK_normal, blkK_exit, blkK_ret, loopK_normal, loopK_exit, loopK_ret, endP_ret, condK_bool, upd_apply, after_some, ev_tmp, ev_int, St.sv, St.sc, strip, stripC, pK_none, pmap_some, op_move, op_assign, op_bin, op_load, op_ia, bin_add, bin_eql, bin_lss, outK, outL, outM, resPs, resP, rvsOf, rvOf, snapV, snapC, sepB, ownKs, dataKs, keysV, keysC, nodupB, Option.bind_some, Option.map_some, true_and, and_true, ↓reduceIte, Nat.reduceEqDiff, reduceCtorEq, Nat.reduceLT, Nat.zero_add, List.all_nil, List.append_nil, Bool.and_self, decide_eq_true_eq, decide_eq_false_iff_not, List.contains_nil, Bool.not_false, and_self, Env.tk, loadV, indexAddrV, loadD, TI.isAgg, List.getD_cons_zero, List.length_cons, List.length_nil, List.length_map, Bool.false_eq_true, ty_r, E60_r, irow, igetD, h8, h0, h1, h7]
  refine ⟨fun hlt => ?_, fun hge => ?_⟩
  · have hlt' : i.toNat < l.length := by omega
    have e : l.getD i.toNat 0 = l[i.toNat] := by simp [hlt']
    refine ⟨⟨hi0, hlt⟩, fun heq => ⟨i, ?_, rfl⟩, fun hne => ?_⟩
    · simp only [hi0, true_iff]
      rw [e, beq_iff_eq] at heq
      rw [heq]; exact List.getElem_mem ..
    · refine ghost_id ⟨((l.length : Int) - (i + 1)).toNat, by omega, i + 1, by omega, by omega, rfl, ?_, h0, h1, h7, ?_⟩
      · simp only [upd_apply, ↓reduceIte]; rw [wrap64 (by omega) (by omega)]
      · rw [show (i + 1).toNat = i.toNat + 1 by omega, List.take_succ_eq_append_getElem hlt']
        simp only [List.mem_append, List.mem_singleton, not_or]
        refine ⟨hv, fun h => ?_⟩
        rw [e, ← h] at hne
        simp at hne
  · refine ⟨-1, ?_, rfl⟩
    rw [List.take_of_length_le (by omega)] at hv
    simp [hv]
abbrev con43 : Con := .of cLI (fun _ => True) (fun a rs => rs = [.d (.bool (decide (a.2 ∈ a.1)))]) true
noncomputable def E43 : Env := (E0.add 60 con60).at 9 (fun d => false) (fun d => d) (fun d => true)
theorem E43_ok : EnvOk E43 := (E0_ok.add Try.func60 rfl rfl ok60).at _ _ _ _
theorem E43_r : E43.ty = E0.ty ∧ (E43.con 60 = some con60 ∧ E43.icon 60 = none) ∧ (∀ d, E43.key d = d) := ⟨rfl, ⟨rfl, rfl⟩, fun _ => rfl⟩

theorem ok43 : ConOk Try.prog 43 con43 := by
  refine con_of (E := E43) E43_ok (fn := Try.f43) Try.func43 rfl (by decide) (by kernel_rfl) (rs := [.tmp 4]) rfl (by decide) (by decide) [.data 4]  (fun _ _ => ⟨_, rfl⟩) boolFlat ?_
  rintro ⟨l, v⟩ _
  simp only [startP_eq, startL, List.map_cons, List.map_nil, run_region, run_seq, run_ret, opsK_nil, opsK_op, seqK_normal, endP_ret, upd_apply, after_some, ev_tmp, ev_int, ev_bool, St.sv, St.sc, strip, stripC, argsC, pK_none, pmap_some, op_move, op_assign, op_bin, bin_geq, op_call, iK_some, iK2_none, cK_some, cK2_some, conK_flat, icallInfo_func, callInfo_func, ciK_some, snapVs_nil, snapVs_cons, outK, outL, outM, resPs, resP, rvsOf, rvOf, snapV, snapC, sepB, ownKs, dataKs, keysV, keysC, nodupB, packP, RV.flatP, Option.bind_some, Option.map_some, true_and, and_true, ↓reduceIte, Nat.reduceEqDiff, reduceCtorEq, Nat.zero_add, List.all_nil, List.append_nil, List.flatMap_cons, List.flatMap_nil, Bool.and_self, List.contains_nil, Bool.not_false, of_pre, of_post, of_flat, cod1_enc, cod1_dec, codC_enc, codC_dec, dInt_int, dLst_lst, some_ex, some_ex1, and_self, all_exc, E43_r, idrows, cLI, idrows, Option.bind_some, Option.map_some]
  intro x hx
  simp [← hx]
/-- The places that water reaches within the day, from a place on. -/
def reachG (pl : List Place) : Nat → Int → List Int → List Int
  | 0, _, out => out
  | k + 1, p, out => if 0 ≤ p ∧ p < (pl.length : Int) ∧ p ∉ out then (if (pl.getD p.toNat .zero).Delay ≥ 24 then out ++ [p] else reachG pl k (pl.getD p.toNat .zero).Down (out ++ [p])) else out
def reachF (pl : List Place) (p : Int) : List Int := reachG pl (pl.length + 1) p []
theorem pigeon : ∀ (n : Nat) (l : List Int), l.Nodup → (∀ x ∈ l, 0 ≤ x ∧ x < (n : Int)) → l.length ≤ n
  | 0, l, _, h => by
    cases l with
    | nil => simp
    | cons x l => have := h x (by simp); omega
  | n + 1, l, hn, h => by
    by_cases hm : (n : Int) ∈ l
    · have h1 := pigeon n (l.erase n) (hn.erase _) fun x hx => by
        have := h x (List.mem_of_mem_erase hx)
        have hne : x ≠ (n : Int) := fun e => by subst e; exact (List.Nodup.mem_erase_iff hn).1 hx |>.1 rfl
        omega
      rw [List.length_erase_of_mem hm] at h1
      omega
    · have h1 := pigeon n l hn fun x hx => by
        have := h x hx
        have hne : x ≠ (n : Int) := fun e => by subst e; exact hm hx
        omega
      omega
theorem irow1 (te : TI) (a : Int) (h : te.size = 1) (hz : te.zero = [.int .i64 0]) : litRows te 1 [(0, .d (.int .i64 a))] = some [[.int .i64 a]] := by
  simp [litRows, elemsFI, fillP, dcells, dcell, chunk, cellsP, h, hz, List.range_succ, List.replicate_succ, zpv]
theorem isnoc (l : List Int) (a : Int) : l.map irow ++ [[.int .i64 a]] = (l ++ [a]).map irow := by simp [irow]
abbrev con21 : Con := .of cBI (fun a => a.1.Places.length ≤ 1000000) (fun a rs => rs = [.d (.lst 1 ((reachF a.1.Places a.2).map irow))]) false
noncomputable def E21 : Env := ((E0.add 42 con42).add 43 con43).at 33 (fun d => false) (fun d => d) (fun d => true)
theorem E21_ok : EnvOk E21 := ((E0_ok.add Try.func42 rfl rfl ok42).add Try.func43 rfl rfl ok43).at _ _ _ _
theorem E21_r : E21.ty = E0.ty ∧ (E21.con 42 = some con42 ∧ E21.icon 42 = none) ∧ (E21.con 43 = some con43 ∧ E21.icon 43 = none) ∧ E21.own 17 = false ∧ (∀ d, E21.key d = d) := ⟨rfl, ⟨rfl, rfl⟩, ⟨rfl, rfl⟩, rfl, fun _ => rfl⟩

set_option maxRecDepth 20000 in
theorem ok21 : ConOk Try.prog 21 con21 := by
  refine con_of (E := E21) E21_ok (fn := Try.f21) Try.func21 rfl (by decide) (by kernel_rfl) (rs := [.tmp 4]) rfl (by decide) (by decide) [.data 29]  (fun _ _ => ⟨_, rfl⟩) (by simp) ?_
  rintro ⟨b, p0⟩ hb
  simp (maxSteps := 1000000) only [startP_eq, startL, List.map_cons, List.map_nil, run_region, run_seq, run_block, run_loop, opsK_nil, opsK_op, seqK_normal, upd_apply, after_some, ev_tmp, ev_nils, St.sv, St.sc, strip, stripC, op_assign, eK_some, emap_some, op_box, true_and, ↓reduceIte, Nat.zero_add, cod1_enc, codC_enc, and_self, boxE, cellsP, refNew, ty_r, E21_r, Basin.row, Basin.d]
  refine pwp_loopG (fun n S => ∃ (p : Int) (out : List Int) (v : Nat), out.Nodup ∧ (∀ x ∈ out, 0 ≤ x ∧ x < (b.Places.length : Int)) ∧ n = b.Places.length + 1 - out.length ∧ reachG b.Places n p out = reachF b.Places p0 ∧ S.t 1 = .d (.int .i64 p) ∧ S.t 2 = .ref 2 1 0 0 0 ∧ S.o 2 = (1, some (.box 31 (b.row.map PV.d))) ∧ S.t 5 = .row 18 v out.length ∧ S.o 18 = (v, some (.row 1 3 (out.map irow))))
    _ (.nil 5 18 1 3 rfl (.refl _)) (b.Places.length + 1) ⟨p0, [], _, by simp, by simp, rfl, rfl, rfl, rfl, rfl, rfl, rfl⟩ ?_
  rintro n ⟨t, o⟩ ⟨p, out, v, hnd, hin, hn, hG, h1, h2, ho2, h5, ho18⟩
  simp only at h1 h2 ho2 h5 ho18
  have hlen := pigeon _ out hnd hin
  simp (maxSteps := 1000000) only [List.map_cons, List.map_nil, run_skip, run_region, run_seq, run_cond, run_block, run_exit, run_ret, opsK_nil, opsK_op, seqK_normal, seqK_exit, blkK_normal, blkK_exit, loopK_normal, loopK_exit, endP_ret, condK_bool, upd_apply, after_some, ev_tmp, ev_int, ev_bool, St.sv, St.sc, strip, stripC, argsC, pK_none, pK_some, gpK_some, pmap_some, gK, gB_bool, op_move, op_assign, op_gmove, on_pick, on_bin, op_load, op_fa, op_ia, op_gun, bin_geq, pick_b, unV, eK_some, emap_some, op_app, op_lit, lK_false, op_call, op_gcall, cgK_some, iK_some, iK2_none, cK_some, cK2_some, conK_flat, conK_gflat, icallInfo_func, callInfo_func, ciK_some, snapVs_nil, snapVs_cons, outK, outL, outM, resPs, resP, rvsOf, rvOf, snapV, snapC, sepB, ownKs, dataKs, keysV, keysC, nodupB, packP, RV.flatP, Option.bind_some, Option.map_some, true_implies, true_and, and_true, implies_true, ↓reduceIte, Nat.reduceEqDiff, reduceCtorEq, Nat.reduceAdd, Nat.reduceMul, Nat.reduceLT, Nat.reduceLeDiff, Nat.zero_add, Nat.add_zero, List.all_nil, List.append_nil, List.flatMap_cons, List.flatMap_nil, Bool.and_self, List.getElem?_toArray, List.getElem?_cons_succ, List.getElem?_cons_zero, beq_true, Bool.and_eq_true, decide_eq_true_eq, List.contains_nil, of_pre, of_post, of_flat, cod1_dec, codC_dec, dInt_int, dAgg_agg, dLst_lst, some_ex, some_ex1, imp_self, and_self, Env.tk, loadV, fieldAddrV, indexAddrV, loadD, loadP, St.obj, TI.isAgg, plainTI, newOb, List.getD_cons_zero, List.getD_cons_succ, List.length_cons, List.length_nil, List.length_map, ex_eq, or_true, imp_eq, pN_bool, List.take_succ_cons, List.drop_zero, List.take_nil, Nat.mul_zero, pagg, allD, contains_cons', Bool.or_false, Bool.false_eq_true, plainTI, ty_r, E21_r, Place.getD, Place.row, Basin.row, Basin.of2, idrows, h1, h2, ho2, h5, ho18, idrows, litV, irow1, appE, appR, rowsV, rowNew]
  intro x hx
  simp only [Named] at hx
  have hb' : b.Places.length ≤ 1000000 := hb
  refine ⟨fun hxt => ?_, fun hxf => ?_⟩
  · have hc : 0 ≤ p ∧ p < (b.Places.length : Int) ∧ p ∉ out := by
      subst hx
      by_cases c : 0 ≤ p ∧ p < (b.Places.length : Int)
      · simp [c] at hxt; exact ⟨c.1, c.2, hxt⟩
      · simp [c] at hxt
    have hnd' : (out ++ [p]).Nodup := by
      rw [List.nodup_append]
      exact ⟨hnd, by simp, fun a ha c hc' e => by simp only [List.mem_singleton] at hc'; subst hc'; subst e; exact hc.2.2 ha⟩
    have hin' : ∀ y ∈ out ++ [p], 0 ≤ y ∧ y < (b.Places.length : Int) := by
      intro y hy
      rcases List.mem_append.1 hy with hy | hy
      · exact hin y hy
      · simp only [List.mem_singleton] at hy; subst hy; exact ⟨hc.1, hc.2.1⟩
    have hl' := pigeon _ _ hnd' hin'
    simp only [List.length_append, List.length_cons, List.length_nil] at hl'
    obtain ⟨m, rfl⟩ : ∃ m, n = m + 1 := ⟨n - 1, by omega⟩
    rw [reachG, if_pos hc] at hG
    refine ⟨by omega, ⟨hc.1, hc.2.1⟩, fun y hy => ?_⟩
    simp only [Named] at hy
    refine ⟨fun hyt => ?_, fun hyf => ⟨⟨hc.1, hc.2.1⟩, ?_⟩⟩
    · have hd : (b.Places.getD p.toNat .zero).Delay ≥ 24 := by subst hy; simpa using hyt
      rw [if_pos hd] at hG
      rw [← hG, ← isnoc]
    · have hd : ¬ (b.Places.getD p.toNat .zero).Delay ≥ 24 := by subst hy; simpa using hyf
      rw [if_neg hd] at hG
      refine ghost_id ⟨m, by omega, _, out ++ [p], v + 1, hnd', hin', by simp only [List.length_append, List.length_cons, List.length_nil]; omega, hG, rfl, h2, ?_, ?_, ?_⟩
      · simp only [newOb, Nat.reduceEqDiff, ↓reduceIte, ho2]; rfl
      · simp only [upd_apply, Nat.reduceEqDiff, ↓reduceIte, List.length_append, List.length_cons, List.length_nil, Nat.zero_add]
      · simp only [newOb, ↓reduceIte, isnoc, ho18]
  · have hc : ¬ (0 ≤ p ∧ p < (b.Places.length : Int) ∧ p ∉ out) := by
      subst hx
      rintro ⟨c1, c2, c3⟩
      simp [c1, c2, c3] at hxf
    obtain ⟨m, rfl⟩ : ∃ m, n = m + 1 := ⟨n - 1, by omega⟩
    rw [reachG, if_neg hc] at hG
    rw [← hG]
/-- The least of a number and what is left at places. -/
def leastF (left : List Int) (n : Int) (qs : List Int) : Int := qs.foldl (fun n q => if left.getD q.toNat 0 < n then left.getD q.toNat 0 else n) n
theorem foldTake {α β : Type} (f : β → α → β) (x : β) (l : List α) (k : Nat) (z : α) (h : k < l.length) : (l.take (k + 1)).foldl f x = f ((l.take k).foldl f x) (l.getD k z) := by
  rw [List.take_succ_eq_append_getElem h, List.foldl_append]
  simp [h]
abbrev cILL : Cod (Int × List Int × List Int) := codC (.int .i64) (dInt .i64) (fun _ _ => dInt_iff) (codC (fun l => .lst 1 (l.map irow)) (dLst 1 iof) (fun _ _ => dLst_iff iof_iff) (cod1 (fun l => .lst 1 (l.map irow)) (dLst 1 iof) (fun _ _ => dLst_iff iof_iff)))
abbrev con23 : Con := .of cILL (fun a => ∀ q ∈ a.2.2, 0 ≤ q ∧ q < (a.2.1.length : Int)) (fun a rs => rs = [.d (.int .i64 (leastF a.2.1 a.1 a.2.2))]) true
noncomputable def E23 : Env := E0.at 23 (fun d => false) (fun d => d) (fun d => true)
theorem E23_ok : EnvOk E23 := E0_ok.at _ _ _ _
theorem E23_r : E23.ty = E0.ty ∧ E23.fact 10 = true ∧ (∀ d, E23.key d = d) := ⟨rfl, rfl, fun _ => rfl⟩

theorem ok23 : ConOk Try.prog 23 con23 := by
  refine con_of (E := E23) E23_ok (fn := Try.f23) Try.func23 rfl (by decide) (by kernel_rfl) (rs := [.tmp 6]) rfl (by decide) (by decide) [.data 3]  (fun _ _ => ⟨_, rfl⟩) intFlat ?_
  rintro ⟨m0, left, qs⟩ hq
  simp only at hq
  simp only [startP_eq, startL, List.map_cons, List.map_nil, run_region, run_seq, run_block, run_loop, opsK_nil, opsK_op, seqK_normal, upd_apply, after_some, ev_tmp, ev_int, St.sv, St.sc, strip, stripC, pmap_some, op_move, op_assign, op_len, Option.map_some, true_and, ↓reduceIte, Nat.reduceEqDiff, reduceCtorEq, Nat.reduceAdd, Nat.zero_add, cod1_enc, codC_enc, and_self, Env.tk, lenV, List.length_map, lbK_true, lnK_none, lenF, maxLen_eq, ty_r, E23_r]
  intro hlen
  refine pwp_loop (fun n S => ∃ i : Int, 0 ≤ i ∧ i ≤ (qs.length : Int) ∧ n = ((qs.length : Int) - i).toNat ∧ S.t 11 = .d (.int .i64 i) ∧ S.t 0 = .d (.int .i64 (leastF left m0 (qs.take i.toNat))) ∧ S.t 1 = .d (.lst 1 (left.map irow)) ∧ S.t 9 = .d (.lst 1 (qs.map irow)) ∧ S.t 10 = .d (.int .i64 qs.length)) ((qs.length : Int) - 0).toNat ⟨0, by omega, by omega, rfl, rfl, rfl, rfl, rfl, rfl⟩ ?_
  rintro n ⟨t, o⟩ ⟨i, hi0, hil, hn, h11, h0, h1, h9, h10⟩
  simp only at h11 h0 h1 h9 h10
  simp (maxSteps := 1000000) only [List.map_cons, List.map_nil, run_skip, run_region, run_seq, run_cond, run_block, run_exit, run_ret, opsK_nil, opsK_op, seqK_normal, seqK_exit, blkK_normal, blkK_exit, loopK_normal, loopK_exit, endP_ret, condK_bool, upd_apply, after_some, ev_tmp, ev_int, St.sv, St.sc, strip, stripC, argsC, pK_none, pmap_some, op_move, op_assign, op_bin, op_load, op_ia, op_min, minK, bin_add, bin_lss, outK, outL, outM, resPs, resP, rvsOf, rvOf, snapV, snapC, sepB, ownKs, dataKs, keysV, keysC, nodupB, Option.bind_some, Option.map_some, true_and, and_true, ↓reduceIte, Nat.reduceEqDiff, reduceCtorEq, Nat.reduceLT, Nat.zero_add, List.all_nil, List.append_nil, Bool.and_self, decide_eq_true_eq, decide_eq_false_iff_not, List.contains_nil, Bool.not_false, and_self, Env.tk, loadV, indexAddrV, loadD, TI.isAgg, List.getD_cons_zero, List.length_cons, List.length_nil, List.length_map, ints_2, minI_2, Bool.false_eq_true, ty_r, E23_r, irow, igetD, h11, h0, h1, h9, h10]
  refine ⟨fun hlt => ?_, fun hge => ?_⟩
  · have hlt' : i.toNat < qs.length := by omega
    have hg := hq (qs.getD i.toNat 0) (by rw [List.getD_eq_getElem?_getD, List.getElem?_eq_getElem hlt']; simp)
    refine ⟨⟨hi0, hlt⟩, hg, ghost_id ⟨((qs.length : Int) - (i + 1)).toNat, by omega, i + 1, by omega, by omega, rfl, ?_, ?_, h1, h9, h10⟩⟩
    · simp only [upd_apply, ↓reduceIte]; rw [wrap64 (by omega) (by omega)]
    · simp only [upd_apply, Nat.reduceEqDiff, ↓reduceIte]
      rw [show (i + 1).toNat = i.toNat + 1 by omega]
      unfold leastF
      rw [foldTake _ _ _ _ 0 hlt']
  · rw [List.take_of_length_le (by omega)]
end Go.Proofs.Ytomnjbebgfadoaa.Pi
end
section
/- The grants of a day.
   Conditions: none; lemmas. -/
set_option linter.unusedVariables false
set_option linter.unusedSimpArgs false
namespace Go.Proofs.Ytomnjbebgfadoaa.Pi
open Go Go.RowKit Go.Proofs
set_option maxHeartbeats 4000000
theorem reachG_in (pl : List Place) : ∀ (k : Nat) (p : Int) (out : List Int), (∀ x ∈ out, 0 ≤ x ∧ x < (pl.length : Int)) → ∀ x ∈ reachG pl k p out, 0 ≤ x ∧ x < (pl.length : Int)
  | 0, p, out, h, x, hx => h x hx
  | k + 1, p, out, h, x, hx => by
    rw [reachG] at hx
    split at hx
    · rename_i hc
      have h' : ∀ y ∈ out ++ [p], 0 ≤ y ∧ y < (pl.length : Int) := by
        intro y hy
        rcases List.mem_append.1 hy with hy | hy
        · exact h y hy
        · simp only [List.mem_singleton] at hy; subst hy; exact ⟨hc.1, hc.2.1⟩
      split at hx
      · exact h' x hx
      · exact reachG_in pl k _ _ h' x hx
    · exact h x hx
theorem reach_in (pl : List Place) (p : Int) : ∀ x ∈ reachF pl p, 0 ≤ x ∧ x < (pl.length : Int) := reachG_in pl _ _ _ (by simp)
def addAt (s : Int) (left : List Int) (q : Int) : List Int := left.set q.toNat (addF (left.getD q.toNat 0) s)
def subAt (n : Int) (left : List Int) (q : Int) : List Int := left.set q.toNat (IntKind.i64.wrap (left.getD q.toNat 0 - n))
def dayFill (pl : List Place) (sup left : List Int) (p : Nat) : List Int := if p < sup.length ∧ 0 ≤ sup.getD p 0 then (reachF pl p).foldl (addAt (sup.getD p 0)) left else left
def dayLeft (pl : List Place) (sup : List Int) : Nat → List Int
  | 0 => List.replicate pl.length 0
  | i + 1 => dayFill pl sup (dayLeft pl sup i) i
def dayGrant (pl : List Place) (left : List Int) (r : Claim) : Int := if reachF pl r.Place = [] then 0 else if 0 < leastF left r.Rate (reachF pl r.Place) then leastF left r.Rate (reachF pl r.Place) else 0
def dayStep (pl : List Place) (s : List Grant × List Int) (r : Claim) : List Grant × List Int := (s.1 ++ [⟨r.Id, dayGrant pl s.2 r⟩], (reachF pl r.Place).foldl (subAt (dayGrant pl s.2 r)) s.2)
def dayF (pl : List Place) (roster : List Claim) (sup : List Int) : List Grant × List Int := roster.foldl (dayStep pl) ([], dayLeft pl sup pl.length)
theorem foldl_len {α : Type} (f : List Int → α → List Int) (hf : ∀ l q, (f l q).length = l.length) : ∀ (qs : List α) (l : List Int), (qs.foldl f l).length = l.length
  | [], l => rfl
  | q :: qs, l => by rw [List.foldl_cons, foldl_len f hf qs, hf]
theorem addAt_len (s : Int) (l : List Int) (q : Int) : (addAt s l q).length = l.length := by simp [addAt]
theorem subAt_len (s : Int) (l : List Int) (q : Int) : (subAt s l q).length = l.length := by simp [subAt]
theorem dayLeft_len (pl : List Place) (sup : List Int) : ∀ i, (dayLeft pl sup i).length = pl.length
  | 0 => by simp [dayLeft]
  | i + 1 => by
    rw [dayLeft, dayFill]
    split
    · rw [foldl_len _ (addAt_len _), dayLeft_len]
    · exact dayLeft_len pl sup i
theorem irep (n : Nat) : List.replicate n ([.int .i64 0] : List D) = (List.replicate n (0 : Int)).map irow := by simp [irow]
theorem iset (l : List Int) (i : Nat) (x : Int) : (l.map irow).set i [.int .i64 x] = (l.set i x).map irow := by rw [List.map_set]; rfl
theorem lit1g (te : TI) (a b : Int) (h : te.size = 2) (hz : te.zero = [.int .i64 0, .int .i64 0]) : litRows te 1 [(0, .d (.agg [.int .i64 a, .int .i64 b]))] = some [[.int .i64 a, .int .i64 b]] := by
  simp [litRows, elemsFI, fillP, dcells, dcell, chunk, cellsP, h, hz, List.range_succ, List.replicate_succ, zpv]
abbrev cDay : Cod (Basin × List Claim × List Int) := codC Basin.d (dAgg Basin.of) Basin.diff (codC (fun l => .lst 9 (l.map Claim.row)) (dLst 9 Claim.of) (fun _ _ => dLst_iff Claim.iff) (cod1 (fun l => .lst 1 (l.map irow)) (dLst 1 iof) (fun _ _ => dLst_iff iof_iff)))
abbrev con11 : Con := .of cDay (fun a => a.1.Places.length ≤ 1000000 ∧ a.2.1.length ≤ 1000000) (fun a rs => rs = [.d (.lst 2 ((dayF a.1.Places a.2.1 a.2.2).1.map Grant.row)), .d (.lst 1 ((dayF a.1.Places a.2.1 a.2.2).2.map irow))]) false
noncomputable def E11 : Env := (((E0.add 21 con21).add 22 con22).add 23 con23).at 105 (fun d => false) (fun d => d) (fun d => true)
theorem E11_ok : EnvOk E11 := (((E0_ok.add Try.func21 rfl rfl ok21).add Try.func22 rfl rfl ok22).add Try.func23 rfl rfl ok23).at _ _ _ _
theorem E11_r : E11.ty = E0.ty ∧ (E11.con 21 = some con21 ∧ E11.icon 21 = none) ∧ (E11.con 22 = some con22 ∧ E11.icon 22 = none) ∧ (E11.con 23 = some con23 ∧ E11.icon 23 = none) ∧ E11.own 100 = false ∧ E11.own 22 = false ∧ E11.fact 21 = true ∧ E11.fact 25 = true ∧ E11.fact 31 = true ∧ E11.fact 43 = true ∧ E11.fact 63 = true ∧ E11.fact 79 = true ∧ E11.fact 82 = true ∧ (∀ d, E11.key d = d) := ⟨rfl, ⟨rfl, rfl⟩, ⟨rfl, rfl⟩, ⟨rfl, rfl⟩, rfl, rfl, rfl, rfl, rfl, rfl, rfl, rfl, rfl, fun _ => rfl⟩

set_option maxRecDepth 20000 in
theorem ok11 : ConOk Try.prog 11 con11 := by
  refine con_of (E := E11) E11_ok (fn := Try.f11) Try.func11 rfl (by decide) (by kernel_rfl) (rs := [.tmp 6, .tmp 7]) rfl (by decide) (by decide) [.data 37, .data 29]  (fun _ _ => ⟨_, rfl⟩) (by simp) ?_
  rintro ⟨b, ro, sup⟩ ⟨hb1, hb2⟩
  simp only at hb1 hb2
  simp (maxSteps := 1000000) only [startP_eq, startL, List.map_cons, List.map_nil, run_region, run_seq, run_block, run_loop, opsK_nil, opsK_op, seqK_normal, upd_apply, after_some, ev_tmp, ev_int, ev_nils, St.sv, St.sc, strip, stripC, pK_none, pmap_some, op_move, op_assign, op_load, op_fa, op_len, eK_some, emap_some, op_box, op_make, Option.map_some, true_and, ↓reduceIte, Nat.reduceEqDiff, Nat.reduceAdd, Nat.reduceLT, Nat.zero_add, List.getElem?_cons_succ, List.getElem?_cons_zero, cod1_enc, codC_enc, and_self, Env.tk, loadV, fieldAddrV, lenV, loadP, boxE, St.obj, TI.isAgg, plainTI, cellsP, refNew, newOb, List.getD_cons_zero, List.getD_cons_succ, List.length_cons, List.length_nil, List.length_map, lbK_true, lnK_none, lenF, Nat.mul_zero, Bool.false_eq_true, maxLen_eq, plainTI, ty_r, E11_r, Basin.row, Basin.d, makeE, irep, rowNew]
  refine fun _ => ⟨by omega, fun _ => ?_⟩
  refine pwp_loop (fun n S => ∃ i : Int, 0 ≤ i ∧ i ≤ (b.Places.length : Int) ∧ n = ((b.Places.length : Int) - i).toNat ∧ S.t 26 = .d (.int .i64 i) ∧ S.t 25 = .d (.int .i64 b.Places.length) ∧ S.t 1 = .d (.lst 9 (ro.map Claim.row)) ∧ S.t 2 = .d (.lst 1 (sup.map irow)) ∧ S.t 3 = .ref 3 1 0 0 0 ∧ S.t 8 = .row 22 1 b.Places.length
    ∧ S.o 3 = (1, some (.box 31 (b.row.map PV.d))) ∧ S.o 22 = (1, some (.row 1 3 ((dayLeft b.Places sup i.toNat).map irow)))) ((b.Places.length : Int) - 0).toNat ⟨0, by omega, by omega, rfl, rfl, rfl, rfl, rfl, rfl, rfl, rfl, rfl⟩ ?_
  rintro n ⟨t, o⟩ ⟨i, hi0, hil, hn, h26, h25, h1, h2, h3, h8, ho3, ho22⟩
  simp only at h26 h25 h1 h2 h3 h8 ho3 ho22
  simp (maxSteps := 1000000) only [List.map_cons, List.map_nil, run_skip, run_region, run_seq, run_cond, run_block, run_exit, run_loop, opsK_nil, opsK_op, seqK_normal, seqK_exit, blkK_exit, loopK_normal, loopK_exit, condK_bool, upd_apply, after_some, ev_tmp, ev_int, ev_bool, ev_nils, St.sv, St.sc, strip, stripC, argsC, pK_none, pK_some, gpK_some, pmap_some, gK, gB_bool, op_move, op_assign, op_gmove, on_pick, on_bin, op_load, on_gbin, op_gload, op_gia, op_len, bin_add, bin_lss, bin_geq, pick_b, op_call, iK_some, iK2_none, cK_some, cK2_some, conK_own, icallInfo_func, callInfo_func, ciK_some, snapVs_nil, snapVs_cons, snapV, snapC, keysV, keysC, packP, Option.bind_some, Option.map_some, true_and, and_true, implies_true, ↓reduceIte, Nat.reduceEqDiff, Nat.reduceAdd, Nat.reduceLT, Nat.reduceLeDiff, Nat.zero_add, Nat.add_zero, List.append_nil, List.flatMap_cons, List.flatMap_nil, List.getElem?_toArray, List.getElem?_cons_succ, List.getElem?_cons_zero, beq_false, Bool.not_eq_true', of_pre, of_post, of_flat, cod1_dec, codC_dec, dInt_int, dAgg_agg, some_ex, imp_self, and_self, Env.tk, loadV, indexAddrV, lenV, loadD, loadP, St.obj, TI.isAgg, List.getD_cons_zero, List.length_cons, List.length_nil, List.length_map, imp_eq, pN_bool, pN_int, pN_gbool, gpN_some, lbK_true, lnK_none, lenF, List.take_succ_cons, List.drop_zero, List.take_nil, Nat.mul_zero, pagg, allD, retP, retO, dropObs_nil, Bool.false_eq_true, maxLen_eq, ty_r, E11_r, Basin.row, Basin.of2, irow, igetD, h26, h25, h1, h2, h3, ho3]
  intro x hx
  simp only [Named] at hx
  refine ⟨fun hxt hsup y hy => ?_, fun hxf hro => ?_⟩
  · simp only [Named] at hy
    have hlt : i < (b.Places.length : Int) := by subst hx; simpa using hxt
    have hi' : (i + 1).toNat = i.toNat + 1 := by omega
    refine ⟨fun hyf => ⟨hyf, hi0, by subst hy; simpa using hyf⟩, fun z hz u hu => ?_⟩
    simp only [Named] at hz hu
    refine ⟨fun hut => ?_, fun huf => ?_⟩
    · have hno : ¬ (i.toNat < sup.length ∧ 0 ≤ sup.getD i.toNat 0) := by
        rintro ⟨c1, c2⟩
        subst hu hz hy
        have c3 : ¬ (i ≥ (sup.length : Int)) := by omega
        have c4 : ¬ (sup.getD i.toNat 0 < 0) := by omega
        simp only [c3, decide_false, Bool.false_eq_true, if_false, decide_eq_true_eq] at hut
        exact c4 hut
      have hl : dayLeft b.Places sup (i + 1).toNat = dayLeft b.Places sup i.toNat := by rw [hi', dayLeft, dayFill, if_neg hno]
      refine ghost_id ⟨((b.Places.length : Int) - (i + 1)).toNat, by omega, i + 1, by omega, by omega, rfl, ?_, h25, h1, h2, h3, h8, ho3, by rw [hl]; exact ho22⟩
      simp only [upd_apply, ↓reduceIte]; rw [wrap64 (by omega) (by omega)]
    · have hyes : i.toNat < sup.length ∧ 0 ≤ sup.getD i.toNat 0 := by
        subst hu hz hy
        by_cases c3 : i ≥ (sup.length : Int)
        · simp [c3] at huf
        · simp only [c3, decide_false, Bool.false_eq_true, if_false, decide_eq_false_iff_not] at huf
          exact ⟨by omega, by omega⟩
      have hl : dayLeft b.Places sup (i + 1).toNat = (reachF b.Places i).foldl (addAt (sup.getD i.toNat 0)) (dayLeft b.Places sup i.toNat) := by
        rw [hi', dayLeft, dayFill, if_pos hyes, Int.toNat_of_nonneg hi0]
      have hl0 := dayLeft_len b.Places sup i.toNat
      generalize dayLeft b.Places sup i.toNat = L at hl hl0 ho22
      have hri := reach_in b.Places i
      generalize reachF b.Places i = R at hl hri
      clear hx hy hz hu hxt huf
      refine ⟨hb1, fun hRl => ?_⟩
      refine pwp_loop (fun n S => ∃ k : Int, 0 ≤ k ∧ k ≤ (R.length : Int) ∧ n = ((R.length : Int) - k).toNat ∧ S.t 44 = .d (.int .i64 k) ∧ S.t 43 = .d (.int .i64 R.length) ∧ S.t 42 = .d (.lst 1 (R.map irow)) ∧ S.t 9 = .d (.int .i64 i) ∧ S.t 26 = .d (.int .i64 i) ∧ S.t 25 = .d (.int .i64 b.Places.length) ∧ S.t 1 = .d (.lst 9 (ro.map Claim.row)) ∧ S.t 2 = .d (.lst 1 (sup.map irow)) ∧ S.t 3 = .ref 3 1 0 0 0 ∧ S.t 8 = .row 22 1 b.Places.length
        ∧ S.o 3 = (1, some (.box 31 (b.row.map PV.d))) ∧ S.o 22 = (1, some (.row 1 3 (((R.take k.toNat).foldl (addAt (sup.getD i.toNat 0)) L).map irow)))) ((R.length : Int) - 0).toNat ⟨0, by omega, by omega, rfl, rfl, rfl, rfl, rfl, h26, h25, h1, h2, h3, h8, ho3, ho22⟩ ?_
      clear h26 h25 h1 h2 h3 h8 ho3 ho22
      rintro n2 ⟨t, o⟩ ⟨k, hk0, hkl, hn2, h44, h43, h42, h9, h26, h25, h1, h2, h3, h8, ho3, ho22⟩
      simp only at h44 h43 h42 h9 h26 h25 h1 h2 h3 h8 ho3 ho22
      have hLk : ((R.take k.toNat).foldl (addAt (sup.getD i.toNat 0)) L).length = b.Places.length := by rw [foldl_len _ (addAt_len _), hl0]
      generalize hLL : (R.take k.toNat).foldl (addAt (sup.getD i.toNat 0)) L = LL at ho22 hLk
      simp (maxSteps := 1000000) only [List.map_cons, List.map_nil, run_skip, run_region, run_seq, run_cond, run_block, run_exit, opsK_nil, opsK_op, seqK_normal, seqK_exit, blkK_normal, blkK_exit, loopK_normal, loopK_exit, condK_bool, upd_apply, after_some, after_none, ev_tmp, ev_int, St.sv, St.sc, strip, stripC, argsC, pK_none, pmap_some, op_move, op_assign, on_bin, op_load, op_ia, bin_add, bin_lss, eK_some, emap_some, op_store, op_call, iK_some, iK2_none, cK_some, cK2_some, conK_flat, icallInfo_func, callInfo_func, ciK_some, snapVs_nil, snapVs_cons, snapV, snapC, keysV, keysC, packP, RV.flatP, Option.bind_some, Option.map_some, true_and, and_true, ↓reduceIte, Nat.reduceEqDiff, Nat.reduceLT, Nat.reduceLeDiff, Nat.zero_add, List.append_nil, List.nil_append, List.flatMap_cons, List.flatMap_nil, of_pre, of_post, of_flat, cod1_dec, codC_dec, dInt_int, some_ex, some_ex1, and_self, Env.tk, loadV, indexAddrV, loadD, storeE, St.obj, TI.isAgg, cellsP, cut, List.getD_cons_zero, List.length_cons, List.length_nil, List.length_map, imp_eq, pN_bool, pN_int, List.take_succ_cons, List.take_zero, List.drop_zero, List.drop_succ_cons, List.take_nil, List.drop_nil, dcells, dcell, Bool.false_eq_true, ty_r, E11_r, Basin.row, irow, igetD, h44, h43, h42, h9, h26, h2, h8, ho22]
      intro x hx
      simp only [Named] at hx
      refine ⟨fun hxt => ?_, fun hxf => ?_⟩
      · have hlt2 : k < (R.length : Int) := by subst hx; simpa using hxt
        have hk2 : k.toNat < R.length := by omega
        have hq := hri (R.getD k.toNat 0) (by rw [List.getD_eq_getElem?_getD, List.getElem?_eq_getElem hk2]; simp)
        have hfo := foldTake (addAt (sup.getD i.toNat 0)) L R k.toNat 0 hk2
        rw [hLL] at hfo
        generalize R.getD k.toNat 0 = q at hq hfo
        clear hx hxt
        refine ⟨⟨hk0, hlt2⟩, hq, by omega, ⟨hi0, by omega⟩, hq, by omega, ghost_id ⟨((R.length : Int) - (k + 1)).toNat, by omega, k + 1, by omega, by omega, rfl, ?_, h43, h42, h9, h26, h25, h1, h2, h3, h8, ?_, ?_⟩⟩
        · simp only [upd_apply, ↓reduceIte]; rw [wrap64 (by omega) (by omega)]
        · simp only [setOb, Nat.reduceEqDiff, ↓reduceIte, ho3]; rfl
        · simp only [setOb, ↓reduceIte, ho22, iset]
          rw [show (k + 1).toNat = k.toNat + 1 by omega, hfo]
          rfl
      · have hge : R.take k.toNat = R := List.take_of_length_le (by subst hx; simp at hxf; omega)
        rw [hge] at hLL
        refine ghost_id ⟨((b.Places.length : Int) - (i + 1)).toNat, by omega, i + 1, by omega, by omega, rfl, ?_, h25, h1, h2, h3, h8, ho3, by rw [hl, hLL]; exact ho22⟩
        simp only [upd_apply, ↓reduceIte]; rw [wrap64 (by omega) (by omega)]
  have hge : i.toNat = b.Places.length := by subst hx; simp at hxf; omega
  rw [hge] at ho22
  have hl0 := dayLeft_len b.Places sup b.Places.length
  refine pwp_loopG (fun n S => ∃ (k : Int) (G : List Grant) (L : List Int) (v : Nat), 0 ≤ k ∧ k ≤ (ro.length : Int) ∧ n = ((ro.length : Int) - k).toNat ∧ (ro.take k.toNat).foldl (dayStep b.Places) ([], dayLeft b.Places sup b.Places.length) = (G, L) ∧ L.length = b.Places.length ∧ G.length = k.toNat
      ∧ S.t 64 = .d (.int .i64 k) ∧ S.t 63 = .d (.int .i64 ro.length) ∧ S.t 62 = .d (.lst 9 (ro.map Claim.row)) ∧ S.t 3 = .ref 3 1 0 0 0 ∧ S.t 8 = .row 22 1 b.Places.length ∧ S.o 3 = (1, some (.box 31 (b.row.map PV.d))) ∧ S.o 22 = (1, some (.row 1 3 (L.map irow))) ∧ S.t 12 = .row 101 v G.length ∧ S.o 101 = (v, some (.row 2 61 (G.map Grant.row))))
    _ (.nil 12 101 2 61 rfl (.refl _)) ((ro.length : Int) - 0).toNat ⟨0, [], _, _, by omega, by omega, rfl, rfl, hl0, rfl, rfl, rfl, rfl, h3, h8, ho3, ho22, rfl, rfl⟩ ?_
  clear h26 h25 h1 h2 h3 h8 ho3 ho22 hx hxf hge hl0
  rintro n ⟨t, o⟩ ⟨k, G, L, v, hk0, hkl, hn, hGL, hLl, hGl, h64, h63, h62, h3, h8, ho3, ho22, h12, ho101⟩
  simp only at h64 h63 h62 h3 h8 ho3 ho22 h12 ho101
  have hri := fun p => reach_in b.Places p
  simp (maxSteps := 1000000) only [List.map_cons, List.map_nil, run_skip, run_region, run_seq, run_cond, run_block, run_exit, run_ret, run_loop, opsK_nil, opsK_op, seqK_normal, seqK_exit, blkK_exit, loopK_exit, endP_ret, condK_bool, upd_apply, after_some, after_none, ev_tmp, ev_int, St.sv, St.sc, strip, stripC, argsC, pK_none, pmap_some, op_move, op_assign, on_bin, op_load, op_fa, op_ia, op_len, op_max, maxK, bin_eql, bin_lss, eK_some, emap_some, op_alloc, op_store, op_call, iK_some, iK2_none, cK_some, cK2_some, conK_flat, conK_own, icallInfo_func, callInfo_func, ciK_some, snapVs_nil, snapVs_cons, outK, outL, outM, resPs, resP, rvsOf, rvOf, snapV, snapC, sepB, ownKs, dataKs, keysV, keysC, nodupB, packP, RV.flatP, Option.bind_some, Option.map_some, true_and, and_true, ↓reduceIte, Nat.reduceEqDiff, Nat.reduceAdd, Nat.reduceLT, Nat.reduceLeDiff, Nat.zero_add, Nat.add_zero, List.all_nil, List.append_nil, List.nil_append, List.flatMap_cons, List.flatMap_nil, Bool.and_self, List.getElem?_cons_succ, List.getElem?_cons_zero, List.contains_nil, of_pre, of_post, of_flat, cod1_dec, codC_dec, dInt_int, dAgg_agg, dLst_lst, some_ex, and_self, Env.tk, loadV, fieldAddrV, indexAddrV, lenV, loadD, loadP, allocE, storeE, St.obj, TI.isAgg, plainTI, zpv, cellsP, refNew, newOb, setOb, cut, List.getD_cons_zero, List.getD_cons_succ, List.length_cons, List.length_nil, List.length_map, imp_eq, pN_bool, lbK_true, lnK_none, lenF, List.take_succ_cons, List.take_zero, List.drop_zero, List.drop_succ_cons, List.take_nil, List.drop_nil, Nat.mul_zero, pagg, allD, ints_2, maxI_2, List.cons_append, retP, retO, dropObs_nil, contains_cons', Bool.or_false, Bool.false_eq_true, maxLen_eq, plainTI, ty_r, E11_r, Basin.row, Basin.of2, Claim.getD, Claim.row, idrows, h64, h63, h62, h3, h8, ho3, ho22, h12, ho101, idrows]
  intro x hx
  simp only [Named] at hx
  refine ⟨fun hxt => ?_, fun hxf => ?_⟩
  · have hlt : k < (ro.length : Int) := by subst hx; simpa using hxt
    have hk2 : k.toNat < ro.length := by omega
    have hfo := foldTake (dayStep b.Places) ([], dayLeft b.Places sup b.Places.length) ro k.toNat .zero hk2
    rw [hGL] at hfo
    refine ⟨⟨hk0, hlt⟩, hb1, by rw [hLl]; exact hri _, ?_⟩
    generalize ro.getD k.toNat .zero = c at hfo
    have hrc := hri c.Place
    have hg0 : dayGrant b.Places L c = if reachF b.Places c.Place = [] then 0 else if 0 < leastF L c.Rate (reachF b.Places c.Place) then leastF L c.Rate (reachF b.Places c.Place) else 0 := rfl
    simp only [dayStep] at hfo
    generalize dayGrant b.Places L c = g at hfo hg0
    generalize reachF b.Places c.Place = R at hfo hg0 hrc
    intro hRl y hy
    simp only [Named] at hy
    refine ⟨fun hyt _ => ?_, fun hyf _ => ?_⟩
    · have hg : (0 : Int) = g := by
        subst hy
        have : R = [] := by cases R with | nil => rfl | cons => simp at hyt; omega
        rw [hg0, if_pos this]
      refine pwp_loop (fun n S => ∃ j : Int, 0 ≤ j ∧ j ≤ (R.length : Int) ∧ n = ((R.length : Int) - j).toNat ∧ S.t 83 = .d (.int .i64 j) ∧ S.t 82 = .d (.int .i64 R.length) ∧ S.t 81 = .d (.lst 1 (R.map irow)) ∧ S.t 16 = .d (.int .i64 g) ∧ S.t 14 = .ref 14 ((o 14).1 + 1) 0 0 0 ∧ S.t 64 = .d (.int .i64 k) ∧ S.t 63 = .d (.int .i64 ro.length) ∧ S.t 62 = .d (.lst 9 (ro.map Claim.row)) ∧ S.t 3 = .ref 3 1 0 0 0 ∧ S.t 8 = .row 22 1 b.Places.length ∧ S.t 12 = .row 101 v G.length
        ∧ S.o 14 = ((o 14).1 + 1, some (.box 49 (c.row.map PV.d))) ∧ S.o 3 = (1, some (.box 31 (b.row.map PV.d))) ∧ S.o 101 = (v, some (.row 2 61 (G.map Grant.row))) ∧ S.o 22 = (1, some (.row 1 3 (((R.take j.toNat).foldl (subAt g) L).map irow)))) ((R.length : Int) - 0).toNat ⟨0, by omega, by omega, rfl, rfl, rfl, rfl, congrArg (fun z => PV.d (.int .i64 z)) hg, rfl, h64, h63, h62, h3, h8, h12, rfl, ho3, ho101, ho22⟩ ?_
      clear h64 h63 h62 h3 h8 h12 ho3 ho22 ho101
      generalize (o 14).1 + 1 = v14
      rintro n2 ⟨t, o⟩ ⟨j, hj0, hjl, hn2, h83, h82, h81, h16, h14, h64, h63, h62, h3, h8, h12, ho14, ho3, ho101, ho22⟩
      simp only at h83 h82 h81 h16 h14 h64 h63 h62 h3 h8 h12 ho14 ho3 ho101 ho22
      have hLj : ((R.take j.toNat).foldl (subAt g) L).length = b.Places.length := by rw [foldl_len _ (subAt_len _), hLl]
      generalize hLL : (R.take j.toNat).foldl (subAt g) L = LL at ho22 hLj
      simp (maxSteps := 1000000) only [List.map_cons, List.map_nil, run_skip, run_region, run_seq, run_cond, run_block, run_exit, opsK_nil, opsK_op, seqK_normal, seqK_exit, blkK_normal, blkK_exit, loopK_normal, loopK_exit, condK_bool, upd_apply, after_some, after_none, ev_tmp, ev_int, St.sv, St.sc, strip, stripC, argsC, pK_none, pmap_some, op_move, op_assign, on_bin, op_load, op_fa, op_ia, op_build, bin_add, bin_sub, bin_lss, eK_some, emap_some, op_store, op_app, op_lit, lK_false, Option.bind_some, Option.map_some, true_and, and_true, ↓reduceIte, Nat.reduceEqDiff, Nat.reduceAdd, Nat.reduceMul, Nat.reduceLT, Nat.reduceLeDiff, Nat.zero_add, Nat.add_zero, List.append_nil, List.nil_append, List.getElem?_cons_succ, List.getElem?_cons_zero, and_self, Env.tk, loadV, fieldAddrV, indexAddrV, loadD, loadP, storeE, St.obj, TI.isAgg, plainTI, zpv, cellsP, cut, List.getD_cons_zero, List.length_cons, List.length_nil, List.length_map, pN_bool, pN_int, List.take_succ_cons, List.take_zero, List.drop_zero, List.drop_succ_cons, List.take_nil, List.drop_nil, Nat.mul_zero, buildV, fillP, dcells, dcell, List.cons_append, Bool.false_eq_true, plainTI, ty_r, E11_r, Basin.row, Claim.row, irow, igetD, h83, h82, h81, h16, h14, h64, h8, h12, ho14, ho101, ho22, litV, lit1g, appE, appR, rowsV, rowNew]
      intro x hx
      simp only [Named] at hx
      refine ⟨fun hxt => ?_, fun hxf => ?_⟩
      · have hlt2 : j < (R.length : Int) := by subst hx; simpa using hxt
        have hj2 : j.toNat < R.length := by omega
        have hq := hrc (R.getD j.toNat 0) (by rw [List.getD_eq_getElem?_getD, List.getElem?_eq_getElem hj2]; simp)
        have hfo2 := foldTake (subAt g) L R j.toNat 0 hj2
        rw [hLL] at hfo2
        generalize R.getD j.toNat 0 = q at hq hfo2
        refine ⟨⟨hj0, hlt2⟩, hq, by omega, hq, by omega, ghost_id ⟨((R.length : Int) - (j + 1)).toNat, by omega, j + 1, by omega, by omega, rfl, ?_, h82, h81, h16, h14, h64, h63, h62, h3, h8, h12, ?_, ?_, ?_, ?_⟩⟩
        · simp only [upd_apply, ↓reduceIte]; rw [wrap64 (by omega) (by omega)]
        · simp only [setOb, Nat.reduceEqDiff, ↓reduceIte, ho14]; rfl
        · simp only [setOb, Nat.reduceEqDiff, ↓reduceIte, ho3]; rfl
        · simp only [setOb, Nat.reduceEqDiff, ↓reduceIte, ho101]
        · simp only [setOb, ↓reduceIte, ho22, iset]
          rw [show (j + 1).toNat = j.toNat + 1 by omega, hfo2]
          rfl
      · have hge : R.take j.toNat = R := List.take_of_length_le (by subst hx; simp at hxf; omega)
        rw [hge] at hLL
        refine ⟨by omega, ghost_id ⟨((ro.length : Int) - (k + 1)).toNat, by omega, k + 1, G ++ [⟨c.Id, g⟩], LL, v + 1, by omega, by omega, rfl, ?_, hLj, ?_, ?_, h63, h62, h3, h8, ?_, ?_, ?_, ?_⟩⟩
        · rw [show (k + 1).toNat = k.toNat + 1 by omega, hfo, hLL]
        · simp only [List.length_append, List.length_cons, List.length_nil]; omega
        · simp only [upd_apply, ↓reduceIte]; rw [wrap64 (by omega) (by omega)]
        · simp only [newOb, Nat.reduceEqDiff, ↓reduceIte, ho3]; rfl
        · simp only [newOb, Nat.reduceEqDiff, ↓reduceIte, ho22]
        · simp only [upd_apply, Nat.reduceEqDiff, ↓reduceIte, List.length_append, List.length_cons, List.length_nil, Nat.zero_add]
        · simp only [newOb, ↓reduceIte, List.map_append, List.map_cons, List.map_nil, ho101]; rfl
    · have hg : (if 0 < leastF L c.Rate R then leastF L c.Rate R else 0) = g := by
        subst hy
        have : R ≠ [] := by rintro rfl; simp at hyf
        rw [hg0, if_neg this]
      refine pwp_loop (fun n S => ∃ j : Int, 0 ≤ j ∧ j ≤ (R.length : Int) ∧ n = ((R.length : Int) - j).toNat ∧ S.t 83 = .d (.int .i64 j) ∧ S.t 82 = .d (.int .i64 R.length) ∧ S.t 81 = .d (.lst 1 (R.map irow)) ∧ S.t 16 = .d (.int .i64 g) ∧ S.t 14 = .ref 14 ((o 14).1 + 1) 0 0 0 ∧ S.t 64 = .d (.int .i64 k) ∧ S.t 63 = .d (.int .i64 ro.length) ∧ S.t 62 = .d (.lst 9 (ro.map Claim.row)) ∧ S.t 3 = .ref 3 1 0 0 0 ∧ S.t 8 = .row 22 1 b.Places.length ∧ S.t 12 = .row 101 v G.length
        ∧ S.o 14 = ((o 14).1 + 1, some (.box 49 (c.row.map PV.d))) ∧ S.o 3 = (1, some (.box 31 (b.row.map PV.d))) ∧ S.o 101 = (v, some (.row 2 61 (G.map Grant.row))) ∧ S.o 22 = (1, some (.row 1 3 (((R.take j.toNat).foldl (subAt g) L).map irow)))) ((R.length : Int) - 0).toNat ⟨0, by omega, by omega, rfl, rfl, rfl, rfl, congrArg (fun z => PV.d (.int .i64 z)) hg, rfl, h64, h63, h62, h3, h8, h12, rfl, ho3, ho101, ho22⟩ ?_
      clear h64 h63 h62 h3 h8 h12 ho3 ho22 ho101
      generalize (o 14).1 + 1 = v14
      rintro n2 ⟨t, o⟩ ⟨j, hj0, hjl, hn2, h83, h82, h81, h16, h14, h64, h63, h62, h3, h8, h12, ho14, ho3, ho101, ho22⟩
      simp only at h83 h82 h81 h16 h14 h64 h63 h62 h3 h8 h12 ho14 ho3 ho101 ho22
      have hLj : ((R.take j.toNat).foldl (subAt g) L).length = b.Places.length := by rw [foldl_len _ (subAt_len _), hLl]
      generalize hLL : (R.take j.toNat).foldl (subAt g) L = LL at ho22 hLj
      simp (maxSteps := 1000000) only [List.map_cons, List.map_nil, run_skip, run_region, run_seq, run_cond, run_block, run_exit, opsK_nil, opsK_op, seqK_normal, seqK_exit, blkK_normal, blkK_exit, loopK_normal, loopK_exit, condK_bool, upd_apply, after_some, after_none, ev_tmp, ev_int, St.sv, St.sc, strip, stripC, argsC, pK_none, pmap_some, op_move, op_assign, on_bin, op_load, op_fa, op_ia, op_build, bin_add, bin_sub, bin_lss, eK_some, emap_some, op_store, op_app, op_lit, lK_false, Option.bind_some, Option.map_some, true_and, and_true, ↓reduceIte, Nat.reduceEqDiff, Nat.reduceAdd, Nat.reduceMul, Nat.reduceLT, Nat.reduceLeDiff, Nat.zero_add, Nat.add_zero, List.append_nil, List.nil_append, List.getElem?_cons_succ, List.getElem?_cons_zero, and_self, Env.tk, loadV, fieldAddrV, indexAddrV, loadD, loadP, storeE, St.obj, TI.isAgg, plainTI, zpv, cellsP, cut, List.getD_cons_zero, List.length_cons, List.length_nil, List.length_map, pN_bool, pN_int, List.take_succ_cons, List.take_zero, List.drop_zero, List.drop_succ_cons, List.take_nil, List.drop_nil, Nat.mul_zero, buildV, fillP, dcells, dcell, List.cons_append, Bool.false_eq_true, plainTI, ty_r, E11_r, Basin.row, Claim.row, irow, igetD, h83, h82, h81, h16, h14, h64, h8, h12, ho14, ho101, ho22, litV, lit1g, appE, appR, rowsV, rowNew]
      intro x hx
      simp only [Named] at hx
      refine ⟨fun hxt => ?_, fun hxf => ?_⟩
      · have hlt2 : j < (R.length : Int) := by subst hx; simpa using hxt
        have hj2 : j.toNat < R.length := by omega
        have hq := hrc (R.getD j.toNat 0) (by rw [List.getD_eq_getElem?_getD, List.getElem?_eq_getElem hj2]; simp)
        have hfo2 := foldTake (subAt g) L R j.toNat 0 hj2
        rw [hLL] at hfo2
        generalize R.getD j.toNat 0 = q at hq hfo2
        refine ⟨⟨hj0, hlt2⟩, hq, by omega, hq, by omega, ghost_id ⟨((R.length : Int) - (j + 1)).toNat, by omega, j + 1, by omega, by omega, rfl, ?_, h82, h81, h16, h14, h64, h63, h62, h3, h8, h12, ?_, ?_, ?_, ?_⟩⟩
        · simp only [upd_apply, ↓reduceIte]; rw [wrap64 (by omega) (by omega)]
        · simp only [setOb, Nat.reduceEqDiff, ↓reduceIte, ho14]; rfl
        · simp only [setOb, Nat.reduceEqDiff, ↓reduceIte, ho3]; rfl
        · simp only [setOb, Nat.reduceEqDiff, ↓reduceIte, ho101]
        · simp only [setOb, ↓reduceIte, ho22, iset]
          rw [show (j + 1).toNat = j.toNat + 1 by omega, hfo2]
          rfl
      · have hge : R.take j.toNat = R := List.take_of_length_le (by subst hx; simp at hxf; omega)
        rw [hge] at hLL
        refine ⟨by omega, ghost_id ⟨((ro.length : Int) - (k + 1)).toNat, by omega, k + 1, G ++ [⟨c.Id, g⟩], LL, v + 1, by omega, by omega, rfl, ?_, hLj, ?_, ?_, h63, h62, h3, h8, ?_, ?_, ?_, ?_⟩⟩
        · rw [show (k + 1).toNat = k.toNat + 1 by omega, hfo, hLL]
        · simp only [List.length_append, List.length_cons, List.length_nil]; omega
        · simp only [upd_apply, ↓reduceIte]; rw [wrap64 (by omega) (by omega)]
        · simp only [newOb, Nat.reduceEqDiff, ↓reduceIte, ho3]; rfl
        · simp only [newOb, Nat.reduceEqDiff, ↓reduceIte, ho22]
        · simp only [upd_apply, Nat.reduceEqDiff, ↓reduceIte, List.length_append, List.length_cons, List.length_nil, Nat.zero_add]
        · simp only [newOb, ↓reduceIte, List.map_append, List.map_cons, List.map_nil, ho101]; rfl
  · have e : dayF b.Places ro sup = (G, L) := by
      rw [← hGL, List.take_of_length_le (by subst hx; simp at hxf; omega)]; rfl
    rw [e]
end Go.Proofs.Ytomnjbebgfadoaa.Pi
end
section
/- Shares of triples: what add does.
   Conditions: none; lemmas. -/
set_option linter.unusedVariables false
set_option linter.unusedSimpArgs false
namespace Go.Proofs.Ytomnjbebgfadoaa.Pi
open Go Go.RowKit Go.Proofs
set_option maxHeartbeats 4000000
def teq (t s : Triple) : Bool := t.right == s.right && (t.owner == s.owner && t.place == s.place)
theorem teq_iff {t s : Triple} : teq t s = true ↔ t = s := by
  obtain ⟨a, b, c⟩ := t
  obtain ⟨a', b', c'⟩ := s
  simp [teq]
/-- Litres of a triple, added. -/
def upsert (t : Triple) (x : Int) : List (Triple × Int) → List (Triple × Int)
  | [] => [(t, IntKind.i64.wrap (0 + x))]
  | s :: l => if teq t s.1 = true then (s.1, IntKind.i64.wrap (s.2 + x)) :: l else s :: upsert t x l
def addG (ro : List Claim) (sign : Int) (l : List (Triple × Int)) (g : Grant) : List (Triple × Int) := match ro.find? (fun c => c.Id == g.Right) with
  | some c => if g.Litres ≤ 0 then l else upsert ⟨c.Id, c.Owner, c.Place⟩ (IntKind.i64.wrap (sign * g.Litres)) l
  | none => l
def esOf : Nat → List (Triple × Int) → List (Nat × D × PV)
  | _, [] => []
  | k, x :: l => (k, .agg x.1.row, .d (.int .i64 x.2)) :: esOf (k + 1) l
/-- Is a triple there? -/
def hasT (t : Triple) : List (Triple × Int) → Bool
  | [] => false
  | s :: l => teq t s.1 || hasT t l
def getT (t : Triple) : List (Triple × Int) → Int
  | [] => 0
  | s :: l => if teq t s.1 = true then s.2 else getT t l
def idxT (t : Triple) : Nat → List (Triple × Int) → Nat
  | k, [] => k
  | k, s :: l => if teq t s.1 = true then k else idxT t (k + 1) l
theorem keq_triple (t s : Triple) : keq (.agg t.row) (.agg s.row) = teq t s := by
  simp [Triple.row, keq, keqs, teq]
theorem mfind_esOf (t : Triple) : ∀ (l : List (Triple × Int)) (k : Nat), mfind (.agg t.row) (esOf k l) = if hasT t l = true then some (idxT t k l, .d (.int .i64 (getT t l))) else none
  | [], k => rfl
  | s :: l, k => by
    simp only [esOf, mfind, keq_triple, hasT, idxT, getT]
    by_cases h : teq t s.1 = true
    · simp [h]
    · simp only [h, Bool.false_eq_true, if_false, Bool.false_or]
      exact mfind_esOf t l (k + 1)
theorem esOf_len : ∀ (l : List (Triple × Int)) (k : Nat), (esOf k l).length = l.length
  | [], k => rfl
  | s :: l, k => by simp [esOf, esOf_len l]
theorem hasT_cons (t : Triple) (s : Triple × Int) (l : List (Triple × Int)) : hasT t (s :: l) = (teq t s.1 || hasT t l) := rfl
/-- What an entry that is looked for, made if need be, and stored to leaves. -/
theorem put_sto (t : Triple) (x : Int) : ∀ (l : List (Triple × Int)) (k : Nat),
    mstamp (mborn (.agg t.row) (esOf k l) (k + l.length) : Nat) (.d (.int .i64 (IntKind.i64.wrap (getT t l + x)))) (mput (.agg t.row) (mval (.agg t.row) (esOf k l) (.d (.int .i64 0))) (k + l.length) (esOf k l)) = esOf k (upsert t x l)
  | [], k => by simp [esOf, mborn, mfind, mput, mval, mstamp, upsert, getT]
  | s :: l, k => by
    have ih := put_sto t x l (k + 1)
    by_cases h : teq t s.1 = true
    · have e := teq_iff.1 h
      subst e
      simp [esOf, mborn, mfind, mput, mval, mstamp, upsert, getT, keq_triple, h]
    · have hb : ∀ (l : List (Triple × Int)) (j : Nat), j ≤ mborn (.agg t.row) (esOf j l) (j + l.length) := by
        intro l
        induction l with
        | nil => intro j; simp [mborn, mfind, esOf]
        | cons y l ih =>
          intro j
          by_cases hy : teq t y.1 = true
          · simp [mborn, mfind, esOf, keq_triple, hy]
          · have := ih (j + 1)
            simp only [mborn, mfind, esOf, keq_triple, hy, Bool.false_eq_true, if_false, List.length_cons] at this ⊢
            rw [show j + (l.length + 1) = j + 1 + l.length by omega]; omega
      have hb := hb l (k + 1)
      have e1 : mborn (.agg t.row) (esOf k (s :: l)) (k + (s :: l).length) = mborn (.agg t.row) (esOf (k + 1) l) (k + 1 + l.length) := by
        simp only [mborn, mfind, esOf, keq_triple, h, Bool.false_eq_true, if_false, List.length_cons]
        rw [show k + (l.length + 1) = k + 1 + l.length by omega]
      have e2 : mval (.agg t.row) (esOf k (s :: l)) (.d (.int .i64 0)) = mval (.agg t.row) (esOf (k + 1) l) (.d (.int .i64 0)) := by
        simp only [mval, mfind, esOf, keq_triple, h, Bool.false_eq_true, if_false]
      rw [e1, e2]
      simp only [esOf, mput, keq_triple, h, Bool.false_eq_true, if_false, mstamp, upsert, getT, List.length_cons]
      have hne : ((k : Int) == ((mborn (.agg t.row) (esOf (k + 1) l) (k + 1 + l.length) : Nat) : Int)) = false := by
        simp only [beq_eq_false_iff_ne, ne_eq]; omega
      simp only [hne, Bool.false_eq_true, if_false]
      rw [show k + (l.length + 1) = k + 1 + l.length by omega, ih]
theorem mhas_esOf (t : Triple) (l : List (Triple × Int)) (k : Nat) : mhas (.agg t.row) (esOf k l) = hasT t l := by
  rw [mhas, mfind_esOf]; cases hasT t l <;> simp
theorem getT_no (t : Triple) : ∀ l : List (Triple × Int), hasT t l = false → getT t l = 0
  | [], _ => rfl
  | s :: l, h => by
    simp only [hasT, Bool.or_eq_false_iff] at h
    simp only [getT, h.1, Bool.false_eq_true, if_false]
    exact getT_no t l h.2
theorem mval_esOf (t : Triple) (l : List (Triple × Int)) (k : Nat) : mval (.agg t.row) (esOf k l) (.d (.int .i64 0)) = .d (.int .i64 (getT t l)) := by
  rw [mval, mfind_esOf]
  cases h : hasT t l
  · simp [getT_no t l h]
  · simp
theorem upsert_len (t : Triple) (x : Int) : ∀ l : List (Triple × Int), (upsert t x l).length = if hasT t l = true then l.length else l.length + 1
  | [] => by simp [upsert, hasT]
  | s :: l => by
    simp only [upsert, hasT]
    by_cases h : teq t s.1 = true
    · simp [h]
    · simp only [h, Bool.false_eq_true, if_false, Bool.false_or, List.length_cons, upsert_len t x l]
      split <;> rfl
theorem upsert_fst (t : Triple) (x : Int) : ∀ l : List (Triple × Int), (upsert t x l).map (·.1) = if hasT t l = true then l.map (·.1) else l.map (·.1) ++ [t]
  | [] => by simp [upsert, hasT]
  | s :: l => by
    simp only [upsert, hasT]
    by_cases h : teq t s.1 = true
    · simp [h]
    · simp only [h, Bool.false_eq_true, if_false, Bool.false_or, List.map_cons, upsert_fst t x l]
      split <;> simp
theorem mclock_esOf (t : Triple) (x : Int) (l : List (Triple × Int)) : mclock (.agg t.row) (esOf 0 l) l.length = (upsert t x l).length := by
  rw [mclock, mhas_esOf, upsert_len]
theorem mkeys_esOf {E : Env} {kt : Nat} (h : ∀ t : Triple, mkey E kt (.agg t.row) = true) : ∀ (l : List (Triple × Int)) (k : Nat), mkeys E kt (esOf k l) = true
  | [], k => rfl
  | s :: l, k => by
    have := mkeys_esOf h l (k + 1)
    simp only [mkeys, esOf, List.all_cons, Bool.and_eq_true] at this ⊢
    exact ⟨h _, this⟩
theorem mlast_put (t : Triple) : ∀ (l : List (Triple × Int)) (k : Nat) (v : PV), mlast (mborn (.agg t.row) (esOf k l) (k + l.length) : Nat) (mput (.agg t.row) v (k + l.length) (esOf k l)) = true
  | [], k, v => by simp [esOf, mborn, mfind, mput, mlast]
  | s :: l, k, v => by
    have ih := mlast_put t l (k + 1) v
    by_cases h : teq t s.1 = true
    · simp [esOf, mborn, mfind, mput, mlast, keq_triple, h]
    · have e1 : mborn (.agg t.row) (esOf k (s :: l)) (k + (s :: l).length) = mborn (.agg t.row) (esOf (k + 1) l) (k + 1 + l.length) := by
        simp only [mborn, mfind, esOf, keq_triple, h, Bool.false_eq_true, if_false, List.length_cons]
        rw [show k + (l.length + 1) = k + 1 + l.length by omega]
      rw [e1]
      simp only [esOf, mput, keq_triple, h, Bool.false_eq_true, if_false, List.length_cons]
      rw [show k + (l.length + 1) = k + 1 + l.length by omega]
      simp only [mlast, List.any_cons, Bool.or_eq_true] at ih ⊢
      exact .inr ih
theorem esOf_inj : ∀ {l l' : List (Triple × Int)} {k : Nat}, esOf k l = esOf k l' → l = l'
  | [], [], k, _ => rfl
  | [], _ :: _, k, h => by simp [esOf] at h
  | _ :: _, [], k, h => by simp [esOf] at h
  | s :: l, s' :: l', k, h => by
    simp only [esOf, List.cons.injEq, Prod.mk.injEq, D.agg.injEq, PV.d.injEq, D.int.injEq, true_and] at h
    obtain ⟨⟨h1, h2⟩, h3⟩ := h
    have := esOf_inj h3
    obtain ⟨⟨a, b, c⟩, n⟩ := s
    obtain ⟨⟨a', b', c'⟩, n'⟩ := s'
    simp only [Triple.row, List.cons.injEq, D.int.injEq, true_and, and_true] at h1
    simp only at h2
    obtain ⟨rfl, rfl, rfl⟩ := h1
    rw [this, h2]
end Go.Proofs.Ytomnjbebgfadoaa.Pi
end
section
/- Shares of triples: add, in the program.
   Conditions: none; lemmas. -/
set_option linter.unusedVariables false
set_option linter.unusedSimpArgs false
namespace Go.Proofs.Ytomnjbebgfadoaa.Pi
open Go Go.RowKit Go.Proofs
set_option maxHeartbeats 4000000
/-- Shares in their box (key 1), their map (key 2) and their order (key 3). -/
def ordRep (o : Objs) (p : PV) (l : List (Triple × Int)) : Prop := (p = .nils ∧ l = []) ∨ ∃ v, p = .row 3 v l.length ∧ o 3 = (v, some (.row 3 99 ((l.map (·.1)).map Triple.row)))
def shRep (o : Objs) (l : List (Triple × Int)) : Prop := ∃ p, o 1 = (1, some (.box 69 [p, .map 2 1])) ∧ o 2 = (1, some (.map 99 3 l.length (esOf 0 l))) ∧ ordRep o p l
def icon24 : ICon := ⟨fun o ps => ∃ (ro : List Claim) (gr : List Grant) (sign : Int) (l : List (Triple × Int)), ps = [.ref 1 1 0 0 0, .d (.lst 9 (ro.map Claim.row)), .d (.lst 2 (gr.map Grant.row)), .d (.int .i64 sign)] ∧ shRep o l ∧ ro.length ≤ 1000000 ∧ gr.length + l.length ≤ 1000000,
  fun o ps o' p => ∃ (ro : List Claim) (gr : List Grant) (sign : Int) (l : List (Triple × Int)), ps = [.ref 1 1 0 0 0, .d (.lst 9 (ro.map Claim.row)), .d (.lst 2 (gr.map Grant.row)), .d (.int .i64 sign)] ∧ shRep o l ∧ shRep o' (gr.foldl (addG ro sign) l) ∧ (∀ K, 3 < K → K < 240000 → o' K = o K) ∧ p = .tup []⟩
theorem mfind_snoc (k : D) (e : Nat × D × PV) : ∀ es : List (Nat × D × PV), mfind k (es ++ [e]) = (mfind k es).or (if keq k e.2.1 = true then some (e.1, e.2.2) else none)
  | [] => by simp [mfind]
  | x :: es => by
    simp only [List.cons_append, mfind]
    split
    · simp
    · exact mfind_snoc k e es
theorem mput_snoc (k : D) (v : PV) (c : Nat) : ∀ es : List (Nat × D × PV), mfind k es = none → mput k v c es = es ++ [(c, k, v)]
  | [], _ => rfl
  | x :: es, h => by
    simp only [mfind] at h
    split at h
    · cases h
    · rename_i hn
      simp only [mput, hn, if_false, List.cons_append, Bool.false_eq_true]
      rw [mput_snoc k v c es h]
/-- The first rights by their ids. -/
def Holds (E : Env) (ro : List Claim) (es : List (Nat × D × PV)) : Prop := mkeys E 3 es = true ∧ ∀ id : Int, (mfind (.int .i64 id) es).map (·.2) = (ro.find? fun c => c.Id == id).map fun c => PV.d (D.agg c.row)
def tri (c : Claim) : Triple := ⟨c.Id, c.Owner, c.Place⟩
theorem put_sto0 (c : Claim) (x : Int) (l : List (Triple × Int)) : mstamp ((mborn (.agg [.int .i64 c.Id, .int .i64 c.Owner, .int .i64 c.Place]) (esOf 0 l) l.length : Nat) : Int) (.d (.int .i64 (IntKind.i64.wrap (getT (tri c) l + x)))) (mput (.agg [.int .i64 c.Id, .int .i64 c.Owner, .int .i64 c.Place]) (.d (.int .i64 (getT (tri c) l))) l.length (esOf 0 l)) = esOf 0 (upsert (tri c) x l) := by
  have := put_sto (tri c) x l 0
  rw [mval_esOf, Nat.zero_add] at this
  exact this
theorem mlast_put0 (c : Claim) (l : List (Triple × Int)) (v : PV) : mlast ((mborn (.agg [.int .i64 c.Id, .int .i64 c.Owner, .int .i64 c.Place]) (esOf 0 l) l.length : Nat) : Int) (mput (.agg [.int .i64 c.Id, .int .i64 c.Owner, .int .i64 c.Place]) v l.length (esOf 0 l)) = true := by
  have := mlast_put (tri c) l 0 v
  rw [Nat.zero_add] at this
  exact this
theorem mclock_0 (c : Claim) (x : Int) (l : List (Triple × Int)) : mclock (.agg [.int .i64 c.Id, .int .i64 c.Owner, .int .i64 c.Place]) (esOf 0 l) l.length = (upsert (tri c) x l).length := mclock_esOf (tri c) x l
theorem mhas_0 (c : Claim) (l : List (Triple × Int)) : mhas (.agg [.int .i64 c.Id, .int .i64 c.Owner, .int .i64 c.Place]) (esOf 0 l) = hasT (tri c) l := mhas_esOf (tri c) l 0
theorem mval_0 (c : Claim) (l : List (Triple × Int)) : mval (.agg [.int .i64 c.Id, .int .i64 c.Owner, .int .i64 c.Place]) (esOf 0 l) (.d (.int .i64 0)) = .d (.int .i64 (getT (tri c) l)) := mval_esOf (tri c) l 0
theorem lit1t (te : TI) (a b c : Int) (h : te.size = 3) (hz : te.zero = [.int .i64 0, .int .i64 0, .int .i64 0]) : litRows te 1 [(0, .d (.agg [.int .i64 a, .int .i64 b, .int .i64 c]))] = some [[.int .i64 a, .int .i64 b, .int .i64 c]] := by
  simp [litRows, elemsFI, fillP, dcells, dcell, chunk, cellsP, h, hz, List.range_succ, List.replicate_succ, zpv]
theorem mhas_none {k : D} {es : List (Nat × D × PV)} (h : mfind k es = none) : mhas k es = false ∧ ∀ z, mval k es z = z := by simp [mhas, mval, h]
theorem mhas_some {k : D} {es : List (Nat × D × PV)} {x : PV} (h : (mfind k es).map (·.2) = some x) : mhas k es = true ∧ ∀ z, mval k es z = x := by
  obtain ⟨y, h1, rfl⟩ := Option.map_eq_some_iff.1 h
  simp [mhas, mval, h1]
theorem holds_skip {E : Env} {ro : List Claim} {es : List (Nat × D × PV)} {c c0 : Claim} (h : Holds E ro es) (hf : ro.find? (fun x => x.Id == c.Id) = some c0) : Holds E (ro ++ [c]) es := by
  refine ⟨h.1, fun id => ?_⟩
  rw [h.2, List.find?_append]
  cases he : ro.find? (fun x => x.Id == id) with
  | some y => simp
  | none =>
    have : (c.Id == id) = false := by
      cases hb : (c.Id == id) with
      | false => rfl
      | true =>
        rw [beq_iff_eq] at hb
        rw [← hb, hf] at he
        cases he
    simp [this]
theorem holds_new {E : Env} {ro : List Claim} {es : List (Nat × D × PV)} {c : Claim} {ck : Nat} (hk : mkey E 3 (.int .i64 c.Id) = true) (h : Holds E ro es) (hf : ro.find? (fun x => x.Id == c.Id) = none) : Holds E (ro ++ [c]) (mput (.int .i64 c.Id) (.d (.agg c.row)) ck es) := by
  refine ⟨mkeys_mput _ _ hk h.1, fun id => ?_⟩
  have hm : mfind (.int .i64 c.Id) es = none := by
    have := h.2 c.Id
    rw [hf] at this
    simpa using this
  rw [mput_none' hm, mfind_app, List.find?_append, ]
  have h2 := h.2 id
  cases he : ro.find? (fun x => x.Id == id) with
  | some y =>
    rw [he] at h2
    obtain ⟨z, hz, hz2⟩ := Option.map_eq_some_iff.1 h2
    rw [hz]
    simpa using hz2
  | none =>
    rw [he] at h2
    have hz : mfind (.int .i64 id) es = none := by simpa using h2
    rw [hz]
    simp only [Option.none_or, keq, decide_true, Bool.true_and, List.find?_cons, List.find?_nil]
    by_cases hb : id = c.Id
    · subst hb; simp
    · have hb' : (c.Id == id) = false := by simp; exact fun e => hb e.symm
      simp [hb, hb']
noncomputable def E24 : Env := E0.at 103 (fun d => false) (fun d => if d = 86 then 3 else d + 240000) (fun d => true)
theorem E24_ok : EnvOk E24 := E0_ok.at _ _ _ _
theorem E24_r : E24.ty = E0.ty ∧ E24.own 85 = false ∧ E24.fact 22 = true ∧ E24.fact 42 = true ∧ E24.key 10 = 240010 ∧ E24.key 11 = 240011 ∧ E24.key 14 = 240014 ∧ E24.key 15 = 240015 ∧ E24.key 17 = 240017 ∧ E24.key 20 = 240020 ∧ E24.key 85 = 240085 ∧ E24.key 86 = 3 := ⟨rfl, rfl, rfl, rfl, rfl, rfl, rfl, rfl, rfl, rfl, rfl, rfl⟩

set_option maxRecDepth 20000 in
theorem iok24 : IConOk Try.prog 24 icon24 := by
  refine icon_of_run (E := E24) E24_ok (fn := Try.f24) Try.func24 rfl (by decide) (by kernel_rfl) (rs := []) rfl (by decide) (by decide)  ?_ ?_
  · rintro o ps ⟨ro, gr, sign, l, rfl, h, _⟩
    refine ⟨fun K => if K = 1 then (1, some (.box 69 [.row 3 1 (gr.foldl (addG ro sign) l).length, .map 2 1])) else if K = 2 then (1, some (.map 99 3 (gr.foldl (addG ro sign) l).length (esOf 0 (gr.foldl (addG ro sign) l)))) else if K = 3 then (1, some (.row 3 99 (((gr.foldl (addG ro sign) l).map (·.1)).map Triple.row))) else o K, .tup [], ro, gr, sign, l, rfl, h, ⟨_, rfl, rfl, .inr ⟨1, rfl, rfl⟩⟩, fun K h1 h2 => ?_, rfl⟩
    simp only
    rw [if_neg (by omega), if_neg (by omega), if_neg (by omega)]
  rintro o ps ⟨ro, gr, sign, l, rfl, hrep, hb1, hb2⟩
  have hrep0 := hrep
  obtain ⟨pord, ho1, ho2, hord⟩ := hrep
  simp (maxSteps := 1000000) only [startP_eq, startL, run_region, run_seq, run_block, run_loop, opsK_nil, opsK_op, seqK_normal, upd_apply, after_some, ev_tmp, ev_int, St.sv, St.sc, strip, stripC, pmap_some, op_move, op_assign, op_len, eK_some, Option.map_some, true_and, ↓reduceIte, Nat.reduceEqDiff, reduceCtorEq, Nat.reduceAdd, Nat.zero_add, and_self, Env.tk, lenV, List.length_map, lbK_true, lnK_none, lenF, maxLen_eq, op_makeMap, makeMapE, ty_r, E24_r]
  intro hro
  refine pwp_loop (fun n S => ∃ (i : Int) (v ck : Nat) (es : List (Nat × D × PV)), 0 ≤ i ∧ i ≤ (ro.length : Int) ∧ n = ((ro.length : Int) - i).toNat ∧ Holds E24 (ro.take i.toNat) es ∧ S.t 23 = .d (.int .i64 i) ∧ S.t 22 = .d (.int .i64 ro.length) ∧ S.t 21 = .d (.lst 9 (ro.map Claim.row)) ∧ S.t 8 = .map 240020 v ∧ S.o 240020 = (v, some (.map 3 49 ck es))
      ∧ S.t 0 = .ref 1 1 0 0 0 ∧ S.t 2 = .d (.lst 2 (gr.map Grant.row)) ∧ S.t 3 = .d (.int .i64 sign) ∧ ∀ K, K < 240000 → S.o K = o K)
    ((ro.length : Int) - 0).toNat ⟨0, _, _, [], by omega, by omega, rfl, ⟨rfl, fun _ => rfl⟩, rfl, rfl, rfl, rfl, rfl, rfl, rfl, rfl, fun K hK => by simp only [newOb]; rw [if_neg (by omega)]⟩ ?_
  rintro n ⟨t, o1⟩ ⟨i, v, ck, es, hi0, hil, hn, hH, h23, h22, h21, h8, hom, h0, h2, h3, hfr⟩
  simp only at h23 h22 h21 h8 hom h0 h2 h3 hfr
  by_cases hlt : i < (ro.length : Int)
  · have hcase : (∃ c0, (ro.take i.toNat).find? (fun c => c.Id == (ro.getD i.toNat .zero).Id) = some c0) ∨ (ro.take i.toNat).find? (fun c => c.Id == (ro.getD i.toNat .zero).Id) = none := by
      cases (ro.take i.toNat).find? (fun c => c.Id == (ro.getD i.toNat .zero).Id) with
      | some c0 => exact .inl ⟨c0, rfl⟩
      | none => exact .inr rfl
    have hnext : ro.take (i + 1).toNat = ro.take i.toNat ++ [ro.getD i.toNat .zero] := by
      have hi2 : i.toNat < ro.length := by omega
      rw [show (i + 1).toNat = i.toNat + 1 by omega, List.take_succ_eq_append_getElem hi2]
      simp [hi2]
    rcases hcase with ⟨c0, hc0⟩ | hc0
    · obtain ⟨hmh, hmv⟩ := mhas_some (by rw [hH.2, hc0]; rfl : (mfind (.int .i64 (ro.getD i.toNat .zero).Id) es).map (·.2) = some (.d (.agg c0.row)))
      simp (maxSteps := 1000000) only [List.map_cons, List.map_nil, run_skip, run_region, run_seq, run_cond, run_block, run_exit, run_loop, opsK_nil, opsK_op, seqK_normal, seqK_exit, blkK_normal, blkK_exit, loopK_normal, loopK_exit, condK_bool, upd_apply, after_some, after_none, ev_tmp, ev_int, St.sv, St.sc, strip, stripC, pK_none, pmap_some, op_move, op_assign, on_bin, op_un, op_ext, op_load, op_fa, op_ia, op_len, bin_add, bin_lss, unV, eK_some, emap_some, op_alloc, op_store, extV, Option.map_some, true_implies, true_and, ↓reduceIte, Nat.reduceEqDiff, Nat.reduceAdd, Nat.reduceLT, Nat.reduceLeDiff, Nat.zero_add, Nat.add_zero, List.append_nil, List.nil_append, List.getElem?_cons_succ, List.getElem?_cons_zero, decide_eq_true_eq, Bool.not_true, and_self, Env.tk, loadV, fieldAddrV, indexAddrV, lenV, loadD, loadP, allocE, storeE, St.obj, TI.isAgg, plainTI, zpv, cellsP, refNew, newOb, setOb, cut, List.getD_cons_zero, List.length_cons, List.length_nil, List.length_map, pN_bool, pN_int, lbK_true, lnK_none, lenF, List.take_succ_cons, List.take_zero, List.drop_zero, List.drop_succ_cons, List.take_nil, List.drop_nil, Nat.mul_zero, pagg, allD, Bool.false_eq_true, maxLen_eq, op_lookup, op_mapUpdate, lookupV, mapUpdE, plainTI, ty_r, E24_r, Claim.getD, Claim.row, h23, h22, h21, h8, hom, h2, hmh, hmv, mkey, hH.1]
      intro x hx
      simp only [Named] at hx
      refine ⟨fun _ => ⟨⟨hi0, hlt⟩, fun hF => hF.elim, ?_⟩, fun hxf => by subst hx; simp [hlt] at hxf⟩
      refine ghost_id ⟨((ro.length : Int) - (i + 1)).toNat, by omega, i + 1, v, ck, es, by omega, by omega, rfl, ?_, ?_, h22, h21, h8, ?_, h0, h2, h3, ?_⟩
      · rw [hnext]; exact holds_skip hH hc0
      · simp only [upd_apply, ↓reduceIte]; rw [wrap64 (by omega) (by omega)]
      · simp only [setOb, newOb, Nat.reduceEqDiff, ↓reduceIte, hom]
      · intro K hK
        simp only [setOb, newOb]
        rw [if_neg (by omega), if_neg (by omega), if_neg (by omega), if_neg (by omega)]
        exact hfr K hK
    · obtain ⟨hmh, hmv⟩ := mhas_none (by have := hH.2 (ro.getD i.toNat .zero).Id; rw [hc0] at this; simpa using this : mfind (.int .i64 (ro.getD i.toNat .zero).Id) es = none)
      simp (maxSteps := 1000000) only [List.map_cons, List.map_nil, run_skip, run_region, run_seq, run_cond, run_block, run_exit, run_loop, opsK_nil, opsK_op, seqK_normal, seqK_exit, blkK_normal, blkK_exit, loopK_normal, loopK_exit, condK_bool, upd_apply, after_some, after_none, ev_tmp, ev_int, St.sv, St.sc, strip, stripC, pK_none, pmap_some, op_move, op_assign, on_bin, op_un, op_ext, op_load, op_fa, op_ia, op_len, bin_add, bin_lss, unV, eK_some, emap_some, op_alloc, op_store, extV, Option.map_some, true_implies, true_and, ↓reduceIte, Nat.reduceEqDiff, reduceCtorEq, Nat.reduceAdd, Nat.reduceLT, Nat.reduceLeDiff, Nat.zero_add, Nat.add_zero, List.append_nil, List.nil_append, List.getElem?_cons_succ, List.getElem?_cons_zero, decide_eq_true_eq, Bool.not_false, and_self, Env.tk, loadV, fieldAddrV, indexAddrV, lenV, loadD, loadP, allocE, storeE, St.obj, TI.isAgg, plainTI, zpv, cellsP, refNew, newOb, setOb, cut, List.getD_cons_zero, List.length_cons, List.length_nil, List.length_map, pN_bool, pN_int, lbK_true, lnK_none, lenF, List.take_succ_cons, List.take_zero, List.drop_zero, List.drop_succ_cons, List.take_nil, List.drop_nil, Nat.mul_zero, pagg, allD, Bool.false_eq_true, maxLen_eq, op_lookup, op_mapUpdate, lookupV, mapUpdE, plainTI, ty_r, E24_r, Claim.getD, Claim.row, h23, h22, h21, h8, hom, h2, hmh, hmv, mkey, hH.1, zvp]
      intro x hx
      simp only [Named] at hx
      refine ⟨fun _ => ⟨⟨hi0, hlt⟩, ?_⟩, fun hxf => by subst hx; simp [hlt] at hxf⟩
      refine ⟨ghost_id ⟨((ro.length : Int) - (i + 1)).toNat, by omega, i + 1, v, mclock (.int .i64 (ro.getD i.toNat .zero).Id) es ck, mput (.int .i64 (ro.getD i.toNat .zero).Id) (.d (.agg (ro.getD i.toNat .zero).row)) ck es, by omega, by omega, rfl, ?_, ?_, h22, h21, h8, ?_, h0, h2, h3, ?_⟩, fun hF => hF.elim⟩
      · rw [hnext]; exact holds_new (by simp only [mkey, E24_r, ty_r, decide_true]) hH hc0
      · simp only [upd_apply, ↓reduceIte]; rw [wrap64 (by omega) (by omega)]
      · simp only [setOb, newOb, Nat.reduceEqDiff, ↓reduceIte, hom]; rfl
      · intro K hK
        simp only [setOb, newOb]
        rw [if_neg (by omega), if_neg (by omega), if_neg (by omega), if_neg (by omega), if_neg (by omega)]
        exact hfr K hK
  · have hdec : decide (i < (ro.length : Int)) = false := by simp; omega
    rw [List.take_of_length_le (by omega)] at hH
    simp (maxSteps := 1000000) only [List.map_cons, List.map_nil, run_skip, run_region, run_seq, run_cond, run_block, run_exit, run_loop, opsK_nil, opsK_op, seqK_normal, seqK_exit, blkK_exit, loopK_exit, condK_bool, upd_apply, after_some, after_none, ev_tmp, ev_int, St.sv, St.sc, strip, stripC, pK_none, pmap_some, op_move, on_bin, op_ext, op_load, op_fa, op_ia, op_len, bin_lss, eK_some, emap_some, op_alloc, op_store, extV, Option.map_some, true_and, ↓reduceIte, Nat.reduceEqDiff, Nat.reduceAdd, Nat.reduceLT, Nat.reduceLeDiff, Nat.zero_add, Nat.add_zero, List.append_nil, List.nil_append, List.getElem?_cons_succ, List.getElem?_cons_zero, and_self, Env.tk, loadV, fieldAddrV, indexAddrV, lenV, loadD, loadP, allocE, storeE, St.obj, TI.isAgg, plainTI, zpv, cellsP, refNew, newOb, setOb, cut, List.getD_cons_zero, List.length_cons, List.length_nil, List.length_map, pN_bool, lbK_true, lnK_none, lenF, List.take_succ_cons, List.take_zero, List.drop_zero, List.drop_succ_cons, List.take_nil, List.drop_nil, Nat.mul_zero, Bool.false_eq_true, maxLen_eq, op_lookup, lookupV, plainTI, ty_r, E24_r, Claim.getD, Claim.row, h23, h22, h21, h8, hom, h2, hdec]
    intro x hx
    simp only [Named] at hx
    refine ⟨fun hxt => (by subst hx; cases hxt), fun _ hgr => ?_⟩
    have hkt : ∀ T : Triple, mkey E24 99 (.agg T.row) = true := fun T => by simp only [mkey, E24_r, ty_r, Triple.row, oneCells, shapes, shape1, D.sk, decide_true, Bool.and_self, beq_self_eq_true, Bool.not_false]
    have hks := fun l => mkeys_esOf hkt l 0
    refine pwp_loop (fun n S => ∃ (k : Int) (p2 : PV), 0 ≤ k ∧ k ≤ (gr.length : Int) ∧ n = ((gr.length : Int) - k).toNat ∧ ((gr.take k.toNat).foldl (addG ro sign) l).length ≤ l.length + k.toNat ∧ S.t 43 = .d (.int .i64 k) ∧ S.t 42 = .d (.int .i64 gr.length) ∧ S.t 41 = .d (.lst 2 (gr.map Grant.row)) ∧ S.t 8 = .map 240020 v ∧ S.o 240020 = (v, some (.map 3 49 ck es)) ∧ S.t 0 = .ref 1 1 0 0 0 ∧ S.t 3 = .d (.int .i64 sign)
        ∧ S.o 1 = (1, some (.box 69 [p2, .map 2 1])) ∧ S.o 2 = (1, some (.map 99 3 ((gr.take k.toNat).foldl (addG ro sign) l).length (esOf 0 ((gr.take k.toNat).foldl (addG ro sign) l)))) ∧ ordRep S.o p2 ((gr.take k.toNat).foldl (addG ro sign) l) ∧ ∀ K, 3 < K → K < 240000 → S.o K = o K)
      ((gr.length : Int) - 0).toNat ⟨0, pord, by omega, by omega, rfl, by simp, rfl, rfl, rfl, h8, hom, h0, h3, by simp only [hfr 1 (by omega), ho1], by simp only [hfr 2 (by omega), ho2]; rfl, by unfold ordRep at hord ⊢; simp only [hfr 3 (by omega)]; exact hord, fun K _ hK => hfr K hK⟩ ?_
    clear h23 h22 h21 h8 hom h0 h2 h3 hfr hx
    rintro n ⟨t, o1⟩ ⟨k, p2, hk0, hkl, hn, hll, h43, h42, h41, h8, hom, h0, h3, ho1, ho2, hord, hfr⟩
    simp only at h43 h42 h41 h8 hom h0 h3 ho1 ho2 hord hfr
    by_cases hlt : k < (gr.length : Int)
    · have hk2 : k.toNat < gr.length := by omega
      have hfo := foldTake (addG ro sign) l gr k.toNat .zero hk2
      rw [show k.toNat + 1 = (k + 1).toNat by omega] at hfo
      generalize (gr.take k.toNat).foldl (addG ro sign) l = L at hfo hll ho2 hord
      generalize hg : gr.getD k.toNat .zero = g at hfo
      have skip : addG ro sign L g = L → ∀ (t' : Nat → PV) (o' : Objs), t' 43 = .d (.int .i64 (IntKind.i64.wrap (k + 1))) → (∀ j, j ∈ [42, 41, 8, 0, 3] → t' j = t j) → (∀ K, K ∈ [1, 2, 3, 240020] → o' K = o1 K) → (∀ K, 3 < K → K < 240000 → o' K = o1 K) →
          ∃ S0, Ghost ⟨t', o'⟩ S0 ∧ ∃ m, m < n ∧ ∃ (k : Int) (p2 : PV), 0 ≤ k ∧ k ≤ (gr.length : Int) ∧ m = ((gr.length : Int) - k).toNat ∧ ((gr.take k.toNat).foldl (addG ro sign) l).length ≤ l.length + k.toNat ∧ S0.t 43 = .d (.int .i64 k) ∧ S0.t 42 = .d (.int .i64 gr.length) ∧ S0.t 41 = .d (.lst 2 (gr.map Grant.row)) ∧ S0.t 8 = .map 240020 v ∧ S0.o 240020 = (v, some (.map 3 49 ck es)) ∧ S0.t 0 = .ref 1 1 0 0 0 ∧ S0.t 3 = .d (.int .i64 sign)
        ∧ S0.o 1 = (1, some (.box 69 [p2, .map 2 1])) ∧ S0.o 2 = (1, some (.map 99 3 ((gr.take k.toNat).foldl (addG ro sign) l).length (esOf 0 ((gr.take k.toNat).foldl (addG ro sign) l)))) ∧ ordRep S0.o p2 ((gr.take k.toNat).foldl (addG ro sign) l) ∧ ∀ K, 3 < K → K < 240000 → S0.o K = o K := by
        intro hs t' o' e43 et eo ef
        refine ghost_id ⟨((gr.length : Int) - (k + 1)).toNat, by omega, k + 1, p2, by omega, by omega, rfl, by rw [hfo, hs]; omega, e43.trans (by rw [wrap64 (by omega) (by omega)]), (et 42 (by simp)).trans h42, (et 41 (by simp)).trans h41, (et 8 (by simp)).trans h8, (eo 240020 (by simp)).trans hom, (et 0 (by simp)).trans h0, (et 3 (by simp)).trans h3, (eo 1 (by simp)).trans ho1, (eo 2 (by simp)).trans (by rw [ho2, hfo, hs]), ?_, fun K h1 h2 => (ef K h1 h2).trans (hfr K h1 h2)⟩
        rw [hfo, hs]
        unfold ordRep at hord ⊢
        simp only [eo 3 (by simp)]
        exact hord
      cases hc : ro.find? (fun c => c.Id == g.Right) with
      | none =>
        have hs : addG ro sign L g = L := by unfold addG; rw [hc]
        subst hg
        obtain ⟨hmh, hmv⟩ := mhas_none (by have := hH.2 (gr.getD k.toNat .zero).Right; rw [hc] at this; simpa using this : mfind (.int .i64 (gr.getD k.toNat .zero).Right) es = none)
        simp (maxSteps := 1000000) only [List.map_cons, List.map_nil, run_skip, run_region, run_seq, run_cond, run_block, run_exit, opsK_nil, opsK_op, seqK_normal, seqK_exit, blkK_exit, loopK_normal, loopK_exit, endP_normal, condK_bool, upd_apply, after_some, after_none, ev_tmp, ev_int, ev_bool, St.sv, St.sc, strip, stripC, argsC, pK_none, pK_some, gpK_some, pmap_some, gK, gB_bool, op_move, op_assign, on_pick, on_bin, op_un, op_ext, op_load, op_fa, op_ia, op_build, on_gbin, op_gload, op_gfa, bin_add, bin_mul, bin_lss, bin_leq, pick_b, unV, eK_some, emap_some, op_alloc, op_store, op_lit, lK_false, extV, Option.bind_some, Option.map_some, true_and, and_true, implies_true, ↓reduceIte, Nat.reduceEqDiff, reduceCtorEq, Nat.reduceAdd, Nat.reduceLT, Nat.reduceLeDiff, Nat.zero_add, Nat.add_zero, List.append_nil, List.nil_append, Bool.and_self, List.getElem?_toArray, List.getElem?_cons_succ, List.getElem?_cons_zero, beq_false, beq_self_eq_true, Bool.true_and, Bool.not_eq_true', decide_eq_true_eq, Bool.not_false, Bool.not_true, imp_self, and_self, Env.tk, loadV, fieldAddrV, indexAddrV, loadD, loadP, allocE, storeE, St.obj, TI.isAgg, plainTI, zpv, cellsP, refNew, newOb, setOb, cut, List.getD_cons_zero, List.getD_cons_succ, List.length_cons, List.length_nil, List.length_map, pN_bool, pN_int, pN_gbool, gpN_some, oneCells, D.sk, List.take_succ_cons, List.take_zero, List.drop_zero, List.drop_succ_cons, List.take_nil, List.drop_nil, Nat.mul_zero, pagg, allD, buildV, fillP, dcells, dcell, List.cons_append, Bool.false_eq_true, op_lookup, op_nilCheck, lookupV, nilCheckV, plainTI, ty_r, E24_r, Grant.getD, Grant.row, h43, h42, h41, h8, hom, h0, h3, ho1, ho2, hmh, hmv, mkey, hH.1, zvp]
        intro x hx
        simp only [Named] at hx
        refine ⟨fun _ => ⟨⟨hk0, hlt⟩, fun y hy z hz => ⟨fun hzt => ?_, fun hzf => ?_⟩⟩, fun hxf => (by subst hx; simp [hlt] at hxf)⟩
        · refine skip hs _ _ rfl (fun j hj => ?_) (fun K hK => ?_) (fun K h1 h2 => ?_)
          · simp only [List.mem_cons, List.not_mem_nil, or_false] at hj
            rcases hj with rfl | rfl | rfl | rfl | rfl <;> rfl
          · simp only [List.mem_cons, List.not_mem_nil, or_false] at hK
            rcases hK with rfl | rfl | rfl | rfl <;> rfl
          · simp only [setOb, newOb]
            repeat rw [if_neg (by omega)]
        · simp [Named] at hy hz; simp_all
      | some c =>
        subst hg
        obtain ⟨hmh, hmv⟩ := mhas_some (by rw [hH.2, hc]; rfl : (mfind (.int .i64 (gr.getD k.toNat .zero).Right) es).map (·.2) = some (.d (.agg c.row)))
        by_cases hlit : (gr.getD k.toNat .zero).Litres ≤ 0
        · have hs : addG ro sign L (gr.getD k.toNat .zero) = L := by unfold addG; rw [hc]; simp only [hlit, if_true]
          have hlit' : decide ((gr.getD k.toNat .zero).Litres ≤ 0) = true := by simpa using hlit
          simp (maxSteps := 1000000) only [List.map_cons, List.map_nil, run_skip, run_region, run_seq, run_cond, run_block, run_exit, opsK_nil, opsK_op, seqK_normal, seqK_exit, blkK_exit, loopK_normal, loopK_exit, endP_normal, condK_bool, upd_apply, after_some, after_none, ev_tmp, ev_int, ev_bool, St.sv, St.sc, strip, stripC, argsC, pK_none, pK_some, gpK_some, pmap_some, gK, gB_bool, op_move, op_assign, on_pick, on_bin, op_un, op_ext, op_load, op_fa, op_ia, op_build, on_gbin, op_gload, op_gfa, bin_add, bin_mul, bin_lss, bin_leq, pick_b, unV, eK_some, emap_some, op_alloc, op_store, op_lit, lK_false, extV, Option.bind_some, Option.map_some, true_and, and_true, implies_true, ↓reduceIte, Nat.reduceEqDiff, reduceCtorEq, Nat.reduceAdd, Nat.reduceLT, Nat.reduceLeDiff, Nat.zero_add, Nat.add_zero, List.append_nil, List.nil_append, Bool.and_self, List.getElem?_toArray, List.getElem?_cons_succ, List.getElem?_cons_zero, beq_self_eq_true, Bool.true_and, Bool.not_eq_true', decide_eq_true_eq, Bool.not_false, Bool.not_true, and_self, Env.tk, loadV, fieldAddrV, indexAddrV, loadD, loadP, allocE, storeE, St.obj, TI.isAgg, plainTI, zpv, cellsP, refNew, newOb, setOb, cut, List.getD_cons_zero, List.getD_cons_succ, List.length_cons, List.length_nil, List.length_map, pN_bool, pN_int, pN_gbool, gpN_some, oneCells, D.sk, List.take_succ_cons, List.take_zero, List.drop_zero, List.drop_succ_cons, List.take_nil, List.drop_nil, Nat.mul_zero, pagg, allD, buildV, fillP, dcells, dcell, List.cons_append, Bool.false_eq_true, op_lookup, op_nilCheck, lookupV, nilCheckV, plainTI, ty_r, E24_r, Claim.row, Grant.getD, Grant.row, h43, h42, h41, h8, hom, h0, h3, ho1, ho2, hmh, hmv, mkey, hH.1, hlit']
          intro x hx
          simp only [Named] at hx
          refine ⟨fun _ => ⟨⟨hk0, hlt⟩, fun y hy z hz => ⟨fun hzt => ?_, fun hzf => ?_⟩⟩, fun hxf => (by subst hx; simp [hlt] at hxf)⟩
          · refine skip hs _ _ rfl (fun j hj => ?_) (fun K hK => ?_) (fun K h1 h2 => ?_)
            · simp only [List.mem_cons, List.not_mem_nil, or_false] at hj
              rcases hj with rfl | rfl | rfl | rfl | rfl <;> rfl
            · simp only [List.mem_cons, List.not_mem_nil, or_false] at hK
              rcases hK with rfl | rfl | rfl | rfl <;> rfl
            · simp only [setOb, newOb]
              repeat rw [if_neg (by omega)]
          · simp [Named] at hy hz; simp_all
        · have hlit' : decide ((gr.getD k.toNat .zero).Litres ≤ 0) = false := by simpa using hlit
          generalize hX : IntKind.i64.wrap (sign * (gr.getD k.toNat .zero).Litres) = X
          have hs : addG ro sign L (gr.getD k.toNat .zero) = upsert (tri c) X L := by unfold addG; rw [hc]; simp only [hlit, if_false, ← hX]; rfl
          have hul := upsert_len (tri c) X L
          have huf := upsert_fst (tri c) X L
          by_cases hT : hasT (tri c) L = true
          · rw [if_pos hT] at hul huf
            simp (maxSteps := 1000000) only [List.map_cons, List.map_nil, run_skip, run_region, run_seq, run_cond, run_block, run_exit, opsK_nil, opsK_op, seqK_normal, seqK_exit, blkK_normal, blkK_exit, loopK_normal, loopK_exit, endP_normal, condK_bool, upd_apply, after_some, after_none, ev_tmp, ev_int, ev_bool, St.sv, St.sc, strip, stripC, argsC, pK_none, pK_some, gpK_some, pmap_some, gK, gB_bool, op_move, op_assign, on_pick, on_bin, op_un, op_ext, op_load, op_fa, op_ia, op_build, on_gbin, op_gload, op_gfa, bin_add, bin_mul, bin_lss, bin_leq, pick_b, unV, eK_some, emap_some, op_alloc, op_store, op_lit, lK_false, extV, Option.bind_some, Option.map_some, true_implies, true_and, implies_true, ↓reduceIte, Nat.reduceEqDiff, reduceCtorEq, Nat.reduceAdd, Nat.reduceLT, Nat.reduceLeDiff, Nat.zero_add, Nat.add_zero, List.append_nil, List.nil_append, Bool.and_self, List.getElem?_toArray, List.getElem?_cons_succ, List.getElem?_cons_zero, beq_self_eq_true, Bool.and_true, Bool.true_and, decide_eq_true_eq, Bool.not_false, Bool.not_true, and_self, Env.tk, loadV, fieldAddrV, indexAddrV, loadD, loadP, allocE, storeE, St.obj, TI.isAgg, plainTI, zpv, cellsP, refNew, newOb, setOb, cut, List.getD_cons_zero, List.getD_cons_succ, List.length_cons, List.length_nil, List.length_map, pN_bool, pN_int, pN_gbool, gpN_some, oneCells, D.sk, List.take_succ_cons, List.take_zero, List.drop_zero, List.drop_succ_cons, List.take_nil, List.drop_nil, Nat.mul_zero, pagg, allD, buildV, fillP, dcells, dcell, List.cons_append, Bool.false_eq_true, op_lookup, op_nilCheck, op_mapEntry, op_entryStore, lookupV, nilCheckV, mapEntE, mapStoE, plainTI, ty_r, E24_r, Claim.row, Grant.getD, Grant.row, h43, h42, h41, h8, hom, h0, h3, ho1, ho2, hmh, hmv, mkey, hH.1, hlit', shapes, shape1, hks, mhas_0, mval_0, hT, put_sto0, mlast_put0, mclock_0 c X L, hX, zvp]
            intro x hx
            simp only [Named] at hx
            refine ⟨fun _ => ⟨⟨hk0, hlt⟩, fun y hy z hz => ⟨fun hzt => (by simp [Named] at hy hz; simp_all), fun hzf => ?_⟩⟩, fun hxf => (by subst hx; simp [hlt] at hxf)⟩
            refine ⟨fun hF => hF.elim, ?_⟩
            refine ghost_id ⟨((gr.length : Int) - (k + 1)).toNat, by omega, k + 1, p2, by omega, by omega, rfl, by rw [hfo, hs, hul]; omega, ?_, h42, h41, h8, ?_, h0, h3, ?_, ?_, ?_, fun K h1 h2 => ?_⟩
            · simp only [upd_apply, ↓reduceIte]; rw [wrap64 (by omega) (by omega)]
            · simp only [setOb, newOb, Nat.reduceEqDiff, ↓reduceIte, hom]
            · simp only [setOb, newOb, Nat.reduceEqDiff, ↓reduceIte, ho1]
            · simp only [setOb, newOb, Nat.reduceEqDiff, ↓reduceIte, ho2, hfo, hs]
            · rw [hfo, hs]
              unfold ordRep at hord ⊢
              simp only [setOb, newOb, Nat.reduceEqDiff, ↓reduceIte, hul, huf]
              rcases hord with ⟨e1, e2⟩ | hord
              · rw [e2] at hT; simp [hasT] at hT
              · exact .inr hord
            · simp only [setOb, newOb]
              repeat rw [if_neg (by omega)]
              exact hfr K h1 h2
          · rw [if_neg hT] at hul huf
            have hT' : hasT (tri c) L = false := by simpa using hT
            rcases hord with ⟨rfl, hL⟩ | ⟨w, rfl, ho3⟩
            · simp (maxSteps := 1000000) only [List.map_cons, List.map_nil, run_skip, run_region, run_seq, run_cond, run_block, run_exit, opsK_nil, opsK_op, seqK_normal, seqK_exit, blkK_normal, blkK_exit, loopK_normal, loopK_exit, endP_normal, condK_bool, upd_apply, after_some, after_none, ev_tmp, ev_int, ev_bool, St.sv, St.sc, strip, stripC, argsC, pK_none, pK_some, gpK_some, pmap_some, gK, gB_bool, op_move, op_assign, on_pick, on_bin, op_un, op_ext, op_load, op_fa, op_ia, op_build, on_gbin, op_gload, op_gfa, bin_add, bin_mul, bin_lss, bin_leq, pick_b, unV, eK_some, emap_some, op_alloc, op_store, op_app, op_lit, lK_false, extV, Option.bind_some, Option.map_some, true_implies, true_and, implies_true, ↓reduceIte, Nat.reduceEqDiff, reduceCtorEq, Nat.reduceAdd, Nat.reduceMul, Nat.reduceLT, Nat.reduceLeDiff, Nat.zero_add, Nat.add_zero, List.append_nil, List.nil_append, Bool.and_self, List.getElem?_toArray, List.getElem?_cons_succ, List.getElem?_cons_zero, beq_self_eq_true, Bool.and_true, Bool.true_and, decide_eq_true_eq, Bool.not_false, Bool.not_true, and_self, Env.tk, loadV, fieldAddrV, indexAddrV, loadD, loadP, allocE, storeE, St.obj, TI.isAgg, plainTI, zpv, cellsP, refNew, newOb, setOb, cut, List.getD_cons_zero, List.getD_cons_succ, List.length_cons, List.length_nil, List.length_map, pN_bool, pN_int, pN_gbool, gpN_some, oneCells, D.sk, List.take_succ_cons, List.take_zero, List.drop_zero, List.drop_succ_cons, List.take_nil, List.drop_nil, Nat.mul_zero, pagg, allD, buildV, fillP, dcells, dcell, List.cons_append, Bool.false_eq_true, op_lookup, op_nilCheck, op_mapEntry, op_entryStore, lookupV, nilCheckV, mapEntE, mapStoE, plainTI, ty_r, E24_r, Claim.row, Grant.getD, Grant.row, h43, h42, h41, h8, hom, h0, h3, ho1, ho2, hmh, hmv, mkey, hH.1, hlit', shapes, shape1, hks, mhas_0, mval_0, hT', put_sto0, mlast_put0, mclock_0 c X L, hX, zvp, litV, lit1t, appE, appR, rowsV, rowNew]
              intro x hx
              simp only [Named] at hx
              refine ⟨fun _ => ⟨⟨hk0, hlt⟩, fun y hy z hz => ⟨fun hzt => (by simp [Named] at hy hz; simp_all), fun hzf => ?_⟩⟩, fun hxf => (by subst hx; simp [hlt] at hxf)⟩
              refine ⟨?_, fun hF => hF.elim⟩
              refine ghost_id ⟨((gr.length : Int) - (k + 1)).toNat, by omega, k + 1, .row 3 ((o1 3).1 + 1) 1, by omega, by omega, rfl, by rw [hfo, hs, hul]; omega, ?_, h42, h41, h8, ?_, h0, h3, ?_, ?_, ?_, fun K h1 h2 => ?_⟩
              · simp only [upd_apply, ↓reduceIte]; rw [wrap64 (by omega) (by omega)]
              · simp only [setOb, newOb, Nat.reduceEqDiff, ↓reduceIte, hom]
              · simp only [setOb, newOb, Nat.reduceEqDiff, ↓reduceIte, ho1]
              · simp only [setOb, newOb, Nat.reduceEqDiff, ↓reduceIte, ho2, hfo, hs]
              · rw [hfo, hs]
                refine .inr ⟨_, by rw [hul, hL]; rfl, ?_⟩
                simp only [setOb, newOb, Nat.reduceEqDiff, ↓reduceIte, hL]; rfl
              · simp only [setOb, newOb]
                repeat rw [if_neg (by omega)]
                exact hfr K h1 h2
            · simp (maxSteps := 1000000) only [List.map_cons, List.map_nil, run_skip, run_region, run_seq, run_cond, run_block, run_exit, opsK_nil, opsK_op, seqK_normal, seqK_exit, blkK_normal, blkK_exit, loopK_normal, loopK_exit, endP_normal, condK_bool, upd_apply, after_some, after_none, ev_tmp, ev_int, ev_bool, St.sv, St.sc, strip, stripC, argsC, pK_none, pK_some, gpK_some, pmap_some, gK, gB_bool, op_move, op_assign, on_pick, on_bin, op_un, op_ext, op_load, op_fa, op_ia, op_build, on_gbin, op_gload, op_gfa, bin_add, bin_mul, bin_lss, bin_leq, pick_b, unV, eK_some, emap_some, op_alloc, op_store, op_app, op_lit, lK_false, extV, Option.bind_some, Option.map_some, true_implies, true_and, implies_true, ↓reduceIte, Nat.reduceEqDiff, reduceCtorEq, Nat.reduceAdd, Nat.reduceMul, Nat.reduceLT, Nat.reduceLeDiff, Nat.zero_add, Nat.add_zero, List.append_nil, List.nil_append, Bool.and_self, List.getElem?_toArray, List.getElem?_cons_succ, List.getElem?_cons_zero, beq_self_eq_true, Bool.and_true, Bool.true_and, decide_eq_true_eq, Bool.not_false, Bool.not_true, and_self, Env.tk, loadV, fieldAddrV, indexAddrV, loadD, loadP, allocE, storeE, St.obj, TI.isAgg, plainTI, zpv, cellsP, refNew, newOb, setOb, cut, List.getD_cons_zero, List.getD_cons_succ, List.length_cons, List.length_nil, List.length_map, pN_bool, pN_int, pN_gbool, gpN_some, oneCells, D.sk, List.take_succ_cons, List.take_zero, List.drop_zero, List.drop_succ_cons, List.take_nil, List.drop_nil, Nat.mul_zero, pagg, allD, buildV, fillP, dcells, dcell, List.cons_append, Bool.false_eq_true, op_lookup, op_nilCheck, op_mapEntry, op_entryStore, lookupV, nilCheckV, mapEntE, mapStoE, plainTI, ty_r, E24_r, Claim.row, Grant.getD, Grant.row, h43, h42, h41, h8, hom, h0, h3, ho1, ho2, ho3, hmh, hmv, mkey, hH.1, hlit', shapes, shape1, hks, mhas_0, mval_0, hT', put_sto0, mlast_put0, mclock_0 c X L, hX, zvp, litV, lit1t, appE, appR, rowsV, rowNew]
              intro x hx
              simp only [Named] at hx
              refine ⟨fun _ => ⟨⟨hk0, hlt⟩, fun y hy z hz => ⟨fun hzt => (by simp [Named] at hy hz; simp_all), fun hzf => ?_⟩⟩, fun hxf => (by subst hx; simp [hlt] at hxf)⟩
              refine ⟨⟨by omega, ?_⟩, fun hF => hF.elim⟩
              refine ghost_id ⟨((gr.length : Int) - (k + 1)).toNat, by omega, k + 1, .row 3 (w + 1) (L.length + 1), by omega, by omega, rfl, by rw [hfo, hs, hul]; omega, ?_, h42, h41, h8, ?_, h0, h3, ?_, ?_, ?_, fun K h1 h2 => ?_⟩
              · simp only [upd_apply, ↓reduceIte]; rw [wrap64 (by omega) (by omega)]
              · simp only [setOb, newOb, Nat.reduceEqDiff, ↓reduceIte, hom]
              · simp only [setOb, newOb, Nat.reduceEqDiff, ↓reduceIte, ho1]
              · simp only [setOb, newOb, Nat.reduceEqDiff, ↓reduceIte, ho2, hfo, hs]
              · rw [hfo, hs]
                refine .inr ⟨_, by rw [hul], ?_⟩
                simp only [setOb, newOb, Nat.reduceEqDiff, ↓reduceIte, huf, List.map_append, List.map_cons, List.map_nil, ho3]; rfl
              · simp only [setOb, newOb]
                repeat rw [if_neg (by omega)]
                exact hfr K h1 h2
    · have hdec : decide (k < (gr.length : Int)) = false := by simp; omega
      rw [List.take_of_length_le (by omega)] at ho2 hord
      simp (maxSteps := 1000000) only [List.map_cons, List.map_nil, run_skip, run_region, run_seq, run_cond, run_block, run_exit, opsK_nil, opsK_op, seqK_normal, seqK_exit, blkK_exit, loopK_exit, endP_normal, condK_bool, upd_apply, after_some, after_none, ev_tmp, St.sv, St.sc, strip, stripC, pK_none, pmap_some, op_move, on_bin, op_ext, op_load, op_fa, op_ia, bin_lss, eK_some, emap_some, op_alloc, op_store, resPs, packP, extV, Option.map_some, true_and, ↓reduceIte, Nat.reduceEqDiff, Nat.reduceAdd, Nat.reduceLT, Nat.reduceLeDiff, Nat.zero_add, Nat.add_zero, List.append_nil, List.nil_append, List.getElem?_cons_succ, List.getElem?_cons_zero, and_self, Env.tk, loadV, fieldAddrV, indexAddrV, loadD, loadP, allocE, storeE, St.obj, TI.isAgg, plainTI, zpv, cellsP, refNew, newOb, setOb, cut, List.getD_cons_zero, List.length_cons, List.length_nil, List.length_map, pN_bool, List.take_succ_cons, List.take_zero, List.drop_zero, List.drop_succ_cons, List.take_nil, List.drop_nil, Nat.mul_zero, Bool.false_eq_true, op_lookup, lookupV, plainTI, ty_r, E24_r, Grant.getD, Grant.row, ioutK, ioutM, h43, h42, h41, h8, hom, hdec]
      intro x hx
      simp only [Named] at hx
      refine ⟨fun hxt => (by subst hx; cases hxt), fun _ => ?_⟩
      exact ⟨ro, gr, sign, l, rfl, hrep0, ⟨p2, ho1, ho2, hord⟩, hfr, rfl⟩
end Go.Proofs.Ytomnjbebgfadoaa.Pi
end
section
/- Shares of triples: entries, in the program.
   Conditions: none; lemmas. -/
set_option linter.unusedVariables false
set_option linter.unusedSimpArgs false
namespace Go.Proofs.Ytomnjbebgfadoaa.Pi
open Go Go.RowKit Go.Proofs
set_option maxHeartbeats 4000000
/-- The two entries of a triple's litres. -/
def entE (day known why : Int) (x : Triple × Int) : List Entry := if x.2 = 0 then [] else [⟨day, known, x.1.owner, x.1.place, x.2, why, x.1.right⟩, ⟨day, known, -1, x.1.place, IntKind.i64.wrap (0 - x.2), why, x.1.right⟩]
def entF (day known why : Int) (out : List Entry) (x : Triple × Int) : List Entry := out ++ entE day known why x
theorem entF_eq (day known why : Int) : ∀ (l : List (Triple × Int)) (out : List Entry), l.foldl (entF day known why) out = out ++ l.flatMap (entE day known why)
  | [], out => by simp
  | x :: l, out => by simp [entF, entF_eq day known why l]
def icon25 : ICon := ⟨fun o ps => ∃ (day known why : Int) (l : List (Triple × Int)), ps = [.ref 1 1 0 0 0, .d (.int .i64 day), .d (.int .i64 known), .d (.int .i64 why)] ∧ shRep o l ∧ (l.map (·.1)).Nodup ∧ l.length ≤ 1000000,
  fun o ps o' p => ∃ (day known why : Int) (l : List (Triple × Int)), ps = [.ref 1 1 0 0 0, .d (.int .i64 day), .d (.int .i64 known), .d (.int .i64 why)] ∧ shRep o l ∧ (∀ K, K < 250000 → o' K = o K) ∧ ∃ v, p = .row 250052 v (l.flatMap (entE day known why)).length ∧ o' 250052 = (v, some (.row 7 46 ((l.flatMap (entE day known why)).map Entry.row)))⟩
theorem lit2e (te : TI) (a b : List D) (h : te.size = 7) (ha : a.length = 7) (hb : b.length = 7) (hz : te.zero = [.int .i64 0, .int .i64 0, .int .i64 0, .int .i64 0, .int .i64 0, .int .i64 0, .int .i64 0]) : litRows te 2 [(0, .d (.agg a)), (1, .d (.agg b))] = some [a, b] := by
  match a, b, ha, hb with
  | [a0, a1, a2, a3, a4, a5, a6], [b0, b1, b2, b3, b4, b5, b6], _, _ => simp [litRows, elemsFI, fillP, dcells, dcell, chunk, cellsP, h, hz, List.range_succ, List.replicate_succ, zpv]
theorem hasT_mem {t : Triple} : ∀ {l : List (Triple × Int)}, hasT t l = true ↔ t ∈ l.map (·.1)
  | [] => by simp [hasT]
  | s :: l => by simp [hasT, teq_iff, hasT_mem (l := l)]
theorem getT_get : ∀ (l : List (Triple × Int)) (i : Nat) (h : i < l.length), (l.map (·.1)).Nodup → getT l[i].1 l = l[i].2
  | s :: l, 0, _, _ => by simp [getT, teq]
  | s :: l, i + 1, h, hn => by
    simp only [List.map_cons, List.nodup_cons] at hn
    have h' : i < l.length := by simpa using h
    have : teq l[i].1 s.1 = false := by
      cases hb : teq l[i].1 s.1 with
      | false => rfl
      | true =>
        have e := teq_iff.1 hb
        exact absurd (by rw [← e]; exact List.mem_map_of_mem (List.getElem_mem h')) hn.1
    simp only [List.getElem_cons_succ, getT, this, Bool.false_eq_true, if_false]
    exact getT_get l i h' hn.2
noncomputable def E25 : Env := E0.at 55 (fun d => false) (fun d => d + 250000) (fun d => true)
theorem E25_ok : EnvOk E25 := E0_ok.at _ _ _ _
theorem E25_r : E25.ty = E0.ty ∧ E25.own 51 = false ∧ E25.fact 19 = true ∧ E25.key 11 = 250011 ∧ E25.key 13 = 250013 ∧ E25.key 14 = 250014 ∧ E25.key 51 = 250051 ∧ E25.key 52 = 250052 := ⟨rfl, rfl, rfl, rfl, rfl, rfl, rfl, rfl⟩

set_option maxRecDepth 20000 in
theorem iok25 : IConOk Try.prog 25 icon25 := by
  refine icon_of_run (E := E25) E25_ok (fn := Try.f25) Try.func25 rfl (by decide) (by kernel_rfl) (rs := [.tmp 8]) rfl (by decide) (by decide)  ?_ ?_
  · rintro o ps ⟨day, known, why, l, rfl, h, _⟩
    exact ⟨fun K => if K = 250052 then (1, some (.row 7 46 ((l.flatMap (entE day known why)).map Entry.row))) else o K, _, day, known, why, l, rfl, h, fun K hK => (by simp only; rw [if_neg (by omega)]), 1, rfl, rfl⟩
  rintro o ps ⟨day, known, why, l, rfl, hrep, hnd, hb⟩
  have hrep0 := hrep
  obtain ⟨p, ho1, ho2, hord⟩ := hrep
  have hkt : ∀ T : Triple, mkey E25 99 (.agg T.row) = true := fun T => by simp only [mkey, E25_r, ty_r, Triple.row, oneCells, shapes, shape1, D.sk, decide_true, Bool.and_self, beq_self_eq_true, Bool.not_false]
  have hks := mkeys_esOf hkt l 0
  have hmv : ∀ i : Nat, i < l.length → mval (.agg [.int .i64 ((l.map (fun x => x.1)).getD i Triple.zero).right, .int .i64 ((l.map (fun x => x.1)).getD i Triple.zero).owner, .int .i64 ((l.map (fun x => x.1)).getD i Triple.zero).place]) (esOf 0 l) (.d (.int .i64 0)) = .d (.int .i64 (l.getD i (.zero, 0)).2) := fun i hi => by
    have e := mval_esOf ((l.map (fun x => x.1)).getD i Triple.zero) l 0
    refine e.trans ?_
    have : (l.map (fun x => x.1)).getD i Triple.zero = l[i].1 := by simp [hi]
    rw [this, getT_get l i hi hnd]
    simp [hi]
  rcases hord with ⟨rfl, hl⟩ | ⟨v, rfl, ho3⟩
  · simp (maxSteps := 1000000) only [startP_eq, startL, run_region, run_seq, run_block, run_loop, opsK_nil, opsK_op, seqK_normal, upd_apply, after_some, ev_tmp, ev_int, ev_nils, St.sv, St.sc, strip, stripC, pK_none, pmap_some, op_move, op_assign, op_load, op_fa, op_len, Option.map_some, true_implies, true_and, ↓reduceIte, reduceCtorEq, Nat.reduceAdd, Nat.reduceLT, Nat.zero_add, Nat.add_zero, List.getElem?_cons_zero, and_self, Env.tk, loadV, fieldAddrV, lenV, loadP, St.obj, TI.isAgg, List.getD_cons_zero, List.length_cons, List.length_nil, lbK_true, lnK_none, lenF, Nat.mul_zero, Bool.false_eq_true, op_nilCheck, nilCheckV, ty_r, E25_r, ho1]
    refine pwp_loopG (fun n S => S.t 20 = .d (.int .i64 0) ∧ S.t 19 = .d (.int .i64 0) ∧ (∃ v, S.t 9 = .row 250052 v 0 ∧ S.o 250052 = (v, some (.row 7 46 []))) ∧ ∀ K, K < 250000 → S.o K = o K) _ (.nil 9 250052 7 46 rfl (.refl _)) 0 ⟨rfl, rfl, ⟨_, rfl, rfl⟩, fun K hK => if_neg (by omega)⟩ ?_
    rintro n ⟨t, o1⟩ ⟨h20, h19, ⟨v, h9, ho9⟩, hfr⟩
    simp only at h20 h19 h9 ho9 hfr
    simp (maxSteps := 1000000) only [run_skip, run_region, run_seq, run_cond, run_block, run_exit, run_ret, opsK_nil, opsK_op, seqK_normal, seqK_exit, blkK_exit, loopK_exit, endP_ret, condK_bool, upd_apply, after_some, ev_tmp, St.sv, St.sc, strip, stripC, pmap_some, op_move, op_assign, on_bin, op_ia, bin_lss, resPs, resP, packP, Option.bind_some, Option.map_some, true_and, and_true, ↓reduceIte, Nat.reduceEqDiff, and_self, Env.tk, indexAddrV, pN_bool, ty_r, E25_r, ioutK, ioutM, h20, h19, h9]
    intro x hx
    simp only [Named] at hx
    refine ⟨fun hxt => ?_, fun _ => ?_⟩
    · subst hx; simp at hxt
    · exact ⟨day, known, why, l, rfl, hrep0, hfr, v, by rw [hl]; rfl, by rw [hl]; exact ho9⟩
  simp (maxSteps := 1000000) only [startP_eq, startL, run_region, run_seq, run_block, run_loop, opsK_nil, opsK_op, seqK_normal, upd_apply, after_some, ev_tmp, ev_int, ev_nils, St.sv, St.sc, strip, stripC, pK_none, pmap_some, op_move, op_assign, op_load, op_fa, op_len, Option.map_some, true_and, ↓reduceIte, reduceCtorEq, Nat.reduceAdd, Nat.reduceLT, Nat.zero_add, Nat.add_zero, List.getElem?_cons_zero, and_self, Env.tk, loadV, fieldAddrV, lenV, loadP, St.obj, TI.isAgg, List.getD_cons_zero, List.length_cons, List.length_nil, lbK_true, lnK_none, lenF, Nat.mul_zero, Bool.false_eq_true, maxLen_eq, op_nilCheck, nilCheckV, ty_r, E25_r, ho1]
  intro hlen
  refine pwp_loopG (fun n S => ∃ (i : Int) (w : Nat), 0 ≤ i ∧ i ≤ (l.length : Int) ∧ n = ((l.length : Int) - i).toNat ∧ ((l.take i.toNat).foldl (entF day known why) []).length ≤ 2 * i.toNat ∧ S.t 20 = .d (.int .i64 i) ∧ S.t 19 = .d (.int .i64 l.length) ∧ S.t 18 = .row 3 v l.length ∧ S.t 0 = .ref 1 1 0 0 0 ∧ S.t 1 = .d (.int .i64 day) ∧ S.t 2 = .d (.int .i64 known) ∧ S.t 3 = .d (.int .i64 why)
      ∧ S.t 9 = .row 250052 w ((l.take i.toNat).foldl (entF day known why) []).length ∧ S.o 250052 = (w, some (.row 7 46 (((l.take i.toNat).foldl (entF day known why) []).map Entry.row))) ∧ ∀ K, K < 250000 → S.o K = o K)
    _ (.nil 9 250052 7 46 rfl (.refl _)) ((l.length : Int) - 0).toNat (by exact ⟨0, _, by omega, by omega, rfl, by simp, rfl, rfl, rfl, rfl, rfl, rfl, rfl, rfl, rfl, fun K hK => if_neg (by omega)⟩) ?_
  rintro n ⟨t, o1⟩ ⟨i, w, hi0, hil, hn, hll, h20, h19, h18, h0, h1, h2, h3, h9, ho9, hfr⟩
  simp only at h20 h19 h18 h0 h1 h2 h3 h9 ho9 hfr
  have hf1 := (hfr 1 (by omega)).trans ho1
  have hf2 := (hfr 2 (by omega)).trans ho2
  have hf3 := (hfr 3 (by omega)).trans ho3
  by_cases hlt : i < (l.length : Int)
  · have hi2 : i.toNat < l.length := by omega
    have hfo := foldTake (entF day known why) [] l i.toNat (.zero, 0) hi2
    have hmv := hmv i.toNat hi2
    have hT : (l.map (fun x => x.1)).getD i.toNat Triple.zero = (l.getD i.toNat (.zero, 0)).1 := by simp [hi2]
    rw [hT] at hmv
    generalize (l.take i.toNat).foldl (entF day known why) [] = R at hfo hll h9 ho9
    simp (maxSteps := 1000000) only [List.map_cons, List.map_nil, run_skip, run_region, run_seq, run_cond, run_block, run_exit, run_ret, opsK_nil, opsK_op, seqK_normal, seqK_exit, blkK_normal, blkK_exit, loopK_normal, loopK_exit, endP_ret, condK_bool, upd_apply, after_some, after_none, ev_tmp, ev_int, St.sv, St.sc, strip, stripC, argsC, pK_none, pmap_some, op_move, op_assign, on_bin, op_un, op_load, op_fa, op_ia, op_build, bin_add, bin_neq, bin_lss, unV, eK_some, emap_some, op_alloc, op_store, op_app, op_lit, lK_false, Option.bind_some, Option.map_some, true_and, and_true, ↓reduceIte, Nat.reduceEqDiff, reduceCtorEq, Nat.reduceAdd, Nat.reduceMul, Nat.reduceLT, Nat.reduceLeDiff, Nat.zero_add, Nat.add_zero, List.append_nil, List.nil_append, List.getElem?_cons_succ, List.getElem?_cons_zero, and_self, Env.tk, loadV, fieldAddrV, indexAddrV, loadD, loadP, allocE, storeE, St.obj, TI.isAgg, plainTI, zpv, cellsP, refNew, newOb, setOb, cut, List.getD_cons_zero, List.getD_cons_succ, List.length_cons, List.length_nil, List.length_map, pN_bool, pN_int, List.take_succ_cons, List.take_zero, List.drop_zero, List.drop_succ_cons, List.take_nil, List.drop_nil, Nat.mul_zero, pagg, allD, buildV, fillP, dcells, dcell, List.cons_append, Bool.false_eq_true, op_lookup, op_nilCheck, lookupV, nilCheckV, plainTI, ty_r, E25_r, Triple.getD, Triple.row, h20, h19, h18, h0, h1, h2, h3, h9, ho9, hf1, hf2, hf3, hks, hT, hmv, zvp, wint, litV, lit2e, appE, appR, rowsV, rowNew]
    intro x hx
    simp only [Named] at hx
    refine ⟨fun _ => ?_, fun hxf => (by subst hx; simp [hlt] at hxf)⟩
    generalize l.getD i.toNat (.zero, 0) = g at hfo hmv hT
    refine ⟨⟨hi0, hlt⟩, hi2, hkt g.1, fun y hy => ?_⟩
    simp only [Named] at hy
    refine ⟨fun hyt => ?_, fun hyf => ?_⟩
    · have hne : g.2 ≠ 0 := by subst hy; simpa using hyt
      have hE : entE day known why g = [⟨day, known, g.1.owner, g.1.place, g.2, why, g.1.right⟩, ⟨day, known, -1, g.1.place, IntKind.i64.wrap (0 - g.2), why, g.1.right⟩] := by unfold entE; rw [if_neg hne]
      have hfo' := hfo
      simp only [entF, hE] at hfo'
      refine ⟨by omega, ghost_id ⟨((l.length : Int) - (i + 1)).toNat, by omega, i + 1, w + 1, by omega, by omega, rfl, ?_, ?_, h19, h18, h0, h1, h2, h3, ?_, ?_, fun K hK => ?_⟩⟩
      · rw [show (i + 1).toNat = i.toNat + 1 by omega, hfo']; simp only [List.length_append, List.length_cons, List.length_nil]; omega
      · simp only [upd_apply, ↓reduceIte]; rw [wrap64 (by omega) (by omega)]
      · rw [show (i + 1).toNat = i.toNat + 1 by omega, hfo']
        simp only [upd_apply, Nat.reduceEqDiff, ↓reduceIte, List.length_append, List.length_cons, List.length_nil]
      · rw [show (i + 1).toNat = i.toNat + 1 by omega, hfo']
        simp only [setOb, newOb, Nat.reduceEqDiff, ↓reduceIte, ho9, List.map_append, List.map_cons, List.map_nil]; rfl
      · simp only [setOb, newOb]
        repeat rw [if_neg (by omega)]
        exact hfr K hK
    · have he : g.2 = 0 := by subst hy; simpa using hyf
      have hE : entF day known why R g = R := by simp [entF, entE, he]
      rw [hE] at hfo
      refine ghost_id ⟨((l.length : Int) - (i + 1)).toNat, by omega, i + 1, w, by omega, by omega, rfl, ?_, ?_, h19, h18, h0, h1, h2, h3, ?_, ?_, fun K hK => ?_⟩
      · rw [show (i + 1).toNat = i.toNat + 1 by omega, hfo]; omega
      · simp only [upd_apply, ↓reduceIte]; rw [wrap64 (by omega) (by omega)]
      · rw [show (i + 1).toNat = i.toNat + 1 by omega, hfo]; exact h9
      · rw [show (i + 1).toNat = i.toNat + 1 by omega, hfo]
        simp only [setOb, newOb, Nat.reduceEqDiff, ↓reduceIte, ho9]
      · simp only [setOb, newOb]
        repeat rw [if_neg (by omega)]
        exact hfr K hK
  · have hdec : decide (i < (l.length : Int)) = false := by simp; omega
    rw [List.take_of_length_le (by omega), entF_eq, List.nil_append] at h9 ho9
    simp (maxSteps := 1000000) only [run_skip, run_region, run_seq, run_cond, run_block, run_exit, run_ret, opsK_nil, opsK_op, seqK_normal, seqK_exit, blkK_exit, loopK_exit, endP_ret, condK_bool, upd_apply, after_some, ev_tmp, St.sv, St.sc, strip, stripC, pK_none, pmap_some, op_move, op_assign, on_bin, op_load, op_ia, bin_lss, resPs, resP, packP, Option.bind_some, Option.map_some, true_and, and_true, ↓reduceIte, Nat.reduceEqDiff, Nat.zero_add, Nat.add_zero, and_self, Env.tk, loadV, indexAddrV, loadD, loadP, St.obj, TI.isAgg, cut, pN_bool, List.drop_zero, pagg, ty_r, E25_r, ioutK, ioutM, h20, h19, h18, h9, hdec]
    intro x hx
    simp only [Named] at hx
    refine ⟨fun hxt => (by subst hx; cases hxt), fun _ => ?_⟩
    exact ⟨day, known, why, l, rfl, hrep0, hfr, w, rfl, ho9⟩
end Go.Proofs.Ytomnjbebgfadoaa.Pi
end
