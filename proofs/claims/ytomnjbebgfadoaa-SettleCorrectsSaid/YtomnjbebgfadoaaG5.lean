/- The entries for grants, and for corrections.
   Conditions: none; lemmas. -/
import Derived.Test.YtomnjbebgfadoaaG4
import Derived.Laws.Externs
import Derived.WalkKit
import Derived.ProofKit
section
set_option linter.unusedVariables false
set_option linter.unusedSimpArgs false
namespace Go.Proofs.Ytomnjbebgfadoaa.Pi
open Go Go.RowKit Go.Proofs
set_option maxHeartbeats 4000000
theorem row_inj {A : Type} {of : List D → Option A} {row : A → List D} (h : ∀ r x, of r = some x ↔ r = row x) {l l' : List A} (e : l.map row = l'.map row) : l = l' := by
  have e1 := dRows_map h l
  rw [e, dRows_map h l'] at e1
  simpa using e1.symm
theorem shRep_inj {o : Objs} {l l' : List (Triple × Int)} (h : shRep o l) (h' : shRep o l') : l = l' := by
  obtain ⟨p, _, h2, _⟩ := h
  obtain ⟨p', _, h2', _⟩ := h'
  rw [h2] at h2'
  simp only [Prod.mk.injEq, Option.some.injEq, Ob.map.injEq, true_and] at h2'
  exact esOf_inj h2'.2
theorem post24 {o o' : Objs} {p : PV} {ro : List Claim} {gr : List Grant} {sign : Int} {l : List (Triple × Int)} (hl : shRep o l) (h : icon24.post o [.ref 1 1 0 0 0, .d (.lst 9 (ro.map Claim.row)), .d (.lst 2 (gr.map Grant.row)), .d (.int .i64 sign)] o' p) : shRep o' (gr.foldl (addG ro sign) l) ∧ (∀ K, 3 < K → K < 240000 → o' K = o K) ∧ p = .tup [] := by
  obtain ⟨ro', gr', sign', l', hps, hrep, hrep', hfr, hp⟩ := h
  simp only [List.cons.injEq, PV.d.injEq, D.lst.injEq, D.int.injEq, true_and, and_true] at hps
  obtain ⟨h1, h2, rfl⟩ := hps
  obtain rfl := row_inj Claim.iff h1
  obtain rfl := row_inj Grant.iff h2
  obtain rfl := shRep_inj hl hrep
  exact ⟨hrep', hfr, hp⟩
theorem post25 {o o' : Objs} {p : PV} {day known why : Int} {l : List (Triple × Int)} (hl : shRep o l) (h : icon25.post o [.ref 1 1 0 0 0, .d (.int .i64 day), .d (.int .i64 known), .d (.int .i64 why)] o' p) : (∀ K, K < 250000 → o' K = o K) ∧ ∃ v, p = .row 250052 v (l.flatMap (entE day known why)).length ∧ o' 250052 = (v, some (.row 7 46 ((l.flatMap (entE day known why)).map Entry.row))) := by
  obtain ⟨day', known', why', l', hps, hrep, h⟩ := h
  simp only [List.cons.injEq, PV.d.injEq, D.int.injEq, true_and, and_true] at hps
  obtain ⟨rfl, rfl, rfl⟩ := hps
  obtain rfl := shRep_inj hl hrep
  exact h
theorem upsert_nodup (t : Triple) (x : Int) (l : List (Triple × Int)) (h : (l.map (·.1)).Nodup) : ((upsert t x l).map (·.1)).Nodup := by
  rw [upsert_fst]
  split
  · exact h
  · rename_i hn
    rw [List.nodup_append]
    refine ⟨h, by simp, ?_⟩
    intro a ha b hb e
    simp only [List.mem_singleton] at hb
    subst hb; subst e
    exact hn (hasT_mem.2 ha)
theorem addG_nodup (ro : List Claim) (sign : Int) (l : List (Triple × Int)) (g : Grant) (h : (l.map (·.1)).Nodup) : ((addG ro sign l g).map (·.1)).Nodup := by
  unfold addG
  split
  · split
    · exact h
    · exact upsert_nodup _ _ _ h
  · exact h
theorem addG_len (ro : List Claim) (sign : Int) (l : List (Triple × Int)) (g : Grant) : (addG ro sign l g).length ≤ l.length + 1 := by
  unfold addG
  split
  · split
    · omega
    · rw [upsert_len]; split <;> omega
  · omega
theorem addAll (ro : List Claim) (sign : Int) : ∀ (gr : List Grant) (l : List (Triple × Int)), (l.map (·.1)).Nodup → ((gr.foldl (addG ro sign) l).map (·.1)).Nodup ∧ (gr.foldl (addG ro sign) l).length ≤ l.length + gr.length
  | [], l, h => ⟨h, by simp⟩
  | g :: gr, l, h => by
    have := addAll ro sign gr _ (addG_nodup ro sign l g h)
    have h2 := addG_len ro sign l g
    simp only [List.foldl_cons, List.length_cons]
    exact ⟨this.1, by omega⟩
def grantsF (day known : Int) (ro : List Claim) (gr : List Grant) : List Entry := (gr.foldl (addG ro 1) []).flatMap (entE day known 0)
def corrL (was now : List Claim) (old gr : List Grant) : List (Triple × Int) := old.foldl (addG was (-1)) (gr.foldl (addG now 1) [])
def corrF (day known : Int) (was now : List Claim) (old gr : List Grant) : List Entry := (corrL was now old gr).flatMap (entE day known 1)
abbrev cLG : Cod (List Grant) := cod1 (fun l => .lst 2 (l.map Grant.row)) (dLst 2 Grant.of) fun _ _ => dLst_iff Grant.iff
abbrev cGra : Cod (Int × Int × List Claim × List Grant) := codC (.int .i64) (dInt .i64) (fun _ _ => dInt_iff) (codC (.int .i64) (dInt .i64) (fun _ _ => dInt_iff) (codC (fun l => .lst 9 (l.map Claim.row)) (dLst 9 Claim.of) (fun _ _ => dLst_iff Claim.iff) cLG))
abbrev con13 : Con := .of cGra (fun a => a.2.2.1.length ≤ 1000000 ∧ a.2.2.2.length ≤ 1000000) (fun a rs => rs = [.d (.lst 7 ((grantsF a.1 a.2.1 a.2.2.1 a.2.2.2).map Entry.row))]) false
abbrev con24 : ICon := icon24
theorem ok24 : IConOk Try.prog 24 con24 := iok24
abbrev con25 : ICon := icon25
theorem ok25 : IConOk Try.prog 25 con25 := iok25
noncomputable def E13 : Env := ((E0.iadd 24 con24).iadd 25 con25).at 18 (fun d => false) (fun d => if d = 9 then 1 else if d = 10 then 2 else d) (fun d => true)
theorem E13_ok : EnvOk E13 := ((E0_ok.iadd Try.func24 rfl rfl ok24).iadd Try.func25 rfl rfl ok25).at _ _ _ _
theorem E13_r : E13.ty = E0.ty ∧ E13.icon 24 = some con24 ∧ E13.icon 25 = some con25 ∧ E13.key 9 = 1 ∧ E13.key 10 = 2 := ⟨rfl, rfl, rfl, rfl, rfl⟩

set_option maxRecDepth 20000 in
theorem ok13 : ConOk Try.prog 13 con13 := by
  refine con_of (E := E13) E13_ok (fn := Try.f13) Try.func13 rfl (by decide) (by kernel_rfl) (rs := [.tmp 8]) rfl (by decide) (by decide) [.data 40]  (fun _ _ => ⟨_, rfl⟩) (by simp) ?_
  rintro ⟨day, known, ro, gr⟩ ⟨hb1, hb2⟩
  simp only at hb1 hb2
  simp (maxSteps := 1000000) only [startP_eq, startL, List.map_cons, List.map_nil, run_region, run_seq, run_ret, opsK_nil, opsK_op, seqK_normal, endP_ret, upd_apply, after_some, after_none, ev_tmp, ev_int, ev_nils, St.sv, St.sc, strip, stripC, argsC, pK_none, pmap_some, op_move, op_assign, op_build, eK_some, emap_some, op_alloc, op_store, op_call, iK_some, iK2_some, icallInfo_func, outK, outL, outM, resPs, resP, rvsOf, rvOf, snapV, snapC, sepB, ownKs, dataKs, keysV, keysC, nodupB, Option.bind_some, Option.map_some, true_and, and_true, ↓reduceIte, Nat.reduceEqDiff, reduceCtorEq, Nat.reduceAdd, Nat.reduceLeDiff, Nat.zero_add, Nat.add_zero, List.all_nil, List.append_nil, List.nil_append, Bool.and_self, List.getElem?_cons_succ, List.getElem?_cons_zero, cod1_enc, codC_enc, and_self, Env.tk, allocE, storeE, St.obj, plainTI, zpv, cellsP, refNew, newOb, List.length_cons, List.length_nil, List.take_succ_cons, List.take_zero, List.drop_succ_cons, List.drop_nil, Nat.mul_zero, buildV, fillP, dcells, dcell, List.cons_append, op_makeMap, makeMapE, plainTI, Option.map_none, ty_r, E13_r, Option.bind_none, Option.map_none, Option.bind_some, Option.map_some]
  have h0 : shRep (setOb (newOb (newOb noObs 2 (Ob.map 99 3 0 [])) 1 (Ob.box 69 [PV.nils, PV.d (D.nil 0)])) 1 (Ob.box 69 [PV.nils, PV.map 2 ((noObs 2).fst + 1)])) [] := ⟨.nils, rfl, rfl, .inl ⟨rfl, rfl⟩⟩
  refine ⟨⟨rfl, ro, gr, 1, [], rfl, h0, hb1, by simp only [List.length_nil]; omega⟩, fun p1 o1 hp1 => ?_⟩
  obtain ⟨h1, -, rfl⟩ := post24 h0 hp1
  have hA := addAll ro 1 gr [] (by simp)
  refine ⟨⟨rfl, day, known, 0, _, rfl, h1, hA.1, by have := hA.2; simp only [List.length_nil] at this; omega⟩, fun p2 o2 hp2 => ?_⟩
  obtain ⟨-, v, rfl, h2⟩ := post25 h1 hp2
  simp (maxSteps := 1000000) only [strip, stripC, Option.bind_some, Option.map_some, true_and, ↓reduceIte, h2]
  rfl
theorem dayF_len (pl : List Place) : ∀ (ro : List Claim) (s : List Grant × List Int), (ro.foldl (dayStep pl) s).1.length = s.1.length + ro.length
  | [], s => by simp
  | c :: ro, s => by rw [List.foldl_cons, dayF_len pl ro]; simp [dayStep]; omega
abbrev cSupII : Cod (List Int × Int × Int) := codC (fun l => .lst 1 (l.map irow)) (dLst 1 iof) (fun _ _ => dLst_iff iof_iff) cII
abbrev cCor : Cod (Basin × List Claim × List Claim × List Grant × List Int × Int × Int) := codC Basin.d (dAgg Basin.of) Basin.diff (codC (fun l => .lst 9 (l.map Claim.row)) (dLst 9 Claim.of) (fun _ _ => dLst_iff Claim.iff) (codC (fun l => .lst 9 (l.map Claim.row)) (dLst 9 Claim.of) (fun _ _ => dLst_iff Claim.iff) (codC (fun l => .lst 2 (l.map Grant.row)) (dLst 2 Grant.of) (fun _ _ => dLst_iff Grant.iff) cSupII)))
abbrev con12 : Con := .of cCor (fun a => a.1.Places.length ≤ 1000000 ∧ a.2.1.length ≤ 100000 ∧ a.2.2.1.length ≤ 100000 ∧ a.2.2.2.1.length ≤ 100000) (fun a rs => rs = [.d (.lst 2 ((dayF a.1.Places a.2.2.1 a.2.2.2.2.1).1.map Grant.row)), .d (.lst 7 ((corrF a.2.2.2.2.2.1 a.2.2.2.2.2.2 a.2.1 a.2.2.1 a.2.2.2.1 (dayF a.1.Places a.2.2.1 a.2.2.2.2.1).1).map Entry.row))]) false
noncomputable def E12 : Env := (((E0.add 11 con11).iadd 24 con24).iadd 25 con25).at 38 (fun d => false) (fun d => if d = 18 then 1 else if d = 26 then 2 else d) (fun d => true)
theorem E12_ok : EnvOk E12 := (((E0_ok.add Try.func11 rfl rfl ok11).iadd Try.func24 rfl rfl ok24).iadd Try.func25 rfl rfl ok25).at _ _ _ _
theorem E12_r : E12.ty = E0.ty ∧ (E12.con 11 = some con11 ∧ E12.icon 11 = none) ∧ E12.icon 24 = some con24 ∧ E12.icon 25 = some con25 ∧ E12.key 7 = 7 ∧ E12.key 18 = 1 ∧ E12.key 26 = 2 := ⟨rfl, ⟨rfl, rfl⟩, rfl, rfl, rfl, rfl, rfl⟩

set_option maxRecDepth 20000 in
theorem ok12 : ConOk Try.prog 12 con12 := by
  refine con_of (E := E12) E12_ok (fn := Try.f12) Try.func12 rfl (by decide) (by kernel_rfl) (rs := [.tmp 14, .tmp 15]) rfl (by decide) (by decide) [.data 37, .data 40]  (fun _ _ => ⟨_, rfl⟩) (by simp) ?_
  rintro ⟨b, was, now, old, sup, day, known⟩ ⟨hb1, hb2, hb3, hb4⟩
  simp only at hb1 hb2 hb3 hb4
  simp (maxSteps := 1000000) only [startP_eq, startL, List.map_cons, List.map_nil, run_region, run_seq, run_ret, opsK_nil, opsK_op, seqK_normal, endP_ret, upd_apply, after_some, after_none, ev_tmp, ev_int, ev_nils, St.sv, St.sc, strip, stripC, argsC, pK_none, pmap_some, op_move, op_assign, op_ext, op_load, op_build, eK_some, emap_some, op_alloc, op_box, op_store, op_call, iK_some, iK2_none, iK2_some, cK_some, cK2_some, conK_own, icallInfo_func, callInfo_func, ciK_some, snapVs_nil, snapVs_cons, outK, outL, outM, resPs, resP, rvsOf, rvOf, snapV, snapC, sepB, ownKs, dataKs, keysV, keysC, nodupB, packP, extV, Option.bind_some, Option.map_some, true_and, and_true, ↓reduceIte, Nat.reduceEqDiff, reduceCtorEq, Nat.reduceAdd, Nat.reduceLeDiff, Nat.zero_add, Nat.add_zero, List.all_nil, List.append_nil, List.nil_append, List.flatMap_cons, List.flatMap_nil, Bool.and_self, List.getElem?_cons_succ, List.getElem?_cons_zero, of_pre, of_post, of_flat, cod1_enc, cod1_dec, codC_enc, codC_dec, dAgg_agg, dLst_lst, some_ex, and_self, Env.tk, loadV, loadP, allocE, boxE, storeE, St.obj, TI.isAgg, plainTI, zpv, cellsP, refNew, newOb, List.length_cons, List.length_nil, imp_eq, List.take_succ_cons, List.take_zero, List.drop_zero, List.drop_succ_cons, List.take_nil, List.drop_nil, Nat.mul_zero, pagg, allD, buildV, fillP, dcells, dcell, List.cons_append, retP, retO, dropObs_nil, op_makeMap, makeMapE, plainTI, Option.map_none, ty_r, E12_r, Basin.row, Basin.d, Basin.of2, Claim.drows, idrows, Option.bind_none, Option.map_none, Option.bind_some, Option.map_some]
  have hG := dayF_len b.Places now ([], dayLeft b.Places sup b.Places.length)
  change (dayF b.Places now sup).1.length = 0 + now.length at hG
  generalize dayF b.Places now sup = GL at hG
  refine ⟨⟨hb1, by omega⟩, ?_⟩
  refine ⟨⟨rfl, now, GL.1, 1, [], rfl, ⟨.nils, rfl, rfl, .inl ⟨rfl, rfl⟩⟩, by omega, by simp only [List.length_nil]; omega⟩, fun p1 o1 hp1 => ?_⟩
  obtain ⟨h1, -, rfl⟩ := post24 ⟨.nils, rfl, rfl, .inl ⟨rfl, rfl⟩⟩ hp1
  have hA := addAll now 1 GL.1 [] (by simp)
  have hA2 := hA.2
  simp only [List.length_nil] at hA2
  refine ⟨⟨rfl, was, old, -1, _, rfl, h1, by omega, by omega⟩, fun p2 o2 hp2 => ?_⟩
  obtain ⟨h2, -, rfl⟩ := post24 h1 hp2
  have hB := addAll was (-1) old _ hA.1
  have hB2 := hB.2
  refine ⟨⟨rfl, day, known, 1, _, rfl, h2, hB.1, by omega⟩, fun p3 o3 hp3 => ?_⟩
  obtain ⟨-, v, rfl, h3⟩ := post25 h2 hp3
  simp (maxSteps := 1000000) only [strip, stripC, Option.bind_some, Option.map_some, true_and, ↓reduceIte, h3]
  rfl
end Go.Proofs.Ytomnjbebgfadoaa.Pi
end
section
/- Contracts: few, plain, modest, the same grants, the share of an owner.
   Conditions: none; lemmas. -/
set_option linter.unusedVariables false
set_option linter.unusedSimpArgs false
namespace Go.Proofs.Ytomnjbebgfadoaa.Pi
open Go Go.RowKit Go.Proofs
set_option maxHeartbeats 4000000
theorem propFlat {A : Type} {Q : A → Bool → Prop} : true = true → ∀ (a : A) (r : List RV), (∃ b : Bool, Q a b ∧ r = [.d (.bool b)]) → ∀ x ∈ r, RV.flat x = true := by
  rintro _ a r ⟨b, _, rfl⟩ x hx
  simp only [List.mem_singleton] at hx
  subst hx; rfl
abbrev cFew : Cod (Basin × List Claim × List Claim × List Grant × List Int) := codC Basin.d (dAgg Basin.of) Basin.diff (codC (fun l => .lst 9 (l.map Claim.row)) (dLst 9 Claim.of) (fun _ _ => dLst_iff Claim.iff) (codC (fun l => .lst 9 (l.map Claim.row)) (dLst 9 Claim.of) (fun _ _ => dLst_iff Claim.iff) (codC (fun l => .lst 2 (l.map Grant.row)) (dLst 2 Grant.of) (fun _ _ => dLst_iff Grant.iff) (cod1 (fun l => .lst 1 (l.map irow)) (dLst 1 iof) (fun _ _ => dLst_iff iof_iff)))))
def fewP (a : Basin × List Claim × List Claim × List Grant × List Int) : Prop := a.1.Places.length ≤ 8 ∧ a.1.Owners.length ≤ 4 ∧ a.2.1.length ≤ 8 ∧ a.2.2.1.length ≤ 8 ∧ a.2.2.2.1.length ≤ 8 ∧ a.2.2.2.2.length ≤ 10
abbrev con8 : Con := .of cFew (fun _ => True) (fun a rs => ∃ b : Bool, (b = true → fewP a) ∧ rs = [.d (.bool b)]) true
noncomputable def E8 : Env := (E0.add 20 con20).at 61 (fun d => false) (fun d => d) (fun d => true)
theorem E8_ok : EnvOk E8 := (E0_ok.add Try.func20 rfl rfl ok20).at _ _ _ _
theorem E8_r : E8.ty = E0.ty ∧ (E8.con 20 = some con20 ∧ E8.icon 20 = none) ∧ E8.fact 13 = true ∧ E8.fact 18 = true ∧ E8.fact 24 = true ∧ E8.fact 30 = true ∧ E8.fact 36 = true ∧ E8.fact 40 = true ∧ E8.fact 44 = true ∧ E8.fact 49 = true ∧ E8.fact 54 = true ∧ (∀ d, E8.key d = d) := ⟨rfl, ⟨rfl, rfl⟩, rfl, rfl, rfl, rfl, rfl, rfl, rfl, rfl, rfl, fun _ => rfl⟩

set_option maxRecDepth 20000 in
theorem ok8 : ConOk Try.prog 8 con8 := by
  refine con_of (E := E8) E8_ok (fn := Try.f8) Try.func8 rfl (by decide) (by kernel_rfl) (rs := [.tmp 10]) rfl (by decide) (by decide) [.data 4]  (fun _ _ => ⟨_, false, by simp, rfl⟩) propFlat ?_
  rintro ⟨b, was, now, old, sup⟩ _
  simp (maxSteps := 1000000) only [startP_eq, startL, List.map_cons, List.map_nil, run_skip, run_region, run_seq, run_cond, run_ret, opsK_nil, opsK_op, seqK_normal, seqK_ret, endP_ret, condK_bool, upd_apply, after_some, ev_tmp, ev_int, ev_bool, St.sv, St.sc, strip, stripC, argsC, pK_none, pK_some, gpK_some, pmap_some, gK, gB_bool, op_move, op_assign, op_gmove, on_pick, on_bin, op_load, op_fa, on_gbin, op_gload, op_gfa, op_len, op_glen, bin_leq, bin_gtr, pick_b, eK_some, emap_some, op_box, op_gcall, cgK_some, iK_some, iK2_none, cK_some, cK2_some, conK_gflat, icallInfo_func, callInfo_func, ciK_some, snapVs_nil, snapVs_cons, outK, outL, outM, resPs, resP, rvsOf, rvOf, snapV, snapC, sepB, ownKs, dataKs, keysV, keysC, nodupB, packP, RV.flatP, Option.bind_some, Option.map_some, true_implies, true_and, and_true, implies_true, ↓reduceIte, Nat.reduceEqDiff, reduceCtorEq, Nat.reduceAdd, Nat.reduceLT, Nat.reduceLeDiff, Nat.zero_add, Nat.add_zero, List.all_nil, List.append_nil, List.flatMap_cons, List.flatMap_nil, Bool.and_self, List.getElem?_toArray, List.getElem?_cons_succ, List.getElem?_cons_zero, beq_true, beq_false, Bool.not_eq_true', List.contains_nil, Bool.not_false, of_pre, of_post, of_flat, cod1_enc, cod1_dec, codC_enc, dAgg_agg, some_ex, some_ex1, imp_self, and_self, Env.tk, loadV, fieldAddrV, lenV, loadP, boxE, St.obj, TI.isAgg, cellsP, refNew, newOb, List.getD_cons_zero, List.getD_cons_succ, List.length_cons, List.length_nil, List.length_map, ex_bool, all_bool, or_true, pN_bool, pN_gbool, gpN_some, lbK_true, lnK_none, lnK_some, glbK_some, lenF, List.take_succ_cons, List.drop_zero, List.take_nil, Nat.mul_zero, pagg, allD, Bool.false_eq_true, maxLen_eq, ty_r, E8_r, Basin.row, Basin.d, Basin.of2]
  repeat' (first | with_reducible apply And.intro | intro _)
  all_goals (try simp only [Named] at *)
  all_goals (refine ⟨_, ?_, rfl⟩; subst_vars; simp only [fewP]; grind)
abbrev cLI0 : Cod (List Int) := cod1 (fun l => .lst 1 (l.map irow)) (dLst 1 iof) fun _ _ => dLst_iff iof_iff
abbrev con10 : Con := .of cLI0 (fun _ => True) (fun l rs => ∃ b : Bool, (b = true → ∀ x ∈ l, 0 ≤ x ∧ x ≤ 1099511627776) ∧ rs = [.d (.bool b)]) true
noncomputable def E10 : Env := E0.at 22 (fun d => false) (fun d => d) (fun d => true)
theorem E10_ok : EnvOk E10 := E0_ok.at _ _ _ _
theorem E10_r : E10.ty = E0.ty ∧ E10.fact 6 = true ∧ (∀ d, E10.key d = d) := ⟨rfl, rfl, fun _ => rfl⟩

theorem upTo {A : Type} {P : A → Prop} {l : List A} {z : A} (h : ∀ j : Nat, j < l.length → P (l.getD j z)) : ∀ x ∈ l, P x := fun x hx => by
  obtain ⟨j, hj, rfl⟩ := List.mem_iff_getElem.1 hx
  have := h j hj
  simpa [hj] using this
theorem upNext {P : Nat → Prop} {i : Int} (hi : 0 ≤ i) (h : ∀ j : Nat, j < i.toNat → P j) (h1 : P i.toNat) : ∀ j : Nat, j < (i + 1).toNat → P j := fun j hj => by
  by_cases e : j = i.toNat
  · subst e; exact h1
  · exact h j (by omega)
set_option maxRecDepth 20000 in
theorem ok10 : ConOk Try.prog 10 con10 := by
  refine con_of (E := E10) E10_ok (fn := Try.f10) Try.func10 rfl (by decide) (by kernel_rfl) (rs := [.tmp 2]) rfl (by decide) (by decide) [.data 4]  (fun _ _ => ⟨_, false, by simp, rfl⟩) propFlat ?_
  rintro l _
  simp (maxSteps := 1000000) only [startP_eq, startL, List.map_cons, List.map_nil, run_region, run_seq, run_block, run_loop, opsK_nil, opsK_op, seqK_normal, ev_int, ev_bool, op_assign, cod1_enc]
  refine pwp_loop (fun n S => ∃ i : Int, 0 ≤ i ∧ i ≤ (l.length : Int) ∧ n = ((l.length : Int) - i).toNat ∧ (∀ j : Nat, j < i.toNat → 0 ≤ l.getD j 0 ∧ l.getD j 0 ≤ 1099511627776) ∧ S.t 3 = .d (.int .i64 i) ∧ S.t 0 = .d (.lst 1 (l.map irow))) ((l.length : Int) - 0).toNat ⟨0, by omega, by omega, rfl, (by simp), rfl, rfl⟩ ?_
  rintro n ⟨t, o⟩ ⟨i, hi0, hil, hn, hall, h3, h0⟩
  simp only at h3 h0
  simp (maxSteps := 1000000) only [run_skip, run_region, run_seq, run_cond, run_block, run_exit, run_ret, opsK_nil, opsK_op, seqK_normal, seqK_exit, seqK_ret, blkK_normal, blkK_exit, blkK_ret, loopK_normal, loopK_exit, loopK_ret, endP_ret, condK_bool, upd_apply, after_some, ev_tmp, ev_int, ev_bool, St.sv, St.sc, strip, stripC, pK_none, pK_some, gpK_some, pmap_some, gK, gB_bool, op_move, op_assign, op_gmove, on_pick, on_bin, op_load, op_ia, on_gbin, op_gload, op_gia, op_len, bin_add, bin_lss, bin_gtr, pick_b, outK, outL, outM, resPs, resP, rvsOf, rvOf, snapV, snapC, sepB, ownKs, dataKs, keysV, keysC, nodupB, Option.bind_some, Option.map_some, true_and, and_true, implies_true, ↓reduceIte, Nat.reduceEqDiff, reduceCtorEq, Nat.reduceLT, Nat.zero_add, List.all_nil, List.append_nil, Bool.and_self, List.getElem?_toArray, List.getElem?_cons_succ, List.getElem?_cons_zero, beq_false, Bool.not_eq_true', List.contains_nil, Bool.not_false, imp_self, and_self, Env.tk, loadV, indexAddrV, lenV, loadD, TI.isAgg, List.getD_cons_zero, List.length_cons, List.length_nil, List.length_map, pN_bool, pN_int, pN_gbool, gpN_some, lbK_true, lnK_none, lenF, Bool.false_eq_true, maxLen_eq, ty_r, E10_r, irow, igetD, h3, h0]
  intro hlen x hx
  simp only [Named] at hx
  refine ⟨fun hxt => ?_, fun hxf => ?_⟩
  · have hlt : i < (l.length : Int) := by subst hx; simpa using hxt
    refine ⟨⟨hi0, hlt⟩, fun y hy => ⟨fun hyf => ⟨hyf, hi0, hlt⟩, fun z hz w hw => ?_⟩⟩
    simp only [Named] at hy hz hw
    refine ⟨fun _ => ⟨false, by simp, rfl⟩, fun hwf => ?_⟩
    refine ghost_id ⟨((l.length : Int) - (i + 1)).toNat, by omega, i + 1, by omega, by omega, rfl, upNext hi0 hall ?_, ?_, h0⟩
    · subst hy hz hw; grind
    · simp only [upd_apply, ↓reduceIte]; rw [wrap64 (by omega) (by omega)]
  · exact ⟨true, fun _ => upTo (z := 0) fun j hj => hall j (by subst hx; simp at hxf; omega), rfl⟩

abbrev cLG2 : Cod (List Grant × List Grant) := codC (fun l => .lst 2 (l.map Grant.row)) (dLst 2 Grant.of) (fun _ _ => dLst_iff Grant.iff) cLG
abbrev con14 : Con := .of cLG2 (fun _ => True) (fun a rs => ∃ b : Bool, (a.1 = a.2 → b = true) ∧ rs = [.d (.bool b)]) true
noncomputable def E14 : Env := E0.at 26 (fun d => false) (fun d => d) (fun d => true)
theorem E14_ok : EnvOk E14 := E0_ok.at _ _ _ _
theorem E14_r : E14.ty = E0.ty ∧ E14.fact 7 = true ∧ E14.fact 9 = true ∧ E14.fact 13 = true ∧ (∀ d, E14.key d = d) := ⟨rfl, rfl, rfl, rfl, fun _ => rfl⟩

set_option maxRecDepth 20000 in
theorem ok14 : ConOk Try.prog 14 con14 := by
  refine con_of (E := E14) E14_ok (fn := Try.f14) Try.func14 rfl (by decide) (by kernel_rfl) (rs := [.tmp 4]) rfl (by decide) (by decide) [.data 4]  (fun _ _ => ⟨_, true, by simp, rfl⟩) propFlat ?_
  rintro ⟨a, c⟩ _
  simp (maxSteps := 1000000) only [startP_eq, startL, List.map_cons, List.map_nil, run_skip, run_region, run_seq, run_cond, run_block, run_ret, run_loop, opsK_nil, opsK_op, seqK_normal, seqK_ret, endP_ret, condK_bool, upd_apply, after_some, ev_tmp, ev_int, ev_bool, St.sv, St.sc, strip, stripC, pmap_some, op_move, op_assign, on_bin, op_len, bin_neq, outK, outL, outM, resPs, resP, rvsOf, rvOf, snapV, snapC, sepB, ownKs, dataKs, keysV, keysC, nodupB, Option.bind_some, Option.map_some, true_and, and_true, ↓reduceIte, Nat.reduceEqDiff, reduceCtorEq, Nat.zero_add, List.all_nil, List.append_nil, Bool.and_self, List.contains_nil, Bool.not_false, cod1_enc, codC_enc, and_self, Env.tk, lenV, List.length_map, pN_bool, lbK_true, lnK_none, lenF, maxLen_eq, ty_r, E14_r]
  intro hla hlc x hx
  simp only [Named] at hx
  refine ⟨fun hxt => ⟨false, fun e => by subst hx; simp [e] at hxt, rfl⟩, fun hxf => ?_⟩
  have hlen : a.length = c.length := by subst hx; simp at hxf; omega
  refine pwp_loop (fun n S => ∃ i : Int, 0 ≤ i ∧ i ≤ (a.length : Int) ∧ n = ((a.length : Int) - i).toNat ∧ S.t 5 = .d (.int .i64 i) ∧ S.t 0 = .d (.lst 2 (a.map Grant.row)) ∧ S.t 1 = .d (.lst 2 (c.map Grant.row))) ((a.length : Int) - 0).toNat ⟨0, by omega, by omega, rfl, rfl, rfl, rfl⟩ ?_
  rintro n ⟨t, o⟩ ⟨i, hi0, hil, hn, h5, h0, h1⟩
  simp only at h5 h0 h1
  simp (maxSteps := 1000000) only [run_skip, run_region, run_seq, run_cond, run_block, run_exit, run_ret, opsK_nil, opsK_op, seqK_normal, seqK_exit, seqK_ret, blkK_normal, blkK_exit, blkK_ret, loopK_normal, loopK_exit, loopK_ret, endP_ret, condK_bool, upd_apply, after_some, ev_tmp, ev_int, ev_bool, St.sv, St.sc, strip, stripC, pK_none, pmap_some, op_move, op_assign, on_bin, op_load, op_ia, op_len, bin_add, bin_lss, bin_agg, outK, outL, outM, resPs, resP, rvsOf, rvOf, snapV, snapC, sepB, ownKs, dataKs, keysV, keysC, nodupB, Option.bind_some, Option.map_some, true_and, and_true, ↓reduceIte, Nat.reduceEqDiff, reduceCtorEq, Nat.reduceAdd, Nat.reduceLeDiff, Nat.zero_add, List.all_nil, List.append_nil, Bool.and_self, beq_self_eq_true, Bool.and_true, List.contains_nil, Bool.not_false, and_self, Env.tk, loadV, indexAddrV, lenV, loadD, TI.isAgg, cut, List.length_cons, List.length_nil, List.length_map, pN_bool, pN_int, lbK_true, lnK_none, lenF, oneCells, deqs, deq, D.sk, List.take_succ_cons, List.drop_zero, List.take_nil, maxLen_eq, ty_r, E14_r, Grant.getD, Grant.row, h5, h0, h1]
  intro hl2 x hx
  simp only [Named] at hx
  refine ⟨fun hxt => ?_, fun hxf => ⟨true, by simp, rfl⟩⟩
  have hlt : i < (a.length : Int) := by subst hx; simpa using hxt
  refine ⟨⟨hi0, hlt⟩, ⟨hi0, by omega⟩, fun y hy => ⟨fun hyt => ⟨false, fun e => ?_, rfl⟩, fun hyf => ?_⟩⟩
  · simp only [Named] at hy
    subst e; subst hy; simp at hyt
  · refine ghost_id ⟨((a.length : Int) - (i + 1)).toNat, by omega, i + 1, by omega, by omega, rfl, ?_, h0, h1⟩
    simp only [upd_apply, ↓reduceIte]; rw [wrap64 (by omega) (by omega)]
abbrev cPl : Cod (Basin × List Claim) := codC Basin.d (dAgg Basin.of) Basin.diff (cod1 (fun l => .lst 9 (l.map Claim.row)) (dLst 9 Claim.of) (fun _ _ => dLst_iff Claim.iff))
def plainC (b : Basin) (c : Claim) : Prop := 0 ≤ c.Owner ∧ c.Owner < b.Owners.length ∧ 0 ≤ c.Place ∧ c.Place < b.Places.length ∧ 0 ≤ c.Id ∧ c.Id ≤ 1000
abbrev con9 : Con := .of cPl (fun _ => True) (fun a rs => ∃ b : Bool, (b = true → (∀ c ∈ a.2, plainC a.1 c) ∧ (a.2.map (·.Id)).Nodup) ∧ rs = [.d (.bool b)]) true
noncomputable def E9 : Env := E0.at 81 (fun d => false) (fun d => d) (fun d => !(d == 27 || d == 46))
theorem E9_ok : EnvOk E9 := E0_ok.at _ _ _ _
theorem E9_r : E9.ty = E0.ty ∧ E9.fact 9 = true ∧ E9.fact 27 = false ∧ E9.fact 46 = false ∧ (∀ d, E9.key d = d) := ⟨rfl, rfl, rfl, rfl, fun _ => rfl⟩

theorem nodupUp {l : List Claim} (h : ∀ j : Nat, j < l.length → ∀ k : Nat, k < j → (l.getD k .zero).Id ≠ (l.getD j .zero).Id) : (l.map (·.Id)).Nodup := by
  rw [List.Nodup, List.pairwise_iff_getElem]
  intro i j hi hj hij
  simp only [List.length_map] at hi hj
  have := h j hj i hij
  simpa [hi, hj] using this
set_option maxRecDepth 20000 in
theorem ok9 : ConOk Try.prog 9 con9 := by
  refine con_of (E := E9) E9_ok (fn := Try.f9) Try.func9 rfl (by decide) (by kernel_rfl) (rs := [.tmp 4]) rfl (by decide) (by decide) [.data 4]  (fun _ _ => ⟨_, false, by simp, rfl⟩) propFlat ?_
  rintro ⟨b, l⟩ _
  simp (maxSteps := 1000000) only [startP_eq, startL, List.map_cons, List.map_nil, run_region, run_seq, run_block, run_loop, opsK_nil, opsK_op, seqK_normal, upd_apply, after_some, ev_tmp, ev_int, ev_bool, St.sv, St.sc, strip, stripC, op_assign, eK_some, emap_some, op_box, true_and, ↓reduceIte, Nat.zero_add, cod1_enc, codC_enc, and_self, boxE, cellsP, refNew, ty_r, E9_r, Basin.row, Basin.d]
  refine pwp_loop (fun n S => ∃ i : Int, 0 ≤ i ∧ i ≤ (l.length : Int) ∧ n = ((l.length : Int) - i).toNat ∧ (∀ j : Nat, j < i.toNat → plainC b (l.getD j .zero) ∧ ∀ k : Nat, k < j → (l.getD k .zero).Id ≠ (l.getD j .zero).Id) ∧ S.t 5 = .d (.int .i64 i) ∧ S.t 1 = .d (.lst 9 (l.map Claim.row)) ∧ S.t 2 = .ref 2 1 0 0 0 ∧ S.o 2 = (1, some (.box 31 (b.row.map PV.d)))) ((l.length : Int) - 0).toNat ⟨0, by omega, by omega, rfl, (by simp), rfl, rfl, rfl, rfl⟩ ?_
  rintro n ⟨t, o⟩ ⟨i, hi0, hil, hn, hall, h5, h1, h2, ho2⟩
  simp only at h5 h1 h2 ho2
  simp (maxSteps := 1000000) only [List.map_cons, List.map_nil, run_skip, run_region, run_seq, run_cond, run_block, run_exit, run_ret, run_loop, opsK_nil, opsK_op, seqK_normal, seqK_exit, seqK_ret, blkK_exit, blkK_ret, loopK_exit, loopK_ret, endP_ret, condK_bool, upd_apply, after_some, ev_tmp, ev_int, ev_bool, St.sv, St.sc, strip, stripC, pK_none, pK_some, gpK_some, pmap_some, gK, gB_bool, op_move, op_assign, op_gmove, on_pick, on_bin, op_load, op_fa, op_ia, on_gbin, op_gload, op_gfa, op_gia, op_len, op_glen, bin_lss, bin_gtr, bin_geq, pick_b, outK, outL, outM, resPs, resP, rvsOf, rvOf, snapV, snapC, sepB, ownKs, dataKs, keysV, keysC, nodupB, Option.bind_some, Option.map_some, true_and, and_true, implies_true, ↓reduceIte, Nat.reduceEqDiff, Nat.reduceAdd, Nat.reduceLT, Nat.zero_add, Nat.add_zero, List.all_nil, List.append_nil, Bool.and_self, List.getElem?_toArray, List.getElem?_cons_succ, List.getElem?_cons_zero, beq_false, Bool.not_eq_true', List.contains_nil, Bool.not_false, imp_self, and_self, Env.tk, loadV, fieldAddrV, indexAddrV, lenV, loadD, loadP, St.obj, TI.isAgg, List.getD_cons_zero, List.getD_cons_succ, List.length_cons, List.length_nil, List.length_map, pN_bool, pN_gbool, gpN_some, lbK_true, lbK_false, lnK_none, glbK_some, lenF, Nat.mul_zero, Bool.false_eq_true, maxLen_eq, ty_r, E9_r, Basin.row, Claim.getD, Claim.row, h5, h1, h2, ho2]
  intro hlen x hx
  simp only [Named] at hx
  refine ⟨fun hxt => ?_, fun hxf => ?_⟩
  · have hlt : i < (l.length : Int) := by subst hx; simpa using hxt
    refine ⟨⟨hi0, hlt⟩, ?_⟩
    clear hx hxt
    have hcl : ∀ x : Bool, Named x (decide (i < (l.length : Int))) → True := fun _ _ => trivial
    repeat' (first | with_reducible apply And.intro | intro _)
    all_goals (first | assumption | exact hi0 | exact hlt | exact ⟨false, by simp, rfl⟩ | skip)
    have hpl : plainC b (l.getD i.toNat .zero) := by simp only [Named] at *; unfold plainC; subst_vars; grind
    refine pwp_loop (fun n S => ∃ k : Int, 0 ≤ k ∧ k ≤ i ∧ n = (i - k).toNat ∧ (∀ m : Nat, m < k.toNat → (l.getD m .zero).Id ≠ (l.getD i.toNat .zero).Id) ∧ S.t 6 = .d (.int .i64 k) ∧ S.t 5 = .d (.int .i64 i) ∧ S.t 1 = .d (.lst 9 (l.map Claim.row)) ∧ S.t 2 = .ref 2 1 0 0 0 ∧ S.o 2 = (1, some (.box 31 (b.row.map PV.d)))) (i - 0).toNat ⟨0, by omega, by omega, rfl, by simp, rfl, h5, h1, h2, ho2⟩ ?_
    clear h5 h1 h2 ho2
    rintro n2 ⟨t, o⟩ ⟨k, hk0, hki, hn2, hne, h6, h5, h1, h2, ho2⟩
    simp only at h6 h5 h1 h2 ho2
    simp (maxSteps := 1000000) only [List.map_cons, List.map_nil, run_skip, run_region, run_seq, run_cond, run_block, run_exit, run_ret, opsK_nil, opsK_op, seqK_normal, seqK_exit, seqK_ret, blkK_normal, blkK_exit, blkK_ret, loopK_normal, loopK_exit, loopK_ret, endP_ret, condK_bool, upd_apply, after_some, ev_tmp, ev_int, ev_bool, St.sv, St.sc, strip, stripC, pK_none, pmap_some, op_move, op_assign, on_bin, op_load, op_fa, op_ia, bin_add, bin_eql, bin_lss, outK, outL, outM, resPs, resP, rvsOf, rvOf, snapV, snapC, sepB, ownKs, dataKs, keysV, keysC, nodupB, Option.bind_some, Option.map_some, true_and, and_true, ↓reduceIte, Nat.reduceEqDiff, Nat.reduceAdd, Nat.reduceLT, Nat.zero_add, Nat.add_zero, List.all_nil, List.append_nil, Bool.and_self, List.getElem?_cons_zero, List.contains_nil, Bool.not_false, and_self, Env.tk, loadV, fieldAddrV, indexAddrV, loadD, TI.isAgg, List.getD_cons_zero, List.length_cons, List.length_nil, List.length_map, pN_bool, pN_int, Bool.false_eq_true, ty_r, E9_r, Basin.row, Claim.getD, Claim.row, h6, h5, h1]
    intro x hx
    simp only [Named] at hx
    refine ⟨fun hxt => ?_, fun hxf => ?_⟩
    · have hkl : k < i := by subst hx; simpa using hxt
      refine ⟨⟨hk0, by omega⟩, ⟨hi0, hlt⟩, fun y hy => ⟨fun _ => ⟨false, by simp, rfl⟩, fun hyf => ?_⟩⟩
      simp only [Named] at hy
      refine ghost_id ⟨(i - (k + 1)).toNat, by omega, k + 1, by omega, by omega, rfl, upNext (P := fun m => (l.getD m .zero).Id ≠ (l.getD i.toNat .zero).Id) hk0 hne ?_, ?_, h5, h1, h2, ho2⟩
      · intro e; subst hy; simp only [e, beq_self_eq_true, Bool.true_eq_false] at hyf
      · simp only [upd_apply, ↓reduceIte]; rw [wrap64 (by omega) (by omega)]
    · have hki2 : k = i := by subst hx; simp at hxf; omega
      subst hki2
      refine ghost_id ⟨((l.length : Int) - (k + 1)).toNat, by omega, k + 1, by omega, by omega, rfl, upNext (P := fun j => plainC b (l.getD j .zero) ∧ ∀ m : Nat, m < j → (l.getD m .zero).Id ≠ (l.getD j .zero).Id) hk0 hall ⟨hpl, hne⟩, ?_, h1, h2, ho2⟩
      simp only [upd_apply, ↓reduceIte]; rw [wrap64 (by omega) (by omega)]
  · exact ⟨true, fun _ => ⟨upTo (z := .zero) fun j hj => (hall j (by subst hx; simp at hxf; omega)).1, nodupUp fun j hj => (hall j (by subst hx; simp at hxf; omega)).2⟩, rfl⟩
/-- The litres that an owner has at a place. -/
def shareK (ro : List Claim) (owner place : Int) (g : Grant) (n : Int) (c : Claim) : Int := if c.Id = g.Right ∧ c.Owner = owner ∧ c.Place = place then IntKind.i64.wrap (n + g.Litres) else n
def shareG (ro : List Claim) (owner place : Int) (n : Int) (g : Grant) : Int := ro.foldl (shareK ro owner place g) n
def shareF (ro : List Claim) (gr : List Grant) (owner place : Int) : Int := gr.foldl (shareG ro owner place) 0
abbrev cSha : Cod (List Claim × List Grant × Int × Int) := codC (fun l => .lst 9 (l.map Claim.row)) (dLst 9 Claim.of) (fun _ _ => dLst_iff Claim.iff) (codC (fun l => .lst 2 (l.map Grant.row)) (dLst 2 Grant.of) (fun _ _ => dLst_iff Grant.iff) cII)
abbrev con15 : Con := .of cSha (fun _ => True) (fun a rs => rs = [.d (.int .i64 (shareF a.1 a.2.1 a.2.2.1 a.2.2.2))]) true
noncomputable def E15 : Env := E0.at 61 (fun d => false) (fun d => d) (fun d => true)
theorem E15_ok : EnvOk E15 := E0_ok.at _ _ _ _
theorem E15_r : E15.ty = E0.ty ∧ E15.fact 14 = true ∧ E15.fact 20 = true ∧ (∀ d, E15.key d = d) := ⟨rfl, rfl, rfl, fun _ => rfl⟩

set_option maxRecDepth 20000 in
theorem ok15 : ConOk Try.prog 15 con15 := by
  refine con_of (E := E15) E15_ok (fn := Try.f15) Try.func15 rfl (by decide) (by kernel_rfl) (rs := [.tmp 8]) rfl (by decide) (by decide) [.data 3]  (fun _ _ => ⟨_, rfl⟩) intFlat ?_
  rintro ⟨ro, gr, owner, place⟩ _
  simp (maxSteps := 1000000) only [startP_eq, startL, List.map_cons, List.map_nil, run_region, run_seq, run_block, run_loop, opsK_nil, opsK_op, seqK_normal, ev_int, op_assign, Nat.reduceAdd, Nat.zero_add, cod1_enc, codC_enc]
  refine pwp_loop (fun n S => ∃ i : Int, 0 ≤ i ∧ i ≤ (gr.length : Int) ∧ n = ((gr.length : Int) - i).toNat ∧ S.t 10 = .d (.int .i64 i) ∧ S.t 0 = .d (.lst 9 (ro.map Claim.row)) ∧ S.t 1 = .d (.lst 2 (gr.map Grant.row)) ∧ S.t 2 = .d (.int .i64 owner) ∧ S.t 3 = .d (.int .i64 place) ∧ S.t 9 = .d (.int .i64 ((gr.take i.toNat).foldl (shareG ro owner place) 0))) ((gr.length : Int) - 0).toNat ⟨0, by omega, by omega, rfl, rfl, rfl, rfl, rfl, rfl, rfl⟩ ?_
  rintro n ⟨t, o⟩ ⟨i, hi0, hil, hn, h10, h0, h1, h2, h3, h9⟩
  simp only at h10 h0 h1 h2 h3 h9
  simp (maxSteps := 1000000) only [run_skip, run_region, run_seq, run_cond, run_block, run_exit, run_ret, run_loop, opsK_nil, opsK_op, seqK_normal, seqK_exit, blkK_exit, loopK_exit, endP_ret, condK_bool, upd_apply, after_some, ev_tmp, ev_int, St.sv, St.sc, strip, stripC, pmap_some, op_move, op_assign, on_bin, op_len, bin_lss, outK, outL, outM, resPs, resP, rvsOf, rvOf, snapV, snapC, sepB, ownKs, dataKs, keysV, keysC, nodupB, Option.bind_some, Option.map_some, true_and, and_true, ↓reduceIte, Nat.reduceEqDiff, List.all_nil, List.append_nil, Bool.and_self, List.contains_nil, Bool.not_false, and_self, Env.tk, lenV, List.length_map, pN_bool, lbK_true, lnK_none, lenF, maxLen_eq, ty_r, E15_r, h10, h1, h9]
  intro hl x hx
  simp only [Named] at hx
  refine ⟨fun hxt => ?_, fun hxf => ?_⟩
  · have hlt : i < (gr.length : Int) := by subst hx; simpa using hxt
    have hi2 : i.toNat < gr.length := by omega
    have hfo := foldTake (shareG ro owner place) 0 gr i.toNat .zero hi2
    generalize (gr.take i.toNat).foldl (shareG ro owner place) 0 = N at hfo h9
    refine pwp_loop (fun n S => ∃ k : Int, 0 ≤ k ∧ k ≤ (ro.length : Int) ∧ n = ((ro.length : Int) - k).toNat ∧ S.t 11 = .d (.int .i64 k) ∧ S.t 10 = .d (.int .i64 i) ∧ S.t 0 = .d (.lst 9 (ro.map Claim.row)) ∧ S.t 1 = .d (.lst 2 (gr.map Grant.row)) ∧ S.t 2 = .d (.int .i64 owner) ∧ S.t 3 = .d (.int .i64 place) ∧ S.t 9 = .d (.int .i64 ((ro.take k.toNat).foldl (shareK ro owner place (gr.getD i.toNat .zero)) N))) ((ro.length : Int) - 0).toNat ⟨0, by omega, by omega, rfl, rfl, h10, h0, h1, h2, h3, h9⟩ ?_
    clear h10 h0 h1 h2 h3 h9
    rintro n2 ⟨t, o⟩ ⟨k, hk0, hkl, hn2, h11, h10, h0, h1, h2, h3, h9⟩
    simp only at h11 h10 h0 h1 h2 h3 h9
    simp (maxSteps := 1000000) only [run_skip, run_region, run_seq, run_cond, run_block, run_exit, opsK_nil, opsK_op, seqK_normal, seqK_exit, blkK_normal, blkK_exit, loopK_normal, loopK_exit, condK_bool, upd_apply, after_some, ev_tmp, ev_int, ev_bool, St.sv, St.sc, strip, stripC, pK_none, pK_some, gpK_some, pmap_some, gK, gB_bool, op_move, op_assign, op_gmove, on_pick, on_bin, op_load, op_fa, op_ia, on_gbin, op_gload, op_gfa, op_gia, op_len, bin_add, bin_eql, bin_lss, pick_b, Option.bind_some, Option.map_some, true_and, and_true, implies_true, ↓reduceIte, Nat.reduceEqDiff, reduceCtorEq, Nat.reduceAdd, Nat.reduceLT, Nat.zero_add, Nat.add_zero, List.getElem?_toArray, List.getElem?_cons_succ, List.getElem?_cons_zero, beq_true, imp_self, and_self, Env.tk, loadV, fieldAddrV, indexAddrV, lenV, loadD, TI.isAgg, List.getD_cons_zero, List.getD_cons_succ, List.length_cons, List.length_nil, List.length_map, pN_bool, pN_int, pN_gbool, gpN_some, lbK_true, lnK_none, lenF, Bool.false_eq_true, maxLen_eq, ty_r, E15_r, Claim.getD, Claim.row, Grant.getD, Grant.row, h11, h10, h0, h1, h2, h3, h9]
    intro hl x hx
    simp only [Named] at hx
    refine ⟨fun hxt => ?_, fun hxf => ?_⟩
    · have hlt2 : k < (ro.length : Int) := by subst hx; simpa using hxt
      have hk2 : k.toNat < ro.length := by omega
      have hfo2 := foldTake (shareK ro owner place (gr.getD i.toNat .zero)) N ro k.toNat .zero hk2
      generalize (ro.take k.toNat).foldl (shareK ro owner place (gr.getD i.toNat .zero)) N = M at hfo2 h9
      generalize ro.getD k.toNat .zero = c at hfo2
      generalize gr.getD i.toNat .zero = g at hfo2 hfo
      refine ⟨⟨hk0, hlt2⟩, ⟨hi0, hlt⟩, ?_⟩
      clear hx hxt
      repeat' (first | with_reducible apply And.intro | intro _)
      all_goals (first | assumption | exact hi0 | exact hlt | exact hk0 | exact hlt2 | skip)
      all_goals (refine ghost_id ⟨((ro.length : Int) - (k + 1)).toNat, by omega, k + 1, by omega, by omega, rfl, ?_, h10, h0, h1, h2, h3, ?_⟩ <;> (try rw [show (k + 1).toNat = k.toNat + 1 by omega, hfo2]))
      · simp only [upd_apply, ↓reduceIte]; rw [wrap64 (by omega) (by omega)]
      · rename_i b5 a5 b4 a4 b3 a3 b2 a2 b1 a1 e1
        have hc : c.Id = g.Right ∧ c.Owner = owner ∧ c.Place = place := by simp only [Named] at *; subst_vars; grind
        unfold shareK; rw [if_pos hc]; rfl
      · simp only [upd_apply, ↓reduceIte]; rw [wrap64 (by omega) (by omega)]
      · rename_i b5 a5 b4 a4 b3 a3 b2 a2 b1 a1 e1
        have hc : ¬(c.Id = g.Right ∧ c.Owner = owner ∧ c.Place = place) := by simp only [Named] at *; subst_vars; grind
        unfold shareK; rw [if_neg hc]; exact h9
    · have hge : ro.take k.toNat = ro := List.take_of_length_le (by subst hx; simp at hxf; omega)
      rw [hge] at h9
      refine ghost_id ⟨((gr.length : Int) - (i + 1)).toNat, by omega, i + 1, by omega, by omega, rfl, ?_, h0, h1, h2, h3, ?_⟩
      · simp only [upd_apply, ↓reduceIte]; rw [wrap64 (by omega) (by omega)]
      · rw [show (i + 1).toNat = i.toNat + 1 by omega, hfo]; exact h9
  · have hge : gr.take i.toNat = gr := List.take_of_length_le (by subst hx; simp at hxf; omega)
    rw [hge]; rfl
end Go.Proofs.Ytomnjbebgfadoaa.Pi
end
section
/- The small example.
   Conditions: none; lemmas. -/
set_option linter.unusedVariables false
set_option linter.unusedSimpArgs false
namespace Go.Proofs.Ytomnjbebgfadoaa.Pi
open Go Go.RowKit Go.Proofs
set_option maxHeartbeats 4000000
theorem Claim.of9 (a b c d e f g h i : Int) : Claim.of [.int .i64 a, .int .i64 b, .int .i64 c, .int .i64 d, .int .i64 e, .int .i64 f, .int .i64 g, .int .i64 h, .int .i64 i] = some ⟨a, b, c, d, e, f, g, h, i⟩ := rfl
theorem Grant.of2' (a b : Int) : Grant.of [.int .i64 a, .int .i64 b] = some ⟨a, b⟩ := rfl
abbrev con7 : Con := .of cod0 (fun _ => True) (fun _ rs => rs = [.d (.bool true)]) true
theorem small1 : grantsF 3 80 [⟨7, 1, 0, 2, 0, 0, 0, 0, 0⟩] [⟨7, 50⟩, ⟨8, 9⟩] = [⟨3, 80, 1, 2, 50, 0, 7⟩, ⟨3, 80, -1, 2, -50, 0, 7⟩] := rfl
theorem small2 : grantsF 3 80 [⟨7, 1, 0, 2, 0, 0, 0, 0, 0⟩] [] = [] := rfl
theorem lit1c (te : TI) (a : List D) (h : te.size = 9) (ha : a.length = 9) (hz : te.zero = [.int .i64 0, .int .i64 0, .int .i64 0, .int .i64 0, .int .i64 0, .int .i64 0, .int .i64 0, .int .i64 0, .int .i64 0]) : litRows te 1 [(0, .d (.agg a))] = some [a] := by
  match a, ha with
  | [a0, a1, a2, a3, a4, a5, a6, a7, a8], _ => simp [litRows, elemsFI, fillP, dcells, dcell, chunk, cellsP, h, hz, List.range_succ, List.replicate_succ, zpv]
theorem lit2g (te : TI) (a b : List D) (h : te.size = 2) (ha : a.length = 2) (hb : b.length = 2) (hz : te.zero = [.int .i64 0, .int .i64 0]) : litRows te 2 [(0, .d (.agg a)), (1, .d (.agg b))] = some [a, b] := by
  match a, b, ha, hb with
  | [a0, a1], [b0, b1], _, _ => simp [litRows, elemsFI, fillP, dcells, dcell, chunk, cellsP, h, hz, List.range_succ, List.replicate_succ, zpv]
noncomputable def E7 : Env := (E0.add 13 con13).at 33 (fun d => false) (fun d => d) (fun d => true)
theorem E7_ok : EnvOk E7 := (E0_ok.add Try.func13 rfl rfl ok13).at _ _ _ _
theorem E7_r : E7.ty = E0.ty ∧ (E7.con 13 = some con13 ∧ E7.icon 13 = none) ∧ E7.own 5 = false ∧ E7.own 9 = false ∧ E7.fact 14 = true ∧ E7.fact 18 = true ∧ (∀ d, E7.key d = d) := ⟨rfl, ⟨rfl, rfl⟩, rfl, rfl, rfl, rfl, fun _ => rfl⟩

set_option maxRecDepth 20000 in
theorem ok7 : ConOk Try.prog 7 con7 := by
  refine con_of (E := E7) E7_ok (fn := Try.f7) Try.func7 rfl (by decide) (by kernel_rfl) (rs := [.tmp 0]) rfl (by decide) (by decide) [.data 4]  (fun _ _ => ⟨_, rfl⟩) boolFlat ?_
  intro a _
  simp (maxSteps := 1000000) only [startP_eq, startL, List.map_cons, List.map_nil, run_skip, run_region, run_seq, run_cond, run_ret, opsK_nil, opsK_op, seqK_normal, seqK_ret, endP_ret, condK_bool, upd_apply, after_some, ev_tmp, ev_int, ev_bool, ev_nils, St.sv, St.sc, strip, stripC, argsC, pK_none, pK_some, gpK_some, pmap_some, gK, gB_bool, op_move, op_assign, op_gmove, on_pick, on_bin, op_load, op_ia, op_build, on_gbin, op_gload, op_gia, op_gbuild, op_len, op_glen, bin_neq, bin_agg, pick_b, op_lit, lK_false, op_call, iK_some, iK2_none, cK_some, cK2_some, conK_own, icallInfo_func, callInfo_func, ciK_some, snapVs_nil, snapVs_cons, outK, outL, outM, resPs, resP, rvsOf, rvOf, snapV, snapC, sepB, ownKs, dataKs, keysV, keysC, nodupB, packP, Option.bind_some, Option.map_some, true_implies, true_and, and_true, implies_true, ↓reduceIte, Nat.reduceEqDiff, Nat.reduceAdd, Nat.reduceMul, Nat.reduceLeDiff, Nat.zero_add, List.all_nil, List.append_nil, List.nil_append, List.flatMap_cons, List.flatMap_nil, Bool.and_self, List.getElem?_toArray, List.getElem?_cons_succ, List.getElem?_cons_zero, beq_true, beq_false, beq_self_eq_true, Bool.and_true, Bool.not_eq_true', List.contains_nil, Bool.not_false, of_pre, of_post, of_flat, cod0_enc, cod1_dec, codC_dec, dInt_int, dLst_lst, dRows_nil, dRows_cons, some_ex, imp_self, and_self, Env.tk, loadV, indexAddrV, lenV, loadD, TI.isAgg, plainTI, zpv, cellsP, cut, List.getD_cons_zero, List.getD_cons_succ, List.length_cons, List.length_nil, imp_eq, pN_bool, pN_gbool, gpN_some, lbK_true, lnK_none, lnK_some, glbK_some, lenF, oneCells, deqs, deq, D.sk, List.take_succ_cons, List.take_zero, List.drop_zero, List.drop_succ_cons, List.take_nil, List.drop_nil, buildV, fillP, dcells, dcell, List.cons_append, retP, retO, dropObs_nil, maxLen_eq, plainTI, Int.toNat_zero, Int.toNat_one, ty_r, E7_r, Entry.row, cod0_enc, litV, lit1c, lit2g, Claim.of9, Grant.of2', small1, small2, Option.bind_some, Option.map_some]
  simp [Named]
end Go.Proofs.Ytomnjbebgfadoaa.Pi
end
section
/- Corrections in plain numbers: what a triple has after grants are added and taken back.
   Conditions: none; lemmas. -/
set_option linter.unusedVariables false
set_option linter.unusedSimpArgs false
namespace Go.Proofs.Ytomnjbebgfadoaa.Pi
open Go Go.RowKit Go.Proofs
set_option maxHeartbeats 4000000
/-- What a grant adds to a triple. -/
def contr (ro : List Claim) (t : Triple) (g : Grant) : Int := match ro.find? (fun c => c.Id == g.Right) with
  | some c => if g.Litres ≤ 0 then 0 else if teq t ⟨c.Id, c.Owner, c.Place⟩ = true then g.Litres else 0
  | none => 0
def sumC (ro : List Claim) (t : Triple) : List Grant → Int
  | [] => 0
  | g :: G => contr ro t g + sumC ro t G
theorem teq_symm (t s : Triple) : teq t s = teq s t := by
  rw [Bool.eq_iff_iff, teq_iff, teq_iff]; exact eq_comm
theorem getT_upsert (t u : Triple) (x : Int) : ∀ l : List (Triple × Int), getT t (upsert u x l) = if teq t u = true then IntKind.i64.wrap (getT t l + x) else getT t l
  | [] => by
    simp only [upsert, getT]
  | s :: l => by
    by_cases hu : teq u s.1 = true
    · have e := teq_iff.1 hu
      simp only [upsert, hu, if_true, getT]
      rw [e]
      split <;> rfl
    · simp only [upsert, hu, getT, Bool.false_eq_true, if_false]
      by_cases ht : teq t s.1 = true
      · have : teq t u = false := by
          cases hb : teq t u with
          | false => rfl
          | true => exact absurd (by rw [← teq_iff.1 hb]; exact ht) hu
        simp [ht, this]
      · simp only [ht, Bool.false_eq_true, if_false]
        exact getT_upsert t u x l
def Norm (l : List (Triple × Int)) : Prop := ∀ t, IntKind.i64.wrap (getT t l) = getT t l
theorem wrap_wrap (x : Int) : IntKind.i64.wrap (IntKind.i64.wrap x) = IntKind.i64.wrap x := by simp only [IntKind.wrap_i64]; omega
theorem norm_nil : Norm [] := fun t => by simp only [getT, IntKind.wrap_i64]; omega
theorem getT_addG {ro : List Claim} {sign : Int} {l : List (Triple × Int)} {g : Grant} (h : Norm l) (t : Triple) : getT t (addG ro sign l g) = IntKind.i64.wrap (getT t l + IntKind.i64.wrap (sign * contr ro t g)) := by
  have hz : IntKind.i64.wrap (getT t l + IntKind.i64.wrap (sign * 0)) = getT t l := by
    have : IntKind.i64.wrap (sign * 0) = 0 := by rw [Int.mul_zero]; rfl
    rw [this, Int.add_zero]; exact h t
  unfold addG contr
  cases ro.find? (fun c => c.Id == g.Right) with
  | none => exact hz.symm
  | some c =>
    simp only
    split
    · exact hz.symm
    · rw [getT_upsert]
      split
      · rfl
      · exact hz.symm
theorem norm_addG {ro : List Claim} {sign : Int} {l : List (Triple × Int)} {g : Grant} (h : Norm l) : Norm (addG ro sign l g) := fun t => by rw [getT_addG h]; exact wrap_wrap _
theorem norm_fold {ro : List Claim} {sign : Int} : ∀ {G : List Grant} {l : List (Triple × Int)}, Norm l → Norm (G.foldl (addG ro sign) l)
  | [], l, h => h
  | g :: G, l, h => norm_fold (G := G) (norm_addG h)
theorem getT_plus (ro : List Claim) (t : Triple) : ∀ (G : List Grant) (l : List (Triple × Int)), Norm l → getT t (G.foldl (addG ro 1) l) = IntKind.i64.wrap (getT t l + sumC ro t G)
  | [], l, h => by simp only [List.foldl_nil, sumC, Int.add_zero]; exact (h t).symm
  | g :: G, l, h => by
    rw [List.foldl_cons, getT_plus ro t G _ (norm_addG h), getT_addG h, sumC]
    simp only [IntKind.wrap_i64]; omega
theorem getT_minus (ro : List Claim) (t : Triple) : ∀ (G : List Grant) (l : List (Triple × Int)), Norm l → getT t (G.foldl (addG ro (-1)) l) = IntKind.i64.wrap (getT t l - sumC ro t G)
  | [], l, h => by simp only [List.foldl_nil, sumC, Int.sub_zero]; exact (h t).symm
  | g :: G, l, h => by
    rw [List.foldl_cons, getT_minus ro t G _ (norm_addG h), getT_addG h, sumC]
    simp only [IntKind.wrap_i64]; omega
theorem corr_get (was now : List Claim) (old gr : List Grant) (t : Triple) : getT t (corrL was now old gr) = IntKind.i64.wrap (sumC now t gr - sumC was t old) := by
  rw [corrL, getT_minus _ _ _ _ (norm_fold norm_nil), getT_plus _ _ _ _ norm_nil]
  simp only [getT, IntKind.wrap_i64]; omega
theorem corr_nodup (was now : List Claim) (old gr : List Grant) : ((corrL was now old gr).map (·.1)).Nodup := (addAll was (-1) old _ (addAll now 1 gr [] (by simp)).1).1
theorem get_mem {l : List (Triple × Int)} (hn : (l.map (·.1)).Nodup) {x : Triple × Int} (hx : x ∈ l) : getT x.1 l = x.2 := by
  obtain ⟨i, hi, rfl⟩ := List.mem_iff_getElem.1 hx
  exact getT_get l i hi hn
theorem corr_same (day known : Int) (ro : List Claim) (G : List Grant) : corrF day known ro ro G G = [] := by
  rw [corrF, List.flatMap_eq_nil_iff]
  intro x hx
  have h := get_mem (corr_nodup ro ro G G) hx
  rw [corr_get, Int.sub_self] at h
  have : x.2 = 0 := by rw [← h]; rfl
  simp [entE, this]
/-- The opposite litres. -/
def ng (x : Triple × Int) : Triple × Int := (x.1, IntKind.i64.wrap (0 - x.2))
theorem ups_ng (t : Triple) (x : Int) : ∀ l : List (Triple × Int), upsert t (IntKind.i64.wrap (-1 * x)) (l.map ng) = (upsert t (IntKind.i64.wrap (1 * x)) l).map ng
  | [] => by
    simp only [upsert, List.map_cons, List.map_nil, ng, IntKind.wrap_i64, List.cons.injEq, Prod.mk.injEq, true_and, and_true]; omega
  | s :: l => by
    simp only [List.map_cons, upsert, ng]
    split
    · simp only [List.map_cons, ng, IntKind.wrap_i64, List.cons.injEq, Prod.mk.injEq, true_and, and_true]; omega
    · simp only [List.map_cons, ng, List.cons.injEq, true_and]
      exact ups_ng t x l
theorem addG_ng (ro : List Claim) (l : List (Triple × Int)) (g : Grant) : addG ro (-1) (l.map ng) g = (addG ro 1 l g).map ng := by
  unfold addG
  split
  · split
    · rfl
    · exact ups_ng _ _ _
  · rfl
theorem fold_ng (ro : List Claim) : ∀ (G : List Grant) (l : List (Triple × Int)), G.foldl (addG ro (-1)) (l.map ng) = (G.foldl (addG ro 1) l).map ng
  | [], l => rfl
  | g :: G, l => by rw [List.foldl_cons, addG_ng, fold_ng ro G, List.foldl_cons]
def opp (e : Entry) : Entry := ⟨e.Day, e.Known, e.Owner, e.Place, IntKind.i64.wrap (0 - e.Litres), 1, e.Ref⟩
theorem back_first (day known : Int) (ro : List Claim) (G : List Grant) : corrF day known ro [] G [] = (grantsF day known ro G).map opp := by
  have e : corrL ro [] G [] = (G.foldl (addG ro 1) []).map ng := fold_ng ro G []
  rw [corrF, e, grantsF]
  have hN : ∀ x ∈ G.foldl (addG ro 1) [], IntKind.i64.wrap x.2 = x.2 := fun x hx => by
    have h := get_mem (addAll ro 1 G [] (by simp)).1 hx
    rw [← h]; exact norm_fold norm_nil x.1
  revert hN
  generalize G.foldl (addG ro 1) [] = l
  induction l with
  | nil => intro _; rfl
  | cons x l ih =>
    intro hN
    rw [List.map_cons, List.flatMap_cons, List.flatMap_cons, List.map_append, ih fun y hy => hN y (by simp [hy])]
    congr 1
    have hx := hN x (by simp)
    simp only [IntKind.wrap_i64] at hx
    by_cases h0 : x.2 = 0
    · simp only [entE, ng, h0]; rfl
    · have h1 : IntKind.i64.wrap (0 - x.2) ≠ 0 := by simp only [IntKind.wrap_i64]; omega
      simp only [entE, ng, h0, h1, if_false, List.map_cons, List.map_nil, opp]
end Go.Proofs.Ytomnjbebgfadoaa.Pi
end
section
/- Corrections in plain numbers: a right that belonged to another owner.
   Conditions: none; lemmas. -/
set_option linter.unusedVariables false
set_option linter.unusedSimpArgs false
namespace Go.Proofs.Ytomnjbebgfadoaa.Pi
open Go Go.RowKit Go.Proofs
set_option maxHeartbeats 4000000
/-! The day's grants: owners do not matter; the litres' range. -/
def noOwner (c : Claim) : Claim := ⟨c.Id, 0, 0, c.Place, c.Rate, 0, 0, 0, 0⟩
theorem dayF_strip (pl : List Place) (sup : List Int) (ro : List Claim) : dayF pl ro sup = dayF pl (ro.map noOwner) sup := by
  unfold dayF
  rw [List.foldl_map]
  rfl
def InR (x : Int) : Prop := -9223372036854775808 ≤ x ∧ x ≤ 9223372036854775807
theorem inR_wrap (x : Int) : InR (IntKind.i64.wrap x) := by unfold InR; rw [IntKind.wrap_i64]; omega
theorem inR_addF (a b : Int) : InR (addF a b) := by
  unfold addF
  split
  · unfold endF
    split <;> (unfold InR; omega)
  · exact inR_wrap _
def AllR (l : List Int) : Prop := ∀ i : Nat, InR (l.getD i 0)
theorem allR_set {l : List Int} (h : AllR l) (i : Nat) {x : Int} (hx : InR x) : AllR (l.set i x) := fun j => by
  have hj := h j
  rw [List.getD_eq_getElem?_getD, List.getElem?_set]
  split
  · split
    · simpa using hx
    · unfold InR; simp
  · rwa [List.getD_eq_getElem?_getD] at hj
theorem allR_fold {f : List Int → Int → List Int} (hf : ∀ l q, AllR l → AllR (f l q)) : ∀ (R : List Int) (l : List Int), AllR l → AllR (R.foldl f l)
  | [], l, h => h
  | q :: R, l, h => allR_fold hf R _ (hf l q h)
theorem allR_left (pl : List Place) (sup : List Int) : ∀ i, AllR (dayLeft pl sup i)
  | 0 => fun j => by
    unfold dayLeft
    rw [List.getD_eq_getElem?_getD, List.getElem?_replicate]
    split <;> (unfold InR; simp)
  | i + 1 => by
    rw [dayLeft, dayFill]
    split
    · exact allR_fold (fun l q h => allR_set h _ (inR_addF _ _)) _ _ (allR_left pl sup i)
    · exact allR_left pl sup i
theorem leastF_le (L : List Int) : ∀ (R : List Int) (n : Int), leastF L n R ≤ n
  | [], n => Int.le_refl _
  | q :: R, n => by
    unfold leastF
    rw [List.foldl_cons]
    have := leastF_le L R (if L.getD q.toNat 0 < n then L.getD q.toNat 0 else n)
    unfold leastF at this
    refine Int.le_trans this ?_
    split <;> omega
theorem leastF_in {L : List Int} (h : AllR L) {R : List Int} (hR : R ≠ []) (n : Int) : leastF L n R ≤ 9223372036854775807 := by
  cases R with
  | nil => exact absurd rfl hR
  | cons q R =>
    unfold leastF
    rw [List.foldl_cons]
    have h1 := leastF_le L R (if L.getD q.toNat 0 < n then L.getD q.toNat 0 else n)
    unfold leastF at h1
    refine Int.le_trans h1 ?_
    have := (h q.toNat).2
    split <;> omega
def litOk (g : Grant) : Prop := 0 ≤ g.Litres ∧ g.Litres ≤ 9223372036854775807
theorem dayGrant_ok (pl : List Place) {L : List Int} (h : AllR L) (c : Claim) : 0 ≤ dayGrant pl L c ∧ dayGrant pl L c ≤ 9223372036854775807 := by
  unfold dayGrant
  split
  · omega
  · rename_i hR
    have := leastF_in h hR c.Rate
    split <;> omega
theorem dayF_ok (pl : List Place) : ∀ (ro : List Claim) (s : List Grant × List Int), AllR s.2 → (∀ g ∈ s.1, litOk g) →
    (∀ g ∈ (ro.foldl (dayStep pl) s).1, litOk g) ∧ (ro.foldl (dayStep pl) s).1.map (·.Right) = s.1.map (·.Right) ++ ro.map (·.Id)
  | [], s, _, h => ⟨h, by simp⟩
  | c :: ro, s, hA, h => by
    rw [List.foldl_cons]
    have hs : AllR (dayStep pl s c).2 := allR_fold (fun l q h => allR_set h _ (inR_wrap _)) _ _ hA
    have hg : ∀ g ∈ (dayStep pl s c).1, litOk g := by
      intro g hg
      simp only [dayStep] at hg
      rcases List.mem_append.1 hg with hg | hg
      · exact h g hg
      · simp only [List.mem_singleton] at hg
        subst hg
        exact dayGrant_ok pl hA c
    obtain ⟨h1, h2⟩ := dayF_ok pl ro _ hs hg
    refine ⟨h1, h2.trans ?_⟩
    simp [dayStep]
theorem day_ok (pl : List Place) (ro : List Claim) (sup : List Int) : (∀ g ∈ (dayF pl ro sup).1, litOk g) ∧ (dayF pl ro sup).1.map (·.Right) = ro.map (·.Id) := by
  have := dayF_ok pl ro ([], dayLeft pl sup pl.length) (allR_left pl sup _) (by simp)
  simpa [dayF] using this
/-! Another owner. -/
def other (id owner : Int) (c : Claim) : Claim := if c.Id = id then ⟨c.Id, owner, c.Date, c.Place, c.Rate, c.From, c.Until, c.Back, c.BackTo⟩ else c
theorem other_id (id owner : Int) (c : Claim) : (other id owner c).Id = c.Id := by unfold other; split <;> rfl
theorem other_place (id owner : Int) (c : Claim) : (other id owner c).Place = c.Place := by unfold other; split <;> rfl
theorem other_strip (id owner : Int) (c : Claim) : noOwner (other id owner c) = noOwner c := by unfold other noOwner; split <;> rfl
theorem day_other (pl : List Place) (ro : List Claim) (sup : List Int) (id owner : Int) : dayF pl (ro.map (other id owner)) sup = dayF pl ro sup := by
  rw [dayF_strip, dayF_strip pl sup ro, List.map_map]
  congr 1
  exact List.map_congr_left fun c _ => other_strip id owner c
theorem find_other (id owner k : Int) (ro : List Claim) : (ro.map (other id owner)).find? (fun c => c.Id == k) = (ro.find? (fun c => c.Id == k)).map (other id owner) := by
  rw [List.find?_map]
  congr 2
  funext c
  simp [other_id]
theorem ids_ne {ro : List Claim} (hn : (ro.map (·.Id)).Nodup) {i j : Nat} (hi : i < ro.length) (hj : j < ro.length) (h : i ≠ j) : ro[i].Id ≠ ro[j].Id := by
  have hp := List.pairwise_iff_getElem.1 hn
  rcases Nat.lt_or_gt_of_ne h with h | h
  · have := hp i j (by simpa using hi) (by simpa using hj) h
    simpa using this
  · have := hp j i (by simpa using hj) (by simpa using hi) h
    intro e
    exact this (by simpa using e.symm)
theorem find_id : ∀ {ro : List Claim}, (ro.map (·.Id)).Nodup → ∀ {c : Claim}, c ∈ ro → ro.find? (fun x => x.Id == c.Id) = some c
  | x :: l, hn, c, hc => by
    simp only [List.map_cons, List.nodup_cons] at hn
    rw [List.find?_cons]
    rcases List.mem_cons.1 hc with rfl | hc
    · simp
    · have : (x.Id == c.Id) = false := by
        rw [beq_eq_false_iff_ne]
        intro e
        exact hn.1 (by rw [e]; exact List.mem_map_of_mem hc)
      rw [this]
      exact find_id hn.2 hc
theorem set_other {ro : List Claim} (hn : (ro.map (·.Id)).Nodup) {w : Nat} (hw : w < ro.length) (owner : Int) : ro.set w ⟨ro[w].Id, owner, ro[w].Date, ro[w].Place, ro[w].Rate, ro[w].From, ro[w].Until, ro[w].Back, ro[w].BackTo⟩ = ro.map (other ro[w].Id owner) := by
  refine List.ext_getElem (by simp) fun i h1 h2 => ?_
  simp only [List.length_set] at h1
  rw [List.getElem_map, List.getElem_set]
  split
  · rename_i e; subst e; simp [other]
  · rename_i e
    have : ro[i].Id ≠ ro[w].Id := ids_ne hn h1 hw (fun h => e h.symm)
    unfold other
    rw [if_neg this]
/-- The triple that a grant touches. -/
def touch (ro : List Claim) (g : Grant) : Option Triple := match ro.find? (fun c => c.Id == g.Right) with
  | some c => if g.Litres ≤ 0 then none else some ⟨c.Id, c.Owner, c.Place⟩
  | none => none
theorem keys_addG (ro : List Claim) (sign : Int) (l : List (Triple × Int)) (g : Grant) : (addG ro sign l g).map (·.1) = match touch ro g with
    | some t => if hasT t l = true then l.map (·.1) else l.map (·.1) ++ [t]
    | none => l.map (·.1) := by
  unfold addG touch
  cases ro.find? (fun c => c.Id == g.Right) with
  | none => rfl
  | some c =>
    simp only
    split
    · rfl
    · simp only [upsert_fst]
theorem keys_old {ro : List Claim} {sign : Int} : ∀ {G : List Grant} {l : List (Triple × Int)}, (∀ g ∈ G, ∀ t, touch ro g = some t → t ∈ l.map (·.1)) → (G.foldl (addG ro sign) l).map (·.1) = l.map (·.1)
  | [], l, h => rfl
  | g :: G, l, h => by
    have e : (addG ro sign l g).map (·.1) = l.map (·.1) := by
      rw [keys_addG]
      cases ht : touch ro g with
      | none => rfl
      | some t => simp only; rw [if_pos (hasT_mem.2 (h g (by simp) t ht))]
    rw [List.foldl_cons, keys_old (G := G) (l := addG ro sign l g) fun g' hg' t ht => by rw [e]; exact h g' (by simp [hg']) t ht]
    exact e
theorem keys_in {ro : List Claim} {sign : Int} : ∀ {G : List Grant} {l : List (Triple × Int)} {t : Triple}, t ∈ (G.foldl (addG ro sign) l).map (·.1) ↔ t ∈ l.map (·.1) ∨ ∃ g ∈ G, touch ro g = some t
  | [], l, t => by simp
  | g :: G, l, t => by
    rw [List.foldl_cons, keys_in (G := G), keys_addG]
    cases ht : touch ro g with
    | none => simp [ht]
    | some u =>
      simp only
      split
      · rename_i hu
        have hu := hasT_mem.1 hu
        constructor
        · rintro (h | ⟨g', h1, h2⟩)
          · exact .inl h
          · exact .inr ⟨g', by simp [h1], h2⟩
        · rintro (h | ⟨g', h1, h2⟩)
          · exact .inl h
          · rcases List.mem_cons.1 h1 with rfl | h1
            · rw [ht] at h2; cases h2; exact .inl hu
            · exact .inr ⟨g', h1, h2⟩
      · constructor
        · rintro (h | ⟨g', h1, h2⟩)
          · rcases List.mem_append.1 h with h | h
            · exact .inl h
            · simp only [List.mem_singleton] at h; subst h; exact .inr ⟨g, by simp, ht⟩
          · exact .inr ⟨g', by simp [h1], h2⟩
        · rintro (h | ⟨g', h1, h2⟩)
          · exact .inl (by simp [h])
          · rcases List.mem_cons.1 h1 with rfl | h1
            · rw [ht] at h2; cases h2; exact .inl (by simp)
            · exact .inr ⟨g', h1, h2⟩
theorem sumC_diff {ro now : List Claim} {t : Triple} : ∀ {G : List Grant}, (∀ g ∈ G, contr now t g = contr ro t g) → sumC now t G = sumC ro t G
  | [], _ => rfl
  | g :: G, h => by rw [sumC, sumC, h g (by simp), sumC_diff fun g' hg' => h g' (by simp [hg'])]
theorem sumC_app (ro : List Claim) (t : Triple) : ∀ (G G' : List Grant), sumC ro t (G ++ G') = sumC ro t G + sumC ro t G'
  | [], G' => by simp [sumC]
  | g :: G, G' => by rw [List.cons_append, sumC, sumC, sumC_app ro t G]; omega
theorem corr_nil {day known : Int} {was now : List Claim} {old gr : List Grant} (h : ∀ t, sumC now t gr = sumC was t old) : corrF day known was now old gr = [] := by
  rw [corrF, List.flatMap_eq_nil_iff]
  intro x hx
  have e := get_mem (corr_nodup was now old gr) hx
  rw [corr_get, h, Int.sub_self] at e
  have : x.2 = 0 := by rw [← e]; rfl
  simp [entE, this]
theorem other_ne {ro : List Claim} {id owner : Int} {g : Grant} (h : g.Right ≠ id) : (ro.map (other id owner)).find? (fun c => c.Id == g.Right) = ro.find? (fun c => c.Id == g.Right) := by
  rw [find_other]
  cases hf : ro.find? (fun c => c.Id == g.Right) with
  | none => rfl
  | some c =>
    have := List.find?_some hf
    simp only [beq_iff_eq] at this
    simp only [Option.map_some, other]
    rw [if_neg (by rw [this]; exact h)]
theorem contr_ne {ro : List Claim} {id owner : Int} {g : Grant} (h : g.Right ≠ id) (t : Triple) : contr (ro.map (other id owner)) t g = contr ro t g := by
  unfold contr; rw [other_ne h]
theorem touch_ne {ro : List Claim} {id owner : Int} {g : Grant} (h : g.Right ≠ id) : touch (ro.map (other id owner)) g = touch ro g := by
  unfold touch; rw [other_ne h]
theorem share_skip {old : Claim} {o p : Int} : ∀ {G : List Grant} {n : Int}, (∀ g ∈ G, g.Right ≠ old.Id) → G.foldl (shareG [old] o p) n = n
  | [], n, h => rfl
  | g :: G, n, h => by
    have e : shareG [old] o p n g = n := by
      simp only [shareG, List.foldl_cons, List.foldl_nil, shareK]
      rw [if_neg]
      exact fun hh => h g (by simp) hh.1.symm
    rw [List.foldl_cons, e]
    exact share_skip fun g' hg' => h g' (by simp [hg'])
theorem ent_zero {day known : Int} {l : List (Triple × Int)} (h : ∀ x ∈ l, x.2 = 0) : l.flatMap (entE day known 1) = [] := by
  rw [List.flatMap_eq_nil_iff]
  intro x hx
  simp [entE, h x hx]
theorem corr_moves {ro : List Claim} {G : List Grant} {old : Claim} {owner : Int} (day known : Int) (hn : (ro.map (·.Id)).Nodup) (hold : old ∈ ro) (hG : G.map (·.Right) = ro.map (·.Id)) (hlit : ∀ g ∈ G, litOk g) (hown : owner ≠ old.Owner) :
    ∃ n : Int, 0 ≤ n ∧ n ≤ 9223372036854775807 ∧ shareF [old] G old.Owner old.Place = n ∧
      corrF day known ro (ro.map (other old.Id owner)) G G = if n = 0 then [] else [⟨day, known, owner, old.Place, n, 1, old.Id⟩, ⟨day, known, -1, old.Place, -n, 1, old.Id⟩, ⟨day, known, old.Owner, old.Place, -n, 1, old.Id⟩, ⟨day, known, -1, old.Place, n, 1, old.Id⟩] := by
  have hm : old.Id ∈ G.map (·.Right) := by rw [hG]; exact List.mem_map_of_mem hold
  obtain ⟨g0, hg0, hr0⟩ := List.mem_map.1 hm
  obtain ⟨G1, G2, rfl⟩ := List.append_of_mem hg0
  rw [← hG] at hn
  have hnG := hn
  rw [hG] at hn
  simp only [List.map_append, List.map_cons, List.nodup_append, List.nodup_cons] at hnG
  obtain ⟨hn1, ⟨hn2, hn3⟩, hn4⟩ := hnG
  have h1 : ∀ g ∈ G1, g.Right ≠ old.Id := fun g hg e => hn4 g.Right (List.mem_map_of_mem hg) g0.Right (by simp) (by rw [e, hr0])
  have h2 : ∀ g ∈ G2, g.Right ≠ old.Id := fun g hg e => hn2 (by rw [hr0, ← e]; exact List.mem_map_of_mem hg)
  have hl0 := hlit g0 (by simp)
  have hf : ro.find? (fun c => c.Id == g0.Right) = some old := by rw [hr0]; exact find_id hn hold
  have hf' : (ro.map (other old.Id owner)).find? (fun c => c.Id == g0.Right) = some ⟨old.Id, owner, old.Date, old.Place, old.Rate, old.From, old.Until, old.Back, old.BackTo⟩ := by
    rw [find_other, hf]; simp [other]
  refine ⟨g0.Litres, hl0.1, hl0.2, ?_, ?_⟩
  · unfold shareF
    rw [List.foldl_append, share_skip h1, List.foldl_cons, share_skip h2]
    simp only [shareG, List.foldl_cons, List.foldl_nil, shareK]
    rw [if_pos ⟨hr0.symm, trivial, trivial⟩, Int.zero_add, wrap64 (by have := hl0.1; omega) hl0.2]
  by_cases hz : g0.Litres = 0
  · rw [if_pos hz]
    refine corr_nil fun t => ?_
    refine sumC_diff fun g hg => ?_
    by_cases e : g.Right = old.Id
    · have : g = g0 := by
        rcases List.mem_append.1 hg with hg | hg
        · exact absurd e (h1 g hg)
        · rcases List.mem_cons.1 hg with rfl | hg
          · rfl
          · exact absurd e (h2 g hg)
      subst this
      unfold contr
      rw [hf, hf']
      simp [hz]
    · exact contr_ne e t
  rw [if_neg hz]
  have hpos : ¬ g0.Litres ≤ 0 := by have := hl0.1; omega
  have hD : ∀ t, sumC (ro.map (other old.Id owner)) t (G1 ++ g0 :: G2) - sumC ro t (G1 ++ g0 :: G2) = (if teq t ⟨old.Id, owner, old.Place⟩ = true then g0.Litres else 0) - (if teq t ⟨old.Id, old.Owner, old.Place⟩ = true then g0.Litres else 0) := fun t => by
    rw [sumC_app, sumC_app, sumC, sumC, sumC_diff (fun g hg => contr_ne (h1 g hg) t), sumC_diff (fun g hg => contr_ne (h2 g hg) t)]
    have e1 : contr (ro.map (other old.Id owner)) t g0 = if teq t ⟨old.Id, owner, old.Place⟩ = true then g0.Litres else 0 := by unfold contr; rw [hf']; simp only [hpos, if_false]
    have e2 : contr ro t g0 = if teq t ⟨old.Id, old.Owner, old.Place⟩ = true then g0.Litres else 0 := by unfold contr; rw [hf]; simp only [hpos, if_false]
    rw [e1, e2]
    omega
  have ht1 : touch (ro.map (other old.Id owner)) g0 = some ⟨old.Id, owner, old.Place⟩ := by unfold touch; rw [hf']; simp only [hpos, if_false]
  have ht2 : touch ro g0 = some ⟨old.Id, old.Owner, old.Place⟩ := by unfold touch; rw [hf]; simp only [hpos, if_false]
  generalize hS : (G1 ++ g0 :: G2).foldl (addG (ro.map (other old.Id owner)) 1) [] = S
  have hkS : ∀ t, t ∈ S.map (·.1) ↔ ∃ g ∈ G1 ++ g0 :: G2, touch (ro.map (other old.Id owner)) g = some t := fun t => by rw [← hS, keys_in]; simp
  have hT1 : (⟨old.Id, owner, old.Place⟩ : Triple) ∈ S.map (·.1) := (hkS _).2 ⟨g0, by simp, ht1⟩
  have hT2 : (⟨old.Id, old.Owner, old.Place⟩ : Triple) ∉ S.map (·.1) := fun hh => by
    obtain ⟨g, hg, ht⟩ := (hkS _).1 hh
    unfold touch at ht
    rw [find_other] at ht
    cases hc : ro.find? (fun c => c.Id == g.Right) with
    | none => rw [hc] at ht; cases ht
    | some c =>
      rw [hc] at ht
      simp only [Option.map_some] at ht
      split at ht
      · cases ht
      · simp only [Option.some.injEq, Triple.mk.injEq, other_id] at ht
        obtain ⟨hh1, hh2, _⟩ := ht
        rw [other, if_pos hh1] at hh2
        exact hown hh2
  have hk : (corrL ro (ro.map (other old.Id owner)) (G1 ++ g0 :: G2) (G1 ++ g0 :: G2)).map (·.1) = S.map (·.1) ++ [⟨old.Id, old.Owner, old.Place⟩] := by
    rw [corrL, hS, List.foldl_append, List.foldl_cons]
    have k1 : (G1.foldl (addG ro (-1)) S).map (·.1) = S.map (·.1) := keys_old fun g hg t ht => (hkS t).2 ⟨g, by simp [hg], by rw [touch_ne (h1 g hg)]; exact ht⟩
    have k2 : (addG ro (-1) (G1.foldl (addG ro (-1)) S) g0).map (·.1) = S.map (·.1) ++ [⟨old.Id, old.Owner, old.Place⟩] := by
      rw [keys_addG, ht2]; simp only; rw [if_neg (fun hh => hT2 (by rw [← k1]; exact hasT_mem.1 hh)), k1]
    rw [keys_old fun g hg t ht => ?_, k2]
    rw [k2]
    exact List.mem_append.2 (.inl ((hkS t).2 ⟨g, by simp [hg], by rw [touch_ne (h2 g hg)]; exact ht⟩))
  have hval := fun z (hz : z ∈ corrL ro (ro.map (other old.Id owner)) (G1 ++ g0 :: G2) (G1 ++ g0 :: G2)) => get_mem (corr_nodup _ _ _ _) hz
  have hnd := corr_nodup ro (ro.map (other old.Id owner)) (G1 ++ g0 :: G2) (G1 ++ g0 :: G2)
  simp only [corr_get, hD] at hval
  rw [corrF]
  generalize corrL ro (ro.map (other old.Id owner)) (G1 ++ g0 :: G2) (G1 ++ g0 :: G2) = L at hk hval hnd
  obtain ⟨A, B, rfl, hA, hB⟩ := List.map_eq_append_iff.1 hk
  obtain ⟨x, rfl, hx⟩ : ∃ x, B = [x] ∧ x.1 = ⟨old.Id, old.Owner, old.Place⟩ := by
    cases B with
    | nil => simp at hB
    | cons x B => cases B with
      | nil => exact ⟨x, rfl, by simpa using hB⟩
      | cons => simp at hB
  rw [← hA] at hT1 hT2
  obtain ⟨y, hy, hy1⟩ := List.mem_map.1 hT1
  obtain ⟨A1, A2, rfl⟩ := List.append_of_mem hy
  have hzero : ∀ z, z ∈ A1 ++ y :: A2 → z.1 ≠ (⟨old.Id, owner, old.Place⟩ : Triple) → z.2 = 0 := fun z hzm hne => by
    have e := hval z (by simp only [List.mem_append] at hzm ⊢; exact .inl hzm)
    have n1 : ¬ teq z.1 ⟨old.Id, owner, old.Place⟩ = true := fun h => hne (teq_iff.1 h)
    have n2 : ¬ teq z.1 ⟨old.Id, old.Owner, old.Place⟩ = true := fun h => hT2 (by rw [← teq_iff.1 h]; exact List.mem_map_of_mem hzm)
    rw [if_neg n1, if_neg n2] at e
    rw [← e]; rfl
  have hndA : (List.map (·.1) (A1 ++ y :: A2)).Nodup := by
    rw [List.map_append] at hnd
    exact (List.nodup_append.1 hnd).1
  simp only [List.map_append, List.map_cons, List.nodup_append, List.nodup_cons] at hndA
  obtain ⟨q1, ⟨q2, q3⟩, q4⟩ := hndA
  have z1 : ∀ z ∈ A1, z.2 = 0 := fun z hz1 => hzero z (by simp [hz1]) fun e => q4 z.1 (List.mem_map_of_mem hz1) y.1 (by simp) (by rw [e, hy1])
  have z2 : ∀ z ∈ A2, z.2 = 0 := fun z hz1 => hzero z (by simp [hz1]) fun e => q2 (by rw [hy1, ← e]; exact List.mem_map_of_mem hz1)
  have hyv := hval y (by simp)
  have hxv := hval x (by simp)
  rw [hy1] at hyv
  rw [hx] at hxv
  have t12 : teq (⟨old.Id, owner, old.Place⟩ : Triple) ⟨old.Id, old.Owner, old.Place⟩ = false := by
    cases hb : teq (⟨old.Id, owner, old.Place⟩ : Triple) ⟨old.Id, old.Owner, old.Place⟩ with
    | false => rfl
    | true =>
      have := teq_iff.1 hb
      simp only [Triple.mk.injEq, true_and, and_true] at this
      exact absurd this hown
  have t21 : teq (⟨old.Id, old.Owner, old.Place⟩ : Triple) ⟨old.Id, owner, old.Place⟩ = false := by rw [teq_symm]; exact t12
  have tr : ∀ t : Triple, teq t t = true := fun t => teq_iff.2 rfl
  simp only [t12, t21, tr, if_true, Bool.false_eq_true, if_false, Int.sub_zero, Int.zero_sub] at hyv hxv
  rw [wrap64 (by have := hl0.1; omega) hl0.2] at hyv
  rw [wrap64 (by have := hl0.2; omega) (by have := hl0.1; omega)] at hxv
  rw [List.flatMap_append, List.flatMap_append, List.flatMap_cons, ent_zero z1, ent_zero z2, List.flatMap_cons, List.flatMap_nil]
  simp only [entE, ← hyv, ← hxv, hy1, hx]
  rw [if_neg hz, if_neg (by omega)]
  have w1 : IntKind.i64.wrap (0 - g0.Litres) = -g0.Litres := by rw [wrap64 (by have := hl0.2; omega) (by have := hl0.1; omega)]; omega
  have w2 : IntKind.i64.wrap (0 - -g0.Litres) = g0.Litres := by rw [wrap64 (by have := hl0.1; omega) (by have := hl0.2; omega)]; omega
  rw [w1, w2]
  rfl
end Go.Proofs.Ytomnjbebgfadoaa.Pi
end
section
/- Sums of litres, in the program.
   Conditions: none; lemmas. -/
set_option linter.unusedVariables false
set_option linter.unusedSimpArgs false
namespace Go.Proofs.Ytomnjbebgfadoaa.Pi
open Go Go.RowKit Go.Proofs
set_option maxHeartbeats 4000000
/-- math/bits.Add64, which the model stands in for. -/
def pre48 : List PV → Prop
  | [.d (.int .u64 x), .d (.int .u64 y), .d (.int .u64 c)] => 0 ≤ x ∧ 0 ≤ y ∧ c = 0
  | _ => False
def res48 : List PV → PV
  | [.d (.int .u64 x), .d (.int .u64 y), .d (.int .u64 c)] => .tup [.d (.int .u64 ((x + y) % 18446744073709551616)), .d (.int .u64 ((x + y) / 18446744073709551616))]
  | _ => .un
abbrev con48 : ICon := ⟨fun _ ps => pre48 ps, fun o ps o' p => o' = o ∧ p = res48 ps⟩
theorem ok48 : IExtOk Try.prog 48 con48 := by
  refine ⟨fun o ps _ => ⟨o, _, rfl, rfl⟩, fun base w0 X o α w ps vs hpre hO hr => ?_⟩
  simp only at hpre
  unfold pre48 at hpre
  split at hpre
  · rename_i x y c
    obtain ⟨hx, hy, rfl⟩ := hpre
    simp only [PV.rels, PV.rel, D.rd] at hr
    obtain ⟨_, _, rfl, rfl, _, _, rfl, rfl, _, _, rfl, rfl, rfl⟩ := hr
    refine ⟨o, α, _, .tuple #[.int .u64 ((x + y) % 18446744073709551616), .int .u64 ((x + y) / 18446744073709551616)], w, ?_, ⟨rfl, rfl⟩, hO, ?_⟩
    · rw [run_callFunc_extern (Try.func48) (by kernel_rfl) (by kernel_rfl) (by kernel_rfl) (e := add64Entry) (by kernel_rfl)]
      have := run_add64 (P := Try.prog) x y 0 hx hy (by omega) (by omega) w
      rw [Int.add_zero] at this
      rw [this]
      rfl
    · simp only [res48, PV.rel, PV.rels, D.rd]
      exact ⟨_, rfl, _, _, rfl, rfl, _, _, rfl, rfl, rfl⟩
  · exact hpre.elim
theorem pre48_eq {x y c : Int} : pre48 [.d (.int .u64 x), .d (.int .u64 y), .d (.int .u64 c)] = (0 ≤ x ∧ 0 ≤ y ∧ c = 0) := rfl
theorem res48_eq {x y c : Int} : res48 [.d (.int .u64 x), .d (.int .u64 y), .d (.int .u64 c)] = .tup [.d (.int .u64 ((x + y) % 18446744073709551616)), .d (.int .u64 ((x + y) / 18446744073709551616))] := rfl
def litresF (l : List Entry) : List Int := l.map (·.Litres)
abbrev cLE : Cod (List Entry) := cod1 (fun l => .lst 7 (l.map Entry.row)) (dLst 7 Entry.of) fun _ _ => dLst_iff Entry.iff
abbrev con28 : Con := .of cLE (fun l => l.length ≤ 1000000) (fun l rs => rs = [.d (.lst 1 ((litresF l).map irow))]) false
def fillL (l : List Entry) (i : Nat) : List Int := (litresF l).take i ++ List.replicate (l.length - i) 0
theorem fillL_0 (l : List Entry) : fillL l 0 = List.replicate l.length 0 := by simp [fillL]
theorem fillL_all (l : List Entry) : fillL l l.length = litresF l := by
  unfold fillL
  rw [Nat.sub_self, List.replicate_zero, List.append_nil, List.take_of_length_le (by simp [litresF])]
theorem fillL_set (l : List Entry) {i : Nat} (h : i < l.length) : (fillL l i).set i (l.getD i .zero).Litres = fillL l (i + 1) := by
  unfold fillL
  have hl : ((litresF l).take i).length = i := by simp [litresF]; omega
  rw [List.set_append_right _ _ (by omega), hl, Nat.sub_self]
  have : l.length - i = (l.length - (i + 1)) + 1 := by omega
  rw [this, List.replicate_succ, List.set_cons_zero, List.take_succ_eq_append_getElem (by simpa [litresF] using h)]
  simp [litresF, h]
noncomputable def E28 : Env := E0.at 23 (fun d => false) (fun d => d) (fun d => true)
theorem E28_ok : EnvOk E28 := E0_ok.at _ _ _ _
theorem E28_r : E28.ty = E0.ty ∧ E28.own 8 = false ∧ E28.fact 7 = true ∧ E28.fact 10 = true ∧ (∀ d, E28.key d = d) := ⟨rfl, rfl, rfl, rfl, fun _ => rfl⟩

set_option maxRecDepth 20000 in
theorem ok28 : ConOk Try.prog 28 con28 := by
  refine con_of (E := E28) E28_ok (fn := Try.f28) Try.func28 rfl (by decide) (by kernel_rfl) (rs := [.tmp 2]) rfl (by decide) (by decide) [.data 29]  (fun _ _ => ⟨_, rfl⟩) (by simp) ?_
  rintro l hl
  simp (maxSteps := 1000000) only [startP_eq, startL, List.map_cons, List.map_nil, run_region, run_seq, run_block, run_loop, opsK_nil, opsK_op, seqK_normal, upd_apply, after_some, ev_tmp, ev_int, ev_nils, St.sv, St.sc, strip, stripC, pmap_some, op_move, op_assign, op_len, eK_some, emap_some, op_make, Option.map_some, true_and, ↓reduceIte, reduceCtorEq, cod1_enc, and_self, Env.tk, lenV, plainTI, List.length_map, lbK_true, lnK_none, lenF, Bool.false_eq_true, maxLen_eq, plainTI, ty_r, E28_r, makeE, irep, rowNew]
  intro _
  refine ⟨⟨by omega, by omega⟩, fun _ => ?_⟩
  refine pwp_loop (fun n S => ∃ i : Int, 0 ≤ i ∧ i ≤ (l.length : Int) ∧ n = ((l.length : Int) - i).toNat ∧ S.t 11 = .d (.int .i64 i) ∧ S.t 10 = .d (.int .i64 l.length) ∧ S.t 9 = .d (.lst 7 (l.map Entry.row)) ∧ S.t 3 = .row 8 1 l.length ∧ S.o 8 = (1, some (.row 1 3 ((fillL l i.toNat).map irow)))) ((l.length : Int) - 0).toNat ⟨0, by omega, by omega, rfl, rfl, rfl, rfl, rfl, (by rw [show (0 : Int).toNat = 0 from rfl, fillL_0]; rfl)⟩ ?_
  rintro n ⟨t, o⟩ ⟨i, hi0, hil, hn, h11, h10, h9, h3, ho8⟩
  simp only at h11 h10 h9 h3 ho8
  have hfl : (fillL l i.toNat).length = l.length := by simp [fillL, litresF]; omega
  by_cases hlt : i < (l.length : Int)
  · have hs := fillL_set l (i := i.toNat) (by omega)
    generalize fillL l i.toNat = L at hs hfl ho8
    simp (maxSteps := 1000000) only [List.map_cons, List.map_nil, run_skip, run_region, run_seq, run_cond, run_block, run_exit, run_ret, opsK_nil, opsK_op, seqK_normal, seqK_exit, blkK_normal, blkK_exit, loopK_normal, loopK_exit, endP_ret, condK_bool, upd_apply, after_some, after_none, ev_tmp, ev_int, St.sv, St.sc, strip, stripC, pK_none, pmap_some, op_move, op_assign, on_bin, op_load, op_fa, op_ia, bin_add, bin_lss, eK_some, emap_some, op_alloc, op_store, outK, outL, outM, resPs, resP, rvsOf, rvOf, snapV, snapC, sepB, ownKs, dataKs, keysV, keysC, nodupB, Option.bind_some, Option.map_some, true_and, and_true, ↓reduceIte, Nat.reduceEqDiff, Nat.reduceAdd, Nat.reduceLT, Nat.reduceLeDiff, Nat.zero_add, Nat.add_zero, List.all_nil, List.append_nil, List.nil_append, Bool.and_self, List.getElem?_cons_succ, List.getElem?_cons_zero, List.contains_nil, and_self, Env.tk, loadV, fieldAddrV, indexAddrV, loadD, loadP, allocE, storeE, St.obj, TI.isAgg, plainTI, zpv, cellsP, refNew, newOb, setOb, cut, List.getD_cons_zero, List.getD_cons_succ, List.length_cons, List.length_nil, List.length_map, pN_bool, pN_int, List.take_succ_cons, List.take_zero, List.drop_zero, List.drop_succ_cons, List.take_nil, List.drop_nil, Nat.mul_zero, dcells, dcell, contains_cons', Bool.or_false, Bool.false_eq_true, plainTI, ty_r, E28_r, Entry.getD, Entry.row, irow, igetD, h11, h10, h9, h3, ho8, iset]
    intro x hx
    simp only [Named] at hx
    refine ⟨fun _ => ⟨⟨hi0, hlt⟩, ⟨hi0, hlt⟩, by omega, ?_⟩, fun h => by subst hx; simp [hlt] at h⟩
    refine ghost_id ⟨((l.length : Int) - (i + 1)).toNat, by omega, i + 1, by omega, by omega, rfl, ?_, h10, h9, h3, ?_⟩
    · simp only [upd_apply, ↓reduceIte]; rw [wrap64 (by omega) (by omega)]
    · rw [show (i + 1).toNat = i.toNat + 1 by omega, ← hs]
      simp only [setOb, newOb, ↓reduceIte, Nat.reduceEqDiff, ho8]
  · have hdec : decide (i < (l.length : Int)) = false := by simp; omega
    have hge : i.toNat = l.length := by omega
    rw [hge, fillL_all] at ho8
    simp (maxSteps := 1000000) only [List.map_cons, List.map_nil, run_skip, run_region, run_seq, run_cond, run_block, run_exit, run_ret, opsK_nil, opsK_op, seqK_normal, seqK_exit, blkK_normal, blkK_exit, loopK_normal, loopK_exit, endP_ret, condK_bool, upd_apply, after_some, after_none, ev_tmp, ev_int, St.sv, St.sc, strip, stripC, pK_none, pmap_some, op_move, op_assign, on_bin, op_load, op_fa, op_ia, bin_add, bin_lss, eK_some, emap_some, op_alloc, op_store, outK, outL, outM, resPs, resP, rvsOf, rvOf, snapV, snapC, sepB, ownKs, dataKs, keysV, keysC, nodupB, Option.bind_some, Option.map_some, true_and, and_true, implies_true, ↓reduceIte, Nat.reduceEqDiff, Nat.reduceAdd, Nat.reduceLT, Nat.reduceLeDiff, Nat.zero_add, Nat.add_zero, List.all_nil, List.append_nil, List.nil_append, Bool.and_self, List.getElem?_cons_succ, List.getElem?_cons_zero, List.contains_nil, and_self, Env.tk, loadV, fieldAddrV, indexAddrV, loadD, loadP, allocE, storeE, St.obj, TI.isAgg, plainTI, zpv, cellsP, refNew, newOb, setOb, cut, List.getD_cons_zero, List.getD_cons_succ, List.length_cons, List.length_nil, List.length_map, pN_bool, pN_int, List.take_succ_cons, List.take_zero, List.drop_zero, List.drop_succ_cons, List.take_nil, List.drop_nil, Nat.mul_zero, dcells, dcell, contains_cons', Bool.or_false, Bool.false_eq_true, plainTI, ty_r, E28_r, Entry.getD, Entry.row, irow, igetD, h11, h10, h9, h3, ho8, hdec]
    intro x hx
    simp only [Named] at hx
    intro h; subst hx; cases h
/-- The exact sum. -/
def sumF (l : List Int) : Int := l.foldl (fun s n => s + n) 0
abbrev cLInt : Cod (List Int) := cod1 (fun l => .lst 1 (l.map irow)) (dLst 1 iof) fun _ _ => dLst_iff iof_iff
def inR (x : Int) : Bool := decide (-9223372036854775808 ≤ x) && decide (x ≤ 9223372036854775807)
abbrev con27 : Con := .of cLInt (fun l => l.length ≤ 1000000 ∧ ∀ x ∈ l, -9223372036854775808 ≤ x ∧ x ≤ 9223372036854775807) (fun l rs => rs = [.d (.int .i64 (if inR (sumF l) = true then sumF l else 0)), .d (.bool (inR (sumF l)))]) true
theorem wrapu (n : Int) : IntKind.u64.wrap n = n % 18446744073709551616 := by simp [IntKind.wrap, IntKind.bits, IntKind.signed]
theorem shr63 {x : Int} (h : -9223372036854775808 ≤ x ∧ x ≤ 9223372036854775807) : x.fdiv (2 ^ min 63 IntKind.i64.bits) = if x < 0 then -1 else 0 := by
  have e : (2 : Int) ^ min 63 IntKind.i64.bits = 9223372036854775808 := by decide
  rw [e, Int.fdiv_eq_ediv_of_nonneg _ (by omega)]
  split <;> omega
theorem sumStep {hi lo s k x : Int} (u1 : 0 ≤ hi) (u2 : hi < 18446744073709551616) (u3 : 0 ≤ lo) (u4 : lo < 18446744073709551616) (hs : hi * 18446744073709551616 + lo = s + k * 340282366920938463463374607431768211456) (hx : -9223372036854775808 ≤ x ∧ x ≤ 9223372036854775807) :
    ∃ hi' k' : Int, IntKind.u64.wrap (hi + IntKind.u64.wrap (IntKind.u64.wrap (if x < 0 then -1 else 0) + (lo + IntKind.u64.wrap x) / 18446744073709551616)) = hi' ∧ 0 ≤ hi' ∧ hi' < 18446744073709551616 ∧ hi' * 18446744073709551616 + (lo + IntKind.u64.wrap x) % 18446744073709551616 = s + x + k' * 340282366920938463463374607431768211456 := by
  simp only [wrapu]
  have hq : (lo + x % 18446744073709551616) / 18446744073709551616 = 0 ∨ (lo + x % 18446744073709551616) / 18446744073709551616 = 1 := by omega
  by_cases hneg : x < 0
  · rw [if_pos hneg]
    have hm : x % 18446744073709551616 = x + 18446744073709551616 := by omega
    rw [hm] at hq ⊢
    rcases hq with hq | hq
    · rw [hq]
      by_cases h0 : hi = 0
      · exact ⟨18446744073709551615, k + 1, by omega, by omega, by omega, by omega⟩
      · exact ⟨hi - 1, k, by omega, by omega, by omega, by omega⟩
    · rw [hq]
      exact ⟨hi, k, by omega, by omega, by omega, by omega⟩
  · rw [if_neg hneg]
    have hm : x % 18446744073709551616 = x := by omega
    rw [hm] at hq ⊢
    rcases hq with hq | hq
    · rw [hq]
      exact ⟨hi, k, by omega, by omega, by omega, by omega⟩
    · rw [hq]
      by_cases h0 : hi = 18446744073709551615
      · exact ⟨0, k - 1, by omega, by omega, by omega, by omega⟩
      · exact ⟨hi + 1, k, by omega, by omega, by omega, by omega⟩
theorem sumEnd {hi lo s k : Int} (u1 : 0 ≤ hi) (u2 : hi < 18446744073709551616) (u3 : 0 ≤ lo) (u4 : lo < 18446744073709551616) (hs : hi * 18446744073709551616 + lo = s + k * 340282366920938463463374607431768211456) (b1 : s ≤ 1000000 * 9223372036854775807) (b2 : -(1000000 * 9223372036854775808) ≤ s) :
    (hi = IntKind.u64.wrap (if IntKind.i64.wrap lo < 0 then -1 else 0) → IntKind.i64.wrap lo = s ∧ inR s = true) ∧ (hi ≠ IntKind.u64.wrap (if IntKind.i64.wrap lo < 0 then -1 else 0) → inR s = false) := by
  simp only [wrapu, IntKind.wrap_i64, inR, Bool.and_eq_true, decide_eq_true_eq, Bool.and_eq_false_iff, decide_eq_false_iff_not]
  by_cases hl : lo < 9223372036854775808
  · rw [if_neg (by omega)]
    constructor
    · intro h; omega
    · intro h; omega
  · rw [if_pos (by omega)]
    constructor
    · intro h; omega
    · intro h; omega
noncomputable def E27 : Env := (E0.iadd 48 con48).at 39 (fun d => false) (fun d => d) (fun d => true)
theorem E27_ok : EnvOk E27 := (E0_ok.xadd ok48).at _ _ _ _
theorem E27_r : E27.ty = E0.ty ∧ E27.icon 48 = some con48 ∧ E27.fact 11 = true ∧ (∀ d, E27.key d = d) := ⟨rfl, rfl, rfl, fun _ => rfl⟩

set_option maxRecDepth 20000 in
theorem ok27 : ConOk Try.prog 27 con27 := by
  refine con_of (E := E27) E27_ok (fn := Try.f27) Try.func27 rfl (by decide) (by kernel_rfl) (rs := [.tmp 2, .tmp 3]) rfl (by decide) (by decide) [.data 3, .data 4]  (fun _ _ => ⟨_, rfl⟩) (by rintro _ a r rfl x hx; simp only [List.mem_cons, List.not_mem_nil, or_false] at hx; rcases hx with rfl | rfl <;> rfl) ?_
  rintro l ⟨hl, hr⟩
  simp (maxSteps := 1000000) only [startP_eq, startL, List.map_cons, List.map_nil, run_region, run_seq, run_block, run_loop, opsK_nil, opsK_op, seqK_normal, upd_apply, after_some, ev_tmp, ev_int, ev_bool, St.sv, St.sc, strip, stripC, pmap_some, op_move, op_assign, op_len, Option.map_some, true_and, ↓reduceIte, reduceCtorEq, cod1_enc, and_self, Env.tk, lenV, List.length_map, lbK_true, lnK_none, lenF, maxLen_eq, ty_r, E27_r]
  intro _
  refine pwp_loop (fun n S => ∃ (i hi lo k : Int), 0 ≤ i ∧ i ≤ (l.length : Int) ∧ n = ((l.length : Int) - i).toNat ∧ 0 ≤ hi ∧ hi < 18446744073709551616 ∧ 0 ≤ lo ∧ lo < 18446744073709551616 ∧ hi * 18446744073709551616 + lo = sumF (l.take i.toNat) + k * 340282366920938463463374607431768211456 ∧ sumF (l.take i.toNat) ≤ i * 9223372036854775807 ∧ -(i * 9223372036854775808) ≤ sumF (l.take i.toNat) ∧ S.t 12 = .d (.int .i64 i) ∧ S.t 11 = .d (.int .i64 l.length) ∧ S.t 10 = .d (.lst 1 (l.map irow)) ∧ S.t 4 = .d (.int .u64 hi) ∧ S.t 5 = .d (.int .u64 lo)) ((l.length : Int) - 0).toNat ⟨0, 0, 0, 0, by omega, by omega, rfl, by omega, by omega, by omega, by omega, by simp [sumF], by simp [sumF], by simp [sumF], rfl, rfl, rfl, rfl, rfl⟩ ?_
  rintro n ⟨t, o⟩ ⟨i, hi, lo, k, hi0, hil, hn, u1, u2, u3, u4, hs, b1, b2, h12, h11, h10, h4, h5⟩
  simp only at h12 h11 h10 h4 h5
  by_cases hlt : i < (l.length : Int)
  · have hi2 : i.toNat < l.length := by omega
    have hfo := foldTake (fun s n : Int => s + n) 0 l i.toNat 0 hi2
    have hx := hr (l.getD i.toNat 0) (by rw [List.getD_eq_getElem?_getD, List.getElem?_eq_getElem hi2]; simp)
    change sumF (l.take (i.toNat + 1)) = sumF (l.take i.toNat) + l.getD i.toNat 0 at hfo
    simp (maxSteps := 1000000) only [List.map_cons, List.map_nil, run_skip, run_region, run_seq, run_cond, run_block, run_exit, run_ret, opsK_nil, opsK_op, seqK_normal, seqK_exit, seqK_ret, blkK_normal, blkK_exit, loopK_normal, loopK_exit, endP_ret, condK_bool, upd_apply, after_some, ev_tmp, ev_int, ev_bool, St.sv, St.sc, strip, stripC, argsC, pK_none, pmap_some, op_move, op_assign, on_bin, op_conv, op_ext, op_load, op_ia, bin_add, bin_eql, bin_lss, op_call, iK_some, iK2_some, icallInfo_func, outK, outL, outM, resPs, resP, rvsOf, rvOf, snapV, snapC, sepB, ownKs, dataKs, keysV, keysC, nodupB, extV, Option.bind_some, Option.map_some, true_and, and_true, ↓reduceIte, Nat.reduceEqDiff, Nat.reduceLT, Nat.zero_add, List.all_nil, List.append_nil, Bool.and_self, List.getElem?_cons_succ, List.getElem?_cons_zero, List.contains_nil, Bool.not_false, and_self, Env.tk, loadV, indexAddrV, loadD, TI.isAgg, List.getD_cons_zero, List.length_cons, List.length_nil, List.length_map, imp_eq, pN_bool, pN_int, bin_shr, Bool.false_eq_true, Int.reduceToNat, ty_r, E27_r, irow, igetD, h12, h11, h10, h4, h5, convV, Env.tk, Option.map_some, wint, con48, pre48_eq, res48_eq, and_imp]
    generalize l.getD i.toNat 0 = x at hfo hx
    obtain ⟨hi', k', e1, e2, e3, e4⟩ := sumStep u1 u2 u3 u4 hs hx
    rw [shr63 hx, e1]
    intro y hy
    simp only [Named] at hy
    refine ⟨fun _ => ⟨⟨hi0, hlt⟩, ⟨rfl, u3, by rw [wrapu]; omega⟩, by omega, ?_⟩, fun h => by subst hy; simp [hlt] at h⟩
    refine ghost_id ⟨((l.length : Int) - (i + 1)).toNat, by omega, i + 1, hi', (lo + IntKind.u64.wrap x) % 18446744073709551616, k', by omega, by omega, rfl, e2, e3, by omega, by omega, ?_, ?_, ?_, ?_, h11, h10, ?_, ?_⟩
    · rw [show (i + 1).toNat = i.toNat + 1 by omega, hfo]; exact e4
    · rw [show (i + 1).toNat = i.toNat + 1 by omega, hfo]; omega
    · rw [show (i + 1).toNat = i.toNat + 1 by omega, hfo]; omega
    · simp only [upd_apply, ↓reduceIte]; rw [wrap64 (by omega) (by omega)]
    · rfl
    · rfl
  · have hdec : decide (i < (l.length : Int)) = false := by simp; omega
    rw [List.take_of_length_le (by omega)] at hs b1 b2
    simp (maxSteps := 1000000) only [List.map_cons, List.map_nil, run_skip, run_region, run_seq, run_cond, run_block, run_exit, run_ret, opsK_nil, opsK_op, seqK_normal, seqK_exit, seqK_ret, blkK_normal, blkK_exit, loopK_normal, loopK_exit, endP_ret, condK_bool, upd_apply, after_some, ev_tmp, ev_int, ev_bool, St.sv, St.sc, strip, stripC, argsC, pK_none, pmap_some, op_move, op_assign, on_bin, op_conv, op_ext, op_load, op_ia, bin_add, bin_eql, bin_lss, op_call, iK_some, iK2_some, icallInfo_func, outK, outL, outM, resPs, resP, rvsOf, rvOf, snapV, snapC, sepB, ownKs, dataKs, keysV, keysC, nodupB, extV, Option.bind_some, Option.map_some, true_and, and_true, ↓reduceIte, Nat.reduceEqDiff, Nat.reduceLT, Nat.zero_add, List.all_nil, List.append_nil, Bool.and_self, List.getElem?_cons_succ, List.getElem?_cons_zero, List.contains_nil, Bool.not_false, and_self, Env.tk, loadV, indexAddrV, loadD, TI.isAgg, List.getD_cons_zero, List.length_cons, List.length_nil, List.length_map, imp_eq, pN_bool, pN_int, bin_shr, Bool.false_eq_true, Int.reduceToNat, ty_r, E27_r, irow, igetD, h12, h11, h10, h4, h5, hdec, convV, Env.tk, Option.map_some, wint, con48, pre48_eq, res48_eq, and_imp]
    obtain ⟨g1, g2⟩ := sumEnd u1 u2 u3 u4 hs (by omega) (by omega)
    rw [shr63 (x := IntKind.i64.wrap lo) (by rw [IntKind.wrap_i64]; omega)]
    intro y hy
    refine ⟨fun h => (by subst hy; cases h), fun _ => ⟨by omega, fun z hz => ⟨fun h => ?_, fun h => ?_⟩⟩⟩
    · simp only [Named] at hz
      obtain ⟨g3, g4⟩ := g1 (by subst hz; simpa using h)
      rw [g4, g3]; rfl
    · simp only [Named] at hz
      have g3 := g2 (by subst hz; simpa using h)
      rw [g3]; rfl
end Go.Proofs.Ytomnjbebgfadoaa.Pi
end
section
/- The ledger's checks, in the program.
   Conditions: none; lemmas. -/
set_option linter.unusedVariables false
set_option linter.unusedSimpArgs false
namespace Go.Proofs.Ytomnjbebgfadoaa.Pi
open Go Go.RowKit Go.Proofs
set_option maxHeartbeats 4000000
def litR (l : List Entry) : Prop := ∀ e ∈ l, -9223372036854775808 ≤ e.Litres ∧ e.Litres ≤ 9223372036854775807
theorem litR_all {l : List Entry} (h : litR l) : ∀ x ∈ litresF l, -9223372036854775808 ≤ x ∧ x ≤ 9223372036854775807 := fun x hx => by
  obtain ⟨e, he, rfl⟩ := List.mem_map.1 hx
  exact h e he
abbrev con31 : Con := .of cLE (fun l => l.length ≤ 1000000 ∧ litR l) (fun l rs => rs = [.d (.bool (sumF (litresF l) == 0))]) true
noncomputable def E31 : Env := ((E0.add 27 con27).add 28 con28).at 16 (fun d => false) (fun d => d) (fun d => true)
theorem E31_ok : EnvOk E31 := ((E0_ok.add Try.func27 rfl rfl ok27).add Try.func28 rfl rfl ok28).at _ _ _ _
theorem E31_r : E31.ty = E0.ty ∧ (E31.con 27 = some con27 ∧ E31.icon 27 = none) ∧ (E31.con 28 = some con28 ∧ E31.icon 28 = none) ∧ (∀ d, E31.key d = d) := ⟨rfl, ⟨rfl, rfl⟩, ⟨rfl, rfl⟩, fun _ => rfl⟩

set_option maxRecDepth 20000 in
theorem ok31 : ConOk Try.prog 31 con31 := by
  refine con_of (E := E31) E31_ok (fn := Try.f31) Try.func31 rfl (by decide) (by kernel_rfl) (rs := [.tmp 2]) rfl (by decide) (by decide) [.data 4]  (fun _ _ => ⟨_, rfl⟩) boolFlat ?_
  rintro l ⟨hl, hr⟩
  simp (maxSteps := 1000000) only [startP_eq, startL, List.map_cons, List.map_nil, run_region, run_seq, run_ret, opsK_nil, opsK_op, seqK_normal, endP_ret, upd_apply, after_some, ev_tmp, ev_int, ev_bool, St.sv, St.sc, strip, stripC, argsC, pK_none, pK_some, gpK_some, pmap_some, gK, gB_bool, op_move, op_assign, op_gmove, on_pick, op_ext, on_gbin, bin_eql, pick_b, op_call, iK_some, iK2_none, cK_some, cK2_some, conK_flat, conK_own, icallInfo_func, callInfo_func, ciK_some, snapVs_nil, snapVs_cons, outK, outL, outM, resPs, resP, rvsOf, rvOf, snapV, snapC, sepB, ownKs, dataKs, keysV, keysC, nodupB, packP, RV.flatP, extV, Option.bind_some, Option.map_some, true_and, and_true, implies_true, ↓reduceIte, Nat.reduceEqDiff, reduceCtorEq, List.all_nil, List.append_nil, List.flatMap_cons, List.flatMap_nil, Bool.and_self, List.getElem?_toArray, List.getElem?_cons_succ, List.getElem?_cons_zero, beq_true, List.contains_nil, Bool.not_false, of_pre, of_post, of_flat, cod1_enc, cod1_dec, dLst_lst, some_ex, imp_self, and_self, Env.tk, St.obj, imp_eq, pN_bool, pN_gbool, gpN_some, retP, retO, dropObs_nil, ty_r, E31_r, Entry.drows, idrows]
  have hlen : (litresF l).length = l.length := by simp [litresF]
  refine ⟨hl, ⟨by omega, litR_all hr⟩, ?_⟩
  intro b hb c hc
  simp only [Named] at hb hc
  subst hb hc
  by_cases h0 : sumF (litresF l) = 0
  · simp [h0, inR]
  · by_cases h1 : inR (sumF (litresF l)) = true
    · simp [h1]
    · simp [h1, h0]
/-- What a posting asks of an entry. -/
def rightE (e : Entry) : Prop := 0 ≤ e.Day ∧ e.Day ≤ 699050 ∧ 0 ≤ e.Known ∧ e.Known ≤ 16777216 ∧ -1 ≤ e.Owner ∧ e.Owner ≤ 15 ∧ 0 ≤ e.Place ∧ e.Place ≤ 63 ∧ -1125899906842624 ≤ e.Litres ∧ e.Litres ≤ 1125899906842624 ∧ 0 ≤ e.Why ∧ e.Why ≤ 3 ∧ 0 ≤ e.Ref
abbrev cEnt : Cod Entry := cod1 Entry.d (dAgg Entry.of) Entry.diff
abbrev con45 : Con := .of cEnt (fun _ => True) (fun e rs => ∃ b : Bool, (rightE e → b = true) ∧ rs = [.d (.bool b)]) true
noncomputable def E45 : Env := (E0.add 61 con61).at 40 (fun d => false) (fun d => d) (fun d => true)
theorem E45_ok : EnvOk E45 := (E0_ok.add Try.func61 rfl rfl ok61).at _ _ _ _
theorem E45_r : E45.ty = E0.ty ∧ (E45.con 61 = some con61 ∧ E45.icon 61 = none) ∧ (∀ d, E45.key d = d) := ⟨rfl, ⟨rfl, rfl⟩, fun _ => rfl⟩

set_option maxRecDepth 20000 in
theorem ok45 : ConOk Try.prog 45 con45 := by
  refine con_of (E := E45) E45_ok (fn := Try.f45) Try.func45 rfl (by decide) (by kernel_rfl) (rs := [.tmp 2]) rfl (by decide) (by decide) [.data 4]  (fun _ _ => ⟨_, true, by simp, rfl⟩) propFlat ?_
  rintro e _
  simp (maxSteps := 1000000) only [startP_eq, startL, List.map_cons, List.map_nil, run_region, run_seq, run_ret, opsK_nil, opsK_op, seqK_normal, endP_ret, upd_apply, after_some, ev_tmp, ev_int, ev_bool, St.sv, St.sc, strip, stripC, argsC, pK_none, pK_some, gpK_some, pmap_some, gK, gB_bool, op_move, op_assign, op_gmove, on_pick, op_load, op_fa, on_gbin, op_gload, op_gfa, bin_geq, pick_b, eK_some, emap_some, op_box, op_call, op_gcall, cgK_some, iK_some, iK2_none, cK_some, cK2_some, conK_flat, conK_gflat, icallInfo_func, callInfo_func, ciK_some, snapVs_nil, snapVs_cons, outK, outL, outM, resPs, resP, rvsOf, rvOf, snapV, snapC, sepB, ownKs, dataKs, keysV, keysC, nodupB, packP, RV.flatP, Option.bind_some, Option.map_some, true_implies, true_and, and_true, implies_true, ↓reduceIte, Nat.reduceEqDiff, Nat.reduceAdd, Nat.reduceLT, Nat.zero_add, Nat.add_zero, List.all_nil, List.append_nil, List.flatMap_cons, List.flatMap_nil, Bool.and_self, List.getElem?_toArray, List.getElem?_cons_succ, List.getElem?_cons_zero, beq_true, List.contains_nil, Bool.not_false, of_pre, of_post, of_flat, cod1_enc, cod1_dec, codC_dec, dInt_int, some_ex, some_ex1, imp_self, and_self, Env.tk, loadV, fieldAddrV, loadP, boxE, St.obj, TI.isAgg, cellsP, refNew, newOb, List.getD_cons_zero, List.getD_cons_succ, List.length_cons, List.length_nil, ex_eq, or_true, imp_eq, pN_bool, pN_gbool, gpN_some, Nat.mul_zero, Bool.false_eq_true, ty_r, E45_r, Entry.row, Entry.d]
  repeat' (first | with_reducible apply And.intro | intro _)
  all_goals (try simp only [Named] at *)
  all_goals (refine ⟨_, ?_, rfl⟩; subst_vars; simp only [rightE, inF]; grind)
def pre47 : List PV → Prop
  | [.d (.lst 7 xs)] => ∃ l : List Entry, xs = l.map Entry.row
  | _ => False
def res47 : List PV → PV
  | [.d (.lst 7 xs)] => .clip 7 xs
  | _ => .un
theorem pre47_eq {l : List Entry} : pre47 [.d (.lst 7 (l.map Entry.row))] = True := eq_true ⟨l, rfl⟩
theorem res47_eq {xs : List (List D)} : res47 [.d (.lst 7 xs)] = .clip 7 xs := rfl
abbrev con47 : ICon := ⟨fun _ ps => pre47 ps, fun o ps o' p => o' = o ∧ p = res47 ps⟩
noncomputable def E47 : Env := E0.at 9 (fun d => false) (fun d => d) (fun d => true)
theorem E47_ok : EnvOk E47 := E0_ok.at _ _ _ _
theorem E47_r : E47.ty = E0.ty ∧ E47.own 8 = false ∧ E47.fact 5 = true ∧ E47.fact 7 = true ∧ (∀ d, E47.key d = d) := ⟨rfl, rfl, rfl, rfl, fun _ => rfl⟩

set_option maxRecDepth 20000 in
theorem ok47 : IConOk Try.prog 47 con47 := by
  refine icon_of_run (E := E47) E47_ok (fn := Try.f47) Try.func47 rfl (by decide) (by kernel_rfl) (rs := [.tmp 2]) rfl (by decide) (by decide)  ?_ ?_
  · rintro o ps _
    exact ⟨o, _, rfl, rfl⟩
  rintro o ps hps
  simp only at hps
  unfold pre47 at hps
  split at hps
  · obtain ⟨l, rfl⟩ := hps
    simp (maxSteps := 1000000) only [startP_eq, startL, run_region, run_seq, run_ret, opsK_nil, opsK_op, seqK_normal, endP_ret, upd_apply, after_some, ev_tmp, ev_nils, St.sv, St.sc, strip, stripC, pK_none, pmap_some, op_move, op_assign, op_len, resPs, resP, packP, Option.bind_some, Option.map_some, and_true, implies_true, ↓reduceIte, Nat.reduceEqDiff, reduceCtorEq, and_self, Env.tk, lenV, List.length_map, lbK_true, lnK_none, lenF, maxLen_eq, op_clip, clipV, ty_r, E47_r, ioutK, ioutM, res47_eq]
    try (intros; trivial)
  · exact hps.elim
/-- The sizes of numbers, added. -/
def absF (l : List Int) (s : Int) : Int := l.foldl (fun s n => s + if n < 0 then -n else n) s
theorem absF_le : ∀ (l : List Int) (s : Int), s ≤ absF l s
  | [], s => Int.le_refl _
  | n :: l, s => by
    have := absF_le l (s + if n < 0 then -n else n)
    unfold absF at this ⊢
    rw [List.foldl_cons]
    refine Int.le_trans ?_ this
    split <;> omega
def absLL (ll : List (List Entry)) (s : Int) : Int := ll.foldl (fun s l => absF (litresF l) s) s
theorem absLL_le : ∀ (ll : List (List Entry)) (s : Int), s ≤ absLL ll s
  | [], s => Int.le_refl _
  | l :: ll, s => by
    have h1 := absF_le (litresF l) s
    have h2 := absLL_le ll (absF (litresF l) s)
    unfold absLL at h2 ⊢
    rw [List.foldl_cons]
    exact Int.le_trans h1 h2
abbrev cLLE : Cod (List (List Entry)) := cod1 (fun l => .lst 1 (l.map (lrow 7 Entry.row))) (dLst 1 (lof 7 Entry.of)) fun _ _ => dLst_iff (lof_iff Entry.iff 7)
abbrev con46 : Con := .of cLLE (fun ll => ll.length ≤ 1000000 ∧ (∀ l ∈ ll, l.length ≤ 1000000 ∧ litR l) ∧ absLL ll 0 ≤ 4611686018427387904) (fun ll rs => rs = [.d (.bool false)]) true
theorem lget (ll : List (List Entry)) (i : Nat) (h : i < ll.length) : (ll.map (lrow 7 Entry.row)).getD i [.lst 7 []] = [.lst 7 ((ll.getD i []).map Entry.row)] := by
  simp [h, lrow]
noncomputable def E46 : Env := ((E0.add 28 con28).iadd 48 con48).at 45 (fun d => false) (fun d => d) (fun d => true)
theorem E46_ok : EnvOk E46 := ((E0_ok.add Try.func28 rfl rfl ok28).xadd ok48).at _ _ _ _
theorem E46_r : E46.ty = E0.ty ∧ (E46.con 28 = some con28 ∧ E46.icon 28 = none) ∧ E46.icon 48 = some con48 ∧ E46.fact 12 = true ∧ E46.fact 19 = true ∧ (∀ d, E46.key d = d) := ⟨rfl, ⟨rfl, rfl⟩, rfl, rfl, rfl, fun _ => rfl⟩

set_option maxRecDepth 20000 in
theorem ok46 : ConOk Try.prog 46 con46 := by
  refine con_of (E := E46) E46_ok (fn := Try.f46) Try.func46 rfl (by decide) (by kernel_rfl) (rs := [.tmp 2]) rfl (by decide) (by decide) [.data 4]  (fun _ _ => ⟨_, rfl⟩) boolFlat ?_
  rintro ll ⟨hl, hr, hs⟩
  simp (maxSteps := 1000000) only [startP_eq, startL, List.map_cons, List.map_nil, run_region, run_seq, run_block, run_loop, opsK_nil, opsK_op, seqK_normal, upd_apply, after_some, ev_tmp, ev_int, ev_bool, St.sv, St.sc, strip, stripC, pmap_some, op_move, op_assign, op_len, Option.map_some, true_and, ↓reduceIte, reduceCtorEq, cod1_enc, and_self, Env.tk, lenV, List.length_map, lbK_true, lnK_none, lenF, maxLen_eq, ty_r, E46_r]
  intro _
  refine pwp_loop (fun n S => ∃ i : Int, 0 ≤ i ∧ i ≤ (ll.length : Int) ∧ n = ((ll.length : Int) - i).toNat ∧ S.t 13 = .d (.int .i64 i) ∧ S.t 12 = .d (.int .i64 ll.length) ∧ S.t 11 = .d (.lst 1 (ll.map (lrow 7 Entry.row))) ∧ S.t 3 = .d (.int .u64 (absLL (ll.take i.toNat) 0))) ((ll.length : Int) - 0).toNat ⟨0, by omega, by omega, rfl, rfl, rfl, rfl, rfl⟩ ?_
  rintro n ⟨t, o⟩ ⟨i, hi0, hil, hn, h13, h12, h11, h3⟩
  simp only at h13 h12 h11 h3
  by_cases hlt : i < (ll.length : Int)
  · have hi2 : i.toNat < ll.length := by omega
    have hfo := foldTake (fun s l => absF (litresF l) s) 0 ll i.toNat [] hi2
    change absLL (ll.take (i.toNat + 1)) 0 = absF (litresF (ll.getD i.toNat [])) (absLL (ll.take i.toNat) 0) at hfo
    have hrest : absLL (ll.take (i.toNat + 1)) 0 ≤ absLL ll 0 := by
      have e : ll = ll.take (i.toNat + 1) ++ ll.drop (i.toNat + 1) := (List.take_append_drop _ _).symm
      conv => rhs; rw [e]
      unfold absLL
      rw [List.foldl_append]
      exact absLL_le _ _
    have h0 := absLL_le (ll.take i.toNat) 0
    have hg := lget ll i.toNat hi2
    have hri := hr (ll.getD i.toNat []) (by rw [List.getD_eq_getElem?_getD, List.getElem?_eq_getElem hi2]; simp)
    generalize absLL (ll.take i.toNat) 0 = A at hfo h0 h3
    generalize ll.getD i.toNat [] = l at hfo hg hri
    simp (maxSteps := 1000000) only [List.map_cons, List.map_nil, run_skip, run_region, run_seq, run_cond, run_block, run_exit, run_ret, run_loop, opsK_nil, opsK_op, seqK_normal, seqK_exit, blkK_exit, loopK_exit, endP_ret, condK_bool, upd_apply, after_some, ev_tmp, ev_int, ev_bool, St.sv, St.sc, strip, stripC, argsC, pK_none, pmap_some, op_move, op_assign, on_bin, op_load, op_ia, op_len, bin_lss, op_call, iK_some, iK2_none, cK_some, cK2_some, conK_own, icallInfo_func, callInfo_func, ciK_some, snapVs_nil, snapVs_cons, outK, outL, outM, resPs, resP, rvsOf, rvOf, snapV, snapC, sepB, ownKs, dataKs, keysV, keysC, nodupB, packP, Option.bind_some, Option.map_some, true_and, and_true, implies_true, ↓reduceIte, Nat.reduceEqDiff, Nat.reduceLT, Nat.zero_add, List.all_nil, List.append_nil, List.flatMap_cons, List.flatMap_nil, Bool.and_self, List.contains_nil, Bool.not_false, of_pre, of_post, of_flat, cod1_dec, dLst_lst, some_ex, and_self, Env.tk, loadV, indexAddrV, lenV, loadD, TI.isAgg, List.getD_cons_zero, List.length_cons, List.length_nil, List.length_map, imp_eq, pN_bool, lbK_true, lnK_none, lenF, retP, retO, dropObs_nil, Bool.false_eq_true, maxLen_eq, ty_r, E46_r, Entry.drows, h13, h12, h11, hg]
    intro y hy hyt
    refine ⟨⟨hi0, hlt⟩, hri.1, fun _ => ?_⟩
    clear hy hyt
    have hLr := litR_all hri.2
    have hLl : (litresF l).length ≤ 1000000 := by simpa [litresF] using hri.1
    rw [hfo] at hrest
    generalize litresF l = L at hfo hrest hLr hLl
    refine pwp_loop (fun n S => ∃ k : Int, 0 ≤ k ∧ k ≤ (L.length : Int) ∧ n = ((L.length : Int) - k).toNat ∧ S.t 20 = .d (.int .i64 k) ∧ S.t 19 = .d (.int .i64 L.length) ∧ S.t 18 = .d (.lst 1 (L.map irow)) ∧ S.t 3 = .d (.int .u64 (absF (L.take k.toNat) A)) ∧ S.t 13 = .d (.int .i64 i) ∧ S.t 12 = .d (.int .i64 ll.length) ∧ S.t 11 = .d (.lst 1 (ll.map (lrow 7 Entry.row)))) ((L.length : Int) - 0).toNat ⟨0, by omega, by omega, rfl, rfl, rfl, rfl, h3, h13, h12, h11⟩ ?_
    clear h13 h12 h11 h3
    rintro n2 ⟨t, o⟩ ⟨k, hk0, hkl, hn2, h20, h19, h18, h3, h13, h12, h11⟩
    simp only at h20 h19 h18 h3 h13 h12 h11
    by_cases hkt : k < (L.length : Int)
    · have hk2 : k.toNat < L.length := by omega
      have hfo2 := foldTake (fun s n : Int => s + if n < 0 then -n else n) A L k.toNat 0 hk2
      have hxr := hLr (L.getD k.toNat 0) (by rw [List.getD_eq_getElem?_getD, List.getElem?_eq_getElem hk2]; simp)
      change absF (L.take (k.toNat + 1)) A = absF (L.take k.toNat) A + (if L.getD k.toNat 0 < 0 then -(L.getD k.toNat 0) else L.getD k.toNat 0) at hfo2
      have hrest2 : absF (L.take (k.toNat + 1)) A ≤ absF L A := by
        have e : L = L.take (k.toNat + 1) ++ L.drop (k.toNat + 1) := (List.take_append_drop _ _).symm
        conv => rhs; rw [e]
        unfold absF
        rw [List.foldl_append]
        exact absF_le _ _
      have h00 := absF_le (L.take k.toNat) A
      generalize absF (L.take k.toNat) A = B at hfo2 h00 h3
      simp (maxSteps := 1000000) only [List.map_cons, List.map_nil, run_skip, run_region, run_seq, run_cond, run_block, run_exit, run_ret, opsK_nil, opsK_op, seqK_normal, seqK_exit, seqK_ret, blkK_normal, blkK_exit, blkK_ret, loopK_normal, loopK_exit, loopK_ret, endP_ret, condK_bool, upd_apply, after_some, ev_tmp, ev_int, ev_bool, St.sv, St.sc, strip, stripC, argsC, pK_none, pK_some, gpK_some, pmap_some, gK, gB_bool, op_move, op_assign, op_gmove, on_pick, on_bin, op_un, op_conv, op_ext, op_load, op_ia, on_gbin, bin_add, bin_lss, bin_gtr, pick_b, unV, op_call, iK_some, iK2_some, icallInfo_func, outK, outL, outM, resPs, resP, rvsOf, rvOf, snapV, snapC, sepB, ownKs, dataKs, keysV, keysC, nodupB, extV, Option.bind_some, Option.map_some, true_and, and_true, implies_true, ↓reduceIte, Nat.reduceEqDiff, Nat.reduceLT, Nat.zero_add, List.all_nil, List.append_nil, Bool.and_self, List.getElem?_toArray, List.getElem?_cons_succ, List.getElem?_cons_zero, beq_false, Bool.not_eq_true', List.contains_nil, Bool.not_false, imp_self, and_self, Env.tk, loadV, indexAddrV, loadD, TI.isAgg, List.getD_cons_zero, List.length_cons, List.length_nil, List.length_map, imp_eq, pN_bool, pN_int, pN_gbool, gpN_some, Bool.false_eq_true, ty_r, E46_r, irow, igetD, h20, h19, h18, h3, h13, convV, Env.tk, Option.map_some, wint, con48, pre48_eq, res48_eq, and_imp]
      generalize L.getD k.toNat 0 = x at hfo2 hxr
      have s1 : x < 0 → IntKind.u64.wrap (0 - IntKind.u64.wrap x) = -x := fun h => by rw [wrapu, wrapu]; omega
      have s2 : ¬x < 0 → IntKind.u64.wrap x = x := fun h => by rw [wrapu]; omega
      intro y0 hy0
      simp only [Named] at hy0
      refine ⟨fun _ => ⟨⟨hk0, hkt⟩, fun y1 hy1 => ⟨fun h1 => ?_, fun h1 => ?_⟩⟩, fun h => (by subst hy0; simp [hkt] at h)⟩
      · simp only [Named] at hy1
        have hx0 : x < 0 := by subst hy1; simpa using h1
        rw [s1 hx0]
        rw [if_pos hx0] at hfo2
        have hB : B + -x ≤ 4611686018427387904 := by rw [← hfo2]; omega
        have q1 : decide ((B + -x) / 18446744073709551616 > 0) = false := by simp; omega
        have q3 : (B + -x) % 18446744073709551616 = B + -x := by omega
        have q2 : decide ((B + -x) % 18446744073709551616 > 4611686018427387904) = false := by rw [q3]; simp; omega
        refine ⟨⟨rfl, by omega, by omega⟩, fun z1 hz1 z2 hz2 z3 hz3 => ?_⟩
        simp only [Named] at hz1 hz2 hz3
        rw [q1] at hz1
        rw [q2] at hz2
        refine ⟨fun h => (by subst hz3 hz1 hz2; simp at h), fun _ => ?_⟩
        refine ghost_id ⟨((L.length : Int) - (k + 1)).toNat, by omega, k + 1, by omega, by omega, rfl, ?_, h19, h18, ?_, h13, h12, h11⟩
        · simp only [upd_apply, ↓reduceIte]; rw [wrap64 (by omega) (by omega)]
        · rw [show (k + 1).toNat = k.toNat + 1 by omega, hfo2]
          simp only [upd_apply, Nat.reduceEqDiff, ↓reduceIte, q3]
      · simp only [Named] at hy1
        have hx0 : ¬x < 0 := by subst hy1; simpa using h1
        rw [s2 hx0]
        rw [if_neg hx0] at hfo2
        have hB : B + x ≤ 4611686018427387904 := by rw [← hfo2]; omega
        have q1 : decide ((B + x) / 18446744073709551616 > 0) = false := by simp; omega
        have q3 : (B + x) % 18446744073709551616 = B + x := by omega
        have q2 : decide ((B + x) % 18446744073709551616 > 4611686018427387904) = false := by rw [q3]; simp; omega
        refine ⟨⟨rfl, by omega, by omega⟩, fun z1 hz1 z2 hz2 z3 hz3 => ?_⟩
        simp only [Named] at hz1 hz2 hz3
        rw [q1] at hz1
        rw [q2] at hz2
        refine ⟨fun h => (by subst hz3 hz1 hz2; simp at h), fun _ => ?_⟩
        refine ghost_id ⟨((L.length : Int) - (k + 1)).toNat, by omega, k + 1, by omega, by omega, rfl, ?_, h19, h18, ?_, h13, h12, h11⟩
        · simp only [upd_apply, ↓reduceIte]; rw [wrap64 (by omega) (by omega)]
        · rw [show (k + 1).toNat = k.toNat + 1 by omega, hfo2]
          simp only [upd_apply, Nat.reduceEqDiff, ↓reduceIte, q3]
    · have hdec : decide (k < (L.length : Int)) = false := by simp; omega
      rw [List.take_of_length_le (by omega)] at h3
      simp (maxSteps := 1000000) only [run_skip, run_region, run_seq, run_cond, run_block, run_exit, opsK_nil, opsK_op, seqK_normal, seqK_exit, blkK_normal, blkK_exit, loopK_normal, loopK_exit, condK_bool, upd_apply, after_some, ev_tmp, ev_int, St.sv, St.sc, strip, stripC, pK_none, pmap_some, op_move, op_assign, on_bin, op_conv, op_load, op_ia, bin_add, bin_lss, Option.map_some, true_and, ↓reduceIte, Nat.reduceEqDiff, Nat.reduceLT, Nat.zero_add, and_self, Env.tk, loadV, indexAddrV, loadD, TI.isAgg, List.getD_cons_zero, List.length_cons, List.length_nil, List.length_map, pN_bool, pN_int, Bool.false_eq_true, ty_r, E46_r, irow, igetD, h20, h19, h18, h13, hdec]
      intro y0 hy0
      refine ⟨fun h => (by subst hy0; cases h), fun _ => ?_⟩
      refine ghost_id ⟨((ll.length : Int) - (i + 1)).toNat, by omega, i + 1, by omega, by omega, rfl, ?_, h12, h11, ?_⟩
      · simp only [upd_apply, ↓reduceIte]; rw [wrap64 (by omega) (by omega)]
      · rw [show (i + 1).toNat = i.toNat + 1 by omega, hfo]; exact h3
  · have hdec : decide (i < (ll.length : Int)) = false := by simp; omega
    simp (maxSteps := 1000000) only [List.map_cons, List.map_nil, run_skip, run_region, run_seq, run_cond, run_block, run_exit, run_ret, run_loop, opsK_nil, opsK_op, seqK_normal, seqK_exit, blkK_exit, loopK_exit, endP_ret, condK_bool, upd_apply, after_some, ev_tmp, ev_int, ev_bool, St.sv, St.sc, strip, stripC, argsC, pK_none, pmap_some, op_move, op_assign, on_bin, op_load, op_ia, op_len, bin_lss, op_call, iK_some, iK2_none, cK_some, cK2_some, conK_own, icallInfo_func, callInfo_func, ciK_some, snapVs_nil, snapVs_cons, outK, outL, outM, resPs, resP, rvsOf, rvOf, snapV, snapC, sepB, ownKs, dataKs, keysV, keysC, nodupB, packP, Option.bind_some, Option.map_some, true_and, and_true, implies_true, ↓reduceIte, Nat.reduceEqDiff, Nat.reduceLT, Nat.zero_add, List.all_nil, List.append_nil, List.flatMap_cons, List.flatMap_nil, Bool.and_self, List.contains_nil, Bool.not_false, of_pre, of_post, of_flat, cod1_dec, dLst_lst, some_ex, and_self, Env.tk, loadV, indexAddrV, lenV, loadD, TI.isAgg, List.getD_cons_zero, List.length_cons, List.length_nil, List.length_map, imp_eq, pN_bool, lbK_true, lnK_none, lenF, retP, retO, dropObs_nil, Bool.false_eq_true, maxLen_eq, ty_r, E46_r, Entry.drows, lrow, lgetD, h13, h12, h11, hdec]
    intro y hy h; subst hy; cases h
end Go.Proofs.Ytomnjbebgfadoaa.Pi
end
section
/- Postings, in the program.
   Conditions: none; lemmas. -/
set_option linter.unusedVariables false
set_option linter.unusedSimpArgs false
namespace Go.Proofs.Ytomnjbebgfadoaa.Pi
open Go Go.RowKit Go.Proofs
set_option maxHeartbeats 4000000
abbrev cLE2 : Cod (List Entry × List Entry) := codC (fun l => .lst 7 (l.map Entry.row)) (dLst 7 Entry.of) (fun _ _ => dLst_iff Entry.iff) cLE
/-- What makes a posting be accepted. -/
def postOk (l e : List Entry) : Prop := l.length ≤ 100000 ∧ e.length ≤ 100000 ∧ e ≠ [] ∧ sumF (litresF e) = 0 ∧ (∀ x ∈ e, rightE x ∧ x.Day = (e.getD 0 .zero).Day ∧ x.Known = (e.getD 0 .zero).Known) ∧ (∀ x ∈ l, x.Known ≤ (e.getD 0 .zero).Known) ∧ litR l ∧ absLL [l, e] 0 ≤ 4611686018427387904
abbrev con26 : Con := .of cLE2 (fun a => postOk a.1 a.2) (fun a rs => rs = [.d (.lst 7 ((a.1 ++ a.2).map Entry.row)), .d (.int .i64 0)]) false
theorem lit2l (te : TI) (a b : List (List D)) (h : te.size = 1) (hz : te.zero = [.lst 7 []]) : litRows te 2 [(0, .d (.lst 7 a)), (1, .d (.lst 7 b))] = some [[.lst 7 a], [.lst 7 b]] := by
  simp [litRows, elemsFI, fillP, dcells, dcell, chunk, cellsP, h, hz, List.range_succ, List.replicate_succ, zpv]
theorem lofE (l : List Entry) : lof 7 Entry.of [.lst 7 (l.map Entry.row)] = some l := (lof_iff Entry.iff 7 _ _).2 rfl
noncomputable def E26 : Env := ((((E0.add 31 con31).add 45 con45).add 46 con46).iadd 47 con47).at 71 (fun d => false) (fun d => d) (fun d => !(d == 46 || d == 51))
theorem E26_ok : EnvOk E26 := ((((E0_ok.add Try.func31 rfl rfl ok31).add Try.func45 rfl rfl ok45).add Try.func46 rfl rfl ok46).iadd Try.func47 rfl rfl ok47).at _ _ _ _
theorem E26_r : E26.ty = E0.ty ∧ (E26.con 31 = some con31 ∧ E26.icon 31 = none) ∧ (E26.con 45 = some con45 ∧ E26.icon 45 = none) ∧ (E26.con 46 = some con46 ∧ E26.icon 46 = none) ∧ E26.icon 47 = some con47 ∧ E26.own 65 = false ∧ E26.fact 9 = true ∧ E26.fact 17 = true ∧ E26.fact 46 = false ∧ E26.fact 51 = false ∧ (∀ d, E26.key d = d) := ⟨rfl, ⟨rfl, rfl⟩, ⟨rfl, rfl⟩, ⟨rfl, rfl⟩, rfl, rfl, rfl, rfl, rfl, rfl, fun _ => rfl⟩

set_option maxRecDepth 20000 in
theorem ok26 : ConOk Try.prog 26 con26 := by
  refine con_of (E := E26) E26_ok (fn := Try.f26) Try.func26 rfl (by decide) (by kernel_rfl) (rs := [.tmp 4, .tmp 5]) rfl (by decide) (by decide) [.data 40, .data 72]  (fun _ _ => ⟨_, rfl⟩) (by simp) ?_
  rintro ⟨l, e⟩ ⟨hl, he, hne, hsum, hall, hlast, hlr, habs⟩
  simp only at hl he hne hsum hall hlast hlr habs
  simp (maxSteps := 1000000) only [startP_eq, startL, List.map_cons, List.map_nil, run_skip, run_region, run_seq, run_cond, run_block, run_ret, run_loop, opsK_nil, opsK_op, seqK_normal, seqK_ret, endP_ret, condK_bool, upd_apply, after_some, ev_tmp, ev_int, ev_bool, ev_nils, St.sv, St.sc, strip, stripC, argsC, pK_some, gpK_some, pmap_some, gK, gB_bool, op_move, op_assign, op_gmove, on_pick, on_bin, op_gun, op_len, bin_eql, pick_b, unV, op_gcall, cgK_some, iK_some, iK2_none, cK_some, cK2_some, conK_gflat, icallInfo_func, callInfo_func, ciK_some, snapVs_nil, snapVs_cons, outK, outL, outM, resPs, resP, rvsOf, rvOf, snapV, snapC, sepB, ownKs, dataKs, keysV, keysC, nodupB, packP, RV.flatP, Option.bind_some, Option.map_some, true_implies, true_and, and_true, implies_true, ↓reduceIte, Nat.reduceEqDiff, reduceCtorEq, Nat.zero_add, List.all_nil, List.append_nil, List.flatMap_cons, List.flatMap_nil, Bool.and_self, List.getElem?_toArray, List.getElem?_cons_succ, List.getElem?_cons_zero, beq_false, Bool.not_eq_true', List.contains_nil, Bool.not_false, of_pre, of_post, of_flat, cod1_enc, cod1_dec, codC_enc, dLst_lst, some_ex, imp_self, and_self, Env.tk, lenV, List.length_map, ex_eq, or_true, imp_eq, pN_bool, lbK_true, lnK_none, lenF, List.map_append, maxLen_eq, ty_r, E26_r, Entry.drows]
  intro _ b hb
  simp only [Named] at hb
  have hel : e.length ≠ 0 := fun h => hne (List.length_eq_zero_iff.1 h)
  refine ⟨fun h => ⟨h, by omega, fun x hx => ?_⟩, fun b1 hb1 => ⟨fun h => ?_, fun _ _ => ?_⟩⟩
  · have := (hall x hx).1
    unfold rightE at this
    omega
  · exfalso
    simp only [Named] at hb1
    subst hb1 hb
    simp [hsum, hel] at h
  clear hb
  refine pwp_loop (fun n S => ∃ i : Int, 0 ≤ i ∧ i ≤ (e.length : Int) ∧ n = ((e.length : Int) - i).toNat ∧ S.t 18 = .d (.int .i64 i) ∧ S.t 17 = .d (.int .i64 e.length) ∧ S.t 16 = .d (.lst 7 (e.map Entry.row)) ∧ S.t 0 = .d (.lst 7 (l.map Entry.row)) ∧ S.t 1 = .d (.lst 7 (e.map Entry.row))) ((e.length : Int) - 0).toNat ⟨0, by omega, by omega, rfl, rfl, rfl, rfl, rfl, rfl⟩ ?_
  rintro n ⟨t, o⟩ ⟨i, hi0, hil, hn, h18, h17, h16, h0, h1⟩
  simp only at h18 h17 h16 h0 h1
  have h00 : (0 : Int) < (e.length : Int) := by omega
  by_cases hlt : i < (e.length : Int)
  · have hi2 : i.toNat < e.length := by omega
    have hx := hall (e.getD i.toNat .zero) (by rw [List.getD_eq_getElem?_getD, List.getElem?_eq_getElem hi2]; simp)
    simp (maxSteps := 1000000) only [List.map_cons, List.map_nil, run_skip, run_region, run_seq, run_cond, run_block, run_exit, run_ret, opsK_nil, opsK_op, seqK_normal, seqK_exit, seqK_ret, blkK_normal, blkK_exit, blkK_ret, loopK_normal, loopK_exit, loopK_ret, endP_ret, condK_bool, upd_apply, after_some, after_none, ev_tmp, ev_int, ev_bool, ev_nils, St.sv, St.sc, strip, stripC, argsC, pK_none, pK_some, gpK_some, pmap_some, gK, gB_bool, op_move, op_assign, op_gmove, on_pick, on_bin, op_un, op_load, op_ia, on_gbin, op_gload, op_gfa, op_gia, op_len, op_glen, bin_add, bin_sub, bin_neq, bin_lss, bin_gtr, pick_b, unV, eK_some, emap_some, op_alloc, op_store, op_lit, lK_false, op_call, iK_some, iK2_none, cK_some, cK2_some, conK_flat, icallInfo_func, callInfo_func, ciK_some, snapVs_nil, snapVs_cons, outK, outL, outM, resPs, resP, rvsOf, rvOf, snapV, snapC, sepB, ownKs, dataKs, keysV, keysC, nodupB, packP, RV.flatP, Option.bind_some, Option.map_some, true_and, and_true, implies_true, ↓reduceIte, Nat.reduceEqDiff, reduceCtorEq, Nat.reduceAdd, Nat.reduceLT, Nat.reduceLeDiff, Nat.zero_add, Nat.add_zero, List.all_nil, List.append_nil, List.nil_append, List.flatMap_cons, List.flatMap_nil, Bool.and_self, List.getElem?_toArray, List.getElem?_cons_succ, List.getElem?_cons_zero, beq_true, beq_false, Bool.not_eq_true', List.contains_nil, Bool.not_false, of_pre, of_post, of_flat, cod1_dec, dAgg_agg, some_ex, some_ex1, imp_self, and_self, Env.tk, loadV, fieldAddrV, indexAddrV, lenV, loadD, loadP, allocE, storeE, St.obj, TI.isAgg, plainTI, zpv, cellsP, refNew, newOb, setOb, cut, List.getD_cons_zero, List.getD_cons_succ, List.length_cons, List.length_nil, List.length_map, pN_bool, pN_int, pN_gbool, pN_gint, gpN_some, lbK_false, glbK_some, lenF, List.take_succ_cons, List.take_zero, List.drop_zero, List.drop_succ_cons, List.take_nil, List.drop_nil, Nat.mul_zero, all_exc, pagg, allD, Bool.false_eq_true, maxLen_eq, plainTI, Int.toNat_zero, ty_r, E26_r, Entry.getD, Entry.row, Entry.of2, h18, h17, h16, h0, h1]
    generalize e.getD i.toNat .zero = x at hx
    intro y hy
    simp only [Named] at hy
    refine ⟨fun _ => ⟨⟨hi0, hlt⟩, fun r hr => ⟨fun h => ⟨h, by omega, h00⟩, fun c1 hc1 c2 hc2 => ⟨fun h => ⟨h, by omega, h00⟩, fun c3 hc3 c4 hc4 => ⟨fun h => ?_, fun _ => ?_⟩⟩⟩⟩, fun h => (by subst hy; simp [hlt] at h)⟩
    · exfalso
      simp only [Named] at hc1 hc2 hc3 hc4
      have hr1 := hr hx.1
      have e0 : (0 : Int).toNat = 0 := rfl
      simp only [hx.2.1, hx.2.2, bne_self_eq_false] at hc1 hc3
      subst hc4 hc3 hc2 hc1 hr1
      simp at h
    · refine ghost_id ⟨((e.length : Int) - (i + 1)).toNat, by omega, i + 1, by omega, by omega, rfl, ?_, h17, h16, h0, h1⟩
      simp only [upd_apply, ↓reduceIte]; rw [wrap64 (by omega) (by omega)]
  · have hdec : decide (i < (e.length : Int)) = false := by simp; omega
    simp (maxSteps := 1000000) only [List.map_cons, List.map_nil, run_skip, run_region, run_seq, run_cond, run_block, run_exit, run_ret, opsK_nil, opsK_op, seqK_normal, seqK_exit, seqK_ret, blkK_normal, blkK_exit, blkK_ret, loopK_normal, loopK_exit, loopK_ret, endP_ret, condK_bool, upd_apply, after_some, after_none, ev_tmp, ev_int, ev_bool, ev_nils, St.sv, St.sc, strip, stripC, argsC, pK_none, pK_some, gpK_some, pmap_some, gK, gB_bool, op_move, op_assign, op_gmove, on_pick, on_bin, op_un, op_load, op_ia, on_gbin, op_gload, op_gfa, op_gia, op_len, op_glen, bin_add, bin_sub, bin_neq, bin_lss, bin_gtr, pick_b, unV, eK_some, emap_some, op_alloc, op_store, op_app, op_lit, lK_false, op_call, iK_some, iK2_none, iK2_some, cK_some, cK2_some, conK_flat, icallInfo_func, callInfo_func, ciK_some, snapVs_nil, snapVs_cons, outK, outL, outM, resPs, resP, rvsOf, rvOf, snapV, snapC, sepB, ownKs, dataKs, keysV, keysC, nodupB, packP, RV.flatP, Option.bind_some, Option.map_some, true_implies, true_and, and_true, implies_true, ↓reduceIte, Nat.reduceEqDiff, reduceCtorEq, Nat.reduceAdd, Nat.reduceMul, Nat.reduceLT, Nat.reduceLeDiff, Nat.zero_add, Nat.add_zero, List.all_nil, List.append_nil, List.nil_append, List.flatMap_cons, List.flatMap_nil, Bool.and_self, List.getElem?_toArray, List.getElem?_cons_succ, List.getElem?_cons_zero, beq_true, beq_false, Bool.not_eq_true', List.contains_nil, Bool.not_false, of_pre, of_post, of_flat, cod1_dec, dAgg_agg, dLst_lst, dRows_nil, dRows_cons, some_ex, some_ex1, imp_self, and_self, Env.tk, loadV, fieldAddrV, indexAddrV, lenV, loadD, loadP, allocE, storeE, St.obj, TI.isAgg, plainTI, zpv, cellsP, refNew, newOb, setOb, cut, List.getD_cons_zero, List.getD_cons_succ, List.length_cons, List.length_nil, List.length_map, imp_eq, pN_bool, pN_int, pN_gbool, pN_gint, gpN_some, lbK_false, glbK_some, lenF, List.take_succ_cons, List.take_zero, List.drop_zero, List.drop_succ_cons, List.take_nil, List.drop_nil, Nat.mul_zero, all_exc, pagg, allD, contains_cons', Bool.or_false, Bool.false_eq_true, maxLen_eq, plainTI, Int.toNat_zero, ty_r, E26_r, Entry.getD, Entry.row, Entry.of2, h18, h17, h16, h0, h1, hdec, litV, lit2l, con47, pre47_eq, res47_eq, and_imp, lofE, Option.bind_some, Option.map_some, appE, appR, rowsV, rowNew]
    intro y hy
    simp only [Named] at hy
    refine ⟨fun h => (by subst hy; cases h), fun _ c1 hc1 => ?_⟩
    simp only [Named] at hc1
    have hw : c1 = true → 0 ≤ IntKind.i64.wrap ((l.length : Int) - 1) ∧ IntKind.i64.wrap ((l.length : Int) - 1) < (l.length : Int) := fun h => by
      have : 0 < (l.length : Int) := by subst hc1; simpa using h
      rw [wrap64 (by omega) (by omega)]; omega
    refine ⟨fun h => ⟨h, hw h⟩, fun h => ⟨h, by omega, h00⟩, fun c2 hc2 c3 hc3 => ⟨fun h => ?_, fun _ => ?_⟩⟩
    · exfalso
      simp only [Named] at hc2 hc3
      have h1t : c1 = true := by subst hc3; revert h; cases c1 <;> simp
      have h2t : c2 = true := by subst hc3; rw [h1t] at h; simpa using h
      obtain ⟨w1, w2⟩ := hw h1t
      have hi3 : (IntKind.i64.wrap ((l.length : Int) - 1)).toNat < l.length := by omega
      have := hlast (l.getD (IntKind.i64.wrap ((l.length : Int) - 1)).toNat .zero) (by rw [List.getD_eq_getElem?_getD, List.getElem?_eq_getElem hi3]; simp)
      have e0 : (0 : Int).toNat = 0 := rfl
      try rw [e0] at hc2
      subst hc2
      simp only [decide_eq_true_eq] at h2t
      omega
    refine ⟨⟨fun l1 hm => ?_, habs⟩, fun h => h.elim, rfl, by omega, by omega⟩
    simp only [List.mem_cons, List.not_mem_nil, or_false] at hm
    rcases hm with rfl | rfl
    · exact ⟨by omega, hlr⟩
    · refine ⟨by omega, fun x hx => ?_⟩
      have := (hall x hx).1
      unfold rightE at this
      omega
end Go.Proofs.Ytomnjbebgfadoaa.Pi
end
section
/- What an account chooses, in the program.
   Conditions: none; lemmas. -/
set_option linter.unusedVariables false
set_option linter.unusedSimpArgs false
namespace Go.Proofs.Ytomnjbebgfadoaa.Pi
open Go Go.RowKit Go.Proofs
set_option maxHeartbeats 4000000
/-- A captured whole number. -/
def capI (n : Int) : D := .ptr [.int .i64 n] 0
def dCap : D → Option Int
  | .ptr [.int .i64 n] 0 => some n
  | _ => none
theorem dCap_iff {d : D} {n : Int} : dCap d = some n ↔ d = capI n := by
  constructor
  · intro h
    unfold dCap at h
    split at h
    · simp only [Option.some.injEq] at h; subst h; rfl
    · cases h
  · rintro rfl; rfl
theorem dCap_cap (n : Int) : dCap (.ptr [.int .i64 n] 0) = some n := rfl
/-- The captured choice. -/
def dIs : D → Option (Int × Int × Int × Int)
  | .ptr [.fn 30 [.ptr [.int .i64 a] 0, .ptr [.int .i64 b] 0, .ptr [.int .i64 c] 0, .ptr [.int .i64 d] 0]] 0 => some (a, b, c, d)
  | _ => none
theorem dIs_iff {d : D} {n : Int × Int × Int × Int} : dIs d = some n ↔ d = .ptr [.fn 30 [capI n.1, capI n.2.1, capI n.2.2.1, capI n.2.2.2]] 0 := by
  constructor
  · intro h
    unfold dIs at h
    split at h
    · simp only [Option.some.injEq] at h; subst h; rfl
    · cases h
  · rintro rfl; rfl
/-- Is an entry meant? -/
def meant (day known owner place : Int) (e : Entry) : Bool := (decide (e.Day ≤ day) && decide (e.Known ≤ known)) && (owner == -1 || e.Owner == owner) && (place == -1 || e.Place == place)
abbrev cAcc : Cod (Entry × Int × Int × Int × Int) := codC Entry.d (dAgg Entry.of) Entry.diff (codC capI dCap (fun _ _ => dCap_iff) (codC capI dCap (fun _ _ => dCap_iff) (codC capI dCap (fun _ _ => dCap_iff) (cod1 capI dCap fun _ _ => dCap_iff))))
abbrev con30 : Con := .of cAcc (fun _ => True) (fun a rs => rs = [.d (.bool (meant a.2.1 a.2.2.1 a.2.2.2.1 a.2.2.2.2 a.1))]) true
noncomputable def E30 : Env := E0.at 37 (fun d => false) (fun d => d) (fun d => true)
theorem E30_ok : EnvOk E30 := E0_ok.at _ _ _ _
theorem E30_r : E30.ty = E0.ty ∧ (∀ d, E30.key d = d) := ⟨rfl, fun _ => rfl⟩

set_option maxRecDepth 20000 in
theorem ok30 : ConOk Try.prog 30 con30 := by
  refine con_of (E := E30) E30_ok (fn := Try.f30) Try.func30 rfl (by decide) (by kernel_rfl) (rs := [.tmp 6]) rfl (by decide) (by decide) [.data 4]  (fun _ _ => ⟨_, rfl⟩) boolFlat ?_
  rintro ⟨e, day, known, owner, place⟩ _
  simp (maxSteps := 1000000) only [startP_eq, startL, List.map_cons, List.map_nil, run_region, run_seq, run_ret, opsK_nil, opsK_op, seqK_normal, endP_ret, upd_apply, after_some, ev_tmp, ev_int, ev_bool, St.sv, St.sc, strip, stripC, pK_none, pK_some, gpK_some, pmap_some, gK, gB_bool, gB_opt, op_move, op_assign, op_gmove, on_pick, on_bin, op_load, op_fa, on_gpick, on_gbin, op_gload, op_gfa, bin_eql, bin_leq, pick_b, eK_some, emap_some, op_box, outK, outL, outM, resPs, resP, rvsOf, rvOf, snapV, snapC, sepB, ownKs, dataKs, keysV, keysC, nodupB, Option.bind_some, Option.map_some, true_and, and_true, implies_true, ↓reduceIte, Nat.reduceEqDiff, reduceCtorEq, Nat.reduceAdd, Nat.reduceLT, Nat.zero_add, Nat.add_zero, List.all_nil, List.append_nil, Bool.and_self, List.getElem?_toArray, List.getElem?_cons_succ, List.getElem?_cons_zero, beq_true, beq_false, Bool.not_eq_true', Bool.and_eq_true, List.contains_nil, Bool.not_false, cod1_enc, codC_enc, imp_self, and_self, Env.tk, loadV, fieldAddrV, loadD, loadP, boxE, St.obj, TI.isAgg, cellsP, refNew, newOb, List.getD_cons_zero, List.getD_cons_succ, List.length_cons, List.length_nil, pN_bool, pN_gbool, gpN_some, Nat.mul_zero, Bool.false_eq_true, ty_r, E30_r, Entry.row, Entry.d, capI]
  repeat' (first | with_reducible apply And.intro | intro _)
  all_goals (try simp only [Named] at *)
  all_goals (try assumption)
  all_goals (try (subst_vars; simp only [meant]; grind))
abbrev cAcc2 : Cod (Entry × Int × Int × Int × Int) := codC Entry.d (dAgg Entry.of) Entry.diff (cod1 (fun a : Int × Int × Int × Int => .ptr [.fn 30 [capI a.1, capI a.2.1, capI a.2.2.1, capI a.2.2.2]] 0) dIs fun _ _ => dIs_iff)
abbrev con51 : Con := .of cAcc2 (fun _ => True) (fun a rs => rs = [.d (.bool (!meant a.2.1 a.2.2.1 a.2.2.2.1 a.2.2.2.2 a.1))]) true
noncomputable def E51 : Env := (E0.add 30 con30).at 8 (fun d => false) (fun d => d) (fun d => true)
theorem E51_ok : EnvOk E51 := (E0_ok.add Try.func30 rfl rfl ok30).at _ _ _ _
theorem E51_r : E51.ty = E0.ty ∧ (E51.con 30 = some con30 ∧ E51.icon 30 = none) ∧ (∀ d, E51.key d = d) := ⟨rfl, ⟨rfl, rfl⟩, fun _ => rfl⟩

set_option maxRecDepth 20000 in
theorem ok51 : ConOk Try.prog 51 con51 := by
  refine con_of (E := E51) E51_ok (fn := Try.f51) Try.func51 rfl (by decide) (by kernel_rfl) (rs := [.tmp 3]) rfl (by decide) (by decide) [.data 4]  (fun _ _ => ⟨_, rfl⟩) boolFlat ?_
  rintro ⟨e, day, known, owner, place⟩ _
  simp (maxSteps := 1000000) only [startP_eq, startL, List.map_cons, List.map_nil, run_region, run_seq, run_ret, opsK_nil, opsK_op, seqK_normal, endP_ret, upd_apply, after_some, ev_tmp, ev_bool, St.sv, St.sc, strip, stripC, argsC, pK_none, pmap_some, op_assign, op_un, op_load, unV, eK_some, emap_some, op_box, op_call, iK_some, iK2_none, cK_some, cK2_some, conK_flat, snapVs_nil, snapVs_cons, outK, outL, outM, resPs, resP, rvsOf, rvOf, snapV, snapC, sepB, ownKs, dataKs, keysV, keysC, nodupB, packP, RV.flatP, Option.bind_some, Option.map_some, and_true, ↓reduceIte, Nat.reduceEqDiff, reduceCtorEq, Nat.reduceAdd, Nat.reduceLT, Nat.reduceLeDiff, Nat.zero_add, Nat.add_zero, List.all_nil, List.append_nil, List.nil_append, List.flatMap_cons, List.flatMap_nil, Bool.and_self, List.contains_nil, Bool.not_false, of_pre, of_post, of_flat, cod1_enc, cod1_dec, codC_enc, codC_dec, dAgg_agg, some_ex, some_ex1, and_self, loadV, loadD, loadP, boxE, St.obj, TI.isAgg, cellsP, refNew, newOb, List.getD_cons_zero, List.length_cons, List.length_nil, imp_eq, List.take_succ_cons, List.drop_zero, List.take_nil, Nat.mul_zero, pagg, allD, List.cons_append, Bool.false_eq_true, ty_r, E51_r, Entry.row, Entry.d, Entry.of2, capI, dCap_cap, icallInfo, callInfo]
/-- The choice, turned round. -/
def dNot : D → Option (Int × Int × Int × Int)
  | .fn 51 [x] => dIs x
  | _ => none
def notD (a : Int × Int × Int × Int) : D := .fn 51 [.ptr [.fn 30 [capI a.1, capI a.2.1, capI a.2.2.1, capI a.2.2.2]] 0]
theorem dNot_iff {d : D} {n : Int × Int × Int × Int} : dNot d = some n ↔ d = notD n := by
  constructor
  · intro h
    unfold dNot at h
    split at h
    · rw [dIs_iff.1 h]; rfl
    · cases h
  · rintro rfl; exact dIs_iff.2 rfl
/-- The first entry that is not meant. -/
def idxP (l : List Entry) (p : Entry → Bool) (r : Int) : Prop := (r = -1 ∧ ∀ e ∈ l, p e = true) ∨ ∃ k : Nat, r = (k : Int) ∧ k < l.length ∧ (∀ j : Nat, j < k → p (l.getD j .zero) = true) ∧ p (l.getD k .zero) = false
abbrev cIdx : Cod (List Entry × Int × Int × Int × Int) := codC (fun l => .lst 7 (l.map Entry.row)) (dLst 7 Entry.of) (fun _ _ => dLst_iff Entry.iff) (cod1 notD dNot fun _ _ => dNot_iff)
abbrev con62 : Con := .of cIdx (fun a => a.1.length ≤ 1000000) (fun a rs => ∃ r : Int, idxP a.1 (meant a.2.1 a.2.2.1 a.2.2.2.1 a.2.2.2.2) r ∧ rs = [.d (.int .i64 r)]) true
theorem idx_some (l : List Entry) (p : Entry → Bool) : ∃ r, idxP l p r := by
  by_cases h : ∀ e ∈ l, p e = true
  · exact ⟨-1, .inl ⟨rfl, h⟩⟩
  · have : ∃ k, k < l.length ∧ p (l.getD k .zero) = false := by
      simp only [Classical.not_forall] at h
      obtain ⟨e, he, hp⟩ := h
      obtain ⟨k, hk, rfl⟩ := List.mem_iff_getElem.1 he
      exact ⟨k, hk, by simpa [hk] using hp⟩
    have key : ∀ n, (∃ k, k < l.length ∧ k ≤ n ∧ p (l.getD k .zero) = false) → ∃ k, k < l.length ∧ (∀ j, j < k → p (l.getD j .zero) = true) ∧ p (l.getD k .zero) = false := by
      intro n
      induction n with
      | zero => rintro ⟨k, h1, h2, h3⟩; exact ⟨k, h1, fun j hj => absurd hj (by omega), h3⟩
      | succ n ih =>
        rintro ⟨k, h1, h2, h3⟩
        by_cases hq : ∃ k, k < l.length ∧ k ≤ n ∧ p (l.getD k .zero) = false
        · exact ih hq
        · refine ⟨k, h1, fun j hj => ?_, h3⟩
          cases hb : p (l.getD j .zero) with
          | true => rfl
          | false => exact absurd ⟨j, by omega, by omega, hb⟩ hq
    obtain ⟨k, h1, h2⟩ := this
    obtain ⟨k', g1, g2, g3⟩ := key k ⟨k, h1, Nat.le_refl _, h2⟩
    exact ⟨k', .inr ⟨k', rfl, g1, g2, g3⟩⟩
noncomputable def E62 : Env := (E0.add 51 con51).at 19 (fun d => false) (fun d => d) (fun d => true)
theorem E62_ok : EnvOk E62 := (E0_ok.add Try.func51 rfl rfl ok51).at _ _ _ _
theorem E62_r : E62.ty = E0.ty ∧ (E62.con 51 = some con51 ∧ E62.icon 51 = none) ∧ E62.fact 7 = true ∧ (∀ d, E62.key d = d) := ⟨rfl, ⟨rfl, rfl⟩, rfl, fun _ => rfl⟩

set_option maxRecDepth 20000 in
theorem ok62 : ConOk Try.prog 62 con62 := by
  refine con_of (E := E62) E62_ok (fn := Try.f62) Try.func62 rfl (by decide) (by kernel_rfl) (rs := [.tmp 4]) rfl (by decide) (by decide) [.data 3]  (fun a _ => by obtain ⟨r, hr⟩ := idx_some a.1 (meant a.2.1 a.2.2.1 a.2.2.2.1 a.2.2.2.2); exact ⟨_, r, hr, rfl⟩) (by rintro _ a r ⟨n, _, rfl⟩ x hx; simp only [List.mem_singleton] at hx; subst hx; rfl) ?_
  rintro ⟨l, day, known, owner, place⟩ hl
  simp only at hl
  simp (maxSteps := 1000000) only [startP_eq, startL, List.map_cons, List.map_nil, run_region, run_seq, run_block, run_loop, opsK_nil, opsK_op, seqK_normal, upd_apply, after_some, ev_tmp, ev_int, St.sv, St.sc, strip, stripC, pmap_some, op_move, op_assign, op_len, Option.map_some, true_and, ↓reduceIte, reduceCtorEq, Nat.zero_add, cod1_enc, codC_enc, and_self, Env.tk, lenV, List.length_map, lbK_true, lnK_none, lenF, maxLen_eq, ty_r, E62_r]
  intro _
  refine pwp_loop (fun n S => ∃ i : Int, 0 ≤ i ∧ i ≤ (l.length : Int) ∧ n = ((l.length : Int) - i).toNat ∧ (∀ j : Nat, j < i.toNat → meant day known owner place (l.getD j .zero) = true) ∧ S.t 8 = .d (.int .i64 i) ∧ S.t 7 = .d (.int .i64 l.length) ∧ S.t 0 = .d (.lst 7 (l.map Entry.row)) ∧ S.t 1 = .d (notD (day, known, owner, place))) ((l.length : Int) - 0).toNat ⟨0, by omega, by omega, rfl, by simp, rfl, rfl, rfl, rfl⟩ ?_
  rintro n ⟨t, o⟩ ⟨i, hi0, hil, hn, hall, h8, h7, h0, h1⟩
  simp only at h8 h7 h0 h1
  simp (maxSteps := 1000000) only [List.map_cons, List.map_nil, run_skip, run_region, run_seq, run_cond, run_block, run_exit, run_ret, opsK_nil, opsK_op, seqK_normal, seqK_exit, seqK_ret, blkK_normal, blkK_exit, blkK_ret, loopK_normal, loopK_exit, loopK_ret, endP_ret, condK_bool, upd_apply, after_some, ev_tmp, ev_int, St.sv, St.sc, strip, stripC, argsC, pK_none, pmap_some, op_move, op_assign, on_bin, op_load, op_ia, bin_add, bin_lss, op_call, iK_some, iK2_none, cK_some, cK2_some, conK_flat, snapVs_nil, snapVs_cons, outK, outL, outM, resPs, resP, rvsOf, rvOf, snapV, snapC, sepB, ownKs, dataKs, keysV, keysC, nodupB, packP, RV.flatP, Option.bind_some, Option.map_some, true_and, and_true, ↓reduceIte, Nat.reduceEqDiff, reduceCtorEq, Nat.reduceAdd, Nat.reduceLeDiff, Nat.zero_add, List.all_nil, List.append_nil, List.nil_append, List.flatMap_cons, List.flatMap_nil, Bool.and_self, Bool.not_eq_true', List.contains_nil, Bool.not_false, of_pre, of_post, of_flat, cod1_dec, codC_dec, dAgg_agg, some_ex, some_ex1, and_self, Env.tk, loadV, indexAddrV, loadD, TI.isAgg, cut, List.length_cons, List.length_nil, List.length_map, imp_eq, pN_bool, pN_int, List.take_succ_cons, List.drop_zero, List.take_nil, List.cons_append, ty_r, E62_r, Entry.getD, Entry.row, Entry.of2, h8, h7, h0, h1, notD, capI, dIs, icallInfo, callInfo, Option.bind_some, Option.map_some]
  intro b hb
  simp only [Named] at hb
  refine ⟨fun hbt => ?_, fun hbf => ⟨-1, .inl ⟨rfl, upTo (z := .zero) fun j hj => hall j (by subst hb; simp at hbf; omega)⟩, rfl⟩⟩
  have hlt : i < (l.length : Int) := by subst hb; simpa using hbt
  refine ⟨⟨hi0, hlt⟩, fun hf => ⟨i, .inr ⟨i.toNat, by omega, by omega, hall, hf⟩, rfl⟩, fun ht => ?_⟩
  refine ghost_id ⟨((l.length : Int) - (i + 1)).toNat, by omega, i + 1, by omega, by omega, rfl, upNext (P := fun j => meant day known owner place (l.getD j .zero) = true) hi0 hall (by simpa using ht), ?_, h7, h0, h1⟩
  simp only [upd_apply, ↓reduceIte]; rw [wrap64 (by omega) (by omega)]
end Go.Proofs.Ytomnjbebgfadoaa.Pi
end
section
/- SettleSame, in the program.
   Conditions: none; lemmas. -/
set_option linter.unusedVariables false
set_option linter.unusedSimpArgs false
namespace Go.Proofs.Ytomnjbebgfadoaa.Pi
open Go Go.RowKit Go.Proofs
set_option maxHeartbeats 4000000
abbrev cSame : Cod (Basin × List Claim × List Int × Int × Int) := codC Basin.d (dAgg Basin.of) Basin.diff (codC (fun l => .lst 9 (l.map Claim.row)) (dLst 9 Claim.of) (fun _ _ => dLst_iff Claim.iff) cSupII)
abbrev con3 : Con := .of cSame (fun _ => True) (fun _ rs => rs = [.d (.bool true)]) true
noncomputable def E3 : Env := ((((((((E0.add 7 con7).add 8 con8).add 9 con9).add 10 con10).add 11 con11).add 12 con12).add 13 con13).add 14 con14).at 145 (fun d => false) (fun d => d) (fun d => true)
theorem E3_ok : EnvOk E3 := ((((((((E0_ok.add Try.func7 rfl rfl ok7).add Try.func8 rfl rfl ok8).add Try.func9 rfl rfl ok9).add Try.func10 rfl rfl ok10).add Try.func11 rfl rfl ok11).add Try.func12 rfl rfl ok12).add Try.func13 rfl rfl ok13).add Try.func14 rfl rfl ok14).at _ _ _ _
theorem E3_r : E3.ty = E0.ty ∧ (E3.con 7 = some con7 ∧ E3.icon 7 = none) ∧ (E3.con 8 = some con8 ∧ E3.icon 8 = none) ∧ (E3.con 9 = some con9 ∧ E3.icon 9 = none) ∧ (E3.con 10 = some con10 ∧ E3.icon 10 = none) ∧ (E3.con 11 = some con11 ∧ E3.icon 11 = none) ∧ (E3.con 12 = some con12 ∧ E3.icon 12 = none) ∧ (E3.con 13 = some con13 ∧ E3.icon 13 = none) ∧ (E3.con 14 = some con14 ∧ E3.icon 14 = none) ∧ E3.fact 72 = true ∧ E3.fact 82 = true ∧ E3.fact 84 = true ∧ E3.fact 89 = true ∧ (∀ d, E3.key d = d) := ⟨rfl, ⟨rfl, rfl⟩, ⟨rfl, rfl⟩, ⟨rfl, rfl⟩, ⟨rfl, rfl⟩, ⟨rfl, rfl⟩, ⟨rfl, rfl⟩, ⟨rfl, rfl⟩, ⟨rfl, rfl⟩, rfl, rfl, rfl, rfl, fun _ => rfl⟩

set_option maxRecDepth 20000 in
theorem ok3 : ConOk Try.prog 3 con3 := by
  refine con_of (E := E3) E3_ok (fn := Try.f3) Try.func3 rfl (by decide) (by kernel_rfl) (rs := [.tmp 10]) rfl (by decide) (by decide) [.data 4]  (fun _ _ => ⟨_, rfl⟩) boolFlat ?_
  rintro ⟨b, ro, sup, day, known⟩ _
  simp (maxSteps := 1000000) only [startP_eq, startL, List.map_cons, List.map_nil, run_skip, run_region, run_seq, run_cond, run_block, run_ret, run_loop, opsK_nil, opsK_op, seqK_normal, seqK_ret, endP_ret, condK_bool, upd_apply, after_some, ev_tmp, ev_int, ev_bool, ev_nils, St.sv, St.sc, strip, stripC, argsC, pK_none, pK_some, gpK_some, pmap_some, gK, gB_bool, op_move, op_assign, op_gmove, on_pick, on_bin, op_un, op_ext, op_load, on_gbin, op_gun, op_gload, op_len, op_glen, bin_neq, pick_b, unV, eK_some, emap_some, op_box, op_call, op_gcall, cgK_some, iK_some, iK2_none, cK_some, cK2_some, conK_flat, conK_gflat, conK_own, icallInfo_func, callInfo_func, ciK_some, snapVs_nil, snapVs_cons, outK, outL, outM, resPs, resP, rvsOf, rvOf, snapV, snapC, sepB, ownKs, dataKs, keysV, keysC, nodupB, packP, RV.flatP, extV, Option.bind_some, Option.map_some, true_implies, true_and, and_true, implies_true, ↓reduceIte, Nat.reduceEqDiff, reduceCtorEq, Nat.reduceAdd, Nat.reduceLeDiff, Nat.zero_add, Nat.add_zero, List.all_nil, List.append_nil, List.flatMap_cons, List.flatMap_nil, Bool.and_self, List.getElem?_toArray, List.getElem?_cons_succ, List.getElem?_cons_zero, beq_false, Bool.not_eq_true', List.contains_nil, Bool.not_false, Bool.not_true, of_pre, of_post, of_flat, cod0_dec, cod1_enc, cod1_dec, codC_enc, codC_dec, dInt_int, dAgg_agg, dLst_lst, dRows_nil, some_ex, some_ex1, imp_self, and_self, Env.tk, loadV, lenV, loadP, boxE, St.obj, TI.isAgg, cellsP, refNew, newOb, List.length_cons, List.length_nil, List.length_map, ex_eq, or_true, imp_eq, pN_bool, pN_gbool, gpN_some, lbK_true, lnK_none, lnK_some, glbK_some, lenF, List.take_succ_cons, List.drop_zero, List.take_nil, Nat.mul_zero, all_ex, all_exc, ex_exc, ex_btrue, pagg, allD, retP, retO, dropObs_nil, maxLen_eq, ty_r, E3_r, Basin.row, Basin.d, Basin.of2, Claim.drows, Grant.drows, idrows]
  refine ⟨⟨(), trivial⟩, fun _ x hx x1 hx1 b1 hb1 x2 hx2 b2 hb2 hf => ?_⟩
  simp only [Named] at hb1 hb2
  obtain ⟨hp1, -, hp3, -, -, -⟩ := hx (by subst hb1 hb2; grind)
  simp only at hp1 hp3
  clear hx hx1 hx2 hb1 hb2 hf
  have e0 : (dayF b.Places [] sup).1 = [] := rfl
  have hG := dayF_len b.Places ro ([], dayLeft b.Places sup b.Places.length)
  change (dayF b.Places ro sup).1.length = 0 + ro.length at hG
  rw [e0]
  generalize dayF b.Places ro sup = GL at hG
  rw [corr_same, back_first]
  refine ⟨⟨by omega, by omega⟩, ⟨by omega, by omega, by omega, by omega⟩, ⟨by omega, by omega, by omega⟩, ⟨by omega, by omega⟩, fun _ b1 hb1 b2 hb2 _ _ b3 hb3 b4 hb4 => ?_⟩
  simp only [List.length_map, List.length_nil] at *
  generalize grantsF day known ro GL.1 = F at *
  refine ⟨fun h4 => ?_, fun _ => ?_⟩
  · simp only [Named] at hb1 hb2 hb3 hb4
    subst hb1 hb2 hb3 hb4; simp at h4
  refine pwp_loop (fun n S => ∃ i : Int, 0 ≤ i ∧ i ≤ (F.length : Int) ∧ n = ((F.length : Int) - i).toNat ∧ S.t 19 = .d (.int .i64 i) ∧ S.t 17 = .d (.lst 7 ((F.map opp).map Entry.row)) ∧ S.t 18 = .d (.lst 7 (F.map Entry.row)) ∧ S.t 11 = .d (.bool true)) ((F.length : Int) - 0).toNat ⟨0, by omega, by omega, rfl, rfl, rfl, rfl, rfl⟩ ?_
  clear hb1 hb2 hb3 hb4
  rintro n ⟨t, o⟩ ⟨i, hi0, hil, hn, h19, h17, h18, h11⟩
  simp only at h19 h17 h18 h11
  simp (maxSteps := 1000000) only [run_skip, run_region, run_seq, run_cond, run_block, run_exit, run_ret, opsK_nil, opsK_op, seqK_normal, seqK_exit, seqK_ret, blkK_normal, blkK_exit, blkK_ret, loopK_normal, loopK_exit, loopK_ret, endP_ret, condK_bool, upd_apply, after_some, ev_tmp, ev_int, ev_bool, St.sv, St.sc, strip, stripC, pK_none, pK_some, gpK_some, pmap_some, gK, gB_bool, op_move, op_assign, op_gmove, on_pick, on_bin, op_un, op_load, op_fa, op_ia, on_gbin, op_gload, op_gfa, op_gia, op_len, bin_add, bin_neq, bin_lss, pick_b, unV, outK, outL, outM, resPs, resP, rvsOf, rvOf, snapV, snapC, sepB, ownKs, dataKs, keysV, keysC, nodupB, Option.bind_some, Option.map_some, true_and, and_true, implies_true, ↓reduceIte, Nat.reduceEqDiff, Nat.reduceAdd, Nat.reduceLT, Nat.zero_add, List.all_nil, List.append_nil, Bool.and_self, List.getElem?_toArray, List.getElem?_cons_succ, List.getElem?_cons_zero, beq_false, Bool.not_eq_true', List.contains_nil, Bool.not_false, imp_self, and_self, Env.tk, loadV, fieldAddrV, indexAddrV, lenV, loadD, TI.isAgg, List.getD_cons_zero, List.getD_cons_succ, List.length_cons, List.length_nil, List.length_map, pN_bool, pN_int, pN_gbool, gpN_some, lbK_true, lnK_none, lenF, Bool.false_eq_true, maxLen_eq, ty_r, E3_r, Entry.getD, Entry.row, h19, h17, h18, h11, wint]
  try simp only [List.length_map]
  intro hl x hx
  simp only [Named] at hx
  intro hxt
  have hlt : i < (F.length : Int) := by subst hx; simpa using hxt
  have hgo : (F.map opp).getD i.toNat .zero = opp (F.getD i.toNat .zero) := by
    have : i.toNat < F.length := by omega
    simp [this]
  rw [hgo]
  generalize F.getD i.toNat .zero = e
  simp only [opp]
  clear hx hxt
  repeat' (first | with_reducible apply And.intro | intro _)
  all_goals (first | assumption | exact hi0 | exact hlt | skip)
  all_goals simp only [Named] at *
  · exfalso; subst_vars; simp at *
  · refine ghost_id ⟨((F.length : Int) - (i + 1)).toNat, by omega, i + 1, by omega, by omega, rfl, ?_, h17, h18, h11⟩
    simp only [upd_apply, ↓reduceIte]; rw [wrap64 (by omega) (by omega)]
end Go.Proofs.Ytomnjbebgfadoaa.Pi
end
section
/- SettleMoves, in the program.
   Conditions: none; lemmas. -/
set_option linter.unusedVariables false
set_option linter.unusedSimpArgs false
namespace Go.Proofs.Ytomnjbebgfadoaa.Pi
open Go Go.RowKit Go.Proofs
set_option maxHeartbeats 4000000
abbrev con4 : Con := .of cSame (fun _ => True) (fun _ rs => rs = [.d (.bool true)]) true
theorem lit0 (te : TI) : litRows te 0 [] = some [] := by
  simp [litRows, elemsFI, fillP, dcells, chunk]
theorem cset (l : List Claim) (k : Nat) (a b c d e f g h i : Int) : (l.map Claim.row).set k [.int .i64 a, .int .i64 b, .int .i64 c, .int .i64 d, .int .i64 e, .int .i64 f, .int .i64 g, .int .i64 h, .int .i64 i] = (l.set k ⟨a, b, c, d, e, f, g, h, i⟩).map Claim.row := by
  rw [List.map_set]; rfl
def moveS (owner : Int) (old : Claim) (s : Int × Int × Int) (e : Entry) : Int × Int × Int := if e.Owner = owner then (IntKind.i64.wrap (s.1 + e.Litres), s.2.1, s.2.2) else if e.Owner = old.Owner then (s.1, IntKind.i64.wrap (s.2.1 + e.Litres), s.2.2) else (s.1, s.2.1, IntKind.i64.wrap (s.2.2 + e.Litres))
theorem map_same {ro : List Claim} (hn : (ro.map (·.Id)).Nodup) {old : Claim} (h : old ∈ ro) : ro.map (other old.Id old.Owner) = ro := by
  have : ∀ c ∈ ro, other old.Id old.Owner c = c := fun c hc => by
    unfold other
    split
    · rename_i e
      have h1 := find_id hn hc
      have h2 := find_id hn h
      rw [e, h2] at h1
      obtain rfl : old = c := by simpa using h1
      rfl
    · rfl
  rw [List.map_congr_left this, List.map_id']
noncomputable def E4 : Env := ((((((((E0.add 7 con7).add 8 con8).add 9 con9).add 10 con10).add 11 con11).add 12 con12).add 14 con14).add 15 con15).at 194 (fun d => d == 62) (fun d => d) (fun d => true)
theorem E4_ok : EnvOk E4 := ((((((((E0_ok.add Try.func7 rfl rfl ok7).add Try.func8 rfl rfl ok8).add Try.func9 rfl rfl ok9).add Try.func10 rfl rfl ok10).add Try.func11 rfl rfl ok11).add Try.func12 rfl rfl ok12).add Try.func14 rfl rfl ok14).add Try.func15 rfl rfl ok15).at _ _ _ _
theorem E4_r : E4.ty = E0.ty ∧ (E4.con 7 = some con7 ∧ E4.icon 7 = none) ∧ (E4.con 8 = some con8 ∧ E4.icon 8 = none) ∧ (E4.con 9 = some con9 ∧ E4.icon 9 = none) ∧ (E4.con 10 = some con10 ∧ E4.icon 10 = none) ∧ (E4.con 11 = some con11 ∧ E4.icon 11 = none) ∧ (E4.con 12 = some con12 ∧ E4.icon 12 = none) ∧ (E4.con 14 = some con14 ∧ E4.icon 14 = none) ∧ (E4.con 15 = some con15 ∧ E4.icon 15 = none) ∧ E4.own 62 = true ∧ E4.own 91 = false ∧ E4.fact 47 = true ∧ E4.fact 58 = true ∧ E4.fact 113 = true ∧ E4.fact 118 = true ∧ E4.fact 176 = true ∧ (∀ d, E4.key d = d) := ⟨rfl, ⟨rfl, rfl⟩, ⟨rfl, rfl⟩, ⟨rfl, rfl⟩, ⟨rfl, rfl⟩, ⟨rfl, rfl⟩, ⟨rfl, rfl⟩, ⟨rfl, rfl⟩, ⟨rfl, rfl⟩, rfl, rfl, rfl, rfl, rfl, rfl, rfl, fun _ => rfl⟩

set_option maxRecDepth 20000 in
theorem ok4 : ConOk Try.prog 4 con4 := by
  refine con_of (E := E4) E4_ok (fn := Try.f4) Try.func4 rfl (by decide) (by kernel_rfl) (rs := [.tmp 10]) rfl (by decide) (by decide) [.data 4]  (fun _ _ => ⟨_, rfl⟩) boolFlat ?_
  rintro ⟨b, ro, sup, w, owner⟩ _
  simp (maxSteps := 1000000) only [startP_eq, startL, List.map_cons, List.map_nil, run_skip, run_region, run_seq, run_cond, run_block, run_exit, run_ret, run_loop, opsK_nil, opsK_op, seqK_normal, seqK_exit, seqK_ret, blkK_normal, blkK_exit, blkK_ret, loopK_normal, loopK_exit, loopK_ret, endP_ret, endP_normal, condK_bool, condK_opt, upd_apply, after_some, after_none, ev_tmp, ev_int, ev_bool, ev_str, ev_nils, ev_func, St.sv, St.sc, strip, stripC, argsC, pK_none, pK_some, gpK_some, pmap_some, gK, gB_bool, gB_opt, op_move, op_assign, op_gmove, op_gassign, on_pick, on_bin, op_un, op_conv, op_ext, op_load, op_fa, op_f, op_ia, op_i, op_build, on_gpick, on_gbin, op_gun, op_gconv, op_gext, op_gload, op_gfa, op_gf, op_gia, op_gi, op_gbuild, op_len, op_glen, op_min, op_max, minK, maxK, bin_add, bin_sub, bin_mul, bin_quo, bin_rem, bin_eql, bin_neq, bin_lss, bin_leq, bin_gtr, bin_geq, bin_str, bin_bool, bin_agg, pick_b, unV, sbin, eK_some, emap_some, op_alloc, op_box, op_store, op_make, op_app, op_lit, lK_true, lK_false, op_call, op_gcall, cgK_some, iK_some, iK2_none, iK2_some, cK_some, cK2_some, conK_flat, conK_gflat, conK_own, conK_void, icallInfo_func, callInfo_func, ciK_some, snapVs_nil, snapVs_cons, outK, outL, outM, resPs, resP, rvsOf, rvOf, snapV, snapC, sepB, ownKs, dataKs, keysV, keysC, nodupB, packP, RV.flatP, extV, Option.bind_some, Option.map_some, true_implies, true_and, and_true, implies_true, ↓reduceIte, Nat.reduceEqDiff, reduceCtorEq, Nat.reduceAdd, Nat.reduceMul, Nat.reduceSub, Nat.reduceLT, Nat.reduceLeDiff, Nat.zero_add, Nat.add_zero, List.all_nil, List.append_nil, List.nil_append, List.flatMap_cons, List.flatMap_nil, Bool.and_self, List.getElem?_toArray, List.getElem?_cons_succ, List.getElem?_cons_zero, beq_true, beq_false, beq_self_eq_true, Bool.and_true, Bool.true_and, Bool.not_eq_true', Bool.and_eq_true, decide_eq_true_eq, decide_eq_false_iff_not, List.contains_nil, Bool.not_false, Bool.not_true, List.toList_toArray, at_n, of_pre, of_post, of_flat, cod0_enc, cod0_dec, cod1_enc, cod1_dec, codC_enc, codC_dec, dInt_int, dBool_bool, dStr_str, dAgg_agg, dLst_lst, dRows_nil, dRows_cons, some_ex, some_ex1, imp_self, and_self, Env.tk, loadV, fieldAddrV, indexAddrV, lenV, loadD, loadP, allocE, boxE, storeE, St.obj, TI.isAgg, getD_map, plainTI, zpv, cellsP, refNew, newOb, setOb, cut, List.getD_cons_zero, List.getD_cons_succ, List.length_cons, List.length_nil, List.length_map, ex_bool, all_bool, ex_eq, or_true, true_or, imp_eq, pN_bool, pN_int, pN_str, pN_gbool, pN_gint, pN_gstr, gpN_some, lbK_true, lbK_false, lnK_none, lnK_some, glbK_some, lenF, oneCells, deqs, deq, D.sk, List.take_succ_cons, List.take_zero, List.drop_zero, List.drop_succ_cons, List.take_nil, List.drop_nil, Option.isSome_some, Nat.mul_zero, Nat.zero_mul, all_ex, all_exc, ex_ex, ex_exc, ex_btrue, pagg, allD, bin_and, bin_or, bin_xor, bin_shl, bin_shr, ints_1, ints_2, minI_2, maxI_2, buildV, fillP, dcells, dcell, List.map_append, List.cons_append, List.drop_append_of_le_length, List.take_append_of_le_length, List.getElem?_map, retP, retO, dropObs_nil, dropObs_apply, contains_cons', Bool.or_false, Bool.false_or, Bool.or_true, Bool.true_or, Nat.reduceBEq, Bool.false_eq_true, indexV, bsize, List.size_toArray, maxLen_eq, op_lookup, op_nilCheck, op_slice, op_makeFunc, op_glookup, op_gnilCheck, op_gslice, op_makeMap, op_insert, op_mapUpdate, op_mapEntry, op_entryStore, op_entry, op_range, op_next, nK_iter, nextR, rangeE, entryV, mfindS, List.getLast?_append, lookupV, nilCheckV, sliceV, boundV, makeFuncV, makeMapE, mapUpdE, mapEntE, mapStoE, plainTI, Option.map_none, lapp_nil, lapp_cons, Int.reduceToNat, Int.toNat_zero, Int.toNat_one, sK_true, sK_false, op_clip, op_clear, clipV, sliceE, clearE, bin_lnil, bin_lnil', bin_nnil, bin_nnil', ty_r, E4_r, Point.getD, Point.row, Point.d, Point.of2, Point.drows, Cell.getD, Cell.row, Cell.d, Cell.of2, Cell.drows, Band.getD, Band.row, Band.d, Band.of2, Band.drows, Place.getD, Place.row, Place.d, Place.of2, Place.drows, Link.getD, Link.row, Link.d, Link.of2, Link.drows, Town.getD, Town.row, Town.d, Town.of2, Town.drows, Shelter.getD, Shelter.row, Shelter.d, Shelter.of2, Shelter.drows, Gauge.getD, Gauge.row, Gauge.d, Gauge.of2, Gauge.drows, Road.getD, Road.row, Road.d, Road.of2, Road.drows, Basin.getD, Basin.row, Basin.d, Basin.of2, Basin.drows, Claim.getD, Claim.row, Claim.d, Claim.of2, Claim.drows, Grant.getD, Grant.row, Grant.d, Grant.of2, Grant.drows, Entry.getD, Entry.row, Entry.d, Entry.of2, Entry.drows, Report.getD, Report.row, Report.d, Report.of2, Report.drows, Triple.getD, Triple.row, Triple.d, Triple.of2, Triple.drows, Posting.getD, Posting.row, Posting.d, Posting.of2, Posting.drows, irow, srow, lrow, igetD, sgetD, lgetD, idrows, sdrows, zvp, litE, lit0, litV, lit1c, appE, appR, rowsV, rowNew, cset, Claim.drows, Option.bind_some, Option.map_some]
  refine ⟨⟨(), trivial⟩, fun _ x hx x1 hx1 b1 hb1 x2 hx2 b2 hb2 b3 hb3 b4 hb4 => ?_⟩
  simp only [Named] at hb1 hb2 hb3 hb4
  intro _ b5 hb5 b6 hb6 b7 hb7 b8 hb8 _ b9 hb9 b10 hb10 hf
  simp only [Named] at hb5 hb6 hb7 hb8 hb9 hb10
  have hc : x = true ∧ x1 = true ∧ 0 ≤ w ∧ w < (ro.length : Int) ∧ 0 ≤ owner ∧ owner < (b.Owners.length : Int) := by subst_vars; grind
  obtain ⟨hxt, hx1t, hw0, hwl, ho0, hol⟩ := hc
  obtain ⟨hp1, -, hp3, -, -, -⟩ := hx hxt
  obtain ⟨hpl, hnd⟩ := hx1 hx1t
  simp only at hp1 hp3
  clear hx hx1 hx2 hb1 hb2 hb3 hb4 hb5 hb6 hb7 hb8 hb9 hb10 hf hxt hx1t
  have hw : w.toNat < ro.length := by omega
  have hold : ro.getD w.toNat .zero ∈ ro := by
    have : ro.getD w.toNat .zero = ro[w.toNat] := by simp [hw]
    rw [this]; exact List.getElem_mem hw
  have hset : ro.set w.toNat ⟨(ro.getD w.toNat .zero).Id, owner, (ro.getD w.toNat .zero).Date, (ro.getD w.toNat .zero).Place, (ro.getD w.toNat .zero).Rate, (ro.getD w.toNat .zero).From, (ro.getD w.toNat .zero).Until, (ro.getD w.toNat .zero).Back, (ro.getD w.toNat .zero).BackTo⟩ = ro.map (other (ro.getD w.toNat .zero).Id owner) := by
    have : ro.getD w.toNat .zero = ro[w.toNat] := by simp [hw]
    rw [this]; exact set_other hnd hw owner
  rw [hset]
  generalize hg : ro.getD w.toNat .zero = old at hold
  have hpo := hpl old hold
  obtain ⟨hlit, hri⟩ := day_ok b.Places ro sup
  have hdo := day_other b.Places ro sup old.Id owner
  have hG := dayF_len b.Places ro ([], dayLeft b.Places sup b.Places.length)
  change (dayF b.Places ro sup).1.length = 0 + ro.length at hG
  simp only [hdo]
  generalize dayF b.Places ro sup = GL at hlit hri hG
  have hlen : (ro.map (other old.Id owner)).length = ro.length := by simp
  refine ⟨by omega, ⟨hw0, hwl⟩, hw, ⟨hw0, hwl⟩, ⟨by omega, by omega⟩, ⟨by omega, by omega, by omega, by omega⟩, fun r hr => ⟨fun h => (by rw [hr trivial] at h; cases h), fun _ b1 hb1 b2 hb2 b3 hb3 => ?_⟩⟩
  simp only [Named] at hb1 hb2 hb3
  by_cases hown : owner = old.Owner
  · have e : corrF 5 1 ro (ro.map (other old.Id owner)) GL.1 GL.1 = [] := by rw [hown, map_same hnd hold, corr_same]
    rw [e]
    refine ⟨fun h3 hl b4 hb4 b5 hb5 => ?_, fun h3 => ?_⟩
    · simp only [Named] at hb4 hb5
      subst hb5 hb4; rfl
    · subst hb3 hb2; simp [hown] at h3
  obtain ⟨n, hn0, hn1, hsh, hcf⟩ := corr_moves 5 1 hnd hold hri hlit hown
  rw [hsh] at hb1
  rw [hsh, hcf]
  by_cases hz : n = 0
  · rw [if_pos hz]
    refine ⟨fun h3 hl b4 hb4 b5 hb5 => ?_, fun h3 => ?_⟩
    · simp only [Named] at hb4 hb5
      subst hb5 hb4; rfl
    · subst hb3 hb1; simp [hz] at h3
  rw [if_neg hz]
  refine ⟨fun h3 => ?_, fun h3 => ?_⟩
  · subst hb3 hb1 hb2; simp [hz, hown] at h3
  clear hb1 hb2 hb3 h3 hcf hsh
  have hF : ∀ e ∈ ([⟨5, 1, owner, old.Place, n, 1, old.Id⟩, ⟨5, 1, -1, old.Place, -n, 1, old.Id⟩, ⟨5, 1, old.Owner, old.Place, -n, 1, old.Id⟩, ⟨5, 1, -1, old.Place, n, 1, old.Id⟩] : List Entry), e.Place = old.Place ∧ e.Ref = old.Id := by simp
  have hE : ([⟨5, 1, owner, old.Place, n, 1, old.Id⟩, ⟨5, 1, -1, old.Place, -n, 1, old.Id⟩, ⟨5, 1, old.Owner, old.Place, -n, 1, old.Id⟩, ⟨5, 1, -1, old.Place, n, 1, old.Id⟩] : List Entry).foldl (moveS owner old) (0, 0, 0) = (n, -n, 0) := by
    have o1 : (-1 : Int) ≠ owner := by omega
    have o2 : (-1 : Int) ≠ old.Owner := by have := hpo.1; omega
    have o3 : old.Owner ≠ owner := fun e => hown e.symm
    have w1 : IntKind.i64.wrap n = n := wrap64 (by omega) hn1
    have w2 : IntKind.i64.wrap (-n) = -n := wrap64 (by omega) (by omega)
    have w3 : IntKind.i64.wrap 0 = 0 := rfl
    have w4 : -n + n = 0 := by omega
    simp only [List.foldl_cons, List.foldl_nil, moveS, if_true, o1, o2, o3, if_false, Int.zero_add, w1, w2, w4, w3]
  have hL : ([⟨5, 1, owner, old.Place, n, 1, old.Id⟩, ⟨5, 1, -1, old.Place, -n, 1, old.Id⟩, ⟨5, 1, old.Owner, old.Place, -n, 1, old.Id⟩, ⟨5, 1, -1, old.Place, n, 1, old.Id⟩] : List Entry).length = 4 := rfl
  generalize ([⟨5, 1, owner, old.Place, n, 1, old.Id⟩, ⟨5, 1, -1, old.Place, -n, 1, old.Id⟩, ⟨5, 1, old.Owner, old.Place, -n, 1, old.Id⟩, ⟨5, 1, -1, old.Place, n, 1, old.Id⟩] : List Entry) = F at hF hE hL
  refine pwp_loop (fun m S => ∃ i : Int, 0 ≤ i ∧ i ≤ (F.length : Int) ∧ m = ((F.length : Int) - i).toNat ∧ S.t 22 = .d (.int .i64 i) ∧ S.t 17 = .d (.lst 7 (F.map Entry.row)) ∧ S.t 13 = .ref 13 1 0 0 0 ∧ S.o 13 = (1, some (.box 49 (old.row.map PV.d))) ∧ S.t 4 = .d (.int .i64 owner) ∧ S.t 18 = .d (.int .i64 n) ∧ S.t 11 = .d (.bool true)
      ∧ S.t 19 = .d (.int .i64 ((F.take i.toNat).foldl (moveS owner old) (0, 0, 0)).1) ∧ S.t 20 = .d (.int .i64 ((F.take i.toNat).foldl (moveS owner old) (0, 0, 0)).2.1) ∧ S.t 21 = .d (.int .i64 ((F.take i.toNat).foldl (moveS owner old) (0, 0, 0)).2.2)) ((F.length : Int) - 0).toNat ⟨0, by omega, by omega, rfl, rfl, rfl, rfl, rfl, rfl, rfl, rfl, rfl, rfl, rfl⟩ ?_
  clear hlit hri hG
  rintro m ⟨t, o⟩ ⟨i, hi0, hil, hm, h22, h17, h13, ho13, h4, h18, h11, h19, h20, h21⟩
  simp only at h22 h17 h13 ho13 h4 h18 h11 h19 h20 h21
  by_cases hlt : i < (F.length : Int)
  · have hi2 : i.toNat < F.length := by omega
    have hfo := foldTake (moveS owner old) (0, 0, 0) F i.toNat .zero hi2
    have hFe := hF (F.getD i.toNat .zero) (by rw [List.getD_eq_getElem?_getD, List.getElem?_eq_getElem hi2]; simp)
    generalize (F.take i.toNat).foldl (moveS owner old) (0, 0, 0) = s at hfo h19 h20 h21
    simp (maxSteps := 1000000) only [startP_eq, startL, List.map_cons, List.map_nil, run_skip, run_region, run_seq, run_cond, run_block, run_exit, run_ret, run_loop, opsK_nil, opsK_op, seqK_normal, seqK_exit, seqK_ret, blkK_normal, blkK_exit, blkK_ret, loopK_normal, loopK_exit, loopK_ret, endP_ret, endP_normal, condK_bool, condK_opt, upd_apply, after_some, after_none, ev_tmp, ev_int, ev_bool, ev_str, ev_nils, ev_func, St.sv, St.sc, strip, stripC, argsC, pK_none, pK_some, gpK_some, pmap_some, gK, gB_bool, gB_opt, op_move, op_assign, op_gmove, op_gassign, on_pick, on_bin, op_un, op_conv, op_ext, op_load, op_fa, op_f, op_ia, op_i, op_build, on_gpick, on_gbin, op_gun, op_gconv, op_gext, op_gload, op_gfa, op_gf, op_gia, op_gi, op_gbuild, op_len, op_glen, op_min, op_max, minK, maxK, bin_add, bin_sub, bin_mul, bin_quo, bin_rem, bin_eql, bin_neq, bin_lss, bin_leq, bin_gtr, bin_geq, bin_str, bin_bool, bin_agg, pick_b, unV, sbin, eK_some, emap_some, op_alloc, op_box, op_store, op_make, op_app, op_lit, lK_true, lK_false, op_call, op_gcall, cgK_some, iK_some, iK2_none, iK2_some, cK_some, cK2_some, conK_flat, conK_gflat, conK_own, conK_void, icallInfo_func, callInfo_func, ciK_some, snapVs_nil, snapVs_cons, outK, outL, outM, resPs, resP, rvsOf, rvOf, snapV, snapC, sepB, ownKs, dataKs, keysV, keysC, nodupB, packP, RV.flatP, extV, Option.bind_some, Option.map_some, true_implies, true_and, and_true, implies_true, ↓reduceIte, Nat.reduceEqDiff, reduceCtorEq, Nat.reduceAdd, Nat.reduceMul, Nat.reduceSub, Nat.reduceLT, Nat.reduceLeDiff, Nat.zero_add, Nat.add_zero, List.all_nil, List.append_nil, List.nil_append, List.flatMap_cons, List.flatMap_nil, Bool.and_self, List.getElem?_toArray, List.getElem?_cons_succ, List.getElem?_cons_zero, beq_true, beq_false, beq_self_eq_true, Bool.and_true, Bool.true_and, Bool.not_eq_true', Bool.and_eq_true, decide_eq_true_eq, decide_eq_false_iff_not, List.contains_nil, Bool.not_false, Bool.not_true, List.toList_toArray, at_n, of_pre, of_post, of_flat, cod0_enc, cod0_dec, cod1_enc, cod1_dec, codC_enc, codC_dec, dInt_int, dBool_bool, dStr_str, dAgg_agg, dLst_lst, dRows_nil, dRows_cons, some_ex, some_ex1, imp_self, and_self, Env.tk, loadV, fieldAddrV, indexAddrV, lenV, loadD, loadP, allocE, boxE, storeE, St.obj, TI.isAgg, getD_map, plainTI, zpv, cellsP, refNew, newOb, setOb, cut, List.getD_cons_zero, List.getD_cons_succ, List.length_cons, List.length_nil, List.length_map, ex_bool, all_bool, ex_eq, or_true, true_or, imp_eq, pN_bool, pN_int, pN_str, pN_gbool, pN_gint, pN_gstr, gpN_some, lbK_true, lbK_false, lnK_none, lnK_some, glbK_some, lenF, oneCells, deqs, deq, D.sk, List.take_succ_cons, List.take_zero, List.drop_zero, List.drop_succ_cons, List.take_nil, List.drop_nil, Option.isSome_some, Nat.mul_zero, Nat.zero_mul, all_ex, all_exc, ex_ex, ex_exc, ex_btrue, pagg, allD, bin_and, bin_or, bin_xor, bin_shl, bin_shr, ints_1, ints_2, minI_2, maxI_2, buildV, fillP, dcells, dcell, List.map_append, List.cons_append, List.drop_append_of_le_length, List.take_append_of_le_length, List.getElem?_map, retP, retO, dropObs_nil, dropObs_apply, contains_cons', Bool.or_false, Bool.false_or, Bool.or_true, Bool.true_or, Nat.reduceBEq, Bool.false_eq_true, indexV, bsize, List.size_toArray, maxLen_eq, op_lookup, op_nilCheck, op_slice, op_makeFunc, op_glookup, op_gnilCheck, op_gslice, op_makeMap, op_insert, op_mapUpdate, op_mapEntry, op_entryStore, op_entry, op_range, op_next, nK_iter, nextR, rangeE, entryV, mfindS, List.getLast?_append, lookupV, nilCheckV, sliceV, boundV, makeFuncV, makeMapE, mapUpdE, mapEntE, mapStoE, plainTI, Option.map_none, lapp_nil, lapp_cons, Int.reduceToNat, Int.toNat_zero, Int.toNat_one, sK_true, sK_false, op_clip, op_clear, clipV, sliceE, clearE, bin_lnil, bin_lnil', bin_nnil, bin_nnil', ty_r, E4_r, Point.getD, Point.row, Point.d, Point.of2, Point.drows, Cell.getD, Cell.row, Cell.d, Cell.of2, Cell.drows, Band.getD, Band.row, Band.d, Band.of2, Band.drows, Place.getD, Place.row, Place.d, Place.of2, Place.drows, Link.getD, Link.row, Link.d, Link.of2, Link.drows, Town.getD, Town.row, Town.d, Town.of2, Town.drows, Shelter.getD, Shelter.row, Shelter.d, Shelter.of2, Shelter.drows, Gauge.getD, Gauge.row, Gauge.d, Gauge.of2, Gauge.drows, Road.getD, Road.row, Road.d, Road.of2, Road.drows, Basin.getD, Basin.row, Basin.d, Basin.of2, Basin.drows, Claim.getD, Claim.row, Claim.d, Claim.of2, Claim.drows, Grant.getD, Grant.row, Grant.d, Grant.of2, Grant.drows, Entry.getD, Entry.row, Entry.d, Entry.of2, Entry.drows, Report.getD, Report.row, Report.d, Report.of2, Report.drows, Triple.getD, Triple.row, Triple.d, Triple.of2, Triple.drows, Posting.getD, Posting.row, Posting.d, Posting.of2, Posting.drows, irow, srow, lrow, igetD, sgetD, lgetD, idrows, sdrows, h22, h17, h13, ho13, h4, h18, h11, h19, h20, h21]
    generalize F.getD i.toNat .zero = e at hfo hFe
    intro _ y0 hy0
    simp only [Named] at hy0
    refine ⟨fun _ => ⟨⟨hi0, hlt⟩, fun y1 hy1 => ⟨fun h => ⟨h, hi0, hlt⟩, fun y2 hy2 y3 hy3 => ⟨fun h => ?_, fun h => ⟨⟨hi0, hlt⟩, fun y4 hy4 => ⟨fun h5 => ⟨⟨hi0, hlt⟩, ?_⟩, fun h5 y5 hy5 => ⟨fun h6 => ⟨⟨hi0, hlt⟩, ?_⟩, fun h6 => ⟨⟨hi0, hlt⟩, ?_⟩⟩⟩⟩⟩⟩⟩, fun h => ?_⟩
    · exfalso; simp only [Named] at hy1 hy2 hy3; subst hy3 hy2 hy1; simp [hFe.1, hFe.2] at h
    · simp only [Named] at hy4
      have o1 : e.Owner = owner := by subst hy4; simpa using h5
      refine ghost_id ⟨((F.length : Int) - (i + 1)).toNat, by omega, i + 1, by omega, by omega, rfl, ?_, h17, h13, ho13, h4, h18, h11, ?_, ?_, ?_⟩
      · simp only [upd_apply, Nat.reduceEqDiff, ↓reduceIte]; rw [wrap64 (by omega) (by omega)]
      all_goals (rw [show (i + 1).toNat = i.toNat + 1 by omega, hfo]; unfold moveS; rw [if_pos o1]; simp only [upd_apply, Nat.reduceEqDiff, ↓reduceIte, h19, h20, h21])
    · simp only [Named] at hy4 hy5
      have o1 : ¬e.Owner = owner := by subst hy4; simpa using h5
      have o2 : e.Owner = old.Owner := by subst hy5; simpa using h6
      refine ghost_id ⟨((F.length : Int) - (i + 1)).toNat, by omega, i + 1, by omega, by omega, rfl, ?_, h17, h13, ho13, h4, h18, h11, ?_, ?_, ?_⟩
      · simp only [upd_apply, Nat.reduceEqDiff, ↓reduceIte]; rw [wrap64 (by omega) (by omega)]
      all_goals (rw [show (i + 1).toNat = i.toNat + 1 by omega, hfo]; unfold moveS; rw [if_neg o1, if_pos o2]; simp only [upd_apply, Nat.reduceEqDiff, ↓reduceIte, h19, h20, h21])
    · simp only [Named] at hy4 hy5
      have o1 : ¬e.Owner = owner := by subst hy4; simpa using h5
      have o2 : ¬e.Owner = old.Owner := by subst hy5; simpa using h6
      refine ghost_id ⟨((F.length : Int) - (i + 1)).toNat, by omega, i + 1, by omega, by omega, rfl, ?_, h17, h13, ho13, h4, h18, h11, ?_, ?_, ?_⟩
      · simp only [upd_apply, Nat.reduceEqDiff, ↓reduceIte]; rw [wrap64 (by omega) (by omega)]
      all_goals (rw [show (i + 1).toNat = i.toNat + 1 by omega, hfo]; unfold moveS; rw [if_neg o1, if_neg o2]; simp only [upd_apply, Nat.reduceEqDiff, ↓reduceIte, h19, h20, h21])
    · subst hy0; simp [hlt] at h
  · have hge : F.take i.toNat = F := List.take_of_length_le (by omega)
    rw [hge, hE] at h19 h20 h21
    have hdec : decide (i < (F.length : Int)) = false := by simp; omega
    simp (maxSteps := 1000000) only [startP_eq, startL, List.map_cons, List.map_nil, run_skip, run_region, run_seq, run_cond, run_block, run_exit, run_ret, run_loop, opsK_nil, opsK_op, seqK_normal, seqK_exit, seqK_ret, blkK_normal, blkK_exit, blkK_ret, loopK_normal, loopK_exit, loopK_ret, endP_ret, endP_normal, condK_bool, condK_opt, upd_apply, after_some, after_none, ev_tmp, ev_int, ev_bool, ev_str, ev_nils, ev_func, St.sv, St.sc, strip, stripC, argsC, pK_none, pK_some, gpK_some, pmap_some, gK, gB_bool, gB_opt, op_move, op_assign, op_gmove, op_gassign, on_pick, on_bin, op_un, op_conv, op_ext, op_load, op_fa, op_f, op_ia, op_i, op_build, on_gpick, on_gbin, op_gun, op_gconv, op_gext, op_gload, op_gfa, op_gf, op_gia, op_gi, op_gbuild, op_len, op_glen, op_min, op_max, minK, maxK, bin_add, bin_sub, bin_mul, bin_quo, bin_rem, bin_eql, bin_neq, bin_lss, bin_leq, bin_gtr, bin_geq, bin_str, bin_bool, bin_agg, pick_b, unV, sbin, eK_some, emap_some, op_alloc, op_box, op_store, op_make, op_app, op_lit, lK_true, lK_false, op_call, op_gcall, cgK_some, iK_some, iK2_none, iK2_some, cK_some, cK2_some, conK_flat, conK_gflat, conK_own, conK_void, icallInfo_func, callInfo_func, ciK_some, snapVs_nil, snapVs_cons, outK, outL, outM, resPs, resP, rvsOf, rvOf, snapV, snapC, sepB, ownKs, dataKs, keysV, keysC, nodupB, packP, RV.flatP, extV, Option.bind_some, Option.map_some, true_implies, true_and, and_true, implies_true, ↓reduceIte, Nat.reduceEqDiff, reduceCtorEq, Nat.reduceAdd, Nat.reduceMul, Nat.reduceSub, Nat.reduceLT, Nat.reduceLeDiff, Nat.zero_add, Nat.add_zero, List.all_nil, List.append_nil, List.nil_append, List.flatMap_cons, List.flatMap_nil, Bool.and_self, List.getElem?_toArray, List.getElem?_cons_succ, List.getElem?_cons_zero, beq_true, beq_false, beq_self_eq_true, Bool.and_true, Bool.true_and, Bool.not_eq_true', Bool.and_eq_true, decide_eq_true_eq, decide_eq_false_iff_not, List.contains_nil, Bool.not_false, Bool.not_true, List.toList_toArray, at_n, of_pre, of_post, of_flat, cod0_enc, cod0_dec, cod1_enc, cod1_dec, codC_enc, codC_dec, dInt_int, dBool_bool, dStr_str, dAgg_agg, dLst_lst, dRows_nil, dRows_cons, some_ex, some_ex1, imp_self, and_self, Env.tk, loadV, fieldAddrV, indexAddrV, lenV, loadD, loadP, allocE, boxE, storeE, St.obj, TI.isAgg, getD_map, plainTI, zpv, cellsP, refNew, newOb, setOb, cut, List.getD_cons_zero, List.getD_cons_succ, List.length_cons, List.length_nil, List.length_map, ex_bool, all_bool, ex_eq, or_true, true_or, imp_eq, pN_bool, pN_int, pN_str, pN_gbool, pN_gint, pN_gstr, gpN_some, lbK_true, lbK_false, lnK_none, lnK_some, glbK_some, lenF, oneCells, deqs, deq, D.sk, List.take_succ_cons, List.take_zero, List.drop_zero, List.drop_succ_cons, List.take_nil, List.drop_nil, Option.isSome_some, Nat.mul_zero, Nat.zero_mul, all_ex, all_exc, ex_ex, ex_exc, ex_btrue, pagg, allD, bin_and, bin_or, bin_xor, bin_shl, bin_shr, ints_1, ints_2, minI_2, maxI_2, buildV, fillP, dcells, dcell, List.map_append, List.cons_append, List.drop_append_of_le_length, List.take_append_of_le_length, List.getElem?_map, retP, retO, dropObs_nil, dropObs_apply, contains_cons', Bool.or_false, Bool.false_or, Bool.or_true, Bool.true_or, Nat.reduceBEq, Bool.false_eq_true, indexV, bsize, List.size_toArray, maxLen_eq, op_lookup, op_nilCheck, op_slice, op_makeFunc, op_glookup, op_gnilCheck, op_gslice, op_makeMap, op_insert, op_mapUpdate, op_mapEntry, op_entryStore, op_entry, op_range, op_next, nK_iter, nextR, rangeE, entryV, mfindS, List.getLast?_append, lookupV, nilCheckV, sliceV, boundV, makeFuncV, makeMapE, mapUpdE, mapEntE, mapStoE, plainTI, Option.map_none, lapp_nil, lapp_cons, Int.reduceToNat, Int.toNat_zero, Int.toNat_one, sK_true, sK_false, op_clip, op_clear, clipV, sliceE, clearE, bin_lnil, bin_lnil', bin_nnil, bin_nnil', ty_r, E4_r, Point.getD, Point.row, Point.d, Point.of2, Point.drows, Cell.getD, Cell.row, Cell.d, Cell.of2, Cell.drows, Band.getD, Band.row, Band.d, Band.of2, Band.drows, Place.getD, Place.row, Place.d, Place.of2, Place.drows, Link.getD, Link.row, Link.d, Link.of2, Link.drows, Town.getD, Town.row, Town.d, Town.of2, Town.drows, Shelter.getD, Shelter.row, Shelter.d, Shelter.of2, Shelter.drows, Gauge.getD, Gauge.row, Gauge.d, Gauge.of2, Gauge.drows, Road.getD, Road.row, Road.d, Road.of2, Road.drows, Basin.getD, Basin.row, Basin.d, Basin.of2, Basin.drows, Claim.getD, Claim.row, Claim.d, Claim.of2, Claim.drows, Grant.getD, Grant.row, Grant.d, Grant.of2, Grant.drows, Entry.getD, Entry.row, Entry.d, Entry.of2, Entry.drows, Report.getD, Report.row, Report.d, Report.of2, Report.drows, Triple.getD, Triple.row, Triple.d, Triple.of2, Triple.drows, Posting.getD, Posting.row, Posting.d, Posting.of2, Posting.drows, irow, srow, lrow, igetD, sgetD, lgetD, idrows, sdrows, wint, h22, h17, h13, ho13, h4, h18, h11, h19, h20, h21, hdec]
    have wn : IntKind.i64.wrap (0 - n) = -n := by rw [wrap64 (by omega) (by omega)]; omega
    simp only [hL, wn]
    simp [Named]
end Go.Proofs.Ytomnjbebgfadoaa.Pi
end
section
/- A copy of a list that is not empty, in the program.
   Conditions: none; lemmas. -/
set_option linter.unusedVariables false
set_option linter.unusedSimpArgs false
namespace Go.Proofs.Ytomnjbebgfadoaa.Pi
open Go Go.RowKit Go.Proofs
set_option maxHeartbeats 4000000
abbrev con50a : Con := .of cLE (fun l => l ≠ [] ∧ l.length ≤ 1000000) (fun l rs => rs = [.own 7 46 (l.map Entry.row)]) false
noncomputable def E50 : Env := E0.at 8 (fun d => d == 5) (fun d => d) (fun d => true)
theorem E50_ok : EnvOk E50 := E0_ok.at _ _ _ _
theorem E50_r : E50.ty = E0.ty ∧ E50.own 5 = true ∧ (∀ d, E50.key d = d) := ⟨rfl, rfl, fun _ => rfl⟩

set_option maxRecDepth 20000 in
theorem ok50a : ConOk Try.prog 50 con50a := by
  refine con_of (E := E50) E50_ok (fn := Try.f50) Try.func50 rfl (by decide) (by kernel_rfl) (rs := [.tmp 2]) rfl (by decide) (by decide) [.own 46]  (fun _ _ => ⟨_, rfl⟩) (by simp) ?_
  rintro l ⟨hne, hl⟩
  have hem : (l.map Entry.row).isEmpty = false := by cases l with | nil => exact absurd rfl hne | cons => rfl
  simp (maxSteps := 1000000) only [startP_eq, startL, List.map_cons, List.map_nil, run_skip, run_region, run_seq, run_cond, run_ret, opsK_nil, opsK_op, seqK_normal, seqK_ret, endP_ret, condK_bool, upd_apply, after_some, ev_tmp, ev_nils, St.sv, St.sc, strip, stripC, argsC, pmap_some, op_move, op_assign, on_bin, eK_some, emap_some, op_app, op_lit, lK_true, outK, outL, outM, resPs, resP, rvsOf, rvOf, sepB, ownKs, dataKs, nodupB, Option.bind_some, Option.map_some, true_and, and_true, ↓reduceIte, Nat.reduceEqDiff, reduceCtorEq, Nat.reduceLeDiff, Nat.zero_add, List.all_nil, List.nil_append, Bool.and_self, Bool.true_and, List.contains_nil, Bool.not_false, cod1_enc, and_self, Env.tk, St.obj, plainTI, newOb, List.length_nil, List.length_map, pN_bool, Nat.zero_mul, Bool.false_eq_true, plainTI, bin_lnil, ty_r, E50_r, hem, litE, lit0, appE, appR, rowsV, rowNew]
  intro b hb
  simp only [Named] at hb
  exact ⟨fun h => (by subst hb; cases h), fun _ => ⟨by omega, rfl⟩⟩
end Go.Proofs.Ytomnjbebgfadoaa.Pi
end
section
/- A copy of an empty list, in the program, by hand.
   Conditions: none; lemmas. -/
set_option linter.unusedVariables false
set_option linter.unusedSimpArgs false
namespace Go.Proofs.Ytomnjbebgfadoaa.Pi
open Go Go.RowKit Go.Proofs
set_option maxHeartbeats 4000000
theorem eql_nil (A : Option Addr) (n c : Nat) (w : World) : (binOp .eql 40 (.slice A n c) (.slice none 0 0)).run Try.prog w = .ok (.bool A.isNone) w := by
  simp [binOp, run_equal_slice_nil w 40 46 A n c Try.underlying40]
set_option maxRecDepth 100000 in
theorem clone_nil (w : World) : Calls Try.prog 50 #[.slice none 0 0] w fun e w' => e = .returned (.slice none 0 0) ∧ Below w.heap.size w w' := by
  have q := eql_nil
  go_enter Try.func50, Try.ntmps50
  go_wp2
  go_ret
  exact ⟨rfl, Below.refl _ _⟩
set_option maxRecDepth 100000 in
theorem clone_none (a : Addr) (c : Nat) (w : World) : Calls Try.prog 50 #[.slice (some a) 0 c] w fun e w' => e = .returned (.slice (some ⟨w.heap.size, 0, none⟩) 0 0) ∧ Below w.heap.size w w' ∧ w'.ownsRow w.heap.size 46 7 (.slice (some ⟨w.heap.size, 0, none⟩) 0 0) 0 [] := by
  have q := eql_nil
  go_enter Try.func50, Try.ntmps50
  go_wp2
  go_ret
  exact ⟨rfl, (Below.refl _ _).alloc (Nat.le_refl _) _, World.ownsRow_lit w #[] 0 (Nat.le_refl _) (Nat.zero_le _) rfl⟩
abbrev con50 : Con := .of cLE (fun l => l.length ≤ 1000000) (fun l rs => rs = [.own 7 46 (l.map Entry.row)]) false
theorem ok50 : ConOk Try.prog 50 con50 := by
  refine ⟨?_, fun h => (by cases h), ?_⟩
  · rintro ds ⟨l, hd, _⟩
    exact ⟨_, l, hd, rfl⟩
  rintro ds ⟨l, hd, hl⟩ w ok vs hr
  by_cases hne : l = []
  · subst hne
    have e := (cLE.iff _ _).1 hd
    subst e
    simp only [cLE, cod1, rdVals, D.rd, List.map_nil, List.length_nil] at hr
    obtain ⟨v, vs', rfl, ⟨A, c, rfl, ⟨_, hA⟩, _⟩, rfl⟩ := hr
    cases A with
    | none =>
      obtain rfl := hA rfl
      refine (clone_nil w).mono fun e w' ⟨he, hb⟩ => ⟨[.own 7 46 []], [.slice none 0 0], ⟨[], hd, rfl⟩, he, hb, by simp [ownBlks, hblk], ?_⟩
      simp only [RV.rels, RV.rel]
      exact ⟨_, [], rfl, ⟨[], World.ownsRow_nil _ _ _ _, by simp, by simp [rdVals], by simp⟩, rfl⟩
    | some a =>
      refine (clone_none a c w).mono fun e w' ⟨he, hb⟩ => ⟨[.own 7 46 []], [.slice (some ⟨w.heap.size, 0, none⟩) 0 0], ⟨[], hd, rfl⟩, he, hb.1, by simp [ownBlks, hblk], ?_⟩
      simp only [RV.rels, RV.rel]
      exact ⟨_, [], rfl, ⟨[], hb.2, by simp, by simp [rdVals], by simp⟩, rfl⟩
  · refine (ok50a.calls ds ⟨l, hd, hne, hl⟩ w ok vs hr).mono fun e w' h => ?_
    obtain ⟨rs, us, ⟨l', hd', hrs⟩, rest⟩ := h
    rw [hd] at hd'
    obtain rfl : l = l' := by simpa using hd'
    exact ⟨rs, us, ⟨l, hd, hrs⟩, rest⟩
end Go.Proofs.Ytomnjbebgfadoaa.Pi
end
section
/- Striking entries off a list of the call's own, in the program.
   Conditions: none; lemmas. -/
set_option linter.unusedVariables false
set_option linter.unusedSimpArgs false
namespace Go.Proofs.Ytomnjbebgfadoaa.Pi
open Go Go.RowKit Go.Proofs
set_option maxHeartbeats 4000000
def isD (a : Int × Int × Int × Int) : D := .fn 30 [capI a.1, capI a.2.1, capI a.2.2.1, capI a.2.2.2]
def mean (a : Int × Int × Int × Int) : Entry → Bool := meant a.1 a.2.1 a.2.2.1 a.2.2.2
def pre49 (o : Objs) (ps : List PV) (l : List Entry) (a : Int × Int × Int × Int) : Prop := ps = [.row 1 1 l.length, .fn 51 [.ref 3 1 0 0 0]] ∧ o 1 = (1, some (.row 7 46 (l.map Entry.row))) ∧ o 3 = (1, some (.box 79 [.d (isD a)])) ∧ l.length ≤ 1000000
def icon49 : ICon := ⟨fun o ps => ∃ l a, pre49 o ps l a, fun o ps o' p => ∃ l a, pre49 o ps l a ∧ ((o' = o ∧ p = .row 1 1 l.length ∧ l.filter (mean a) = l) ∨ p = .d (.lst 7 ((l.filter (mean a)).map Entry.row)))⟩
theorem eset (l : List Entry) (k : Nat) (a b c d e f g : Int) : (l.map Entry.row).set k [.int .i64 a, .int .i64 b, .int .i64 c, .int .i64 d, .int .i64 e, .int .i64 f, .int .i64 g] = (l.set k ⟨a, b, c, d, e, f, g⟩).map Entry.row := by
  rw [List.map_set]; rfl
theorem take_set_self (R : List Entry) (i : Nat) (e : Entry) (h : i < R.length) : (R.set i e).take (i + 1) = R.take i ++ [e] := by
  rw [List.take_succ_eq_append_getElem (by simpa using h)]
  have h1 : (R.set i e).take i = R.take i := by
    apply List.ext_getElem?
    intro m
    rw [List.getElem?_take, List.getElem?_take]
    split
    · rw [List.getElem?_set_ne (by omega)]
    · rfl
  rw [h1]
  simp
theorem take_filter (l : List Entry) (p : Entry → Bool) {j : Nat} (h : j < l.length) : (l.take (j + 1)).filter p = (l.take j).filter p ++ (if p (l.getD j .zero) = true then [l.getD j .zero] else []) := by
  rw [List.take_succ_eq_append_getElem h, List.filter_append]
  have : l.getD j .zero = l[j] := by simp [h]
  rw [this]
  by_cases hp : p l[j] = true <;> simp [hp]
noncomputable def E49 : Env := ((E0.add 62 con62).add 51 con51).at 42 (fun d => d == 41) (fun d => d + 490000) (fun d => true)
theorem E49_ok : EnvOk E49 := ((E0_ok.add Try.func62 rfl rfl ok62).add Try.func51 rfl rfl ok51).at _ _ _ _
theorem E49_r : E49.ty = E0.ty ∧ (E49.con 62 = some con62 ∧ E49.icon 62 = none) ∧ (E49.con 51 = some con51 ∧ E49.icon 51 = none) ∧ E49.own 38 = false ∧ E49.own 41 = true ∧ E49.fact 18 = true ∧ E49.key 7 = 490007 := ⟨rfl, ⟨rfl, rfl⟩, ⟨rfl, rfl⟩, rfl, rfl, rfl, rfl⟩

set_option maxRecDepth 20000 in
theorem iok49 : IConOk Try.prog 49 icon49 := by
  refine icon_of_run (E := E49) E49_ok (fn := Try.f49) Try.func49 rfl (by decide) (by kernel_rfl) (rs := [.tmp 4]) rfl (by decide) (by decide)  ?_ ?_
  · rintro o ps ⟨l, a, h⟩
    exact ⟨o, _, l, a, h, .inr rfl⟩
  rintro o ps ⟨l, a, rfl, ho1, ho3, hl⟩
  have hpre : pre49 o [.row 1 1 l.length, .fn 51 [.ref 3 1 0 0 0]] l a := ⟨rfl, ho1, ho3, hl⟩
  obtain ⟨day, known, owner, place⟩ := a
  simp only [isD, capI] at ho3
  simp (maxSteps := 1000000) only [startP_eq, startL, List.map_cons, List.map_nil, run_skip, run_region, run_seq, run_cond, run_block, run_ret, run_loop, opsK_nil, opsK_op, seqK_normal, seqK_ret, endP_ret, condK_bool, upd_apply, after_some, ev_tmp, ev_int, ev_nils, ev_func, St.sv, St.sc, strip, stripC, argsC, pmap_some, op_move, op_assign, on_bin, bin_add, bin_eql, op_call, iK_some, iK2_none, cK_some, cK2_some, conK_flat, snapV, snapC, keysV, keysC, packP, RV.flatP, Option.bind_some, Option.map_some, true_and, and_true, ↓reduceIte, Nat.reduceEqDiff, reduceCtorEq, Nat.zero_add, Nat.add_zero, List.append_nil, List.nil_append, List.flatMap_cons, List.flatMap_nil, of_pre, of_post, of_flat, cod1_dec, codC_dec, dLst_lst, some_ex, and_self, St.obj, pN_bool, pN_int, Nat.mul_zero, all_exc, List.cons_append, ty_r, E49_r, Entry.drows, ho1, ho3, icallInfo, callInfo, snapVs, snapV, snapRs, snapR, snapCs, snapC, dNot, dIs, Option.bind_some, Option.map_some]
  refine ⟨hl, fun x hx b hb => ?_⟩
  simp only [Named] at hb
  refine ⟨fun hbt => ?_, fun hbf => ?_⟩
  · have hx1 : x = -1 := by subst hb; simpa using hbt
    have hall : ∀ e ∈ l, meant day known owner place e = true := by
      rcases hx with ⟨_, h⟩ | ⟨k, h, _⟩
      · exact h
      · omega
    simp only [ioutK, ioutM, upd_apply, ev_tmp, St.sv, St.sc, strip, stripC, resPs, resP, packP, Option.bind_some, Option.map_some, true_and, and_true, ↓reduceIte]
    exact ⟨l, _, hpre, .inl ⟨rfl, rfl, List.filter_eq_self.2 hall⟩⟩
  obtain ⟨k, rfl, hk, hbefore, hat⟩ : ∃ k : Nat, x = (k : Int) ∧ k < l.length ∧ (∀ j : Nat, j < k → meant day known owner place (l.getD j .zero) = true) ∧ meant day known owner place (l.getD k .zero) = false := by
    rcases hx with ⟨rfl, _⟩ | h
    · subst hb; simp at hbf
    · exact h
  have hstart : l.take k = (l.take (k + 1)).filter (meant day known owner place) := by
    rw [take_filter l _ hk, hat]
    simp only [Bool.false_eq_true, if_false, List.append_nil]
    refine (List.filter_eq_self.2 fun e he => ?_).symm
    obtain ⟨i, hi, rfl⟩ := List.mem_iff_getElem.1 he
    simp only [List.length_take] at hi
    have := hbefore i (by omega)
    simpa [(by omega : i < l.length)] using this
  refine pwp_loop (fun n S => ∃ (i j : Int) (R : List Entry), 0 ≤ i ∧ i < j ∧ j ≤ (l.length : Int) ∧ n = ((l.length : Int) - j).toNat ∧ R.length = l.length ∧ R.take i.toNat = (l.take j.toNat).filter (meant day known owner place) ∧ (∀ m : Nat, j.toNat ≤ m → R.getD m .zero = l.getD m .zero) ∧ S.t 5 = .d (.int .i64 i) ∧ S.t 6 = .d (.int .i64 j) ∧ S.t 0 = .row 1 1 l.length ∧ S.t 1 = .fn 51 [.ref 3 1 0 0 0] ∧ S.o 1 = (1, some (.row 7 46 (R.map Entry.row))) ∧ S.o 3 = o 3) ((l.length : Int) - ((k : Int) + 1)).toNat ⟨k, (k : Int) + 1, l, by omega, by omega, by omega, rfl, rfl, (by rw [show ((k : Int) + 1).toNat = k + 1 by omega, Int.toNat_natCast]; exact hstart), fun _ _ => rfl, rfl, (by simp only [upd_apply, ↓reduceIte]; rw [wrap64 (by omega) (by omega)]), rfl, rfl, ho1, rfl⟩ ?_
  rintro n ⟨t, o1⟩ ⟨i, j, R, hi0, hij, hjl, hn, hRl, htake, htail, h5, h6, h0, h1, hoR, ho3'⟩
  simp only at h5 h6 h0 h1 hoR ho3'
  rw [ho3] at ho3'
  by_cases hlt : j < (l.length : Int)
  · simp (maxSteps := 1000000) only [List.map_cons, List.map_nil, run_skip, run_region, run_seq, run_cond, run_block, run_exit, run_ret, opsK_nil, opsK_op, seqK_normal, seqK_exit, blkK_normal, blkK_exit, loopK_normal, loopK_exit, endP_ret, condK_bool, upd_apply, after_some, after_none, ev_tmp, ev_int, St.sv, St.sc, strip, stripC, argsC, pK_none, pmap_some, op_move, op_assign, on_bin, op_un, op_load, op_ia, op_len, bin_add, bin_lss, unV, eK_some, emap_some, op_alloc, op_store, op_call, iK_some, iK2_none, cK_some, cK2_some, conK_flat, snapV, snapC, keysV, keysC, packP, RV.flatP, Option.bind_some, Option.map_some, true_and, and_true, ↓reduceIte, Nat.reduceEqDiff, reduceCtorEq, Nat.reduceAdd, Nat.reduceLeDiff, Nat.zero_add, Nat.add_zero, List.append_nil, List.nil_append, List.flatMap_cons, List.flatMap_nil, Bool.not_eq_true', of_pre, of_post, of_flat, cod1_dec, codC_dec, dAgg_agg, some_ex, some_ex1, and_self, Env.tk, loadV, indexAddrV, lenV, loadD, loadP, allocE, storeE, St.obj, TI.isAgg, plainTI, zpv, cellsP, refNew, newOb, setOb, cut, List.length_cons, List.length_nil, List.length_map, imp_eq, pN_bool, pN_int, lbK_true, lnK_none, lenF, List.take_succ_cons, List.take_zero, List.drop_zero, List.drop_succ_cons, List.take_nil, List.drop_nil, Nat.mul_zero, pagg, allD, dcells, dcell, List.cons_append, maxLen_eq, op_slice, sliceV, boundV, plainTI, Option.map_none, sK_true, sK_false, op_clear, sliceE, clearE, ty_r, E49_r, Entry.getD, Entry.row, Entry.of2, h5, h6, h0, h1, hoR, ho3', icallInfo, callInfo, snapVs, snapV, snapRs, snapR, snapCs, snapC, dIs, capI, Option.bind_some, Option.map_some, eset]
    intro _ y hy
    simp only [Named] at hy
    have hj2 : j.toNat < l.length := by omega
    have hRj := htail j.toNat (Nat.le_refl _)
    have htf := take_filter l (meant day known owner place) hj2
    rw [hRj]
    refine ⟨fun _ => ⟨⟨by omega, hlt⟩, by omega, fun hm => ⟨⟨hi0, by omega⟩, by omega, ?_⟩, fun hm => ?_⟩, fun h => (by subst hy; simp [hlt] at h)⟩
    · have hmt : meant day known owner place (l.getD j.toNat .zero) = true := by simpa using hm
      rw [hmt, if_pos rfl] at htf
      refine ghost_id ⟨((l.length : Int) - (j + 1)).toNat, by omega, i + 1, j + 1, R.set i.toNat (l.getD j.toNat .zero), by omega, by omega, by omega, rfl, by simpa using hRl, ?_, ?_, ?_, ?_, h0, h1, ?_, ?_⟩
      · rw [show (i + 1).toNat = i.toNat + 1 by omega, show (j + 1).toNat = j.toNat + 1 by omega, htf, ← htake, take_set_self R i.toNat _ (by omega)]
      · intro m hm2
        rw [← htail m (by omega), List.getD_eq_getElem?_getD, List.getElem?_set_ne (by omega), List.getD_eq_getElem?_getD]
      · simp only [upd_apply, Nat.reduceEqDiff, ↓reduceIte]; rw [wrap64 (by omega) (by omega)]
      · simp only [upd_apply, ↓reduceIte]; rw [wrap64 (by omega) (by omega)]
      · simp only [setOb, newOb, Nat.reduceEqDiff, ↓reduceIte, hoR]
        try rfl
      · simp only [setOb, newOb, Nat.reduceEqDiff, ↓reduceIte, ho3', ho3]
    · have hmt : meant day known owner place (l.getD j.toNat .zero) = false := by simpa using hm
      rw [hmt] at htf
      simp only [Bool.false_eq_true, if_false, List.append_nil] at htf
      refine ghost_id ⟨((l.length : Int) - (j + 1)).toNat, by omega, i, j + 1, R, by omega, by omega, by omega, rfl, hRl, ?_, fun m hm2 => htail m (by omega), h5, ?_, h0, h1, ?_, ?_⟩
      · rw [show (j + 1).toNat = j.toNat + 1 by omega, htf, htake]
      · simp only [upd_apply, ↓reduceIte]; rw [wrap64 (by omega) (by omega)]
      · simp only [setOb, newOb, Nat.reduceEqDiff, ↓reduceIte, hoR]
      · simp only [setOb, newOb, Nat.reduceEqDiff, ↓reduceIte, ho3', ho3]
  · have hdec : decide (j < (l.length : Int)) = false := by simp; omega
    simp (maxSteps := 1000000) only [List.map_cons, List.map_nil, run_skip, run_region, run_seq, run_cond, run_block, run_exit, run_ret, opsK_nil, opsK_op, seqK_normal, seqK_exit, blkK_normal, blkK_exit, loopK_normal, loopK_exit, endP_ret, condK_bool, upd_apply, after_some, after_none, ev_tmp, ev_int, St.sv, St.sc, strip, stripC, argsC, pK_none, pmap_some, op_move, op_assign, on_bin, op_un, op_load, op_ia, op_len, bin_add, bin_lss, unV, eK_some, emap_some, op_alloc, op_store, op_call, iK_some, iK2_none, cK_some, cK2_some, conK_flat, resPs, resP, snapV, snapC, keysV, keysC, packP, RV.flatP, Option.bind_some, Option.map_some, true_and, and_true, ↓reduceIte, Nat.reduceEqDiff, reduceCtorEq, Nat.reduceAdd, Nat.reduceLeDiff, Nat.zero_add, Nat.add_zero, List.append_nil, List.nil_append, List.flatMap_cons, List.flatMap_nil, Bool.not_eq_true', of_pre, of_post, of_flat, cod1_dec, codC_dec, dAgg_agg, some_ex, some_ex1, and_self, Env.tk, loadV, indexAddrV, lenV, loadD, loadP, allocE, storeE, St.obj, TI.isAgg, plainTI, zpv, cellsP, refNew, newOb, setOb, cut, List.length_cons, List.length_nil, List.length_map, imp_eq, pN_bool, pN_int, lbK_true, lnK_none, lenF, List.take_succ_cons, List.take_zero, List.drop_zero, List.drop_succ_cons, List.take_nil, List.drop_nil, Nat.mul_zero, pagg, allD, dcells, dcell, List.cons_append, maxLen_eq, op_slice, sliceV, boundV, plainTI, Option.map_none, sK_true, sK_false, op_clear, sliceE, clearE, ty_r, E49_r, Entry.getD, Entry.row, Entry.of2, ioutK, ioutM, h5, h6, h0, h1, hoR, ho3', hdec, icallInfo, callInfo, snapVs, snapV, snapRs, snapR, snapCs, snapC, dIs, capI, Option.bind_some, Option.map_some, eset]
    intro _ y hy
    simp only [Named] at hy
    have hjl2 : j.toNat = l.length := by omega
    rw [hjl2, List.take_length] at htake
    refine ⟨fun h => (by subst hy; cases h), fun _ => ⟨⟨⟨trivial, trivial⟩, hi0, by omega⟩, ⟨by omega, by omega⟩, ⟨⟨trivial, trivial⟩, Int.le_refl _, ?_, ?_⟩, ?_⟩⟩
    · simp only [Option.getD_none, Option.getD_some]; exact hi0
    · simp only [Option.getD_some, List.length_append, List.length_take, List.length_map, List.length_replicate]; omega
    · refine ⟨l, _, hpre, .inr ?_⟩
      simp only [Option.getD_none, Option.getD_some]
      have e1 : ((R.map Entry.row).take i.toNat).length = i.toNat := by simp; omega
      rw [List.take_append_of_le_length (by omega), List.take_of_length_le (by omega), ← List.map_take, htake]
      rfl
end Go.Proofs.Ytomnjbebgfadoaa.Pi
end
section
/- Accounts, in the program.
   Conditions: none; lemmas. -/
set_option linter.unusedVariables false
set_option linter.unusedSimpArgs false
namespace Go.Proofs.Ytomnjbebgfadoaa.Pi
open Go Go.RowKit Go.Proofs
set_option maxHeartbeats 4000000
def dIsF : D → Option (Int × Int × Int × Int)
  | .fn 30 [.ptr [.int .i64 a] 0, .ptr [.int .i64 b] 0, .ptr [.int .i64 c] 0, .ptr [.int .i64 d] 0] => some (a, b, c, d)
  | _ => none
theorem dIsF_iff {d : D} {n : Int × Int × Int × Int} : dIsF d = some n ↔ d = isD n := by
  constructor
  · intro h
    unfold dIsF at h
    split at h
    · simp only [Option.some.injEq] at h; subst h; rfl
    · cases h
  · rintro rfl; rfl
abbrev cCho : Cod (List Entry × Int × Int × Int × Int) := codC (fun l => .lst 7 (l.map Entry.row)) (dLst 7 Entry.of) (fun _ _ => dLst_iff Entry.iff) (cod1 isD dIsF fun _ _ => dIsF_iff)
abbrev con29 : Con := .of cCho (fun a => a.1.length ≤ 1000000) (fun a rs => rs = [.d (.lst 7 ((a.1.filter (mean a.2)).map Entry.row))]) false
abbrev con49 : ICon := icon49
theorem ok49 : IConOk Try.prog 49 con49 := iok49
theorem pre49_inj {o : Objs} {ps : List PV} {l l' : List Entry} {a a' : Int × Int × Int × Int} (h : pre49 o ps l a) (h' : pre49 o ps l' a') : l = l' ∧ a = a' := by
  obtain ⟨_, h1, h2, _⟩ := h
  obtain ⟨_, h1', h2', _⟩ := h'
  rw [h1] at h1'
  rw [h2] at h2'
  simp only [Prod.mk.injEq, Option.some.injEq, Ob.row.injEq, true_and] at h1'
  simp only [Prod.mk.injEq, Option.some.injEq, Ob.box.injEq, true_and, List.cons.injEq, PV.d.injEq, isD, capI, D.fn.injEq, D.ptr.injEq, D.int.injEq, and_true] at h2'
  refine ⟨row_inj Entry.iff h1', ?_⟩
  obtain ⟨b1, b2, b3, b4⟩ := a
  obtain ⟨c1, c2, c3, c4⟩ := a'
  simp_all
noncomputable def E29 : Env := ((E0.add 50 con50).iadd 49 con49).at 9 (fun d => false) (fun d => if d = 6 then 1 else if d = 3 then 3 else d) (fun d => true)
theorem E29_ok : EnvOk E29 := ((E0_ok.add Try.func50 rfl rfl ok50).iadd Try.func49 rfl rfl ok49).at _ _ _ _
theorem E29_r : E29.ty = E0.ty ∧ (E29.con 50 = some con50 ∧ E29.icon 50 = none) ∧ E29.icon 49 = some con49 ∧ E29.key 3 = 3 ∧ E29.key 6 = 1 := ⟨rfl, ⟨rfl, rfl⟩, rfl, rfl, rfl⟩

set_option maxRecDepth 20000 in
theorem ok29 : ConOk Try.prog 29 con29 := by
  refine con_of (E := E29) E29_ok (fn := Try.f29) Try.func29 rfl (by decide) (by kernel_rfl) (rs := [.tmp 4]) rfl (by decide) (by decide) [.data 40]  (fun _ _ => ⟨_, rfl⟩) (by simp) ?_
  rintro ⟨l, day, known, owner, place⟩ hl
  simp only at hl
  simp (maxSteps := 1000000) only [startP_eq, startL, List.map_cons, List.map_nil, run_region, run_seq, run_ret, opsK_nil, opsK_op, seqK_normal, endP_ret, upd_apply, after_some, ev_tmp, ev_nils, St.sv, St.sc, strip, stripC, argsC, pK_none, pmap_some, op_move, op_assign, eK_some, emap_some, op_box, op_call, iK_some, iK2_none, iK2_some, cK_some, cK2_some, conK_own, icallInfo_func, callInfo_func, ciK_some, snapVs_nil, snapVs_cons, outK, outL, outM, resPs, resP, rvsOf, rvOf, snapV, snapC, sepB, ownKs, dataKs, keysV, keysC, nodupB, packP, Option.bind_some, Option.map_some, true_and, and_true, ↓reduceIte, Nat.reduceEqDiff, reduceCtorEq, Nat.zero_add, Nat.add_zero, List.all_nil, List.append_nil, List.flatMap_cons, List.flatMap_nil, Bool.and_self, of_pre, of_post, of_flat, cod1_enc, cod1_dec, codC_enc, dLst_lst, some_ex, and_self, Env.tk, boxE, St.obj, cellsP, refNew, newOb, List.length_map, imp_eq, Nat.mul_zero, retP, retO, dropObs_nil, op_makeFunc, makeFuncV, ty_r, E29_r, Entry.drows, isD, capI]
  have hp : pre49 (newOb (newOb noObs 3 (Ob.box 79 [PV.d (isD (day, known, owner, place))])) 1 (Ob.row 7 46 (l.map Entry.row))) [PV.row 1 ((noObs 1).fst + 1) l.length, PV.fn 51 [PV.ref 3 ((noObs 3).fst + 1) 0 0 0]] l (day, known, owner, place) := ⟨rfl, rfl, rfl, hl⟩
  refine ⟨hl, ⟨rfl, l, _, hp⟩, fun p o' h => ?_⟩
  obtain ⟨l', a', hp', h⟩ := h
  obtain ⟨rfl, rfl⟩ := pre49_inj hp hp'
  rcases h with ⟨rfl, rfl, hf⟩ | rfl
  · simp (maxSteps := 1000000) only [strip, stripC, true_and, ↓reduceIte, Nat.reduceEqDiff, newOb, newOb]
    rw [hf]
    try rfl
  · simp (maxSteps := 1000000) only [strip, stripC, Option.bind_some, Option.map_some, and_self]
    try rfl
abbrev cAct : Cod (List Entry × Int × Int × Int × Int) := codC (fun l => .lst 7 (l.map Entry.row)) (dLst 7 Entry.of) (fun _ _ => dLst_iff Entry.iff) (codC (.int .i64) (dInt .i64) (fun _ _ => dInt_iff) cIII)
/-- The litres of the entries that are meant. -/
def accF (l : List Entry) (a : Int × Int × Int × Int) : Int := sumF (litresF (l.filter (mean a)))
abbrev con18 : Con := .of cAct (fun a => a.1.length ≤ 1000000 ∧ litR a.1) (fun a rs => rs = [.d (.int .i64 (if inR (accF a.1 (a.2.2.2.1, a.2.2.2.2, a.2.1, a.2.2.1)) = true then accF a.1 (a.2.2.2.1, a.2.2.2.2, a.2.1, a.2.2.1) else 0))]) true
noncomputable def E18 : Env := (((E0.add 27 con27).add 28 con28).add 29 con29).at 22 (fun d => false) (fun d => d) (fun d => true)
theorem E18_ok : EnvOk E18 := (((E0_ok.add Try.func27 rfl rfl ok27).add Try.func28 rfl rfl ok28).add Try.func29 rfl rfl ok29).at _ _ _ _
theorem E18_r : E18.ty = E0.ty ∧ (E18.con 27 = some con27 ∧ E18.icon 27 = none) ∧ (E18.con 28 = some con28 ∧ E18.icon 28 = none) ∧ (E18.con 29 = some con29 ∧ E18.icon 29 = none) ∧ (∀ d, E18.key d = d) := ⟨rfl, ⟨rfl, rfl⟩, ⟨rfl, rfl⟩, ⟨rfl, rfl⟩, fun _ => rfl⟩

set_option maxRecDepth 20000 in
theorem ok18 : ConOk Try.prog 18 con18 := by
  refine con_of (E := E18) E18_ok (fn := Try.f18) Try.func18 rfl (by decide) (by kernel_rfl) (rs := [.tmp 10]) rfl (by decide) (by decide) [.data 3]  (fun _ _ => ⟨_, rfl⟩) intFlat ?_
  rintro ⟨l, owner, place, day, known⟩ ⟨hl, hr⟩
  simp only at hl hr
  simp (maxSteps := 1000000) only [startP_eq, startL, List.map_cons, List.map_nil, run_region, run_seq, run_ret, opsK_nil, opsK_op, seqK_normal, endP_ret, upd_apply, after_some, ev_tmp, ev_int, ev_func, St.sv, St.sc, strip, stripC, argsC, pK_none, pmap_some, op_move, op_assign, op_ext, eK_some, emap_some, op_box, op_call, iK_some, iK2_none, cK_some, cK2_some, conK_flat, conK_own, outK, outL, outM, resPs, resP, rvsOf, rvOf, snapV, snapC, sepB, ownKs, dataKs, keysV, keysC, nodupB, packP, RV.flatP, extV, Option.bind_some, Option.map_some, true_and, and_true, ↓reduceIte, Nat.reduceEqDiff, reduceCtorEq, Nat.reduceAdd, Nat.zero_add, Nat.add_zero, List.all_nil, List.append_nil, List.nil_append, List.flatMap_cons, List.flatMap_nil, Bool.and_self, List.getElem?_cons_succ, List.getElem?_cons_zero, List.contains_nil, Bool.not_false, of_pre, of_post, of_flat, cod1_enc, cod1_dec, codC_enc, codC_dec, dLst_lst, some_ex, and_self, Env.tk, boxE, St.obj, cellsP, refNew, newOb, imp_eq, Nat.mul_zero, retP, retO, dropObs_nil, op_makeFunc, makeFuncV, ty_r, E18_r, Entry.drows, idrows, dIsF, snapVs, snapV, snapRs, snapR, snapCs, snapC, icallInfo, callInfo, Option.bind_some, Option.map_some]
  have hf : (l.filter (mean (day, known, owner, place))).length ≤ l.length := List.length_filter_le _ _
  have hf2 : (litresF (l.filter (mean (day, known, owner, place)))).length = (l.filter (mean (day, known, owner, place))).length := by simp [litresF]
  exact ⟨hl, by omega, ⟨by omega, litR_all fun e he => hr e (List.mem_filter.1 he).1⟩, rfl⟩
end Go.Proofs.Ytomnjbebgfadoaa.Pi
end
section
/- What sound reports are, in the program.
   Conditions: none; lemmas. -/
set_option linter.unusedVariables false
set_option linter.unusedSimpArgs false
namespace Go.Proofs.Ytomnjbebgfadoaa.Pi
open Go Go.RowKit Go.Proofs
set_option maxHeartbeats 4000000
abbrev cRep : Cod (Basin × List Report) := codC Basin.d (dAgg Basin.of) Basin.diff (cod1 (fun l => .lst 2 (l.map Report.row)) (dLst 2 Report.of) fun _ _ => dLst_iff Report.iff)
def soundR (b : Basin) (r : Report) : Prop := fewP (b, r.Roster, [], [], r.Supply) ∧ (∀ c ∈ r.Roster, plainC b c) ∧ (r.Roster.map (·.Id)).Nodup ∧ ∀ x ∈ r.Supply, 0 ≤ x ∧ x ≤ 1099511627776
abbrev con16 : Con := .of cRep (fun _ => True) (fun a rs => ∃ b : Bool, (b = true → a.2.length ≤ 5 ∧ ∀ r ∈ a.2, soundR a.1 r) ∧ rs = [.d (.bool b)]) true
noncomputable def E16 : Env := (((E0.add 8 con8).add 9 con9).add 10 con10).at 47 (fun d => false) (fun d => d) (fun d => true)
theorem E16_ok : EnvOk E16 := (((E0_ok.add Try.func8 rfl rfl ok8).add Try.func9 rfl rfl ok9).add Try.func10 rfl rfl ok10).at _ _ _ _
theorem E16_r : E16.ty = E0.ty ∧ (E16.con 8 = some con8 ∧ E16.icon 8 = none) ∧ (E16.con 9 = some con9 ∧ E16.icon 9 = none) ∧ (E16.con 10 = some con10 ∧ E16.icon 10 = none) ∧ E16.fact 8 = true ∧ E16.fact 45 = true ∧ (∀ d, E16.key d = d) := ⟨rfl, ⟨rfl, rfl⟩, ⟨rfl, rfl⟩, ⟨rfl, rfl⟩, rfl, rfl, fun _ => rfl⟩

set_option maxRecDepth 20000 in
theorem ok16 : ConOk Try.prog 16 con16 := by
  refine con_of (E := E16) E16_ok (fn := Try.f16) Try.func16 rfl (by decide) (by kernel_rfl) (rs := [.tmp 4]) rfl (by decide) (by decide) [.data 4]  (fun _ _ => ⟨_, false, by simp, rfl⟩) propFlat ?_
  rintro ⟨b, l⟩ _
  simp (maxSteps := 1000000) only [startP_eq, startL, List.map_cons, List.map_nil, run_region, run_seq, run_block, run_loop, opsK_nil, opsK_op, seqK_normal, upd_apply, after_some, ev_tmp, ev_int, ev_bool, St.sv, St.sc, strip, stripC, op_assign, eK_some, emap_some, op_box, true_and, ↓reduceIte, Nat.zero_add, cod1_enc, codC_enc, and_self, boxE, cellsP, refNew, ty_r, E16_r, Basin.row, Basin.d]
  refine pwp_loop (fun n S => ∃ i : Int, 0 ≤ i ∧ i ≤ (l.length : Int) ∧ n = ((l.length : Int) - i).toNat ∧ (∀ j : Nat, j < i.toNat → soundR b (l.getD j .zero)) ∧ S.t 5 = .d (.int .i64 i) ∧ S.t 1 = .d (.lst 2 (l.map Report.row)) ∧ S.t 2 = .ref 2 1 0 0 0 ∧ S.o 2 = (1, some (.box 31 (b.row.map PV.d)))) ((l.length : Int) - 0).toNat ⟨0, by omega, by omega, rfl, (by simp), rfl, rfl, rfl, rfl⟩ ?_
  rintro n ⟨t, o⟩ ⟨i, hi0, hil, hn, hall, h5, h1, h2, ho2⟩
  simp only at h5 h1 h2 ho2
  simp (maxSteps := 1000000) only [List.map_cons, List.map_nil, run_skip, run_region, run_seq, run_cond, run_block, run_exit, run_ret, opsK_nil, opsK_op, seqK_normal, seqK_exit, seqK_ret, blkK_normal, blkK_exit, blkK_ret, loopK_normal, loopK_exit, loopK_ret, endP_ret, condK_bool, upd_apply, after_some, ev_tmp, ev_int, ev_bool, ev_nils, St.sv, St.sc, strip, stripC, argsC, pK_none, pK_some, gpK_some, pmap_some, gK, gB_bool, op_move, op_assign, op_gmove, on_pick, on_bin, op_un, op_load, op_fa, op_ia, op_gun, op_gload, op_gfa, op_gia, op_len, bin_add, bin_lss, bin_leq, pick_b, unV, op_call, op_gcall, cgK_some, iK_some, iK2_none, cK_some, cK2_some, conK_flat, conK_gflat, icallInfo_func, callInfo_func, ciK_some, snapVs_nil, snapVs_cons, outK, outL, outM, resPs, resP, rvsOf, rvOf, snapV, snapC, sepB, ownKs, dataKs, keysV, keysC, nodupB, packP, RV.flatP, Option.bind_some, Option.map_some, true_implies, true_and, and_true, implies_true, ↓reduceIte, Nat.reduceEqDiff, Nat.reduceAdd, Nat.reduceLT, Nat.reduceLeDiff, Nat.zero_add, Nat.add_zero, List.all_nil, List.append_nil, List.flatMap_cons, List.flatMap_nil, Bool.and_self, List.getElem?_toArray, List.getElem?_cons_succ, List.getElem?_cons_zero, beq_false, Bool.not_eq_true', List.contains_nil, Bool.not_false, of_pre, of_post, of_flat, cod1_dec, codC_dec, dAgg_agg, dLst_lst, dRows_nil, some_ex, some_ex1, imp_self, and_self, Env.tk, loadV, fieldAddrV, indexAddrV, lenV, loadD, loadP, St.obj, TI.isAgg, List.getD_cons_zero, List.getD_cons_succ, List.length_cons, List.length_nil, List.length_map, or_true, pN_bool, pN_int, lbK_true, lnK_none, lenF, List.take_succ_cons, List.drop_zero, List.take_nil, Nat.mul_zero, all_exc, ex_exc, ex_btrue, pagg, allD, Bool.false_eq_true, maxLen_eq, ty_r, E16_r, Basin.row, Basin.of2, Claim.drows, Report.getD, Report.row, idrows, h5, h1, h2, ho2]
  intro _ y hy
  simp only [Named] at hy
  refine ⟨fun hyt => ?_, fun hyf _ z hz => ⟨z, fun hzt => ⟨?_, ?_⟩, rfl⟩⟩
  · have hlt : i < (l.length : Int) := by subst hy; simpa using hyt
    clear hy hyt
    refine ⟨⟨hi0, hlt⟩, ⟨hi0, hlt⟩, fun x hx => ⟨fun h => ⟨h, hi0, hlt⟩, fun x1 hx1 c1 hc1 => ⟨fun h => ⟨h, hi0, hlt⟩, fun x2 hx2 c2 hc2 => ⟨fun _ => ⟨false, by simp, rfl⟩, fun hc2f => ?_⟩⟩⟩⟩
    simp only [Named] at hc1 hc2
    have hs : soundR b (l.getD i.toNat .zero) := by
      have hxt : x = true := by subst hc2 hc1; revert hc2f; cases x <;> simp
      have hx1t : x1 = true := by subst hc2 hc1; revert hc2f; cases x <;> cases x1 <;> simp
      have hx2t : x2 = true := by subst hc2 hc1; revert hc2f; cases x <;> cases x1 <;> cases x2 <;> simp
      exact ⟨hx hxt, (hx1 hx1t).1, (hx1 hx1t).2, hx2 hx2t⟩
    refine ghost_id ⟨((l.length : Int) - (i + 1)).toNat, by omega, i + 1, by omega, by omega, rfl, upNext (P := fun j => soundR b (l.getD j .zero)) hi0 hall hs, ?_, h1, h2, ho2⟩
    simp only [upd_apply, ↓reduceIte]; rw [wrap64 (by omega) (by omega)]
  · simp only [Named] at hz
    have : (l.length : Int) ≤ 5 := by subst hz; simpa using hzt
    omega
  · exact upTo (z := .zero) fun j hj => hall j (by subst hy; simp at hyf; omega)
end Go.Proofs.Ytomnjbebgfadoaa.Pi
end
section
/- The course of reports, in plain numbers.
   Conditions: none; definitions and lemmas. -/
set_option linter.unusedVariables false
set_option linter.unusedSimpArgs false
namespace Go.Proofs.Ytomnjbebgfadoaa.Pi
open Go Go.RowKit Go.Proofs
set_option maxHeartbeats 4000000
def dayG (b : Basin) (r : Report) : List Grant := (dayF b.Places r.Roster r.Supply).1
/-- The entries that the i-th report brings. -/
def stepE (b : Basin) (l : List Report) (i : Nat) : List Entry :=
  if i = 0 then grantsF 5 0 (l.getD 0 .zero).Roster (dayG b (l.getD 0 .zero)) else corrF 5 i (l.getD (i - 1) .zero).Roster (l.getD i .zero).Roster (dayG b (l.getD (i - 1) .zero)) (dayG b (l.getD i .zero))
/-- The books behind i reports. -/
def booksF (b : Basin) (l : List Report) : Nat → List Entry
  | 0 => []
  | i + 1 => booksF b l i ++ stepE b l i
theorem getD_take (l : List Report) {n i : Nat} (h : i < n) : (l.take n).getD i .zero = l.getD i .zero := by
  rw [List.getD_eq_getElem?_getD, List.getD_eq_getElem?_getD, List.getElem?_take, if_pos h]
theorem stepE_take (b : Basin) (l : List Report) {n i : Nat} (h : i < n) : stepE b (l.take n) i = stepE b l i := by
  unfold stepE
  split
  · rw [getD_take l (by omega)]
  · rw [getD_take l h, getD_take l (by omega)]
/-- The first reports' books are those of the first reports alone. -/
theorem booksF_take (b : Basin) (l : List Report) {n : Nat} : ∀ {i : Nat}, i ≤ n → booksF b (l.take n) i = booksF b l i
  | 0, _ => rfl
  | i + 1, h => by rw [booksF, booksF, booksF_take b l (by omega), stepE_take b l (by omega)]
theorem entE_known {day known why : Int} {x : Triple × Int} {e : Entry} (h : e ∈ entE day known why x) : e.Known = known ∧ e.Day = day := by
  unfold entE at h
  split at h
  · cases h
  · simp only [List.mem_cons, List.not_mem_nil, or_false] at h
    rcases h with rfl | rfl <;> exact ⟨rfl, rfl⟩
theorem stepE_known (b : Basin) (l : List Report) (i : Nat) : ∀ e ∈ stepE b l i, e.Known = (i : Int) ∧ e.Day = 5 := by
  intro e he
  unfold stepE at he
  split at he
  · rename_i h0
    subst h0
    obtain ⟨x, _, hx⟩ := List.mem_flatMap.1 he
    exact entE_known hx
  · obtain ⟨x, _, hx⟩ := List.mem_flatMap.1 he
    exact entE_known hx
/-- What is known in an hour does not change. -/
theorem booksF_known (b : Basin) (l : List Report) (n : Nat) : ∀ m, n ≤ m → (booksF b l m).filter (fun e => decide (e.Known ≤ (n : Int) - 1)) = (booksF b l n).filter (fun e => decide (e.Known ≤ (n : Int) - 1)) := by
  intro m h
  obtain ⟨k, rfl⟩ := Nat.exists_eq_add_of_le h
  clear h
  induction k with
  | zero => rfl
  | succ k ih =>
    have e : n + (k + 1) = n + k + 1 := by omega
    rw [e, booksF, List.filter_append, ih]
    have : (stepE b l (n + k)).filter (fun e => decide (e.Known ≤ (n : Int) - 1)) = [] := by
      rw [List.filter_eq_nil_iff]
      intro x hx
      have := (stepE_known b l (n + k) x hx).1
      simp only [decide_eq_true_eq]
      omega
    rw [this, List.append_nil]
end Go.Proofs.Ytomnjbebgfadoaa.Pi
end
section
/- The litres of a day's grants are bounded by its supplies.
   Conditions: none; lemmas. -/
set_option linter.unusedVariables false
set_option linter.unusedSimpArgs false
namespace Go.Proofs.Ytomnjbebgfadoaa.Pi
open Go Go.RowKit Go.Proofs
set_option maxHeartbeats 4000000
def Below1 (l : List Int) (m : Int) : Prop := ∀ k : Nat, 0 ≤ l.getD k 0 ∧ l.getD k 0 ≤ m
theorem addF_small {a b : Int} (ha : 0 ≤ a) (hb : 0 ≤ b) (h : a + b ≤ 9223372036854775807) : addF a b = a + b := by
  unfold addF
  rw [wrap64 (by omega) h]
  have h1 : decide (a < 0) = false := by simp; omega
  have h2 : decide (b < 0) = false := by simp; omega
  have h3 : decide (a + b < 0) = false := by simp; omega
  simp [h1, h2, h3]
theorem reachG_nodup (pl : List Place) : ∀ (k : Nat) (p : Int) (out : List Int), out.Nodup → (reachG pl k p out).Nodup
  | 0, p, out, h => h
  | k + 1, p, out, h => by
    rw [reachG]
    split
    · rename_i hc
      have h' : (out ++ [p]).Nodup := by
        rw [List.nodup_append]
        refine ⟨h, by simp, fun a ha b hb e => ?_⟩
        simp only [List.mem_singleton] at hb
        subst hb; subst e
        exact hc.2.2 ha
      split
      · exact h'
      · exact reachG_nodup pl k _ _ h'
    · exact h
/-- Additions at places that differ. -/
theorem fill_bound {s : Int} (hs : 0 ≤ s) {m : Int} (hm : m + s ≤ 9223372036854775807) : ∀ (R : List Int) (l : List Int), R.Nodup → (∀ q ∈ R, 0 ≤ q) → (∀ k : Nat, 0 ≤ l.getD k 0 ∧ l.getD k 0 ≤ m + s ∧ ((k : Int) ∈ R → l.getD k 0 ≤ m)) → Below1 (R.foldl (addAt s) l) (m + s)
  | [], l, _, _, h => fun k => ⟨(h k).1, (h k).2.1⟩
  | q :: R, l, hn, hq, h => by
    rw [List.foldl_cons]
    simp only [List.nodup_cons] at hn
    refine fill_bound hs hm R _ hn.2 (fun q' hq' => hq q' (by simp [hq'])) fun k => ?_
    have hq0 := hq q (by simp)
    have hk := h k
    have hqk := h q.toNat
    have hin : ((q.toNat : Nat) : Int) ∈ q :: R := by rw [Int.toNat_of_nonneg hq0]; simp
    have hadd : addF (l.getD q.toNat 0) s = l.getD q.toNat 0 + s := addF_small hqk.1 hs (by have := hqk.2.2 hin; omega)
    have e : (addAt s l q).getD k 0 = if q.toNat = k ∧ k < l.length then l.getD q.toNat 0 + s else l.getD k 0 := by
      unfold addAt
      rw [hadd, List.getD_eq_getElem?_getD, List.getElem?_set]
      by_cases e1 : q.toNat = k
      · subst e1
        by_cases e2 : q.toNat < l.length
        · simp [e2]
        · simp [e2]
      · simp [e1]
    rw [e]
    split
    · rename_i hc
      have := hqk.2.2 hin
      refine ⟨by omega, by omega, fun hkR => ?_⟩
      exfalso
      apply hn.1
      rw [← hc.1, Int.toNat_of_nonneg hq0] at hkR
      exact hkR
    · exact ⟨hk.1, hk.2.1, fun hkR => hk.2.2 (by simp [hkR])⟩
theorem left_bound (pl : List Place) (sup : List Int) (hs : ∀ x ∈ sup, 0 ≤ x ∧ x ≤ 1099511627776) : ∀ i : Nat, i ≤ 1000 → Below1 (dayLeft pl sup i) ((i : Int) * 1099511627776)
  | 0, _ => fun k => by
    rw [dayLeft, List.getD_eq_getElem?_getD, List.getElem?_replicate]
    split <;> simp
  | i + 1, hi => by
    have ih := left_bound pl sup hs i (by omega)
    rw [dayLeft, dayFill]
    split
    · rename_i hc
      have hm := hs (sup.getD i 0) (by rw [List.getD_eq_getElem?_getD, List.getElem?_eq_getElem hc.1]; simp)
      have hb := fill_bound (s := sup.getD i 0) hm.1 (m := (i : Int) * 1099511627776) (by omega) (reachF pl i) (dayLeft pl sup i) (reachG_nodup pl _ _ _ (by simp)) (fun q hq => (reach_in pl i q hq).1) (fun k => ⟨(ih k).1, by have := (ih k).2; omega, fun _ => (ih k).2⟩)
      intro k
      have := hb k
      push_cast
      omega
    · intro k
      have := ih k
      push_cast
      omega
theorem leastF_each (L : List Int) : ∀ (R : List Int) (n : Int), ∀ q ∈ R, leastF L n R ≤ L.getD q.toNat 0
  | [], n, q, hq => by cases hq
  | q0 :: R, n, q, hq => by
    unfold leastF
    rw [List.foldl_cons]
    rcases List.mem_cons.1 hq with rfl | hq
    · have := leastF_le L R (if L.getD q.toNat 0 < n then L.getD q.toNat 0 else n)
      unfold leastF at this
      refine Int.le_trans this ?_
      split <;> omega
    · have := leastF_each L R (if L.getD q0.toNat 0 < n then L.getD q0.toNat 0 else n) q hq
      unfold leastF at this
      exact this
theorem sub_bound {g m : Int} (hg : 0 ≤ g) (hm : m ≤ 9223372036854775807) : ∀ (R : List Int) (l : List Int), R.Nodup → (∀ q ∈ R, 0 ≤ q) → (∀ k : Nat, 0 ≤ l.getD k 0 ∧ l.getD k 0 ≤ m ∧ ((k : Int) ∈ R → g ≤ l.getD k 0)) → Below1 (R.foldl (subAt g) l) m
  | [], l, _, _, h => fun k => ⟨(h k).1, (h k).2.1⟩
  | q :: R, l, hn, hq, h => by
    rw [List.foldl_cons]
    simp only [List.nodup_cons] at hn
    refine sub_bound hg hm R _ hn.2 (fun q' hq' => hq q' (by simp [hq'])) fun k => ?_
    have hq0 := hq q (by simp)
    have hk := h k
    have hqk := h q.toNat
    have hin : ((q.toNat : Nat) : Int) ∈ q :: R := by rw [Int.toNat_of_nonneg hq0]; simp
    have hge := hqk.2.2 hin
    have e : (subAt g l q).getD k 0 = if q.toNat = k ∧ k < l.length then l.getD q.toNat 0 - g else l.getD k 0 := by
      unfold subAt
      rw [wrap64 (by omega) (by omega), List.getD_eq_getElem?_getD, List.getElem?_set]
      by_cases e1 : q.toNat = k
      · subst e1
        by_cases e2 : q.toNat < l.length
        · simp [e2]
        · simp [e2]
      · simp [e1]
    rw [e]
    split
    · rename_i hc
      refine ⟨by omega, by omega, fun hkR => ?_⟩
      exfalso
      apply hn.1
      rw [← hc.1, Int.toNat_of_nonneg hq0] at hkR
      exact hkR
    · exact ⟨hk.1, hk.2.1, fun hkR => hk.2.2 (by simp [hkR])⟩
theorem grant_bound (pl : List Place) {L : List Int} {m : Int} (hm0 : 0 ≤ m) (h : Below1 L m) (c : Claim) : 0 ≤ dayGrant pl L c ∧ dayGrant pl L c ≤ m ∧ ∀ q ∈ reachF pl c.Place, dayGrant pl L c ≤ L.getD q.toNat 0 := by
  unfold dayGrant
  split
  · rename_i hR
    rw [hR]
    exact ⟨Int.le_refl _, hm0, by simp⟩
  · rename_i hR
    have he := leastF_each L (reachF pl c.Place) c.Rate
    split
    · refine ⟨by omega, ?_, he⟩
      obtain ⟨q, R, e⟩ := List.exists_cons_of_ne_nil hR
      have := he q (by rw [e]; simp)
      have := (h q.toNat).2
      omega
    · exact ⟨Int.le_refl _, hm0, fun q _ => (h q.toNat).1⟩
theorem days_bound (pl : List Place) {m : Int} (hm0 : 0 ≤ m) (hm : m ≤ 9223372036854775807) : ∀ (ro : List Claim) (s : List Grant × List Int), Below1 s.2 m → (∀ g ∈ s.1, 0 ≤ g.Litres ∧ g.Litres ≤ m) → ∀ g ∈ (ro.foldl (dayStep pl) s).1, 0 ≤ g.Litres ∧ g.Litres ≤ m
  | [], s, _, h => h
  | c :: ro, s, hb, h => by
    rw [List.foldl_cons]
    obtain ⟨g1, g2, g3⟩ := grant_bound pl hm0 hb c
    refine days_bound pl hm0 hm ro _ ?_ ?_
    · refine sub_bound g1 hm (reachF pl c.Place) s.2 (reachG_nodup pl _ _ _ (by simp)) (fun q hq => (reach_in pl c.Place q hq).1) fun k => ⟨(hb k).1, (hb k).2, fun hk => ?_⟩
      have := g3 k hk
      simpa using this
    · intro g hg
      simp only [dayStep] at hg
      rcases List.mem_append.1 hg with hg | hg
      · exact h g hg
      · simp only [List.mem_singleton] at hg
        subst hg
        exact ⟨g1, g2⟩
/-- A day's grants are at most what all supplies bring. -/
theorem day_bound (b : Basin) (r : Report) (h : soundR b r) : ∀ g ∈ dayG b r, 0 ≤ g.Litres ∧ g.Litres ≤ 8796093022208 := by
  obtain ⟨⟨hp, _⟩, _, _, hs⟩ := h
  simp only at hp
  have hl := left_bound b.Places r.Supply hs b.Places.length (by omega)
  refine days_bound b.Places (by omega) (by omega) r.Roster _ (fun k => ⟨(hl k).1, ?_⟩) (by simp)
  have h1 := (hl k).2
  have h8 : (b.Places.length : Int) ≤ 8 := by omega
  change (dayLeft b.Places r.Supply b.Places.length).getD k 0 ≤ _
  omega
end Go.Proofs.Ytomnjbebgfadoaa.Pi
end
section
/- Entries come in pairs that add up to nothing.
   Conditions: none; lemmas. -/
set_option linter.unusedVariables false
set_option linter.unusedSimpArgs false
namespace Go.Proofs.Ytomnjbebgfadoaa.Pi
open Go Go.RowKit Go.Proofs
set_option maxHeartbeats 4000000
theorem sumF_fold : ∀ (l : List Int) (s : Int), l.foldl (fun s n => s + n) s = s + sumF l
  | [], s => by simp [sumF]
  | n :: l, s => by
    unfold sumF
    rw [List.foldl_cons, List.foldl_cons, sumF_fold l (s + n), sumF_fold l (0 + n)]
    omega
theorem sumF_app (l l' : List Int) : sumF (l ++ l') = sumF l + sumF l' := by
  unfold sumF
  rw [List.foldl_append, sumF_fold]
  rfl
theorem pairs_zero (day known why : Int) : ∀ (L : List (Triple × Int)), (∀ x ∈ L, -9223372036854775807 ≤ x.2 ∧ x.2 ≤ 9223372036854775807) → sumF (litresF (L.flatMap (entE day known why))) = 0
  | [], _ => rfl
  | x :: L, h => by
    have hx := h x (by simp)
    have ih := pairs_zero day known why L fun y hy => h y (by simp [hy])
    rw [List.flatMap_cons]
    have e : litresF (entE day known why x ++ L.flatMap (entE day known why)) = litresF (entE day known why x) ++ litresF (L.flatMap (entE day known why)) := by simp [litresF]
    rw [e, sumF_app, ih]
    have : sumF (litresF (entE day known why x)) = 0 := by
      unfold entE
      split
      · rfl
      · simp only [litresF, List.map_cons, List.map_nil, sumF, List.foldl_cons, List.foldl_nil]
        rw [wrap64 (by omega) (by omega)]
        omega
    omega
end Go.Proofs.Ytomnjbebgfadoaa.Pi
end
section
/- What a triple has is bounded by the grants.
   Conditions: none; lemmas. -/
set_option linter.unusedVariables false
set_option linter.unusedSimpArgs false
namespace Go.Proofs.Ytomnjbebgfadoaa.Pi
open Go Go.RowKit Go.Proofs
set_option maxHeartbeats 4000000
theorem contr_bound {ro : List Claim} {t : Triple} {g : Grant} {m : Int} (hm : 0 ≤ m) (h : 0 ≤ g.Litres ∧ g.Litres ≤ m) : 0 ≤ contr ro t g ∧ contr ro t g ≤ m := by
  unfold contr
  split
  · split
    · omega
    · split <;> omega
  · omega
theorem sumC_bound (ro : List Claim) (t : Triple) {m : Int} (hm : 0 ≤ m) : ∀ (G : List Grant), (∀ g ∈ G, 0 ≤ g.Litres ∧ g.Litres ≤ m) → 0 ≤ sumC ro t G ∧ sumC ro t G ≤ G.length * m
  | [], _ => by simp [sumC]
  | g :: G, h => by
    have h1 := contr_bound (ro := ro) (t := t) hm (h g (by simp))
    have h2 := sumC_bound ro t hm G fun g' hg' => h g' (by simp [hg'])
    rw [sumC, List.length_cons]
    have e : ((G.length + 1 : Nat) : Int) * m = G.length * m + m := by
      push_cast
      rw [Int.add_mul, Int.one_mul]
    rw [e]
    omega
/-- The litres of corrections: at most 2^46. -/
theorem corr_bound {was now : List Claim} {old gr : List Grant} (ho : old.length ≤ 8) (hg : gr.length ≤ 8) (h1 : ∀ g ∈ old, 0 ≤ g.Litres ∧ g.Litres ≤ 8796093022208) (h2 : ∀ g ∈ gr, 0 ≤ g.Litres ∧ g.Litres ≤ 8796093022208) : ∀ x ∈ corrL was now old gr, -70368744177664 ≤ x.2 ∧ x.2 ≤ 70368744177664 := by
  intro x hx
  have e := get_mem (corr_nodup was now old gr) hx
  rw [corr_get] at e
  have a1 := sumC_bound now x.1 (by omega) gr h2
  have a2 := sumC_bound was x.1 (by omega) old h1
  have b1 : (gr.length : Int) ≤ 8 := by omega
  have b2 : (old.length : Int) ≤ 8 := by omega
  rw [wrap64 (by omega) (by omega)] at e
  omega
end Go.Proofs.Ytomnjbebgfadoaa.Pi
end
section
/- Entries of corrections are right.
   Conditions: none; lemmas. -/
set_option linter.unusedVariables false
set_option linter.unusedSimpArgs false
namespace Go.Proofs.Ytomnjbebgfadoaa.Pi
open Go Go.RowKit Go.Proofs
set_option maxHeartbeats 4000000
theorem touch_mem {ro : List Claim} {g : Grant} {t : Triple} (h : touch ro g = some t) : ∃ c ∈ ro, t = ⟨c.Id, c.Owner, c.Place⟩ := by
  unfold touch at h
  split at h
  · rename_i c hc
    split at h
    · cases h
    · simp only [Option.some.injEq] at h
      exact ⟨c, List.mem_of_find?_eq_some hc, h.symm⟩
  · cases h
theorem corr_keys {was now : List Claim} {old gr : List Grant} : ∀ x ∈ corrL was now old gr, ∃ c, (c ∈ now ∨ c ∈ was) ∧ x.1 = ⟨c.Id, c.Owner, c.Place⟩ := by
  intro x hx
  have hk : x.1 ∈ (corrL was now old gr).map (·.1) := List.mem_map_of_mem hx
  rw [corrL, keys_in, keys_in] at hk
  rcases hk with (h | ⟨g, _, h⟩) | ⟨g, _, h⟩
  · simp at h
  · obtain ⟨c, hc, e⟩ := touch_mem h
    exact ⟨c, .inl hc, e⟩
  · obtain ⟨c, hc, e⟩ := touch_mem h
    exact ⟨c, .inr hc, e⟩
theorem ent_right {b : Basin} {known why : Int} {x : Triple × Int} {c : Claim} (hc : plainC b c) (ho : b.Owners.length ≤ 4) (hp : b.Places.length ≤ 8) (hx : x.1 = ⟨c.Id, c.Owner, c.Place⟩) (hb : -70368744177664 ≤ x.2 ∧ x.2 ≤ 70368744177664) (hk : 0 ≤ known ∧ known ≤ 16777216) (hw : 0 ≤ why ∧ why ≤ 3) : ∀ e ∈ entE 5 known why x, rightE e := by
  intro e he
  unfold plainC at hc
  unfold entE at he
  split at he
  · cases he
  · simp only [List.mem_cons, List.not_mem_nil, or_false, hx] at he
    rcases he with rfl | rfl
    · unfold rightE
      simp only
      omega
    · unfold rightE
      simp only
      rw [wrap64 (by omega) (by omega)]
      omega
end Go.Proofs.Ytomnjbebgfadoaa.Pi
end
section
/- The sizes of entries, added.
   Conditions: none; lemmas. -/
set_option linter.unusedVariables false
set_option linter.unusedSimpArgs false
namespace Go.Proofs.Ytomnjbebgfadoaa.Pi
open Go Go.RowKit Go.Proofs
set_option maxHeartbeats 4000000
theorem absF_bound {m : Int} (hm : 0 ≤ m) : ∀ (l : List Int) (s : Int), (∀ x ∈ l, -m ≤ x ∧ x ≤ m) → absF l s ≤ s + l.length * m
  | [], s, _ => by simp [absF]
  | n :: l, s, h => by
    have h1 := h n (by simp)
    have ih := absF_bound hm l (s + if n < 0 then -n else n) fun x hx => h x (by simp [hx])
    unfold absF at ih ⊢
    rw [List.foldl_cons, List.length_cons]
    have e : ((l.length + 1 : Nat) : Int) * m = l.length * m + m := by
      push_cast
      rw [Int.add_mul, Int.one_mul]
    rw [e]
    refine Int.le_trans ih ?_
    split <;> omega
theorem flat_length2 (day known why : Int) : ∀ L : List (Triple × Int), (L.flatMap (entE day known why)).length ≤ 2 * L.length
  | [] => by simp
  | x :: L => by
    rw [List.flatMap_cons, List.length_append, List.length_cons]
    have := flat_length2 day known why L
    have h2 : (entE day known why x).length ≤ 2 := by
      unfold entE
      split <;> simp
    omega
theorem corrL_len (was now : List Claim) (old gr : List Grant) : (corrL was now old gr).length ≤ gr.length + old.length := by
  have h1 := addAll now 1 gr [] (by simp)
  have h2 := (addAll was (-1) old _ h1.1).2
  have h3 := h1.2
  simp only [List.length_nil] at h3
  unfold corrL
  omega
end Go.Proofs.Ytomnjbebgfadoaa.Pi
end
section
/- The entries of one report of a course.
   Conditions: none; lemmas. -/
set_option linter.unusedVariables false
set_option linter.unusedSimpArgs false
namespace Go.Proofs.Ytomnjbebgfadoaa.Pi
open Go Go.RowKit Go.Proofs
set_option maxHeartbeats 4000000
def stepL (b : Basin) (l : List Report) (i : Nat) : List (Triple × Int) :=
  if i = 0 then corrL [] (l.getD 0 .zero).Roster [] (dayG b (l.getD 0 .zero)) else corrL (l.getD (i - 1) .zero).Roster (l.getD i .zero).Roster (dayG b (l.getD (i - 1) .zero)) (dayG b (l.getD i .zero))
theorem stepE_eq (b : Basin) (l : List Report) (i : Nat) : stepE b l i = (stepL b l i).flatMap (entE 5 (i : Int) (if i = 0 then 0 else 1)) := by
  unfold stepE stepL
  split
  · rename_i h; subst h; rfl
  · rfl
theorem dayG_len {b : Basin} {r : Report} (h : soundR b r) : (dayG b r).length ≤ 8 := by
  have hG := dayF_len b.Places r.Roster ([], dayLeft b.Places r.Supply b.Places.length)
  change (dayG b r).length = 0 + r.Roster.length at hG
  have := h.1.2.2.1
  simp only at this
  omega
theorem getD_sound {b : Basin} {l : List Report} (h : ∀ r ∈ l, soundR b r) {i : Nat} (hi : i < l.length) : soundR b (l.getD i .zero) := by
  refine h _ ?_
  rw [List.getD_eq_getElem?_getD, List.getElem?_eq_getElem hi]
  simp
theorem stepL_ok {b : Basin} {l : List Report} (h : ∀ r ∈ l, soundR b r) {i : Nat} (hi : i < l.length) : (stepL b l i).length ≤ 16 ∧ ∀ x ∈ stepL b l i, (-70368744177664 ≤ x.2 ∧ x.2 ≤ 70368744177664) ∧ ∃ c, plainC b c ∧ x.1 = ⟨c.Id, c.Owner, c.Place⟩ := by
  unfold stepL
  split
  · have hs := getD_sound h (i := 0) (by omega)
    have h1 := corrL_len [] (l.getD 0 .zero).Roster [] (dayG b (l.getD 0 .zero))
    have h2 := dayG_len hs
    refine ⟨by simp only [List.length_nil] at h1; omega, fun x hx => ⟨corr_bound (by simp) h2 (by simp) (day_bound b _ hs) x hx, ?_⟩⟩
    obtain ⟨c, hc, e⟩ := corr_keys x hx
    rcases hc with hc | hc
    · exact ⟨c, hs.2.1 c hc, e⟩
    · cases hc
  · have hs := getD_sound h hi
    have hs' := getD_sound h (i := i - 1) (by omega)
    have h1 := corrL_len (l.getD (i - 1) .zero).Roster (l.getD i .zero).Roster (dayG b (l.getD (i - 1) .zero)) (dayG b (l.getD i .zero))
    have h2 := dayG_len hs
    have h3 := dayG_len hs'
    refine ⟨by omega, fun x hx => ⟨corr_bound h3 h2 (day_bound b _ hs') (day_bound b _ hs) x hx, ?_⟩⟩
    obtain ⟨c, hc, e⟩ := corr_keys x hx
    rcases hc with hc | hc
    · exact ⟨c, hs.2.1 c hc, e⟩
    · exact ⟨c, hs'.2.1 c hc, e⟩
end Go.Proofs.Ytomnjbebgfadoaa.Pi
end
section
/- The entries of one report are right, and add up to nothing.
   Conditions: none; lemmas. -/
set_option linter.unusedVariables false
set_option linter.unusedSimpArgs false
namespace Go.Proofs.Ytomnjbebgfadoaa.Pi
open Go Go.RowKit Go.Proofs
set_option maxHeartbeats 4000000
theorem stepE_ok {b : Basin} {l : List Report} (h : ∀ r ∈ l, soundR b r) (h5 : l.length ≤ 5) {i : Nat} (hi : i < l.length) : (stepE b l i).length ≤ 32 ∧ sumF (litresF (stepE b l i)) = 0 ∧ ∀ e ∈ stepE b l i, rightE e ∧ (-70368744177664 ≤ e.Litres ∧ e.Litres ≤ 70368744177664) := by
  obtain ⟨h1, h2⟩ := stepL_ok h hi
  rw [stepE_eq]
  have hb := h _ (List.getElem_mem (by omega : 0 < l.length))
  have ho := hb.1.2.1
  have hp := hb.1.1
  simp only at ho hp
  refine ⟨?_, pairs_zero _ _ _ _ fun x hx => ?_, fun e he => ?_⟩
  · have := flat_length2 5 (i : Int) (if i = 0 then 0 else 1) (stepL b l i)
    omega
  · have := (h2 x hx).1
    omega
  · obtain ⟨x, hx, hex⟩ := List.mem_flatMap.1 he
    obtain ⟨hbd, c, hc, hk⟩ := h2 x hx
    refine ⟨ent_right hc ho hp hk hbd ⟨by omega, by omega⟩ (by split <;> omega) e hex, ?_⟩
    unfold entE at hex
    split at hex
    · cases hex
    · simp only [List.mem_cons, List.not_mem_nil, or_false] at hex
      rcases hex with rfl | rfl
      · exact hbd
      · simp only
        rw [wrap64 (by omega) (by omega)]
        omega
end Go.Proofs.Ytomnjbebgfadoaa.Pi
end
section
/- Every posting of a course is accepted.
   Conditions: none; lemmas. -/
set_option linter.unusedVariables false
set_option linter.unusedSimpArgs false
namespace Go.Proofs.Ytomnjbebgfadoaa.Pi
open Go Go.RowKit Go.Proofs
set_option maxHeartbeats 4000000
theorem books_ok {b : Basin} {l : List Report} (h : ∀ r ∈ l, soundR b r) (h5 : l.length ≤ 5) : ∀ {i : Nat}, i ≤ l.length → (booksF b l i).length ≤ 32 * i ∧ ∀ e ∈ booksF b l i, e.Known < (i : Int) ∧ (-70368744177664 ≤ e.Litres ∧ e.Litres ≤ 70368744177664)
  | 0, _ => by simp [booksF]
  | i + 1, hi => by
    have ih := books_ok h h5 (i := i) (by omega)
    have hs := stepE_ok h h5 (i := i) (by omega)
    rw [booksF]
    refine ⟨by rw [List.length_append]; omega, fun e he => ?_⟩
    rcases List.mem_append.1 he with he | he
    · have := ih.2 e he
      exact ⟨by push_cast; omega, this.2⟩
    · have := (stepE_known b l i e he).1
      exact ⟨by push_cast; omega, (hs.2.2 e he).2⟩
theorem post_ok {b : Basin} {l : List Report} (h : ∀ r ∈ l, soundR b r) (h5 : l.length ≤ 5) {i : Nat} (hi : i < l.length) (hne : stepE b l i ≠ []) : postOk (booksF b l i) (stepE b l i) := by
  obtain ⟨b1, b2⟩ := books_ok h h5 (i := i) (by omega)
  obtain ⟨s1, s2, s3⟩ := stepE_ok h h5 hi
  have hk := stepE_known b l i
  have h0 : (stepE b l i).getD 0 .zero ∈ stepE b l i := by
    cases he : stepE b l i with
    | nil => exact absurd he hne
    | cons x xs => simp
  have hk0 := hk _ h0
  refine ⟨by omega, by omega, hne, s2, fun x hx => ⟨(s3 x hx).1, ?_, ?_⟩, fun x hx => ?_, fun x hx => ?_, ?_⟩
  · rw [(hk x hx).2, hk0.2]
  · rw [(hk x hx).1, hk0.1]
  · have := (b2 x hx).1
    rw [hk0.1]; omega
  · have := (b2 x hx).2
    omega
  · have e1 := absF_bound (m := 70368744177664) (by omega) (litresF (booksF b l i)) 0 fun x hx => by
      obtain ⟨y, hy, rfl⟩ := List.mem_map.1 hx
      exact (b2 y hy).2
    have e2 := absF_bound (m := 70368744177664) (by omega) (litresF (stepE b l i)) (absF (litresF (booksF b l i)) 0) fun x hx => by
      obtain ⟨y, hy, rfl⟩ := List.mem_map.1 hx
      exact (s3 y hy).2
    have l1 : (litresF (booksF b l i)).length = (booksF b l i).length := by simp [litresF]
    have l2 : (litresF (stepE b l i)).length = (stepE b l i).length := by simp [litresF]
    change absF (litresF (stepE b l i)) (absF (litresF (booksF b l i)) 0) ≤ _
    rw [l1] at e1
    rw [l2] at e2
    omega
end Go.Proofs.Ytomnjbebgfadoaa.Pi
end
