/- SettleSame returns true for every input.
   Conditions: none. -/
import Derived.Test.YtomnjbebgfadoaaRows
import Derived.Test.YtomnjbebgfadoaaC1
import Derived.Test.YtomnjbebgfadoaaShapes
import Derived.WalkKit
import Derived.ProofKit
import Derived.OpenShut
import Derived.ShutString
import Derived.ChangeOld
import Derived.Below
import Derived.Carry
import Derived.SizedLaws
set_option linter.unusedVariables false
set_option linter.unusedSimpArgs false
namespace Go.Proofs.Ytomnjbebgfadoaa.Pi
open Go Go.RowKit Go.Proofs
open Go.ChangeShapes Go.WideShapes Go.ChangeAt
set_option maxRecDepth 100000
theorem own : ownKnob Try.prog.godebug = none := by kernel_rfl
theorem laidOut : laidOutB Try.prog = true := by kernel_rfl
theorem sh31 : shOf Try.prog 12 31 = some Basin.sh := by kernel_rfl
theorem sh32 : shOf Try.prog 12 32 = some [.lst 9 Claim.sh] := by kernel_rfl
theorem sh29 : shOf Try.prog 12 29 = some [.lst 1 [.int .i64]] := by kernel_rfl
theorem sh3 : shOf Try.prog 12 3 = some [.int .i64] := by kernel_rfl
theorem rels_true {w : World} {ok : Nat → Prop} {base : Nat} {us : List Value} (h : RV.rels w ok base [.d (.bool true)] us) : us = [.bool true] := by
  simp only [RV.rels, RV.rel, D.rd] at h
  obtain ⟨v, vs, rfl, rfl, rfl⟩ := h
  rfl
section
variable {H : Type} {enc : TypeId × Value → H} {w : World} {base : Nat} {spare : Nat → Bool} {held : Bool} {d : DataW H} {ps : List MemPlace} {v : Value} {r : Reach}
theorem get31 {b0 : Nat} (hv : Value.okWide Try.prog w r b0 31 v) (h : DataW.Trod enc Try.prog w base spare held 31 v d ps) : ∃ b : Basin, (Basin.d b).rd w (fun _ => True) v := by
  simp only [Value.okWide, Try.underlying31] at hv
  obtain ⟨cs, rfl, _⟩ := hv
  obtain ⟨xs, h1, h2⟩ := arg_agg sh31 h
  obtain ⟨b, hb⟩ := Basin.got _ h1
  rw [(Basin.iff _ _).1 hb] at h2
  exact ⟨b, h2⟩
theorem get32 {b0 : Nat} (hv : Value.okWide Try.prog w r b0 32 v) (h : DataW.Trod enc Try.prog w base spare held 32 v d ps) : ∃ l : List Claim, (D.lst 9 (l.map Claim.row)).rd w (fun _ => True) v := by
  obtain ⟨a, len, cap, rfl⟩ := okWide_slice Try.underlying32 hv
  obtain ⟨x, h1, h2⟩ := arg_one sh32 h (fun cs => by simp)
  obtain ⟨l, hl⟩ := got_lst Claim.got h1
  rw [(dLst_iff Claim.iff).1 hl] at h2
  exact ⟨l, h2⟩
theorem get29 {b0 : Nat} (hv : Value.okWide Try.prog w r b0 29 v) (h : DataW.Trod enc Try.prog w base spare held 29 v d ps) : ∃ l : List Int, (D.lst 1 (l.map irow)).rd w (fun _ => True) v := by
  obtain ⟨a, len, cap, rfl⟩ := okWide_slice Try.underlying29 hv
  obtain ⟨x, h1, h2⟩ := arg_one sh29 h (fun cs => by simp)
  obtain ⟨l, hl⟩ := got_lst (fun _ h => got_i h) h1
  rw [(dLst_iff iof_iff).1 hl] at h2
  exact ⟨l, h2⟩
theorem getI {b0 : Nat} (hv : Value.okWide Try.prog w r b0 3 v) (h : DataW.Trod enc Try.prog w base spare held 3 v d ps) : ∃ n : Int, (D.int .i64 n).rd w (fun _ => True) v := by
  have h0 := h
  obtain ⟨n, rfl, _, _, _⟩ := open_int Try.underlying3 hv h0
  exact ⟨n, by simp only [D.rd]⟩
end
theorem back {H : Type} {enc : TypeId × Value → H} {t : TypeId} (hr : Try.prog.readableRec t = true) (hrow : t < Try.prog.types.size) {W W' : World} {v : Value} {d : DataW H} {ps : List MemPlace} (h : DataW.Trod enc Try.prog W 0 (fun _ => true) true t v d ps) (hb : Below W.heap.size W W') :
    DataW.Trod enc Try.prog W' 0 (fun b => decide (b < W.heap.size)) true t v d ps :=
  Below.trod laidOut hr hrow h hb (by obtain ⟨m, hm⟩ := h; exact DataW.trod_lt m _ _ _ hm)
def zeroBasin : Value := .agg #[.string ByteArray.empty, .slice none 0 0, .int .i64 0, .slice none 0 0, .slice none 0 0, .slice none 0 0, .slice none 0 0, .slice none 0 0, .slice none 0 0, .slice none 0 0, .int .i64 0]
set_option maxRecDepth 100000 in
theorem sameLifted (os : Os) (started : os.Started) (H : Type) (enc : TypeId × Value → H) :
    ReturnsInHanded {} Try.checked os 3 .any (Rows.settleSameSpec.pre6 enc Try.prog Try.f3 Rows.settleSameRow.domain false) (Rows.settleSameSpec.post enc Try.prog Try.f3 false true false false) := by
  refine returnsInHanded_of_change (C := Try.checked) own started (by kernel_rfl) Try.func3
    (ChangeSpec.witness6 (enc := enc) (C := Try.checked) false ⟨#[], #[zeroBasin, .slice none 0 0, .slice none 0 0, .int .i64 0, .int .i64 0], []⟩ 8 (by kernel_rfl) (by kernel_rfl) (by kernel_rfl) (by kernel_rfl)) ?_
  intro W base args ds gs before hval0 hW hcnd _
  have hval : ∀ (j : Nat) t v, Try.f3.params[j]? = some t → args[j]? = some v → Value.okWide Try.prog W .any base t v := hval0
  have hW' := hW
  obtain ⟨p, q, hA0, hV, rfl, hfz, hnd⟩ := hW
  have hA : DataW.TrodAll enc Try.prog W 0 (fun _ => true) true Try.f3.params.toList args.toList ds p := hA0
  rw [Try.params3] at hA hval
  obtain ⟨v0, vs0, d0, ds0, p0, q0, hargs, rfl, rfl, h0, r0⟩ := trodAll_cons hA
  obtain ⟨v1, vs1, d1, ds1, p1, q1, rfl, rfl, rfl, h1, r1⟩ := trodAll_cons r0
  obtain ⟨v2, vs2, d2, ds2, p2, q2, rfl, rfl, rfl, h2, r2⟩ := trodAll_cons r1
  obtain ⟨v3, vs3, d3, ds3, p3, q3, rfl, rfl, rfl, h3, r3⟩ := trodAll_cons r2
  obtain ⟨v4, vs4, d4, ds4, p4, q4, rfl, rfl, rfl, h4, r4⟩ := trodAll_cons r3
  obtain ⟨rfl, rfl, rfl⟩ := trodAll_nil r4
  obtain rfl : args = #[v0, v1, v2, v3, v4] := by cases args; simp_all
  obtain ⟨rfl, rfl⟩ := trodVars_none hV
  obtain ⟨b, g0⟩ := get31 (hval 0 31 v0 rfl rfl) h0
  obtain ⟨ro, g1⟩ := get32 (hval 1 32 v1 rfl rfl) h1
  obtain ⟨sup, g2⟩ := get29 (hval 2 29 v2 rfl rfl) h2
  obtain ⟨day, g3⟩ := getI (hval 3 3 v3 rfl rfl) h3
  obtain ⟨known, g4⟩ := getI (hval 4 3 v4 rfl rfl) h4
  clear hA0 hval0
  have hc := ok3.calls (cSame.enc (b, ro, sup, day, known)) ⟨(b, ro, sup, day, known), (cSame.iff _ _).2 rfl, trivial⟩ W (fun _ => True) [v0, v1, v2, v3, v4] ⟨v0, _, rfl, g0, v1, _, rfl, g1, v2, _, rfl, g2, v3, _, rfl, g3, v4, _, rfl, g4, rfl⟩
  refine hc.mono fun e W' ⟨rs, us, ⟨a, _, hrs⟩, he, bel, _, hrel⟩ => ?_
  subst hrs
  obtain rfl := rels_true hrel
  subst he
  exact ⟨_, rfl, _, _, _, [], _, [], hW', trodAll_mk1 (shut_bool Try.underlying4 _), trodAll_cons_mk (back (by kernel_rfl) (of_decide_eq_true (by kernel_rfl)) h0 bel) (trodAll_cons_mk (back (by kernel_rfl) (of_decide_eq_true (by kernel_rfl)) h1 bel) (trodAll_cons_mk (back (by kernel_rfl) (of_decide_eq_true (by kernel_rfl)) h2 bel) (trodAll_cons_mk (back (by kernel_rfl) (of_decide_eq_true (by kernel_rfl)) h3 bel) (trodAll_cons_mk (back (by kernel_rfl) (of_decide_eq_true (by kernel_rfl)) h4 bel) trodAll_mk0)))), rfl, bel.frame _, fun h => by cases h⟩
theorem settleSame_holds : Rows.SettleSameSaid :=
  OpenClaim.holds_of_wide 3 Try.f3 rfl rfl rfl rfl rfl rfl rfl ⟨rfl, rfl, rfl, rfl, rfl⟩ rfl rfl rfl rfl rfl (by kernel_rfl) Try.func3 (by kernel_rfl)
    (of_decide_eq_true (by kernel_rfl)) (by unfold Func.isWrapper; first | (rw [if_pos (by decide +kernel)]; kernel_rfl) | (rw [if_neg (by decide +kernel)]; exact ⟨rfl, rfl⟩))
    (fun os started H enc _ => sameLifted os started H enc)
end Go.Proofs.Ytomnjbebgfadoaa.Pi
#print axioms Go.Proofs.Ytomnjbebgfadoaa.Pi.settleSame_holds
