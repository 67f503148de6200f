/- SettleCorrects returns true for every input.
   Conditions: none. -/
import Derived.Test.YtomnjbebgfadoaaG6
set_option linter.unusedVariables false
set_option linter.unusedSimpArgs false
namespace Go.Proofs.Ytomnjbebgfadoaa.Pi
open Go Go.RowKit Go.Proofs
open Go.ChangeShapes Go.WideShapes Go.ChangeAt
set_option maxRecDepth 100000
set_option maxRecDepth 100000 in
theorem correctsLifted (os : Os) (started : os.Started) (H : Type) (enc : TypeId × Value → H) :
    ReturnsInHanded {} Try.checked os 6 .any (Rows.settleCorrectsSpec.pre6 enc Try.prog Try.f6 Rows.settleCorrectsRow.domain false) (Rows.settleCorrectsSpec.post enc Try.prog Try.f6 false true false false) := by
  refine returnsInHanded_of_change (C := Try.checked) own started (by kernel_rfl) Try.func6
    (ChangeSpec.witness6 (enc := enc) (C := Try.checked) false ⟨#[], #[zeroBasin, .slice none 0 0], []⟩ 8 (by kernel_rfl) (by kernel_rfl) (by kernel_rfl) (by kernel_rfl)) ?_
  intro W base args ds gs before hval0 hW hcnd _
  have hval : ∀ (j : Nat) t v, Try.f6.params[j]? = some t → args[j]? = some v → Value.okWide Try.prog W .any base t v := hval0
  have hW' := hW
  obtain ⟨p, q, hA0, hV, rfl, hfz, hnd⟩ := hW
  have hA : DataW.TrodAll enc Try.prog W 0 (fun _ => true) true Try.f6.params.toList args.toList ds p := hA0
  rw [Try.params6] at hA hval
  obtain ⟨v0, vs0, d0, ds0, p0, q0, hargs, rfl, rfl, h0, r0⟩ := trodAll_cons hA
  obtain ⟨v1, vs1, d1, ds1, p1, q1, rfl, rfl, rfl, h1, r1⟩ := trodAll_cons r0
  obtain ⟨rfl, rfl, rfl⟩ := trodAll_nil r1
  obtain rfl : args = #[v0, v1] := by cases args; simp_all
  obtain ⟨rfl, rfl⟩ := trodVars_none hV
  obtain ⟨b, g0⟩ := get31 (hval 0 31 v0 rfl rfl) h0
  obtain ⟨l, g1⟩ := get51 (hval 1 51 v1 rfl rfl) h1
  clear hA0 hval0
  have hc := ok6.calls (cRep.enc (b, l)) ⟨(b, l), (cRep.iff _ _).2 rfl, trivial⟩ W (fun _ => True) [v0, v1] ⟨v0, _, rfl, g0, v1, _, rfl, g1, rfl⟩
  refine hc.mono fun e W' ⟨rs, us, ⟨a, _, hrs⟩, he, bel, _, hrel⟩ => ?_
  subst hrs
  obtain rfl := rels_true hrel
  subst he
  exact ⟨_, rfl, _, _, _, [], _, [], hW', trodAll_mk1 (shut_bool Try.underlying4 _), trodAll_cons_mk (back (by kernel_rfl) (of_decide_eq_true (by kernel_rfl)) h0 bel) (trodAll_cons_mk (back (by kernel_rfl) (of_decide_eq_true (by kernel_rfl)) h1 bel) trodAll_mk0), rfl, bel.frame _, fun h => by cases h⟩
theorem settleCorrects_holds : Rows.SettleCorrectsSaid :=
  OpenClaim.holds_of_wide 6 Try.f6 rfl rfl rfl rfl rfl rfl rfl ⟨rfl, rfl, rfl, rfl, rfl⟩ rfl rfl rfl rfl rfl (by kernel_rfl) Try.func6 (by kernel_rfl)
    (of_decide_eq_true (by kernel_rfl)) (by unfold Func.isWrapper; first | (rw [if_pos (by decide +kernel)]; kernel_rfl) | (rw [if_neg (by decide +kernel)]; exact ⟨rfl, rfl⟩))
    (fun os started H enc _ => correctsLifted os started H enc)
end Go.Proofs.Ytomnjbebgfadoaa.Pi
#print axioms Go.Proofs.Ytomnjbebgfadoaa.Pi.settleCorrects_holds
