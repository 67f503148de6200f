/- What the arguments of the statements read as.
   Conditions: none; lemmas. -/
import Derived.Test.YtomnjbebgfadoaaRows
import Derived.Test.YtomnjbebgfadoaaA1
import Derived.Test.YtomnjbebgfadoaaShapes
import Derived.WalkKit
import Derived.ProofKit
import Derived.OpenShut
import Derived.ShutString
import Derived.ChangeOld
import Derived.Below
import Derived.Carry
import Derived.SizedLaws
set_option linter.unusedVariables false
set_option linter.unusedSimpArgs false
namespace Go.Proofs.Ytomnjbebgfadoaa.Pi
open Go Go.RowKit Go.Proofs
open Go.ChangeShapes Go.WideShapes Go.ChangeAt
set_option maxRecDepth 100000
theorem own : ownKnob Try.prog.godebug = none := by kernel_rfl
theorem laidOut : laidOutB Try.prog = true := by kernel_rfl
theorem sh31 : shOf Try.prog 12 31 = some Basin.sh := by kernel_rfl
theorem sh32 : shOf Try.prog 12 32 = some [.lst 9 Claim.sh] := by kernel_rfl
theorem sh29 : shOf Try.prog 12 29 = some [.lst 1 [.int .i64]] := by kernel_rfl
theorem sh3 : shOf Try.prog 12 3 = some [.int .i64] := by kernel_rfl
theorem rels_true {w : World} {ok : Nat → Prop} {base : Nat} {us : List Value} (h : RV.rels w ok base [.d (.bool true)] us) : us = [.bool true] := by
  simp only [RV.rels, RV.rel, D.rd] at h
  obtain ⟨v, vs, rfl, rfl, rfl⟩ := h
  rfl
section
variable {H : Type} {enc : TypeId × Value → H} {w : World} {base : Nat} {spare : Nat → Bool} {held : Bool} {d : DataW H} {ps : List MemPlace} {v : Value} {r : Reach}
theorem get31 {b0 : Nat} (hv : Value.okWide Try.prog w r b0 31 v) (h : DataW.Trod enc Try.prog w base spare held 31 v d ps) : ∃ b : Basin, (Basin.d b).rd w (fun _ => True) v := by
  simp only [Value.okWide, Try.underlying31] at hv
  obtain ⟨cs, rfl, _⟩ := hv
  obtain ⟨xs, h1, h2⟩ := arg_agg sh31 h
  obtain ⟨b, hb⟩ := Basin.got _ h1
  rw [(Basin.iff _ _).1 hb] at h2
  exact ⟨b, h2⟩
theorem get32 {b0 : Nat} (hv : Value.okWide Try.prog w r b0 32 v) (h : DataW.Trod enc Try.prog w base spare held 32 v d ps) : ∃ l : List Claim, (D.lst 9 (l.map Claim.row)).rd w (fun _ => True) v := by
  obtain ⟨a, len, cap, rfl⟩ := okWide_slice Try.underlying32 hv
  obtain ⟨x, h1, h2⟩ := arg_one sh32 h (fun cs => by simp)
  obtain ⟨l, hl⟩ := got_lst Claim.got h1
  rw [(dLst_iff Claim.iff).1 hl] at h2
  exact ⟨l, h2⟩
theorem get29 {b0 : Nat} (hv : Value.okWide Try.prog w r b0 29 v) (h : DataW.Trod enc Try.prog w base spare held 29 v d ps) : ∃ l : List Int, (D.lst 1 (l.map irow)).rd w (fun _ => True) v := by
  obtain ⟨a, len, cap, rfl⟩ := okWide_slice Try.underlying29 hv
  obtain ⟨x, h1, h2⟩ := arg_one sh29 h (fun cs => by simp)
  obtain ⟨l, hl⟩ := got_lst (fun _ h => got_i h) h1
  rw [(dLst_iff iof_iff).1 hl] at h2
  exact ⟨l, h2⟩
theorem getI {b0 : Nat} (hv : Value.okWide Try.prog w r b0 3 v) (h : DataW.Trod enc Try.prog w base spare held 3 v d ps) : ∃ n : Int, (D.int .i64 n).rd w (fun _ => True) v := by
  have h0 := h
  obtain ⟨n, rfl, _, _, _⟩ := open_int Try.underlying3 hv h0
  exact ⟨n, by simp only [D.rd]⟩
end
theorem back {H : Type} {enc : TypeId × Value → H} {t : TypeId} (hr : Try.prog.readableRec t = true) (hrow : t < Try.prog.types.size) {W W' : World} {v : Value} {d : DataW H} {ps : List MemPlace} (h : DataW.Trod enc Try.prog W 0 (fun _ => true) true t v d ps) (hb : Below W.heap.size W W') :
    DataW.Trod enc Try.prog W' 0 (fun b => decide (b < W.heap.size)) true t v d ps :=
  Below.trod laidOut hr hrow h hb (by obtain ⟨m, hm⟩ := h; exact DataW.trod_lt m _ _ _ hm)
def zeroBasin : Value := .agg #[.string ByteArray.empty, .slice none 0 0, .int .i64 0, .slice none 0 0, .slice none 0 0, .slice none 0 0, .slice none 0 0, .slice none 0 0, .slice none 0 0, .slice none 0 0, .int .i64 0]
end Go.Proofs.Ytomnjbebgfadoaa.Pi
