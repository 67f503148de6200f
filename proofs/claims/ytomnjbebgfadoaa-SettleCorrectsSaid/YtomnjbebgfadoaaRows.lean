/-
  No cell of these rows narrows 'for every input' (looked for: loops, veiled, ifaces, maps, wideKeys, modest, calm, conditions, laid).
  DERIVED. THE GIVEN ROWS OF THIS SEAT. 4 by the template 'for every input the law returns true; each argument reads behind the call as it read before'; 0 by the template 'total and deterministic' (their statements: YtomnjbebgfadoaaTotals.lean).
  GIVEN WITH THE SEED: the statements are not yours to turn. If you find one false, say at which input.
  Laid BY PROGRAM, IN A SANDBOX (cutbox-rows.mjs): the forced cells as the released guide's own fill.sh prints them over the translation 79fb0a8d096fc822… (all of the seat's roots in one cut). By AI agents, Wed Nov 11 2026. No macro, syntax, notation, axiom, sorry.
-/
import Derived.Test.YtomnjbebgfadoaaChecked
import GoSem.Claim
import GoSem.ClaimJoined
import GoSem.ClaimMapViews
import Derived.JoinedTies
import Derived.KernelRfl
namespace Go.Proofs.Ytomnjbebgfadoaa
/- THE CELL 'sum', in the pinned program and in every row, IS THE sha256 OF THE DUMP (.gsa) THAT YtomnjbebgfadoaaProg.lean LOADS. Nothing in Lean hashes anything: it is a label: what it is worth is what the hold of that sum in a sandbox is worth. -/
noncomputable def Try.pinned : Pinned := { name := "ytomnjbebgfadoaa", sum := "79fb0a8d096fc822707dad28712773c993230887abe069e1094a4533264b0169", checked := Try.checked }
namespace Rows
def none {H : Type} : Left H := { results := [], args := [] }

/-- 'bournelaw40.SettleSame': WHATEVER THE INPUT: true; the input reads as it did. -/
def settleSameSpec : ChangeSpec := { name := "settleSame", fn := fun _ => fun
  | [d1, d2, d3, d4, d5] => { results := [.lit (.bool true)], args := [d1, d2, d3, d4, d5] }
  | _ => none }
def settleSameRow : OpenClaim := { program := "ytomnjbebgfadoaa", sum := "79fb0a8d096fc822707dad28712773c993230887abe069e1094a4533264b0169", func := "bourne/bournelaw40.SettleSame", spec := "settleSame", plainKeys := false, apart := false }
def SettleSameSaid : Prop := settleSameRow.holds Try.pinned (OpenSpec.ofChange settleSameSpec)

/-- ITS FALSE NEIGHBOUR: 'it returns false'. Refute it at one input. -/
def settleSameWrong : ChangeSpec := { name := "settleSame", fn := fun _ => fun
  | [d1, d2, d3, d4, d5] => { results := [.lit (.bool false)], args := [d1, d2, d3, d4, d5] }
  | _ => none }
def SettleSameWrongFalsely : Prop := settleSameRow.holds Try.pinned (OpenSpec.ofChange settleSameWrong)

/-- 'bournelaw40.SettleMoves': WHATEVER THE INPUT: true; the input reads as it did. -/
def settleMovesSpec : ChangeSpec := { name := "settleMoves", fn := fun _ => fun
  | [d1, d2, d3, d4, d5] => { results := [.lit (.bool true)], args := [d1, d2, d3, d4, d5] }
  | _ => none }
def settleMovesRow : OpenClaim := { program := "ytomnjbebgfadoaa", sum := "79fb0a8d096fc822707dad28712773c993230887abe069e1094a4533264b0169", func := "bourne/bournelaw40.SettleMoves", spec := "settleMoves", plainKeys := false, apart := false }
def SettleMovesSaid : Prop := settleMovesRow.holds Try.pinned (OpenSpec.ofChange settleMovesSpec)

/-- ITS FALSE NEIGHBOUR: 'it returns false'. Refute it at one input. -/
def settleMovesWrong : ChangeSpec := { name := "settleMoves", fn := fun _ => fun
  | [d1, d2, d3, d4, d5] => { results := [.lit (.bool false)], args := [d1, d2, d3, d4, d5] }
  | _ => none }
def SettleMovesWrongFalsely : Prop := settleMovesRow.holds Try.pinned (OpenSpec.ofChange settleMovesWrong)

/-- 'bournelaw40.SettleKeeps': WHATEVER THE INPUT: true; the input reads as it did. -/
def settleKeepsSpec : ChangeSpec := { name := "settleKeeps", fn := fun _ => fun
  | [d1, d2, d3] => { results := [.lit (.bool true)], args := [d1, d2, d3] }
  | _ => none }
def settleKeepsRow : OpenClaim := { program := "ytomnjbebgfadoaa", sum := "79fb0a8d096fc822707dad28712773c993230887abe069e1094a4533264b0169", func := "bourne/bournelaw40.SettleKeeps", spec := "settleKeeps", inPlace := ["math/bits.Add64"], unfollowed := true, recurses := true, plainKeys := false, apart := false }
def SettleKeepsSaid : Prop := settleKeepsRow.holds Try.pinned (OpenSpec.ofChange settleKeepsSpec)

/-- ITS FALSE NEIGHBOUR: 'it returns false'. Refute it at one input. -/
def settleKeepsWrong : ChangeSpec := { name := "settleKeeps", fn := fun _ => fun
  | [d1, d2, d3] => { results := [.lit (.bool false)], args := [d1, d2, d3] }
  | _ => none }
def SettleKeepsWrongFalsely : Prop := settleKeepsRow.holds Try.pinned (OpenSpec.ofChange settleKeepsWrong)

/-- 'bournelaw40.SettleCorrects': WHATEVER THE INPUT: true; the input reads as it did. -/
def settleCorrectsSpec : ChangeSpec := { name := "settleCorrects", fn := fun _ => fun
  | [d1, d2] => { results := [.lit (.bool true)], args := [d1, d2] }
  | _ => none }
def settleCorrectsRow : OpenClaim := { program := "ytomnjbebgfadoaa", sum := "79fb0a8d096fc822707dad28712773c993230887abe069e1094a4533264b0169", func := "bourne/bournelaw40.SettleCorrects", spec := "settleCorrects", inPlace := ["math/bits.Add64"], unfollowed := true, recurses := true, plainKeys := false, apart := false }
def SettleCorrectsSaid : Prop := settleCorrectsRow.holds Try.pinned (OpenSpec.ofChange settleCorrectsSpec)

/-- ITS FALSE NEIGHBOUR: 'it returns false'. Refute it at one input. -/
def settleCorrectsWrong : ChangeSpec := { name := "settleCorrects", fn := fun _ => fun
  | [d1, d2] => { results := [.lit (.bool false)], args := [d1, d2] }
  | _ => none }
def SettleCorrectsWrongFalsely : Prop := settleCorrectsRow.holds Try.pinned (OpenSpec.ofChange settleCorrectsWrong)

/- THE SECOND FORM. 'bulk': how many values and letters a reading holds, each counted each time it is reached (what is shared counts as often as it is met; a slice's spare places count too). A statement '..UptoSaid' is the law's where the arguments, and the package variables that the reading takes, are together of bulk at most 1048576: NARROWER than '..Said'. Prove '..Said' where nothing that the law and all that it calls make is longer than what came in: it says more and counts as full. Else prove '..UptoSaid'. A law counts once. -/
mutual
def uptoBulk {H : Type} : DataW H → Nat
  | .lit (.string bytes) => bytes.length + 1
  | .lit _ => 1
  | .nil => 1
  | .ptr d => uptoBulk d + 1
  | .slice elems spare => uptoBulkAll elems + uptoBulkAll spare + 1
  | .agg parts => uptoBulkAll parts + 1
  | .iface _ d => uptoBulk d + 1
  | .map entries => uptoBulkEntries entries + 1
  | .held _ => 1
def uptoBulkAll {H : Type} : List (DataW H) → Nat
  | [] => 0
  | d :: r => uptoBulk d + uptoBulkAll r
def uptoBulkEntries {H : Type} : List (Lit × DataW H) → Nat
  | [] => 0
  | x :: r => uptoBulkEntry x + uptoBulkEntries r
def uptoBulkEntry {H : Type} : Lit × DataW H → Nat
  | (.string bytes, d) => bytes.length + uptoBulk d + 1
  | (_, d) => uptoBulk d + 1
 end
def uptoSmall : (H : Type) → List (DataW H) → Bool := fun _ ds => decide (uptoBulkAll ds ≤ 1048576)
def OpenSpec.upto (s : _root_.Go.ChangeSpec) : _root_.Go.OpenSpec := { _root_.Go.OpenSpec.ofChange s with cond := some uptoSmall }

/-- 'bournelaw40.SettleSame', WHERE WHAT IT READS IS OF BULK AT MOST 1048576: true; the input reads as it did. -/
def settleSameUptoRow : OpenClaim := { program := "ytomnjbebgfadoaa", sum := "79fb0a8d096fc822707dad28712773c993230887abe069e1094a4533264b0169", func := "bourne/bournelaw40.SettleSame", spec := "settleSame", plainKeys := false, apart := false, narrowed := true }
def SettleSameUptoSaid : Prop := settleSameUptoRow.holds Try.pinned (OpenSpec.upto settleSameSpec)

/-- 'bournelaw40.SettleMoves', WHERE WHAT IT READS IS OF BULK AT MOST 1048576: true; the input reads as it did. -/
def settleMovesUptoRow : OpenClaim := { program := "ytomnjbebgfadoaa", sum := "79fb0a8d096fc822707dad28712773c993230887abe069e1094a4533264b0169", func := "bourne/bournelaw40.SettleMoves", spec := "settleMoves", plainKeys := false, apart := false, narrowed := true }
def SettleMovesUptoSaid : Prop := settleMovesUptoRow.holds Try.pinned (OpenSpec.upto settleMovesSpec)

/-- 'bournelaw40.SettleKeeps', WHERE WHAT IT READS IS OF BULK AT MOST 1048576: true; the input reads as it did. -/
def settleKeepsUptoRow : OpenClaim := { program := "ytomnjbebgfadoaa", sum := "79fb0a8d096fc822707dad28712773c993230887abe069e1094a4533264b0169", func := "bourne/bournelaw40.SettleKeeps", spec := "settleKeeps", inPlace := ["math/bits.Add64"], unfollowed := true, recurses := true, plainKeys := false, apart := false, narrowed := true }
def SettleKeepsUptoSaid : Prop := settleKeepsUptoRow.holds Try.pinned (OpenSpec.upto settleKeepsSpec)

/-- 'bournelaw40.SettleCorrects', WHERE WHAT IT READS IS OF BULK AT MOST 1048576: true; the input reads as it did. -/
def settleCorrectsUptoRow : OpenClaim := { program := "ytomnjbebgfadoaa", sum := "79fb0a8d096fc822707dad28712773c993230887abe069e1094a4533264b0169", func := "bourne/bournelaw40.SettleCorrects", spec := "settleCorrects", inPlace := ["math/bits.Add64"], unfollowed := true, recurses := true, plainKeys := false, apart := false, narrowed := true }
def SettleCorrectsUptoSaid : Prop := settleCorrectsUptoRow.holds Try.pinned (OpenSpec.upto settleCorrectsSpec)

end Rows
end Go.Proofs.Ytomnjbebgfadoaa
