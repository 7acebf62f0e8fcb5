/-
  No cell of these rows narrows 'for every input' (looked for: loops, veiled, ifaces, maps, wideKeys, modest, calm, conditions, laid).
  DERIVED. THE GIVEN ROWS OF THIS SEAT. 8 by the template 'for every input the law returns true; each argument reads behind the call as it read before'; 0 by the template 'total and deterministic' (their statements: YtdpjefkjaomafaaTotals.lean).
  GIVEN WITH THE SEED: the statements are not yours to turn. If you find one false, say at which input.
  Laid BY PROGRAM, IN A SANDBOX (cutbox-rows.mjs): the forced cells as the released guide's own fill.sh prints them over the translation c2b6c9a8f2747049… (all of the seat's roots in one cut). By AI agents, Wed Nov 11 2026. No macro, syntax, notation, axiom, sorry.
-/
import Derived.Test.YtdpjefkjaomafaaChecked
import GoSem.Claim
import GoSem.ClaimJoined
import GoSem.ClaimMapViews
import Derived.JoinedTies
import Derived.KernelRfl
namespace Go.Proofs.Ytdpjefkjaomafaa
/- THE CELL 'sum', in the pinned program and in every row, IS THE sha256 OF THE DUMP (.gsa) THAT YtdpjefkjaomafaaProg.lean LOADS. Nothing in Lean hashes anything: it is a label: what it is worth is what the hold of that sum in a sandbox is worth. -/
noncomputable def Try.pinned : Pinned := { name := "ytdpjefkjaomafaa", sum := "c2b6c9a8f27470494c518621348e6a20b848be165051575a9bdd2e75f1aa6244", checked := Try.checked }
namespace Rows
def none {H : Type} : Left H := { results := [], args := [] }

/-- 'laws.FnExactNewConsole': WHATEVER THE INPUT: true; the input reads as it did. -/
def fnExactNewConsoleSpec : ChangeSpec := { name := "fnExactNewConsole", fn := fun _ => fun
  | [d] => { results := [.lit (.bool true)], args := [d] }
  | _ => none }
def fnExactNewConsoleRow : OpenClaim := { program := "ytdpjefkjaomafaa", sum := "c2b6c9a8f27470494c518621348e6a20b848be165051575a9bdd2e75f1aa6244", func := "loop.example/g01269/laws.FnExactNewConsole", spec := "fnExactNewConsole", unfollowed := true, recurses := true, apart := false }
def FnExactNewConsoleSaid : Prop := fnExactNewConsoleRow.holds Try.pinned (OpenSpec.ofChange fnExactNewConsoleSpec)

/-- ITS FALSE NEIGHBOUR: 'it returns false'. Refute it at one input. -/
def fnExactNewConsoleWrong : ChangeSpec := { name := "fnExactNewConsole", fn := fun _ => fun
  | [d] => { results := [.lit (.bool false)], args := [d] }
  | _ => none }
def FnExactNewConsoleWrongFalsely : Prop := fnExactNewConsoleRow.holds Try.pinned (OpenSpec.ofChange fnExactNewConsoleWrong)

/-- 'laws.FnExactStateOfRoom': WHATEVER THE INPUT: true; the input reads as it did. -/
def fnExactStateOfRoomSpec : ChangeSpec := { name := "fnExactStateOfRoom", fn := fun _ => fun
  | [d] => { results := [.lit (.bool true)], args := [d] }
  | _ => none }
def fnExactStateOfRoomRow : OpenClaim := { program := "ytdpjefkjaomafaa", sum := "c2b6c9a8f27470494c518621348e6a20b848be165051575a9bdd2e75f1aa6244", func := "loop.example/g01269/laws.FnExactStateOfRoom", spec := "fnExactStateOfRoom", unfollowed := true, recurses := true, apart := false }
def FnExactStateOfRoomSaid : Prop := fnExactStateOfRoomRow.holds Try.pinned (OpenSpec.ofChange fnExactStateOfRoomSpec)

/-- ITS FALSE NEIGHBOUR: 'it returns false'. Refute it at one input. -/
def fnExactStateOfRoomWrong : ChangeSpec := { name := "fnExactStateOfRoom", fn := fun _ => fun
  | [d] => { results := [.lit (.bool false)], args := [d] }
  | _ => none }
def FnExactStateOfRoomWrongFalsely : Prop := fnExactStateOfRoomRow.holds Try.pinned (OpenSpec.ofChange fnExactStateOfRoomWrong)

/-- 'laws.FnExactTrueLeaf': WHATEVER THE INPUT: true; the input reads as it did. -/
def fnExactTrueLeafSpec : ChangeSpec := { name := "fnExactTrueLeaf", fn := fun _ => fun
  | [d1, d2, d3] => { results := [.lit (.bool true)], args := [d1, d2, d3] }
  | _ => none }
def fnExactTrueLeafRow : OpenClaim := { program := "ytdpjefkjaomafaa", sum := "c2b6c9a8f27470494c518621348e6a20b848be165051575a9bdd2e75f1aa6244", func := "loop.example/g01269/laws.FnExactTrueLeaf", spec := "fnExactTrueLeaf", recurses := true, apart := false }
def FnExactTrueLeafSaid : Prop := fnExactTrueLeafRow.holds Try.pinned (OpenSpec.ofChange fnExactTrueLeafSpec)

/-- ITS FALSE NEIGHBOUR: 'it returns false'. Refute it at one input. -/
def fnExactTrueLeafWrong : ChangeSpec := { name := "fnExactTrueLeaf", fn := fun _ => fun
  | [d1, d2, d3] => { results := [.lit (.bool false)], args := [d1, d2, d3] }
  | _ => none }
def FnExactTrueLeafWrongFalsely : Prop := fnExactTrueLeafRow.holds Try.pinned (OpenSpec.ofChange fnExactTrueLeafWrong)

/-- 'laws.FnExactDepthOf': WHATEVER THE INPUT: true; the input reads as it did. -/
def fnExactDepthOfSpec : ChangeSpec := { name := "fnExactDepthOf", fn := fun _ => fun
  | [d1, d2, d3] => { results := [.lit (.bool true)], args := [d1, d2, d3] }
  | _ => none }
def fnExactDepthOfRow : OpenClaim := { program := "ytdpjefkjaomafaa", sum := "c2b6c9a8f27470494c518621348e6a20b848be165051575a9bdd2e75f1aa6244", func := "loop.example/g01269/laws.FnExactDepthOf", spec := "fnExactDepthOf", recurses := true, apart := false }
def FnExactDepthOfSaid : Prop := fnExactDepthOfRow.holds Try.pinned (OpenSpec.ofChange fnExactDepthOfSpec)

/-- ITS FALSE NEIGHBOUR: 'it returns false'. Refute it at one input. -/
def fnExactDepthOfWrong : ChangeSpec := { name := "fnExactDepthOf", fn := fun _ => fun
  | [d1, d2, d3] => { results := [.lit (.bool false)], args := [d1, d2, d3] }
  | _ => none }
def FnExactDepthOfWrongFalsely : Prop := fnExactDepthOfRow.holds Try.pinned (OpenSpec.ofChange fnExactDepthOfWrong)

/-- 'laws.FnExactPlayTree': WHATEVER THE INPUT: true; the input reads as it did. -/
def fnExactPlayTreeSpec : ChangeSpec := { name := "fnExactPlayTree", fn := fun _ => fun
  | [d1, d2, d3] => { results := [.lit (.bool true)], args := [d1, d2, d3] }
  | _ => none }
def fnExactPlayTreeRow : OpenClaim := { program := "ytdpjefkjaomafaa", sum := "c2b6c9a8f27470494c518621348e6a20b848be165051575a9bdd2e75f1aa6244", func := "loop.example/g01269/laws.FnExactPlayTree", spec := "fnExactPlayTree", recurses := true, apart := false }
def FnExactPlayTreeSaid : Prop := fnExactPlayTreeRow.holds Try.pinned (OpenSpec.ofChange fnExactPlayTreeSpec)

/-- ITS FALSE NEIGHBOUR: 'it returns false'. Refute it at one input. -/
def fnExactPlayTreeWrong : ChangeSpec := { name := "fnExactPlayTree", fn := fun _ => fun
  | [d1, d2, d3] => { results := [.lit (.bool false)], args := [d1, d2, d3] }
  | _ => none }
def FnExactPlayTreeWrongFalsely : Prop := fnExactPlayTreeRow.holds Try.pinned (OpenSpec.ofChange fnExactPlayTreeWrong)

/-- 'laws.FnExactLeavesOf': WHATEVER THE INPUT: true; the input reads as it did. -/
def fnExactLeavesOfSpec : ChangeSpec := { name := "fnExactLeavesOf", fn := fun _ => fun
  | [d1, d2] => { results := [.lit (.bool true)], args := [d1, d2] }
  | _ => none }
def fnExactLeavesOfRow : OpenClaim := { program := "ytdpjefkjaomafaa", sum := "c2b6c9a8f27470494c518621348e6a20b848be165051575a9bdd2e75f1aa6244", func := "loop.example/g01269/laws.FnExactLeavesOf", spec := "fnExactLeavesOf", recurses := true, apart := false }
def FnExactLeavesOfSaid : Prop := fnExactLeavesOfRow.holds Try.pinned (OpenSpec.ofChange fnExactLeavesOfSpec)

/-- ITS FALSE NEIGHBOUR: 'it returns false'. Refute it at one input. -/
def fnExactLeavesOfWrong : ChangeSpec := { name := "fnExactLeavesOf", fn := fun _ => fun
  | [d1, d2] => { results := [.lit (.bool false)], args := [d1, d2] }
  | _ => none }
def FnExactLeavesOfWrongFalsely : Prop := fnExactLeavesOfRow.holds Try.pinned (OpenSpec.ofChange fnExactLeavesOfWrong)

/-- 'laws.FnExactMeanQuestions': WHATEVER THE INPUT: true; the input reads as it did. -/
def fnExactMeanQuestionsSpec : ChangeSpec := { name := "fnExactMeanQuestions", fn := fun _ => fun
  | [d1, d2] => { results := [.lit (.bool true)], args := [d1, d2] }
  | _ => none }
def fnExactMeanQuestionsRow : OpenClaim := { program := "ytdpjefkjaomafaa", sum := "c2b6c9a8f27470494c518621348e6a20b848be165051575a9bdd2e75f1aa6244", func := "loop.example/g01269/laws.FnExactMeanQuestions", spec := "fnExactMeanQuestions", recurses := true, apart := false }
def FnExactMeanQuestionsSaid : Prop := fnExactMeanQuestionsRow.holds Try.pinned (OpenSpec.ofChange fnExactMeanQuestionsSpec)

/-- ITS FALSE NEIGHBOUR: 'it returns false'. Refute it at one input. -/
def fnExactMeanQuestionsWrong : ChangeSpec := { name := "fnExactMeanQuestions", fn := fun _ => fun
  | [d1, d2] => { results := [.lit (.bool false)], args := [d1, d2] }
  | _ => none }
def FnExactMeanQuestionsWrongFalsely : Prop := fnExactMeanQuestionsRow.holds Try.pinned (OpenSpec.ofChange fnExactMeanQuestionsWrong)

/-- 'laws.FnExactWayTo': WHATEVER THE INPUT: true; the input reads as it did. -/
def fnExactWayToSpec : ChangeSpec := { name := "fnExactWayTo", fn := fun _ => fun
  | [d1, d2, d3] => { results := [.lit (.bool true)], args := [d1, d2, d3] }
  | _ => none }
def fnExactWayToRow : OpenClaim := { program := "ytdpjefkjaomafaa", sum := "c2b6c9a8f27470494c518621348e6a20b848be165051575a9bdd2e75f1aa6244", func := "loop.example/g01269/laws.FnExactWayTo", spec := "fnExactWayTo", recurses := true, apart := false }
def FnExactWayToSaid : Prop := fnExactWayToRow.holds Try.pinned (OpenSpec.ofChange fnExactWayToSpec)

/-- ITS FALSE NEIGHBOUR: 'it returns false'. Refute it at one input. -/
def fnExactWayToWrong : ChangeSpec := { name := "fnExactWayTo", fn := fun _ => fun
  | [d1, d2, d3] => { results := [.lit (.bool false)], args := [d1, d2, d3] }
  | _ => none }
def FnExactWayToWrongFalsely : Prop := fnExactWayToRow.holds Try.pinned (OpenSpec.ofChange fnExactWayToWrong)

/- THE SECOND FORM. 'bulk': how many values and letters a reading holds, each counted each time it is reached (what is shared counts as often as it is met; a slice's spare places count too). A statement '..UptoSaid' is the law's where the arguments, and the package variables that the reading takes, are together of bulk at most 1048576: NARROWER than '..Said'. Prove '..Said' where nothing that the law and all that it calls make is longer than what came in: it says more and counts as full. Else prove '..UptoSaid'. A law counts once. -/
mutual
def uptoBulk {H : Type} : DataW H → Nat
  | .lit (.string bytes) => bytes.length + 1
  | .lit _ => 1
  | .nil => 1
  | .ptr d => uptoBulk d + 1
  | .slice elems spare => uptoBulkAll elems + uptoBulkAll spare + 1
  | .agg parts => uptoBulkAll parts + 1
  | .iface _ d => uptoBulk d + 1
  | .map entries => uptoBulkEntries entries + 1
  | .held _ => 1
def uptoBulkAll {H : Type} : List (DataW H) → Nat
  | [] => 0
  | d :: r => uptoBulk d + uptoBulkAll r
def uptoBulkEntries {H : Type} : List (Lit × DataW H) → Nat
  | [] => 0
  | x :: r => uptoBulkEntry x + uptoBulkEntries r
def uptoBulkEntry {H : Type} : Lit × DataW H → Nat
  | (.string bytes, d) => bytes.length + uptoBulk d + 1
  | (_, d) => uptoBulk d + 1
 end
def uptoSmall : (H : Type) → List (DataW H) → Bool := fun _ ds => decide (uptoBulkAll ds ≤ 1048576)
def OpenSpec.upto (s : _root_.Go.ChangeSpec) : _root_.Go.OpenSpec := { _root_.Go.OpenSpec.ofChange s with cond := some uptoSmall }

/-- 'laws.FnExactNewConsole', WHERE WHAT IT READS IS OF BULK AT MOST 1048576: true; the input reads as it did. -/
def fnExactNewConsoleUptoRow : OpenClaim := { program := "ytdpjefkjaomafaa", sum := "c2b6c9a8f27470494c518621348e6a20b848be165051575a9bdd2e75f1aa6244", func := "loop.example/g01269/laws.FnExactNewConsole", spec := "fnExactNewConsole", unfollowed := true, recurses := true, apart := false, narrowed := true }
def FnExactNewConsoleUptoSaid : Prop := fnExactNewConsoleUptoRow.holds Try.pinned (OpenSpec.upto fnExactNewConsoleSpec)

/-- 'laws.FnExactStateOfRoom', WHERE WHAT IT READS IS OF BULK AT MOST 1048576: true; the input reads as it did. -/
def fnExactStateOfRoomUptoRow : OpenClaim := { program := "ytdpjefkjaomafaa", sum := "c2b6c9a8f27470494c518621348e6a20b848be165051575a9bdd2e75f1aa6244", func := "loop.example/g01269/laws.FnExactStateOfRoom", spec := "fnExactStateOfRoom", unfollowed := true, recurses := true, apart := false, narrowed := true }
def FnExactStateOfRoomUptoSaid : Prop := fnExactStateOfRoomUptoRow.holds Try.pinned (OpenSpec.upto fnExactStateOfRoomSpec)

/-- 'laws.FnExactTrueLeaf', WHERE WHAT IT READS IS OF BULK AT MOST 1048576: true; the input reads as it did. -/
def fnExactTrueLeafUptoRow : OpenClaim := { program := "ytdpjefkjaomafaa", sum := "c2b6c9a8f27470494c518621348e6a20b848be165051575a9bdd2e75f1aa6244", func := "loop.example/g01269/laws.FnExactTrueLeaf", spec := "fnExactTrueLeaf", recurses := true, apart := false, narrowed := true }
def FnExactTrueLeafUptoSaid : Prop := fnExactTrueLeafUptoRow.holds Try.pinned (OpenSpec.upto fnExactTrueLeafSpec)

/-- 'laws.FnExactDepthOf', WHERE WHAT IT READS IS OF BULK AT MOST 1048576: true; the input reads as it did. -/
def fnExactDepthOfUptoRow : OpenClaim := { program := "ytdpjefkjaomafaa", sum := "c2b6c9a8f27470494c518621348e6a20b848be165051575a9bdd2e75f1aa6244", func := "loop.example/g01269/laws.FnExactDepthOf", spec := "fnExactDepthOf", recurses := true, apart := false, narrowed := true }
def FnExactDepthOfUptoSaid : Prop := fnExactDepthOfUptoRow.holds Try.pinned (OpenSpec.upto fnExactDepthOfSpec)

/-- 'laws.FnExactPlayTree', WHERE WHAT IT READS IS OF BULK AT MOST 1048576: true; the input reads as it did. -/
def fnExactPlayTreeUptoRow : OpenClaim := { program := "ytdpjefkjaomafaa", sum := "c2b6c9a8f27470494c518621348e6a20b848be165051575a9bdd2e75f1aa6244", func := "loop.example/g01269/laws.FnExactPlayTree", spec := "fnExactPlayTree", recurses := true, apart := false, narrowed := true }
def FnExactPlayTreeUptoSaid : Prop := fnExactPlayTreeUptoRow.holds Try.pinned (OpenSpec.upto fnExactPlayTreeSpec)

/-- 'laws.FnExactLeavesOf', WHERE WHAT IT READS IS OF BULK AT MOST 1048576: true; the input reads as it did. -/
def fnExactLeavesOfUptoRow : OpenClaim := { program := "ytdpjefkjaomafaa", sum := "c2b6c9a8f27470494c518621348e6a20b848be165051575a9bdd2e75f1aa6244", func := "loop.example/g01269/laws.FnExactLeavesOf", spec := "fnExactLeavesOf", recurses := true, apart := false, narrowed := true }
def FnExactLeavesOfUptoSaid : Prop := fnExactLeavesOfUptoRow.holds Try.pinned (OpenSpec.upto fnExactLeavesOfSpec)

/-- 'laws.FnExactMeanQuestions', WHERE WHAT IT READS IS OF BULK AT MOST 1048576: true; the input reads as it did. -/
def fnExactMeanQuestionsUptoRow : OpenClaim := { program := "ytdpjefkjaomafaa", sum := "c2b6c9a8f27470494c518621348e6a20b848be165051575a9bdd2e75f1aa6244", func := "loop.example/g01269/laws.FnExactMeanQuestions", spec := "fnExactMeanQuestions", recurses := true, apart := false, narrowed := true }
def FnExactMeanQuestionsUptoSaid : Prop := fnExactMeanQuestionsUptoRow.holds Try.pinned (OpenSpec.upto fnExactMeanQuestionsSpec)

/-- 'laws.FnExactWayTo', WHERE WHAT IT READS IS OF BULK AT MOST 1048576: true; the input reads as it did. -/
def fnExactWayToUptoRow : OpenClaim := { program := "ytdpjefkjaomafaa", sum := "c2b6c9a8f27470494c518621348e6a20b848be165051575a9bdd2e75f1aa6244", func := "loop.example/g01269/laws.FnExactWayTo", spec := "fnExactWayTo", recurses := true, apart := false, narrowed := true }
def FnExactWayToUptoSaid : Prop := fnExactWayToUptoRow.holds Try.pinned (OpenSpec.upto fnExactWayToSpec)

end Rows
end Go.Proofs.Ytdpjefkjaomafaa
