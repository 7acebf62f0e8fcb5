/-
  No cell of these rows narrows 'for every input' (looked for: loops, veiled, ifaces, maps, wideKeys, modest, calm, conditions, laid).
  DERIVED. THE GIVEN ROWS OF THIS SEAT. 12 by the template 'for every input the law returns true; each argument reads behind the call as it read before'; 0 by the template 'total and deterministic' (their statements: YtbaooedhbihkjaaTotals.lean).
  GIVEN WITH THE SEED: the statements are not yours to turn. If you find one false, say at which input.
  Laid BY PROGRAM, IN A SANDBOX (cutbox-rows.mjs): the forced cells as the released guide's own fill.sh prints them over the translation 2fdfc936557c7505… (all of the seat's roots in one cut). By AI agents, Wed Nov 11 2026. No macro, syntax, notation, axiom, sorry.
-/
import Derived.Test.YtbaooedhbihkjaaChecked
import GoSem.Claim
import GoSem.ClaimJoined
import GoSem.ClaimMapViews
import Derived.JoinedTies
import Derived.KernelRfl
namespace Go.Proofs.Ytbaooedhbihkjaa
/- THE CELL 'sum', in the pinned program and in every row, IS THE sha256 OF THE DUMP (.gsa) THAT YtbaooedhbihkjaaProg.lean LOADS. Nothing in Lean hashes anything: it is a label: what it is worth is what the hold of that sum in a sandbox is worth. -/
noncomputable def Try.pinned : Pinned := { name := "ytbaooedhbihkjaa", sum := "2fdfc936557c7505ee853e6d412886943cf456d808d46cca842bfb7ed712d372", checked := Try.checked }
namespace Rows
def none {H : Type} : Left H := { results := [], args := [] }

/-- 'laws.FnExactStateOfRoom': WHATEVER THE INPUT: true; the input reads as it did. -/
def fnExactStateOfRoomSpec : ChangeSpec := { name := "fnExactStateOfRoom", fn := fun _ => fun
  | [d] => { results := [.lit (.bool true)], args := [d] }
  | _ => none }
def fnExactStateOfRoomRow : OpenClaim := { program := "ytbaooedhbihkjaa", sum := "2fdfc936557c7505ee853e6d412886943cf456d808d46cca842bfb7ed712d372", func := "loop.example/g01269/laws.FnExactStateOfRoom", spec := "fnExactStateOfRoom", unfollowed := true, recurses := true, apart := false }
def FnExactStateOfRoomSaid : Prop := fnExactStateOfRoomRow.holds Try.pinned (OpenSpec.ofChange fnExactStateOfRoomSpec)

/-- ITS FALSE NEIGHBOUR: 'it returns false'. Refute it at one input. -/
def fnExactStateOfRoomWrong : ChangeSpec := { name := "fnExactStateOfRoom", fn := fun _ => fun
  | [d] => { results := [.lit (.bool false)], args := [d] }
  | _ => none }
def FnExactStateOfRoomWrongFalsely : Prop := fnExactStateOfRoomRow.holds Try.pinned (OpenSpec.ofChange fnExactStateOfRoomWrong)

/-- 'laws.FnBalanced': WHATEVER THE INPUT: true; the input reads as it did. -/
def fnBalancedSpec : ChangeSpec := { name := "fnBalanced", fn := fun _ => fun
  | [d] => { results := [.lit (.bool true)], args := [d] }
  | _ => none }
def fnBalancedRow : OpenClaim := { program := "ytbaooedhbihkjaa", sum := "2fdfc936557c7505ee853e6d412886943cf456d808d46cca842bfb7ed712d372", func := "loop.example/g01269/laws.FnBalanced", spec := "fnBalanced", unfollowed := true, recurses := true, apart := false }
def FnBalancedSaid : Prop := fnBalancedRow.holds Try.pinned (OpenSpec.ofChange fnBalancedSpec)

/-- ITS FALSE NEIGHBOUR: 'it returns false'. Refute it at one input. -/
def fnBalancedWrong : ChangeSpec := { name := "fnBalanced", fn := fun _ => fun
  | [d] => { results := [.lit (.bool false)], args := [d] }
  | _ => none }
def FnBalancedWrongFalsely : Prop := fnBalancedRow.holds Try.pinned (OpenSpec.ofChange fnBalancedWrong)

/-- 'laws.FnExactLeavesOf': WHATEVER THE INPUT: true; the input reads as it did. -/
def fnExactLeavesOfSpec : ChangeSpec := { name := "fnExactLeavesOf", fn := fun _ => fun
  | [d1, d2] => { results := [.lit (.bool true)], args := [d1, d2] }
  | _ => none }
def fnExactLeavesOfRow : OpenClaim := { program := "ytbaooedhbihkjaa", sum := "2fdfc936557c7505ee853e6d412886943cf456d808d46cca842bfb7ed712d372", func := "loop.example/g01269/laws.FnExactLeavesOf", spec := "fnExactLeavesOf", recurses := true, apart := false }
def FnExactLeavesOfSaid : Prop := fnExactLeavesOfRow.holds Try.pinned (OpenSpec.ofChange fnExactLeavesOfSpec)

/-- ITS FALSE NEIGHBOUR: 'it returns false'. Refute it at one input. -/
def fnExactLeavesOfWrong : ChangeSpec := { name := "fnExactLeavesOf", fn := fun _ => fun
  | [d1, d2] => { results := [.lit (.bool false)], args := [d1, d2] }
  | _ => none }
def FnExactLeavesOfWrongFalsely : Prop := fnExactLeavesOfRow.holds Try.pinned (OpenSpec.ofChange fnExactLeavesOfWrong)

/-- 'laws.FnExactFairAnswers': WHATEVER THE INPUT: true; the input reads as it did. -/
def fnExactFairAnswersSpec : ChangeSpec := { name := "fnExactFairAnswers", fn := fun _ => fun
  | [d1, d2] => { results := [.lit (.bool true)], args := [d1, d2] }
  | _ => none }
def fnExactFairAnswersRow : OpenClaim := { program := "ytbaooedhbihkjaa", sum := "2fdfc936557c7505ee853e6d412886943cf456d808d46cca842bfb7ed712d372", func := "loop.example/g01269/laws.FnExactFairAnswers", spec := "fnExactFairAnswers", unfollowed := true, recurses := true, apart := false }
def FnExactFairAnswersSaid : Prop := fnExactFairAnswersRow.holds Try.pinned (OpenSpec.ofChange fnExactFairAnswersSpec)

/-- ITS FALSE NEIGHBOUR: 'it returns false'. Refute it at one input. -/
def fnExactFairAnswersWrong : ChangeSpec := { name := "fnExactFairAnswers", fn := fun _ => fun
  | [d1, d2] => { results := [.lit (.bool false)], args := [d1, d2] }
  | _ => none }
def FnExactFairAnswersWrongFalsely : Prop := fnExactFairAnswersRow.holds Try.pinned (OpenSpec.ofChange fnExactFairAnswersWrong)

/-- 'laws.FnExactWayTo': WHATEVER THE INPUT: true; the input reads as it did. -/
def fnExactWayToSpec : ChangeSpec := { name := "fnExactWayTo", fn := fun _ => fun
  | [d1, d2, d3] => { results := [.lit (.bool true)], args := [d1, d2, d3] }
  | _ => none }
def fnExactWayToRow : OpenClaim := { program := "ytbaooedhbihkjaa", sum := "2fdfc936557c7505ee853e6d412886943cf456d808d46cca842bfb7ed712d372", func := "loop.example/g01269/laws.FnExactWayTo", spec := "fnExactWayTo", recurses := true, apart := false }
def FnExactWayToSaid : Prop := fnExactWayToRow.holds Try.pinned (OpenSpec.ofChange fnExactWayToSpec)

/-- ITS FALSE NEIGHBOUR: 'it returns false'. Refute it at one input. -/
def fnExactWayToWrong : ChangeSpec := { name := "fnExactWayTo", fn := fun _ => fun
  | [d1, d2, d3] => { results := [.lit (.bool false)], args := [d1, d2, d3] }
  | _ => none }
def FnExactWayToWrongFalsely : Prop := fnExactWayToRow.holds Try.pinned (OpenSpec.ofChange fnExactWayToWrong)

/-- 'laws.FnTrees': WHATEVER THE INPUT: true; the input reads as it did. -/
def fnTreesSpec : ChangeSpec := { name := "fnTrees", fn := fun _ => fun
  | [d] => { results := [.lit (.bool true)], args := [d] }
  | _ => none }
def fnTreesRow : OpenClaim := { program := "ytbaooedhbihkjaa", sum := "2fdfc936557c7505ee853e6d412886943cf456d808d46cca842bfb7ed712d372", func := "loop.example/g01269/laws.FnTrees", spec := "fnTrees", unfollowed := true, recurses := true, apart := false }
def FnTreesSaid : Prop := fnTreesRow.holds Try.pinned (OpenSpec.ofChange fnTreesSpec)

/-- ITS FALSE NEIGHBOUR: 'it returns false'. Refute it at one input. -/
def fnTreesWrong : ChangeSpec := { name := "fnTrees", fn := fun _ => fun
  | [d] => { results := [.lit (.bool false)], args := [d] }
  | _ => none }
def FnTreesWrongFalsely : Prop := fnTreesRow.holds Try.pinned (OpenSpec.ofChange fnTreesWrong)

/-- 'laws.FnExactTurnTree': WHATEVER THE INPUT: true; the input reads as it did. -/
def fnExactTurnTreeSpec : ChangeSpec := { name := "fnExactTurnTree", fn := fun _ => fun
  | [d1, d2] => { results := [.lit (.bool true)], args := [d1, d2] }
  | _ => none }
def fnExactTurnTreeRow : OpenClaim := { program := "ytbaooedhbihkjaa", sum := "2fdfc936557c7505ee853e6d412886943cf456d808d46cca842bfb7ed712d372", func := "loop.example/g01269/laws.FnExactTurnTree", spec := "fnExactTurnTree", unfollowed := true, recurses := true, apart := false }
def FnExactTurnTreeSaid : Prop := fnExactTurnTreeRow.holds Try.pinned (OpenSpec.ofChange fnExactTurnTreeSpec)

/-- ITS FALSE NEIGHBOUR: 'it returns false'. Refute it at one input. -/
def fnExactTurnTreeWrong : ChangeSpec := { name := "fnExactTurnTree", fn := fun _ => fun
  | [d1, d2] => { results := [.lit (.bool false)], args := [d1, d2] }
  | _ => none }
def FnExactTurnTreeWrongFalsely : Prop := fnExactTurnTreeRow.holds Try.pinned (OpenSpec.ofChange fnExactTurnTreeWrong)

/-- 'laws.FnExactSubTree': WHATEVER THE INPUT: true; the input reads as it did. -/
def fnExactSubTreeSpec : ChangeSpec := { name := "fnExactSubTree", fn := fun _ => fun
  | [d1, d2, d3] => { results := [.lit (.bool true)], args := [d1, d2, d3] }
  | _ => none }
def fnExactSubTreeRow : OpenClaim := { program := "ytbaooedhbihkjaa", sum := "2fdfc936557c7505ee853e6d412886943cf456d808d46cca842bfb7ed712d372", func := "loop.example/g01269/laws.FnExactSubTree", spec := "fnExactSubTree", unfollowed := true, recurses := true, apart := false }
def FnExactSubTreeSaid : Prop := fnExactSubTreeRow.holds Try.pinned (OpenSpec.ofChange fnExactSubTreeSpec)

/-- ITS FALSE NEIGHBOUR: 'it returns false'. Refute it at one input. -/
def fnExactSubTreeWrong : ChangeSpec := { name := "fnExactSubTree", fn := fun _ => fun
  | [d1, d2, d3] => { results := [.lit (.bool false)], args := [d1, d2, d3] }
  | _ => none }
def FnExactSubTreeWrongFalsely : Prop := fnExactSubTreeRow.holds Try.pinned (OpenSpec.ofChange fnExactSubTreeWrong)

/-- 'laws.FnExactDoTurn': WHATEVER THE INPUT: true; the input reads as it did. -/
def fnExactDoTurnSpec : ChangeSpec := { name := "fnExactDoTurn", fn := fun _ => fun
  | [d1, d2] => { results := [.lit (.bool true)], args := [d1, d2] }
  | _ => none }
def fnExactDoTurnRow : OpenClaim := { program := "ytbaooedhbihkjaa", sum := "2fdfc936557c7505ee853e6d412886943cf456d808d46cca842bfb7ed712d372", func := "loop.example/g01269/laws.FnExactDoTurn", spec := "fnExactDoTurn", unfollowed := true, recurses := true, apart := false }
def FnExactDoTurnSaid : Prop := fnExactDoTurnRow.holds Try.pinned (OpenSpec.ofChange fnExactDoTurnSpec)

/-- ITS FALSE NEIGHBOUR: 'it returns false'. Refute it at one input. -/
def fnExactDoTurnWrong : ChangeSpec := { name := "fnExactDoTurn", fn := fun _ => fun
  | [d1, d2] => { results := [.lit (.bool false)], args := [d1, d2] }
  | _ => none }
def FnExactDoTurnWrongFalsely : Prop := fnExactDoTurnRow.holds Try.pinned (OpenSpec.ofChange fnExactDoTurnWrong)

/-- 'laws.FnExactCutTree': WHATEVER THE INPUT: true; the input reads as it did. -/
def fnExactCutTreeSpec : ChangeSpec := { name := "fnExactCutTree", fn := fun _ => fun
  | [d1, d2, d3] => { results := [.lit (.bool true)], args := [d1, d2, d3] }
  | _ => none }
def fnExactCutTreeRow : OpenClaim := { program := "ytbaooedhbihkjaa", sum := "2fdfc936557c7505ee853e6d412886943cf456d808d46cca842bfb7ed712d372", func := "loop.example/g01269/laws.FnExactCutTree", spec := "fnExactCutTree", unfollowed := true, recurses := true, apart := false }
def FnExactCutTreeSaid : Prop := fnExactCutTreeRow.holds Try.pinned (OpenSpec.ofChange fnExactCutTreeSpec)

/-- ITS FALSE NEIGHBOUR: 'it returns false'. Refute it at one input. -/
def fnExactCutTreeWrong : ChangeSpec := { name := "fnExactCutTree", fn := fun _ => fun
  | [d1, d2, d3] => { results := [.lit (.bool false)], args := [d1, d2, d3] }
  | _ => none }
def FnExactCutTreeWrongFalsely : Prop := fnExactCutTreeRow.holds Try.pinned (OpenSpec.ofChange fnExactCutTreeWrong)

/-- 'laws.FnExactMostAtLeaf': WHATEVER THE INPUT: true; the input reads as it did. -/
def fnExactMostAtLeafSpec : ChangeSpec := { name := "fnExactMostAtLeaf", fn := fun _ => fun
  | [d1, d2, d3] => { results := [.lit (.bool true)], args := [d1, d2, d3] }
  | _ => none }
def fnExactMostAtLeafRow : OpenClaim := { program := "ytbaooedhbihkjaa", sum := "2fdfc936557c7505ee853e6d412886943cf456d808d46cca842bfb7ed712d372", func := "loop.example/g01269/laws.FnExactMostAtLeaf", spec := "fnExactMostAtLeaf", unfollowed := true, recurses := true, apart := false }
def FnExactMostAtLeafSaid : Prop := fnExactMostAtLeafRow.holds Try.pinned (OpenSpec.ofChange fnExactMostAtLeafSpec)

/-- ITS FALSE NEIGHBOUR: 'it returns false'. Refute it at one input. -/
def fnExactMostAtLeafWrong : ChangeSpec := { name := "fnExactMostAtLeaf", fn := fun _ => fun
  | [d1, d2, d3] => { results := [.lit (.bool false)], args := [d1, d2, d3] }
  | _ => none }
def FnExactMostAtLeafWrongFalsely : Prop := fnExactMostAtLeafRow.holds Try.pinned (OpenSpec.ofChange fnExactMostAtLeafWrong)

/-- 'laws.FnExactIsGoodTree': WHATEVER THE INPUT: true; the input reads as it did. -/
def fnExactIsGoodTreeSpec : ChangeSpec := { name := "fnExactIsGoodTree", fn := fun _ => fun
  | [d1, d2, d3] => { results := [.lit (.bool true)], args := [d1, d2, d3] }
  | _ => none }
def fnExactIsGoodTreeRow : OpenClaim := { program := "ytbaooedhbihkjaa", sum := "2fdfc936557c7505ee853e6d412886943cf456d808d46cca842bfb7ed712d372", func := "loop.example/g01269/laws.FnExactIsGoodTree", spec := "fnExactIsGoodTree", unfollowed := true, recurses := true, apart := false }
def FnExactIsGoodTreeSaid : Prop := fnExactIsGoodTreeRow.holds Try.pinned (OpenSpec.ofChange fnExactIsGoodTreeSpec)

/-- ITS FALSE NEIGHBOUR: 'it returns false'. Refute it at one input. -/
def fnExactIsGoodTreeWrong : ChangeSpec := { name := "fnExactIsGoodTree", fn := fun _ => fun
  | [d1, d2, d3] => { results := [.lit (.bool false)], args := [d1, d2, d3] }
  | _ => none }
def FnExactIsGoodTreeWrongFalsely : Prop := fnExactIsGoodTreeRow.holds Try.pinned (OpenSpec.ofChange fnExactIsGoodTreeWrong)

/- THE SECOND FORM. 'bulk': how many values and letters a reading holds, each counted each time it is reached (what is shared counts as often as it is met; a slice's spare places count too). A statement '..UptoSaid' is the law's where the arguments, and the package variables that the reading takes, are together of bulk at most 1048576: NARROWER than '..Said'. Prove '..Said' where nothing that the law and all that it calls make is longer than what came in: it says more and counts as full. Else prove '..UptoSaid'. A law counts once. -/
mutual
def uptoBulk {H : Type} : DataW H → Nat
  | .lit (.string bytes) => bytes.length + 1
  | .lit _ => 1
  | .nil => 1
  | .ptr d => uptoBulk d + 1
  | .slice elems spare => uptoBulkAll elems + uptoBulkAll spare + 1
  | .agg parts => uptoBulkAll parts + 1
  | .iface _ d => uptoBulk d + 1
  | .map entries => uptoBulkEntries entries + 1
  | .held _ => 1
def uptoBulkAll {H : Type} : List (DataW H) → Nat
  | [] => 0
  | d :: r => uptoBulk d + uptoBulkAll r
def uptoBulkEntries {H : Type} : List (Lit × DataW H) → Nat
  | [] => 0
  | x :: r => uptoBulkEntry x + uptoBulkEntries r
def uptoBulkEntry {H : Type} : Lit × DataW H → Nat
  | (.string bytes, d) => bytes.length + uptoBulk d + 1
  | (_, d) => uptoBulk d + 1
 end
def uptoSmall : (H : Type) → List (DataW H) → Bool := fun _ ds => decide (uptoBulkAll ds ≤ 1048576)
def OpenSpec.upto (s : _root_.Go.ChangeSpec) : _root_.Go.OpenSpec := { _root_.Go.OpenSpec.ofChange s with cond := some uptoSmall }

/-- 'laws.FnExactStateOfRoom', WHERE WHAT IT READS IS OF BULK AT MOST 1048576: true; the input reads as it did. -/
def fnExactStateOfRoomUptoRow : OpenClaim := { program := "ytbaooedhbihkjaa", sum := "2fdfc936557c7505ee853e6d412886943cf456d808d46cca842bfb7ed712d372", func := "loop.example/g01269/laws.FnExactStateOfRoom", spec := "fnExactStateOfRoom", unfollowed := true, recurses := true, apart := false, narrowed := true }
def FnExactStateOfRoomUptoSaid : Prop := fnExactStateOfRoomUptoRow.holds Try.pinned (OpenSpec.upto fnExactStateOfRoomSpec)

/-- 'laws.FnBalanced', WHERE WHAT IT READS IS OF BULK AT MOST 1048576: true; the input reads as it did. -/
def fnBalancedUptoRow : OpenClaim := { program := "ytbaooedhbihkjaa", sum := "2fdfc936557c7505ee853e6d412886943cf456d808d46cca842bfb7ed712d372", func := "loop.example/g01269/laws.FnBalanced", spec := "fnBalanced", unfollowed := true, recurses := true, apart := false, narrowed := true }
def FnBalancedUptoSaid : Prop := fnBalancedUptoRow.holds Try.pinned (OpenSpec.upto fnBalancedSpec)

/-- 'laws.FnExactLeavesOf', WHERE WHAT IT READS IS OF BULK AT MOST 1048576: true; the input reads as it did. -/
def fnExactLeavesOfUptoRow : OpenClaim := { program := "ytbaooedhbihkjaa", sum := "2fdfc936557c7505ee853e6d412886943cf456d808d46cca842bfb7ed712d372", func := "loop.example/g01269/laws.FnExactLeavesOf", spec := "fnExactLeavesOf", recurses := true, apart := false, narrowed := true }
def FnExactLeavesOfUptoSaid : Prop := fnExactLeavesOfUptoRow.holds Try.pinned (OpenSpec.upto fnExactLeavesOfSpec)

/-- 'laws.FnExactFairAnswers', WHERE WHAT IT READS IS OF BULK AT MOST 1048576: true; the input reads as it did. -/
def fnExactFairAnswersUptoRow : OpenClaim := { program := "ytbaooedhbihkjaa", sum := "2fdfc936557c7505ee853e6d412886943cf456d808d46cca842bfb7ed712d372", func := "loop.example/g01269/laws.FnExactFairAnswers", spec := "fnExactFairAnswers", unfollowed := true, recurses := true, apart := false, narrowed := true }
def FnExactFairAnswersUptoSaid : Prop := fnExactFairAnswersUptoRow.holds Try.pinned (OpenSpec.upto fnExactFairAnswersSpec)

/-- 'laws.FnExactWayTo', WHERE WHAT IT READS IS OF BULK AT MOST 1048576: true; the input reads as it did. -/
def fnExactWayToUptoRow : OpenClaim := { program := "ytbaooedhbihkjaa", sum := "2fdfc936557c7505ee853e6d412886943cf456d808d46cca842bfb7ed712d372", func := "loop.example/g01269/laws.FnExactWayTo", spec := "fnExactWayTo", recurses := true, apart := false, narrowed := true }
def FnExactWayToUptoSaid : Prop := fnExactWayToUptoRow.holds Try.pinned (OpenSpec.upto fnExactWayToSpec)

/-- 'laws.FnTrees', WHERE WHAT IT READS IS OF BULK AT MOST 1048576: true; the input reads as it did. -/
def fnTreesUptoRow : OpenClaim := { program := "ytbaooedhbihkjaa", sum := "2fdfc936557c7505ee853e6d412886943cf456d808d46cca842bfb7ed712d372", func := "loop.example/g01269/laws.FnTrees", spec := "fnTrees", unfollowed := true, recurses := true, apart := false, narrowed := true }
def FnTreesUptoSaid : Prop := fnTreesUptoRow.holds Try.pinned (OpenSpec.upto fnTreesSpec)

/-- 'laws.FnExactTurnTree', WHERE WHAT IT READS IS OF BULK AT MOST 1048576: true; the input reads as it did. -/
def fnExactTurnTreeUptoRow : OpenClaim := { program := "ytbaooedhbihkjaa", sum := "2fdfc936557c7505ee853e6d412886943cf456d808d46cca842bfb7ed712d372", func := "loop.example/g01269/laws.FnExactTurnTree", spec := "fnExactTurnTree", unfollowed := true, recurses := true, apart := false, narrowed := true }
def FnExactTurnTreeUptoSaid : Prop := fnExactTurnTreeUptoRow.holds Try.pinned (OpenSpec.upto fnExactTurnTreeSpec)

/-- 'laws.FnExactSubTree', WHERE WHAT IT READS IS OF BULK AT MOST 1048576: true; the input reads as it did. -/
def fnExactSubTreeUptoRow : OpenClaim := { program := "ytbaooedhbihkjaa", sum := "2fdfc936557c7505ee853e6d412886943cf456d808d46cca842bfb7ed712d372", func := "loop.example/g01269/laws.FnExactSubTree", spec := "fnExactSubTree", unfollowed := true, recurses := true, apart := false, narrowed := true }
def FnExactSubTreeUptoSaid : Prop := fnExactSubTreeUptoRow.holds Try.pinned (OpenSpec.upto fnExactSubTreeSpec)

/-- 'laws.FnExactDoTurn', WHERE WHAT IT READS IS OF BULK AT MOST 1048576: true; the input reads as it did. -/
def fnExactDoTurnUptoRow : OpenClaim := { program := "ytbaooedhbihkjaa", sum := "2fdfc936557c7505ee853e6d412886943cf456d808d46cca842bfb7ed712d372", func := "loop.example/g01269/laws.FnExactDoTurn", spec := "fnExactDoTurn", unfollowed := true, recurses := true, apart := false, narrowed := true }
def FnExactDoTurnUptoSaid : Prop := fnExactDoTurnUptoRow.holds Try.pinned (OpenSpec.upto fnExactDoTurnSpec)

/-- 'laws.FnExactCutTree', WHERE WHAT IT READS IS OF BULK AT MOST 1048576: true; the input reads as it did. -/
def fnExactCutTreeUptoRow : OpenClaim := { program := "ytbaooedhbihkjaa", sum := "2fdfc936557c7505ee853e6d412886943cf456d808d46cca842bfb7ed712d372", func := "loop.example/g01269/laws.FnExactCutTree", spec := "fnExactCutTree", unfollowed := true, recurses := true, apart := false, narrowed := true }
def FnExactCutTreeUptoSaid : Prop := fnExactCutTreeUptoRow.holds Try.pinned (OpenSpec.upto fnExactCutTreeSpec)

/-- 'laws.FnExactMostAtLeaf', WHERE WHAT IT READS IS OF BULK AT MOST 1048576: true; the input reads as it did. -/
def fnExactMostAtLeafUptoRow : OpenClaim := { program := "ytbaooedhbihkjaa", sum := "2fdfc936557c7505ee853e6d412886943cf456d808d46cca842bfb7ed712d372", func := "loop.example/g01269/laws.FnExactMostAtLeaf", spec := "fnExactMostAtLeaf", unfollowed := true, recurses := true, apart := false, narrowed := true }
def FnExactMostAtLeafUptoSaid : Prop := fnExactMostAtLeafUptoRow.holds Try.pinned (OpenSpec.upto fnExactMostAtLeafSpec)

/-- 'laws.FnExactIsGoodTree', WHERE WHAT IT READS IS OF BULK AT MOST 1048576: true; the input reads as it did. -/
def fnExactIsGoodTreeUptoRow : OpenClaim := { program := "ytbaooedhbihkjaa", sum := "2fdfc936557c7505ee853e6d412886943cf456d808d46cca842bfb7ed712d372", func := "loop.example/g01269/laws.FnExactIsGoodTree", spec := "fnExactIsGoodTree", unfollowed := true, recurses := true, apart := false, narrowed := true }
def FnExactIsGoodTreeUptoSaid : Prop := fnExactIsGoodTreeUptoRow.holds Try.pinned (OpenSpec.upto fnExactIsGoodTreeSpec)

end Rows
end Go.Proofs.Ytbaooedhbihkjaa
