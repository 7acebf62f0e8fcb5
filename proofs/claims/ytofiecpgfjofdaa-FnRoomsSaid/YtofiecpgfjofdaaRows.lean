/-
  No cell of these rows narrows 'for every input' (looked for: loops, veiled, ifaces, maps, wideKeys, modest, calm, conditions, laid).
  DERIVED. THE GIVEN ROWS OF THIS SEAT. 8 by the template 'for every input the law returns true; each argument reads behind the call as it read before'; 0 by the template 'total and deterministic' (their statements: YtofiecpgfjofdaaTotals.lean).
  GIVEN WITH THE SEED: the statements are not yours to turn. If you find one false, say at which input.
  Laid BY PROGRAM, IN A SANDBOX (cutbox-rows.mjs): the forced cells as the released guide's own fill.sh prints them over the translation da59ceba5441931f… (all of the seat's roots in one cut). By AI agents, Wed Nov 11 2026. No macro, syntax, notation, axiom, sorry.
-/
import Derived.Test.YtofiecpgfjofdaaChecked
import GoSem.Claim
import GoSem.ClaimJoined
import GoSem.ClaimMapViews
import Derived.JoinedTies
import Derived.KernelRfl
namespace Go.Proofs.Ytofiecpgfjofdaa
/- THE CELL 'sum', in the pinned program and in every row, IS THE sha256 OF THE DUMP (.gsa) THAT YtofiecpgfjofdaaProg.lean LOADS. Nothing in Lean hashes anything: it is a label: what it is worth is what the hold of that sum in a sandbox is worth. -/
noncomputable def Try.pinned : Pinned := { name := "ytofiecpgfjofdaa", sum := "da59ceba5441931f71da95514d2a514f219db36478b95ece61f317fd372a181c", checked := Try.checked }
namespace Rows
def none {H : Type} : Left H := { results := [], args := [] }

/-- 'laws.FnExactStateAt': WHATEVER THE INPUT: true; the input reads as it did. -/
def fnExactStateAtSpec : ChangeSpec := { name := "fnExactStateAt", fn := fun _ => fun
  | [d1, d2, d3, d4] => { results := [.lit (.bool true)], args := [d1, d2, d3, d4] }
  | _ => none }
def fnExactStateAtRow : OpenClaim := { program := "ytofiecpgfjofdaa", sum := "da59ceba5441931f71da95514d2a514f219db36478b95ece61f317fd372a181c", func := "loop.example/g01269/laws.FnExactStateAt", spec := "fnExactStateAt", unfollowed := true, recurses := true, apart := false }
def FnExactStateAtSaid : Prop := fnExactStateAtRow.holds Try.pinned (OpenSpec.ofChange fnExactStateAtSpec)

/-- ITS FALSE NEIGHBOUR: 'it returns false'. Refute it at one input. -/
def fnExactStateAtWrong : ChangeSpec := { name := "fnExactStateAt", fn := fun _ => fun
  | [d1, d2, d3, d4] => { results := [.lit (.bool false)], args := [d1, d2, d3, d4] }
  | _ => none }
def FnExactStateAtWrongFalsely : Prop := fnExactStateAtRow.holds Try.pinned (OpenSpec.ofChange fnExactStateAtWrong)

/-- 'laws.FnGoodTrees': WHATEVER THE INPUT: true; the input reads as it did. -/
def fnGoodTreesSpec : ChangeSpec := { name := "fnGoodTrees", fn := fun _ => fun
  | [d] => { results := [.lit (.bool true)], args := [d] }
  | _ => none }
def fnGoodTreesRow : OpenClaim := { program := "ytofiecpgfjofdaa", sum := "da59ceba5441931f71da95514d2a514f219db36478b95ece61f317fd372a181c", func := "loop.example/g01269/laws.FnGoodTrees", spec := "fnGoodTrees", unfollowed := true, recurses := true, apart := false }
def FnGoodTreesSaid : Prop := fnGoodTreesRow.holds Try.pinned (OpenSpec.ofChange fnGoodTreesSpec)

/-- ITS FALSE NEIGHBOUR: 'it returns false'. Refute it at one input. -/
def fnGoodTreesWrong : ChangeSpec := { name := "fnGoodTrees", fn := fun _ => fun
  | [d] => { results := [.lit (.bool false)], args := [d] }
  | _ => none }
def FnGoodTreesWrongFalsely : Prop := fnGoodTreesRow.holds Try.pinned (OpenSpec.ofChange fnGoodTreesWrong)

/-- 'laws.FnWeights': WHATEVER THE INPUT: true; the input reads as it did. -/
def fnWeightsSpec : ChangeSpec := { name := "fnWeights", fn := fun _ => fun
  | [d] => { results := [.lit (.bool true)], args := [d] }
  | _ => none }
def fnWeightsRow : OpenClaim := { program := "ytofiecpgfjofdaa", sum := "da59ceba5441931f71da95514d2a514f219db36478b95ece61f317fd372a181c", func := "loop.example/g01269/laws.FnWeights", spec := "fnWeights", unfollowed := true, recurses := true, apart := false }
def FnWeightsSaid : Prop := fnWeightsRow.holds Try.pinned (OpenSpec.ofChange fnWeightsSpec)

/-- ITS FALSE NEIGHBOUR: 'it returns false'. Refute it at one input. -/
def fnWeightsWrong : ChangeSpec := { name := "fnWeights", fn := fun _ => fun
  | [d] => { results := [.lit (.bool false)], args := [d] }
  | _ => none }
def FnWeightsWrongFalsely : Prop := fnWeightsRow.holds Try.pinned (OpenSpec.ofChange fnWeightsWrong)

/-- 'laws.FnOneWays': WHATEVER THE INPUT: true; the input reads as it did. -/
def fnOneWaysSpec : ChangeSpec := { name := "fnOneWays", fn := fun _ => fun
  | [d] => { results := [.lit (.bool true)], args := [d] }
  | _ => none }
def fnOneWaysRow : OpenClaim := { program := "ytofiecpgfjofdaa", sum := "da59ceba5441931f71da95514d2a514f219db36478b95ece61f317fd372a181c", func := "loop.example/g01269/laws.FnOneWays", spec := "fnOneWays", unfollowed := true, recurses := true, apart := false }
def FnOneWaysSaid : Prop := fnOneWaysRow.holds Try.pinned (OpenSpec.ofChange fnOneWaysSpec)

/-- ITS FALSE NEIGHBOUR: 'it returns false'. Refute it at one input. -/
def fnOneWaysWrong : ChangeSpec := { name := "fnOneWays", fn := fun _ => fun
  | [d] => { results := [.lit (.bool false)], args := [d] }
  | _ => none }
def FnOneWaysWrongFalsely : Prop := fnOneWaysRow.holds Try.pinned (OpenSpec.ofChange fnOneWaysWrong)

/-- 'laws.FnExactDoTurns': WHATEVER THE INPUT: true; the input reads as it did. -/
def fnExactDoTurnsSpec : ChangeSpec := { name := "fnExactDoTurns", fn := fun _ => fun
  | [d1, d2] => { results := [.lit (.bool true)], args := [d1, d2] }
  | _ => none }
def fnExactDoTurnsRow : OpenClaim := { program := "ytofiecpgfjofdaa", sum := "da59ceba5441931f71da95514d2a514f219db36478b95ece61f317fd372a181c", func := "loop.example/g01269/laws.FnExactDoTurns", spec := "fnExactDoTurns", unfollowed := true, recurses := true, apart := false }
def FnExactDoTurnsSaid : Prop := fnExactDoTurnsRow.holds Try.pinned (OpenSpec.ofChange fnExactDoTurnsSpec)

/-- ITS FALSE NEIGHBOUR: 'it returns false'. Refute it at one input. -/
def fnExactDoTurnsWrong : ChangeSpec := { name := "fnExactDoTurns", fn := fun _ => fun
  | [d1, d2] => { results := [.lit (.bool false)], args := [d1, d2] }
  | _ => none }
def FnExactDoTurnsWrongFalsely : Prop := fnExactDoTurnsRow.holds Try.pinned (OpenSpec.ofChange fnExactDoTurnsWrong)

/-- 'laws.FnQuestions': WHATEVER THE INPUT: true; the input reads as it did. -/
def fnQuestionsSpec : ChangeSpec := { name := "fnQuestions", fn := fun _ => fun
  | [d] => { results := [.lit (.bool true)], args := [d] }
  | _ => none }
def fnQuestionsRow : OpenClaim := { program := "ytofiecpgfjofdaa", sum := "da59ceba5441931f71da95514d2a514f219db36478b95ece61f317fd372a181c", func := "loop.example/g01269/laws.FnQuestions", spec := "fnQuestions", unfollowed := true, recurses := true, apart := false }
def FnQuestionsSaid : Prop := fnQuestionsRow.holds Try.pinned (OpenSpec.ofChange fnQuestionsSpec)

/-- ITS FALSE NEIGHBOUR: 'it returns false'. Refute it at one input. -/
def fnQuestionsWrong : ChangeSpec := { name := "fnQuestions", fn := fun _ => fun
  | [d] => { results := [.lit (.bool false)], args := [d] }
  | _ => none }
def FnQuestionsWrongFalsely : Prop := fnQuestionsRow.holds Try.pinned (OpenSpec.ofChange fnQuestionsWrong)

/-- 'laws.FnAfter': WHATEVER THE INPUT: true; the input reads as it did. -/
def fnAfterSpec : ChangeSpec := { name := "fnAfter", fn := fun _ => fun
  | [d] => { results := [.lit (.bool true)], args := [d] }
  | _ => none }
def fnAfterRow : OpenClaim := { program := "ytofiecpgfjofdaa", sum := "da59ceba5441931f71da95514d2a514f219db36478b95ece61f317fd372a181c", func := "loop.example/g01269/laws.FnAfter", spec := "fnAfter", unfollowed := true, recurses := true, apart := false }
def FnAfterSaid : Prop := fnAfterRow.holds Try.pinned (OpenSpec.ofChange fnAfterSpec)

/-- ITS FALSE NEIGHBOUR: 'it returns false'. Refute it at one input. -/
def fnAfterWrong : ChangeSpec := { name := "fnAfter", fn := fun _ => fun
  | [d] => { results := [.lit (.bool false)], args := [d] }
  | _ => none }
def FnAfterWrongFalsely : Prop := fnAfterRow.holds Try.pinned (OpenSpec.ofChange fnAfterWrong)

/-- 'laws.FnRooms': WHATEVER THE INPUT: true; the input reads as it did. -/
def fnRoomsSpec : ChangeSpec := { name := "fnRooms", fn := fun _ => fun
  | [d] => { results := [.lit (.bool true)], args := [d] }
  | _ => none }
def fnRoomsRow : OpenClaim := { program := "ytofiecpgfjofdaa", sum := "da59ceba5441931f71da95514d2a514f219db36478b95ece61f317fd372a181c", func := "loop.example/g01269/laws.FnRooms", spec := "fnRooms", unfollowed := true, recurses := true, apart := false }
def FnRoomsSaid : Prop := fnRoomsRow.holds Try.pinned (OpenSpec.ofChange fnRoomsSpec)

/-- ITS FALSE NEIGHBOUR: 'it returns false'. Refute it at one input. -/
def fnRoomsWrong : ChangeSpec := { name := "fnRooms", fn := fun _ => fun
  | [d] => { results := [.lit (.bool false)], args := [d] }
  | _ => none }
def FnRoomsWrongFalsely : Prop := fnRoomsRow.holds Try.pinned (OpenSpec.ofChange fnRoomsWrong)

/- THE SECOND FORM. 'bulk': how many values and letters a reading holds, each counted each time it is reached (what is shared counts as often as it is met; a slice's spare places count too). A statement '..UptoSaid' is the law's where the arguments, and the package variables that the reading takes, are together of bulk at most 1048576: NARROWER than '..Said'. Prove '..Said' where nothing that the law and all that it calls make is longer than what came in: it says more and counts as full. Else prove '..UptoSaid'. A law counts once. -/
mutual
def uptoBulk {H : Type} : DataW H → Nat
  | .lit (.string bytes) => bytes.length + 1
  | .lit _ => 1
  | .nil => 1
  | .ptr d => uptoBulk d + 1
  | .slice elems spare => uptoBulkAll elems + uptoBulkAll spare + 1
  | .agg parts => uptoBulkAll parts + 1
  | .iface _ d => uptoBulk d + 1
  | .map entries => uptoBulkEntries entries + 1
  | .held _ => 1
def uptoBulkAll {H : Type} : List (DataW H) → Nat
  | [] => 0
  | d :: r => uptoBulk d + uptoBulkAll r
def uptoBulkEntries {H : Type} : List (Lit × DataW H) → Nat
  | [] => 0
  | x :: r => uptoBulkEntry x + uptoBulkEntries r
def uptoBulkEntry {H : Type} : Lit × DataW H → Nat
  | (.string bytes, d) => bytes.length + uptoBulk d + 1
  | (_, d) => uptoBulk d + 1
 end
def uptoSmall : (H : Type) → List (DataW H) → Bool := fun _ ds => decide (uptoBulkAll ds ≤ 1048576)
def OpenSpec.upto (s : _root_.Go.ChangeSpec) : _root_.Go.OpenSpec := { _root_.Go.OpenSpec.ofChange s with cond := some uptoSmall }

/-- 'laws.FnExactStateAt', WHERE WHAT IT READS IS OF BULK AT MOST 1048576: true; the input reads as it did. -/
def fnExactStateAtUptoRow : OpenClaim := { program := "ytofiecpgfjofdaa", sum := "da59ceba5441931f71da95514d2a514f219db36478b95ece61f317fd372a181c", func := "loop.example/g01269/laws.FnExactStateAt", spec := "fnExactStateAt", unfollowed := true, recurses := true, apart := false, narrowed := true }
def FnExactStateAtUptoSaid : Prop := fnExactStateAtUptoRow.holds Try.pinned (OpenSpec.upto fnExactStateAtSpec)

/-- 'laws.FnGoodTrees', WHERE WHAT IT READS IS OF BULK AT MOST 1048576: true; the input reads as it did. -/
def fnGoodTreesUptoRow : OpenClaim := { program := "ytofiecpgfjofdaa", sum := "da59ceba5441931f71da95514d2a514f219db36478b95ece61f317fd372a181c", func := "loop.example/g01269/laws.FnGoodTrees", spec := "fnGoodTrees", unfollowed := true, recurses := true, apart := false, narrowed := true }
def FnGoodTreesUptoSaid : Prop := fnGoodTreesUptoRow.holds Try.pinned (OpenSpec.upto fnGoodTreesSpec)

/-- 'laws.FnWeights', WHERE WHAT IT READS IS OF BULK AT MOST 1048576: true; the input reads as it did. -/
def fnWeightsUptoRow : OpenClaim := { program := "ytofiecpgfjofdaa", sum := "da59ceba5441931f71da95514d2a514f219db36478b95ece61f317fd372a181c", func := "loop.example/g01269/laws.FnWeights", spec := "fnWeights", unfollowed := true, recurses := true, apart := false, narrowed := true }
def FnWeightsUptoSaid : Prop := fnWeightsUptoRow.holds Try.pinned (OpenSpec.upto fnWeightsSpec)

/-- 'laws.FnOneWays', WHERE WHAT IT READS IS OF BULK AT MOST 1048576: true; the input reads as it did. -/
def fnOneWaysUptoRow : OpenClaim := { program := "ytofiecpgfjofdaa", sum := "da59ceba5441931f71da95514d2a514f219db36478b95ece61f317fd372a181c", func := "loop.example/g01269/laws.FnOneWays", spec := "fnOneWays", unfollowed := true, recurses := true, apart := false, narrowed := true }
def FnOneWaysUptoSaid : Prop := fnOneWaysUptoRow.holds Try.pinned (OpenSpec.upto fnOneWaysSpec)

/-- 'laws.FnExactDoTurns', WHERE WHAT IT READS IS OF BULK AT MOST 1048576: true; the input reads as it did. -/
def fnExactDoTurnsUptoRow : OpenClaim := { program := "ytofiecpgfjofdaa", sum := "da59ceba5441931f71da95514d2a514f219db36478b95ece61f317fd372a181c", func := "loop.example/g01269/laws.FnExactDoTurns", spec := "fnExactDoTurns", unfollowed := true, recurses := true, apart := false, narrowed := true }
def FnExactDoTurnsUptoSaid : Prop := fnExactDoTurnsUptoRow.holds Try.pinned (OpenSpec.upto fnExactDoTurnsSpec)

/-- 'laws.FnQuestions', WHERE WHAT IT READS IS OF BULK AT MOST 1048576: true; the input reads as it did. -/
def fnQuestionsUptoRow : OpenClaim := { program := "ytofiecpgfjofdaa", sum := "da59ceba5441931f71da95514d2a514f219db36478b95ece61f317fd372a181c", func := "loop.example/g01269/laws.FnQuestions", spec := "fnQuestions", unfollowed := true, recurses := true, apart := false, narrowed := true }
def FnQuestionsUptoSaid : Prop := fnQuestionsUptoRow.holds Try.pinned (OpenSpec.upto fnQuestionsSpec)

/-- 'laws.FnAfter', WHERE WHAT IT READS IS OF BULK AT MOST 1048576: true; the input reads as it did. -/
def fnAfterUptoRow : OpenClaim := { program := "ytofiecpgfjofdaa", sum := "da59ceba5441931f71da95514d2a514f219db36478b95ece61f317fd372a181c", func := "loop.example/g01269/laws.FnAfter", spec := "fnAfter", unfollowed := true, recurses := true, apart := false, narrowed := true }
def FnAfterUptoSaid : Prop := fnAfterUptoRow.holds Try.pinned (OpenSpec.upto fnAfterSpec)

/-- 'laws.FnRooms', WHERE WHAT IT READS IS OF BULK AT MOST 1048576: true; the input reads as it did. -/
def fnRoomsUptoRow : OpenClaim := { program := "ytofiecpgfjofdaa", sum := "da59ceba5441931f71da95514d2a514f219db36478b95ece61f317fd372a181c", func := "loop.example/g01269/laws.FnRooms", spec := "fnRooms", unfollowed := true, recurses := true, apart := false, narrowed := true }
def FnRoomsUptoSaid : Prop := fnRoomsUptoRow.holds Try.pinned (OpenSpec.upto fnRoomsSpec)

end Rows
end Go.Proofs.Ytofiecpgfjofdaa
