/-
  No cell of these rows narrows 'for every input' (looked for: loops, veiled, ifaces, maps, wideKeys, modest, calm, conditions, laid).
  DERIVED. THE GIVEN ROWS OF THIS SEAT. 9 by the template 'for every input the law returns true; each argument reads behind the call as it read before'; 0 by the template 'total and deterministic' (their statements: YtnpdbllidpijfaaTotals.lean).
  GIVEN WITH THE SEED: the statements are not yours to turn. If you find one false, say at which input.
  Laid BY PROGRAM, IN A SANDBOX (cutbox-rows.mjs): the forced cells as the released guide's own fill.sh prints them over the translation c79c917fb6cf2916… (all of the seat's roots in one cut). By AI agents, Wed Nov 11 2026. No macro, syntax, notation, axiom, sorry.
-/
import Derived.Test.YtnpdbllidpijfaaChecked
import GoSem.Claim
import GoSem.ClaimJoined
import GoSem.ClaimMapViews
import Derived.JoinedTies
import Derived.KernelRfl
namespace Go.Proofs.Ytnpdbllidpijfaa
/- THE CELL 'sum', in the pinned program and in every row, IS THE sha256 OF THE DUMP (.gsa) THAT YtnpdbllidpijfaaProg.lean LOADS. Nothing in Lean hashes anything: it is a label: what it is worth is what the hold of that sum in a sandbox is worth. -/
noncomputable def Try.pinned : Pinned := { name := "ytnpdbllidpijfaa", sum := "c79c917fb6cf29165229b157f04595f042e775478086c0c240973b361a154a89", checked := Try.checked }
namespace Rows
def none {H : Type} : Left H := { results := [], args := [] }

/-- 'laws.FnExactCountRaces': WHATEVER THE INPUT: true; the input reads as it did. -/
def fnExactCountRacesSpec : ChangeSpec := { name := "fnExactCountRaces", fn := fun _ => fun
  | [d1, d2] => { results := [.lit (.bool true)], args := [d1, d2] }
  | _ => none }
def fnExactCountRacesRow : OpenClaim := { program := "ytnpdbllidpijfaa", sum := "c79c917fb6cf29165229b157f04595f042e775478086c0c240973b361a154a89", func := "loop.example/g01269/laws.FnExactCountRaces", spec := "fnExactCountRaces", unfollowed := true, recurses := true, apart := false }
def FnExactCountRacesSaid : Prop := fnExactCountRacesRow.holds Try.pinned (OpenSpec.ofChange fnExactCountRacesSpec)

/-- ITS FALSE NEIGHBOUR: 'it returns false'. Refute it at one input. -/
def fnExactCountRacesWrong : ChangeSpec := { name := "fnExactCountRaces", fn := fun _ => fun
  | [d1, d2] => { results := [.lit (.bool false)], args := [d1, d2] }
  | _ => none }
def FnExactCountRacesWrongFalsely : Prop := fnExactCountRacesRow.holds Try.pinned (OpenSpec.ofChange fnExactCountRacesWrong)

/-- 'laws.FnExactLongestRace': WHATEVER THE INPUT: true; the input reads as it did. -/
def fnExactLongestRaceSpec : ChangeSpec := { name := "fnExactLongestRace", fn := fun _ => fun
  | [d1, d2] => { results := [.lit (.bool true)], args := [d1, d2] }
  | _ => none }
def fnExactLongestRaceRow : OpenClaim := { program := "ytnpdbllidpijfaa", sum := "c79c917fb6cf29165229b157f04595f042e775478086c0c240973b361a154a89", func := "loop.example/g01269/laws.FnExactLongestRace", spec := "fnExactLongestRace", unfollowed := true, recurses := true, apart := false }
def FnExactLongestRaceSaid : Prop := fnExactLongestRaceRow.holds Try.pinned (OpenSpec.ofChange fnExactLongestRaceSpec)

/-- ITS FALSE NEIGHBOUR: 'it returns false'. Refute it at one input. -/
def fnExactLongestRaceWrong : ChangeSpec := { name := "fnExactLongestRace", fn := fun _ => fun
  | [d1, d2] => { results := [.lit (.bool false)], args := [d1, d2] }
  | _ => none }
def FnExactLongestRaceWrongFalsely : Prop := fnExactLongestRaceRow.holds Try.pinned (OpenSpec.ofChange fnExactLongestRaceWrong)

/-- 'laws.FnExactShortestRace': WHATEVER THE INPUT: true; the input reads as it did. -/
def fnExactShortestRaceSpec : ChangeSpec := { name := "fnExactShortestRace", fn := fun _ => fun
  | [d1, d2] => { results := [.lit (.bool true)], args := [d1, d2] }
  | _ => none }
def fnExactShortestRaceRow : OpenClaim := { program := "ytnpdbllidpijfaa", sum := "c79c917fb6cf29165229b157f04595f042e775478086c0c240973b361a154a89", func := "loop.example/g01269/laws.FnExactShortestRace", spec := "fnExactShortestRace", unfollowed := true, recurses := true, apart := false }
def FnExactShortestRaceSaid : Prop := fnExactShortestRaceRow.holds Try.pinned (OpenSpec.ofChange fnExactShortestRaceSpec)

/-- ITS FALSE NEIGHBOUR: 'it returns false'. Refute it at one input. -/
def fnExactShortestRaceWrong : ChangeSpec := { name := "fnExactShortestRace", fn := fun _ => fun
  | [d1, d2] => { results := [.lit (.bool false)], args := [d1, d2] }
  | _ => none }
def FnExactShortestRaceWrongFalsely : Prop := fnExactShortestRaceRow.holds Try.pinned (OpenSpec.ofChange fnExactShortestRaceWrong)

/-- 'laws.FnExactRaceWins': WHATEVER THE INPUT: true; the input reads as it did. -/
def fnExactRaceWinsSpec : ChangeSpec := { name := "fnExactRaceWins", fn := fun _ => fun
  | [d1, d2] => { results := [.lit (.bool true)], args := [d1, d2] }
  | _ => none }
def fnExactRaceWinsRow : OpenClaim := { program := "ytnpdbllidpijfaa", sum := "c79c917fb6cf29165229b157f04595f042e775478086c0c240973b361a154a89", func := "loop.example/g01269/laws.FnExactRaceWins", spec := "fnExactRaceWins", unfollowed := true, recurses := true, apart := false }
def FnExactRaceWinsSaid : Prop := fnExactRaceWinsRow.holds Try.pinned (OpenSpec.ofChange fnExactRaceWinsSpec)

/-- ITS FALSE NEIGHBOUR: 'it returns false'. Refute it at one input. -/
def fnExactRaceWinsWrong : ChangeSpec := { name := "fnExactRaceWins", fn := fun _ => fun
  | [d1, d2] => { results := [.lit (.bool false)], args := [d1, d2] }
  | _ => none }
def FnExactRaceWinsWrongFalsely : Prop := fnExactRaceWinsRow.holds Try.pinned (OpenSpec.ofChange fnExactRaceWinsWrong)

/-- 'laws.FnExactWinningQuestions': WHATEVER THE INPUT: true; the input reads as it did. -/
def fnExactWinningQuestionsSpec : ChangeSpec := { name := "fnExactWinningQuestions", fn := fun _ => fun
  | [d1, d2] => { results := [.lit (.bool true)], args := [d1, d2] }
  | _ => none }
def fnExactWinningQuestionsRow : OpenClaim := { program := "ytnpdbllidpijfaa", sum := "c79c917fb6cf29165229b157f04595f042e775478086c0c240973b361a154a89", func := "loop.example/g01269/laws.FnExactWinningQuestions", spec := "fnExactWinningQuestions", unfollowed := true, recurses := true, apart := false }
def FnExactWinningQuestionsSaid : Prop := fnExactWinningQuestionsRow.holds Try.pinned (OpenSpec.ofChange fnExactWinningQuestionsSpec)

/-- ITS FALSE NEIGHBOUR: 'it returns false'. Refute it at one input. -/
def fnExactWinningQuestionsWrong : ChangeSpec := { name := "fnExactWinningQuestions", fn := fun _ => fun
  | [d1, d2] => { results := [.lit (.bool false)], args := [d1, d2] }
  | _ => none }
def FnExactWinningQuestionsWrongFalsely : Prop := fnExactWinningQuestionsRow.holds Try.pinned (OpenSpec.ofChange fnExactWinningQuestionsWrong)

/-- 'laws.FnExactLosingAnswers': WHATEVER THE INPUT: true; the input reads as it did. -/
def fnExactLosingAnswersSpec : ChangeSpec := { name := "fnExactLosingAnswers", fn := fun _ => fun
  | [d1, d2, d3] => { results := [.lit (.bool true)], args := [d1, d2, d3] }
  | _ => none }
def fnExactLosingAnswersRow : OpenClaim := { program := "ytnpdbllidpijfaa", sum := "c79c917fb6cf29165229b157f04595f042e775478086c0c240973b361a154a89", func := "loop.example/g01269/laws.FnExactLosingAnswers", spec := "fnExactLosingAnswers", unfollowed := true, recurses := true, apart := false }
def FnExactLosingAnswersSaid : Prop := fnExactLosingAnswersRow.holds Try.pinned (OpenSpec.ofChange fnExactLosingAnswersSpec)

/-- ITS FALSE NEIGHBOUR: 'it returns false'. Refute it at one input. -/
def fnExactLosingAnswersWrong : ChangeSpec := { name := "fnExactLosingAnswers", fn := fun _ => fun
  | [d1, d2, d3] => { results := [.lit (.bool false)], args := [d1, d2, d3] }
  | _ => none }
def FnExactLosingAnswersWrongFalsely : Prop := fnExactLosingAnswersRow.holds Try.pinned (OpenSpec.ofChange fnExactLosingAnswersWrong)

/-- 'laws.FnExactPlayRace': WHATEVER THE INPUT: true; the input reads as it did. -/
def fnExactPlayRaceSpec : ChangeSpec := { name := "fnExactPlayRace", fn := fun _ => fun
  | [d1, d2] => { results := [.lit (.bool true)], args := [d1, d2] }
  | _ => none }
def fnExactPlayRaceRow : OpenClaim := { program := "ytnpdbllidpijfaa", sum := "c79c917fb6cf29165229b157f04595f042e775478086c0c240973b361a154a89", func := "loop.example/g01269/laws.FnExactPlayRace", spec := "fnExactPlayRace", unfollowed := true, recurses := true, apart := false }
def FnExactPlayRaceSaid : Prop := fnExactPlayRaceRow.holds Try.pinned (OpenSpec.ofChange fnExactPlayRaceSpec)

/-- ITS FALSE NEIGHBOUR: 'it returns false'. Refute it at one input. -/
def fnExactPlayRaceWrong : ChangeSpec := { name := "fnExactPlayRace", fn := fun _ => fun
  | [d1, d2] => { results := [.lit (.bool false)], args := [d1, d2] }
  | _ => none }
def FnExactPlayRaceWrongFalsely : Prop := fnExactPlayRaceRow.holds Try.pinned (OpenSpec.ofChange fnExactPlayRaceWrong)

/-- 'laws.FnRaces': WHATEVER THE INPUT: true; the input reads as it did. -/
def fnRacesSpec : ChangeSpec := { name := "fnRaces", fn := fun _ => fun
  | [d] => { results := [.lit (.bool true)], args := [d] }
  | _ => none }
def fnRacesRow : OpenClaim := { program := "ytnpdbllidpijfaa", sum := "c79c917fb6cf29165229b157f04595f042e775478086c0c240973b361a154a89", func := "loop.example/g01269/laws.FnRaces", spec := "fnRaces", unfollowed := true, recurses := true, apart := false }
def FnRacesSaid : Prop := fnRacesRow.holds Try.pinned (OpenSpec.ofChange fnRacesSpec)

/-- ITS FALSE NEIGHBOUR: 'it returns false'. Refute it at one input. -/
def fnRacesWrong : ChangeSpec := { name := "fnRaces", fn := fun _ => fun
  | [d] => { results := [.lit (.bool false)], args := [d] }
  | _ => none }
def FnRacesWrongFalsely : Prop := fnRacesRow.holds Try.pinned (OpenSpec.ofChange fnRacesWrong)

/-- 'laws.FnRacePlays': WHATEVER THE INPUT: true; the input reads as it did. -/
def fnRacePlaysSpec : ChangeSpec := { name := "fnRacePlays", fn := fun _ => fun
  | [d] => { results := [.lit (.bool true)], args := [d] }
  | _ => none }
def fnRacePlaysRow : OpenClaim := { program := "ytnpdbllidpijfaa", sum := "c79c917fb6cf29165229b157f04595f042e775478086c0c240973b361a154a89", func := "loop.example/g01269/laws.FnRacePlays", spec := "fnRacePlays", unfollowed := true, recurses := true, apart := false }
def FnRacePlaysSaid : Prop := fnRacePlaysRow.holds Try.pinned (OpenSpec.ofChange fnRacePlaysSpec)

/-- ITS FALSE NEIGHBOUR: 'it returns false'. Refute it at one input. -/
def fnRacePlaysWrong : ChangeSpec := { name := "fnRacePlays", fn := fun _ => fun
  | [d] => { results := [.lit (.bool false)], args := [d] }
  | _ => none }
def FnRacePlaysWrongFalsely : Prop := fnRacePlaysRow.holds Try.pinned (OpenSpec.ofChange fnRacePlaysWrong)

/- THE SECOND FORM. 'bulk': how many values and letters a reading holds, each counted each time it is reached (what is shared counts as often as it is met; a slice's spare places count too). A statement '..UptoSaid' is the law's where the arguments, and the package variables that the reading takes, are together of bulk at most 1048576: NARROWER than '..Said'. Prove '..Said' where nothing that the law and all that it calls make is longer than what came in: it says more and counts as full. Else prove '..UptoSaid'. A law counts once. -/
mutual
def uptoBulk {H : Type} : DataW H → Nat
  | .lit (.string bytes) => bytes.length + 1
  | .lit _ => 1
  | .nil => 1
  | .ptr d => uptoBulk d + 1
  | .slice elems spare => uptoBulkAll elems + uptoBulkAll spare + 1
  | .agg parts => uptoBulkAll parts + 1
  | .iface _ d => uptoBulk d + 1
  | .map entries => uptoBulkEntries entries + 1
  | .held _ => 1
def uptoBulkAll {H : Type} : List (DataW H) → Nat
  | [] => 0
  | d :: r => uptoBulk d + uptoBulkAll r
def uptoBulkEntries {H : Type} : List (Lit × DataW H) → Nat
  | [] => 0
  | x :: r => uptoBulkEntry x + uptoBulkEntries r
def uptoBulkEntry {H : Type} : Lit × DataW H → Nat
  | (.string bytes, d) => bytes.length + uptoBulk d + 1
  | (_, d) => uptoBulk d + 1
 end
def uptoSmall : (H : Type) → List (DataW H) → Bool := fun _ ds => decide (uptoBulkAll ds ≤ 1048576)
def OpenSpec.upto (s : _root_.Go.ChangeSpec) : _root_.Go.OpenSpec := { _root_.Go.OpenSpec.ofChange s with cond := some uptoSmall }

/-- 'laws.FnExactCountRaces', WHERE WHAT IT READS IS OF BULK AT MOST 1048576: true; the input reads as it did. -/
def fnExactCountRacesUptoRow : OpenClaim := { program := "ytnpdbllidpijfaa", sum := "c79c917fb6cf29165229b157f04595f042e775478086c0c240973b361a154a89", func := "loop.example/g01269/laws.FnExactCountRaces", spec := "fnExactCountRaces", unfollowed := true, recurses := true, apart := false, narrowed := true }
def FnExactCountRacesUptoSaid : Prop := fnExactCountRacesUptoRow.holds Try.pinned (OpenSpec.upto fnExactCountRacesSpec)

/-- 'laws.FnExactLongestRace', WHERE WHAT IT READS IS OF BULK AT MOST 1048576: true; the input reads as it did. -/
def fnExactLongestRaceUptoRow : OpenClaim := { program := "ytnpdbllidpijfaa", sum := "c79c917fb6cf29165229b157f04595f042e775478086c0c240973b361a154a89", func := "loop.example/g01269/laws.FnExactLongestRace", spec := "fnExactLongestRace", unfollowed := true, recurses := true, apart := false, narrowed := true }
def FnExactLongestRaceUptoSaid : Prop := fnExactLongestRaceUptoRow.holds Try.pinned (OpenSpec.upto fnExactLongestRaceSpec)

/-- 'laws.FnExactShortestRace', WHERE WHAT IT READS IS OF BULK AT MOST 1048576: true; the input reads as it did. -/
def fnExactShortestRaceUptoRow : OpenClaim := { program := "ytnpdbllidpijfaa", sum := "c79c917fb6cf29165229b157f04595f042e775478086c0c240973b361a154a89", func := "loop.example/g01269/laws.FnExactShortestRace", spec := "fnExactShortestRace", unfollowed := true, recurses := true, apart := false, narrowed := true }
def FnExactShortestRaceUptoSaid : Prop := fnExactShortestRaceUptoRow.holds Try.pinned (OpenSpec.upto fnExactShortestRaceSpec)

/-- 'laws.FnExactRaceWins', WHERE WHAT IT READS IS OF BULK AT MOST 1048576: true; the input reads as it did. -/
def fnExactRaceWinsUptoRow : OpenClaim := { program := "ytnpdbllidpijfaa", sum := "c79c917fb6cf29165229b157f04595f042e775478086c0c240973b361a154a89", func := "loop.example/g01269/laws.FnExactRaceWins", spec := "fnExactRaceWins", unfollowed := true, recurses := true, apart := false, narrowed := true }
def FnExactRaceWinsUptoSaid : Prop := fnExactRaceWinsUptoRow.holds Try.pinned (OpenSpec.upto fnExactRaceWinsSpec)

/-- 'laws.FnExactWinningQuestions', WHERE WHAT IT READS IS OF BULK AT MOST 1048576: true; the input reads as it did. -/
def fnExactWinningQuestionsUptoRow : OpenClaim := { program := "ytnpdbllidpijfaa", sum := "c79c917fb6cf29165229b157f04595f042e775478086c0c240973b361a154a89", func := "loop.example/g01269/laws.FnExactWinningQuestions", spec := "fnExactWinningQuestions", unfollowed := true, recurses := true, apart := false, narrowed := true }
def FnExactWinningQuestionsUptoSaid : Prop := fnExactWinningQuestionsUptoRow.holds Try.pinned (OpenSpec.upto fnExactWinningQuestionsSpec)

/-- 'laws.FnExactLosingAnswers', WHERE WHAT IT READS IS OF BULK AT MOST 1048576: true; the input reads as it did. -/
def fnExactLosingAnswersUptoRow : OpenClaim := { program := "ytnpdbllidpijfaa", sum := "c79c917fb6cf29165229b157f04595f042e775478086c0c240973b361a154a89", func := "loop.example/g01269/laws.FnExactLosingAnswers", spec := "fnExactLosingAnswers", unfollowed := true, recurses := true, apart := false, narrowed := true }
def FnExactLosingAnswersUptoSaid : Prop := fnExactLosingAnswersUptoRow.holds Try.pinned (OpenSpec.upto fnExactLosingAnswersSpec)

/-- 'laws.FnExactPlayRace', WHERE WHAT IT READS IS OF BULK AT MOST 1048576: true; the input reads as it did. -/
def fnExactPlayRaceUptoRow : OpenClaim := { program := "ytnpdbllidpijfaa", sum := "c79c917fb6cf29165229b157f04595f042e775478086c0c240973b361a154a89", func := "loop.example/g01269/laws.FnExactPlayRace", spec := "fnExactPlayRace", unfollowed := true, recurses := true, apart := false, narrowed := true }
def FnExactPlayRaceUptoSaid : Prop := fnExactPlayRaceUptoRow.holds Try.pinned (OpenSpec.upto fnExactPlayRaceSpec)

/-- 'laws.FnRaces', WHERE WHAT IT READS IS OF BULK AT MOST 1048576: true; the input reads as it did. -/
def fnRacesUptoRow : OpenClaim := { program := "ytnpdbllidpijfaa", sum := "c79c917fb6cf29165229b157f04595f042e775478086c0c240973b361a154a89", func := "loop.example/g01269/laws.FnRaces", spec := "fnRaces", unfollowed := true, recurses := true, apart := false, narrowed := true }
def FnRacesUptoSaid : Prop := fnRacesUptoRow.holds Try.pinned (OpenSpec.upto fnRacesSpec)

/-- 'laws.FnRacePlays', WHERE WHAT IT READS IS OF BULK AT MOST 1048576: true; the input reads as it did. -/
def fnRacePlaysUptoRow : OpenClaim := { program := "ytnpdbllidpijfaa", sum := "c79c917fb6cf29165229b157f04595f042e775478086c0c240973b361a154a89", func := "loop.example/g01269/laws.FnRacePlays", spec := "fnRacePlays", unfollowed := true, recurses := true, apart := false, narrowed := true }
def FnRacePlaysUptoSaid : Prop := fnRacePlaysUptoRow.holds Try.pinned (OpenSpec.upto fnRacePlaysSpec)

end Rows
end Go.Proofs.Ytnpdbllidpijfaa
