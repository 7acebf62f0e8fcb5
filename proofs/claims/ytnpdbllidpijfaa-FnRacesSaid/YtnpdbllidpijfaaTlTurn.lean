/-
  What a turn makes of a room. Plain lists: no program here.
-/
import Derived.Test.YtnpdbllidpijfaaTlState
import Derived.Test.YtnpdbllidpijfaaTlRoomY
namespace Go.Tl
/-! ### StartState -/
/-! ### AnswerState -/
/-! ### what a turn makes of a state: as it is told, and as it is made -/
/-! ### lengths -/
/-! ### rooms of states -/
/-! ### by cases -/
section
variable {xs : List Int} {m c a b : Int}
end
/-! ### DoTurn by cases -/
section
variable {lies : List Int} {n m k c a b : Int}
end
end Go.Tl
