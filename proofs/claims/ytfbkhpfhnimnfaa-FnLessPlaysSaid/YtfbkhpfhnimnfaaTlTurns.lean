/-
  What turns, one behind the other, make of a room. Plain lists: no program here.
-/
import Derived.Test.YtfbkhpfhnimnfaaTlTurn
import Derived.Test.YtfbkhpfhnimnfaaTlTree
namespace Go.Tl
section
variable {l : List Int} {n m k : Int} {ts : List Nd} {i : Nat}
end
end Go.Tl
