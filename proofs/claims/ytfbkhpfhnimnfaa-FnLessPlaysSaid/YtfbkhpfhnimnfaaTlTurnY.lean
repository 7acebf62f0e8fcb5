/-
  What a struct of three numbers that a law takes reads as. No statement of the seat is proved here.
-/
import Derived.Test.YtfbkhpfhnimnfaaTlY
import Derived.Test.YtfbkhpfhnimnfaaTlTree
namespace Go.Tl
open Go.RowKit Go.WideShapes Go.ChangeShapes Go.ChangeAt
set_option linter.unusedVariables false
set_option linter.unusedSimpArgs false
section
variable {H : Type} {enc : TypeId × Value → H} {P : Program} {w : World} {sp : Nat → Bool} {held : Bool}
end
end Go.Tl
