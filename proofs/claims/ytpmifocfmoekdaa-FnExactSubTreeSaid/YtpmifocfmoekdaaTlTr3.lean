/-
  Plain laws for consoles that begin, and for mean numbers of questions. No statement of the seat is proved here.
-/
import Derived.Test.YtpmifocfmoekdaaTlTr2
namespace Go.Tl
set_option linter.unusedVariables false
set_option linter.unusedSimpArgs false
def maxN (a b : Int) : Int := if a > b then a else b
end Go.Tl
