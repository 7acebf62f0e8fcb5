/-
  What the statement on rooms asks of a turn. Plain lists: no program here.
-/
import Derived.Test.YtfbkhpfhnimnfaaTlOth
import Derived.Test.YtfbkhpfhnimnfaaTlSame
namespace Go.Tl
section
variable {lies : List Int} {n m k c a b : Int}
end
/-! ### what is drawn, by short names -/
section
variable {lies : List Int} {n m k c a b : Int}
end
end Go.Tl
