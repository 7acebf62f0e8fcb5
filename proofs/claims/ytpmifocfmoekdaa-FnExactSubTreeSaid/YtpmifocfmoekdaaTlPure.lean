/-
  Plain laws for records, states and rooms: what the program's and the reference's tests of a record say, and that they say the same. No statement of the seat is proved here.
-/
import Derived.Test.YtpmifocfmoekdaaTlV
namespace Go.Tl
set_option linter.unusedVariables false
set_option linter.unusedSimpArgs false
/-! ### lists and rooms -/
theorem in_ge {a b x : Int} : (decide (x ≥ a) && decide (x ≤ b)) = (decide (a ≤ x) && decide (x ≤ b)) := rfl
/-! ### copies and new rooms -/
def szN (l : Int) (n : Nat) : Int := if l - n < 0 then -1 else l - n
end Go.Tl
