/-
  Plain laws of rooms. No statement of the seat is proved here.
-/
import Derived.Test.YtfbkhpfhnimnfaaTlMark
namespace Go.Tl
set_option linter.unusedVariables false
set_option linter.unusedSimpArgs false
end Go.Tl
