/-
  Plain laws of leaves and ways. No statement of the seat is proved here.
-/
import Derived.Test.YtfbkhpfhnimnfaaTlMark2
namespace Go.Tl
set_option linter.unusedVariables false
set_option linter.unusedSimpArgs false
end Go.Tl
