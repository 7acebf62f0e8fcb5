/-
  Two equal rooms are found equal. No statement of the seat is proved here.
-/
import Derived.Test.YtfbkhpfhnimnfaaTlEq
import Derived.ChangeKeysEq
namespace Go.Tl
set_option linter.unusedVariables false
set_option linter.unusedSimpArgs false
end Go.Tl
