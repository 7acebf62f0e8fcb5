/-
  All plain laws that printed functions may name. No statement of the seat is proved here.
-/
import Derived.Test.YtfbkhpfhnimnfaaTlRooms
import Derived.Test.YtfbkhpfhnimnfaaTlFair
