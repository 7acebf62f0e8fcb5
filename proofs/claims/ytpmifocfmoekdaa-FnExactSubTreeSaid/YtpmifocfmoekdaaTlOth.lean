/-
  Cuts of bytes, and the question that asks for the other numbers. Plain lists: no program here.
-/
import Derived.Test.YtpmifocfmoekdaaTlCur
namespace Go.Tl
/-! ### the other question has the other answer -/
end Go.Tl
