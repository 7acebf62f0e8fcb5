/-
  Plain laws for consoles that begin, and for mean numbers of questions. No statement of the seat is proved here.
-/
import Derived.Test.YtfbkhpfhnimnfaaTlTr2
namespace Go.Tl
set_option linter.unusedVariables false
set_option linter.unusedSimpArgs false
def maxN (a b : Int) : Int := if a > b then a else b
theorem maxN_yes {a b : Int} (h : decide (a > b) = true) : T.int .i64 a = T.int .i64 (maxN a b) := by unfold maxN; rw [if_pos (of_decide_eq_true h)]
theorem maxN_no {a b : Int} (h : decide (a > b) = false) : T.int .i64 b = T.int .i64 (maxN a b) := by unfold maxN; rw [if_neg (of_decide_eq_false h)]
end Go.Tl
