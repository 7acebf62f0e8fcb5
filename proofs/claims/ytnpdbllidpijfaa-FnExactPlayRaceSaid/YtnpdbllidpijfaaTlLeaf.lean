/-
  Plain laws of leaves and ways. No statement of the seat is proved here.
-/
import Derived.Test.YtnpdbllidpijfaaTlMark2
namespace Go.Tl
set_option linter.unusedVariables false
set_option linter.unusedSimpArgs false
theorem asked_eq {x y : Int × Bool} (h : ((x.1 == y.1) && (x.2 == y.2)) = true) : x = y := by
  simp only [Bool.and_eq_true, beq_iff_eq] at h
  exact Prod.ext h.1 h.2
theorem asked_ne {x y : Int × Bool} (h : ((x.1 == y.1) && (x.2 == y.2)) = false) : ¬ x = y := by
  rintro rfl; simp at h
end Go.Tl
