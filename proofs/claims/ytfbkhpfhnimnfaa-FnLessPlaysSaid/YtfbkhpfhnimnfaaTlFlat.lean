/-
  What slices of flat elements that a law takes read as. No statement of the seat is proved here.
-/
import Derived.Test.YtfbkhpfhnimnfaaTlTreeY
import Derived.Test.YtfbkhpfhnimnfaaTlTr2
namespace Go.Tl
open Go.RowKit Go.WideShapes Go.ChangeShapes Go.ChangeAt
set_option linter.unusedVariables false
set_option linter.unusedSimpArgs false
section
variable {H : Type} {enc : TypeId × Value → H} {P : Program} {w : World} {sp : Nat → Bool} {held : Bool}
/-- A slice as an argument of its own. -/
theorem open_slice {t e : TypeId} {v : Value} {d : DataW H} {ps : List MemPlace} {r : Reach} {b0 : Nat} (ht : P.underlying t = some (.slice e)) (hv : Value.okWide P w r b0 t v) (h : DataW.Trod enc P w 0 sp held t v d ps) :
    ∃ fuel, DataW.trod enc P w 0 sp held fuel t [v] = some (d, ps) := by
  obtain ⟨fuel, h⟩ := h
  obtain ⟨a, l, c, rfl⟩ := okWide_slice ht hv
  exact ⟨fuel, h⟩
end
end Go.Tl
