/-
  What slices of flat elements that a law takes read as. No statement of the seat is proved here.
-/
import Derived.Test.YtnpdbllidpijfaaTlTreeY
import Derived.Test.YtnpdbllidpijfaaTlTr2
namespace Go.Tl
open Go.RowKit Go.WideShapes Go.ChangeShapes Go.ChangeAt
set_option linter.unusedVariables false
set_option linter.unusedSimpArgs false
section
variable {H : Type} {enc : TypeId × Value → H} {P : Program} {w : World} {sp : Nat → Bool} {held : Bool}
theorem vl_three {ok : Nat → Prop} {a b c : T} {x y z : Value} (h1 : VR w ok a x) (h2 : VR w ok b y) (h3 : VR w ok c z) : VL w ok [a, b, c] [x, y, z] := by
  simp only [VL]; exact ⟨_, _, rfl, h1, _, _, rfl, h2, _, _, rfl, h3, rfl⟩
/-- A slice as an argument of its own. -/
theorem open_slice {t e : TypeId} {v : Value} {d : DataW H} {ps : List MemPlace} {r : Reach} {b0 : Nat} (ht : P.underlying t = some (.slice e)) (hv : Value.okWide P w r b0 t v) (h : DataW.Trod enc P w 0 sp held t v d ps) :
    ∃ fuel, DataW.trod enc P w 0 sp held fuel t [v] = some (d, ps) := by
  obtain ⟨fuel, h⟩ := h
  obtain ⟨a, l, c, rfl⟩ := okWide_slice ht hv
  exact ⟨fuel, h⟩
end
end Go.Tl
