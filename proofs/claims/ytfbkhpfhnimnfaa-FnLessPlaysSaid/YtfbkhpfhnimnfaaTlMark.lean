/-
  Plain laws of the marks that the statements write into what a call has returned. No statement of the seat is proved here.
-/
import Derived.Test.YtfbkhpfhnimnfaaTlPure
import Derived.Test.YtfbkhpfhnimnfaaTlTree
import Derived.Test.YtfbkhpfhnimnfaaTlTr2
import Derived.Test.YtfbkhpfhnimnfaaTlTr3
namespace Go.Tl
open Go
set_option linter.unusedVariables false
set_option linter.unusedSimpArgs false

/-- Marks from k on. -/
def markN (k : Int) (n : Nat) : List Int := (List.range n).map fun (i : Nat) => k + (i : Int)
@[simp] theorem markN_len (k : Int) (n : Nat) : (markN k n).length = n := by simp [markN]
theorem set_app {α : Type} (a b : List α) (x y : α) {n : Nat} (h : a.length = n) : (a ++ x :: b).set n y = a ++ y :: b := by
  subst h
  rw [List.set_append_right _ _ (Nat.le_refl _)]; simp
theorem drop_cons {α : Type} {xs : List α} {i : Nat} (h : i < xs.length) : xs.drop i = xs[i] :: xs.drop (i + 1) := List.drop_eq_getElem_cons h
/-! ### marks of other elements -/
def markB (k : Int) : Bool := Int.tmod k 3 == 0
def markBs (k : Int) (n : Nat) : List Bool := (List.range n).map fun (i : Nat) => markB (k + (i : Int))
@[simp] theorem markBs_len (k : Int) (n : Nat) : (markBs k n).length = n := by simp [markBs]
end Go.Tl
