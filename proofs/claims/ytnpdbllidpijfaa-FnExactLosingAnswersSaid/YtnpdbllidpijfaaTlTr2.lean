/-
  Plain laws for walks in a tree: the way to a node, the leaf of a secret, a play of answers. No statement of the seat is proved here.
-/
import Derived.Test.YtnpdbllidpijfaaTlTree
namespace Go.Tl
set_option linter.unusedVariables false
set_option linter.unusedSimpArgs false
def hasB (q s : Int) : Bool := bits .and .i64 (Int.fdiv q (2 ^ (min (Int.toNat s) 64))) 1 == (1 : Int)
def askedC (x : Int × Bool) : List T := [T.int .i64 x.1, T.bool x.2]
theorem len_asked (xs : List (Int × Bool)) : (List.flatMap askedC xs).length = xs.length * 2 := by
  induction xs with
  | nil => rfl
  | cons x xs ih => rw [List.flatMap_cons, List.length_append, ih, List.length_cons, Nat.succ_mul, Nat.add_comm]; rfl
theorem eqB_bad {xs ys : List Bool} {i : Nat} (h : ¬ (xs.getD i false = ys.getD i false)) : T.bool false = T.bool (xs == ys) := by
  have : (xs == ys) = false := by
    simp only [beq_eq_false_iff_ne, ne_eq]
    rintro rfl; exact h rfl
  rw [this]
theorem eqB_len {xs ys : List Bool} (h : ¬ ((xs.length : Int) = (ys.length : Int))) : T.bool false = T.bool (xs == ys) := by
  have : (xs == ys) = false := by
    simp only [beq_eq_false_iff_ne, ne_eq]
    rintro rfl; exact h rfl
  rw [this]
theorem eqB_good {xs ys : List Bool} {i : Nat} (hall : ∀ j, j < i → xs.getD j false = ys.getD j false) (h1 : xs.length ≤ i) (h2 : xs.length = ys.length) : T.bool true = T.bool (xs == ys) := by
  have : xs = ys := by
    apply List.ext_getElem?
    intro j
    by_cases hj : j < xs.length
    · have := hall j (by omega)
      simp only [List.getD_eq_getElem?_getD, List.getElem?_eq_getElem hj, List.getElem?_eq_getElem (show j < ys.length by omega), Option.getD_some] at this ⊢
      rw [this]
    · rw [List.getElem?_eq_none (by omega), List.getElem?_eq_none (by omega)]
  rw [this]; simp
-- fractions
theorem beq_of_nb {a b : Bool} (h : (!(a == b)) = false) : a = b := by simpa using h
theorem bne_of_nb {a b : Bool} (h : (!(a == b)) = true) : ¬ a = b := by simpa using h
end Go.Tl
