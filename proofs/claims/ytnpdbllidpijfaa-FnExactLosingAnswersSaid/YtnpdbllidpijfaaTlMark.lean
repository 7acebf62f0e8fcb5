/-
  Plain laws of the marks that the statements write into what a call has returned. No statement of the seat is proved here.
-/
import Derived.Test.YtnpdbllidpijfaaTlPure
import Derived.Test.YtnpdbllidpijfaaTlTree
import Derived.Test.YtnpdbllidpijfaaTlTr2
import Derived.Test.YtnpdbllidpijfaaTlTr3
namespace Go.Tl
open Go
set_option linter.unusedVariables false
set_option linter.unusedSimpArgs false

/-- Marks from k on. -/
def markN (k : Int) (n : Nat) : List Int := (List.range n).map fun (i : Nat) => k + (i : Int)
@[simp] theorem markN_len (k : Int) (n : Nat) : (markN k n).length = n := by simp [markN]
theorem markN_succ (k : Int) (n : Nat) : markN k (n + 1) = markN k n ++ [k + (n : Int)] := by simp [markN, List.range_succ]
theorem set_app {α : Type} (a b : List α) (x y : α) {n : Nat} (h : a.length = n) : (a ++ x :: b).set n y = a ++ y :: b := by
  subst h
  rw [List.set_append_right _ _ (Nat.le_refl _)]; simp
theorem drop_cons {α : Type} {xs : List α} {i : Nat} (h : i < xs.length) : xs.drop i = xs[i] :: xs.drop (i + 1) := List.drop_eq_getElem_cons h
theorem mark_step {xs : List Int} {k : Int} {i : Nat} (h : i < xs.length) : List.set (List.map (T.int .i64) (markN k i ++ xs.drop i)) i (T.int .i64 (k + (i : Int))) = List.map (T.int .i64) (markN k (i + 1) ++ xs.drop (i + 1)) := by
  rw [drop_cons h, List.map_append, List.map_cons, set_app _ _ _ _ (by simp), markN_succ]
  simp
theorem mark_end {xs : List Int} {k : Int} {i : Nat} (h : i = xs.length) : List.map (T.int .i64) (markN k i ++ xs.drop i) = List.map (T.int .i64) (markN k xs.length) := by
  subst h; simp
/-! ### marks of other elements -/
def markB (k : Int) : Bool := Int.tmod k 3 == 0
def markBs (k : Int) (n : Nat) : List Bool := (List.range n).map fun (i : Nat) => markB (k + (i : Int))
@[simp] theorem markBs_len (k : Int) (n : Nat) : (markBs k n).length = n := by simp [markBs]
theorem markBs_get {k : Int} {n i : Nat} (h : i < n) : (markBs k n).getD i false = markB (k + i) := by simp [markBs, h]
theorem markBs_succ (k : Int) (n : Nat) : markBs k (n + 1) = markBs k n ++ [markB (k + (n : Int))] := by simp [markBs, List.range_succ]
theorem markB_step {xs : List Bool} {k : Int} {i : Nat} (h : i < xs.length) : List.set (List.map T.bool (markBs k i ++ xs.drop i)) i (T.bool (markB (k + (i : Int)))) = List.map T.bool (markBs k (i + 1) ++ xs.drop (i + 1)) := by
  rw [drop_cons h, List.map_append, List.map_cons, set_app _ _ _ _ (by simp), markBs_succ]
  simp
theorem markB_end {xs : List Bool} {k : Int} {i : Nat} (h : i = xs.length) : List.map T.bool (markBs k i ++ xs.drop i) = List.map T.bool (markBs k xs.length) := by
  subst h; simp
def heldBs (xs : List Bool) (k : Int) : Int := if xs == markBs k xs.length then k + xs.length else -1
theorem heldBs_mark (k : Int) (n : Nat) : heldBs (markBs k n) k = k + n := by simp [heldBs]
theorem heldBs_bad {xs : List Bool} {k : Int} {i : Nat} (hi : i < xs.length) (h : ¬ (xs.getD i false = markB (k + i))) : T.int .i64 (-1) = T.int .i64 (heldBs xs k) := by
  have : (xs == markBs k xs.length) = false := by
    rw [beq_eq_false_iff_ne]
    intro e
    apply h
    rw [e]
    exact markBs_get hi
  simp [heldBs, this]
theorem heldBs_good {xs : List Bool} {k : Int} {i : Nat} (hi : i = xs.length) (h : ∀ j, j < i → xs.getD j false = markB (k + j)) : T.int .i64 (k + (i : Int)) = T.int .i64 (heldBs xs k) := by
  have : xs = markBs k xs.length := by
    apply List.ext_getElem?
    intro j
    by_cases hj : j < xs.length
    · have := h j (by omega)
      simp only [List.getD_eq_getElem?_getD, List.getElem?_eq_getElem hj, Option.getD_some] at this
      rw [List.getElem?_eq_getElem hj, this]
      simp [markBs, hj]
    · rw [List.getElem?_eq_none (by omega), List.getElem?_eq_none (by simp; omega)]
  unfold heldBs
  rw [← this]
  simp [hi]
end Go.Tl
