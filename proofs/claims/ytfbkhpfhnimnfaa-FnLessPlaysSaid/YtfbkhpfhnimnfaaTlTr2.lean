/-
  Plain laws for walks in a tree: the way to a node, the leaf of a secret, a play of answers. No statement of the seat is proved here.
-/
import Derived.Test.YtfbkhpfhnimnfaaTlTree
namespace Go.Tl
set_option linter.unusedVariables false
set_option linter.unusedSimpArgs false
def hasB (q s : Int) : Bool := bits .and .i64 (Int.fdiv q (2 ^ (min (Int.toNat s) 64))) 1 == (1 : Int)
def askedC (x : Int × Bool) : List T := [T.int .i64 x.1, T.bool x.2]
theorem len_asked (xs : List (Int × Bool)) : (List.flatMap askedC xs).length = xs.length * 2 := by
  induction xs with
  | nil => rfl
  | cons x xs ih => rw [List.flatMap_cons, List.length_append, ih, List.length_cons, Nat.succ_mul, Nat.add_comm]; rfl
theorem drop_asked : ∀ (xs : List (Int × Bool)) (i : Nat), List.drop (i * 2) (List.flatMap askedC xs) = List.flatMap askedC (List.drop i xs)
  | xs, 0 => by simp
  | [], i + 1 => by simp
  | x :: xs, i + 1 => by
    rw [List.flatMap_cons, List.drop_succ_cons, ← drop_asked xs i, Nat.succ_mul, Nat.add_comm, ← List.drop_drop]
    rfl
theorem at_asked {xs : List (Int × Bool)} {j i : Nat} (hj : j = i * 2) (h : i < xs.length) : T.agg (List.take 2 (List.drop j (List.flatMap askedC xs))) = T.agg [T.int .i64 (List.getD xs i (0, false)).1, T.bool (List.getD xs i (0, false)).2] := by
  subst hj
  rw [drop_asked, List.drop_eq_getElem_cons h, List.flatMap_cons, List.getD_eq_getElem?_getD, List.getElem?_eq_getElem h]
  rfl
theorem fit_asked {xs : List (Int × Bool)} {j i : Nat} (hj : j = i * 2) (h : i < xs.length) : 2 ≤ List.length (List.drop j (List.flatMap askedC xs)) := by
  subst hj
  rw [List.length_drop, len_asked]; omega
theorem fld_asked {xs : List (Int × Bool)} {j i k : Nat} {x : T} (hj : j = i * 2) (h : i < xs.length) (hx : (askedC (List.getD xs i (0, false)))[k]? = some x) : ((List.drop k (List.drop j (List.flatMap askedC xs))) : List T)[0]? = some x := by
  subst hj
  rw [drop_asked, List.drop_eq_getElem_cons h, List.flatMap_cons, List.getElem?_drop, Nat.add_zero, List.getElem?_append_left]
  · rw [List.getD_eq_getElem?_getD, List.getElem?_eq_getElem h] at hx; exact hx
  · have := (List.getElem?_eq_some_iff.1 hx).1
    simpa [askedC] using this
theorem fld0_asked {xs : List (Int × Bool)} {j i : Nat} {x : T} (hj : j = i * 2) (h : i < xs.length) (hx : (askedC (List.getD xs i (0, false)))[0]? = some x) : ((List.drop j (List.flatMap askedC xs)) : List T)[0]? = some x := fld_asked (k := 0) hj h hx
end Go.Tl
