/-
  Plain laws for walks in a tree: the way to a node, the leaf of a secret, a play of answers. No statement of the seat is proved here.
-/
import Derived.Test.YtpmifocfmoekdaaTlTree
namespace Go.Tl
set_option linter.unusedVariables false
set_option linter.unusedSimpArgs false
def hasB (q s : Int) : Bool := bits .and .i64 (Int.fdiv q (2 ^ (min (Int.toNat s) 64))) 1 == (1 : Int)
def askedC (x : Int × Bool) : List T := [T.int .i64 x.1, T.bool x.2]
theorem len_asked (xs : List (Int × Bool)) : (List.flatMap askedC xs).length = xs.length * 2 := by
  induction xs with
  | nil => rfl
  | cons x xs ih => rw [List.flatMap_cons, List.length_append, ih, List.length_cons, Nat.succ_mul, Nat.add_comm]; rfl
theorem fld_node {xs : List Nd} {j i k : Nat} {x : T} (hj : j = i * 3) (h : i < xs.length) (hx : (nodeC (List.getD xs i (0, 0, 0)))[k]? = some x) : ((List.drop k (List.drop j (List.flatMap nodeC xs))) : List T)[0]? = some x := by
  subst hj
  rw [drop_node, List.drop_eq_getElem_cons h, List.flatMap_cons, List.getElem?_drop, Nat.add_zero, List.getElem?_append_left]
  · rw [List.getD_eq_getElem?_getD, List.getElem?_eq_getElem h] at hx; exact hx
  · have := (List.getElem?_eq_some_iff.1 hx).1
    simpa [nodeC] using this
theorem fld0_node {xs : List Nd} {j i : Nat} {x : T} (hj : j = i * 3) (h : i < xs.length) (hx : (nodeC (List.getD xs i (0, 0, 0)))[0]? = some x) : ((List.drop j (List.flatMap nodeC xs)) : List T)[0]? = some x := fld_node (k := 0) hj h hx
end Go.Tl
