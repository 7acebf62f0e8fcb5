/-
  Plain laws for walks in a tree: the way to a node, the leaf of a secret, a play of answers. No statement of the seat is proved here.
-/
import Derived.Test.YtnpdbllidpijfaaTlTree
namespace Go.Tl
set_option linter.unusedVariables false
set_option linter.unusedSimpArgs false
def hasB (q s : Int) : Bool := bits .and .i64 (Int.fdiv q (2 ^ (min (Int.toNat s) 64))) 1 == (1 : Int)
def askedC (x : Int × Bool) : List T := [T.int .i64 x.1, T.bool x.2]
theorem len_asked (xs : List (Int × Bool)) : (List.flatMap askedC xs).length = xs.length * 2 := by
  induction xs with
  | nil => rfl
  | cons x xs ih => rw [List.flatMap_cons, List.length_append, ih, List.length_cons, Nat.succ_mul, Nat.add_comm]; rfl
end Go.Tl
