/-
  Plain laws of the marks in nodes and answers. No statement of the seat is proved here.
-/
import Derived.Test.YtfbkhpfhnimnfaaTlMark
namespace Go.Tl
set_option linter.unusedVariables false
set_option linter.unusedSimpArgs false

def markNd (k : Int) (n : Nat) : List Nd := (List.range n).map fun (i : Nat) => (k + 3 * (i : Int), k + 3 * (i : Int) + 1, k + 3 * (i : Int) + 2)
@[simp] theorem markNd_len (k : Int) (n : Nat) : (markNd k n).length = n := by simp [markNd]
/-! ### answers -/
def markAs (k : Int) (n : Nat) : List (Int × Bool) := (List.range n).map fun (i : Nat) => (k + 2 * (i : Int), markB (k + 2 * (i : Int) + 1))
@[simp] theorem markAs_len (k : Int) (n : Nat) : (markAs k n).length = n := by simp [markAs]
/-! ### lists that lean on no memory -/
theorem flats_app : ∀ (a b : List T), T.flats (a ++ b) = (T.flats a && T.flats b)
  | [], b => by simp [T.flats]
  | x :: a, b => by simp [T.flats, flats_app a b, Bool.and_assoc]
theorem flats_int (xs : List Int) : T.flats (List.map (T.int .i64) xs) = true := by induction xs <;> simp_all [T.flats, T.flat]
theorem flats_bool (xs : List Bool) : T.flats (List.map T.bool xs) = true := by induction xs <;> simp_all [T.flats, T.flat]
theorem flats_str (xs : List ByteArray) : T.flats (List.map T.str xs) = true := by induction xs <;> simp_all [T.flats, T.flat]
theorem flats_node (xs : List Nd) : T.flats (List.flatMap nodeC xs) = true := by induction xs <;> simp_all [T.flats, T.flat, nodeC]
theorem flats_asked (xs : List (Int × Bool)) : T.flats (List.flatMap askedC xs) = true := by induction xs <;> simp_all [T.flats, T.flat, askedC]
end Go.Tl
