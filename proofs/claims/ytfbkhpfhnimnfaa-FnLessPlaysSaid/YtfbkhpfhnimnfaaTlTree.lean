/-
  Plain laws for trees: what the program's and the reference's readers of a tree return. No statement of the seat is proved here.
-/
import Derived.Test.YtfbkhpfhnimnfaaTlPure
namespace Go.Tl
set_option linter.unusedVariables false
set_option linter.unusedSimpArgs false

abbrev Nd := Int × Int × Int
def nodeC (x : Nd) : List T := [T.int .i64 x.1, T.int .i64 x.2.1, T.int .i64 x.2.2]
theorem len_node (xs : List Nd) : (List.flatMap nodeC xs).length = xs.length * 3 := by
  induction xs with
  | nil => rfl
  | cons x xs ih => rw [List.flatMap_cons, List.length_append, ih, List.length_cons, Nat.succ_mul, Nat.add_comm]; rfl
def isQ (n q : Int) : Bool := (decide (1 ≤ n) && decide (n ≤ 12)) && (decide (0 ≤ q) && decide (q ≤ 2 ^ n.toNat - 1))
theorem pow_bd {n : Int} (h0 : 0 ≤ n) (h1 : n ≤ 12) : 1 ≤ (2 : Int) ^ n.toNat ∧ (2 : Int) ^ n.toNat ≤ 4096 := by
  obtain ⟨k, rfl⟩ : ∃ k : Nat, n = k := ⟨n.toNat, by omega⟩
  have : k ≤ 12 := by omega
  simp only [Int.toNat_natCast]
  match k, this with
  | 0, _ | 1, _ | 2, _ | 3, _ | 4, _ | 5, _ | 6, _ | 7, _ | 8, _ | 9, _ | 10, _ | 11, _ | 12, _ => decide
theorem shl_small {n : Int} (h0 : 0 ≤ n) (h1 : n ≤ 12) : T.int .i64 (IntKind.wrap .i64 (1 * 2 ^ (min (Int.toNat n) 64))) = T.int .i64 (2 ^ n.toNat) := by
  have := pow_bd h0 h1
  rw [Nat.min_eq_left (by omega), Int.one_mul, wrap_i64_id (by omega) (by omega)]
section
variable {n : Int} {t : List Nd} {d : Nat} {a : Int}
end
end Go.Tl
