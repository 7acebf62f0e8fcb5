/-
  Cuts of bytes, and the question that asks for the other numbers. Plain lists: no program here.
-/
import Derived.Test.YtnpdbllidpijfaaTlCur
namespace Go.Tl
/-! ### the other question has the other answer -/
theorem and1 (n : Int) : bits .and .i64 n 1 = n % 2 := by
  unfold bits
  rw [IntKind.wrap_i64]
  show (((BitVec.ofInt 64 n &&& BitVec.ofInt 64 1).toNat : Int) + 9223372036854775808) % 18446744073709551616 - 9223372036854775808 = n % 2
  have h1 : (BitVec.ofInt 64 1).toNat = 1 := by decide
  rw [BitVec.toNat_and, h1, Nat.and_one_is_mod, BitVec.toNat_ofInt]
  omega
end Go.Tl
