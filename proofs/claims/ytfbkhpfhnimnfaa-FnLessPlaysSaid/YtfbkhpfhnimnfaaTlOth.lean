/-
  Cuts of bytes, and the question that asks for the other numbers. Plain lists: no program here.
-/
import Derived.Test.YtfbkhpfhnimnfaaTlCur
namespace Go.Tl
theorem isQ_in {n q : Int} (h : isQ n q = true) : (0 ≤ n ∧ 1 ≤ n ∧ n ≤ 12) ∧ 0 ≤ q ∧ q ≤ 2 ^ n.toNat - 1 := by
  unfold isQ at h
  simp only [Bool.and_eq_true, decide_eq_true_eq] at h
  exact ⟨⟨by omega, h.1⟩, h.2⟩
/-! ### the other question has the other answer -/
theorem and1 (n : Int) : bits .and .i64 n 1 = n % 2 := by
  unfold bits
  rw [IntKind.wrap_i64]
  show (((BitVec.ofInt 64 n &&& BitVec.ofInt 64 1).toNat : Int) + 9223372036854775808) % 18446744073709551616 - 9223372036854775808 = n % 2
  have h1 : (BitVec.ofInt 64 1).toNat = 1 := by decide
  rw [BitVec.toNat_and, h1, Nat.and_one_is_mod, BitVec.toNat_ofInt]
  omega
end Go.Tl
