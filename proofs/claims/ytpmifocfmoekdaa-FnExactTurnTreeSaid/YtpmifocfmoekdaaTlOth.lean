/-
  Cuts of bytes, and the question that asks for the other numbers. Plain lists: no program here.
-/
import Derived.Test.YtpmifocfmoekdaaTlCur
namespace Go.Tl
def othN (n q : Int) : Int := 2 ^ n.toNat - 1 - q
theorem isQ_in {n q : Int} (h : isQ n q = true) : (0 ≤ n ∧ 1 ≤ n ∧ n ≤ 12) ∧ 0 ≤ q ∧ q ≤ 2 ^ n.toNat - 1 := by
  unfold isQ at h
  simp only [Bool.and_eq_true, decide_eq_true_eq] at h
  exact ⟨⟨by omega, h.1⟩, h.2⟩
/-! ### the other question has the other answer -/
end Go.Tl
