/-
  Cuts of bytes, and the question that asks for the other numbers. Plain lists: no program here.
-/
import Derived.Test.YtpmifocfmoekdaaTlCur
namespace Go.Tl
theorem isQ_in {n q : Int} (h : isQ n q = true) : (0 ≤ n ∧ 1 ≤ n ∧ n ≤ 12) ∧ 0 ≤ q ∧ q ≤ 2 ^ n.toNat - 1 := by
  unfold isQ at h
  simp only [Bool.and_eq_true, decide_eq_true_eq] at h
  exact ⟨⟨by omega, h.1⟩, h.2⟩
/-- The bytes behind a place, and the place as a byte. -/
def cutY (bs : List Int) (k : Int) : List Int := bs.drop (minN k (bs.length : Int)).toNat ++ [minN k (bs.length : Int)]
theorem okY_cut {bs : List Int} {k : Int} (h : okY bs) (h0 : 0 ≤ k) (h1 : k ≤ 255) : okY (cutY bs k) := by
  intro i
  have hm : 0 ≤ minN k (bs.length : Int) ∧ minN k (bs.length : Int) ≤ 255 := by unfold minN; split <;> omega
  unfold cutY
  generalize minN k (bs.length : Int) = c at hm
  rw [List.getD_eq_getElem?_getD]
  by_cases hi : i < (bs.drop c.toNat).length
  · rw [List.getElem?_append_left hi, List.getElem?_drop]
    have := h (c.toNat + i)
    rw [List.getD_eq_getElem?_getD] at this; exact this
  · rw [List.getElem?_append_right (by omega)]
    cases hj : i - (bs.drop c.toNat).length with
    | zero => simpa using hm
    | succ j => simp
theorem cut_at {bs : List Int} {c : Int} : T.list (0 + ((bs.length : Int).toNat - c.toNat) + 1) 1 (List.take (((bs.length : Int).toNat - c.toNat) * 1) (List.drop (c.toNat * 1) (List.map (T.int .u8) bs)) ++ [T.int .u8 c]) = T.list (bs.drop c.toNat ++ [c]).length 1 (List.map (T.int .u8) (bs.drop c.toNat ++ [c])) := by
  have e : List.take (((bs.length : Int).toNat - c.toNat) * 1) (List.drop (c.toNat * 1) (List.map (T.int .u8) bs)) = List.map (T.int .u8) (bs.drop c.toNat) := by
    rw [Nat.mul_one, Nat.mul_one, List.take_of_length_le (by simp), List.map_drop]
  rw [e]; congr 1 <;> simp
theorem cut_over {bs : List Int} {k : Int} (h : decide (k > (bs.length : Int)) = true) : cutY bs k = bs.drop (bs.length : Int).toNat ++ [(bs.length : Int)] := by
  have : minN k (bs.length : Int) = bs.length := by have := of_decide_eq_true h; unfold minN; split <;> omega
  unfold cutY; rw [this]
theorem cut_in {bs : List Int} {k : Int} (h : decide (k > (bs.length : Int)) = false) : cutY bs k = bs.drop k.toNat ++ [k] := by
  have : minN k (bs.length : Int) = k := by have := of_decide_eq_false h; unfold minN; split <;> omega
  unfold cutY; rw [this]
/-! ### the other question has the other answer -/
theorem and1 (n : Int) : bits .and .i64 n 1 = n % 2 := by
  unfold bits
  rw [IntKind.wrap_i64]
  show (((BitVec.ofInt 64 n &&& BitVec.ofInt 64 1).toNat : Int) + 9223372036854775808) % 18446744073709551616 - 9223372036854775808 = n % 2
  have h1 : (BitVec.ofInt 64 1).toNat = 1 := by decide
  rw [BitVec.toNat_and, h1, Nat.and_one_is_mod, BitVec.toNat_ofInt]
  omega
end Go.Tl
