/-
  Cuts of bytes, and the question that asks for the other numbers. Plain lists: no program here.
-/
import Derived.Test.YtofiecpgfjofdaaTlCur
namespace Go.Tl
def othN (n q : Int) : Int := 2 ^ n.toNat - 1 - q
def oqV (n q : Int) : Int := if isQ n q = true then othN n q else 0
theorem isQ_in {n q : Int} (h : isQ n q = true) : (0 ≤ n ∧ 1 ≤ n ∧ n ≤ 12) ∧ 0 ≤ q ∧ q ≤ 2 ^ n.toNat - 1 := by
  unfold isQ at h
  simp only [Bool.and_eq_true, decide_eq_true_eq] at h
  exact ⟨⟨by omega, h.1⟩, h.2⟩
theorem oq_yes {n q : Int} (h : isQ n q = true) : T.tup [T.int .i64 (othN n q), T.bool true] = T.tup [T.int .i64 (oqV n q), T.bool (isQ n q)] := by simp [oqV, h]
theorem oq_no {n q : Int} (h : isQ n q = false) : T.tup [T.int .i64 0, T.bool false] = T.tup [T.int .i64 (oqV n q), T.bool (isQ n q)] := by simp [oqV, h]
/-- The bytes behind a place, and the place as a byte. -/
def cutY (bs : List Int) (k : Int) : List Int := bs.drop (minN k (bs.length : Int)).toNat ++ [minN k (bs.length : Int)]
theorem okY_cut {bs : List Int} {k : Int} (h : okY bs) (h0 : 0 ≤ k) (h1 : k ≤ 255) : okY (cutY bs k) := by
  intro i
  have hm : 0 ≤ minN k (bs.length : Int) ∧ minN k (bs.length : Int) ≤ 255 := by unfold minN; split <;> omega
  unfold cutY
  generalize minN k (bs.length : Int) = c at hm
  rw [List.getD_eq_getElem?_getD]
  by_cases hi : i < (bs.drop c.toNat).length
  · rw [List.getElem?_append_left hi, List.getElem?_drop]
    have := h (c.toNat + i)
    rw [List.getD_eq_getElem?_getD] at this; exact this
  · rw [List.getElem?_append_right (by omega)]
    cases hj : i - (bs.drop c.toNat).length with
    | zero => simpa using hm
    | succ j => simp
theorem cut_at {bs : List Int} {c : Int} : T.list (0 + ((bs.length : Int).toNat - c.toNat) + 1) 1 (List.take (((bs.length : Int).toNat - c.toNat) * 1) (List.drop (c.toNat * 1) (List.map (T.int .u8) bs)) ++ [T.int .u8 c]) = T.list (bs.drop c.toNat ++ [c]).length 1 (List.map (T.int .u8) (bs.drop c.toNat ++ [c])) := by
  have e : List.take (((bs.length : Int).toNat - c.toNat) * 1) (List.drop (c.toNat * 1) (List.map (T.int .u8) bs)) = List.map (T.int .u8) (bs.drop c.toNat) := by
    rw [Nat.mul_one, Nat.mul_one, List.take_of_length_le (by simp), List.map_drop]
  rw [e]; congr 1 <;> simp
theorem cut_over {bs : List Int} {k : Int} (h : decide (k > (bs.length : Int)) = true) : cutY bs k = bs.drop (bs.length : Int).toNat ++ [(bs.length : Int)] := by
  have : minN k (bs.length : Int) = bs.length := by have := of_decide_eq_true h; unfold minN; split <;> omega
  unfold cutY; rw [this]
theorem cut_in {bs : List Int} {k : Int} (h : decide (k > (bs.length : Int)) = false) : cutY bs k = bs.drop k.toNat ++ [k] := by
  have : minN k (bs.length : Int) = k := by have := of_decide_eq_false h; unfold minN; split <;> omega
  unfold cutY; rw [this]
/-! ### the other question has the other answer -/
theorem and1 (n : Int) : bits .and .i64 n 1 = n % 2 := by
  unfold bits
  rw [IntKind.wrap_i64]
  show (((BitVec.ofInt 64 n &&& BitVec.ofInt 64 1).toNat : Int) + 9223372036854775808) % 18446744073709551616 - 9223372036854775808 = n % 2
  have h1 : (BitVec.ofInt 64 1).toNat = 1 := by decide
  rw [BitVec.toNat_and, h1, Nat.and_one_is_mod, BitVec.toNat_ofInt]
  omega
theorem fdiv_pow {q : Int} {n k : Nat} (hk : k < n) : Int.fdiv (2 ^ n - 1 - q) (2 ^ k) = 2 ^ (n - k) - 1 - Int.fdiv q (2 ^ k) := by
  have hp : (0 : Int) < 2 ^ k := Int.pow_pos (by decide)
  have he : (2 : Int) ^ n = 2 ^ (n - k) * 2 ^ k := by rw [← Int.pow_add]; congr 1; omega
  rw [Int.fdiv_eq_ediv_of_nonneg _ (Int.le_of_lt hp), Int.fdiv_eq_ediv_of_nonneg _ (Int.le_of_lt hp)]
  have hd := Int.emod_add_mul_ediv q (2 ^ k)
  have hm0 := Int.emod_nonneg q (Int.ne_of_gt hp)
  have hm1 := Int.emod_lt_of_pos q hp
  have e : (2 : Int) ^ n - 1 - q = (2 ^ k - 1 - q % 2 ^ k) + 2 ^ k * (2 ^ (n - k) - 1 - q / 2 ^ k) := by
    rw [he, Int.mul_sub, Int.mul_sub, Int.mul_one, Int.mul_comm (2 ^ k) (2 ^ (n - k))]
    omega
  rw [e, Int.add_mul_ediv_left _ _ (Int.ne_of_gt hp), Int.ediv_eq_zero_of_lt (by omega) (by omega), Int.zero_add]
theorem has_other {n q : Int} {k : Nat} (h : isQ n q = true) (hk : (k : Int) < n) : hasB (othN n q) (k : Int) = !(hasB q (k : Int)) := by
  obtain ⟨⟨h0, h1, h2⟩, h3, h4⟩ := isQ_in h
  obtain ⟨n', rfl⟩ : ∃ x : Nat, n = x := ⟨n.toNat, by omega⟩
  have hk' : k < n' := by omega
  have hmin : min (Int.toNat (k : Int)) 64 = k := by simp; omega
  simp only [Int.toNat_natCast] at h4
  unfold hasB othN
  rw [hmin, and1, and1]
  simp only [Int.toNat_natCast]
  rw [fdiv_pow hk']
  obtain ⟨j, hj⟩ : ∃ j, n' - k = j + 1 := ⟨n' - k - 1, by omega⟩
  rw [hj, Int.pow_succ]
  generalize Int.fdiv q (2 ^ k) = c
  generalize (2 : Int) ^ j = d
  have : c % 2 = 0 ∨ c % 2 = 1 := by omega
  rcases this with h5 | h5
  · have : (d * 2 - 1 - c) % 2 = 1 := by omega
    rw [this, h5]; rfl
  · have : (d * 2 - 1 - c) % 2 = 0 := by omega
    rw [this, h5]; rfl
theorem ans_other {xs : List Int} {m q : Int} {y : Bool} (h : isQ (xs.length : Int) q = true) : ansN m (othN (xs.length : Int) q) (!y) xs = ansN m q y xs := by
  unfold ansN afterN
  refine List.map_congr_left fun j hj => ?_
  have hj' : (j : Int) < (xs.length : Int) := by have := List.mem_range.1 hj; omega
  have e : falseB (othN (xs.length : Int) q) (!y) (j : Int) = falseB q y (j : Int) := by
    unfold falseB
    rw [has_other h hj']
    cases hasB q (j : Int) <;> cases y <;> rfl
  simp only [e]
theorem isQ_other {n q : Int} (h : isQ n q = true) : isQ n (othN n q) = true := by
  obtain ⟨⟨h0, h1, h2⟩, h3, h4⟩ := isQ_in h
  unfold isQ othN
  simp only [Bool.and_eq_true, decide_eq_true_eq]
  omega
end Go.Tl
