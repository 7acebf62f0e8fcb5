/-
  Plain laws for records: what the program's and the reference's tests of a record say, and that they say the same. No statement of the seat is proved here.
-/
import Derived.Test.YthhgloghphpgaaaTlV
namespace Go.Tl
set_option linter.unusedVariables false
set_option linter.unusedSimpArgs false
def plainB (s t : ByteArray) (i : Nat) : Bool := !(decide (byteAt s i < 32) || decide (byteAt s i > 126) || decide (firstIdx t (byteAt s i).toNat.toUInt8 ≥ 0))
def goodB (s : ByteArray) (i : Nat) : Bool := decide (byteAt s i ≥ 32) && decide (byteAt s i ≤ 126) && !(byteAt s i == 35)
def l12RecordN (c r : ByteArray) : Bool := !(c.toList == (ByteArray.mk #[]).toList) && (allB c.size (goodB c) && decide ((c.size : Int) ≤ 160)) && !(anyB c.size (fun j => byteAt c j == 64)) && (allB r.size (goodB r) && decide ((r.size : Int) ≤ 250))
def isValidRecordN (c r : ByteArray) : Bool := (decide (1 ≤ (c.size : Int)) && decide ((c.size : Int) ≤ 160) && allB c.size (plainB c (ByteArray.mk #[35, 64]))) && decide ((r.size : Int) ≤ 250) && allB r.size (plainB r (ByteArray.mk #[35]))
theorem firstIdx1 (a c : UInt8) : firstIdx (ByteArray.mk #[a]) c ≥ 0 ↔ c = a := by
  have h0 : (ByteArray.mk #[a])[0]! = a := rfl
  have hs : (ByteArray.mk #[a]).size = 1 := rfl
  simp only [firstIdx, hs, List.range_one, List.find?_cons, List.find?_nil, h0]
  by_cases h : a = c
  · simp [h]
  · have : (a == c) = false := by simpa using h
    simp [this, Ne.symm h]
theorem firstIdx2 (a b c : UInt8) : firstIdx (ByteArray.mk #[a, b]) c ≥ 0 ↔ c = a ∨ c = b := by
  have h0 : (ByteArray.mk #[a, b])[0]! = a := rfl
  have h1 : (ByteArray.mk #[a, b])[1]! = b := rfl
  have hs : (ByteArray.mk #[a, b]).size = 2 := rfl
  have hr : List.range 2 = [0, 1] := rfl
  simp only [firstIdx, hs, hr, List.find?_cons, List.find?_nil, h0, h1]
  by_cases h : a = c
  · simp [h]
  · have e1 : (a == c) = false := by simpa using h
    by_cases h' : b = c
    · simp [e1, h']
    · have e2 : (b == c) = false := by simpa using h'
      simp [e1, e2, Ne.symm h, Ne.symm h']
theorem byte_eq (s : ByteArray) (i : Nat) (k : Nat) (hk : k < 256) : (byteAt s i).toNat.toUInt8 = k.toUInt8 ↔ byteAt s i = k := by
  have h1 := byteAt_nonneg s i
  have h2 := byteAt_le s i
  constructor
  · intro h
    have := congrArg UInt8.toNat h
    simp only [Nat.toUInt8, UInt8.toNat_ofNat'] at this
    omega
  · intro h; rw [h]; rfl
theorem plain35 (s : ByteArray) (i : Nat) : plainB s (ByteArray.mk #[35]) i = goodB s i := by
  have h := byte_eq s i 35 (by decide)
  have e : (35 : Nat).toUInt8 = 35 := rfl
  rw [e] at h
  simp only [plainB, goodB, firstIdx1, h]
  cases h1 : decide (byteAt s i < 32) <;> cases h2 : decide (byteAt s i > 126) <;> cases h3 : decide (byteAt s i = ((35 : Nat) : Int)) <;> simp_all <;> omega
theorem plain3564 (s : ByteArray) (i : Nat) : plainB s (ByteArray.mk #[35, 64]) i = (goodB s i && !(byteAt s i == 64)) := by
  have h := byte_eq s i 35 (by decide)
  have h' := byte_eq s i 64 (by decide)
  have e : (35 : Nat).toUInt8 = 35 := rfl
  have e' : (64 : Nat).toUInt8 = 64 := rfl
  rw [e] at h
  rw [e'] at h'
  apply Bool.eq_iff_iff.2
  simp only [plainB, goodB, firstIdx2, h, h', Bool.not_eq_true', Bool.or_eq_false_iff, decide_eq_false_iff_not, Bool.and_eq_true, decide_eq_true_eq, beq_eq_false_iff_ne, ne_eq]
  omega
theorem allB_and (n : Nat) (p q : Nat → Bool) : allB n (fun i => p i && !(q i)) = (allB n p && !(anyB n q)) := by
  apply Bool.eq_iff_iff.2
  simp only [Bool.and_eq_true, allB_iff, Bool.not_eq_true']
  constructor
  · intro h
    refine ⟨fun j hj => (h j hj).1, ?_⟩
    cases hc : anyB n q with
    | false => rfl
    | true =>
      obtain ⟨j, hj, hq⟩ := anyB_iff.1 hc
      have := (h j hj).2
      rw [hq] at this; cases this
  · rintro ⟨h1, h2⟩ j hj
    refine ⟨h1 j hj, ?_⟩
    cases hq : q j with
    | false => rfl
    | true => rw [anyB_iff.2 ⟨j, hj, hq⟩] at h2; cases h2
theorem empty_iff (c : ByteArray) : (c.toList == (ByteArray.mk #[]).toList) = decide (c.size = 0) := by
  apply Bool.eq_iff_iff.2
  simp only [beq_iff_eq, decide_eq_true_eq]
  constructor
  · intro h; rw [toList_inj h]; rfl
  · intro h
    obtain ⟨⟨l⟩⟩ := c
    have : l = [] := List.eq_nil_of_length_eq_zero h
    rw [this]
theorem record_same (c r : ByteArray) : isValidRecordN c r = l12RecordN c r := by
  unfold isValidRecordN l12RecordN
  rw [show plainB r (ByteArray.mk #[35]) = goodB r from funext (plain35 r), show plainB c (ByteArray.mk #[35, 64]) = fun i => goodB c i && !(byteAt c i == 64) from funext (plain3564 c), allB_and, empty_iff]
  have : decide (1 ≤ (c.size : Int)) = !decide (c.size = 0) := by
    apply Bool.eq_iff_iff.2
    simp only [decide_eq_true_eq, Bool.not_eq_true', decide_eq_false_iff_not]
    omega
  rw [this]
  cases !decide (c.size = 0) <;> cases decide ((c.size : Int) ≤ 160) <;> cases allB c.size (goodB c) <;> cases anyB c.size (fun j => byteAt c j == 64) <;> cases decide ((r.size : Int) ≤ 250) <;> cases allB r.size (goodB r) <;> rfl
end Go.Tl
