/-
  Plain laws for records, states and rooms: what the program's and the reference's tests of a record say, and that they say the same. No statement of the seat is proved here.
-/
import Derived.Test.YtfbkhpfhnimnfaaTlV
namespace Go.Tl
set_option linter.unusedVariables false
set_option linter.unusedSimpArgs false
/-! ### lists and rooms -/
def idxOf (p : Int → Bool) (xs : List Int) : Int := match (List.range xs.length).find? (fun i => p (xs.getD i 0)) with
  | some i => i
  | none => -1
theorem idxOf_found {p : Int → Bool} {xs : List Int} {i : Nat} (hi : i < xs.length) (hall : ∀ j, j < i → p (xs.getD j 0) = false) (h : p (xs.getD i 0) = true) : idxOf p xs = i := by
  have : (List.range xs.length).find? (fun i => p (xs.getD i 0)) = some i := by
    rw [List.find?_eq_some_iff_append]
    refine ⟨h, List.range i, (List.range (xs.length - i - 1)).map (fun k => i + 1 + k), ?_, fun a ha => by rw [hall a (List.mem_range.1 ha)]; rfl⟩
    apply List.ext_getElem?
    intro k
    by_cases hk : k < xs.length
    · rw [List.getElem?_range hk]
      by_cases h1 : k < i
      · rw [List.getElem?_append_left (by simpa using h1), List.getElem?_range h1]
      · rw [List.getElem?_append_right (by simpa using Nat.le_of_not_lt h1)]
        by_cases h2 : k = i
        · subst h2; simp
        · obtain ⟨m, hm⟩ : ∃ m, k - i = m + 1 := ⟨k - i - 1, by omega⟩
          simp only [List.length_range, hm, List.getElem?_cons_succ, List.getElem?_map]
          rw [List.getElem?_range (by omega)]
          simp; omega
    · rw [List.getElem?_eq_none (by simpa using Nat.le_of_not_lt hk), List.getElem?_eq_none (by simp; omega)]
  simp only [idxOf, this]
theorem idxOf_none {p : Int → Bool} {xs : List Int} {i : Nat} (hall : ∀ j, j < i → p (xs.getD j 0) = false) (h : xs.length ≤ i) : idxOf p xs = -1 := by
  have : (List.range xs.length).find? (fun i => p (xs.getD i 0)) = none := by
    rw [List.find?_eq_none]
    intro k hk
    rw [hall k (by have := List.mem_range.1 hk; omega)]; simp
  simp only [idxOf, this]
theorem any_iff {p : Int → Bool} {xs : List Int} : xs.any p = true ↔ ∃ i, i < xs.length ∧ p (xs.getD i 0) = true := by
  rw [List.any_eq_true]
  constructor
  · rintro ⟨x, hx, hp⟩
    obtain ⟨i, hi, rfl⟩ := List.mem_iff_getElem.1 hx
    exact ⟨i, hi, by simpa [List.getD_eq_getElem?_getD, hi] using hp⟩
  · rintro ⟨i, hi, hp⟩
    exact ⟨xs[i], List.getElem_mem hi, by simpa [List.getD_eq_getElem?_getD, hi] using hp⟩
theorem idxOf_any {p : Int → Bool} {xs : List Int} : decide (idxOf p xs ≥ 0) = xs.any p := by
  apply Bool.eq_iff_iff.2
  rw [decide_eq_true_eq, any_iff]
  unfold idxOf
  split
  · rename_i i hi
    have h1 := List.mem_of_find?_eq_some hi
    have h2 := List.find?_some hi
    exact ⟨fun _ => ⟨i, List.mem_range.1 h1, h2⟩, fun _ => by omega⟩
  · rename_i hn
    rw [List.find?_eq_none] at hn
    exact ⟨fun h => by omega, fun ⟨i, hi, hp⟩ => absurd hp (hn i (List.mem_range.2 hi))⟩
/-- A state is right. -/
def isStateN (xs : List Int) (m : Int) : Bool := (decide (1 ≤ (xs.length : Int)) && decide ((xs.length : Int) ≤ 12)) && (decide (0 ≤ m) && decide (m ≤ 2)) && !(xs.any fun x => !(decide (-1 ≤ x) && decide (x ≤ m)))
theorem isStateN_iff {xs : List Int} {m : Int} : isStateN xs m = true ↔ (1 ≤ xs.length ∧ xs.length ≤ 12) ∧ (0 ≤ m ∧ m ≤ 2) ∧ ∀ i, i < xs.length → -1 ≤ xs.getD i 0 ∧ xs.getD i 0 ≤ m := by
  have hany : (xs.any fun x => !(decide (-1 ≤ x) && decide (x ≤ m))) = false ↔ ∀ i, i < xs.length → -1 ≤ xs.getD i 0 ∧ xs.getD i 0 ≤ m := by
    rw [← Bool.not_eq_true, any_iff]
    constructor
    · intro h i hi
      have := fun hh => h ⟨i, hi, hh⟩
      simpa using this
    · rintro h ⟨i, hi, hp⟩
      have := h i hi
      simp only [Bool.not_eq_true', Bool.and_eq_false_iff, decide_eq_false_iff_not] at hp
      omega
  unfold isStateN
  simp only [Bool.and_eq_true, decide_eq_true_eq, Bool.not_eq_true', hany, and_assoc]
  constructor <;> (rintro ⟨h1, h2, h3⟩; exact ⟨by omega, by omega, h3⟩)
theorem isStateN_false {xs : List Int} {m : Int} (h : ¬ ((1 ≤ xs.length ∧ xs.length ≤ 12) ∧ (0 ≤ m ∧ m ≤ 2) ∧ ∀ i, i < xs.length → -1 ≤ xs.getD i 0 ∧ xs.getD i 0 ≤ m)) : isStateN xs m = false := by
  cases hc : isStateN xs m with
  | false => rfl
  | true => exact absurd (isStateN_iff.1 hc) h
theorem l2State_bad {xs : List Int} {m : Int} {i : Nat} (hi : i ≤ xs.length) (hi2 : i ≤ 13) (hlt : i < xs.length) (h : (decide (xs.getD i 0 ≥ -1) && decide (xs.getD i 0 ≤ m)) = false) : T.bool false = T.bool (isStateN xs m) := by
  rw [isStateN_false]
  rintro ⟨_, _, h3⟩
  have := h3 i hlt
  simp only [Bool.and_eq_false_iff, decide_eq_false_iff_not] at h
  omega
theorem l2State_short {xs : List Int} {m : Int} (h : ¬ (1 ≤ (xs.length : Int) ∧ (xs.length : Int) ≤ 12)) : T.bool false = T.bool (isStateN xs m) := by
  rw [isStateN_false]; omega
theorem l2State_end {xs : List Int} {m : Int} {i : Nat} (hall : ∀ j, j < i → (decide (xs.getD j 0 ≥ -1) && decide (xs.getD j 0 ≤ m)) = true) (hi : xs.length ≤ i) (h : 1 ≤ (xs.length : Int) ∧ (xs.length : Int) ≤ 12) : T.bool (decide (m ≥ 0) && decide (m ≤ 2)) = T.bool (isStateN xs m) := by
  congr 1
  apply Bool.eq_iff_iff.2
  rw [isStateN_iff]
  simp only [Bool.and_eq_true, decide_eq_true_eq]
  constructor
  · intro hm
    refine ⟨by omega, by omega, fun j hj => ?_⟩
    have := hall j (by omega)
    simp only [Bool.and_eq_true, decide_eq_true_eq] at this
    omega
  · intro hh; omega
/-! ### copies and new rooms -/
def szN (l : Int) (n : Nat) : Int := if l - n < 0 then -1 else l - n
theorem isStateN_len {xs : List Int} {m : Int} (h : isStateN xs m = true) : xs.length ≤ 12 ∧ 0 < xs.length := by
  have := (isStateN_iff.1 h).1; omega
end Go.Tl
