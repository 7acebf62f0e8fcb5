/-
  Plain laws for records, states and rooms: what the program's and the reference's tests of a record say, and that they say the same. No statement of the seat is proved here.
-/
import Derived.Test.YtofiecpgfjofdaaTlV
namespace Go.Tl
set_option linter.unusedVariables false
set_option linter.unusedSimpArgs false
/-! ### lists and rooms -/
theorem at1A {α : Type} {f : α → T} {xs : List α} {l : List T} {d : α} {j i : Nat} (hj : j = i) (h : i < xs.length) : ((List.drop j (List.map f xs ++ l)) : List T)[0]? = some (f (List.getD xs i d)) := by
  subst hj
  rw [List.getElem?_drop, Nat.add_zero, List.getElem?_append_left (by simpa using h)]
  simp [List.getD_eq_getElem?_getD, h]
theorem slice_to {lies : List Int} {l : List T} {n : Int} {k : Nat} (hl : lies.length = k) (h0 : 0 ≤ n) (h1 : n ≤ k) :
    T.list (Int.toNat n - 0) 1 (List.take ((Int.toNat n - 0) * 1) (List.map (T.int .i64) lies ++ l)) = T.list (List.length (List.take (Int.toNat n) lies)) 1 (List.map (T.int .i64) (List.take (Int.toNat n) lies)) := by
  have e : (List.take (Int.toNat n) lies).length = Int.toNat n := by simp; omega
  rw [e, Nat.sub_zero, Nat.mul_one, List.take_append_of_le_length (by simp; omega), List.map_take]
theorem slice_from {lies : List Int} {l : List T} {n : Int} {k : Nat} (hl : lies.length = k) (h0 : 0 ≤ n) (h1 : n ≤ k) :
    T.list (k - Int.toNat n) 1 (List.take ((k - Int.toNat n) * 1) (List.drop (Int.toNat n * 1) (List.map (T.int .i64) lies ++ l))) = T.list (List.length (List.drop (Int.toNat n) lies)) 1 (List.map (T.int .i64) (List.drop (Int.toNat n) lies)) := by
  have e : (List.drop (Int.toNat n) lies).length = k - Int.toNat n := by simp [hl]
  rw [e, Nat.mul_one, Nat.mul_one, List.drop_append_of_le_length (by simp; omega), List.take_append_of_le_length (by simp; omega), List.take_of_length_le (by simp; omega), List.map_drop]
def idxOf (p : Int → Bool) (xs : List Int) : Int := match (List.range xs.length).find? (fun i => p (xs.getD i 0)) with
  | some i => i
  | none => -1
theorem idxOf_found {p : Int → Bool} {xs : List Int} {i : Nat} (hi : i < xs.length) (hall : ∀ j, j < i → p (xs.getD j 0) = false) (h : p (xs.getD i 0) = true) : idxOf p xs = i := by
  have : (List.range xs.length).find? (fun i => p (xs.getD i 0)) = some i := by
    rw [List.find?_eq_some_iff_append]
    refine ⟨h, List.range i, (List.range (xs.length - i - 1)).map (fun k => i + 1 + k), ?_, fun a ha => by rw [hall a (List.mem_range.1 ha)]; rfl⟩
    apply List.ext_getElem?
    intro k
    by_cases hk : k < xs.length
    · rw [List.getElem?_range hk]
      by_cases h1 : k < i
      · rw [List.getElem?_append_left (by simpa using h1), List.getElem?_range h1]
      · rw [List.getElem?_append_right (by simpa using Nat.le_of_not_lt h1)]
        by_cases h2 : k = i
        · subst h2; simp
        · obtain ⟨m, hm⟩ : ∃ m, k - i = m + 1 := ⟨k - i - 1, by omega⟩
          simp only [List.length_range, hm, List.getElem?_cons_succ, List.getElem?_map]
          rw [List.getElem?_range (by omega)]
          simp; omega
    · rw [List.getElem?_eq_none (by simpa using Nat.le_of_not_lt hk), List.getElem?_eq_none (by simp; omega)]
  simp only [idxOf, this]
theorem idxOf_none {p : Int → Bool} {xs : List Int} {i : Nat} (hall : ∀ j, j < i → p (xs.getD j 0) = false) (h : xs.length ≤ i) : idxOf p xs = -1 := by
  have : (List.range xs.length).find? (fun i => p (xs.getD i 0)) = none := by
    rw [List.find?_eq_none]
    intro k hk
    rw [hall k (by have := List.mem_range.1 hk; omega)]; simp
  simp only [idxOf, this]
theorem any_iff {p : Int → Bool} {xs : List Int} : xs.any p = true ↔ ∃ i, i < xs.length ∧ p (xs.getD i 0) = true := by
  rw [List.any_eq_true]
  constructor
  · rintro ⟨x, hx, hp⟩
    obtain ⟨i, hi, rfl⟩ := List.mem_iff_getElem.1 hx
    exact ⟨i, hi, by simpa [List.getD_eq_getElem?_getD, hi] using hp⟩
  · rintro ⟨i, hi, hp⟩
    exact ⟨xs[i], List.getElem_mem hi, by simpa [List.getD_eq_getElem?_getD, hi] using hp⟩
theorem idxOf_any {p : Int → Bool} {xs : List Int} : decide (idxOf p xs ≥ 0) = xs.any p := by
  apply Bool.eq_iff_iff.2
  rw [decide_eq_true_eq, any_iff]
  unfold idxOf
  split
  · rename_i i hi
    have h1 := List.mem_of_find?_eq_some hi
    have h2 := List.find?_some hi
    exact ⟨fun _ => ⟨i, List.mem_range.1 h1, h2⟩, fun _ => by omega⟩
  · rename_i hn
    rw [List.find?_eq_none] at hn
    exact ⟨fun h => by omega, fun ⟨i, hi, hp⟩ => absurd hp (hn i (List.mem_range.2 hi))⟩
/-- A state is right. -/
def isStateN (xs : List Int) (m : Int) : Bool := (decide (1 ≤ (xs.length : Int)) && decide ((xs.length : Int) ≤ 12)) && (decide (0 ≤ m) && decide (m ≤ 2)) && !(xs.any fun x => !(decide (-1 ≤ x) && decide (x ≤ m)))
theorem isStateN_iff {xs : List Int} {m : Int} : isStateN xs m = true ↔ (1 ≤ xs.length ∧ xs.length ≤ 12) ∧ (0 ≤ m ∧ m ≤ 2) ∧ ∀ i, i < xs.length → -1 ≤ xs.getD i 0 ∧ xs.getD i 0 ≤ m := by
  have hany : (xs.any fun x => !(decide (-1 ≤ x) && decide (x ≤ m))) = false ↔ ∀ i, i < xs.length → -1 ≤ xs.getD i 0 ∧ xs.getD i 0 ≤ m := by
    rw [← Bool.not_eq_true, any_iff]
    constructor
    · intro h i hi
      have := fun hh => h ⟨i, hi, hh⟩
      simpa using this
    · rintro h ⟨i, hi, hp⟩
      have := h i hi
      simp only [Bool.not_eq_true', Bool.and_eq_false_iff, decide_eq_false_iff_not] at hp
      omega
  unfold isStateN
  simp only [Bool.and_eq_true, decide_eq_true_eq, Bool.not_eq_true', hany, and_assoc]
  constructor <;> (rintro ⟨h1, h2, h3⟩; exact ⟨by omega, by omega, h3⟩)
theorem isStateN_false {xs : List Int} {m : Int} (h : ¬ ((1 ≤ xs.length ∧ xs.length ≤ 12) ∧ (0 ≤ m ∧ m ≤ 2) ∧ ∀ i, i < xs.length → -1 ≤ xs.getD i 0 ∧ xs.getD i 0 ≤ m)) : isStateN xs m = false := by
  cases hc : isStateN xs m with
  | false => rfl
  | true => exact absurd (isStateN_iff.1 hc) h
def isRoomN (lies : List Int) (n m k : Int) : Bool := (decide (1 ≤ n) && decide (n ≤ 12)) && (decide (0 ≤ k) && decide (k ≤ 1000)) && isStateN (lies.take n.toNat) m && (lies.drop n.toNat).all (· == 0)
theorem isRoom_bad1 {lies : List Int} {n m k : Int} (h : (decide (1 ≤ n) && decide (n ≤ 12)) = false) : T.bool false = T.bool (isRoomN lies n m k) := by unfold isRoomN; rw [h]; rfl
theorem isRoom_bad2 {lies : List Int} {n m k : Int} (h0 : (decide (1 ≤ n) && decide (n ≤ 12)) = true) (h : (decide (0 ≤ k) && decide (k ≤ 1000)) = false) : T.bool false = T.bool (isRoomN lies n m k) := by unfold isRoomN; rw [h0, h]; rfl
theorem isRoom_bad3 {lies : List Int} {n m k : Int} (h0 : (decide (1 ≤ n) && decide (n ≤ 12)) = true) (h1 : (decide (0 ≤ k) && decide (k ≤ 1000)) = true) (h : isStateN (lies.take n.toNat) m = false) : T.bool false = T.bool (isRoomN lies n m k) := by unfold isRoomN; rw [h0, h1, h]; rfl
theorem all0_iff {xs : List Int} : xs.all (· == 0) = true ↔ ∀ i, i < xs.length → xs.getD i 0 = 0 := by
  rw [List.all_eq_true]
  constructor
  · intro h i hi
    have := h xs[i] (List.getElem_mem hi)
    simpa [List.getD_eq_getElem?_getD, hi] using this
  · intro h x hx
    obtain ⟨i, hi, rfl⟩ := List.mem_iff_getElem.1 hx
    have := h i hi
    simpa [List.getD_eq_getElem?_getD, hi] using this
theorem isRoom_bad4 {lies : List Int} {n m k : Int} {i : Nat} (hi : i < (lies.drop n.toNat).length) (h : ¬ ((lies.drop n.toNat).getD i 0 = 0)) : T.bool false = T.bool (isRoomN lies n m k) := by
  have : (lies.drop n.toNat).all (· == 0) = false := by
    rw [← Bool.not_eq_true, all0_iff]
    exact fun hh => h (hh i hi)
  unfold isRoomN; rw [this, Bool.and_false]
theorem isRoom_good {lies : List Int} {n m k : Int} {i : Nat} (h0 : (decide (1 ≤ n) && decide (n ≤ 12)) = true) (h1 : (decide (0 ≤ k) && decide (k ≤ 1000)) = true) (h : isStateN (lies.take n.toNat) m = true) (hall : ∀ j, j < i → (lies.drop n.toNat).getD j 0 = 0) (hi : (lies.drop n.toNat).length ≤ i) : T.bool true = T.bool (isRoomN lies n m k) := by
  unfold isRoomN; rw [h0, h1, h, all0_iff.2 (fun j hj => hall j (by omega))]; rfl
theorem l2State_bad {xs : List Int} {m : Int} {i : Nat} (hi : i ≤ xs.length) (hi2 : i ≤ 13) (hlt : i < xs.length) (h : (decide (xs.getD i 0 ≥ -1) && decide (xs.getD i 0 ≤ m)) = false) : T.bool false = T.bool (isStateN xs m) := by
  rw [isStateN_false]
  rintro ⟨_, _, h3⟩
  have := h3 i hlt
  simp only [Bool.and_eq_false_iff, decide_eq_false_iff_not] at h
  omega
theorem l2State_short {xs : List Int} {m : Int} (h : ¬ (1 ≤ (xs.length : Int) ∧ (xs.length : Int) ≤ 12)) : T.bool false = T.bool (isStateN xs m) := by
  rw [isStateN_false]; omega
theorem l2State_end {xs : List Int} {m : Int} {i : Nat} (hall : ∀ j, j < i → (decide (xs.getD j 0 ≥ -1) && decide (xs.getD j 0 ≤ m)) = true) (hi : xs.length ≤ i) (h : 1 ≤ (xs.length : Int) ∧ (xs.length : Int) ≤ 12) : T.bool (decide (m ≥ 0) && decide (m ≤ 2)) = T.bool (isStateN xs m) := by
  congr 1
  apply Bool.eq_iff_iff.2
  rw [isStateN_iff]
  simp only [Bool.and_eq_true, decide_eq_true_eq]
  constructor
  · intro hm
    refine ⟨by omega, by omega, fun j hj => ?_⟩
    have := hall j (by omega)
    simp only [Bool.and_eq_true, decide_eq_true_eq] at this
    omega
  · intro hh; omega
theorem take_push {lies : List Int} {k : Nat} (h : k < lies.length) : List.map (T.int .i64) (List.take k lies) ++ [T.int .i64 (List.getD lies k 0)] = List.map (T.int .i64) (List.take (k + 1) lies) := by
  rw [List.take_add_one, List.map_append]
  simp [List.getD_eq_getElem?_getD, h]
theorem drop_all_iff {lies : List Int} {n : Int} (hl : lies.length = 12) : (lies.drop n.toNat).all (· == 0) = true ↔ ∀ i : Nat, n.toNat ≤ i → i < 12 → lies.getD i 0 = 0 := by
  rw [all0_iff]
  constructor
  · intro h i h1 h2
    have := h (i - n.toNat) (by simp; omega)
    simp only [List.getD_eq_getElem?_getD, List.getElem?_drop] at this ⊢
    rwa [show n.toNat + (i - n.toNat) = i by omega] at this
  · intro h i hi
    have := h (n.toNat + i) (by omega) (by simp at hi; omega)
    simpa [List.getD_eq_getElem?_getD, List.getElem?_drop] using this
theorem room_step {lies : List Int} {n j : Int} (hall : ∀ i : Nat, n.toNat ≤ i → i < j.toNat → lies.getD i 0 = 0) (hj : 0 ≤ j) (h : lies.getD j.toNat 0 = 0) : ∀ i : Nat, n.toNat ≤ i → i < (j + 1).toNat → lies.getD i 0 = 0 := fun i h1 h2 => by
  by_cases e : i = j.toNat
  · rw [e]; exact h
  · exact hall i h1 (by omega)
theorem in_ge {a b x : Int} : (decide (x ≥ a) && decide (x ≤ b)) = (decide (a ≤ x) && decide (x ≤ b)) := rfl
theorem isRoom_bad1' {lies : List Int} {n m k : Int} (h : (decide (n ≥ 1) && decide (n ≤ 12)) = false) : T.bool false = T.bool (isRoomN lies n m k) := isRoom_bad1 h
theorem isRoom_bad2' {lies : List Int} {n m k : Int} (h0 : (decide (n ≥ 1) && decide (n ≤ 12)) = true) (h : (decide (k ≥ 0) && decide (k ≤ 1000)) = false) : T.bool false = T.bool (isRoomN lies n m k) := isRoom_bad2 h0 h
theorem isRoom_bad3' {lies : List Int} {n m k : Int} (h0 : (decide (n ≥ 1) && decide (n ≤ 12)) = true) (h1 : (decide (k ≥ 0) && decide (k ≤ 1000)) = true) (h : isStateN (lies.take n.toNat) m = false) : T.bool false = T.bool (isRoomN lies n m k) := isRoom_bad3 h0 h1 h
theorem isRoom_bad5 {lies : List Int} {n m k : Int} {i : Nat} (hl : lies.length = 12) (h1 : n.toNat ≤ i) (h2 : i < 12) (h : ¬ (lies.getD i 0 = 0)) : T.bool false = T.bool (isRoomN lies n m k) := by
  have : (lies.drop n.toNat).all (· == 0) = false := by
    rw [← Bool.not_eq_true, drop_all_iff hl]
    exact fun hh => h (hh i h1 h2)
  unfold isRoomN; rw [this, Bool.and_false]
theorem isRoom_good2 {lies : List Int} {n m k j : Int} (hl : lies.length = 12) (h0 : (decide (n ≥ 1) && decide (n ≤ 12)) = true) (h1 : (decide (k ≥ 0) && decide (k ≤ 1000)) = true) (h : isStateN (lies.take n.toNat) m = true) (hall : ∀ i : Nat, n.toNat ≤ i → i < j.toNat → lies.getD i 0 = 0) (hj : 12 ≤ j) : T.bool true = T.bool (isRoomN lies n m k) := by
  have h0' : (decide (1 ≤ n) && decide (n ≤ 12)) = true := h0
  have h1' : (decide (0 ≤ k) && decide (k ≤ 1000)) = true := h1
  unfold isRoomN; rw [h0', h1', h, (drop_all_iff hl).2 (fun i h2 h3 => hall i h2 (by omega))]; rfl

/-! ### copies and new rooms -/
theorem eqL_bad {xs ys : List Int} {i : Nat} (h : ¬ (xs.getD i 0 = ys.getD i 0)) : T.bool false = T.bool (xs == ys) := by
  have : (xs == ys) = false := by
    simp only [beq_eq_false_iff_ne, ne_eq]
    rintro rfl; exact h rfl
  rw [this]
theorem eqL_len {xs ys : List Int} (h : ¬ ((xs.length : Int) = (ys.length : Int))) : T.bool false = T.bool (xs == ys) := by
  have : (xs == ys) = false := by
    simp only [beq_eq_false_iff_ne, ne_eq]
    rintro rfl; exact h rfl
  rw [this]
theorem eqL_good {xs ys : List Int} {i : Nat} (hall : ∀ j, j < i → xs.getD j 0 = ys.getD j 0) (h1 : xs.length ≤ i) (h2 : xs.length = ys.length) : T.bool true = T.bool (xs == ys) := by
  have : xs = ys := by
    apply List.ext_getElem?
    intro j
    by_cases hj : j < xs.length
    · have := hall j (by omega)
      simp only [List.getD_eq_getElem?_getD, List.getElem?_eq_getElem hj, List.getElem?_eq_getElem (show j < ys.length by omega), Option.getD_some] at this ⊢
      rw [this]
    · rw [List.getElem?_eq_none (by omega), List.getElem?_eq_none (by omega)]
  rw [this]; simp
def pad12 (xs : List Int) : List Int := xs ++ List.replicate (12 - xs.length) 0
theorem pad12_len {xs : List Int} (h : xs.length ≤ 12) : (pad12 xs).length = 12 := by simp [pad12]; omega
theorem drop_zeros (k : Nat) (h : k ≤ 12) (z a b c : T) : List.drop k [z, z, z, z, z, z, z, z, z, z, z, z, a, b, c] = List.replicate (12 - k) z ++ [a, b, c] := by
  match k, h with
  | 0, _ | 1, _ | 2, _ | 3, _ | 4, _ | 5, _ | 6, _ | 7, _ | 8, _ | 9, _ | 10, _ | 11, _ | 12, _ => rfl
theorem pad_copy {xs : List Int} {a b c : T} (h : xs.length ≤ 12) : List.take (Nat.min xs.length 12) (List.map (T.int .i64) xs) ++ List.drop (0 + Nat.min xs.length 12) [T.int .i64 0, T.int .i64 0, T.int .i64 0, T.int .i64 0, T.int .i64 0, T.int .i64 0, T.int .i64 0, T.int .i64 0, T.int .i64 0, T.int .i64 0, T.int .i64 0, T.int .i64 0, a, b, c] = List.map (T.int .i64) (pad12 xs) ++ [a, b, c] := by
  rw [show Nat.min xs.length 12 = xs.length from Nat.min_eq_left h, Nat.zero_add, drop_zeros _ h, List.take_of_length_le (by simp)]
  simp [pad12]
theorem room_set {xs : List Int} {j : Nat} {l : List T} (h : j < 12) (hx : j < xs.length) : List.set (List.map (T.int .i64) (List.take j xs ++ List.replicate (12 - j) 0) ++ l) j (T.int .i64 (List.getD xs j 0)) = List.map (T.int .i64) (List.take (j + 1) xs ++ List.replicate (12 - (j + 1)) 0) ++ l := by
  have hlen : (List.map (T.int .i64) (List.take j xs)).length = j := by simp; omega
  obtain ⟨m, hm⟩ : ∃ m, 12 - j = m + 1 := ⟨12 - j - 1, by omega⟩
  rw [List.map_append, List.append_assoc, List.set_append_right _ _ (by omega), hlen, Nat.sub_self, hm, List.replicate_succ, List.map_cons, List.cons_append, List.set_cons_zero, List.map_append, ← take_push hx, show 12 - (j + 1) = m by omega]
  simp
def nrL (xs : List Int) (m : Int) : List Int := if isStateN xs m then pad12 xs else List.replicate 12 0
def nrN (xs : List Int) (m : Int) : Int := if isStateN xs m then xs.length else 0
def nrM (xs : List Int) (m : Int) : Int := if isStateN xs m then m else 0
theorem isStateN_len {xs : List Int} {m : Int} (h : isStateN xs m = true) : xs.length ≤ 12 ∧ 0 < xs.length := by
  have := (isStateN_iff.1 h).1; omega
theorem nrL_len (xs : List Int) (m : Int) : (nrL xs m).length = 12 := by
  unfold nrL
  split
  · rename_i h; exact pad12_len (isStateN_len h).1
  · simp
theorem nr_bad {xs : List Int} {m : Int} (h : isStateN xs m = false) : T.tup [T.agg [T.int .i64 0, T.int .i64 0, T.int .i64 0, T.int .i64 0, T.int .i64 0, T.int .i64 0, T.int .i64 0, T.int .i64 0, T.int .i64 0, T.int .i64 0, T.int .i64 0, T.int .i64 0, T.int .i64 0, T.int .i64 0, T.int .i64 0], T.bool false] = T.tup [T.agg (List.map (T.int .i64) (nrL xs m) ++ [T.int .i64 (nrN xs m), T.int .i64 (nrM xs m), T.int .i64 (0 : Int)]), T.bool (isStateN xs m)] := by
  simp [nrL, nrN, nrM, h]
theorem nr_good {xs : List Int} {m : Int} (h : isStateN xs m = true) : T.tup [T.agg (List.map (T.int .i64) (pad12 xs) ++ [T.int .i64 ((xs.length : Nat) : Int), T.int .i64 m, T.int .i64 0]), T.bool true] = T.tup [T.agg (List.map (T.int .i64) (nrL xs m) ++ [T.int .i64 (nrN xs m), T.int .i64 (nrM xs m), T.int .i64 (0 : Int)]), T.bool (isStateN xs m)] := by
  simp [nrL, nrN, nrM, h]
theorem nr_good' {xs : List Int} {m : Int} (h : isStateN xs m = true) : T.tup [T.agg (List.take 15 (List.map (T.int .i64) (pad12 xs) ++ [T.int .i64 ((xs.length : Nat) : Int), T.int .i64 m, T.int .i64 0])), T.bool true] = T.tup [T.agg (List.map (T.int .i64) (nrL xs m) ++ [T.int .i64 (nrN xs m), T.int .i64 (nrM xs m), T.int .i64 (0 : Int)]), T.bool (isStateN xs m)] := by
  have hl := pad12_len (isStateN_len h).1
  rw [List.take_of_length_le (by simp [hl]), nr_good h]
end Go.Tl
