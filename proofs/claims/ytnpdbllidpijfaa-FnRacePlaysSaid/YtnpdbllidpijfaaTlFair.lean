/-
  The answers that a room in a state may still give to a question. Plain lists: no program here.
-/
import Derived.Test.YtnpdbllidpijfaaTlState
namespace Go.Tl
def fairE (m q : Int) (xs : List Int) (y : Bool) : List Bool := if decide ((((openN (ansN m q y xs)).length : Nat) : Int) > (0 : Int)) = true then [y] else []
def fairP (m q : Int) (xs : List Int) : Nat → List Bool
  | 0 => []
  | k + 1 => fairP m q xs k ++ fairE m q xs (decide ((k : Int) = 1))
def fairN (m q : Int) (xs : List Int) : List Bool := fairP m q xs 2
theorem fairE_len {m q : Int} {xs : List Int} {y : Bool} : (fairE m q xs y).length ≤ 1 := by unfold fairE; split <;> simp
theorem fairP_len {m q : Int} {xs : List Int} : ∀ k, (fairP m q xs k).length ≤ k
  | 0 => by simp [fairP]
  | k + 1 => by
    have h := fairP_len (m := m) (q := q) (xs := xs) k
    have h2 := fairE_len (m := m) (q := q) (xs := xs) (y := decide ((k : Int) = 1))
    simp only [fairP, List.length_append]; omega
theorem fair_yes {m q : Int} {xs : List Int} {k : Nat} (h : decide ((((openN (ansN m q (decide ((k : Int) = (1 : Int))) xs)).length : Nat) : Int) > (0 : Int)) = true) : fairP m q xs (k + 1) = fairP m q xs k ++ [decide ((k : Int) = 1)] := by
  simp only [fairP, fairE]; rw [if_pos h]
theorem fair_no {m q : Int} {xs : List Int} {k : Nat} (h : decide ((((openN (ansN m q (decide ((k : Int) = (1 : Int))) xs)).length : Nat) : Int) > (0 : Int)) = false) : fairP m q xs (k + 1) = fairP m q xs k := by
  simp only [fairP, fairE]; rw [if_neg (by rw [h]; simp)]; simp
theorem fair_two {m q : Int} {xs : List Int} {a b : Bool} (h : decide ((((openN (ansN m q false xs)).length : Nat) : Int) > (0 : Int)) = a) (h2 : decide ((((openN (ansN m q true xs)).length : Nat) : Int) > (0 : Int)) = b) :
    fairN m q xs = (if a = true then [false] else []) ++ (if b = true then [true] else []) := by
  have e0 : decide (((0 : Nat) : Int) = 1) = false := by decide
  have e1 : decide (((1 : Nat) : Int) = 1) = true := by decide
  simp only [fairN, fairP, fairE, e0, e1, h, h2, List.nil_append]
def shortN (xs : List Int) (m : Int) : Bool := isStateN xs m && decide (((xs.length : Nat) : Int) ≤ (5 : Int)) && decide (m ≤ (1 : Int))
def raceN (xs : List Int) (m : Int) : Bool := shortN xs m && decide ((((openN xs).length : Nat) : Int) ≥ (2 : Int))
theorem race_ok {xs : List Int} {m : Int} (h : raceN xs m = true) : okS xs m := by
  simp only [raceN, shortN, Bool.and_eq_true] at h
  exact okS_of h.1.1.1
theorem short_ok {xs : List Int} {m : Int} (h : shortN xs m = true) : okS xs m ∧ xs.length ≤ 5 := by
  simp only [shortN, Bool.and_eq_true, decide_eq_true_eq] at h
  exact ⟨okS_of h.1.1, by omega⟩
theorem not_lt_ge (a b : Int) : (!decide (a < b)) = decide (a ≥ b) := by
  by_cases h : a < b
  · have : ¬ (a ≥ b) := by omega
    simp [h]
  · have : a ≥ b := by omega
    simp [h, this]
def faB (xs : List Int) (m q : Int) : Bool := raceN xs m && isQ ((xs.length : Nat) : Int) q
def faL (xs : List Int) (m q : Int) : List Bool := if faB xs m q = true then fairN m q xs else []
theorem faL_len {xs : List Int} {m q : Int} : (faL xs m q).length ≤ 2 := by
  unfold faL; split
  · exact fairP_len 2
  · simp
theorem fa_yes {xs : List Int} {m q : Int} (h : raceN xs m = true) (h2 : isQ ((xs.length : Nat) : Int) q = true) : faB xs m q = true ∧ faL xs m q = fairN m q xs := by simp [faL, faB, h, h2]
theorem fa_no1 {xs : List Int} {m q : Int} (h : raceN xs m = false) : faB xs m q = false ∧ faL xs m q = [] := by simp [faL, faB, h]
theorem fa_no2 {xs : List Int} {m q : Int} (h : isQ ((xs.length : Nat) : Int) q = false) : faB xs m q = false ∧ faL xs m q = [] := by simp [faL, faB, h]
end Go.Tl
