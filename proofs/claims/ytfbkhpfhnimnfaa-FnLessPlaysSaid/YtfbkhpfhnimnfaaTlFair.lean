/-
  The answers that a room in a state may still give to a question. Plain lists: no program here.
-/
import Derived.Test.YtfbkhpfhnimnfaaTlState
namespace Go.Tl
/-- An answer that leaves a number open. -/
def fairE (m q : Int) (xs : List Int) (y : Bool) : List Bool := if decide ((((openN (ansN m q y xs)).length : Nat) : Int) > (0 : Int)) = true then [y] else []
def fairP (m q : Int) (xs : List Int) : Nat → List Bool
  | 0 => []
  | k + 1 => fairP m q xs k ++ fairE m q xs (decide ((k : Int) = 1))
def fairN (m q : Int) (xs : List Int) : List Bool := fairP m q xs 2
theorem fairE_len {m q : Int} {xs : List Int} {y : Bool} : (fairE m q xs y).length ≤ 1 := by unfold fairE; split <;> simp
theorem fairP_len {m q : Int} {xs : List Int} : ∀ k, (fairP m q xs k).length ≤ k
  | 0 => by simp [fairP]
  | k + 1 => by
    have h := fairP_len (m := m) (q := q) (xs := xs) k
    have h2 := fairE_len (m := m) (q := q) (xs := xs) (y := decide ((k : Int) = 1))
    simp only [fairP, List.length_append]; omega
theorem fair_two {m q : Int} {xs : List Int} {a b : Bool} (h : decide ((((openN (ansN m q false xs)).length : Nat) : Int) > (0 : Int)) = a) (h2 : decide ((((openN (ansN m q true xs)).length : Nat) : Int) > (0 : Int)) = b) :
    fairN m q xs = (if a = true then [false] else []) ++ (if b = true then [true] else []) := by
  have e0 : decide (((0 : Nat) : Int) = 1) = false := by decide
  have e1 : decide (((1 : Nat) : Int) = 1) = true := by decide
  simp only [fairN, fairP, fairE, e0, e1, h, h2, List.nil_append]
/-- A state of a race: short, and more than one number open. -/
def shortN (xs : List Int) (m : Int) : Bool := isStateN xs m && decide (((xs.length : Nat) : Int) ≤ (5 : Int)) && decide (m ≤ (1 : Int))
def raceN (xs : List Int) (m : Int) : Bool := shortN xs m && decide ((((openN xs).length : Nat) : Int) ≥ (2 : Int))
end Go.Tl
