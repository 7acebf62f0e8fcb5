/-
  What a turn makes of a room. Plain lists: no program here.
-/
import Derived.Test.YtfbkhpfhnimnfaaTlState
import Derived.Test.YtfbkhpfhnimnfaaTlRoomY
namespace Go.Tl
theorem isState_ok {xs : List Int} {m : Int} (h : okS xs m) (h1 : 1 ≤ xs.length) : isStateN xs m = true :=
  isStateN_iff.2 ⟨⟨h1, h.1⟩, ⟨h.2.1, h.2.2.1⟩, fun i _ => h.2.2.2 i⟩
/-- A number that is open. -/
def opB (xs : List Int) (a : Int) : Bool := (decide (0 ≤ a) && decide (a ≤ (xs.length : Int) - 1)) && decide (xs.getD a.toNat 0 ≥ 0)
theorem op_in {xs : List Int} {a : Int} (h : (decide (0 ≤ a) && decide (a ≤ (xs.length : Int) - 1)) = true) : 0 ≤ a ∧ a < (xs.length : Int) := by
  simp only [Bool.and_eq_true, decide_eq_true_eq] at h; omega
/-! ### StartState -/
/-! ### AnswerState -/
def asB (xs : List Int) (m q : Int) : Bool := isStateN xs m && isQ (xs.length : Int) q
def asL (xs : List Int) (m q : Int) (y : Bool) : List Int := if asB xs m q = true then ansN m q y xs else []
def asM (xs : List Int) (m q : Int) (_y : Bool) : Int := if asB xs m q = true then m else 0
theorem as_yes {xs : List Int} {m q : Int} {y : Bool} (h : isStateN xs m = true) (h2 : isQ ((xs.length : Nat) : Int) q = true) : asB xs m q = true ∧ asL xs m q y = ansN m q y xs ∧ asM xs m q y = m := by simp [asL, asM, asB, h, h2]
theorem as_no1 {xs : List Int} {m q : Int} {y : Bool} (h : isStateN xs m = false) : asB xs m q = false ∧ asL xs m q y = [] ∧ asM xs m q y = 0 := by simp [asL, asM, asB, h]
theorem as_no2 {xs : List Int} {m q : Int} {y : Bool} (h : isQ ((xs.length : Nat) : Int) q = false) : asB xs m q = false ∧ asL xs m q y = [] ∧ asM xs m q y = 0 := by simp [asL, asM, asB, h]
/-! ### what a turn makes of a state: as it is told, and as it is made -/
/-! ### lengths -/
/-! ### rooms of states -/
/-! ### by cases -/
theorem op_no1 {xs : List Int} {a : Int} (h : (decide (0 ≤ a) && decide (a ≤ (xs.length : Int) - 1)) = false) : opB xs a = false := by unfold opB; rw [h]; rfl
section
variable {xs : List Int} {m c a b : Int}
end
/-! ### DoTurn by cases -/
section
variable {lies : List Int} {n m k c a b : Int}
end
end Go.Tl
