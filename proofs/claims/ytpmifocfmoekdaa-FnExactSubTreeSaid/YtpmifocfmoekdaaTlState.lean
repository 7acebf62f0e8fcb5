/-
  Plain laws of states: what an answer does to them, and which numbers are open. No statement of the seat is proved here.
-/
import Derived.Test.YtpmifocfmoekdaaTlLeaf
namespace Go.Tl
set_option linter.unusedVariables false
set_option linter.unusedSimpArgs false

/-- One false answer more for a number. -/
def lieN (m : Int) (b : Bool) (x : Int) : Int := if x ≥ 0 ∧ b = true then (if x + 1 > m then -1 else x + 1) else x
def afterN (m : Int) (p : Nat → Bool) (xs : List Int) : List Int := (List.range xs.length).map fun j => lieN m (p j) (xs.getD j 0)
section
variable {m : Int} {p : Nat → Bool} {xs : List Int} {i : Nat}
@[simp] theorem afterN_len : (afterN m p xs).length = xs.length := by simp [afterN]
end
/-- Is the answer yes = y to the question q false for a number? -/
def falseB (q : Int) (y : Bool) (k : Int) : Bool := !(hasB q k == y)
def ansN (m q : Int) (y : Bool) (xs : List Int) : List Int := afterN m (fun k => falseB q y (k : Int)) xs
@[simp] theorem ansN_len {m q : Int} {y : Bool} {xs : List Int} : (ansN m q y xs).length = xs.length := by simp [ansN]
/-! ### open numbers -/
def openP (xs : List Int) (k : Nat) : List Int := ((List.range k).filter fun i => decide (xs.getD i 0 ≥ 0)).map fun (i : Nat) => (i : Int)
def openN (xs : List Int) : List Int := openP xs xs.length
/-! ### states behind answers, at the nodes of a tree -/
end Go.Tl
