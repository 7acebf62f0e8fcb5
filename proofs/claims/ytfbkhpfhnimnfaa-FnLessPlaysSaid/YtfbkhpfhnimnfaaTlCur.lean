/-
  What is drawn from a list of bytes, step by step. Plain lists: no program here.
-/
import Derived.Test.YtfbkhpfhnimnfaaTlTurns
namespace Go.Tl
theorem and255 (x : Int) : 0 ≤ bits .and .u64 x 255 ∧ bits .and .u64 x 255 ≤ 255 := by
  unfold bits
  rw [IntKind.wrap_u64]
  have h : (BitVec.ofInt IntKind.u64.bits x &&& BitVec.ofInt IntKind.u64.bits 255).toNat ≤ 255 := by
    rw [BitVec.toNat_and]
    exact Nat.le_trans Nat.and_le_right (by decide)
  simp only at h ⊢
  constructor <;> omega
def minN (a b : Int) : Int := if a < b then a else b
/-- The list holds bytes. -/
def okY (bs : List Int) : Prop := ∀ i : Nat, 0 ≤ bs.getD i 0 ∧ bs.getD i 0 ≤ 255
/-! ### one byte -/
section
variable {bs : List Int} {p s : Int}
end
/-! ### a number below another -/
section
variable {bs : List Int} {p s n : Int}
end
/-! ### an element -/
/-! ### a state: its numbers, then the ones that are beyond -/
def d5 (b : Int) : Int := Int.tdiv b 5
theorem d5_in {b : Int} (h0 : 0 ≤ b) (h1 : b < 6) : 0 ≤ d5 b ∧ d5 b ≤ 1 := by
  unfold d5
  have : b = 0 ∨ b = 1 ∨ b = 2 ∨ b = 3 ∨ b = 4 ∨ b = 5 := by omega
  rcases this with h | h | h | h | h | h <;> subst h <;> decide
section
variable {bs : List Int} {m p s : Int} {i : Nat}
end
section
variable {bs : List Int} {m p s : Int} {xs : List Int} {i : Nat}
end
section
variable {bs : List Int} {p s : Int} {i : Nat}
end
section
variable {bs : List Int} {p s : Int} {i : Nat}
end
/-! ### a question -/
section
variable {bs : List Int} {p s n : Int}
end
/-! ### a turn -/
section
variable {bs : List Int} {p s n c a b : Int}
end
/-! ### a room: some turns from a new one, then what spoils it -/
section
variable {bs : List Int} {p s : Int} {i : Nat}
end
section
variable {bs : List Int} {p s : Int}
end
/-! ### the turns behind a room -/
section
variable {bs : List Int} {p s : Int} {i : Nat}
end
end Go.Tl
