/-
  What is drawn from a list of bytes, step by step. Plain lists: no program here.
-/
import Derived.Test.YtnpdbllidpijfaaTlTurns
namespace Go.Tl
def minN (a b : Int) : Int := if a < b then a else b
/-! ### one byte -/
section
variable {bs : List Int} {p s : Int}
end
/-! ### a number below another -/
section
variable {bs : List Int} {p s n : Int}
end
/-! ### an element -/
/-! ### a state: its numbers, then the ones that are beyond -/
section
variable {bs : List Int} {m p s : Int} {i : Nat}
end
section
variable {bs : List Int} {m p s : Int} {xs : List Int} {i : Nat}
end
section
variable {bs : List Int} {p s : Int} {i : Nat}
end
section
variable {bs : List Int} {p s : Int} {i : Nat}
end
/-! ### a question -/
section
variable {bs : List Int} {p s n : Int}
end
/-! ### a turn -/
section
variable {bs : List Int} {p s n c a b : Int}
end
/-! ### a room: some turns from a new one, then what spoils it -/
section
variable {bs : List Int} {p s : Int} {i : Nat}
end
section
variable {bs : List Int} {p s : Int}
end
/-! ### the turns behind a room -/
section
variable {bs : List Int} {p s : Int} {i : Nat}
end
end Go.Tl
