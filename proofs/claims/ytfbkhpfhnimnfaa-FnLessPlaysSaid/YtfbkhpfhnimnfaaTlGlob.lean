/-
  The package variables that start-up code has laid and nobody writes: their blocks and what these hold. This text is of one seat. No statement of the seat is proved here.
-/
import Derived.Test.YtfbkhpfhnimnfaaTlA
namespace Go.Tl
def laidB : List (Nat × Array Value) := []
/-- The laid variables' blocks may be leant on, and hold what was laid. -/
def Glob (ok : Nat → Prop) (w : World) : Prop := ∀ q ∈ laidB, ok q.1 ∧ ∃ e f, w.heap[q.1]? = some (.cells q.2 e f)
theorem Glob.lasts {ok ok' : Nat → Prop} {w w' : World} (h : Lasts w ok w' ok') (g : Glob ok w) : Glob ok' w' := fun q hq => by
  obtain ⟨h1, e, f, h2⟩ := g q hq
  exact ⟨h.lets _ h1, e, f, by rw [h.same _ h1]; exact h2⟩
end Go.Tl
