/-
  Small facts for the walks: integers that fit, bytes of strings, elements of lists, tests of all. No statement of the seat is proved here.
-/
import Derived.Test.YtfbkhpfhnimnfaaTlU
import Derived.Laws.Externs
namespace Go.Tl
set_option linter.unusedVariables false
set_option linter.unusedSimpArgs false

theorem wrap_i64_id {e : Int} (h1 : -9223372036854775808 ≤ e) (h2 : e ≤ 9223372036854775807) : IntKind.wrap .i64 e = e := by
  rw [IntKind.wrap_i64]; omega
theorem wrapT_i64 {e : Int} (h1 : -9223372036854775808 ≤ e) (h2 : e ≤ 9223372036854775807) : T.int .i64 (IntKind.wrap .i64 e) = T.int .i64 e := by
  rw [wrap_i64_id h1 h2]
theorem at1 {α : Type} {f : α → T} {xs : List α} {d : α} {j i : Nat} (hj : j = i) (h : i < xs.length) : ((List.drop j (List.map f xs)) : List T)[0]? = some (f (List.getD xs i d)) := by
  subst hj
  rw [← List.map_drop]
  simp [List.getElem?_drop, List.getD_eq_getElem?_getD, h]
theorem all_step {i : Nat} {q : Nat → Prop} (h : ∀ j, j < i → q j) (hi : q i) : ∀ j, j < i + 1 → q j := fun j hj => by
  by_cases e : j = i
  · rw [e]; exact hi
  · exact h j (by omega)

end Go.Tl
