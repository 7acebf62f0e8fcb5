/-
  What a struct of three numbers that a law takes reads as. No statement of the seat is proved here.
-/
import Derived.Test.YtofiecpgfjofdaaTlY
import Derived.Test.YtofiecpgfjofdaaTlTree
namespace Go.Tl
open Go.RowKit Go.WideShapes Go.ChangeShapes Go.ChangeAt
set_option linter.unusedVariables false
set_option linter.unusedSimpArgs false
section
variable {H : Type} {enc : TypeId × Value → H} {P : Program} {w : World} {sp : Nat → Bool} {held : Bool}
theorem rd_turn {t e : TypeId} {f0 f1 f2 : Field} {fuel : Nat} {v : Value} {x : DataW H × List MemPlace} {r : Reach} {b0 : Nat} (ht : P.underlying t = some (.struct #[f0, f1, f2])) (hv : Value.okWide P w r b0 t v) (h : DataW.trod enc P w 0 sp held fuel t v.cells.toList = some x)
    (h0 : f0.type = e ∧ f0.offset = 0) (h1 : f1.type = e ∧ f1.offset = 1) (h2 : f2.type = e ∧ f2.offset = 2) (he : P.underlying e = some (.int .i64)) (ce : P.cellsOf e = 1) (ct : P.cellsOf t = 3) :
    ∃ (c a b : Int), VR w (Old w) (.agg [T.int .i64 c, T.int .i64 a, T.int .i64 b]) v := by
  obtain ⟨cs, rfl, hsz⟩ := okWide_struct ht hv
  obtain ⟨hlen, m, hf⟩ := rd_struct ht h
  obtain ⟨y0, k0⟩ := hf 0 f0 rfl
  obtain ⟨y1, k1⟩ := hf 1 f1 rfl
  obtain ⟨y2, k2⟩ := hf 2 f2 rfl
  rw [h0.1, h0.2, ce] at k0
  rw [h1.1, h1.2, ce] at k1
  rw [h2.1, h2.2, ce] at k2
  obtain ⟨c, n1, _, n2⟩ := DataW.trod_int he k0
  obtain ⟨a, m1, _, m2⟩ := DataW.trod_int he k1
  obtain ⟨b, q1, _, q2⟩ := DataW.trod_int he k2
  have hcs : cs.toList = [Value.int .i64 c, Value.int .i64 a, Value.int .i64 b] := by
    have e : (Value.agg cs).cells.toList = cs.toList := rfl
    rw [e] at hlen n1 m1 q1
    rw [ct] at hlen
    generalize cs.toList = l at *
    match l, hlen with
    | [x, y, z], _ =>
      simp only [List.drop_zero, List.take, List.drop, List.cons.injEq, and_true] at n1 m1 q1
      rw [n1, m1, q1]
  refine ⟨c, a, b, ?_⟩
  simp only [VR]
  refine ⟨cs, rfl, ?_, ?_⟩
  · rw [hcs]
    intro u hu
    simp only [List.mem_cons, List.not_mem_nil, or_false] at hu
    rcases hu with rfl | rfl | rfl <;> rfl
  · rw [hcs]; simp [VL, VR]
end
end Go.Tl
