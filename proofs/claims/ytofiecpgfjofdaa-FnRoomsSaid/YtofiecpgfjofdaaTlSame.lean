/-
  Two equal rooms are found equal. No statement of the seat is proved here.
-/
import Derived.Test.YtofiecpgfjofdaaTlEq
import Derived.ChangeKeysEq
namespace Go.Tl
set_option linter.unusedVariables false
set_option linter.unusedSimpArgs false
theorem eqItems_same {P : Program} {w : World} {d : Nat} {e : TypeId} (he : P.underlying e = some (.int .i64)) (pe : P.plainKey e = true) {B : Array Value} : ∀ (is : List Nat), (∀ i ∈ is, ∃ n, B[i]? = some (Value.int .i64 n)) →
    (Op.eqItems (d + 1) e 1 B B is).run P w = .ok true w
  | [], _ => by simp [Op.eqItems]
  | i :: is, h => by
    obtain ⟨n, hn⟩ := h i (by simp)
    have hp : (part e B (i * 1)).run P w = .ok (Value.int .i64 n) w := run_part_plain w pe (by rw [Nat.mul_one]; exact hn)
    have ih := eqItems_same (w := w) (d := d) he pe is fun j hj => h j (by simp [hj])
    simp only [Op.eqItems, Sem.run_bind, hp, Result.andThen_ok, run_equalIn_int w d e .i64 .i64 n n he, beq_self_eq_true, Bool.not_true, Bool.false_eq_true, if_false, ih]
theorem eqSame_room {P : Program} {t a e : TypeId} {f0 f1 f2 f3 : Field} (ht : P.underlying t = some (.struct #[f0, f1, f2, f3])) (hst : P.stoodInHeld t = false) (hg : P.eqGuardType P.depth t = false)
    (h0 : f0.type = a ∧ f0.offset = 0 ∧ f0.name ≠ "_") (h1 : f1.type = e ∧ f1.offset = 12 ∧ f1.name ≠ "_") (h2 : f2.type = e ∧ f2.offset = 13 ∧ f2.name ≠ "_") (h3 : f3.type = e ∧ f3.offset = 14 ∧ f3.name ≠ "_")
    (ha : P.underlying a = some (.array 12 e)) (he : P.underlying e = some (.int .i64)) (pe : P.plainKey e = true) (ce : P.cellsOf e = 1) (ca : P.cellsOf a = 12) : EqSame P t 15 := by
  intro as op xo yo w p r hl hop
  generalize hA : (as.map (Value.int .i64)).toArray = A
  have hsz : A.size = 15 := by rw [← hA]; simpa using hl
  have hcell : ∀ i, i < 15 → ∃ n, A[i]? = some (Value.int .i64 n) := fun i hi => by
    rw [← hA]
    exact ⟨as[i]'(by omega), by simp [hl, hi]⟩
  have hfs : P.fieldsOf t = #[f0, f1, f2, f3] := by simp [Program.fieldsOf, ht]
  obtain ⟨ia, hia⟩ := info_of_underlying ha
  obtain ⟨ie, hie⟩ := info_of_underlying he
  have fields : ∀ d, (Op.eqFields (d + 2) A A [f0, f1, f2, f3]).run P w = .ok true w := fun d => by
    have hp0 : (part a A 0).run P w = .ok (.agg (A.extract 0 12)) w := by
      simp [part, isAgg, run_underlying ha, run_sizeOf w hia, ca]
    have he0 : (Op.equalIn (d + 2) a (.agg (A.extract 0 12)) (.agg (A.extract 0 12))).run P w = .ok true w := by
      rw [run_equalIn_array w (d + 1) (A.extract 0 12) (A.extract 0 12) ha hie, ce]
      refine eqItems_same he pe _ fun i hi => ?_
      have hi' : i < 12 := List.mem_range.1 hi
      obtain ⟨n, hn⟩ := hcell i (by omega)
      exact ⟨n, by rw [Array.getElem?_extract]; simp only [Nat.zero_add, Nat.sub_zero]; rw [if_pos (by omega)]; exact hn⟩
    have hpi : ∀ i, i < 15 → ∃ n, (part e A i).run P w = .ok (Value.int .i64 n) w := fun i hi => by
      obtain ⟨n, hn⟩ := hcell i hi
      exact ⟨n, run_part_plain w pe hn⟩
    obtain ⟨n1, g1⟩ := hpi 12 (by omega)
    obtain ⟨n2, g2⟩ := hpi 13 (by omega)
    obtain ⟨n3, g3⟩ := hpi 14 (by omega)
    simp only [Op.eqFields, ne_eq, h0.2.2, h1.2.2, h2.2.2, h3.2.2, not_false_eq_true, if_true, Sem.run_bind, h0.1, h0.2.1, h1.1, h1.2.1, h2.1, h2.2.1, h3.1, h3.2.1, hp0, he0, g1, g2, g3, Result.andThen_ok, run_equalIn_int w (d + 1) e .i64 .i64 _ _ he, beq_self_eq_true, Bool.not_true, Bool.false_eq_true, if_false, Sem.run_pure]
  have heq : (Op.equal t (.agg A) (.agg A)).run P w = .ok true w := by
    show (Op.equalIn (9999 + 1) t (.agg A) (.agg A)).run P w = _
    rw [run_equalIn_struct w 9999 t A A (by rw [hfs]; exact ht) hst, hfs]
    exact fields 9997
  have guard : (eqGuard op t xo yo (.agg A) (.agg A)).run P w = .ok () w := by
    cases op <;> simp [eqGuard, hg]
  simp only [Sem.run_bind, guard, Result.andThen_ok]
  cases op <;> simp only [eqT, Option.some.injEq, Prod.mk.injEq, reduceCtorEq] at hop
  · obtain ⟨_, rfl⟩ := hop
    exact ⟨true, rfl, by simp [binOp, heq]⟩
  · obtain ⟨_, rfl⟩ := hop
    exact ⟨false, rfl, by simp [binOp, heq]⟩
end Go.Tl
