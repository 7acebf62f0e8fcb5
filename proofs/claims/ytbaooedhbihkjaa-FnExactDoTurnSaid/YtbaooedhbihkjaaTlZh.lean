/-
  FnExactDoTurn: the law returns true for all arguments, and they read behind the call as before.
-/
import Derived.Test.YtbaooedhbihkjaaRows
import Derived.Lib.SmallJoins
import Derived.Test.YtbaooedhbihkjaaTlY
import Derived.Test.YtbaooedhbihkjaaTlFlat
import Derived.Test.YtbaooedhbihkjaaTlTreeY
import Derived.Test.YtbaooedhbihkjaaTlTurnY
import Derived.Test.YtbaooedhbihkjaaTlXh0
import Derived.Test.YtbaooedhbihkjaaTlXh
namespace Go.Proofs.Ytbaooedhbihkjaa
open Go Go.Tl Go.Proofs Go.ChangeShapes Go.WideShapes Go.ChangeAt Go.RowKit Go.Joins
open Go.Proofs.Ytbaooedhbihkjaa.TlXh0
open Go.Proofs.Ytbaooedhbihkjaa.TlXh
set_option linter.unusedVariables false
set_option linter.unusedSimpArgs false

theorem doTurn_holds_own : ownKnob Try.prog.godebug = none := by kernel_rfl
theorem doTurn_holds_laidOut : laidOutB Try.prog = true := by kernel_rfl

set_option maxRecDepth 100000 in
theorem doTurn_holds_contract (H : Type) (enc : TypeId × Value → H) (W : World) (base : Nat) (args : Array Value) (ds gs : List (DataW H)) (before : List MemPlace)
    (hval : ∀ (j : Nat) t v, Try.f11.params[j]? = some t → args[j]? = some v → Value.okWide Try.prog W .any base t v)
    (hW : DataW.Whole enc Try.prog Try.f11.params.toList Rows.fnExactDoTurnSpec.vars false W args.toList ds gs before) :
    Calls Try.prog 11 args W fun e W' => ∃ v, e = .returned v ∧ Rows.fnExactDoTurnSpec.post enc Try.prog Try.f11 false true false false W args v W' := by
  have hW' := hW
  obtain ⟨p, q, hA0, hV, rfl, hfz, hnd⟩ := hW
  have hA : DataW.TrodAll enc Try.prog W 0 (fun _ => true) true Try.f11.params.toList args.toList ds p := hA0
  rw [Try.params11] at hA hval
  obtain ⟨v0, vs0, d0, ds0, p0, q0, hargs0, rfl, rfl, h0, r0⟩ := trodAll_cons hA
  obtain ⟨v1, vs1, d1, ds1, p1, q1, hargs1, rfl, rfl, h1, r1⟩ := trodAll_cons r0
  obtain ⟨rfl, rfl, rfl⟩ := trodAll_nil r1
  subst hargs1
  obtain rfl : args = #[v0, v1] := by cases args; simp_all
  obtain ⟨fuel0, hfuel0⟩ := h0
  obtain ⟨lies, n, m, k, hllies, hv0, wn, wm, wk, wlies⟩ := rd_room Try.underlying24 (hval 0 24 v0 rfl rfl) hfuel0 ⟨rfl, rfl⟩ ⟨rfl, rfl⟩ ⟨rfl, rfl⟩ ⟨rfl, rfl⟩ Try.underlying22 Try.underlying3 (by kernel_rfl) (by kernel_rfl) (by kernel_rfl)
  obtain ⟨fuel1, hfuel1⟩ := h1
  obtain ⟨c, a, b, hv1⟩ := rd_turn Try.underlying97 (hval 1 97 v1 rfl rfl) hfuel1 ⟨rfl, rfl⟩ ⟨rfl, rfl⟩ ⟨rfl, rfl⟩ Try.underlying3 (by kernel_rfl) (by kernel_rfl)
  have hm : maxLen ≤ 9223372036854775807 := by decide
  refine law_calls (tb := 4) (ts := [T.agg (List.map (T.int .i64) lies ++ [T.int .i64 n, T.int .i64 m, T.int .i64 k]), T.agg [T.int .i64 c, T.int .i64 a, T.int .i64 b]]) doTurn_holds_laidOut Try.func11 (fun vs w => ?_) (by kernel_rfl) Try.underlying4 ?_ rfl hW' ⟨rfl, rfl, rfl⟩ ?_ (lawDoTurn_C lies n m k c a b hllies)
  · simp [callFunc, Try.func11, Try.f11]
  · rw [Try.params11]
    intro t ht
    simp only [List.mem_cons, List.not_mem_nil, or_false] at ht
    rcases ht with rfl | rfl
    all_goals exact ⟨by kernel_rfl, Nat.le_of_ble_eq_true (by kernel_rfl)⟩
  · exact vl_two hv0 hv1

set_option maxRecDepth 100000 in
theorem doTurn_holds_lifted (os : Os) (started : os.Started) (H : Type) (enc : TypeId × Value → H) :
    ReturnsInHanded {} Try.checked os 11 .any (Rows.fnExactDoTurnSpec.pre6 enc Try.prog Try.f11 Rows.fnExactDoTurnRow.domain false) (Rows.fnExactDoTurnSpec.post enc Try.prog Try.f11 false true false false) := by
  refine returnsInHanded_of_change (C := Try.checked) doTurn_holds_own started (by kernel_rfl) Try.func11
    (ChangeSpec.witness6 (enc := enc) (C := Try.checked) false ⟨#[], #[.agg #[.int .i64 0, .int .i64 0, .int .i64 0, .int .i64 0, .int .i64 0, .int .i64 0, .int .i64 0, .int .i64 0, .int .i64 0, .int .i64 0, .int .i64 0, .int .i64 0, .int .i64 0, .int .i64 0, .int .i64 0], .agg #[.int .i64 0, .int .i64 0, .int .i64 0]], []⟩ 8 (by kernel_rfl) (by kernel_rfl) (by kernel_rfl) (by kernel_rfl)) ?_
  intro W base args ds gs before hval hW _ _
  exact doTurn_holds_contract H enc W base args ds gs before hval hW

theorem doTurn_holds : Rows.FnExactDoTurnSaid :=
  OpenClaim.holds_of_wide 11 Try.f11 rfl rfl rfl rfl rfl rfl rfl ⟨rfl, rfl, rfl, rfl, rfl⟩ rfl rfl rfl rfl rfl (by kernel_rfl) Try.func11 (by kernel_rfl)
    (of_decide_eq_true (by kernel_rfl)) (by unfold Func.isWrapper; first | (rw [if_pos (by decide +kernel)]; kernel_rfl) | (rw [if_neg (by decide +kernel)]; exact ⟨rfl, rfl⟩))
    (fun os started H enc _ => doTurn_holds_lifted os started H enc)
end Go.Proofs.Ytbaooedhbihkjaa
