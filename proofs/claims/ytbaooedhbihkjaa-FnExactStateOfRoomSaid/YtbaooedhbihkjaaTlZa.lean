/-
  FnExactStateOfRoom: the law returns true for all arguments, and they read behind the call as before.
-/
import Derived.Test.YtbaooedhbihkjaaRows
import Derived.Lib.SmallJoins
import Derived.Test.YtbaooedhbihkjaaTlY
import Derived.Test.YtbaooedhbihkjaaTlFlat
import Derived.Test.YtbaooedhbihkjaaTlTreeY
import Derived.Test.YtbaooedhbihkjaaTlXa
namespace Go.Proofs.Ytbaooedhbihkjaa
open Go Go.Tl Go.Proofs Go.ChangeShapes Go.WideShapes Go.ChangeAt Go.RowKit Go.Joins
open Go.Proofs.Ytbaooedhbihkjaa.TlXa
set_option linter.unusedVariables false
set_option linter.unusedSimpArgs false

theorem stateOfRoom_holds_own : ownKnob Try.prog.godebug = none := by kernel_rfl
theorem stateOfRoom_holds_laidOut : laidOutB Try.prog = true := by kernel_rfl

set_option maxRecDepth 100000 in
theorem stateOfRoom_holds_contract (H : Type) (enc : TypeId × Value → H) (W : World) (base : Nat) (args : Array Value) (ds gs : List (DataW H)) (before : List MemPlace)
    (hval : ∀ (j : Nat) t v, Try.f3.params[j]? = some t → args[j]? = some v → Value.okWide Try.prog W .any base t v)
    (hW : DataW.Whole enc Try.prog Try.f3.params.toList Rows.fnExactStateOfRoomSpec.vars false W args.toList ds gs before) :
    Calls Try.prog 3 args W fun e W' => ∃ v, e = .returned v ∧ Rows.fnExactStateOfRoomSpec.post enc Try.prog Try.f3 false true false false W args v W' := by
  have hW' := hW
  obtain ⟨p, q, hA0, hV, rfl, hfz, hnd⟩ := hW
  have hA : DataW.TrodAll enc Try.prog W 0 (fun _ => true) true Try.f3.params.toList args.toList ds p := hA0
  rw [Try.params3] at hA hval
  obtain ⟨v0, vs0, d0, ds0, p0, q0, hargs0, rfl, rfl, h0, r0⟩ := trodAll_cons hA
  obtain ⟨rfl, rfl, rfl⟩ := trodAll_nil r0
  obtain rfl : args = #[v0] := by cases args; simp_all
  obtain ⟨fuel0, hfuel0⟩ := h0
  obtain ⟨lies, n, m, k, hllies, hv0, wn, wm, wk, wlies⟩ := rd_room Try.underlying24 (hval 0 24 v0 rfl rfl) hfuel0 ⟨rfl, rfl⟩ ⟨rfl, rfl⟩ ⟨rfl, rfl⟩ ⟨rfl, rfl⟩ Try.underlying22 Try.underlying3 (by kernel_rfl) (by kernel_rfl) (by kernel_rfl)
  have hm : maxLen ≤ 9223372036854775807 := by decide
  refine law_calls (tb := 4) (ts := [T.agg (List.map (T.int .i64) lies ++ [T.int .i64 n, T.int .i64 m, T.int .i64 k])]) stateOfRoom_holds_laidOut Try.func3 (fun vs w => ?_) (by kernel_rfl) Try.underlying4 ?_ rfl hW' ⟨rfl, rfl, rfl⟩ ?_ (lawStateOfRoom_C lies n m k hllies)
  · simp [callFunc, Try.func3, Try.f3]
  · rw [Try.params3]
    intro t ht
    simp only [List.mem_cons, List.not_mem_nil, or_false] at ht
    rcases ht with rfl
    all_goals exact ⟨by kernel_rfl, Nat.le_of_ble_eq_true (by kernel_rfl)⟩
  · exact vl_one hv0

set_option maxRecDepth 100000 in
theorem stateOfRoom_holds_lifted (os : Os) (started : os.Started) (H : Type) (enc : TypeId × Value → H) :
    ReturnsInHanded {} Try.checked os 3 .any (Rows.fnExactStateOfRoomSpec.pre6 enc Try.prog Try.f3 Rows.fnExactStateOfRoomRow.domain false) (Rows.fnExactStateOfRoomSpec.post enc Try.prog Try.f3 false true false false) := by
  refine returnsInHanded_of_change (C := Try.checked) stateOfRoom_holds_own started (by kernel_rfl) Try.func3
    (ChangeSpec.witness6 (enc := enc) (C := Try.checked) false ⟨#[], #[.agg #[.int .i64 0, .int .i64 0, .int .i64 0, .int .i64 0, .int .i64 0, .int .i64 0, .int .i64 0, .int .i64 0, .int .i64 0, .int .i64 0, .int .i64 0, .int .i64 0, .int .i64 0, .int .i64 0, .int .i64 0]], []⟩ 8 (by kernel_rfl) (by kernel_rfl) (by kernel_rfl) (by kernel_rfl)) ?_
  intro W base args ds gs before hval hW _ _
  exact stateOfRoom_holds_contract H enc W base args ds gs before hval hW

theorem stateOfRoom_holds : Rows.FnExactStateOfRoomSaid :=
  OpenClaim.holds_of_wide 3 Try.f3 rfl rfl rfl rfl rfl rfl rfl ⟨rfl, rfl, rfl, rfl, rfl⟩ rfl rfl rfl rfl rfl (by kernel_rfl) Try.func3 (by kernel_rfl)
    (of_decide_eq_true (by kernel_rfl)) (by unfold Func.isWrapper; first | (rw [if_pos (by decide +kernel)]; kernel_rfl) | (rw [if_neg (by decide +kernel)]; exact ⟨rfl, rfl⟩))
    (fun os started H enc _ => stateOfRoom_holds_lifted os started H enc)
end Go.Proofs.Ytbaooedhbihkjaa
