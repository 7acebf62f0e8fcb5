/-
  FnExactNewRoom: the law returns true for all arguments, and they read behind the call as before.
-/
import Derived.Test.YthhgloghphpgaaaRows
import Derived.Lib.SmallJoins
import Derived.Test.YthhgloghphpgaaaTlY
import Derived.Test.YthhgloghphpgaaaTlW3
namespace Go.Proofs.Ythhgloghphpgaaa
open Go Go.Tl Go.Proofs Go.ChangeShapes Go.WideShapes Go.ChangeAt Go.RowKit Go.Joins
set_option linter.unusedVariables false
set_option linter.unusedSimpArgs false

theorem newRoom_holds_own : ownKnob Try.prog.godebug = none := by kernel_rfl
theorem newRoom_holds_laidOut : laidOutB Try.prog = true := by kernel_rfl

set_option maxRecDepth 100000 in
theorem newRoom_holds_contract (H : Type) (enc : TypeId × Value → H) (W : World) (base : Nat) (args : Array Value) (ds gs : List (DataW H)) (before : List MemPlace)
    (hval : ∀ (j : Nat) t v, Try.f5.params[j]? = some t → args[j]? = some v → Value.okWide Try.prog W .any base t v)
    (hW : DataW.Whole enc Try.prog Try.f5.params.toList Rows.fnExactNewRoomSpec.vars false W args.toList ds gs before) :
    Calls Try.prog 5 args W fun e W' => ∃ v, e = .returned v ∧ Rows.fnExactNewRoomSpec.post enc Try.prog Try.f5 false true false false W args v W' := by
  have hW' := hW
  obtain ⟨p, q, hA0, hV, rfl, hfz, hnd⟩ := hW
  have hA : DataW.TrodAll enc Try.prog W 0 (fun _ => true) true Try.f5.params.toList args.toList ds p := hA0
  rw [Try.params5] at hA hval
  obtain ⟨v0, vs0, d0, ds0, p0, q0, hargs0, rfl, rfl, h0, r0⟩ := trodAll_cons hA
  obtain ⟨rfl, rfl, rfl⟩ := trodAll_nil r0
  obtain rfl : args = #[v0] := by cases args; simp_all
  obtain ⟨x0, x1, y0, y1, nn, rfl, rfl, rfl, k0, k1⟩ := open_agg2 Try.underlying38 (by kernel_rfl) (by kernel_rfl) (hval 0 38 v0 rfl rfl) h0
  obtain ⟨u, xs, hu, hone, hvr, hwf, hlen⟩ := rd_ints Try.underlying36 Try.underlying3 (by kernel_rfl) k0
  obtain ⟨m, hm0, _, wm⟩ := DataW.trod_int Try.underlying3 k1
  simp only [List.cons.injEq, and_true] at hu hm0
  subst hu; subst hm0
  have hm : maxLen ≤ 9223372036854775807 := by decide
  refine law_calls (tb := 4) (ts := [T.agg [T.list xs.length 1 (xs.map (T.int .i64)), T.int .i64 m]]) newRoom_holds_laidOut Try.func5 (fun vs w => ?_) (by kernel_rfl) Try.underlying4 ?_ rfl hW' ⟨rfl, rfl, rfl⟩ ?_ (lawNewRoom_C xs m (by omega))
  · simp [callFunc, Try.func5, Try.f5]
  · rw [Try.params5]
    intro t ht
    simp only [List.mem_cons, List.not_mem_nil, or_false] at ht
    rcases ht with rfl
    all_goals exact ⟨by kernel_rfl, Nat.le_of_ble_eq_true (by kernel_rfl)⟩
  · exact vl_one (vr_agg2 hvr vr_int hone rfl)

set_option maxRecDepth 100000 in
theorem newRoom_holds_lifted (os : Os) (started : os.Started) (H : Type) (enc : TypeId × Value → H) :
    ReturnsInHanded {} Try.checked os 5 .any (Rows.fnExactNewRoomSpec.pre6 enc Try.prog Try.f5 Rows.fnExactNewRoomRow.domain false) (Rows.fnExactNewRoomSpec.post enc Try.prog Try.f5 false true false false) := by
  refine returnsInHanded_of_change (C := Try.checked) newRoom_holds_own started (by kernel_rfl) Try.func5
    (ChangeSpec.witness6 (enc := enc) (C := Try.checked) false ⟨#[], #[.agg #[.slice .none 0 0, .int .i64 0]], []⟩ 8 (by kernel_rfl) (by kernel_rfl) (by kernel_rfl) (by kernel_rfl)) ?_
  intro W base args ds gs before hval hW _ _
  exact newRoom_holds_contract H enc W base args ds gs before hval hW

theorem newRoom_holds : Rows.FnExactNewRoomSaid :=
  OpenClaim.holds_of_wide 5 Try.f5 rfl rfl rfl rfl rfl rfl rfl ⟨rfl, rfl, rfl, rfl, rfl⟩ rfl rfl rfl rfl rfl (by kernel_rfl) Try.func5 (by kernel_rfl)
    (of_decide_eq_true (by kernel_rfl)) (by unfold Func.isWrapper; first | (rw [if_pos (by decide +kernel)]; kernel_rfl) | (rw [if_neg (by decide +kernel)]; exact ⟨rfl, rfl⟩))
    (fun os started H enc _ => newRoom_holds_lifted os started H enc)
end Go.Proofs.Ythhgloghphpgaaa
