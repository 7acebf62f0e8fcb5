/-
  FnExactDoTurns: the law returns true for all arguments, and they read behind the call as before.
-/
import Derived.Test.YtlefdhbinaplgaaRows
import Derived.Lib.SmallJoins
import Derived.Test.YtlefdhbinaplgaaTlY
import Derived.Test.YtlefdhbinaplgaaTlFlat
import Derived.Test.YtlefdhbinaplgaaTlTreeY
import Derived.Test.YtlefdhbinaplgaaTlTurnY
import Derived.Test.YtlefdhbinaplgaaTlXi0
import Derived.Test.YtlefdhbinaplgaaTlXi
namespace Go.Proofs.Ytlefdhbinaplgaa
open Go Go.Tl Go.Proofs Go.ChangeShapes Go.WideShapes Go.ChangeAt Go.RowKit Go.Joins
open Go.Proofs.Ytlefdhbinaplgaa.TlXi0
open Go.Proofs.Ytlefdhbinaplgaa.TlXi
set_option linter.unusedVariables false
set_option linter.unusedSimpArgs false

theorem doTurns_holds_own : ownKnob Try.prog.godebug = none := by kernel_rfl
theorem doTurns_holds_laidOut : laidOutB Try.prog = true := by kernel_rfl

set_option maxRecDepth 100000 in
theorem doTurns_holds_contract (H : Type) (enc : TypeId × Value → H) (W : World) (base : Nat) (args : Array Value) (ds gs : List (DataW H)) (before : List MemPlace)
    (hval : ∀ (j : Nat) t v, Try.f5.params[j]? = some t → args[j]? = some v → Value.okWide Try.prog W .any base t v)
    (hW : DataW.Whole enc Try.prog Try.f5.params.toList Rows.fnExactDoTurnsSpec.vars false W args.toList ds gs before) :
    Calls Try.prog 5 args W fun e W' => ∃ v, e = .returned v ∧ Rows.fnExactDoTurnsSpec.post enc Try.prog Try.f5 false true false false W args v W' := by
  have hW' := hW
  obtain ⟨p, q, hA0, hV, rfl, hfz, hnd⟩ := hW
  have hA : DataW.TrodAll enc Try.prog W 0 (fun _ => true) true Try.f5.params.toList args.toList ds p := hA0
  rw [Try.params5] at hA hval
  obtain ⟨v0, vs0, d0, ds0, p0, q0, hargs0, rfl, rfl, h0, r0⟩ := trodAll_cons hA
  obtain ⟨v1, vs1, d1, ds1, p1, q1, hargs1, rfl, rfl, h1, r1⟩ := trodAll_cons r0
  obtain ⟨rfl, rfl, rfl⟩ := trodAll_nil r1
  subst hargs1
  obtain rfl : args = #[v0, v1] := by cases args; simp_all
  obtain ⟨fuel0, hfuel0⟩ := h0
  obtain ⟨l, n, m, k, hll, hv0, wn, wm, wk, wl⟩ := rd_room Try.underlying73 (hval 0 73 v0 rfl rfl) hfuel0 ⟨rfl, rfl⟩ ⟨rfl, rfl⟩ ⟨rfl, rfl⟩ ⟨rfl, rfl⟩ Try.underlying71 Try.underlying3 (by kernel_rfl) (by kernel_rfl) (by kernel_rfl)
  obtain ⟨fuel1, hs1⟩ := open_slice Try.underlying74 (hval 1 74 v1 rfl rfl) h1
  obtain ⟨u1, ts, hu1, hone1, hv1, hlts⟩ := rd_nodes Try.underlying74 Try.underlying179 Try.underlying3 ⟨rfl, rfl⟩ ⟨rfl, rfl⟩ ⟨rfl, rfl⟩ (by kernel_rfl) (by kernel_rfl) hs1
  simp only [List.cons.injEq, and_true] at hu1
  subst hu1
  have hm : maxLen ≤ 9223372036854775807 := by decide
  refine law_calls (tb := 4) (ts := [T.agg (List.map (T.int .i64) l ++ [T.int .i64 n, T.int .i64 m, T.int .i64 k]), T.list ts.length 3 (List.flatMap nodeC ts)]) doTurns_holds_laidOut Try.func5 (fun vs w => ?_) (by kernel_rfl) Try.underlying4 ?_ rfl hW' ⟨rfl, rfl, rfl⟩ ?_ (lawDoTurns_C l n m k ts hll (by omega))
  · simp [callFunc, Try.func5, Try.f5]
  · rw [Try.params5]
    intro t ht
    simp only [List.mem_cons, List.not_mem_nil, or_false] at ht
    rcases ht with rfl | rfl
    all_goals exact ⟨by kernel_rfl, Nat.le_of_ble_eq_true (by kernel_rfl)⟩
  · exact vl_two hv0 hv1

set_option maxRecDepth 100000 in
theorem doTurns_holds_lifted (os : Os) (started : os.Started) (H : Type) (enc : TypeId × Value → H) :
    ReturnsInHanded {} Try.checked os 5 .any (Rows.fnExactDoTurnsSpec.pre6 enc Try.prog Try.f5 Rows.fnExactDoTurnsRow.domain false) (Rows.fnExactDoTurnsSpec.post enc Try.prog Try.f5 false true false false) := by
  refine returnsInHanded_of_change (C := Try.checked) doTurns_holds_own started (by kernel_rfl) Try.func5
    (ChangeSpec.witness6 (enc := enc) (C := Try.checked) false ⟨#[], #[.agg #[.int .i64 0, .int .i64 0, .int .i64 0, .int .i64 0, .int .i64 0, .int .i64 0, .int .i64 0, .int .i64 0, .int .i64 0, .int .i64 0, .int .i64 0, .int .i64 0, .int .i64 0, .int .i64 0, .int .i64 0], .slice .none 0 0], []⟩ 8 (by kernel_rfl) (by kernel_rfl) (by kernel_rfl) (by kernel_rfl)) ?_
  intro W base args ds gs before hval hW _ _
  exact doTurns_holds_contract H enc W base args ds gs before hval hW

theorem doTurns_holds : Rows.FnExactDoTurnsSaid :=
  OpenClaim.holds_of_wide 5 Try.f5 rfl rfl rfl rfl rfl rfl rfl ⟨rfl, rfl, rfl, rfl, rfl⟩ rfl rfl rfl rfl rfl (by kernel_rfl) Try.func5 (by kernel_rfl)
    (of_decide_eq_true (by kernel_rfl)) (by unfold Func.isWrapper; first | (rw [if_pos (by decide +kernel)]; kernel_rfl) | (rw [if_neg (by decide +kernel)]; exact ⟨rfl, rfl⟩))
    (fun os started H enc _ => doTurns_holds_lifted os started H enc)
end Go.Proofs.Ytlefdhbinaplgaa
