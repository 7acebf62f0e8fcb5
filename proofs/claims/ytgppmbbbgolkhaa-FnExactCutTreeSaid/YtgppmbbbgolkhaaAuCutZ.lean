/-
  FnExactCutTree: the law returns true for all arguments, and they read behind the call as before.
-/
import Derived.Test.YtgppmbbbgolkhaaRows
import Derived.Lib.SmallJoins
import Derived.Test.YtgppmbbbgolkhaaTlGroupc



import Derived.Test.YtgppmbbbgolkhaaAuCutF
import Derived.Test.YtgppmbbbgolkhaaAuCutP
import Derived.Test.YtgppmbbbgolkhaaAuCutO
import Derived.Test.YtgppmbbbgolkhaaAuCut
namespace Go.Proofs.Ytgppmbbbgolkhaa
open Go Go.Tl Go.Proofs Go.ChangeShapes Go.WideShapes Go.ChangeAt Go.RowKit Go.Joins
open Go.Proofs.Ytgppmbbbgolkhaa.AuCutO
open Go.Proofs.Ytgppmbbbgolkhaa.AuCut
set_option linter.unusedVariables false
set_option linter.unusedSimpArgs false

theorem cutTree_holds_own : ownKnob Try.prog.godebug = none := by kernel_rfl
theorem cutTree_holds_laidOut : laidOutB Try.prog = true := by kernel_rfl

set_option maxRecDepth 100000 in
theorem cutTree_holds_contract (H : Type) (enc : TypeId × Value → H) (W : World) (base : Nat) (args : Array Value) (ds gs : List (DataW H)) (before : List MemPlace)
    (hval : ∀ (j : Nat) t v, Try.f4.params[j]? = some t → args[j]? = some v → Value.okWide Try.prog W .any base t v)
    (hW : DataW.Whole enc Try.prog Try.f4.params.toList Rows.fnExactCutTreeSpec.vars false W args.toList ds gs before) :
    Calls Try.prog 4 args W fun e W' => ∃ v, e = .returned v ∧ Rows.fnExactCutTreeSpec.post enc Try.prog Try.f4 false true false false W args v W' := by
  have hW' := hW
  obtain ⟨p, q, hA0, hV, rfl, hfz, hnd⟩ := hW
  have hA : DataW.TrodAll enc Try.prog W 0 (fun _ => true) true Try.f4.params.toList args.toList ds p := hA0
  rw [Try.params4] at hA hval
  obtain ⟨v0, vs0, d0, ds0, p0, q0, hargs0, rfl, rfl, h0, r0⟩ := trodAll_cons hA
  obtain ⟨v1, vs1, d1, ds1, p1, q1, hargs1, rfl, rfl, h1, r1⟩ := trodAll_cons r0
  obtain ⟨v2, vs2, d2, ds2, p2, q2, hargs2, rfl, rfl, h2, r2⟩ := trodAll_cons r1
  obtain ⟨rfl, rfl, rfl⟩ := trodAll_nil r2
  subst hargs2
  subst hargs1
  obtain rfl : args = #[v0, v1, v2] := by cases args; simp_all
  obtain ⟨n, rfl, rfl, rfl, wn⟩ := open_int Try.underlying3 (hval 0 3 v0 rfl rfl) h0
  obtain ⟨t, hv1, hlt⟩ := rd_tree Try.underlying56 (hval 1 56 v1 rfl rfl) h1 ⟨rfl, rfl⟩ (by kernel_rfl) (by kernel_rfl) Try.underlying54 Try.underlying105 Try.underlying3 ⟨rfl, rfl⟩ ⟨rfl, rfl⟩ ⟨rfl, rfl⟩ (by kernel_rfl) (by kernel_rfl)
  obtain ⟨k, rfl, rfl, rfl, wk⟩ := open_int Try.underlying3 (hval 2 3 v2 rfl rfl) h2
  have hm : maxLen ≤ 9223372036854775807 := by decide
  refine law_callsG (tb := 4) (ts := [T.int .i64 n, T.agg [T.list t.length 3 (List.flatMap nodeC t)], T.int .i64 k]) cutTree_holds_laidOut Try.func4 (fun vs w => ?_) (by kernel_rfl) Try.underlying4 ?_ rfl hW' ⟨rfl, rfl, rfl⟩ ?_ (F_laws_FnExactCutTree_W n t k true (law_CutTree n t k hlt)) (fun q hq => nomatch hq)
  · simp [callFunc, Try.func4, Try.f4]
  · rw [Try.params4]
    intro t ht
    simp only [List.mem_cons, List.not_mem_nil, or_false] at ht
    rcases ht with rfl | rfl | rfl
    all_goals exact ⟨by kernel_rfl, Nat.le_of_ble_eq_true (by kernel_rfl)⟩
  · exact vl_three vr_int hv1 vr_int

set_option maxRecDepth 100000 in
theorem cutTree_holds_lifted (os : Os) (started : os.Started) (H : Type) (enc : TypeId × Value → H) :
    ReturnsInHanded {} Try.checked os 4 .any (Rows.fnExactCutTreeSpec.pre6 enc Try.prog Try.f4 Rows.fnExactCutTreeRow.domain false) (Rows.fnExactCutTreeSpec.post enc Try.prog Try.f4 false true false false) := by
  refine returnsInHanded_of_change (C := Try.checked) cutTree_holds_own started (by kernel_rfl) Try.func4
    (ChangeSpec.witness6 (enc := enc) (C := Try.checked) false ⟨#[], #[.int .i64 0, .agg #[.slice .none 0 0], .int .i64 0], []⟩ 8 (by kernel_rfl) (by kernel_rfl) (by kernel_rfl) (by kernel_rfl)) ?_
  intro W base args ds gs before hval hW _ _
  exact cutTree_holds_contract H enc W base args ds gs before hval hW

theorem cutTree_holds : Rows.FnExactCutTreeSaid :=
  OpenClaim.holds_of_wide 4 Try.f4 rfl rfl rfl rfl rfl rfl rfl ⟨rfl, rfl, rfl, rfl, rfl⟩ rfl rfl rfl rfl rfl (by kernel_rfl) Try.func4 (by kernel_rfl)
    (of_decide_eq_true (by kernel_rfl)) (by unfold Func.isWrapper; first | (rw [if_pos (by decide +kernel)]; kernel_rfl) | (rw [if_neg (by decide +kernel)]; exact ⟨rfl, rfl⟩))
    (fun os started H enc _ => cutTree_holds_lifted os started H enc)
end Go.Proofs.Ytgppmbbbgolkhaa
