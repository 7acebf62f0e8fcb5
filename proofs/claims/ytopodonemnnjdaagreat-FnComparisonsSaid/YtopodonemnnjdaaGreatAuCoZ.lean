/-
  FnComparisons: the law returns true for all arguments, and they read behind the call as before.
-/
import Derived.Test.YtopodonemnnjdaaGreatRows
import Derived.Lib.SmallJoins
import Derived.Test.YtopodonemnnjdaaGreatTlGroupc



import Derived.Test.YtopodonemnnjdaaGreatAuCoF
import Derived.Test.YtopodonemnnjdaaGreatAuCoP
import Derived.Test.YtopodonemnnjdaaGreatAuCoO
import Derived.Test.YtopodonemnnjdaaGreatAuCoa
import Derived.Test.YtopodonemnnjdaaGreatAuCob
import Derived.Test.YtopodonemnnjdaaGreatAuCo
namespace Go.Proofs.YtopodonemnnjdaaGreat
open Go Go.Tl Go.Proofs Go.ChangeShapes Go.WideShapes Go.ChangeAt Go.RowKit Go.Joins
open Go.Proofs.YtopodonemnnjdaaGreat.AuCoO
open Go.Proofs.YtopodonemnnjdaaGreat.AuCoa
open Go.Proofs.YtopodonemnnjdaaGreat.AuCob
open Go.Proofs.YtopodonemnnjdaaGreat.AuCo
set_option linter.unusedVariables false
set_option linter.unusedSimpArgs false

theorem comparisons_holds_own : ownKnob Tryz.prog.godebug = none := by kernel_rfl
theorem comparisons_holds_laidOut : laidOutB Tryz.prog = true := by kernel_rfl

set_option maxRecDepth 100000 in
theorem comparisons_holds_contract (H : Type) (enc : TypeId × Value → H) (W : World) (base : Nat) (args : Array Value) (ds gs : List (DataW H)) (before : List MemPlace)
  (hval : ∀ (j : Nat) t v, Tryz.f4.params[j]? = some t → args[j]? = some v → Value.okWide Tryz.prog W .any base t v)
  (hW : DataW.Whole enc Tryz.prog Tryz.f4.params.toList Rows.fnComparisonsSpec.vars false W args.toList ds gs before) :
  Calls Tryz.prog 4 args W fun e W' => ∃ v, e = .returned v ∧ Rows.fnComparisonsSpec.post enc Tryz.prog Tryz.f4 false true false false W args v W' := by
 have hW' := hW
 obtain ⟨p, q, hA0, hV, rfl, hfz, hnd⟩ := hW
 have hA : DataW.TrodAll enc Tryz.prog W 0 (fun _ => true) true Tryz.f4.params.toList args.toList ds p := hA0
 rw [Tryz.params4] at hA hval
 obtain ⟨v0, vs0, d0, ds0, p0, q0, hargs0, rfl, rfl, h0, r0⟩ := trodAll_cons hA
 obtain ⟨rfl, rfl, rfl⟩ := trodAll_nil r0
 obtain rfl : args = #[v0] := by cases args; simp_all
 obtain ⟨fuel0, hs0⟩ := open_slice Tryz.underlying22 (hval 0 22 v0 rfl rfl) h0
 obtain ⟨u0, bs, hu0, hone0, hv0, wl0, hlbs⟩ := rd_ints Tryz.underlying22 Tryz.underlying5 (by kernel_rfl) hs0
 simp only [List.cons.injEq, and_true] at hu0
 subst hu0
 have hybs : okY bs := okY_wf wl0
 have hm : maxLen ≤ 9223372036854775807 := by decide
 refine law_callsG (tb := 4) (ts := [T.list bs.length 1 (List.map (T.int .u8) bs)]) comparisons_holds_laidOut Tryz.func4 (fun vs w => ?_) (by kernel_rfl) Tryz.underlying4 ?_ rfl hW' ⟨rfl, rfl, rfl⟩ ?_ (F_laws_FnComparisons_W bs true (law_comparisons hybs (by omega))) (fun q hq => nomatch hq)
 ·simp [callFunc, Tryz.func4, Tryz.f4]
 ·rw [Tryz.params4]
  intro t ht
  simp only [List.mem_cons, List.not_mem_nil, or_false] at ht
  rcases ht with rfl
  all_goals exact ⟨by kernel_rfl, Nat.le_of_ble_eq_true (by kernel_rfl)⟩
 ·exact vl_one hv0

set_option maxRecDepth 100000 in
theorem comparisons_holds_lifted (os : Os) (started : os.Started) (H : Type) (enc : TypeId × Value → H) :
  ReturnsInHanded {} Tryz.checked os 4 .any (Rows.fnComparisonsSpec.pre6 enc Tryz.prog Tryz.f4 Rows.fnComparisonsRow.domain false) (Rows.fnComparisonsSpec.post enc Tryz.prog Tryz.f4 false true false false) := by
 refine returnsInHanded_of_change (C := Tryz.checked) comparisons_holds_own started (by kernel_rfl) Tryz.func4
  (ChangeSpec.witness6 (enc := enc) (C := Tryz.checked) false ⟨#[], #[.slice .none 0 0], []⟩ 8 (by kernel_rfl) (by kernel_rfl) (by kernel_rfl) (by kernel_rfl)) ?_
 intro W base args ds gs before hval hW _ _
 exact comparisons_holds_contract H enc W base args ds gs before hval hW

theorem comparisons_holds : Rows.FnComparisonsSaid :=
 OpenClaim.holds_of_wide 4 Tryz.f4 rfl rfl rfl rfl rfl rfl rfl ⟨rfl, rfl, rfl, rfl, rfl⟩ rfl rfl rfl rfl rfl (by kernel_rfl) Tryz.func4 (by kernel_rfl)
  (of_decide_eq_true (by kernel_rfl)) (by unfold Func.isWrapper; first | (rw [if_pos (by decide +kernel)]; kernel_rfl) | (rw [if_neg (by decide +kernel)]; exact ⟨rfl, rfl⟩))
  (fun os started H enc _ => comparisons_holds_lifted os started H enc)
end Go.Proofs.YtopodonemnnjdaaGreat
