/-
  FnExactPlayRace: the law returns true for all arguments, and they read behind the call as before.
-/
import Derived.Test.YtnpdbllidpijfaaRows
import Derived.Lib.SmallJoins
import Derived.Test.YtnpdbllidpijfaaTlY
import Derived.Test.YtnpdbllidpijfaaTlFlat
import Derived.Test.YtnpdbllidpijfaaTlTreeY
import Derived.Test.YtnpdbllidpijfaaTlTurnY
import Derived.Test.YtnpdbllidpijfaaAuPlayRaceF
import Derived.Test.YtnpdbllidpijfaaAuPlayRaceP
import Derived.Test.YtnpdbllidpijfaaAuPlayRaceO
import Derived.Test.YtnpdbllidpijfaaAuPlayRacea
import Derived.Test.YtnpdbllidpijfaaAuPlayRace
namespace Go.Proofs.Ytnpdbllidpijfaa
open Go Go.Tl Go.Proofs Go.ChangeShapes Go.WideShapes Go.ChangeAt Go.RowKit Go.Joins
open Go.Proofs.Ytnpdbllidpijfaa.AuPlayRaceO
open Go.Proofs.Ytnpdbllidpijfaa.AuPlayRacea
open Go.Proofs.Ytnpdbllidpijfaa.AuPlayRace
set_option linter.unusedVariables false
set_option linter.unusedSimpArgs false

theorem playRace_holds_own : ownKnob Try.prog.godebug = none := by kernel_rfl
theorem playRace_holds_laidOut : laidOutB Try.prog = true := by kernel_rfl

set_option maxRecDepth 100000 in
theorem playRace_holds_contract (H : Type) (enc : TypeId × Value → H) (W : World) (base : Nat) (args : Array Value) (ds gs : List (DataW H)) (before : List MemPlace)
    (hval : ∀ (j : Nat) t v, Try.f9.params[j]? = some t → args[j]? = some v → Value.okWide Try.prog W .any base t v)
    (hW : DataW.Whole enc Try.prog Try.f9.params.toList Rows.fnExactPlayRaceSpec.vars false W args.toList ds gs before) :
    Calls Try.prog 9 args W fun e W' => ∃ v, e = .returned v ∧ Rows.fnExactPlayRaceSpec.post enc Try.prog Try.f9 false true false false W args v W' := by
  have hW' := hW
  obtain ⟨p, q, hA0, hV, rfl, hfz, hnd⟩ := hW
  have hA : DataW.TrodAll enc Try.prog W 0 (fun _ => true) true Try.f9.params.toList args.toList ds p := hA0
  rw [Try.params9] at hA hval
  obtain ⟨v0, vs0, d0, ds0, p0, q0, hargs0, rfl, rfl, h0, r0⟩ := trodAll_cons hA
  obtain ⟨v1, vs1, d1, ds1, p1, q1, hargs1, rfl, rfl, h1, r1⟩ := trodAll_cons r0
  obtain ⟨rfl, rfl, rfl⟩ := trodAll_nil r1
  subst hargs1
  obtain rfl : args = #[v0, v1] := by cases args; simp_all
  obtain ⟨x0a, x0b, y0a, y0b, nn0, rfl, rfl, rfl, k0a, k0b⟩ := open_agg2 Try.underlying24 (by kernel_rfl) (by kernel_rfl) (hval 0 24 v0 rfl rfl) h0
  obtain ⟨u0, xs, hu0, hone0, hvl0, hwf0, hlxs⟩ := rd_ints Try.underlying22 Try.underlying3 (by kernel_rfl) k0a
  obtain ⟨m, hm0, _, wm⟩ := DataW.trod_int Try.underlying3 k0b
  simp only [List.cons.injEq, and_true] at hu0 hm0
  subst hu0; subst hm0
  obtain ⟨fuel1, hs1⟩ := open_slice Try.underlying22 (hval 1 22 v1 rfl rfl) h1
  obtain ⟨u1, qs, hu1, hone1, hv1, wl1, hlqs⟩ := rd_ints Try.underlying22 Try.underlying3 (by kernel_rfl) hs1
  simp only [List.cons.injEq, and_true] at hu1
  subst hu1
  have hm : maxLen ≤ 9223372036854775807 := by decide
  refine law_calls (tb := 4) (ts := [T.agg [T.list xs.length 1 (xs.map (T.int .i64)), T.int .i64 m], T.list qs.length 1 (List.map (T.int .i64) qs)]) playRace_holds_laidOut Try.func9 (fun vs w => ?_) (by kernel_rfl) Try.underlying4 ?_ rfl hW' ⟨rfl, rfl, rfl⟩ ?_ (F_laws_FnExactPlayRace_W xs m qs true (law_PlayRace xs m qs hlxs))
  · simp [callFunc, Try.func9, Try.f9]
  · rw [Try.params9]
    intro t ht
    simp only [List.mem_cons, List.not_mem_nil, or_false] at ht
    rcases ht with rfl | rfl
    all_goals exact ⟨by kernel_rfl, Nat.le_of_ble_eq_true (by kernel_rfl)⟩
  · exact vl_two (vr_agg2 hvl0 vr_int hone0 rfl) hv1

set_option maxRecDepth 100000 in
theorem playRace_holds_lifted (os : Os) (started : os.Started) (H : Type) (enc : TypeId × Value → H) :
    ReturnsInHanded {} Try.checked os 9 .any (Rows.fnExactPlayRaceSpec.pre6 enc Try.prog Try.f9 Rows.fnExactPlayRaceRow.domain false) (Rows.fnExactPlayRaceSpec.post enc Try.prog Try.f9 false true false false) := by
  refine returnsInHanded_of_change (C := Try.checked) playRace_holds_own started (by kernel_rfl) Try.func9
    (ChangeSpec.witness6 (enc := enc) (C := Try.checked) false ⟨#[], #[.agg #[.slice .none 0 0, .int .i64 0], .slice .none 0 0], []⟩ 8 (by kernel_rfl) (by kernel_rfl) (by kernel_rfl) (by kernel_rfl)) ?_
  intro W base args ds gs before hval hW _ _
  exact playRace_holds_contract H enc W base args ds gs before hval hW

theorem playRace_holds : Rows.FnExactPlayRaceSaid :=
  OpenClaim.holds_of_wide 9 Try.f9 rfl rfl rfl rfl rfl rfl rfl ⟨rfl, rfl, rfl, rfl, rfl⟩ rfl rfl rfl rfl rfl (by kernel_rfl) Try.func9 (by kernel_rfl)
    (of_decide_eq_true (by kernel_rfl)) (by unfold Func.isWrapper; first | (rw [if_pos (by decide +kernel)]; kernel_rfl) | (rw [if_neg (by decide +kernel)]; exact ⟨rfl, rfl⟩))
    (fun os started H enc _ => playRace_holds_lifted os started H enc)
end Go.Proofs.Ytnpdbllidpijfaa
