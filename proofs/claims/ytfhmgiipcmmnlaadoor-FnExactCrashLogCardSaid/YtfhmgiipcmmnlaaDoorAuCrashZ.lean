/-
  FnExactCrashLog: the law returns true for all arguments, and they read behind the call as before.
-/
import Derived.Test.YtfhmgiipcmmnlaaDoorRows
import Derived.Test.YtfhmgiipcmmnlaaDoorCards
import Derived.Test.YtfhmgiipcmmnlaaDoorTie
import Derived.ChangeSame
import Derived.ChangeVars
import Derived.ChangeMaps5
import Derived.JoinedOf
import Derived.RowKit
import Derived.LaidLaws
import Derived.LaidHandle
import Derived.Lib.LaidTab
import Derived.Lib.LaidIn
import Derived.Stop.LaidErr
import Derived.SevenTiedAt
import Derived.Lib.SmallJoins
import Derived.Test.YtfhmgiipcmmnlaaDoorTlGroupc



import Derived.Test.YtfhmgiipcmmnlaaDoorAuCrashF
import Derived.Test.YtfhmgiipcmmnlaaDoorAuCrashP
import Derived.Test.YtfhmgiipcmmnlaaDoorAuCrashO
import Derived.Test.YtfhmgiipcmmnlaaDoorAuCrash
namespace Go.Proofs.YtfhmgiipcmmnlaaDoor
open Go Go.Tl Go.Proofs Go.ChangeShapes Go.WideShapes Go.ChangeAt Go.RowKit Go.Joins
open Go.Proofs.YtfhmgiipcmmnlaaDoor.AuCrashO
open Go.Proofs.YtfhmgiipcmmnlaaDoor.AuCrash
set_option linter.unusedVariables false
set_option linter.unusedSimpArgs false

theorem crashLog_holds_own : ownKnob Tryd.prog.godebug = none := by kernel_rfl
theorem crashLog_holds_laidOut : laidOutB Tryd.prog = true := by kernel_rfl

theorem crashLog_holds_plain (w : World) : laidMetH Tryd.prog Rows.fnExactCrashLogRow.laid w = laidMet Tryd.prog Rows.fnExactCrashLogRow.laid w := MakeChecks.laidMetH_plain _ _ _ (by kernel_rfl)
theorem crashLog_holds_glob {W : World} (hL : laidMetH Tryd.prog Rows.fnExactCrashLogRow.laid W) : Glob (Old W) W := by
  rw [crashLog_holds_plain] at hL
  have h2 : laidMet Tryd.prog ((Rows.fnExactCrashLogRow.laid.drop 2).headD default :: Rows.fnExactCrashLogRow.laid.drop 3) W := hL.tail.tail
  obtain ⟨ps, ⟨g', t', cs, fu, p, q, hg', ht', hvar, hd, _, _⟩, _⟩ := h2
  obtain rfl : g' = 1 := Option.some.inj (hg'.symm.trans (show Tryd.prog.globalNamed ((Rows.fnExactCrashLogRow.laid.drop 2).headD default).1 = some 1 by kernel_rfl))
  obtain rfl := Option.some.inj (ht'.symm.trans (show (Tryd.prog.globals[1]?).map (·.type) = some 186 by kernel_rfl))
  have hc := Lib.cells_of_tab Tryd.underlying186 Tryd.underlying125 (by kernel_rfl) (by kernel_rfl) (show DataW.trod (fun _ => ()) Tryd.prog W 0 (fun _ => true) false fu 186 cs.toList = some (Lib.tabData .u64 Lib.pow10Tab, p) from hd)
  intro q hq
  simp only [laidB, List.mem_singleton] at hq
  subst hq
  unfold World.var? at hvar
  rw [hg'] at hvar
  simp only [Option.bind_some] at hvar
  split at hvar
  · rename_i cs' e f heap
    cases hvar
    exact ⟨(Array.getElem?_eq_some_iff.1 heap).1, e, f, by rw [heap, ← hc]⟩
  · cases hvar
def crashLog_holds_cells : DataW Unit → Array Value
  | .agg l => (l.map fun | .lit (.int k n) => Value.int k n | _ => .int .i64 0).toArray
  | _ => #[]
noncomputable def crashLog_holds_world (os : Os) : World :=
  let w0 := World.holding Tryd.prog os ⟨#[], #[], []⟩
  { w0 with heap := (((w0.heap.modify 2 fun
      | .cells _ t frozen => .cells (crashLog_holds_cells Rows.laid_math_bits_deBruijn32tab) t frozen
      | o => o).modify 3 fun
      | .cells _ t frozen => .cells (crashLog_holds_cells Rows.laid_math_bits_deBruijn64tab) t frozen
      | o => o).modify 1 fun
      | .cells _ t frozen => .cells (crashLog_holds_cells Rows.laid_internal_strconv_uint64pow10) t frozen
      | o => o) }
theorem crashLog_holds_met (os : Os) (args : Array Value) : laidMetH Tryd.prog Rows.fnExactCrashLogRow.laid ((crashLog_holds_world os).forCall (fun _ _ => 0) ⟨#[], args, []⟩).memory := by
  rw [crashLog_holds_plain]
  exact (LaidIn.of_run [2, 3, 1] 8 (by kernel_rfl) (by kernel_rfl) (by kernel_rfl) (by kernel_rfl)).met

set_option maxRecDepth 100000 in
theorem crashLog_holds_contract (H : Type) (enc : TypeId × Value → H) (W : World) (base : Nat) (args : Array Value) (ds gs : List (DataW H)) (before : List MemPlace)
    (hval : ∀ (j : Nat) t v, Tryd.f6.params[j]? = some t → args[j]? = some v → Value.okWide Tryd.prog W .any base t v)
    (hW : DataW.Whole enc Tryd.prog Tryd.f6.params.toList Rows.fnExactCrashLogSpec.vars false W args.toList ds gs before) (hL : laidMetH Tryd.prog Rows.fnExactCrashLogRow.laid W) :
    Calls Tryd.prog 6 args W fun e W' => ∃ v, e = .returned v ∧ Rows.fnExactCrashLogSpec.post enc Tryd.prog Tryd.f6 false true false false W args v W' := by
  have hW' := hW
  obtain ⟨p, q, hA0, hV, rfl, hfz, hnd⟩ := hW
  have hA : DataW.TrodAll enc Tryd.prog W 0 (fun _ => true) true Tryd.f6.params.toList args.toList ds p := hA0
  rw [Tryd.params6] at hA hval
  obtain ⟨v0, vs0, d0, ds0, p0, q0, hargs0, rfl, rfl, h0, r0⟩ := trodAll_cons hA
  obtain ⟨v1, vs1, d1, ds1, p1, q1, hargs1, rfl, rfl, h1, r1⟩ := trodAll_cons r0
  obtain ⟨v2, vs2, d2, ds2, p2, q2, hargs2, rfl, rfl, h2, r2⟩ := trodAll_cons r1
  obtain ⟨rfl, rfl, rfl⟩ := trodAll_nil r2
  subst hargs2
  subst hargs1
  obtain rfl : args = #[v0, v1, v2] := by cases args; simp_all
  obtain ⟨x0a, x0b, x0c, y0a, y0b, y0c, nn0, rfl, rfl, rfl, k0a, k0b, k0c⟩ := open_agg3 Tryd.underlying36 (by kernel_rfl) (by kernel_rfl) (hval 0 36 v0 rfl rfl) h0
  obtain ⟨d, hd0, _, wd⟩ := DataW.trod_string Tryd.underlying9 k0a
  obtain ⟨p, hp0, _, wp⟩ := DataW.trod_string Tryd.underlying9 k0b
  obtain ⟨n, hn0, _, wn⟩ := DataW.trod_int Tryd.underlying3 k0c
  simp only [List.cons.injEq, and_true] at hd0 hp0 hn0
  subst hd0; subst hp0; subst hn0
  obtain ⟨k, rfl, rfl, rfl, wk⟩ := open_int Tryd.underlying3 (hval 1 3 v1 rfl rfl) h1
  obtain ⟨t, rfl, rfl, rfl⟩ := open_bool Tryd.underlying4 (hval 2 4 v2 rfl rfl) h2
  have hm : maxLen ≤ 9223372036854775807 := by decide
  refine law_callsG (tb := 4) (ts := [T.agg [T.str d, T.str p, T.int .i64 n], T.int .i64 k, T.bool t]) crashLog_holds_laidOut Tryd.func6 (fun vs w => ?_) (by kernel_rfl) Tryd.underlying4 ?_ rfl hW' ⟨rfl, rfl, rfl⟩ ?_ (F_laws_FnExactCrashLog_W d p n k t true (law_CrashLog d p n k t (by omega) (by omega))) (crashLog_holds_glob hL)
  · simp [callFunc, Tryd.func6, Tryd.f6]
  · rw [Tryd.params6]
    intro t ht
    simp only [List.mem_cons, List.not_mem_nil, or_false] at ht
    rcases ht with rfl | rfl | rfl
    all_goals exact ⟨by kernel_rfl, Nat.le_of_ble_eq_true (by kernel_rfl)⟩
  · exact vl_three (vr_agg3 vr_str vr_str vr_int rfl rfl rfl) vr_int vr_bool

set_option maxRecDepth 100000 in
theorem crashLog_holds_lifted (os : Os) (started : os.Started) (H : Type) (enc : TypeId × Value → H) :
    ReturnsInHanded {} Tryd.checked os 6 .any (fun w args => (Rows.fnExactCrashLogSpec.pre enc Tryd.prog Tryd.f6 [] false w args ∧ laidMetH Tryd.prog Rows.fnExactCrashLogRow.laid w) ∧ sizedMet enc Tryd.prog Tryd.f6 (OpenSpec.ofChange Rows.fnExactCrashLogSpec) false w args) (Rows.fnExactCrashLogSpec.post enc Tryd.prog Tryd.f6 false true false false) := by
  refine returnsInHanded_of_change_and (C := Tryd.checked) (X := fun w _ => laidMetH Tryd.prog Rows.fnExactCrashLogRow.laid w) (fun _ _ _ hh h => h.of_heap hh) crashLog_holds_own started (by kernel_rfl) Tryd.func6
    (ChangeSpec.witness_at (enc := enc) (C := Tryd.checked) (os := os) (X := fun w _ => laidMetH Tryd.prog Rows.fnExactCrashLogRow.laid w) false (crashLog_holds_world os) #[.agg #[.string (ByteArray.mk #[]), .string (ByteArray.mk #[]), .int .i64 0], .int .i64 0, .bool false] 8 rfl (by kernel_rfl) (by kernel_rfl) (by kernel_rfl) (by kernel_rfl) (by kernel_rfl) (crashLog_holds_met os _)) ?_
  intro W base args ds gs before hval hW _ _ hL _
  exact crashLog_holds_contract H enc W base args ds gs before hval hW hL

theorem crashLog_holds_row : Rows.FnExactCrashLogSaid :=
  OpenClaim.holds_of_wide 6 Tryd.f6 rfl rfl rfl rfl rfl rfl rfl ⟨rfl, rfl, rfl, rfl, rfl⟩ rfl rfl rfl rfl rfl (by kernel_rfl) Tryd.func6 (by kernel_rfl)
    (of_decide_eq_true (by kernel_rfl)) (by unfold Func.isWrapper; first | (rw [if_pos (by decide +kernel)]; kernel_rfl) | (rw [if_neg (by decide +kernel)]; exact ⟨rfl, rfl⟩))
    (fun os started H enc _ => crashLog_holds_lifted os started H enc)

theorem crashLog_holds : Rows.FnExactCrashLogCardSaid :=
  Claim7.holds_tied_plain_at .later [] [.data, .data, .data] true Rows.fnExactCrashLogCard.stood.harness false
    crashLog_holds_row (fun _ h => by cases h) (by kernel_rfl) (fun _ h => by cases h) fnExactCrashLog_row_tie rfl ⟨rfl, rfl⟩ (by kernel_rfl) rfl
    (fun f fn hf hfn => by
      obtain rfl : f = 6 := (Option.some.inj ((show Tryd.prog.funcNamed Rows.fnExactCrashLogRow.func = some 6 by kernel_rfl).symm.trans hf)).symm
      obtain rfl : fn = Tryd.f6 := (Option.some.inj (Tryd.func6.symm.trans hfn)).symm
      refine ⟨by kernel_rfl, fun j t ht => ?_⟩
      have hall : (Tryd.f6.params.toList.all fun t => !Tryd.prog.wantsStandIn t) = true := by kernel_rfl
      have hm := List.all_eq_true.1 hall t (List.mem_of_getElem? (i := j) (by rw [Array.getElem?_toList]; exact ht))
      show Tryd.prog.wantsStandIn t = false
      simpa using hm)
    (by kernel_rfl)
end Go.Proofs.YtfhmgiipcmmnlaaDoor
