/-
  FnExactIsValidConsole: the law returns true for all arguments, and they read behind the call as before.
-/
import Derived.Test.YtfhmgiipcmmnlaaDoorRows
import Derived.Test.YtfhmgiipcmmnlaaDoorCards
import Derived.Test.YtfhmgiipcmmnlaaDoorTie
import Derived.ChangeSame
import Derived.ChangeVars
import Derived.ChangeMaps5
import Derived.JoinedOf
import Derived.RowKit
import Derived.LaidLaws
import Derived.LaidHandle
import Derived.Lib.LaidTab
import Derived.Lib.LaidIn
import Derived.Stop.LaidErr
import Derived.SevenTiedAt
import Derived.Lib.SmallJoins
import Derived.Test.YtfhmgiipcmmnlaaDoorTlGroupc




import Derived.Test.YtfhmgiipcmmnlaaDoorAuConsF
import Derived.Test.YtfhmgiipcmmnlaaDoorAuConsP
import Derived.Test.YtfhmgiipcmmnlaaDoorAuConsO
import Derived.Test.YtfhmgiipcmmnlaaDoorAuCons
namespace Go.Proofs.YtfhmgiipcmmnlaaDoor
open Go Go.Tl Go.Proofs Go.ChangeShapes Go.WideShapes Go.ChangeAt Go.RowKit Go.Joins
open Go.Proofs.YtfhmgiipcmmnlaaDoor.AuConsO
open Go.Proofs.YtfhmgiipcmmnlaaDoor.AuCons
set_option linter.unusedVariables false
set_option linter.unusedSimpArgs false

theorem isValidConsole_holds_own : ownKnob Tryd.prog.godebug = none := by kernel_rfl
theorem isValidConsole_holds_laidOut : laidOutB Tryd.prog = true := by kernel_rfl

theorem isValidConsole_holds_plain (w : World) : laidMetH Tryd.prog Rows.fnExactIsValidConsoleRow.laid w = laidMet Tryd.prog Rows.fnExactIsValidConsoleRow.laid w := MakeChecks.laidMetH_plain _ _ _ (by kernel_rfl)
theorem isValidConsole_holds_glob {W : World} (hL : laidMetH Tryd.prog Rows.fnExactIsValidConsoleRow.laid W) : Glob (Old W) W := by
  rw [isValidConsole_holds_plain] at hL
  have h2 : laidMet Tryd.prog ((Rows.fnExactIsValidConsoleRow.laid.drop 2).headD default :: Rows.fnExactIsValidConsoleRow.laid.drop 3) W := hL.tail.tail
  obtain ⟨ps, ⟨g', t', cs, fu, p, q, hg', ht', hvar, hd, _, _⟩, _⟩ := h2
  obtain rfl : g' = 1 := Option.some.inj (hg'.symm.trans (show Tryd.prog.globalNamed ((Rows.fnExactIsValidConsoleRow.laid.drop 2).headD default).1 = some 1 by kernel_rfl))
  obtain rfl := Option.some.inj (ht'.symm.trans (show (Tryd.prog.globals[1]?).map (·.type) = some 186 by kernel_rfl))
  have hc := Lib.cells_of_tab Tryd.underlying186 Tryd.underlying125 (by kernel_rfl) (by kernel_rfl) (show DataW.trod (fun _ => ()) Tryd.prog W 0 (fun _ => true) false fu 186 cs.toList = some (Lib.tabData .u64 Lib.pow10Tab, p) from hd)
  intro q hq
  simp only [laidB, List.mem_singleton] at hq
  subst hq
  unfold World.var? at hvar
  rw [hg'] at hvar
  simp only [Option.bind_some] at hvar
  split at hvar
  · rename_i cs' e f heap
    cases hvar
    exact ⟨(Array.getElem?_eq_some_iff.1 heap).1, e, f, by rw [heap, ← hc]⟩
  · cases hvar
def isValidConsole_holds_cells : DataW Unit → Array Value
  | .agg l => (l.map fun | .lit (.int k n) => Value.int k n | _ => .int .i64 0).toArray
  | _ => #[]
noncomputable def isValidConsole_holds_world (os : Os) : World :=
  let w0 := World.holding Tryd.prog os ⟨#[], #[], []⟩
  { w0 with heap := (((w0.heap.modify 2 fun
      | .cells _ t frozen => .cells (isValidConsole_holds_cells Rows.laid_math_bits_deBruijn32tab) t frozen
      | o => o).modify 3 fun
      | .cells _ t frozen => .cells (isValidConsole_holds_cells Rows.laid_math_bits_deBruijn64tab) t frozen
      | o => o).modify 1 fun
      | .cells _ t frozen => .cells (isValidConsole_holds_cells Rows.laid_internal_strconv_uint64pow10) t frozen
      | o => o) }
theorem isValidConsole_holds_met (os : Os) (args : Array Value) : laidMetH Tryd.prog Rows.fnExactIsValidConsoleRow.laid ((isValidConsole_holds_world os).forCall (fun _ _ => 0) ⟨#[], args, []⟩).memory := by
  rw [isValidConsole_holds_plain]
  exact (LaidIn.of_run [2, 3, 1] 8 (by kernel_rfl) (by kernel_rfl) (by kernel_rfl) (by kernel_rfl)).met

set_option maxRecDepth 100000 in
theorem isValidConsole_holds_contract (H : Type) (enc : TypeId × Value → H) (W : World) (base : Nat) (args : Array Value) (ds gs : List (DataW H)) (before : List MemPlace)
    (hval : ∀ (j : Nat) t v, Tryd.f10.params[j]? = some t → args[j]? = some v → Value.okWide Tryd.prog W .any base t v)
    (hW : DataW.Whole enc Tryd.prog Tryd.f10.params.toList Rows.fnExactIsValidConsoleSpec.vars false W args.toList ds gs before) (hL : laidMetH Tryd.prog Rows.fnExactIsValidConsoleRow.laid W) :
    Calls Tryd.prog 10 args W fun e W' => ∃ v, e = .returned v ∧ Rows.fnExactIsValidConsoleSpec.post enc Tryd.prog Tryd.f10 false true false false W args v W' := by
  have hW' := hW
  obtain ⟨p, q, hA0, hV, rfl, hfz, hnd⟩ := hW
  have hA : DataW.TrodAll enc Tryd.prog W 0 (fun _ => true) true Tryd.f10.params.toList args.toList ds p := hA0
  rw [Tryd.params10] at hA hval
  obtain ⟨v0, vs0, d0, ds0, p0, q0, hargs0, rfl, rfl, h0, r0⟩ := trodAll_cons hA
  obtain ⟨rfl, rfl, rfl⟩ := trodAll_nil r0
  obtain rfl : args = #[v0] := by cases args; simp_all
  obtain ⟨fuel0, hfuel0⟩ := h0
  obtain ⟨lies, a, b, c, d, p, n, hllies, wd, wp, hv0⟩ := rd_console Tryd.underlying57 (hval 0 57 v0 rfl rfl) hfuel0 ⟨rfl, rfl⟩ ⟨rfl, rfl⟩ Tryd.underlying55 Tryd.underlying36 ⟨rfl, rfl⟩ ⟨rfl, rfl⟩ ⟨rfl, rfl⟩ ⟨rfl, rfl⟩ Tryd.underlying53 Tryd.underlying3 ⟨rfl, rfl⟩ ⟨rfl, rfl⟩ ⟨rfl, rfl⟩ Tryd.underlying9 (by kernel_rfl) (by kernel_rfl) (by kernel_rfl) (by kernel_rfl) (by kernel_rfl) (by kernel_rfl)
  have hm : maxLen ≤ 9223372036854775807 := by decide
  refine law_callsG (tb := 4) (ts := [T.agg (List.map (T.int .i64) lies ++ [T.int .i64 a, T.int .i64 b, T.int .i64 c, T.str d, T.str p, T.int .i64 n])]) isValidConsole_holds_laidOut Tryd.func10 (fun vs w => ?_) (by kernel_rfl) Tryd.underlying4 ?_ rfl hW' ⟨rfl, rfl, rfl⟩ ?_ (F_laws_FnExactIsValidConsole_W lies a b c d p n true (law_IsValidConsole lies a b c d p n hllies (by omega) (by omega))) (isValidConsole_holds_glob hL)
  · simp [callFunc, Tryd.func10, Tryd.f10]
  · rw [Tryd.params10]
    intro t ht
    simp only [List.mem_cons, List.not_mem_nil, or_false] at ht
    rcases ht with rfl
    all_goals exact ⟨by kernel_rfl, Nat.le_of_ble_eq_true (by kernel_rfl)⟩
  · exact vl_one hv0

set_option maxRecDepth 100000 in
theorem isValidConsole_holds_lifted (os : Os) (started : os.Started) (H : Type) (enc : TypeId × Value → H) :
    ReturnsInHanded {} Tryd.checked os 10 .any (fun w args => (Rows.fnExactIsValidConsoleSpec.pre enc Tryd.prog Tryd.f10 [] false w args ∧ laidMetH Tryd.prog Rows.fnExactIsValidConsoleRow.laid w) ∧ sizedMet enc Tryd.prog Tryd.f10 (OpenSpec.ofChange Rows.fnExactIsValidConsoleSpec) false w args) (Rows.fnExactIsValidConsoleSpec.post enc Tryd.prog Tryd.f10 false true false false) := by
  refine returnsInHanded_of_change_and (C := Tryd.checked) (X := fun w _ => laidMetH Tryd.prog Rows.fnExactIsValidConsoleRow.laid w) (fun _ _ _ hh h => h.of_heap hh) isValidConsole_holds_own started (by kernel_rfl) Tryd.func10
    (ChangeSpec.witness_at (enc := enc) (C := Tryd.checked) (os := os) (X := fun w _ => laidMetH Tryd.prog Rows.fnExactIsValidConsoleRow.laid w) false (isValidConsole_holds_world os) #[.agg #[.int .i64 0, .int .i64 0, .int .i64 0, .int .i64 0, .int .i64 0, .int .i64 0, .int .i64 0, .int .i64 0, .int .i64 0, .int .i64 0, .int .i64 0, .int .i64 0, .int .i64 0, .int .i64 0, .int .i64 0, .string (ByteArray.mk #[]), .string (ByteArray.mk #[]), .int .i64 0]] 8 rfl (by kernel_rfl) (by kernel_rfl) (by kernel_rfl) (by kernel_rfl) (by kernel_rfl) (isValidConsole_holds_met os _)) ?_
  intro W base args ds gs before hval hW _ _ hL _
  exact isValidConsole_holds_contract H enc W base args ds gs before hval hW hL

theorem isValidConsole_holds_row : Rows.FnExactIsValidConsoleSaid :=
  OpenClaim.holds_of_wide 10 Tryd.f10 rfl rfl rfl rfl rfl rfl rfl ⟨rfl, rfl, rfl, rfl, rfl⟩ rfl rfl rfl rfl rfl (by kernel_rfl) Tryd.func10 (by kernel_rfl)
    (of_decide_eq_true (by kernel_rfl)) (by unfold Func.isWrapper; first | (rw [if_pos (by decide +kernel)]; kernel_rfl) | (rw [if_neg (by decide +kernel)]; exact ⟨rfl, rfl⟩))
    (fun os started H enc _ => isValidConsole_holds_lifted os started H enc)

theorem isValidConsole_holds : Rows.FnExactIsValidConsoleCardSaid :=
  Claim7.holds_tied_plain_at .later [] [.data, .data, .data] true Rows.fnExactIsValidConsoleCard.stood.harness false
    isValidConsole_holds_row (fun _ h => by cases h) (by kernel_rfl) (fun _ h => by cases h) fnExactIsValidConsole_row_tie rfl ⟨rfl, rfl⟩ (by kernel_rfl) rfl
    (fun f fn hf hfn => by
      obtain rfl : f = 10 := (Option.some.inj ((show Tryd.prog.funcNamed Rows.fnExactIsValidConsoleRow.func = some 10 by kernel_rfl).symm.trans hf)).symm
      obtain rfl : fn = Tryd.f10 := (Option.some.inj (Tryd.func10.symm.trans hfn)).symm
      refine ⟨by kernel_rfl, fun j t ht => ?_⟩
      have hall : (Tryd.f10.params.toList.all fun t => !Tryd.prog.wantsStandIn t) = true := by kernel_rfl
      have hm := List.all_eq_true.1 hall t (List.mem_of_getElem? (i := j) (by rw [Array.getElem?_toList]; exact ht))
      show Tryd.prog.wantsStandIn t = false
      simpa using hm)
    (by kernel_rfl)
end Go.Proofs.YtfhmgiipcmmnlaaDoor
