/-
  FnStates: the law returns true for all arguments, and they read behind the call as before.
-/
import Derived.Test.YtfhmgiipcmmnlaaDoorRows
import Derived.Test.YtfhmgiipcmmnlaaDoorCards
import Derived.Test.YtfhmgiipcmmnlaaDoorTie
import Derived.ChangeSame
import Derived.ChangeVars
import Derived.ChangeMaps5
import Derived.JoinedOf
import Derived.RowKit
import Derived.LaidLaws
import Derived.LaidHandle
import Derived.Lib.LaidTab
import Derived.Lib.LaidIn
import Derived.Stop.LaidErr
import Derived.SevenTiedAt
import Derived.Lib.SmallJoins
import Derived.Test.YtfhmgiipcmmnlaaDoorTlGroupc




import Derived.Test.YtfhmgiipcmmnlaaDoorAuStatesF
import Derived.Test.YtfhmgiipcmmnlaaDoorAuStatesP
import Derived.Test.YtfhmgiipcmmnlaaDoorAuStatesO
import Derived.Test.YtfhmgiipcmmnlaaDoorAuStatesa
import Derived.Test.YtfhmgiipcmmnlaaDoorAuStates
namespace Go.Proofs.YtfhmgiipcmmnlaaDoor
open Go Go.Tl Go.Proofs Go.ChangeShapes Go.WideShapes Go.ChangeAt Go.RowKit Go.Joins
open Go.Proofs.YtfhmgiipcmmnlaaDoor.AuStatesO
open Go.Proofs.YtfhmgiipcmmnlaaDoor.AuStatesa
open Go.Proofs.YtfhmgiipcmmnlaaDoor.AuStates
set_option linter.unusedVariables false
set_option linter.unusedSimpArgs false

theorem states_holds_own : ownKnob Tryd.prog.godebug = none := by kernel_rfl
theorem states_holds_laidOut : laidOutB Tryd.prog = true := by kernel_rfl

theorem states_holds_plain (w : World) : laidMetH Tryd.prog Rows.fnStatesRow.laid w = laidMet Tryd.prog Rows.fnStatesRow.laid w := MakeChecks.laidMetH_plain _ _ _ (by kernel_rfl)
theorem states_holds_glob {W : World} (hL : laidMetH Tryd.prog Rows.fnStatesRow.laid W) : Glob (Old W) W := by
  rw [states_holds_plain] at hL
  have h2 : laidMet Tryd.prog ((Rows.fnStatesRow.laid.drop 2).headD default :: Rows.fnStatesRow.laid.drop 3) W := hL.tail.tail
  obtain ⟨ps, ⟨g', t', cs, fu, p, q, hg', ht', hvar, hd, _, _⟩, _⟩ := h2
  obtain rfl : g' = 1 := Option.some.inj (hg'.symm.trans (show Tryd.prog.globalNamed ((Rows.fnStatesRow.laid.drop 2).headD default).1 = some 1 by kernel_rfl))
  obtain rfl := Option.some.inj (ht'.symm.trans (show (Tryd.prog.globals[1]?).map (·.type) = some 186 by kernel_rfl))
  have hc := Lib.cells_of_tab Tryd.underlying186 Tryd.underlying125 (by kernel_rfl) (by kernel_rfl) (show DataW.trod (fun _ => ()) Tryd.prog W 0 (fun _ => true) false fu 186 cs.toList = some (Lib.tabData .u64 Lib.pow10Tab, p) from hd)
  intro q hq
  simp only [laidB, List.mem_singleton] at hq
  subst hq
  unfold World.var? at hvar
  rw [hg'] at hvar
  simp only [Option.bind_some] at hvar
  split at hvar
  · rename_i cs' e f heap
    cases hvar
    exact ⟨(Array.getElem?_eq_some_iff.1 heap).1, e, f, by rw [heap, ← hc]⟩
  · cases hvar
def states_holds_cells : DataW Unit → Array Value
  | .agg l => (l.map fun | .lit (.int k n) => Value.int k n | _ => .int .i64 0).toArray
  | _ => #[]
noncomputable def states_holds_world (os : Os) : World :=
  let w0 := World.holding Tryd.prog os ⟨#[], #[], []⟩
  { w0 with heap := (((w0.heap.modify 2 fun
      | .cells _ t frozen => .cells (states_holds_cells Rows.laid_math_bits_deBruijn32tab) t frozen
      | o => o).modify 3 fun
      | .cells _ t frozen => .cells (states_holds_cells Rows.laid_math_bits_deBruijn64tab) t frozen
      | o => o).modify 1 fun
      | .cells _ t frozen => .cells (states_holds_cells Rows.laid_internal_strconv_uint64pow10) t frozen
      | o => o) }
theorem states_holds_met (os : Os) (args : Array Value) : laidMetH Tryd.prog Rows.fnStatesRow.laid ((states_holds_world os).forCall (fun _ _ => 0) ⟨#[], args, []⟩).memory := by
  rw [states_holds_plain]
  exact (LaidIn.of_run [2, 3, 1] 8 (by kernel_rfl) (by kernel_rfl) (by kernel_rfl) (by kernel_rfl)).met

set_option maxRecDepth 100000 in
theorem states_holds_contract (H : Type) (enc : TypeId × Value → H) (W : World) (base : Nat) (args : Array Value) (ds gs : List (DataW H)) (before : List MemPlace)
    (hval : ∀ (j : Nat) t v, Tryd.f13.params[j]? = some t → args[j]? = some v → Value.okWide Tryd.prog W .any base t v)
    (hW : DataW.Whole enc Tryd.prog Tryd.f13.params.toList Rows.fnStatesSpec.vars false W args.toList ds gs before) (hL : laidMetH Tryd.prog Rows.fnStatesRow.laid W) :
    Calls Tryd.prog 13 args W fun e W' => ∃ v, e = .returned v ∧ Rows.fnStatesSpec.post enc Tryd.prog Tryd.f13 false true false false W args v W' := by
  have hW' := hW
  obtain ⟨p, q, hA0, hV, rfl, hfz, hnd⟩ := hW
  have hA : DataW.TrodAll enc Tryd.prog W 0 (fun _ => true) true Tryd.f13.params.toList args.toList ds p := hA0
  rw [Tryd.params13] at hA hval
  obtain ⟨v0, vs0, d0, ds0, p0, q0, hargs0, rfl, rfl, h0, r0⟩ := trodAll_cons hA
  obtain ⟨rfl, rfl, rfl⟩ := trodAll_nil r0
  obtain rfl : args = #[v0] := by cases args; simp_all
  obtain ⟨fuel0, hs0⟩ := open_slice Tryd.underlying65 (hval 0 65 v0 rfl rfl) h0
  obtain ⟨u0, bs, hu0, hone0, hv0, wl0, hlbs⟩ := rd_ints Tryd.underlying65 Tryd.underlying5 (by kernel_rfl) hs0
  simp only [List.cons.injEq, and_true] at hu0
  subst hu0
  have hybs : okY bs := okY_wf wl0
  have hm : maxLen ≤ 9223372036854775807 := by decide
  refine law_callsG (tb := 4) (ts := [T.list bs.length 1 (List.map (T.int .u8) bs)]) states_holds_laidOut Tryd.func13 (fun vs w => ?_) (by kernel_rfl) Tryd.underlying4 ?_ rfl hW' ⟨rfl, rfl, rfl⟩ ?_ (F_laws_FnStates_W bs true (law_states hybs (by omega))) (states_holds_glob hL)
  · simp [callFunc, Tryd.func13, Tryd.f13]
  · rw [Tryd.params13]
    intro t ht
    simp only [List.mem_cons, List.not_mem_nil, or_false] at ht
    rcases ht with rfl
    all_goals exact ⟨by kernel_rfl, Nat.le_of_ble_eq_true (by kernel_rfl)⟩
  · exact vl_one hv0

set_option maxRecDepth 100000 in
theorem states_holds_lifted (os : Os) (started : os.Started) (H : Type) (enc : TypeId × Value → H) :
    ReturnsInHanded {} Tryd.checked os 13 .any (fun w args => (Rows.fnStatesSpec.pre enc Tryd.prog Tryd.f13 [] false w args ∧ laidMetH Tryd.prog Rows.fnStatesRow.laid w) ∧ sizedMet enc Tryd.prog Tryd.f13 (OpenSpec.ofChange Rows.fnStatesSpec) false w args) (Rows.fnStatesSpec.post enc Tryd.prog Tryd.f13 false true false false) := by
  refine returnsInHanded_of_change_and (C := Tryd.checked) (X := fun w _ => laidMetH Tryd.prog Rows.fnStatesRow.laid w) (fun _ _ _ hh h => h.of_heap hh) states_holds_own started (by kernel_rfl) Tryd.func13
    (ChangeSpec.witness_at (enc := enc) (C := Tryd.checked) (os := os) (X := fun w _ => laidMetH Tryd.prog Rows.fnStatesRow.laid w) false (states_holds_world os) #[.slice .none 0 0] 8 rfl (by kernel_rfl) (by kernel_rfl) (by kernel_rfl) (by kernel_rfl) (by kernel_rfl) (states_holds_met os _)) ?_
  intro W base args ds gs before hval hW _ _ hL _
  exact states_holds_contract H enc W base args ds gs before hval hW hL

theorem states_holds_row : Rows.FnStatesSaid :=
  OpenClaim.holds_of_wide 13 Tryd.f13 rfl rfl rfl rfl rfl rfl rfl ⟨rfl, rfl, rfl, rfl, rfl⟩ rfl rfl rfl rfl rfl (by kernel_rfl) Tryd.func13 (by kernel_rfl)
    (of_decide_eq_true (by kernel_rfl)) (by unfold Func.isWrapper; first | (rw [if_pos (by decide +kernel)]; kernel_rfl) | (rw [if_neg (by decide +kernel)]; exact ⟨rfl, rfl⟩))
    (fun os started H enc _ => states_holds_lifted os started H enc)

theorem states_holds : Rows.FnStatesCardSaid :=
  Claim7.holds_tied_plain_at .later [] [.data, .data, .data] true Rows.fnStatesCard.stood.harness false
    states_holds_row (fun _ h => by cases h) (by kernel_rfl) (fun _ h => by cases h) fnStates_row_tie rfl ⟨rfl, rfl⟩ (by kernel_rfl) rfl
    (fun f fn hf hfn => by
      obtain rfl : f = 13 := (Option.some.inj ((show Tryd.prog.funcNamed Rows.fnStatesRow.func = some 13 by kernel_rfl).symm.trans hf)).symm
      obtain rfl : fn = Tryd.f13 := (Option.some.inj (Tryd.func13.symm.trans hfn)).symm
      refine ⟨by kernel_rfl, fun j t ht => ?_⟩
      have hall : (Tryd.f13.params.toList.all fun t => !Tryd.prog.wantsStandIn t) = true := by kernel_rfl
      have hm := List.all_eq_true.1 hall t (List.mem_of_getElem? (i := j) (by rw [Array.getElem?_toList]; exact ht))
      show Tryd.prog.wantsStandIn t = false
      simpa using hm)
    (by kernel_rfl)
end Go.Proofs.YtfhmgiipcmmnlaaDoor
