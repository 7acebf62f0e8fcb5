/-
  Trees for Go values, contracts of functions and the steps of the walks: texts of the layer, put together. No statement of the seat is proved here.
-/
import Derived.Test.YtopodonemnnjdaaGreatTlGroupc
import Derived.Test.YtopodonemnnjdaaGreatTlGroupb
import Derived.ChangeKeysEq
section
namespace Go.Tl
set_option linter.unusedVariables false
set_option linter.unusedSimpArgs false

theorem atM {α : Type} {f : α → T} {xs : List α} {d : α} {j i : Nat} (hj : j = i) (h : i < xs.length) : ((List.map f xs) : List T)[j]? = some (f (List.getD xs i d)) := by
  subst hj
  simp [List.getD_eq_getElem?_getD, h]
theorem atM_set {α : Type} {f : α → T} {xs : List α} {v : α} {j i : Nat} (hj : j = i) (h : i < xs.length) : ((List.map f (List.set xs i v)) : List T)[j]? = some (f v) := by
  subst hj
  rw [List.getElem?_map, List.getElem?_set_self h]; rfl
def lieN (m : Int) (b : Bool) (x : Int) : Int := if x ≥ 0 ∧ b = true then (if x + 1 > m then -1 else x + 1) else x
def afterP (m : Int) (p : Nat → Bool) (xs : List Int) (i : Nat) : List Int := ((List.range i).map fun j => lieN m (p j) (xs.getD j 0)) ++ xs.drop i
def afterN (m : Int) (p : Nat → Bool) (xs : List Int) : List Int := (List.range xs.length).map fun j => lieN m (p j) (xs.getD j 0)
section
variable {m : Int} {p : Nat → Bool} {xs : List Int} {i : Nat}
@[simp] theorem afterN_len : (afterN m p xs).length = xs.length := by simp [afterN]
theorem afterP_len (h : i ≤ xs.length) : (afterP m p xs i).length = xs.length := by simp [afterP]; omega
theorem afterP_end (h : i = xs.length) : afterP m p xs i = afterN m p xs := by subst h; simp [afterP, afterN]
theorem afterP_set {v : Int} (h : i < xs.length) (hv : lieN m (p i) (xs.getD i 0) = v) : List.set (afterP m p xs i) i v = afterP m p xs (i + 1) := by
  unfold afterP
  rw [drop_cons h, set_app _ _ _ _ (by simp), List.range_succ, List.map_append]
  simp [← hv]
theorem afterP_at (h : i < xs.length) : (afterP m p xs i).getD i 0 = xs.getD i 0 := by
  unfold afterP
  rw [List.getD_eq_getElem?_getD, List.getElem?_append_right (by simp)]
  simp [List.getD_eq_getElem?_getD]
theorem set_getD {α : Type} (l : List α) (i : Nat) (v d : α) (h : i < l.length) : (l.set i v).getD i d = v := by
  rw [List.getD_eq_getElem?_getD, List.getElem?_set_self h]; rfl
theorem set_same {α : Type} (l : List α) (i : Nat) (d : α) (h : i < l.length) : l.set i (l.getD i d) = l := by
  apply List.ext_getElem?
  intro j
  by_cases e : i = j
  · subst e; rw [List.getElem?_set_self h]; simp [List.getD_eq_getElem?_getD, h]
  · rw [List.getElem?_set_ne e]
theorem afterP_same (h : i < xs.length) (hv : lieN m (p i) (xs.getD i 0) = xs.getD i 0) : afterP m p xs i = afterP m p xs (i + 1) := by
  rw [← afterP_set h hv, ← afterP_at (m := m) (p := p) h, set_same _ _ _ (by rw [afterP_len (by omega)]; exact h)]
theorem lie_neg {b : Bool} {x : Int} (h : ¬ x ≥ 0) : lieN m b x = x := by unfold lieN; rw [if_neg (fun hh => h hh.1)]
theorem lie_no {b : Bool} {x : Int} (h : b = false) : lieN m b x = x := by unfold lieN; rw [if_neg (fun hh => by rw [h] at hh; cases hh.2)]
theorem lie_over {b : Bool} {x : Int} (h : x ≥ 0) (hb : b = true) (h2 : x + 1 > m) : lieN m b x = -1 := by unfold lieN; rw [if_pos ⟨h, hb⟩, if_pos h2]
theorem lie_up {b : Bool} {x : Int} (h : x ≥ 0) (hb : b = true) (h2 : ¬ x + 1 > m) : lieN m b x = x + 1 := by unfold lieN; rw [if_pos ⟨h, hb⟩, if_neg h2]
end
def okS (xs : List Int) (m : Int) : Prop := xs.length ≤ 12 ∧ 0 ≤ m ∧ m ≤ 2 ∧ ∀ i : Nat, -1 ≤ xs.getD i 0 ∧ xs.getD i 0 ≤ m
theorem getD_out {α : Type} {xs : List α} {i : Nat} {d : α} (h : xs.length ≤ i) : xs.getD i d = d := by
  rw [List.getD_eq_getElem?_getD, List.getElem?_eq_none h]; rfl
theorem okS_of {xs : List Int} {m : Int} (h : isStateN xs m = true) : okS xs m := by
  obtain ⟨h1, h2, h3⟩ := isStateN_iff.1 h
  refine ⟨h1.2, h2.1, h2.2, fun i => ?_⟩
  by_cases hi : i < xs.length
  · exact h3 i hi
  · rw [getD_out (by omega)]; omega
theorem lie_in {m : Int} {b : Bool} {x : Int} (h0 : -1 ≤ x) (h1 : x ≤ m) (hm : 0 ≤ m) : -1 ≤ lieN m b x ∧ lieN m b x ≤ m := by
  unfold lieN; split
  · split <;> omega
  · omega
theorem okS_after {xs : List Int} {m : Int} {p : Nat → Bool} (h : okS xs m) : okS (afterN m p xs) m := by
  obtain ⟨h1, h2, h3, h4⟩ := h
  refine ⟨by simpa using h1, h2, h3, fun i => ?_⟩
  by_cases hi : i < xs.length
  · have : (afterN m p xs).getD i 0 = lieN m (p i) (xs.getD i 0) := by simp [afterN, hi]
    rw [this]
    exact lie_in (h4 i).1 (h4 i).2 h2
  · rw [getD_out (by simp; omega)]; omega
def falseB (q : Int) (y : Bool) (k : Int) : Bool := !(hasB q k == y)
def ansN (m q : Int) (y : Bool) (xs : List Int) : List Int := afterN m (fun k => falseB q y (k : Int)) xs
@[simp] theorem ansN_len {m q : Int} {y : Bool} {xs : List Int} : (ansN m q y xs).length = xs.length := by simp [ansN]
theorem okS_ans {xs : List Int} {m q : Int} {y : Bool} (h : okS xs m) : okS (ansN m q y xs) m := okS_after h
theorem falseB_comm (q : Int) (y : Bool) (k : Int) : (!(y == (bits .and .i64 (Int.fdiv q (2 ^ (min (Int.toNat k) 64))) 1 == (1 : Int)))) = falseB q y k := by
  unfold falseB hasB
  cases y <;> cases (bits .and .i64 (Int.fdiv q (2 ^ (min (Int.toNat k) 64))) 1 == (1 : Int)) <;> rfl
/-! ### open numbers -/
def openP (xs : List Int) (k : Nat) : List Int := ((List.range k).filter fun i => decide (xs.getD i 0 ≥ 0)).map fun (i : Nat) => (i : Int)
def openN (xs : List Int) : List Int := openP xs xs.length
theorem open_yes {xs : List Int} {k : Nat} (h : xs.getD k 0 ≥ 0) : openP xs (k + 1) = openP xs k ++ [(k : Int)] := by
  unfold openP
  rw [List.range_succ, List.filter_append, List.map_append, List.filter_cons, if_pos (by simpa using h)]; rfl
theorem open_no {xs : List Int} {k : Nat} (h : ¬ xs.getD k 0 ≥ 0) : openP xs (k + 1) = openP xs k := by
  unfold openP
  rw [List.range_succ, List.filter_append, List.map_append, List.filter_cons, if_neg (by simpa using h)]; simp
theorem openP_len (xs : List Int) (k : Nat) : (openP xs k).length ≤ k := by
  unfold openP
  rw [List.length_map]
  exact Nat.le_trans (List.length_filter_le _ _) (by simp)
/-! ### states behind answers, at the nodes of a tree -/
end Go.Tl
end
section
namespace Go.Tl
set_option linter.unusedVariables false
set_option linter.unusedSimpArgs false
end Go.Tl
end
section
namespace Go.Tl
theorem isState_ok {xs : List Int} {m : Int} (h : okS xs m) (h1 : 1 ≤ xs.length) : isStateN xs m = true :=
  isStateN_iff.2 ⟨⟨h1, h.1⟩, ⟨h.2.1, h.2.2.1⟩, fun i _ => h.2.2.2 i⟩
/-! ### StartState -/
/-! ### AnswerState -/
/-! ### what a turn makes of a state: as it is told, and as it is made -/
/-! ### lengths -/
/-! ### rooms of states -/
/-! ### by cases -/
section
variable {xs : List Int} {m c a b : Int}
end
/-! ### DoTurn by cases -/
section
variable {lies : List Int} {n m k c a b : Int}
end
end Go.Tl
end
section
namespace Go.Tl
section
variable {l : List Int} {n m k : Int} {ts : List Nd} {i : Nat}
end
end Go.Tl
end
section
namespace Go.Tl
theorem and255 (x : Int) : 0 ≤ bits .and .u64 x 255 ∧ bits .and .u64 x 255 ≤ 255 := by
  unfold bits
  rw [IntKind.wrap_u64]
  have h : (BitVec.ofInt IntKind.u64.bits x &&& BitVec.ofInt IntKind.u64.bits 255).toNat ≤ 255 := by
    rw [BitVec.toNat_and]
    exact Nat.le_trans Nat.and_le_right (by decide)
  simp only at h ⊢
  constructor <;> omega
def okY (bs : List Int) : Prop := ∀ i : Nat, 0 ≤ bs.getD i 0 ∧ bs.getD i 0 ≤ 255
/-! ### one byte -/
section
variable {bs : List Int} {p s : Int}
end
/-! ### a number below another -/
section
variable {bs : List Int} {p s n : Int}
end
/-! ### an element -/
/-! ### a state: its numbers, then the ones that are beyond -/
def d5 (b : Int) : Int := Int.tdiv b 5
theorem d5_in {b : Int} (h0 : 0 ≤ b) (h1 : b < 6) : 0 ≤ d5 b ∧ d5 b ≤ 1 := by
  unfold d5
  have : b = 0 ∨ b = 1 ∨ b = 2 ∨ b = 3 ∨ b = 4 ∨ b = 5 := by omega
  rcases this with h | h | h | h | h | h <;> subst h <;> decide
section
variable {bs : List Int} {m p s : Int} {i : Nat}
end
section
variable {bs : List Int} {m p s : Int} {xs : List Int} {i : Nat}
end
section
variable {bs : List Int} {p s : Int} {i : Nat}
end
section
variable {bs : List Int} {p s : Int} {i : Nat}
end
/-! ### a question -/
section
variable {bs : List Int} {p s n : Int}
end
/-! ### a turn -/
section
variable {bs : List Int} {p s n c a b : Int}
end
/-! ### a room: some turns from a new one, then what spoils it -/
section
variable {bs : List Int} {p s : Int} {i : Nat}
end
section
variable {bs : List Int} {p s : Int}
end
/-! ### the turns behind a room -/
section
variable {bs : List Int} {p s : Int} {i : Nat}
end
end Go.Tl
end
section
namespace Go.Tl
theorem isQ_in {n q : Int} (h : isQ n q = true) : (0 ≤ n ∧ 1 ≤ n ∧ n ≤ 12) ∧ 0 ≤ q ∧ q ≤ 2 ^ n.toNat - 1 := by
  unfold isQ at h
  simp only [Bool.and_eq_true, decide_eq_true_eq] at h
  exact ⟨⟨by omega, h.1⟩, h.2⟩
/-! ### the other question has the other answer -/
end Go.Tl
end
section
namespace Go.Tl
set_option linter.unusedVariables false
set_option linter.unusedSimpArgs false
end Go.Tl
end
section
namespace Go.Tl
section
variable {lies : List Int} {n m k c a b : Int}
end
/-! ### what is drawn, by short names -/
section
variable {lies : List Int} {n m k c a b : Int}
end
end Go.Tl
end
section
namespace Go.Tl
def shortN (xs : List Int) (m : Int) : Bool := isStateN xs m && decide (((xs.length : Nat) : Int) ≤ (5 : Int)) && decide (m ≤ (1 : Int))
def tri (xs : List Int) (k : Nat) : Int := (List.replicate (3 - xs.length) 0 ++ xs).getD k 0
end Go.Tl
end
section

end
section
namespace Go.Tl
set_option linter.unusedVariables false
set_option linter.unusedSimpArgs false

/-! ### what a function's results are, with names -/
def retG1 (tab : Tab) (σ : St) : ResultVar → Option (List Prop × V)
  | .tmp t => (lk σ.S t).map fun x => ([], x)
  | .cell a t => match look tab t, lk σ.S a with
    | some y, some (.t (.ptr cs)) => (getPtr none cs y).map fun r => ([r.1], r.2)
    | some y, some (.ref i o) => match lk σ.O i with
      | some ob => (getObj none ob o y).map fun r => ([r.1], r.2)
      | none => none
    | _, _ => none
def retsG (tab : Tab) (σ : St) : List ResultVar → Option (List Prop × List V)
  | [] => some ([], [])
  | v :: vs => match retG1 tab σ v with
    | some (ps, t) => match retsG tab σ vs with
      | some (qs, ts) => some (ps ++ qs, t :: ts)
      | none => none
    | none => none
def retGT (tab : Tab) (vs : List ResultVar) (σ : St) : Option (List Prop × V) :=
  match retsG tab σ vs with
  | some (ps, [t]) => some (ps, t)
  | some (ps, ts) => some (ps, mkTup ts)
  | none => none
def RetG (tab : Tab) (vs : List ResultVar) (r : V) (Oo : List (Nat × Obj)) : Post := fun e σ => match e with
  | .ret | .normal => ∃ (js : List (Nat × TypeId)) (keys : List Nat) (ps : List Prop) (r1 : V), retGT tab vs σ = some (ps, r1) ∧ Obs ps ∧ Obs (adoptV (js.map (·.1)) r1 r) ∧ js.all (fun j => !σ.N.contains j.1) = true ∧ keepA σ.O keys ++ js.map (fun j => (j.1, .cells j.2 [])) = Oo
  | _ => False
section
variable {P : Program} {tab : Tab} {E : Env} {β : Names} {N : List Nat} {σ : St} {O : Nat → Option Obj} {a : Act} {w : World}
theorem R.retG1 (htab : chkTab P tab = true) (h : R E β N (lk σ.S) (lk σ.O) a w) {v : ResultVar} {ps : List Prop} {t : V} (hr : Tl.retG1 tab σ v = some (ps, t)) (ho : Obs ps) :
    ∃ u, (resV a.tmps v).run P w = .ok u w ∧ VV w (Imm E (lk σ.O) β w) β t u := by
  cases v with
  | tmp t' =>
    simp only [Tl.retG1, Option.map_eq_some_iff, Prod.mk.injEq] at hr
    obtain ⟨x, hx, _, rfl⟩ := hr
    exact ⟨_, rfl, (h.slots t' _ hx).2⟩
  | cell x t' =>
    simp only [Tl.retG1] at hr
    split at hr
    · rename_i y cs hy hx
      simp only [Option.map_eq_some_iff, Prod.mk.injEq] at hr
      obtain ⟨⟨p, x'⟩, hg, rfl, rfl⟩ := hr
      have := (h.slots x _ hx).2
      simp only [VV, VR] at this
      obtain ⟨b, o, hb, _, hva⟩ := this
      obtain ⟨u, h1, h2⟩ := run_getPtr (β := β) (chkTab_look htab hy) hg ho.1 hva
      refine ⟨u, ?_, h2⟩
      simp only [resV]
      rw [hb]
      simpa [asAddr, Instr.loadAt, Instr.sureAddr] using h1
    · rename_i y i o hy hx
      split at hr
      · rename_i ob hob
        simp only [Option.map_eq_some_iff, Prod.mk.injEq] at hr
        obtain ⟨⟨p, x'⟩, hg, rfl, rfl⟩ := hr
        have := (h.slots x _ hx).2
        simp only [VV] at this
        obtain ⟨b, z, hb, hv⟩ := this
        obtain ⟨b', z', hb', _, _, hor⟩ := h.objS hob hb
        rw [hb] at hb'; cases hb'
        obtain ⟨u, h1, h2⟩ := run_getObj (β := β) (chkTab_look htab hy) hg ho.1 hor
        refine ⟨u, ?_, h2⟩
        simp only [resV]
        rw [hv]
        simpa [asAddr, Instr.loadAt, Instr.sureAddr] using h1
      · cases hr
    · cases hr
theorem R.retsG (htab : chkTab P tab = true) (h : R E β N (lk σ.S) (lk σ.O) a w) : ∀ {vs : List ResultVar} {ps : List Prop} {ts : List V}, Tl.retsG tab σ vs = some (ps, ts) → Obs ps →
    ∃ us, (vs.mapM (resV a.tmps)).run P w = .ok us w ∧ VVL w (Imm E (lk σ.O) β w) β ts us
  | [], ps, ts, hr, _ => by
    simp only [Tl.retsG, Option.some.injEq, Prod.mk.injEq] at hr
    obtain ⟨_, rfl⟩ := hr
    exact ⟨[], by simp, by simp only [VVL]⟩
  | v :: vs, ps, ts, hr, ho => by
    simp only [Tl.retsG] at hr
    split at hr
    · rename_i ps1 t h1
      split at hr
      · rename_i qs ts' h2
        cases hr
        rw [Obs_append] at ho
        obtain ⟨u, k1, k2⟩ := h.retG1 htab h1 ho.1
        obtain ⟨us, k3, k4⟩ := R.retsG htab h h2 ho.2
        refine ⟨u :: us, ?_, by simp only [VVL]; exact ⟨u, us, rfl, k2, k4⟩⟩
        simp only [List.mapM_cons, Sem.run_bind]
        rw [k1]
        simp only [Result.andThen_ok, Sem.run_bind]
        rw [k3]
        rfl
      · cases hr
    · cases hr
theorem run_resultsG (htab : chkTab P tab = true) (h : R E β N (lk σ.S) (lk σ.O) a w) {fn : Func} {ps : List Prop} {r : V} (hr : retGT tab fn.results.toList σ = some (ps, r)) (ho : Obs ps) :
    ∃ u, (results fn a.tmps).run P w = .ok u w ∧ VV w (Imm E (lk σ.O) β w) β r u := by
  unfold retGT at hr
  have key : ∀ {ts : List V}, retsG tab σ fn.results.toList = some (ps, ts) → ∃ us : Array Value, (results fn a.tmps).run P w = .ok (if h : us.size = 1 then us[0] else .tuple us) w ∧ VVL w (Imm E (lk σ.O) β w) β ts us.toList := by
    intro ts hts
    obtain ⟨us, k1, k2⟩ := h.retsG htab hts ho
    refine ⟨us.toArray, ?_, by simpa using k2⟩
    rw [results_eq, Array.mapM_eq_mapM_toList]
    simp only [Sem.run_bind, Sem.run_map, k1, Result.andThen_ok]
    rfl
  split at hr
  · rename_i t hts
    cases hr
    obtain ⟨us, k1, k2⟩ := key hts
    simp only [VVL] at k2
    obtain ⟨u, us', e, k3, rfl⟩ := k2
    have : us = #[u] := by simpa using congrArg List.toArray e
    subst this
    exact ⟨u, by simpa using k1, k3⟩
  · rename_i ts hne hts
    cases hr
    obtain ⟨us, k1, k2⟩ := key hts
    have hsz : us.size ≠ 1 := by
      intro h1
      have := VVL.length k2
      rw [Array.length_toList, h1] at this
      match ts, this with
      | [t], _ => exact hne t rfl
    exact ⟨.tuple us, by simpa [hsz] using k1, mkTup_reads k2⟩
  · cases hr
end

def initV : Nat → List V → List (Nat × V)
  | _, [] => []
  | i, t :: ts => (i, t) :: initV (i + 1) ts
theorem lk_initV {w : World} {ok : Nat → Prop} {β : Names} : ∀ (ts : List V) (vs : List Value) (i t : Nat) (x : V), VVL w ok β ts vs → lk (initV i ts) t = some x → i ≤ t ∧ ∃ u, vs[t - i]? = some u ∧ VV w ok β x u
  | [], vs, i, t, x, _, h => by simp [initV, lk] at h
  | y :: ts, vs, i, t, x, hl, h => by
    simp only [VVL] at hl
    obtain ⟨u, us, rfl, h1, h2⟩ := hl
    simp only [initV, lk] at h
    split at h
    · rename_i e
      cases h
      subst e
      exact ⟨Nat.le_refl _, u, by simp, h1⟩
    · obtain ⟨k1, v, k3, k4⟩ := lk_initV ts us (i + 1) t x h2 h
      refine ⟨by omega, v, ?_, k4⟩
      rw [show t - i = (t - (i + 1)) + 1 by omega]
      simpa using k3

theorem CG.intro {P : Program} {tab : Tab} (htab : chkTab P tab = true) {f : FuncId} {fn : Func} {c : Code} {args : List V} {Oi : List (Nat × Obj)} {r : V} {Oo : List (Nat × Obj)} (hf : P.funcs[f]? = some fn) (hname : (fn.name == "runtime.NumGoroutine") = false) (hb : fn.body = some c)
    (hlen : args.length ≤ fn.ntmps) (hpin : (keysO Oi).all (fun i => decide (i < 1000)) = true) (hwp : WP P false fn.ntmps c (RetG tab fn.results.toList r Oo) ⟨keysO Oi, initV 0 args, Oi⟩) : CG P f args Oi r Oo := by
  intro ok w β vs hok hg hβ hO hap hl
  have hcall : (callFunc f vs).run P w = .ok (.enter f vs) w := by
    have hne : ¬ fn.name = "runtime.NumGoroutine" := by simpa using hname
    simp [callFunc, hf, hne, hb]
  refine ⟨hcall, calls_of_wp hf hb ?_⟩
  have hsz : vs.size = args.length := by rw [← VVL.length hl]; simp
  let E : Env := ⟨ok, w, fun b => ∃ i x, β i = some x ∧ x.1 = b, fun i => i ∈ keysO Oi, β⟩
  have himm : ∀ b, ok b → Imm E (lk Oi) β w b := fun b hb => ⟨.inl hb, hok b hb, fun i o x ho hx e => (hβ i x hx).2.2.1 (e ▸ hb)⟩
  have hR : Rel E ⟨keysO Oi, initV 0 args, Oi⟩ { tmps := vs ++ Array.replicate (fn.ntmps - vs.size) undef, defers := [] } w := by
    refine ⟨β, rfl, rfl, rfl, rfl, Nat.le_refl _, fun _ _ _ => rfl, fun b hb => ⟨hok b hb, fun ⟨i, x, hx, e⟩ => (hβ i x hx).2.2.1 (e ▸ hb)⟩, hg, fun i hi => ?_, fun t x ht => ?_, fun i hp => ⟨?_, hp, rfl⟩, fun i x h2 hx => ?_, fun i o ho => ?_, fun i j o o' x x' ho ho' hx hx' hne => hap i j x x' hx hx' hne⟩
    · cases hx : β i with
      | none => rfl
      | some x => exact absurd (hβ i x hx).2.1 hi
    · obtain ⟨_, u, hu, hv⟩ := lk_initV args vs.toList 0 t x hl ht
      have hu' : vs[t]? = some u := by simpa using hu
      have hlt : t < vs.size := (Array.getElem?_eq_some_iff.1 hu').1
      refine ⟨by simp; omega, ?_⟩
      rw [Array.getD_eq_getD_getElem?, Array.getElem?_append_left hlt, hu']
      exact VV.lasts ⟨himm, fun _ _ => rfl⟩ (fun _ _ h => h) _ _ hv
    · have := List.all_eq_true.1 hpin i hp
      simpa using this
    · have := (hβ i x hx).1
      omega
    · rcases hO i o ho with ⟨b, z, h1, h2⟩ | ⟨h1, h2, h3⟩
      · exact .inl ⟨b, z, h1, (hβ i _ h1).2.2.2, .inr ⟨i, _, h1, rfl⟩, OR.lasts ⟨himm, fun _ _ => rfl⟩ (fun _ _ h => h) rfl h2⟩
      · exact .inr ⟨lk_keys ho, h2, h3⟩
  refine wp_mono (hwp E _ w (fun hc => by cases hc) hR (by simp; omega)) fun e a' w' hq => ?_
  obtain ⟨σ', ⟨β', k1⟩, k2, k3⟩ := hq
  have fin : (∃ (js : List (Nat × TypeId)) (keys : List Nat) (ps : List Prop) (r1 : V), retGT tab fn.results.toList σ' = some (ps, r1) ∧ Obs ps ∧ Obs (adoptV (js.map (·.1)) r1 r) ∧ js.all (fun j => !σ'.N.contains j.1) = true ∧ keepA σ'.O keys ++ js.map (fun j => (j.1, .cells j.2 [])) = Oo) → a'.defers = [] ∧ ∃ v, (results fn a'.tmps).run P w' = .ok v w' ∧ ∃ v' β', Ending.returned v = .returned v' ∧ w'.os = w.os ∧ w'.tape = w.tape ∧ w'.output = w.output ∧ w.heap.size ≤ w'.heap.size ∧
      (∀ b, b < w.heap.size → (∀ i x, β i = some x → x.1 ≠ b) → w'.heap[b]? = w.heap[b]?) ∧
      (∀ i, i ∈ keysO Oi → β' i = β i) ∧
      (∀ i x, 2000 ≤ i → β' i = some x → w.heap.size ≤ x.1) ∧
      (∀ i o, lk Oo i = some o → (∃ b z, β' i = some (b, z) ∧ b < w'.heap.size ∧ (w.heap.size ≤ b ∨ ∃ j z', β j = some (b, z')) ∧ OR w' (Imm ⟨ok, w, fun b => ∃ i x, β i = some x ∧ x.1 = b, fun _ => False, fun _ => none⟩ (lk Oo) β' w') β' b z o) ∨ (β' i = none ∧ ∃ e, o = .cells e [])) ∧
      (∀ i j o o' x x', lk Oo i = some o → lk Oo j = some o' → β' i = some x → β' j = some x' → i ≠ j → x.1 ≠ x'.1) ∧
      VV w' (Imm ⟨ok, w, fun b => ∃ i x, β i = some x ∧ x.1 = b, fun _ => False, fun _ => none⟩ (lk Oo) β' w') β' r v' := by
    rintro ⟨js, keys, ps, r1, h1, h2, h3, h4, h5⟩
    obtain ⟨u, g1, g2⟩ := run_resultsG htab k1 h1 h2
    have hph : ∀ i, i ∈ js.map (·.1) → β' i = none := fun i hi => by
      obtain ⟨j, hj, rfl⟩ := List.mem_map.1 hi
      have := List.all_eq_true.1 h4 j hj
      simp only [Bool.not_eq_true', List.contains_eq_mem, decide_eq_false_iff_not] at this
      exact k1.dom _ this
    have hO : ∀ i o, lk Oo i = some o → lk σ'.O i = some o ∨ (β' i = none ∧ ∃ e, o = .cells e []) := fun i o ho => by
      rw [← h5, lk_app] at ho
      cases hl : lk (keepA σ'.O keys) i with
      | some o2 =>
        rw [hl] at ho
        simp only [Option.some_or, Option.some.injEq] at ho
        subst ho
        exact .inl (lk_keep σ'.O keys i _ hl)
      | none =>
        rw [hl] at ho
        simp only [Option.none_or] at ho
        obtain ⟨q1, q2⟩ := lk_phantom js i o ho
        exact .inr ⟨hph i q1, q2⟩
    have hlast : Lasts w' (Imm E (lk σ'.O) β' w') w' (Imm ⟨ok, w, fun b => ∃ i x, β i = some x ∧ x.1 = b, fun _ => False, fun _ => none⟩ (lk Oo) β' w') := ⟨fun b hb => ⟨hb.1, hb.2.1, fun i o x ho hx => by
      rcases hO i o ho with q | ⟨q, _⟩
      · exact hb.2.2 i o x q hx
      · rw [hx] at q; cases q⟩, fun _ _ => rfl⟩
    refine ⟨k1.defers, u, g1, u, β', rfl, k1.os, k1.tape, k1.output, k1.size, fun b hb hn => k1.old b hb (fun ⟨i, x, hx, e⟩ => hn i x hx e), fun i hi => (k1.pins i hi).2.2, k1.news, fun i o ho => ?_, fun i j o o' x x' ho ho' hx hx' hne => ?_, adoptV_reads r1 r u h3 (VV.lasts hlast (fun _ _ h => h) _ _ g2)⟩
    · rcases hO i o ho with q | q
      · rcases k1.objs i o q with ⟨b, z, q1, q2, q3, q4⟩ | ⟨_, q1, q2⟩
        · refine .inl ⟨b, z, q1, q2, ?_, OR.lasts hlast (fun _ _ h => h) rfl q4⟩
          rcases q3 with q3 | ⟨j, x, q3, rfl⟩
          · exact .inl q3
          · exact .inr ⟨j, x.2, q3⟩
        · exact .inr ⟨q1, q2⟩
      · exact .inr q
    · rcases hO i o ho with q | ⟨q, _⟩
      · rcases hO j o' ho' with q' | ⟨q', _⟩
        · exact k1.apart i j o o' x x' q q' hx hx' hne
        · rw [hx'] at q'; cases q'
      · rw [hx] at q; cases q
  cases e with
  | normal => exact fin k3
  | ret => exact fin k3
  | _ => exact k3.elim

theorem WkT.eq {x y z : T} (h : WkT x y) (e : y = z) : WkT x z := e ▸ h
def evalG (P : Program) (tab : Tab) (n : Nat) (ans : List (Nat × An)) (ks : List Wk) (keys : List Nat) (vs : List ResultVar) (c : Code) (σ : St) : Option (List Prop × V × List Nat × List (Nat × Obj)) :=
  match evalC P tab n ans c σ with
  | some (ps, .ret, σ1) => match wks false ks σ1 with
    | some (ps2, σ2) => match retGT tab vs σ2 with
      | some (qs, r) => some (ps ++ (ps2 ++ qs), r, σ2.N, keepA σ2.O keys)
      | none => none
    | none => none
  | _ => none
theorem WP.pathG {P : Program} {n : Nat} {tab : Tab} (htab : chkTab P tab = true) (hm : P.follows .mixedOrders = true) (ans : List (Nat × An)) (ks : List Wk) (keys : List Nat) (vs : List ResultVar) {c : Code} {σ : St} {ps : List Prop} {r r' : V} {N : List Nat} {O Oo : List (Nat × Obj)} (js : List (Nat × TypeId)) {Q : Post} (h : evalG P tab n ans ks keys vs c σ = some (ps, r, N, O)) (ho : Obs ps) (he : Obs (adoptV (js.map (·.1)) r r'))
    (hj : js.all (fun j => !N.contains j.1) = true) (hO : O ++ js.map (fun j => (j.1, .cells j.2 [])) = Oo) (hQ : ∀ σ', RetG tab vs r' Oo .ret σ' → Q .ret σ') : WP P false n c Q σ := by
  unfold evalG at h
  split at h
  · rename_i ps1 σ1 h1
    split at h
    · rename_i ps2 σ2 h2
      split at h
      · rename_i qs r1 h3
        cases h
        rw [Obs_append, Obs_append] at ho
        refine WP.weak (Q' := fun e' σ' => e' = .ret ∧ σ' = σ1) (evalC_sound htab hm c σ σ1 ps1 .ret _ h1 ho.1 ⟨rfl, rfl⟩) fun e' σ' hh => ?_
        obtain ⟨rfl, rfl⟩ := hh
        exact ⟨ks, ps2, σ2, h2, ho.2.1, hQ σ2 ⟨js, keys, qs, r, h3, ho.2.2, he, hj, hO⟩⟩
      · cases h
    · cases h
  · cases h

theorem CG.toC {P : Program} {f : FuncId} {args : List T} {r : V} {Oo : List (Nat × Obj)} {ps : List Prop} {t : T} (h : CG P f (args.map V.t) [] r Oo) (hs : snapV (lk Oo) r = some (ps, t)) (ho : Obs ps) : C P f args t := by
  intro ok w vs hok hg hl
  obtain ⟨c1, c2⟩ := h ok w (fun _ => none) vs hok hg (fun i x hx => by cases hx) (fun i o ho => by simp [lk] at ho) (fun i j x x' hx => by cases hx) (VVL.map_t hl)
  refine .inl ⟨c1, Calls.mono c2 fun e w' he => ?_⟩
  obtain ⟨v, β', rfl, os, tape, output, size, same, keep, news, objs, apart, hv⟩ := he
  refine ⟨v, rfl, os, tape, output, size, fun b hb => same b hb (fun i x hx => by cases hx), ?_⟩
  have hlast : Lasts w' (Imm ⟨ok, w, fun b => ∃ (i : Nat) (x : Nat × Nat), (none : Option (Nat × Nat)) = some x ∧ x.1 = b, fun _ => False, fun _ => none⟩ (lk Oo) β' w') w' (fun b => ok b ∨ (w.heap.size ≤ b ∧ b < w'.heap.size)) := ⟨fun b hb => hb.1.elim .inl fun h => h.elim (fun h1 => .inr ⟨h1, hb.2.1⟩) fun ⟨_, _, h1, _⟩ => (nomatch h1), fun _ _ => rfl⟩
  refine snapV_reads hlast (.of hlast fun i ob b z h1 h3 => ?_) r v ps t hs ho hv
  rcases objs i ob h1 with ⟨b', z', g1, g2, g3, g4⟩ | ⟨g1, _⟩
  · rw [h3] at g1; cases g1
    refine ⟨?_, g4⟩
    rcases g3 with g3 | ⟨j, z', g3⟩
    · exact .inr ⟨g3, g2⟩
    · cases g3
  · rw [h3] at g1; cases g1
theorem list_split {w : World} {ok : Nat → Prop} {n sz : Nat} {cs : List T} {v : Value} (h : VR w ok (.list n sz cs) v) : (VR w ok .zlist v ∧ n = 0 ∧ cs = []) ∨ VR w ok (.rows n sz cs) v := by
  simp only [VR] at h ⊢
  obtain ⟨hl, A, cap, rfl, h1, h2, h3⟩ := h
  cases A with
  | none =>
    rcases h3 with h3 | ⟨b, o, h3, _⟩
    · subst h3
      exact .inl ⟨⟨cap, rfl⟩, rfl, List.eq_nil_of_length_eq_zero (by simpa using hl)⟩
    · cases h3
  | some ad =>
    refine .inr ⟨hl, ad, cap, rfl, h1, h2, ?_⟩
    rcases h3 with h3 | ⟨b, o, h3, hb, hc⟩
    · exact .inl h3
    · exact .inr ⟨b, o, Option.some.inj h3, hb, hc⟩
theorem CG.split {P : Program} {f : FuncId} {n sz : Nat} {cs : List T} {r : V} {Oo : List (Nat × Obj)} (h1 : n = 0 → cs = [] → CG P f [.t .zlist] [] r Oo) (h2 : CG P f [.t (.rows n sz cs)] [] r Oo) : CG P f [.t (.list n sz cs)] [] r Oo := by
  intro ok w β vs hok hg hβ hO hap hl
  simp only [VVL, VV] at hl
  obtain ⟨u, us, e, hu, rfl⟩ := hl
  rcases list_split hu with ⟨hz, hn, hc⟩ | hr
  · exact h1 hn hc ok w β vs hok hg hβ hO hap (by simp only [VVL, VV]; exact ⟨u, [], e, hz, rfl⟩)
  · exact h2 ok w β vs hok hg hβ hO hap (by simp only [VVL, VV]; exact ⟨u, [], e, hr, rfl⟩)
end Go.Tl
end
section
namespace Go.Tl
set_option linter.unusedVariables false
set_option linter.unusedSimpArgs false

open Classical in
noncomputable def chk {α : Type} (p : Prop) (x : Option α) : Option α := if p then x else none
theorem chk_some {α : Type} {p : Prop} {x : Option α} {r : α} (h : chk p x = some r) : p ∧ x = some r := by
  unfold chk at h; split at h
  · exact ⟨by assumption, h⟩
  · cases h
theorem chk_pos {α : Type} {p : Prop} {x : Option α} (hp : p) : chk p x = x := by unfold chk; rw [if_pos hp]
theorem ite_some {α : Type} {c : Bool} {x y : Option α} {r : α} (h : (bif c then x else y) = some r) : (c = true ∧ x = some r) ∨ (c = false ∧ y = some r) := by
  cases c
  · exact .inr ⟨rfl, h⟩
  · exact .inl ⟨rfl, h⟩
def bnd1 {α γ : Type} (x : Option α) (f : α → Option γ) : Option γ := x.bind f
def bnd2 {α β γ : Type} (x : Option (α × β)) (f : α → β → Option γ) : Option γ := x.bind fun r => f r.1 r.2
def bnd3 {α β δ γ : Type} (x : Option (α × β × δ)) (f : α → β → δ → Option γ) : Option γ := x.bind fun r => f r.1 r.2.1 r.2.2
def bnd4 {α β δ ε γ : Type} (x : Option (α × β × δ × ε)) (f : α → β → δ → ε → Option γ) : Option γ := x.bind fun r => f r.1 r.2.1 r.2.2.1 r.2.2.2
def bnd5 {α β δ ε ζ γ : Type} (x : Option (α × β × δ × ε × ζ)) (f : α → β → δ → ε → ζ → Option γ) : Option γ := x.bind fun r => f r.1 r.2.1 r.2.2.1 r.2.2.2.1 r.2.2.2.2
section
variable {α β δ ε ζ η θ ι κ γ : Type} {r : γ}
theorem bnd1_some {x : Option α} {f : α → Option γ} (h : bnd1 x f = some r) : ∃ a, x = some a ∧ f a = some r := by
  unfold bnd1 at h; cases x with
  | none => cases h
  | some a => exact ⟨a, rfl, h⟩
theorem bnd2_some {x : Option (α × β)} {f : α → β → Option γ} (h : bnd2 x f = some r) : ∃ a b, x = some (a, b) ∧ f a b = some r := by
  obtain ⟨y, h1, h2⟩ := bnd1_some h; exact ⟨_, _, h1, h2⟩
theorem bnd3_some {x : Option (α × β × δ)} {f : α → β → δ → Option γ} (h : bnd3 x f = some r) : ∃ a b c, x = some (a, b, c) ∧ f a b c = some r := by
  obtain ⟨y, h1, h2⟩ := bnd1_some h; exact ⟨_, _, _, h1, h2⟩
theorem bnd4_some {x : Option (α × β × δ × ε)} {f : α → β → δ → ε → Option γ} (h : bnd4 x f = some r) : ∃ a b c d, x = some (a, b, c, d) ∧ f a b c d = some r := by
  obtain ⟨y, h1, h2⟩ := bnd1_some h; exact ⟨_, _, _, _, h1, h2⟩
theorem bnd5_some {x : Option (α × β × δ × ε × ζ)} {f : α → β → δ → ε → ζ → Option γ} (h : bnd5 x f = some r) : ∃ a b c d e, x = some (a, b, c, d, e) ∧ f a b c d e = some r := by
  obtain ⟨y, h1, h2⟩ := bnd1_some h; exact ⟨_, _, _, _, _, h1, h2⟩
end
section
variable {α β δ ε ζ η θ ι κ γ : Type}
theorem bnd1_eq {x : Option α} {a : α} (h : x = some a) (f : α → Option γ) : bnd1 x f = f a := by rw [h]; rfl
theorem bnd2_eq {x : Option (α × β)} {a : α} {b : β} (h : x = some (a, b)) (f : α → β → Option γ) : bnd2 x f = f a b := by rw [h]; rfl
theorem bnd3_eq {x : Option (α × β × δ)} {a : α} {b : β} {c : δ} (h : x = some (a, b, c)) (f : α → β → δ → Option γ) : bnd3 x f = f a b c := by rw [h]; rfl
theorem bnd4_eq {x : Option (α × β × δ × ε)} {a : α} {b : β} {c : δ} {d : ε} (h : x = some (a, b, c, d)) (f : α → β → δ → ε → Option γ) : bnd4 x f = f a b c d := by rw [h]; rfl
theorem bnd5_eq {x : Option (α × β × δ × ε × ζ)} {a : α} {b : β} {c : δ} {d : ε} {e : ζ} (h : x = some (a, b, c, d, e)) (f : α → β → δ → ε → ζ → Option γ) : bnd5 x f = f a b c d e := by rw [h]; rfl
end
theorem tlS : (∀ (α β : Type) (f : α → β) (a b : List α), List.map f (a ++ b) = List.map f a ++ List.map f b) ∧ (∀ (α β : Type) (f : α → β) (a : α) (b : List α), List.map f (a :: b) = f a :: List.map f b) ∧ (∀ (α β : Type) (f : α → β), List.map f [] = []) ∧
    (∀ (α β : Type) (f : α → β) (n : Nat) (a : List α), List.map f (List.take n a) = List.take n (List.map f a)) ∧ (∀ (α β : Type) (f : α → β) (n : Nat) (a : List α), List.map f (List.drop n a) = List.drop n (List.map f a)) ∧
    (∀ (α β : Type) (f : α → β) (n : Nat) (x : α) (a : List α), List.map f (List.set a n x) = List.set (List.map f a) n (f x)) ∧ (∀ (α β : Type) (f : α → β) (n : Nat) (x : α), List.map f (List.replicate n x) = List.replicate n (f x)) ∧
    (∀ (α : Type) (a b : List α), List.length (a ++ b) = List.length a + List.length b) ∧ (∀ (α : Type) (a : α) (b : List α), List.length (a :: b) = List.length b + 1) ∧ (∀ (α : Type), List.length ([] : List α) = 0) ∧ (∀ (α : Type) (n : Nat) (x : α) (a : List α), List.length (List.set a n x) = List.length a) ∧
    (∀ (α : Type) (n : Nat) (x : α), List.length (List.replicate n x) = n) ∧ (∀ (α β : Type) (f : α → β) (a : List α), List.length (List.map f a) = List.length a) ∧ (∀ (α : Type) (a : List α), [] ++ a = a) ∧ (∀ (α : Type) (a : List α), a ++ [] = a) ∧ (∀ (n : Nat), n * 1 = n) ∧ (∀ (n : Nat), 0 + n = n) ∧ (∀ (n : Nat), n + 0 = n) ∧ (∀ n : Nat, n - 0 = n) ∧
    (∀ (α β : Type) (f : α → List β) (a b : List α), List.flatMap f (a ++ b) = List.flatMap f a ++ List.flatMap f b) ∧ (∀ (α β : Type) (f : α → List β) (a : α) (b : List α), List.flatMap f (a :: b) = f a ++ List.flatMap f b) ∧ (∀ (α β : Type) (f : α → List β), List.flatMap f [] = []) ∧ (∀ (α : Type) (a : List α), List.drop 0 a = a) ∧
    (∀ (α : Type) (a : α) (b c : List α), (a :: b) ++ c = a :: (b ++ c)) ∧ (∀ (α : Type) (a b c : List α), (a ++ b) ++ c = a ++ (b ++ c)) ∧ (∀ (α β : Type) (f : α → List β) (n : Nat) (x : α), List.flatMap f (List.replicate n x) = List.flatten (List.replicate n (f x))) := by
  refine ⟨?_, ?_, ?_, ?_, ?_, ?_, ?_, ?_, ?_, ?_, ?_, ?_, ?_, ?_, ?_, ?_, ?_, ?_, ?_, ?_, ?_, ?_, ?_, ?_, ?_, ?_⟩ <;> intros <;> first | (simp; done) | rw [List.flatMap, List.map_replicate]
/-! ### elements of several cells -/
section
variable {α : Type} {f : α → List T} {c : Nat}
theorem lenF (hf : ∀ p, (f p).length = c) (xs : List α) : (List.flatMap f xs).length = xs.length * c := by
  induction xs with
  | nil => simp
  | cons x xs ih => rw [List.flatMap_cons, List.length_append, ih, hf, List.length_cons, Nat.succ_mul, Nat.add_comm]
theorem takeF (hf : ∀ p, (f p).length = c) : ∀ (xs : List α) (i : Nat), List.take (i * c) (List.flatMap f xs) = List.flatMap f (List.take i xs)
  | xs, 0 => by simp
  | [], i + 1 => by simp
  | x :: xs, i + 1 => by
    rw [List.flatMap_cons, List.take_succ_cons, List.flatMap_cons, ← takeF hf xs i, Nat.succ_mul, Nat.add_comm, List.take_append, hf x, List.take_of_length_le (by rw [hf]; omega)]
    congr 2
    omega
theorem putF (hf : ∀ p, (f p).length = c) : ∀ {xs : List α} {j m i : Nat} {y : α} (hj : j = i * c) (hm : m = j + c) (hi : i < xs.length), List.take j (List.flatMap f xs) ++ (f y ++ List.drop m (List.flatMap f xs)) = List.flatMap f (List.set xs i y)
  | a :: xs, j, m, 0, y, hj, hm, hi => by
    have hj' : j = 0 := by omega
    subst hj'
    have hm' : m = (f a).length := by rw [hf]; omega
    rw [hm', List.take_zero, List.nil_append, List.flatMap_cons, List.set_cons_zero, List.flatMap_cons, List.drop_left']
    rfl
  | a :: xs, j, m, i + 1, y, hj, hm, hi => by
    have hj' : j = (f a).length + i * c := by rw [hj, Nat.succ_mul, hf]; omega
    have hm' : m = (f a).length + (i * c + c) := by rw [hm, hj']; omega
    rw [hj', hm', List.flatMap_cons, List.set_cons_succ, List.flatMap_cons, List.take_length_add_append, List.drop_length_add_append, List.append_assoc]
    congr 1
    exact putF hf rfl rfl (by simpa using hi)
end
def pairC (x : Int × Int) : List T := [T.int .i64 x.1, T.int .i64 x.2]
theorem len_pair (xs : List (Int × Int)) : (List.flatMap pairC xs).length = xs.length * 2 := lenF (f := pairC) (fun _ => rfl) xs
theorem flats_pair (xs : List (Int × Int)) : T.flats (List.flatMap pairC xs) = true := by induction xs <;> simp_all [T.flats, T.flat, pairC]
def recsC (x : ByteArray × ByteArray) : List T := [T.str x.1, T.str x.2]
theorem len_recs (xs : List (ByteArray × ByteArray)) : (List.flatMap recsC xs).length = xs.length * 2 := lenF (f := recsC) (fun _ => rfl) xs
theorem flats_recs (xs : List (ByteArray × ByteArray)) : T.flats (List.flatMap recsC xs) = true := by induction xs <;> simp_all [T.flats, T.flat, recsC]
def factC (x : Bool × Bool × Int × Int × Int) : List T := [T.bool x.1, T.bool x.2.1, T.int .i64 x.2.2.1, T.int .i64 x.2.2.2.1, T.int .i64 x.2.2.2.2]
theorem len_fact (xs : List (Bool × Bool × Int × Int × Int)) : (List.flatMap factC xs).length = xs.length * 5 := lenF (f := factC) (fun _ => rfl) xs
theorem flats_fact (xs : List (Bool × Bool × Int × Int × Int)) : T.flats (List.flatMap factC xs) = true := by induction xs <;> simp_all [T.flats, T.flat, factC]
theorem tlL : (∀ s : ByteArray, List.length (bints s) = ByteArray.size s) ∧ (∀ (α β : Type) (f : α → β) (a : List α), List.length (List.map f a) = List.length a) ∧ (∀ (α : Type) (n : Nat) (x : α) (a : List α), List.length (List.set a n x) = List.length a) ∧ (∀ (α : Type) (a b : List α), List.length (a ++ b) = List.length a + List.length b) ∧
    (∀ (α : Type) (a : α) (b : List α), List.length (a :: b) = List.length b + 1) ∧ (∀ (α : Type), List.length ([] : List α) = 0) ∧ (∀ (α : Type) (n : Nat) (x : α), List.length (List.replicate n x) = n) ∧ (∀ (n : Nat), n * 1 = n) ∧
    (∀ xs : List Nd, List.length (List.flatMap nodeC xs) = List.length xs * 3) ∧ (∀ xs : List (Int × Bool), List.length (List.flatMap askedC xs) = List.length xs * 2) ∧ (∀ xs : List (Int × Int), List.length (List.flatMap pairC xs) = List.length xs * 2) ∧ (∀ xs : List (ByteArray × ByteArray), List.length (List.flatMap recsC xs) = List.length xs * 2) ∧ (∀ xs : List (Bool × Bool × Int × Int × Int), List.length (List.flatMap factC xs) = List.length xs * 5) := by
  refine ⟨len_bints, ?_, ?_, ?_, ?_, ?_, ?_, ?_, len_node, len_asked, len_pair, len_recs, len_fact⟩ <;> intros <;> simp
/-! ### short names of what is read most -/
abbrev ti (n : Int) : T := .int .i64 n
abbrev tb (b : Bool) : T := .bool b
abbrev tl (xs : List Int) : T := .list xs.length 1 (xs.map (T.int .i64))
abbrev ty (xs : List Int) : T := .list xs.length 1 (xs.map (T.int .u8))
abbrev tbl (xs : List Bool) : T := .list xs.length 1 (xs.map T.bool)
abbrev vi (n : Int) : V := .t (.int .i64 n)
abbrev vb (b : Bool) : V := .t (.bool b)
abbrev vl (xs : List Int) : V := .t (tl xs)
abbrev vy (xs : List Int) : V := .t (ty xs)
abbrev vbl (xs : List Bool) : V := .t (tbl xs)
abbrev oc (t : TypeId) (cs : List T) : Obj := .cells t cs
abbrev ov (t : TypeId) (vs : List V) : Obj := .vars t vs
abbrev vo (i n : Nat) : V := .own i 1 n
/-! ### branches of trees -/
inductive Br
  | nil
  | nd (q : Int) (y n : Br)
/-! ### maps -/
def mget {β : Type} : List (Int × β) → Int → Option β
  | [], _ => none
  | (a, b) :: r, k => if a = k then some b else mget r k
def mput {β : Type} : List (Int × β) → Int → β → List (Int × β)
  | [], k, v => [(k, v)]
  | (a, b) :: r, k, v => if a = k then (k, v) :: r else (a, b) :: mput r k v
theorem mget_put {β : Type} (l : List (Int × β)) (k j : Int) (v : β) : mget (mput l k v) j = if j = k then some v else mget l j := by
  induction l with
  | nil => simp only [mput, mget]; split <;> split <;> first | rfl | omega
  | cons e r ih =>
    obtain ⟨a, b⟩ := e
    simp only [mput]
    by_cases h : a = k
    · rw [if_pos h]
      simp only [mget]
      by_cases h2 : k = j
      · rw [if_pos h2, if_pos h2.symm]
      · rw [if_neg h2, if_neg (fun e => h2 e.symm), if_neg (fun e => h2 (h.symm.trans e))]
    · rw [if_neg h]
      simp only [mget]
      by_cases h2 : a = j
      · rw [if_pos h2, if_pos h2, if_neg (fun e => h (h2.trans e))]
      · rw [if_neg h2, if_neg h2, ih]
abbrev mpB (l : List (Int × Bool)) : List (T × T) := l.map fun e => (T.int .i64 e.1, T.bool e.2)
abbrev mpI (l : List (Int × Int)) : List (T × T) := l.map fun e => (T.int .i64 e.1, T.int .i64 e.2)
abbrev mp3 (l : List (Int × Int × Int × Int)) : List (T × T) := l.map fun e => (T.int .i64 e.1, T.agg [T.int .i64 e.2.1, T.int .i64 e.2.2.1, T.int .i64 e.2.2.2])
theorem look_map {β : Type} {g : β → T} (l : List (Int × β)) (k : Int) : lookT (l.map fun e => (T.int .i64 e.1, g e.2)) (T.int .i64 k) = (mget l k).map g := by
  induction l with
  | nil => rfl
  | cons e r ih =>
    obtain ⟨a, b⟩ := e
    simp only [List.map_cons, lookT, mget]
    by_cases h : a = k
    · rw [if_pos (by simp [keyEq, h]), if_pos h]; rfl
    · rw [if_neg (by simp [keyEq, h]), if_neg h, ih]
theorem put_map {β : Type} {g : β → T} (l : List (Int × β)) (k : Int) (v : β) : putT (l.map fun e => (T.int .i64 e.1, g e.2)) (T.int .i64 k) (g v) = (mput l k v).map fun e => (T.int .i64 e.1, g e.2) := by
  induction l with
  | nil => rfl
  | cons e r ih =>
    obtain ⟨a, b⟩ := e
    simp only [List.map_cons, putT, mput]
    by_cases h : a = k
    · rw [if_pos (by simp [keyEq, h]), if_pos h]; rfl
    · rw [if_neg (by simp [keyEq, h]), if_neg h, ih]; rfl
theorem lookR_ok {β : Type} {g : β → T} {z : T} {d : β} (hz : z = g d) (o : Option β) : lookR true z (o.map g) = T.tup [g (o.getD d), T.bool o.isSome] := by
  cases o
  · rw [hz]; rfl
  · rfl
theorem lookR_no {β : Type} {g : β → T} {z : T} {d : β} (hz : z = g d) (o : Option β) : lookR false z (o.map g) = g (o.getD d) := by
  cases o
  · rw [hz]; rfl
  · rfl
theorem look_mpI_ok {l : List (Int × Int)} {k : Int} {o : Option Int} (h : mget l k = o) : lookR true (T.int .i64 0) (lookT (mpI l) (T.int .i64 k)) = T.tup [T.int .i64 (o.getD 0), T.bool o.isSome] := by
  rw [← h]; show lookR true (T.int .i64 0) (lookT (l.map fun e => (T.int .i64 e.1, T.int .i64 e.2)) (T.int .i64 k)) = _
  rw [look_map (g := T.int .i64)]; exact lookR_ok rfl _
theorem flatEs_map {β : Type} {f : β → T × T} (hf : ∀ e, (f e).1.flat = true ∧ (f e).2.flat = true) (l : List β) : flatEs (l.map f) = true := by
  induction l with
  | nil => rfl
  | cons e r ih => simp only [List.map_cons, flatEs, (hf e).1, (hf e).2, ih, Bool.and_self]
theorem flatEs_mpB (l : List (Int × Bool)) : flatEs (mpB l) = true := flatEs_map (fun _ => ⟨rfl, rfl⟩) l
theorem flatEs_mpI (l : List (Int × Int)) : flatEs (mpI l) = true := flatEs_map (fun _ => ⟨rfl, rfl⟩) l
theorem flatEs_mp3 (l : List (Int × Int × Int × Int)) : flatEs (mp3 l) = true := flatEs_map (fun _ => ⟨rfl, rfl⟩) l
/-! ### maps with keys of three numbers, and maps that are trees -/
abbrev K3 := Int × Int × Int
def tget {β : Type} : List (K3 × β) → K3 → Option β
  | [], _ => none
  | (a, b) :: r, k => if a = k then some b else tget r k
def tput {β : Type} : List (K3 × β) → K3 → β → List (K3 × β)
  | [], k, v => [(k, v)]
  | (a, b) :: r, k, v => if a = k then (k, v) :: r else (a, b) :: tput r k v
theorem tget_put {β : Type} (l : List (K3 × β)) (k j : K3) (v : β) : tget (tput l k v) j = if j = k then some v else tget l j := by
  induction l with
  | nil => simp only [tput, tget]; split <;> split <;> first | rfl | simp_all
  | cons e r ih =>
    obtain ⟨a, b⟩ := e
    simp only [tput]
    by_cases h : a = k
    · rw [if_pos h]
      simp only [tget]
      by_cases h2 : k = j
      · rw [if_pos h2, if_pos h2.symm]
      · rw [if_neg h2, if_neg (fun e => h2 e.symm), if_neg (fun e => h2 (h.symm.trans e))]
    · rw [if_neg h]
      simp only [tget]
      by_cases h2 : a = j
      · rw [if_pos h2, if_pos h2, if_neg (fun e => h (h2.trans e))]
      · rw [if_neg h2, if_neg h2, ih]
abbrev mpT (l : List (K3 × Int)) : List (T × T) := l.map fun e => (T.agg [T.int .i64 e.1.1, T.int .i64 e.1.2.1, T.int .i64 e.1.2.2], T.int .i64 e.2)
theorem keyEq3 (a k : K3) : keyEq (T.agg [T.int .i64 a.1, T.int .i64 a.2.1, T.int .i64 a.2.2]) (T.agg [T.int .i64 k.1, T.int .i64 k.2.1, T.int .i64 k.2.2]) = decide (a = k) := by
  obtain ⟨a1, a2, a3⟩ := a
  obtain ⟨k1, k2, k3⟩ := k
  simp [keyEq, keyEqs, Bool.eq_iff_iff]
theorem look_tri (l : List (K3 × Int)) (k : K3) : lookT (mpT l) (T.agg [T.int .i64 k.1, T.int .i64 k.2.1, T.int .i64 k.2.2]) = (tget l k).map (T.int .i64) := by
  induction l with
  | nil => rfl
  | cons e r ih =>
    obtain ⟨a, b⟩ := e
    have ih : lookT (r.map fun e => (T.agg [T.int .i64 e.1.1, T.int .i64 e.1.2.1, T.int .i64 e.1.2.2], T.int .i64 e.2)) _ = _ := ih
    show lookT ((T.agg [T.int .i64 a.1, T.int .i64 a.2.1, T.int .i64 a.2.2], T.int .i64 b) :: r.map fun e => (T.agg [T.int .i64 e.1.1, T.int .i64 e.1.2.1, T.int .i64 e.1.2.2], T.int .i64 e.2)) _ = _
    rw [lookT, keyEq3, tget]
    by_cases h : a = k
    · rw [if_pos (by simp [h]), if_pos h]; rfl
    · rw [if_neg (by simp [h]), if_neg h, ih]
theorem put_tri (l : List (K3 × Int)) (k : K3) (v : Int) : putT (mpT l) (T.agg [T.int .i64 k.1, T.int .i64 k.2.1, T.int .i64 k.2.2]) (T.int .i64 v) = mpT (tput l k v) := by
  induction l with
  | nil => rfl
  | cons e r ih =>
    obtain ⟨a, b⟩ := e
    have ih : putT (r.map fun e => (T.agg [T.int .i64 e.1.1, T.int .i64 e.1.2.1, T.int .i64 e.1.2.2], T.int .i64 e.2)) _ _ = _ := ih
    show putT ((T.agg [T.int .i64 a.1, T.int .i64 a.2.1, T.int .i64 a.2.2], T.int .i64 b) :: r.map fun e => (T.agg [T.int .i64 e.1.1, T.int .i64 e.1.2.1, T.int .i64 e.1.2.2], T.int .i64 e.2)) _ _ = _
    rw [putT, keyEq3, tput]
    by_cases h : a = k
    · rw [if_pos (by simp [h]), if_pos h]; rfl
    · rw [if_neg (by simp [h]), if_neg h, ih]; rfl
theorem look_mpT_ok {l : List (K3 × Int)} {k : K3} {o : Option Int} (h : tget l k = o) : lookR true (T.int .i64 0) (lookT (mpT l) (T.agg [T.int .i64 k.1, T.int .i64 k.2.1, T.int .i64 k.2.2])) = T.tup [T.int .i64 (o.getD 0), T.bool o.isSome] := by
  rw [← h, look_tri]; exact lookR_ok rfl _
theorem look_mpT {l : List (K3 × Int)} {k : K3} {o : Option Int} (h : tget l k = o) : lookR false (T.int .i64 0) (lookT (mpT l) (T.agg [T.int .i64 k.1, T.int .i64 k.2.1, T.int .i64 k.2.2])) = T.int .i64 (o.getD 0) := by
  rw [← h, look_tri]; exact lookR_no rfl _
theorem keys_tri {P : Program} {k e : TypeId} (hu : P.underlying k = some (.array 3 e)) (he : P.underlying e = some (.int .i64)) (pe : P.plainKey e = true) (ce : P.cellsOf e = 1) (l : List (K3 × Int)) (n : K3) : ∃ G, KeyRun P k G ∧ G (T.agg [T.int .i64 n.1, T.int .i64 n.2.1, T.int .i64 n.2.2]) ∧ ∀ x ∈ mpT l, G x.1 :=
  ⟨_, keyRun_tri hu he pe ce, ⟨_, _, _, rfl⟩, fun x hx => by
    obtain ⟨e, _, rfl⟩ := List.mem_map.1 hx
    exact ⟨_, _, _, rfl⟩⟩
def ent (es : List (T × T)) : List (T × T) := entT (es.map (·.1)) (es.map (·.2))
theorem ent_eq (es : List (T × T)) : ent es = es := entT_map es
theorem ent_len (es : List (T × T)) : (es.map (·.1)).length = (es.map (·.2)).length := by simp
theorem ent_keys {P : Program} {k : TypeId} {t : T} {es : List (T × T)} (h : ∃ G, KeyRun P k G ∧ G t ∧ ∀ x ∈ es, G x.1) : ∃ G, KeyRun P k G ∧ G t ∧ ∀ x ∈ ent es, G x.1 := by rw [ent_eq]; exact h
theorem ent_look {c : Bool} {z k r : T} {es : List (T × T)} (h : lookR c z (lookT es k) = r) : lookR c z (lookT (ent es) k) = r := by rw [ent_eq]; exact h
theorem cutF {α : Type} {f : α → List T} {c : Nat} (hf : ∀ p, (f p).length = c) {xs : List α} {i j k : Nat} {Z R : List T} (hj : j = i * c) (hk : k = i * c) (hl : i ≤ xs.length) : List.take j (List.take k (List.flatMap f xs) ++ Z ++ R) = List.flatMap f (List.take i xs) := by
  subst hj; subst hk
  have : i * c ≤ xs.length * c := Nat.mul_le_mul_right _ hl
  rw [List.append_assoc, List.take_append_of_le_length (by rw [List.length_take, lenF hf]; omega), List.take_take, Nat.min_self, takeF hf]
theorem keys_map {P : Program} {k : TypeId} (hk : P.underlying k = some (.int .i64)) {β : Type} {g : β → T} (l : List (Int × β)) (n : Int) : ∃ G, KeyRun P k G ∧ G (T.int .i64 n) ∧ ∀ x ∈ l.map fun e => (T.int .i64 e.1, g e.2), G x.1 :=
  ⟨_, keyRun_int hk, ⟨n, rfl⟩, fun x hx => by
    obtain ⟨e, _, rfl⟩ := List.mem_map.1 hx
    exact ⟨e.1, rfl⟩⟩
def nam {α γ : Type} (e : α) (f : α → Option γ) : Option γ := f e
theorem nam_some {α γ : Type} {e : α} {f : α → Option γ} {r : γ} (h : nam e f = some r) : ∃ v, e = v ∧ f v = some r := ⟨e, rfl, h⟩
def jn {γ δ : Type} (f : γ) (g : γ → Option δ) : Option δ := g f
theorem jn_some {γ δ : Type} {f : γ} {g : γ → Option δ} {r : δ} (h : jn f g = some r) : ∃ J, J = f ∧ g J = some r := ⟨f, rfl, h⟩
theorem fuel_ex : ∃ n : Nat, 1099511627776 ≤ n := ⟨_, Nat.le_refl _⟩
noncomputable def fuel : Nat := Classical.choose fuel_ex
theorem fuel_ge : 1099511627776 ≤ fuel := Classical.choose_spec fuel_ex
def I64 (n : Int) : Prop := -9223372036854775808 ≤ n ∧ n ≤ 9223372036854775807
theorem wrapI {n : Int} (h : I64 n) : T.int .i64 (IntKind.wrap .i64 n) = T.int .i64 n := wrapT_i64 h.1 h.2
theorem okY_wf {bs : List Int} (h : ∀ n ∈ bs, (Lit.int .u8 n).wf = true) : okY bs := by
  intro i
  by_cases hi : i < bs.length
  · have := h (bs.getD i 0) (by rw [List.getD_eq_getElem?_getD, List.getElem?_eq_getElem hi]; exact List.getElem_mem hi)
    simp only [Lit.wf, Bool.and_eq_true, decide_eq_true_eq] at this
    have e1 : IntKind.u8.min = 0 := by decide
    have e2 : IntKind.u8.max = 255 := by decide
    rw [e1, e2] at this
    exact this
  · rw [List.getD_eq_getElem?_getD, List.getElem?_eq_none (by omega)]; simp
theorem shl_told {a b : Int} (h0 : 0 ≤ b ∧ b < 64 ∧ I64 (a * 2 ^ b.toNat)) : T.int .i64 (IntKind.wrap .i64 (a * 2 ^ (min (Int.toNat b) 64))) = T.int .i64 (a * 2 ^ b.toNat) := by
  rw [Nat.min_eq_left (by omega)]; exact wrapI h0.2.2
theorem shr_told {k : IntKind} {a b : Int} (h0 : 0 ≤ b ∧ b < 64) : T.int k (Int.fdiv a (2 ^ (min (Int.toNat b) 64))) = T.int k (a / 2 ^ b.toNat) := by
  rw [Nat.min_eq_left (by omega), Int.fdiv_eq_ediv_of_nonneg _ (by exact Int.le_of_lt (Int.pow_pos (by decide)))]
theorem quo_told {a b : Int} (h : I64 (Int.tdiv a b)) : T.int .i64 (IntKind.wrap .i64 (Int.tdiv a b)) = T.int .i64 (Int.tdiv a b) := wrapI h
section
variable {P : Program} {cl : Bool} {n : Nat} {Q : Post}
theorem WP.joinA {α : Type} {x y : Code} {σ : St} (mk : α → St) (K : α → Prop) (h1 : WP P cl n x (thenQ (fun σ' => ∃ a, K a ∧ σ' = mk a) Q) σ) (h2 : ∀ a, K a → WP P cl n y Q (mk a)) : WP P cl n (.seq x y) Q σ :=
  WP.seq (WP.mono h1 fun e σ' h => by
    cases e with
    | normal => obtain ⟨a, k1, rfl⟩ := h; exact h2 a k1
    | _ => exact h)
theorem WP.st {c : Code} {σ σ' : St} (e : σ = σ') (h : WP P cl n c Q σ') : WP P cl n c Q σ := e ▸ h
end
end Go.Tl
end
section
namespace Go.Tl
set_option linter.unusedVariables false
abbrev wr (n : Int) : Prop := T.int .i64 (IntKind.wrap .i64 n) = T.int .i64 n
abbrev ln {α : Type} (xs : List α) : Int := ((List.length xs : Nat) : Int)
abbrev gt {α : Type} (xs : List α) (i : Int) (d : α) : α := List.getD xs (Int.toNat i) d
abbrev rf (t : T) : Prop := t = t
abbrev rn (o : Obj) (f : List (Nat × Nat)) : Prop := o = o.ren (renF f)
abbrev ib {α : Type} (i : Int) (xs : List α) : Prop := 0 ≤ i ∧ i < ((List.length xs : Nat) : Int)
theorem chk2 {α : Type} {p q : Prop} {x : Option α} {r : α} (h : chk p (chk q x) = some r) : p ∧ q ∧ x = some r := ⟨(chk_some h).1, chk_some (chk_some h).2⟩
abbrev kp (S : List (Nat × V)) (O : List (Nat × Obj)) : List Wk := [.keep (S.map (·.1)), .keepO (O.map (·.1))]
abbrev kq (σ : St) : List Wk := [.keep (σ.S.map (·.1)), .keepO (σ.O.map (·.1)), .names (σ.O.map fun e => (e.1, e.1))]
section
variable {P : Program} {tab : Tab} {cl : Bool} {n : Nat} {Q : Post}
theorem WP.pk (tm : chkTab P tab = true ∧ P.follows .mixedOrders = true) (ans : List (Nat × An)) (ps : List Prop) (S : List (Nat × V)) (O : List (Nat × Obj)) {c : Code} {σ : St} (ho : Obs ps) (hQ : Q .normal ⟨O.map (·.1), S, O⟩)
    (h : evalK P tab cl n ans (kp S O) c σ = some (ps, .normal, ⟨O.map (·.1), S, O⟩) := by as_aux_lemma => kernel_rfl) : WP P cl n c Q σ := WP.path tm.1 tm.2 ans _ h ho hQ
theorem WP.pn (tm : chkTab P tab = true ∧ P.follows .mixedOrders = true) (ans : List (Nat × An)) (ps : List Prop) (N : List Nat) (S : List (Nat × V)) (O : List (Nat × Obj)) {c : Code} {σ : St} (ho : Obs ps) (hQ : Q .normal ⟨N, S, O⟩)
    (h : evalK P tab cl n ans (kp S O) c σ = some (ps, .normal, ⟨N, S, O⟩) := by as_aux_lemma => kernel_rfl) : WP P cl n c Q σ := WP.path tm.1 tm.2 ans _ h ho hQ
theorem WP.sk (tm : chkTab P tab = true ∧ P.follows .mixedOrders = true) (ans : List (Nat × An)) (ps : List Prop) (S : List (Nat × V)) (O : List (Nat × Obj)) {c y : Code} {σ : St} (ho : Obs ps) (hQ : WP P cl n y Q ⟨O.map (·.1), S, O⟩)
    (h : evalK P tab cl n ans (kp S O) c σ = some (ps, .normal, ⟨O.map (·.1), S, O⟩) := by as_aux_lemma => kernel_rfl) : WP P cl n (.seq c y) Q σ := WP.seq (WP.path tm.1 tm.2 ans _ h ho hQ)
theorem WP.sn (tm : chkTab P tab = true ∧ P.follows .mixedOrders = true) (ans : List (Nat × An)) (ps : List Prop) (N : List Nat) (S : List (Nat × V)) (O : List (Nat × Obj)) {c y : Code} {σ : St} (ho : Obs ps) (hQ : WP P cl n y Q ⟨N, S, O⟩)
    (h : evalK P tab cl n ans (kp S O) c σ = some (ps, .normal, ⟨N, S, O⟩) := by as_aux_lemma => kernel_rfl) : WP P cl n (.seq c y) Q σ := WP.seq (WP.path tm.1 tm.2 ans _ h ho hQ)
theorem WP.qk (tm : chkTab P tab = true ∧ P.follows .mixedOrders = true) (ans : List (Nat × An)) (ps : List Prop) (S : List (Nat × V)) (O : List (Nat × Obj)) {c : Code} {σ : St} (ho : Obs ps) (hQ : Q .normal ⟨O.map (·.1), S, O⟩)
    (h : evalK P tab cl n ans (kq ⟨[], S, O⟩) c σ = some (ps, .normal, ⟨O.map (·.1), S, O⟩) := by as_aux_lemma => kernel_rfl) : WP P cl n c Q σ := WP.path tm.1 tm.2 ans _ h ho hQ
theorem WP.qs (tm : chkTab P tab = true ∧ P.follows .mixedOrders = true) (ans : List (Nat × An)) (ps : List Prop) (S : List (Nat × V)) (O : List (Nat × Obj)) {c y : Code} {σ : St} (ho : Obs ps) (hQ : WP P cl n y Q ⟨O.map (·.1), S, O⟩)
    (h : evalK P tab cl n ans (kq ⟨[], S, O⟩) c σ = some (ps, .normal, ⟨O.map (·.1), S, O⟩) := by as_aux_lemma => kernel_rfl) : WP P cl n (.seq c y) Q σ := WP.seq (WP.path tm.1 tm.2 ans _ h ho hQ)
theorem WP.nk (tm : chkTab P tab = true ∧ P.follows .mixedOrders = true) (ans : List (Nat × An)) (ns : List (Nat × Nat)) (e : Exit) (ps : List Prop) (S : List (Nat × V)) (O : List (Nat × Obj)) {c : Code} {σ : St} (ho : Obs ps) (hQ : Q e ⟨O.map (·.1), S, O⟩)
    (h : evalK P tab cl n ans [.keep (S.map (·.1)), .keepO (ns.map (·.1)), .names ns] c σ = some (ps, e, ⟨O.map (·.1), S, O⟩) := by as_aux_lemma => kernel_rfl) : WP P cl n c Q σ := WP.path tm.1 tm.2 ans _ h ho hQ
theorem WP.ek (tm : chkTab P tab = true ∧ P.follows .mixedOrders = true) (ans : List (Nat × An)) (k : Nat) (ps : List Prop) (S : List (Nat × V)) (O : List (Nat × Obj)) {c : Code} {σ : St} (ho : Obs ps) (hQ : Q (.exit k) ⟨O.map (·.1), S, O⟩)
    (h : evalK P tab cl n ans (kp S O) c σ = some (ps, .exit k, ⟨O.map (·.1), S, O⟩) := by as_aux_lemma => kernel_rfl) : WP P cl n c Q σ := WP.path tm.1 tm.2 ans _ h ho hQ
theorem WP.eq (tm : chkTab P tab = true ∧ P.follows .mixedOrders = true) (ans : List (Nat × An)) (k : Nat) (ps : List Prop) (S : List (Nat × V)) (O : List (Nat × Obj)) {c : Code} {σ : St} (ho : Obs ps) (hQ : Q (.exit k) ⟨O.map (·.1), S, O⟩)
    (h : evalK P tab cl n ans (kq ⟨[], S, O⟩) c σ = some (ps, .exit k, ⟨O.map (·.1), S, O⟩) := by as_aux_lemma => kernel_rfl) : WP P cl n c Q σ := WP.path tm.1 tm.2 ans _ h ho hQ
theorem WP.yes {c : Operand} {x y : Code} {b : Bool} {σ : St} (hb : b = true) (hc : ev (lk σ.S) c = some (.t (.bool b))) (ht : WP P cl n x Q σ) : WP P cl n (.cond c x y) Q σ := WP.cond hc (fun _ => ht) (fun hh => by rw [hb] at hh; cases hh)
theorem WP.no {c : Operand} {x y : Code} {b : Bool} {σ : St} (hb : b = false) (hc : ev (lk σ.S) c = some (.t (.bool b))) (ht : WP P cl n y Q σ) : WP P cl n (.cond c x y) Q σ := WP.cond hc (fun hh => by rw [hb] at hh; cases hh) (fun _ => ht)
theorem WP.lp {α : Type} (mk : α → St) (inv : α → Prop) (μ : α → Nat) {c : Code} {σ : St} (x0 : α) (h0 : inv x0)
    (round : ∀ x, inv x → WP P cl n c (thenQ (fun σ' => ∃ y, inv y ∧ μ y < μ x ∧ σ' = mk y) Q) (mk x)) (h : Tl.wks cl (kq (mk x0)) σ = some ([], mk x0) := by as_aux_lemma => kernel_rfl) : WP P cl n (.loop c) Q σ :=
  WP.wk _ h trivial (WP.loop mk inv μ x0 h0 round)
end
end Go.Tl
end
