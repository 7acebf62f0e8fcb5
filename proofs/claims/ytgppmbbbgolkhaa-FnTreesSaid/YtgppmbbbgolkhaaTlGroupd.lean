/-
  Trees for Go values, contracts of functions and the steps of the walks: texts of the layer, put together. No statement of the seat is proved here.
-/
import Derived.Test.YtgppmbbbgolkhaaTlGroupc
section
namespace Go.Tl
set_option linter.unusedVariables false
set_option linter.unusedSimpArgs false

/-! ### what a function's results are, with names -/
def retG1 (tab : Tab) (σ : St) : ResultVar → Option (List Prop × V)
  | .tmp t => (lk σ.S t).map fun x => ([], x)
  | .cell a t => match look tab t, lk σ.S a with
    | some y, some (.t (.ptr cs)) => (getPtr none cs y).map fun r => ([r.1], r.2)
    | some y, some (.ref i o) => match lk σ.O i with
      | some ob => (getObj none ob o y).map fun r => ([r.1], r.2)
      | none => none
    | _, _ => none
def retsG (tab : Tab) (σ : St) : List ResultVar → Option (List Prop × List V)
  | [] => some ([], [])
  | v :: vs => match retG1 tab σ v with
    | some (ps, t) => match retsG tab σ vs with
      | some (qs, ts) => some (ps ++ qs, t :: ts)
      | none => none
    | none => none
def retGT (tab : Tab) (vs : List ResultVar) (σ : St) : Option (List Prop × V) :=
  match retsG tab σ vs with
  | some (ps, [t]) => some (ps, t)
  | some (ps, ts) => some (ps, mkTup ts)
  | none => none
/-- The result, a nil slice in it told as a slice of its own. js: the names of such. -/
def RetG (tab : Tab) (vs : List ResultVar) (r : V) (Oo : List (Nat × Obj)) : Post := fun e σ => match e with
  | .ret | .normal => ∃ (js : List (Nat × TypeId)) (keys : List Nat) (ps : List Prop) (r1 : V), retGT tab vs σ = some (ps, r1) ∧ Obs ps ∧ Obs (adoptV (js.map (·.1)) r1 r) ∧ js.all (fun j => !σ.N.contains j.1) = true ∧ keepA σ.O keys ++ js.map (fun j => (j.1, .cells j.2 [])) = Oo
  | _ => False
section
variable {P : Program} {tab : Tab} {E : Env} {β : Names} {N : List Nat} {σ : St} {O : Nat → Option Obj} {a : Act} {w : World}
theorem R.retG1 (htab : chkTab P tab = true) (h : R E β N (lk σ.S) (lk σ.O) a w) {v : ResultVar} {ps : List Prop} {t : V} (hr : Tl.retG1 tab σ v = some (ps, t)) (ho : Obs ps) :
    ∃ u, (resV a.tmps v).run P w = .ok u w ∧ VV w (Imm E (lk σ.O) β w) β t u := by
  cases v with
  | tmp t' =>
    simp only [Tl.retG1, Option.map_eq_some_iff, Prod.mk.injEq] at hr
    obtain ⟨x, hx, _, rfl⟩ := hr
    exact ⟨_, rfl, (h.slots t' _ hx).2⟩
  | cell x t' =>
    simp only [Tl.retG1] at hr
    split at hr
    · rename_i y cs hy hx
      simp only [Option.map_eq_some_iff, Prod.mk.injEq] at hr
      obtain ⟨⟨p, x'⟩, hg, rfl, rfl⟩ := hr
      have := (h.slots x _ hx).2
      simp only [VV, VR] at this
      obtain ⟨b, o, hb, _, hva⟩ := this
      obtain ⟨u, h1, h2⟩ := run_getPtr (β := β) (chkTab_look htab hy) hg ho.1 hva
      refine ⟨u, ?_, h2⟩
      simp only [resV]
      rw [hb]
      simpa [asAddr, Instr.loadAt, Instr.sureAddr] using h1
    · rename_i y i o hy hx
      split at hr
      · rename_i ob hob
        simp only [Option.map_eq_some_iff, Prod.mk.injEq] at hr
        obtain ⟨⟨p, x'⟩, hg, rfl, rfl⟩ := hr
        have := (h.slots x _ hx).2
        simp only [VV] at this
        obtain ⟨b, z, hb, hv⟩ := this
        obtain ⟨b', z', hb', _, _, hor⟩ := h.objS hob hb
        rw [hb] at hb'; cases hb'
        obtain ⟨u, h1, h2⟩ := run_getObj (β := β) (chkTab_look htab hy) hg ho.1 hor
        refine ⟨u, ?_, h2⟩
        simp only [resV]
        rw [hv]
        simpa [asAddr, Instr.loadAt, Instr.sureAddr] using h1
      · cases hr
    · cases hr
theorem R.retsG (htab : chkTab P tab = true) (h : R E β N (lk σ.S) (lk σ.O) a w) : ∀ {vs : List ResultVar} {ps : List Prop} {ts : List V}, Tl.retsG tab σ vs = some (ps, ts) → Obs ps →
    ∃ us, (vs.mapM (resV a.tmps)).run P w = .ok us w ∧ VVL w (Imm E (lk σ.O) β w) β ts us
  | [], ps, ts, hr, _ => by
    simp only [Tl.retsG, Option.some.injEq, Prod.mk.injEq] at hr
    obtain ⟨_, rfl⟩ := hr
    exact ⟨[], by simp, by simp only [VVL]⟩
  | v :: vs, ps, ts, hr, ho => by
    simp only [Tl.retsG] at hr
    split at hr
    · rename_i ps1 t h1
      split at hr
      · rename_i qs ts' h2
        cases hr
        rw [Obs_append] at ho
        obtain ⟨u, k1, k2⟩ := h.retG1 htab h1 ho.1
        obtain ⟨us, k3, k4⟩ := R.retsG htab h h2 ho.2
        refine ⟨u :: us, ?_, by simp only [VVL]; exact ⟨u, us, rfl, k2, k4⟩⟩
        simp only [List.mapM_cons, Sem.run_bind]
        rw [k1]
        simp only [Result.andThen_ok, Sem.run_bind]
        rw [k3]
        rfl
      · cases hr
    · cases hr
theorem run_resultsG (htab : chkTab P tab = true) (h : R E β N (lk σ.S) (lk σ.O) a w) {fn : Func} {ps : List Prop} {r : V} (hr : retGT tab fn.results.toList σ = some (ps, r)) (ho : Obs ps) :
    ∃ u, (results fn a.tmps).run P w = .ok u w ∧ VV w (Imm E (lk σ.O) β w) β r u := by
  unfold retGT at hr
  have key : ∀ {ts : List V}, retsG tab σ fn.results.toList = some (ps, ts) → ∃ us : Array Value, (results fn a.tmps).run P w = .ok (if h : us.size = 1 then us[0] else .tuple us) w ∧ VVL w (Imm E (lk σ.O) β w) β ts us.toList := by
    intro ts hts
    obtain ⟨us, k1, k2⟩ := h.retsG htab hts ho
    refine ⟨us.toArray, ?_, by simpa using k2⟩
    rw [results_eq, Array.mapM_eq_mapM_toList]
    simp only [Sem.run_bind, Sem.run_map, k1, Result.andThen_ok]
    rfl
  split at hr
  · rename_i t hts
    cases hr
    obtain ⟨us, k1, k2⟩ := key hts
    simp only [VVL] at k2
    obtain ⟨u, us', e, k3, rfl⟩ := k2
    have : us = #[u] := by simpa using congrArg List.toArray e
    subst this
    exact ⟨u, by simpa using k1, k3⟩
  · rename_i ts hne hts
    cases hr
    obtain ⟨us, k1, k2⟩ := key hts
    have hsz : us.size ≠ 1 := by
      intro h1
      have := VVL.length k2
      rw [Array.length_toList, h1] at this
      match ts, this with
      | [t], _ => exact hne t rfl
    exact ⟨.tuple us, by simpa [hsz] using k1, mkTup_reads k2⟩
  · cases hr
end

def initV : Nat → List V → List (Nat × V)
  | _, [] => []
  | i, t :: ts => (i, t) :: initV (i + 1) ts
theorem lk_initV {w : World} {ok : Nat → Prop} {β : Names} : ∀ (ts : List V) (vs : List Value) (i t : Nat) (x : V), VVL w ok β ts vs → lk (initV i ts) t = some x → i ≤ t ∧ ∃ u, vs[t - i]? = some u ∧ VV w ok β x u
  | [], vs, i, t, x, _, h => by simp [initV, lk] at h
  | y :: ts, vs, i, t, x, hl, h => by
    simp only [VVL] at hl
    obtain ⟨u, us, rfl, h1, h2⟩ := hl
    simp only [initV, lk] at h
    split at h
    · rename_i e
      cases h
      subst e
      exact ⟨Nat.le_refl _, u, by simp, h1⟩
    · obtain ⟨k1, v, k3, k4⟩ := lk_initV ts us (i + 1) t x h2 h
      refine ⟨by omega, v, ?_, k4⟩
      rw [show t - i = (t - (i + 1)) + 1 by omega]
      simpa using k3

theorem CG.intro {P : Program} {tab : Tab} (htab : chkTab P tab = true) {f : FuncId} {fn : Func} {c : Code} {args : List V} {Oi : List (Nat × Obj)} {r : V} {Oo : List (Nat × Obj)} (hf : P.funcs[f]? = some fn) (hname : (fn.name == "runtime.NumGoroutine") = false) (hb : fn.body = some c)
    (hlen : args.length ≤ fn.ntmps) (hpin : (keysO Oi).all (fun i => decide (i < 1000)) = true) (hwp : WP P false fn.ntmps c (RetG tab fn.results.toList r Oo) ⟨keysO Oi, initV 0 args, Oi⟩) : CG P f args Oi r Oo := by
  intro ok w β vs hok hg hβ hO hap hl
  have hcall : (callFunc f vs).run P w = .ok (.enter f vs) w := by
    have hne : ¬ fn.name = "runtime.NumGoroutine" := by simpa using hname
    simp [callFunc, hf, hne, hb]
  refine ⟨hcall, calls_of_wp hf hb ?_⟩
  have hsz : vs.size = args.length := by rw [← VVL.length hl]; simp
  let E : Env := ⟨ok, w, fun b => ∃ i x, β i = some x ∧ x.1 = b, fun i => i ∈ keysO Oi, β⟩
  have himm : ∀ b, ok b → Imm E (lk Oi) β w b := fun b hb => ⟨.inl hb, hok b hb, fun i o x ho hx e => (hβ i x hx).2.2.1 (e ▸ hb)⟩
  have hR : Rel E ⟨keysO Oi, initV 0 args, Oi⟩ { tmps := vs ++ Array.replicate (fn.ntmps - vs.size) undef, defers := [] } w := by
    refine ⟨β, rfl, rfl, rfl, rfl, Nat.le_refl _, fun _ _ _ => rfl, fun b hb => ⟨hok b hb, fun ⟨i, x, hx, e⟩ => (hβ i x hx).2.2.1 (e ▸ hb)⟩, hg, fun i hi => ?_, fun t x ht => ?_, fun i hp => ⟨?_, hp, rfl⟩, fun i x h2 hx => ?_, fun i o ho => ?_, fun i j o o' x x' ho ho' hx hx' hne => hap i j x x' hx hx' hne⟩
    · cases hx : β i with
      | none => rfl
      | some x => exact absurd (hβ i x hx).2.1 hi
    · obtain ⟨_, u, hu, hv⟩ := lk_initV args vs.toList 0 t x hl ht
      have hu' : vs[t]? = some u := by simpa using hu
      have hlt : t < vs.size := (Array.getElem?_eq_some_iff.1 hu').1
      refine ⟨by simp; omega, ?_⟩
      rw [Array.getD_eq_getD_getElem?, Array.getElem?_append_left hlt, hu']
      exact VV.lasts ⟨himm, fun _ _ => rfl⟩ (fun _ _ h => h) _ _ hv
    · have := List.all_eq_true.1 hpin i hp
      simpa using this
    · have := (hβ i x hx).1
      omega
    · rcases hO i o ho with ⟨b, z, h1, h2⟩ | ⟨h1, h2, h3⟩
      · exact .inl ⟨b, z, h1, (hβ i _ h1).2.2.2, .inr ⟨i, _, h1, rfl⟩, OR.lasts ⟨himm, fun _ _ => rfl⟩ (fun _ _ h => h) rfl h2⟩
      · exact .inr ⟨lk_keys ho, h2, h3⟩
  refine wp_mono (hwp E _ w (fun hc => by cases hc) hR (by simp; omega)) fun e a' w' hq => ?_
  obtain ⟨σ', ⟨β', k1⟩, k2, k3⟩ := hq
  have fin : (∃ (js : List (Nat × TypeId)) (keys : List Nat) (ps : List Prop) (r1 : V), retGT tab fn.results.toList σ' = some (ps, r1) ∧ Obs ps ∧ Obs (adoptV (js.map (·.1)) r1 r) ∧ js.all (fun j => !σ'.N.contains j.1) = true ∧ keepA σ'.O keys ++ js.map (fun j => (j.1, .cells j.2 [])) = Oo) → a'.defers = [] ∧ ∃ v, (results fn a'.tmps).run P w' = .ok v w' ∧ ∃ v' β', Ending.returned v = .returned v' ∧ w'.os = w.os ∧ w'.tape = w.tape ∧ w'.output = w.output ∧ w.heap.size ≤ w'.heap.size ∧
      (∀ b, b < w.heap.size → (∀ i x, β i = some x → x.1 ≠ b) → w'.heap[b]? = w.heap[b]?) ∧
      (∀ i, i ∈ keysO Oi → β' i = β i) ∧
      (∀ i x, 2000 ≤ i → β' i = some x → w.heap.size ≤ x.1) ∧
      (∀ i o, lk Oo i = some o → (∃ b z, β' i = some (b, z) ∧ b < w'.heap.size ∧ (w.heap.size ≤ b ∨ ∃ j z', β j = some (b, z')) ∧ OR w' (Imm ⟨ok, w, fun b => ∃ i x, β i = some x ∧ x.1 = b, fun _ => False, fun _ => none⟩ (lk Oo) β' w') β' b z o) ∨ (β' i = none ∧ ∃ e, o = .cells e [])) ∧
      (∀ i j o o' x x', lk Oo i = some o → lk Oo j = some o' → β' i = some x → β' j = some x' → i ≠ j → x.1 ≠ x'.1) ∧
      VV w' (Imm ⟨ok, w, fun b => ∃ i x, β i = some x ∧ x.1 = b, fun _ => False, fun _ => none⟩ (lk Oo) β' w') β' r v' := by
    rintro ⟨js, keys, ps, r1, h1, h2, h3, h4, h5⟩
    obtain ⟨u, g1, g2⟩ := run_resultsG htab k1 h1 h2
    have hph : ∀ i, i ∈ js.map (·.1) → β' i = none := fun i hi => by
      obtain ⟨j, hj, rfl⟩ := List.mem_map.1 hi
      have := List.all_eq_true.1 h4 j hj
      simp only [Bool.not_eq_true', List.contains_eq_mem, decide_eq_false_iff_not] at this
      exact k1.dom _ this
    have hO : ∀ i o, lk Oo i = some o → lk σ'.O i = some o ∨ (β' i = none ∧ ∃ e, o = .cells e []) := fun i o ho => by
      rw [← h5, lk_app] at ho
      cases hl : lk (keepA σ'.O keys) i with
      | some o2 =>
        rw [hl] at ho
        simp only [Option.some_or, Option.some.injEq] at ho
        subst ho
        exact .inl (lk_keep σ'.O keys i _ hl)
      | none =>
        rw [hl] at ho
        simp only [Option.none_or] at ho
        obtain ⟨q1, q2⟩ := lk_phantom js i o ho
        exact .inr ⟨hph i q1, q2⟩
    have hlast : Lasts w' (Imm E (lk σ'.O) β' w') w' (Imm ⟨ok, w, fun b => ∃ i x, β i = some x ∧ x.1 = b, fun _ => False, fun _ => none⟩ (lk Oo) β' w') := ⟨fun b hb => ⟨hb.1, hb.2.1, fun i o x ho hx => by
      rcases hO i o ho with q | ⟨q, _⟩
      · exact hb.2.2 i o x q hx
      · rw [hx] at q; cases q⟩, fun _ _ => rfl⟩
    refine ⟨k1.defers, u, g1, u, β', rfl, k1.os, k1.tape, k1.output, k1.size, fun b hb hn => k1.old b hb (fun ⟨i, x, hx, e⟩ => hn i x hx e), fun i hi => (k1.pins i hi).2.2, k1.news, fun i o ho => ?_, fun i j o o' x x' ho ho' hx hx' hne => ?_, adoptV_reads r1 r u h3 (VV.lasts hlast (fun _ _ h => h) _ _ g2)⟩
    · rcases hO i o ho with q | q
      · rcases k1.objs i o q with ⟨b, z, q1, q2, q3, q4⟩ | ⟨_, q1, q2⟩
        · refine .inl ⟨b, z, q1, q2, ?_, OR.lasts hlast (fun _ _ h => h) rfl q4⟩
          rcases q3 with q3 | ⟨j, x, q3, rfl⟩
          · exact .inl q3
          · exact .inr ⟨j, x.2, q3⟩
        · exact .inr ⟨q1, q2⟩
      · exact .inr q
    · rcases hO i o ho with q | ⟨q, _⟩
      · rcases hO j o' ho' with q' | ⟨q', _⟩
        · exact k1.apart i j o o' x x' q q' hx hx' hne
        · rw [hx'] at q'; cases q'
      · rw [hx] at q; cases q
  cases e with
  | normal => exact fin k3
  | ret => exact fin k3
  | _ => exact k3.elim

theorem WkT.eq {x y z : T} (h : WkT x y) (e : y = z) : WkT x z := e ▸ h
/-- A path that returns, with names. -/
def evalG (P : Program) (tab : Tab) (n : Nat) (ans : List (Nat × An)) (ks : List Wk) (keys : List Nat) (vs : List ResultVar) (c : Code) (σ : St) : Option (List Prop × V × List Nat × List (Nat × Obj)) :=
  match evalC P tab n ans c σ with
  | some (ps, .ret, σ1) => match wks false ks σ1 with
    | some (ps2, σ2) => match retGT tab vs σ2 with
      | some (qs, r) => some (ps ++ (ps2 ++ qs), r, σ2.N, keepA σ2.O keys)
      | none => none
    | none => none
  | _ => none
theorem WP.pathG {P : Program} {n : Nat} {tab : Tab} (htab : chkTab P tab = true) (hm : P.follows .mixedOrders = true) (ans : List (Nat × An)) (ks : List Wk) (keys : List Nat) (vs : List ResultVar) {c : Code} {σ : St} {ps : List Prop} {r r' : V} {N : List Nat} {O Oo : List (Nat × Obj)} (js : List (Nat × TypeId)) {Q : Post} (h : evalG P tab n ans ks keys vs c σ = some (ps, r, N, O)) (ho : Obs ps) (he : Obs (adoptV (js.map (·.1)) r r'))
    (hj : js.all (fun j => !N.contains j.1) = true) (hO : O ++ js.map (fun j => (j.1, .cells j.2 [])) = Oo) (hQ : ∀ σ', RetG tab vs r' Oo .ret σ' → Q .ret σ') : WP P false n c Q σ := by
  unfold evalG at h
  split at h
  · rename_i ps1 σ1 h1
    split at h
    · rename_i ps2 σ2 h2
      split at h
      · rename_i qs r1 h3
        cases h
        rw [Obs_append, Obs_append] at ho
        refine WP.weak (Q' := fun e' σ' => e' = .ret ∧ σ' = σ1) (evalC_sound htab hm c σ σ1 ps1 .ret _ h1 ho.1 ⟨rfl, rfl⟩) fun e' σ' hh => ?_
        obtain ⟨rfl, rfl⟩ := hh
        exact ⟨ks, ps2, σ2, h2, ho.2.1, hQ σ2 ⟨js, keys, qs, r, h3, ho.2.2, he, hj, hO⟩⟩
      · cases h
    · cases h
  · cases h

/-- The same of a path that comes to the end of a function without results. -/
def evalGn (P : Program) (tab : Tab) (n : Nat) (ans : List (Nat × An)) (ks : List Wk) (keys : List Nat) (vs : List ResultVar) (c : Code) (σ : St) : Option (List Prop × V × List Nat × List (Nat × Obj)) :=
  match evalC P tab n ans c σ with
  | some (ps, .normal, σ1) => match wks false ks σ1 with
    | some (ps2, σ2) => match retGT tab vs σ2 with
      | some (qs, r) => some (ps ++ (ps2 ++ qs), r, σ2.N, keepA σ2.O keys)
      | none => none
    | none => none
  | _ => none
theorem WP.pathGn {P : Program} {n : Nat} {tab : Tab} (htab : chkTab P tab = true) (hm : P.follows .mixedOrders = true) (ans : List (Nat × An)) (ks : List Wk) (keys : List Nat) (vs : List ResultVar) {c : Code} {σ : St} {ps : List Prop} {r r' : V} {N : List Nat} {O Oo : List (Nat × Obj)} (js : List (Nat × TypeId)) {Q : Post} (h : evalGn P tab n ans ks keys vs c σ = some (ps, r, N, O)) (ho : Obs ps) (he : Obs (adoptV (js.map (·.1)) r r'))
    (hj : js.all (fun j => !N.contains j.1) = true) (hO : O ++ js.map (fun j => (j.1, .cells j.2 [])) = Oo) (hQ : ∀ σ', RetG tab vs r' Oo .normal σ' → Q .normal σ') : WP P false n c Q σ := by
  unfold evalGn at h
  split at h
  · rename_i ps1 σ1 h1
    split at h
    · rename_i ps2 σ2 h2
      split at h
      · rename_i qs r1 h3
        cases h
        rw [Obs_append, Obs_append] at ho
        refine WP.weak (Q' := fun e' σ' => e' = .normal ∧ σ' = σ1) (evalC_sound htab hm c σ σ1 ps1 .normal _ h1 ho.1 ⟨rfl, rfl⟩) fun e' σ' hh => ?_
        obtain ⟨rfl, rfl⟩ := hh
        exact ⟨ks, ps2, σ2, h2, ho.2.1, hQ σ2 ⟨js, keys, qs, r, h3, ho.2.2, he, hj, hO⟩⟩
      · cases h
    · cases h
  · cases h

/-- New objects that nobody writes are trees. -/
theorem CG.toC {P : Program} {f : FuncId} {args : List T} {r : V} {Oo : List (Nat × Obj)} {ps : List Prop} {t : T} (h : CG P f (args.map V.t) [] r Oo) (hs : snapV (lk Oo) r = some (ps, t)) (ho : Obs ps) : C P f args t := by
  intro ok w vs hok hg hl
  obtain ⟨c1, c2⟩ := h ok w (fun _ => none) vs hok hg (fun i x hx => by cases hx) (fun i o ho => by simp [lk] at ho) (fun i j x x' hx => by cases hx) (VVL.map_t hl)
  refine .inl ⟨c1, Calls.mono c2 fun e w' he => ?_⟩
  obtain ⟨v, β', rfl, os, tape, output, size, same, keep, news, objs, apart, hv⟩ := he
  refine ⟨v, rfl, os, tape, output, size, fun b hb => same b hb (fun i x hx => by cases hx), ?_⟩
  have hlast : Lasts w' (Imm ⟨ok, w, fun b => ∃ (i : Nat) (x : Nat × Nat), (none : Option (Nat × Nat)) = some x ∧ x.1 = b, fun _ => False, fun _ => none⟩ (lk Oo) β' w') w' (fun b => ok b ∨ (w.heap.size ≤ b ∧ b < w'.heap.size)) := ⟨fun b hb => hb.1.elim .inl fun h => h.elim (fun h1 => .inr ⟨h1, hb.2.1⟩) fun ⟨_, _, h1, _⟩ => (nomatch h1), fun _ _ => rfl⟩
  refine snapV_reads hlast (fun i ob cs b z h1 h2 h3 => ?_) r v ps t hs ho hv
  rcases objs i ob h1 with ⟨b', z', g1, g2, g3, g4⟩ | ⟨g1, _⟩
  · rw [h3] at g1; cases g1
    obtain ⟨us, q1, q2, q3⟩ := Obj.trees_reads h2 g4
    refine ⟨?_, us, VL.lasts hlast _ _ q1, q2, q3⟩
    rcases g3 with g3 | ⟨j, z', g3⟩
    · exact .inr ⟨g3, g2⟩
    · cases g3
  · rw [h3] at g1; cases g1
/-- A slice is the nil one, or none such. -/
theorem list_split {w : World} {ok : Nat → Prop} {n sz : Nat} {cs : List T} {v : Value} (h : VR w ok (.list n sz cs) v) : (VR w ok .zlist v ∧ n = 0 ∧ cs = []) ∨ VR w ok (.rows n sz cs) v := by
  simp only [VR] at h ⊢
  obtain ⟨hl, A, cap, rfl, h1, h2, h3⟩ := h
  cases A with
  | none =>
    rcases h3 with h3 | ⟨b, o, h3, _⟩
    · subst h3
      exact .inl ⟨⟨cap, rfl⟩, rfl, List.eq_nil_of_length_eq_zero (by simpa using hl)⟩
    · cases h3
  | some ad =>
    refine .inr ⟨hl, ad, cap, rfl, h1, h2, ?_⟩
    rcases h3 with h3 | ⟨b, o, h3, hb, hc⟩
    · exact .inl h3
    · exact .inr ⟨b, o, Option.some.inj h3, hb, hc⟩
/-- A function of one slice: of the nil one, and of those that are none. -/
theorem CG.split {P : Program} {f : FuncId} {n sz : Nat} {cs : List T} {r : V} {Oo : List (Nat × Obj)} (h1 : n = 0 → cs = [] → CG P f [.t .zlist] [] r Oo) (h2 : CG P f [.t (.rows n sz cs)] [] r Oo) : CG P f [.t (.list n sz cs)] [] r Oo := by
  intro ok w β vs hok hg hβ hO hap hl
  simp only [VVL, VV] at hl
  obtain ⟨u, us, e, hu, rfl⟩ := hl
  rcases list_split hu with ⟨hz, hn, hc⟩ | hr
  · exact h1 hn hc ok w β vs hok hg hβ hO hap (by simp only [VVL, VV]; exact ⟨u, [], e, hz, rfl⟩)
  · exact h2 ok w β vs hok hg hβ hO hap (by simp only [VVL, VV]; exact ⟨u, [], e, hr, rfl⟩)
end Go.Tl
end
section
namespace Go.Tl
set_option linter.unusedVariables false
set_option linter.unusedSimpArgs false

open Classical in
/-- The rest, if p holds. -/
noncomputable def chk {α : Type} (p : Prop) (x : Option α) : Option α := if p then x else none
theorem chk_some {α : Type} {p : Prop} {x : Option α} {r : α} (h : chk p x = some r) : p ∧ x = some r := by
  unfold chk at h; split at h
  · exact ⟨by assumption, h⟩
  · cases h
theorem chk_pos {α : Type} {p : Prop} {x : Option α} (hp : p) : chk p x = x := by unfold chk; rw [if_pos hp]
theorem ite_some {α : Type} {c : Bool} {x y : Option α} {r : α} (h : (bif c then x else y) = some r) : (c = true ∧ x = some r) ∨ (c = false ∧ y = some r) := by
  cases c
  · exact .inr ⟨rfl, h⟩
  · exact .inl ⟨rfl, h⟩
def bnd1 {α γ : Type} (x : Option α) (f : α → Option γ) : Option γ := x.bind f
def bnd2 {α β γ : Type} (x : Option (α × β)) (f : α → β → Option γ) : Option γ := x.bind fun r => f r.1 r.2
def bnd3 {α β δ γ : Type} (x : Option (α × β × δ)) (f : α → β → δ → Option γ) : Option γ := x.bind fun r => f r.1 r.2.1 r.2.2
def bnd4 {α β δ ε γ : Type} (x : Option (α × β × δ × ε)) (f : α → β → δ → ε → Option γ) : Option γ := x.bind fun r => f r.1 r.2.1 r.2.2.1 r.2.2.2
section
variable {α β δ ε ζ η θ ι κ γ : Type} {r : γ}
theorem bnd1_some {x : Option α} {f : α → Option γ} (h : bnd1 x f = some r) : ∃ a, x = some a ∧ f a = some r := by
  unfold bnd1 at h; cases x with
  | none => cases h
  | some a => exact ⟨a, rfl, h⟩
theorem bnd2_some {x : Option (α × β)} {f : α → β → Option γ} (h : bnd2 x f = some r) : ∃ a b, x = some (a, b) ∧ f a b = some r := by
  obtain ⟨y, h1, h2⟩ := bnd1_some h; exact ⟨_, _, h1, h2⟩
theorem bnd3_some {x : Option (α × β × δ)} {f : α → β → δ → Option γ} (h : bnd3 x f = some r) : ∃ a b c, x = some (a, b, c) ∧ f a b c = some r := by
  obtain ⟨y, h1, h2⟩ := bnd1_some h; exact ⟨_, _, _, h1, h2⟩
theorem bnd4_some {x : Option (α × β × δ × ε)} {f : α → β → δ → ε → Option γ} (h : bnd4 x f = some r) : ∃ a b c d, x = some (a, b, c, d) ∧ f a b c d = some r := by
  obtain ⟨y, h1, h2⟩ := bnd1_some h; exact ⟨_, _, _, _, h1, h2⟩
end
section
variable {α β δ ε ζ η θ ι κ γ : Type}
theorem bnd1_eq {x : Option α} {a : α} (h : x = some a) (f : α → Option γ) : bnd1 x f = f a := by rw [h]; rfl
theorem bnd2_eq {x : Option (α × β)} {a : α} {b : β} (h : x = some (a, b)) (f : α → β → Option γ) : bnd2 x f = f a b := by rw [h]; rfl
theorem bnd3_eq {x : Option (α × β × δ)} {a : α} {b : β} {c : δ} (h : x = some (a, b, c)) (f : α → β → δ → Option γ) : bnd3 x f = f a b c := by rw [h]; rfl
theorem bnd4_eq {x : Option (α × β × δ × ε)} {a : α} {b : β} {c : δ} {d : ε} (h : x = some (a, b, c, d)) (f : α → β → δ → ε → Option γ) : bnd4 x f = f a b c d := by rw [h]; rfl
end
/-- How lists of trees are told alike. -/
theorem tlS : (∀ (α β : Type) (f : α → β) (a b : List α), List.map f (a ++ b) = List.map f a ++ List.map f b) ∧ (∀ (α β : Type) (f : α → β) (a : α) (b : List α), List.map f (a :: b) = f a :: List.map f b) ∧ (∀ (α β : Type) (f : α → β), List.map f [] = []) ∧
    (∀ (α β : Type) (f : α → β) (n : Nat) (a : List α), List.map f (List.take n a) = List.take n (List.map f a)) ∧ (∀ (α β : Type) (f : α → β) (n : Nat) (a : List α), List.map f (List.drop n a) = List.drop n (List.map f a)) ∧
    (∀ (α β : Type) (f : α → β) (n : Nat) (x : α) (a : List α), List.map f (List.set a n x) = List.set (List.map f a) n (f x)) ∧ (∀ (α β : Type) (f : α → β) (n : Nat) (x : α), List.map f (List.replicate n x) = List.replicate n (f x)) ∧
    (∀ (α : Type) (a b : List α), List.length (a ++ b) = List.length a + List.length b) ∧ (∀ (α : Type) (a : α) (b : List α), List.length (a :: b) = List.length b + 1) ∧ (∀ (α : Type), List.length ([] : List α) = 0) ∧ (∀ (α : Type) (n : Nat) (x : α) (a : List α), List.length (List.set a n x) = List.length a) ∧
    (∀ (α : Type) (n : Nat) (x : α), List.length (List.replicate n x) = n) ∧ (∀ (α β : Type) (f : α → β) (a : List α), List.length (List.map f a) = List.length a) ∧ (∀ (α : Type) (a : List α), [] ++ a = a) ∧ (∀ (α : Type) (a : List α), a ++ [] = a) ∧ (∀ (n : Nat), n * 1 = n) ∧ (∀ (n : Nat), 0 + n = n) ∧ (∀ (n : Nat), n + 0 = n) ∧ (∀ n : Nat, n - 0 = n) ∧
    (∀ (α β : Type) (f : α → List β) (a b : List α), List.flatMap f (a ++ b) = List.flatMap f a ++ List.flatMap f b) ∧ (∀ (α β : Type) (f : α → List β) (a : α) (b : List α), List.flatMap f (a :: b) = f a ++ List.flatMap f b) ∧ (∀ (α β : Type) (f : α → List β), List.flatMap f [] = []) ∧ (∀ (α : Type) (a : List α), List.drop 0 a = a) ∧
    (∀ (α : Type) (a : α) (b c : List α), (a :: b) ++ c = a :: (b ++ c)) ∧ (∀ (α : Type) (a b c : List α), (a ++ b) ++ c = a ++ (b ++ c)) ∧ (∀ (α β : Type) (f : α → List β) (n : Nat) (x : α), List.flatMap f (List.replicate n x) = List.flatten (List.replicate n (f x))) := by
  refine ⟨?_, ?_, ?_, ?_, ?_, ?_, ?_, ?_, ?_, ?_, ?_, ?_, ?_, ?_, ?_, ?_, ?_, ?_, ?_, ?_, ?_, ?_, ?_, ?_, ?_, ?_⟩ <;> intros <;> first | (simp; done) | rw [List.flatMap, List.map_replicate]
/-! ### elements of several cells -/
section
variable {α : Type} {f : α → List T} {c : Nat}
theorem lenF (hf : ∀ p, (f p).length = c) (xs : List α) : (List.flatMap f xs).length = xs.length * c := by
  induction xs with
  | nil => simp
  | cons x xs ih => rw [List.flatMap_cons, List.length_append, ih, hf, List.length_cons, Nat.succ_mul, Nat.add_comm]
theorem dropF (hf : ∀ p, (f p).length = c) : ∀ (xs : List α) (i : Nat), List.drop (i * c) (List.flatMap f xs) = List.flatMap f (List.drop i xs)
  | xs, 0 => by simp
  | [], i + 1 => by simp
  | x :: xs, i + 1 => by
    rw [List.flatMap_cons, List.drop_succ_cons, ← dropF hf xs i, Nat.succ_mul, Nat.add_comm, ← List.drop_drop, ← hf x, List.drop_left']
    rfl
theorem takeF (hf : ∀ p, (f p).length = c) : ∀ (xs : List α) (i : Nat), List.take (i * c) (List.flatMap f xs) = List.flatMap f (List.take i xs)
  | xs, 0 => by simp
  | [], i + 1 => by simp
  | x :: xs, i + 1 => by
    rw [List.flatMap_cons, List.take_succ_cons, List.flatMap_cons, ← takeF hf xs i, Nat.succ_mul, Nat.add_comm, List.take_append, hf x, List.take_of_length_le (by rw [hf]; omega)]
    congr 2
    omega
/-- A cell of an element is written. -/
theorem setF (hf : ∀ p, (f p).length = c) {k : Nat} (hk : k < c) {x : T} {d : α} : ∀ {xs : List α} {j i : Nat} {y : α} (hj : j = i * c + k) (hy : (f (List.getD xs i d)).set k x = f y), (List.flatMap f xs).set j x = List.flatMap f (List.set xs i y)
  | [], j, i, y, hj, hy => by simp
  | a :: xs, j, 0, y, hj, hy => by
    have hj' : j = k := by omega
    subst hj'
    rw [List.flatMap_cons, List.set_append_left _ _ (by rw [hf]; exact hk), List.set_cons_zero, List.flatMap_cons]
    congr 1
  | a :: xs, j, i + 1, y, hj, hy => by
    have hj' : j = c + (i * c + k) := by rw [hj, Nat.succ_mul]; omega
    rw [List.flatMap_cons, List.set_append_right _ _ (by rw [hf]; omega), List.set_cons_succ, List.flatMap_cons, hf, hj', Nat.add_sub_cancel_left]
    congr 1
    exact setF hf hk rfl (by simpa using hy)
/-- An element is written whole. -/
theorem putF (hf : ∀ p, (f p).length = c) : ∀ {xs : List α} {j m i : Nat} {y : α} (hj : j = i * c) (hm : m = j + c) (hi : i < xs.length), List.take j (List.flatMap f xs) ++ (f y ++ List.drop m (List.flatMap f xs)) = List.flatMap f (List.set xs i y)
  | a :: xs, j, m, 0, y, hj, hm, hi => by
    have hj' : j = 0 := by omega
    subst hj'
    have hm' : m = (f a).length := by rw [hf]; omega
    rw [hm', List.take_zero, List.nil_append, List.flatMap_cons, List.set_cons_zero, List.flatMap_cons, List.drop_left']
    rfl
  | a :: xs, j, m, i + 1, y, hj, hm, hi => by
    have hj' : j = (f a).length + i * c := by rw [hj, Nat.succ_mul, hf]; omega
    have hm' : m = (f a).length + (i * c + c) := by rw [hm, hj']; omega
    rw [hj', hm', List.flatMap_cons, List.set_cons_succ, List.flatMap_cons, List.take_length_add_append, List.drop_length_add_append, List.append_assoc]
    congr 1
    exact putF hf rfl rfl (by simpa using hi)
end
def pairC (x : Int × Int) : List T := [T.int .i64 x.1, T.int .i64 x.2]
theorem len_pair (xs : List (Int × Int)) : (List.flatMap pairC xs).length = xs.length * 2 := lenF (f := pairC) (fun _ => rfl) xs
theorem flats_pair (xs : List (Int × Int)) : T.flats (List.flatMap pairC xs) = true := by induction xs <;> simp_all [T.flats, T.flat, pairC]
def recsC (x : ByteArray × ByteArray) : List T := [T.str x.1, T.str x.2]
theorem len_recs (xs : List (ByteArray × ByteArray)) : (List.flatMap recsC xs).length = xs.length * 2 := lenF (f := recsC) (fun _ => rfl) xs
theorem flats_recs (xs : List (ByteArray × ByteArray)) : T.flats (List.flatMap recsC xs) = true := by induction xs <;> simp_all [T.flats, T.flat, recsC]
def factC (x : Bool × Bool × Int × Int × Int) : List T := [T.bool x.1, T.bool x.2.1, T.int .i64 x.2.2.1, T.int .i64 x.2.2.2.1, T.int .i64 x.2.2.2.2]
theorem len_fact (xs : List (Bool × Bool × Int × Int × Int)) : (List.flatMap factC xs).length = xs.length * 5 := lenF (f := factC) (fun _ => rfl) xs
theorem flats_fact (xs : List (Bool × Bool × Int × Int × Int)) : T.flats (List.flatMap factC xs) = true := by induction xs <;> simp_all [T.flats, T.flat, factC]
/-- Slices of lists. -/
theorem sl1 {α : Type} {f : α → T} {xs : List α} {l h : Int} {a b c : Nat} (e : 0 ≤ l ∧ l ≤ h ∧ h ≤ ((List.length xs : Nat) : Int)) (ha : a = h.toNat - l.toNat) (hb : b = a) (hc : c = l.toNat) :
    T.list a 1 (List.take b (List.drop c (List.map f xs))) = T.list (List.length (List.take (h.toNat - l.toNat) (List.drop l.toNat xs))) 1 (List.map f (List.take (h.toNat - l.toNat) (List.drop l.toNat xs))) := by
  subst ha hb hc
  rw [List.map_take, List.map_drop, List.length_take, List.length_drop, Nat.min_eq_left (by omega)]
theorem slF {α : Type} {f : α → List T} {k : Nat} (hf : ∀ p, (f p).length = k) {xs : List α} {l h : Int} {a b c : Nat} (e : 0 ≤ l ∧ l ≤ h ∧ h ≤ ((List.length xs : Nat) : Int)) (ha : a = h.toNat - l.toNat) (hb : b = a * k) (hc : c = l.toNat * k) :
    T.list a k (List.take b (List.drop c (List.flatMap f xs))) = T.list (List.length (List.take (h.toNat - l.toNat) (List.drop l.toNat xs))) k (List.flatMap f (List.take (h.toNat - l.toNat) (List.drop l.toNat xs))) := by
  subst ha hb hc
  rw [dropF hf, takeF hf, List.length_take, List.length_drop, Nat.min_eq_left (by omega)]
theorem sl1z {α : Type} {f : α → T} {xs : List α} {l h : Int} {a b : Nat} (e : 0 ≤ l ∧ l ≤ h ∧ h ≤ ((List.length xs : Nat) : Int)) (ha : a = h.toNat - l.toNat) (hb : b = a) (hc : 0 = l.toNat) :
    T.list a 1 (List.take b (List.map f xs)) = T.list (List.length (List.take (h.toNat - l.toNat) (List.drop l.toNat xs))) 1 (List.map f (List.take (h.toNat - l.toNat) (List.drop l.toNat xs))) := by
  rw [← sl1 e ha hb hc, List.drop_zero]
/-- Lengths. -/
theorem tlL : (∀ s : ByteArray, List.length (bints s) = ByteArray.size s) ∧ (∀ (α β : Type) (f : α → β) (a : List α), List.length (List.map f a) = List.length a) ∧ (∀ (α : Type) (n : Nat) (x : α) (a : List α), List.length (List.set a n x) = List.length a) ∧ (∀ (α : Type) (a b : List α), List.length (a ++ b) = List.length a + List.length b) ∧
    (∀ (α : Type) (a : α) (b : List α), List.length (a :: b) = List.length b + 1) ∧ (∀ (α : Type), List.length ([] : List α) = 0) ∧ (∀ (α : Type) (n : Nat) (x : α), List.length (List.replicate n x) = n) ∧ (∀ (n : Nat), n * 1 = n) ∧
    (∀ xs : List Nd, List.length (List.flatMap nodeC xs) = List.length xs * 3) ∧ (∀ xs : List (Int × Bool), List.length (List.flatMap askedC xs) = List.length xs * 2) ∧ (∀ xs : List (Int × Int), List.length (List.flatMap pairC xs) = List.length xs * 2) ∧ (∀ xs : List (ByteArray × ByteArray), List.length (List.flatMap recsC xs) = List.length xs * 2) ∧ (∀ xs : List (Bool × Bool × Int × Int × Int), List.length (List.flatMap factC xs) = List.length xs * 5) := by
  refine ⟨len_bints, ?_, ?_, ?_, ?_, ?_, ?_, ?_, len_node, len_asked, len_pair, len_recs, len_fact⟩ <;> intros <;> simp
/-! ### short names of what is read most -/
abbrev ti (n : Int) : T := .int .i64 n
abbrev tb (b : Bool) : T := .bool b
abbrev tl (xs : List Int) : T := .list xs.length 1 (xs.map (T.int .i64))
abbrev ty (xs : List Int) : T := .list xs.length 1 (xs.map (T.int .u8))
abbrev tbl (xs : List Bool) : T := .list xs.length 1 (xs.map T.bool)
abbrev vi (n : Int) : V := .t (.int .i64 n)
abbrev vb (b : Bool) : V := .t (.bool b)
abbrev vl (xs : List Int) : V := .t (tl xs)
abbrev vy (xs : List Int) : V := .t (ty xs)
abbrev vbl (xs : List Bool) : V := .t (tbl xs)
abbrev oc (t : TypeId) (cs : List T) : Obj := .cells t cs
abbrev ov (t : TypeId) (vs : List V) : Obj := .vars t vs
abbrev vo (i n : Nat) : V := .own i 1 n
/-! ### branches of trees -/
inductive Br
  | nil
  | nd (q : Int) (y n : Br)
def brT : Br → T
  | .nil => .nilp
  | .nd q y n => .ptr [T.int .i64 q, brT y, brT n]
def brM {δ : Type} (x : Br) (a : Option δ) (f : Int → Br → Br → Option δ) : Option δ :=
  match x with
  | .nil => a
  | .nd q y n => f q y n
theorem brM_some {δ : Type} {x : Br} {a : Option δ} {f : Int → Br → Br → Option δ} {r : δ} (h : brM x a f = some r) : (x = .nil ∧ a = some r) ∨ ∃ q y n, x = .nd q y n ∧ f q y n = some r := by
  cases x with
  | nil => exact .inl ⟨rfl, h⟩
  | nd q y n => exact .inr ⟨q, y, n, rfl, h⟩
/-! ### maps -/
/-- The values of a map, told. -/
abbrev mpB (l : List (Int × Bool)) : List (T × T) := l.map fun e => (T.int .i64 e.1, T.bool e.2)
abbrev mpI (l : List (Int × Int)) : List (T × T) := l.map fun e => (T.int .i64 e.1, T.int .i64 e.2)
abbrev mp3 (l : List (Int × Int × Int × Int)) : List (T × T) := l.map fun e => (T.int .i64 e.1, T.agg [T.int .i64 e.2.1, T.int .i64 e.2.2.1, T.int .i64 e.2.2.2])
theorem flatEs_map {β : Type} {f : β → T × T} (hf : ∀ e, (f e).1.flat = true ∧ (f e).2.flat = true) (l : List β) : flatEs (l.map f) = true := by
  induction l with
  | nil => rfl
  | cons e r ih => simp only [List.map_cons, flatEs, (hf e).1, (hf e).2, ih, Bool.and_self]
theorem flatEs_mpB (l : List (Int × Bool)) : flatEs (mpB l) = true := flatEs_map (fun _ => ⟨rfl, rfl⟩) l
theorem flatEs_mpI (l : List (Int × Int)) : flatEs (mpI l) = true := flatEs_map (fun _ => ⟨rfl, rfl⟩) l
theorem flatEs_mp3 (l : List (Int × Int × Int × Int)) : flatEs (mp3 l) = true := flatEs_map (fun _ => ⟨rfl, rfl⟩) l
/-- A value named. -/
def nam {α γ : Type} (e : α) (f : α → Option γ) : Option γ := f e
theorem nam_some {α γ : Type} {e : α} {f : α → Option γ} {r : γ} (h : nam e f = some r) : ∃ v, e = v ∧ f v = some r := ⟨e, rfl, h⟩
/-- Where branches meet: what follows is f, the branches are g. -/
def jn {γ δ : Type} (f : γ) (g : γ → Option δ) : Option δ := g f
theorem jn_some {γ δ : Type} {f : γ} {g : γ → Option δ} {r : δ} (h : jn f g = some r) : ∃ J, J = f ∧ g J = some r := ⟨f, rfl, h⟩
/-- Rounds enough for any loop here. -/
theorem fuel_ex : ∃ n : Nat, 1099511627776 ≤ n := ⟨_, Nat.le_refl _⟩
noncomputable def fuel : Nat := Classical.choose fuel_ex
theorem fuel_ge : 1099511627776 ≤ fuel := Classical.choose_spec fuel_ex
def I64 (n : Int) : Prop := -9223372036854775808 ≤ n ∧ n ≤ 9223372036854775807
theorem wrapI {n : Int} (h : I64 n) : T.int .i64 (IntKind.wrap .i64 n) = T.int .i64 n := wrapT_i64 h.1 h.2
theorem okY_wf {bs : List Int} (h : ∀ n ∈ bs, (Lit.int .u8 n).wf = true) : okY bs := by
  intro i
  by_cases hi : i < bs.length
  · have := h (bs.getD i 0) (by rw [List.getD_eq_getElem?_getD, List.getElem?_eq_getElem hi]; exact List.getElem_mem hi)
    simp only [Lit.wf, Bool.and_eq_true, decide_eq_true_eq] at this
    have e1 : IntKind.u8.min = 0 := by decide
    have e2 : IntKind.u8.max = 255 := by decide
    rw [e1, e2] at this
    exact this
  · rw [List.getD_eq_getElem?_getD, List.getElem?_eq_none (by omega)]; simp
/-- Shifts. -/
theorem shl_told {a b : Int} (h0 : 0 ≤ b ∧ b < 64 ∧ I64 (a * 2 ^ b.toNat)) : T.int .i64 (IntKind.wrap .i64 (a * 2 ^ (min (Int.toNat b) 64))) = T.int .i64 (a * 2 ^ b.toNat) := by
  rw [Nat.min_eq_left (by omega)]; exact wrapI h0.2.2
theorem shr_told {k : IntKind} {a b : Int} (h0 : 0 ≤ b ∧ b < 64) : T.int k (Int.fdiv a (2 ^ (min (Int.toNat b) 64))) = T.int k (a / 2 ^ b.toNat) := by
  rw [Nat.min_eq_left (by omega), Int.fdiv_eq_ediv_of_nonneg _ (by exact Int.le_of_lt (Int.pow_pos (by decide)))]
theorem quo_told {a b : Int} (h : I64 (Int.tdiv a b)) : T.int .i64 (IntKind.wrap .i64 (Int.tdiv a b)) = T.int .i64 (Int.tdiv a b) := wrapI h
section
variable {P : Program} {cl : Bool} {n : Nat} {Q : Post}
theorem WP.joinA {α : Type} {x y : Code} {σ : St} (mk : α → St) (K : α → Prop) (h1 : WP P cl n x (thenQ (fun σ' => ∃ a, K a ∧ σ' = mk a) Q) σ) (h2 : ∀ a, K a → WP P cl n y Q (mk a)) : WP P cl n (.seq x y) Q σ :=
  WP.seq (WP.mono h1 fun e σ' h => by
    cases e with
    | normal => obtain ⟨a, k1, rfl⟩ := h; exact h2 a k1
    | _ => exact h)
theorem WP.st {c : Code} {σ σ' : St} (e : σ = σ') (h : WP P cl n c Q σ') : WP P cl n c Q σ := e ▸ h
end
end Go.Tl
end
section
namespace Go.Tl
set_option linter.unusedVariables false
end Go.Tl
end
section
namespace Go.Tl
set_option linter.unusedVariables false
set_option linter.unusedSimpArgs false
inductive ABr
  | nil
  | nd (b : Nat) (q : Int) (y n : ABr)
def brA : ABr → T
  | .nil => .nilp
  | .nd b q y n => .pa b [T.int .i64 q, brA y, brA n]
def eraseA : ABr → Br
  | .nil => .nil
  | .nd _ q y n => .nd q (eraseA y) (eraseA n)
def blocksA : ABr → List Nat
  | .nil => []
  | .nd b _ y n => b :: (blocksA y ++ blocksA n)
/-- Blocks of their own, none below lo. -/
def GoodA (lo : Nat) (x : ABr) : Prop := (blocksA x).Nodup ∧ ∀ b ∈ blocksA x, lo ≤ b
section
variable {w : World} {ok : Nat → Prop}
theorem brA_ok : ∀ (x : ABr) (v : Value), VR w ok (brA x) v → ∀ b ∈ blocksA x, ok b
  | .nil, v, h, b, hb => by simp [blocksA] at hb
  | .nd c q y n, v, h, b, hb => by
    simp only [brA, VR] at h
    obtain ⟨_, hok, _, hva⟩ := h
    simp only [VA] at hva
    obtain ⟨_, ⟨u, _, _, hu⟩, ⟨u', _, _, hu'⟩, _⟩ := hva
    simp only [blocksA, List.mem_cons, List.mem_append] at hb
    rcases hb with rfl | hb | hb
    · exact hok
    · exact brA_ok y u hu b hb
    · exact brA_ok n u' hu' b hb
theorem brA_T : ∀ (x : ABr) (v : Value), VR w ok (brA x) v → VR w ok (brT (eraseA x)) v
  | .nil, v, h => h
  | .nd c q y n, v, h => by
    simp only [brA, VR] at h
    obtain ⟨rfl, hok, _, hva⟩ := h
    simp only [VA] at hva
    obtain ⟨h0, ⟨u, c1, o1, hu⟩, ⟨u', c2, o2, hu'⟩, _⟩ := hva
    simp only [eraseA, brT, VR, VA]
    exact ⟨c, 0, rfl, hok, h0, ⟨u, c1, o1, brA_T y u hu⟩, ⟨u', c2, o2, brA_T n u' hu'⟩, trivial⟩
end
/-- A contract whose result is one of several: told once the call has come back. k: the heap's size where it began. -/
def CE {α : Type} (P : Program) (f : FuncId) (args : List T) (r : α → T) (Φ : Nat → α → Prop) : Prop :=
  ∀ (ok : Nat → Prop) (w : World) (vs : Array Value), (∀ b, ok b → b < w.heap.size) → Glob ok w → VL w ok args vs.toList →
    (callFunc f vs).run P w = .ok (.enter f vs) w ∧ Calls P f vs w fun e w' => ∃ v y, e = .returned v ∧ w'.os = w.os ∧ w'.tape = w.tape ∧ w'.output = w.output ∧ w.heap.size ≤ w'.heap.size ∧
      (∀ b, b < w.heap.size → w'.heap[b]? = w.heap[b]?) ∧ VR w' (fun b => ok b ∨ (w.heap.size ≤ b ∧ b < w'.heap.size)) (r y) v ∧ Φ w.heap.size y
/-- WP where the heap began with lo blocks. -/
def WPk (lo : Nat) (P : Program) (cl : Bool) (n : Nat) (c : Code) (Q : Post) (σ : St) : Prop :=
  ∀ (E : Env) (a : Act) (w : World), lo = E.w0.heap.size → (cl = true → ∀ b, ¬ E.X b) → Rel E σ a w → a.tmps.size = n → c.wp P (Sat E n Q) a w
section
variable {α : Type} {lo : Nat} {P : Program} {cl : Bool} {n : Nat} {Q : Post} {σ σ' : St} {tab : Tab}
theorem WPk.of {c : Code} (h : WP P cl n c Q σ) : WPk lo P cl n c Q σ := fun E a w _ hX hr hn => h E a w hX hr hn
theorem WPk.seq {x y : Code} (h : WPk lo P cl n x (thenQ (WPk lo P cl n y Q) Q) σ) : WPk lo P cl n (.seq x y) Q σ := fun E a w hlo hX hr hn => by
  refine wp_seq (wp_mono (h E a w hlo hX hr hn) fun e a' w' hq => ?_)
  obtain ⟨σ', k1, k2, k3⟩ := hq
  cases e with
  | normal => exact k3 E a' w' hlo hX k1 k2
  | _ => exact ⟨σ', k1, k2, k3⟩
theorem WPk.cond {c : Operand} {x y : Code} {b : Bool} (hc : ev (lk σ.S) c = some (.t (.bool b))) (ht : b = true → WPk lo P cl n x Q σ) (hf : b = false → WPk lo P cl n y Q σ) : WPk lo P cl n (.cond c x y) Q σ := fun E a w hlo hX hr hn => by
  obtain ⟨β, hR⟩ := hr
  have := hR.ev hc
  simp only [VV, VR] at this
  exact wp_cond_split this (fun e => ht e E a w hlo hX ⟨β, hR⟩ hn) (fun e => hf e E a w hlo hX ⟨β, hR⟩ hn)
theorem WPk.joinA {x y : Code} (mk : α → St) (K : α → Prop) (h1 : WPk lo P cl n x (thenQ (fun σ' => ∃ a, K a ∧ σ' = mk a) Q) σ) (h2 : ∀ a, K a → WPk lo P cl n y Q (mk a)) : WPk lo P cl n (.seq x y) Q σ :=
  WPk.seq fun E a w hlo hX hr hn => wp_mono (h1 E a w hlo hX hr hn) fun e a' w' ⟨σ', k1, k2, k3⟩ => by
    cases e with
    | normal => obtain ⟨z, q1, rfl⟩ := k3; exact ⟨_, k1, k2, h2 z q1⟩
    | _ => exact ⟨σ', k1, k2, k3⟩
theorem WPk.path (htab : chkTab P tab = true) (hm : P.follows .mixedOrders = true) (ans : List (Nat × An)) (ks : List Wk) {c : Code} {ps : List Prop} {e : Exit} (h : evalK P tab cl n ans ks c σ = some (ps, e, σ')) (ho : Obs ps) (hQ : Q e σ') : WPk lo P cl n c Q σ :=
  .of (WP.path htab hm ans ks h ho hQ)
end
section
variable {α : Type} {P : Program} {E : Env} {β : Names} {N : List Nat} {S : Nat → Option V} {O : Nat → Option Obj} {a : Act} {w : World}
theorem R.callE (h : R E β N S O a w) {f : FuncId} {vf : Value} (hf : VR w (Imm E O β w) (.fn f [] []) vf) {ts : List T} {vs : List Value} (hvs : VL w (Imm E O β w) ts vs)
    {r : α → T} {Φ : Nat → α → Prop} (hC : CE P f ts r Φ) {dst : Option Nat} {Q : Exit → Act → World → Prop} {K : Act → World → Prop}
    (hK : ∀ y v w', Φ w.heap.size y → R E β N S O a w' → VR w' (Imm E O β w') (r y) v → K (a.put dst v) w') {o : Oper} (hdst : o.dst = dst) {d : Deferred}
    (hd : (Deferred.ofValue vf vs.toArray).run P w = .ok d w)
    (hrun : (execOp a.eval o).run P w = (invoke d.target d.args).run P w) : o.wp P a w K Q := by
  subst hdst
  simp only [VR] at hf
  obtain ⟨pv, cv, rfl, hpv, hcv⟩ := hf
  simp only [Deferred.ofValue, Sem.run_pure, Result.ok.injEq, and_true] at hd
  subst hd
  simp only [invoke] at hrun
  simp only [VL] at hpv hcv
  have hargs : ((pv ++ vs.toArray) ++ cv : Array Value).toList = vs := by simp [hpv, hcv]
  unfold Oper.wp
  rw [hrun]
  obtain ⟨h1, h2⟩ := hC (Imm E O β w) w (pv ++ vs.toArray ++ cv) (fun b hb => hb.2.1) h.globI (by rw [hargs]; exact hvs)
  rw [h1]
  refine Calls.mono h2 fun e w' he => ?_
  obtain ⟨v, y, rfl, os, tape, output, size, same, hv, hΦ⟩ := he
  obtain ⟨k1, k2, k3⟩ := h.called os tape output size same
  refine hK y v w' hΦ k1 (VR.lasts ⟨fun b hb => ?_, fun _ _ => rfl⟩ _ _ hv)
  rcases hb with hb | ⟨hb1, hb2⟩
  · exact k2.lets b hb
  · exact k3 b hb1 hb2
end
section
variable {α : Type} {P : Program} {E : Env} {tab : Tab} {n : Nat} {cl : Bool}
theorem runOps_pre (htab : chkTab P tab = true) {ans : List (Nat × An)} {ops : Array Oper} {Q : Exit → Act → World → Prop} (rest : List Oper) : ∀ (r : List Oper) (i : Nat) (σ σ' : St) (ps : List Prop) (a : Act) (w : World),
    ops.toList.drop i = r ++ rest → runOps P tab n ans ops.toList r σ = some (ps, σ') → Obs ps → Rel E σ a w → a.tmps.size = n → (∀ a' w', Rel E σ' a' w' → a'.tmps.size = n → wpOps P ops Q (List.range' (i + r.length) rest.length) a' w') → wpOps P ops Q (List.range' i (r.length + rest.length)) a w
  | [], i, σ, σ', ps, a, w, _, hr, _, h, hn, hQ => by
    simp only [runOps, Option.some.injEq, Prod.mk.injEq] at hr
    obtain ⟨_, rfl⟩ := hr
    simpa using hQ a w h hn
  | o :: r, i, σ, σ', ps, a, w, hd, hr, ho, h, hn, hQ => by
    have hi : ops[i]? = some o := by
      have := congrArg (·[0]?) hd
      simpa [List.getElem?_drop] using this
    simp only [runOps] at hr
    cases hout : out1 P tab (anOf ans o) ops.toList (lk σ.S) (lk σ.O) o with
    | none => simp [hout] at hr
    | some rs =>
      simp only [hout] at hr
      split at hr
      · cases hr
      · rename_i hc
        simp only [Bool.or_eq_true, List.any_eq_true, Bool.not_eq_true', not_or, not_exists, Bool.not_eq_false] at hc
        obtain ⟨hnw, hdd⟩ := hc
        split at hr
        · rename_i qs σ2 hrest
          cases hr
          rw [Obs_append] at ho
          obtain ⟨β, h⟩ := h
          rw [List.length_cons, show r.length + 1 + rest.length = (r.length + rest.length) + 1 by omega, List.range'_succ, wpOps_cons]
          refine out1_sound htab h hn (fun _ _ h => h) (fun _ _ h => h) hi hout ho.1 (fun j hj hN => hnw j ⟨hj, by simpa using hN⟩) hdd (fun β' a' w' k1 k2 => ?_)
          refine runOps_pre htab rest r (i + 1) (σ.put o.dst rs) _ qs a' w' ?_ hrest ho.2 ⟨β', ?_⟩ k2 (fun a'' w'' q1 q2 => ?_)
          · rw [← List.drop_drop, hd]; rfl
          · rw [lk_put]
            show R E β' (rs.new ++ σ.N) _ (lk (effA rs.eff σ.O)) a' w'
            rw [lk_effA]
            exact k1
          · have := hQ a'' w'' q1 q2
            rw [List.length_cons, show i + (r.length + 1) = i + 1 + r.length by omega] at this
            exact this
        · cases hr
/-- A region with one call whose result is told when it has come back. -/
theorem WPk.callE {lo : Nat} (htab : chkTab P tab = true) (ans : List (Nat × An)) (pre post : List Oper) {ops : Array Oper} {id : Nat} {o : Oper} {fo : Operand} {args : Array Operand} {tys : Array TypeId} {d : Nat} {f : FuncId} {ts : List T} {r : α → T} {Φ : Nat → α → Prop} {σ σ1 : St} {ps : List Prop}
    (hops : ops.toList = pre ++ o :: post) (hop : o.op = .call ⟨.value fo, args, tys⟩) (hdst : o.dst = some d) (hguard : o.guard = none) (hdn : d < n)
    (hpre : runOps P tab n ans ops.toList pre σ = some (ps, σ1)) (ho : Obs ps)
    (hf : ev (lk σ1.S) fo = some (.t (.fn f [] []))) (hargs : evs (lk σ1.S) args.toList = some (ts.map V.t))
    (hC : CE P f ts r Φ) {Q : Post}
    (hpost : ∀ y k, lo ≤ k → Φ k y → (∀ t x, lk σ1.S t = some (V.t (brA x)) → ∀ b ∈ blocksA x, b < k) → ∃ ps2 σ2 ks ps3 σ3, runOps P tab n ans ops.toList post (σ1.put (some d) ⟨[], .t (r y), [], []⟩) = some (ps2, σ2) ∧ Obs ps2 ∧ wks cl ks σ2 = some (ps3, σ3) ∧ Obs ps3 ∧ Q .normal σ3) :
    WPk lo P cl n (.region id ops false) Q σ := by
  intro E a w hlo hX hr hn
  refine wp_region ?_
  rw [List.range_eq_range', show ops.size = pre.length + (o :: post).length by rw [← Array.length_toList, hops, List.length_append]]
  refine runOps_pre htab (o :: post) pre 0 σ σ1 ps a w (by simpa using hops) hpre ho hr hn fun a1 w1 k1 k2 => ?_
  obtain ⟨β, k1⟩ := k1
  have hi : ops[0 + pre.length]? = some o := by
    rw [← Array.getElem?_toList, hops]; simp
  rw [List.length_cons, List.range'_succ, wpOps_cons]
  unfold wpOp
  simp only [hi]
  have hwant : Region.wanted o (yielded ops a1.tmps) = true := by simp [Region.wanted, hguard]
  simp only [hwant, if_true]
  left
  have hfv := k1.ev hf
  simp only [VV] at hfv
  have hfv' := hfv
  rw [VR] at hfv'
  obtain ⟨pv, cv, hfe, _, _⟩ := hfv'
  have hav := VVL.of_map_t (k1.evs hargs)
  have harr : args.map a1.eval = (args.toList.map a1.eval).toArray := by apply Array.ext'; rw [Array.toList_map]
  have hd : (Deferred.ofValue (a1.eval fo) (args.toList.map a1.eval).toArray).run P w1 = .ok { target := .fn (.func f) cv, args := pv ++ (args.toList.map a1.eval).toArray } w1 := by rw [hfe]; rfl
  refine k1.callE hfv hav hC (dst := some d) (fun y v w2 hΦ q1 q2 => ?_) hdst hd ?_
  · obtain ⟨ps2, σ2, ks, ps3, σ3, g1, g2, g3, g4, g5⟩ := hpost y w1.heap.size (hlo ▸ k1.size) hΦ (fun t x ht b hb => by
      have := (k1.slots t _ ht).2
      simp only [VV] at this
      exact (brA_ok x _ this b hb).2.1)
    have hR : Rel E (σ1.put (some d) ⟨[], .t (r y), [], []⟩) (a1.put (some d) v) w2 := by
      refine ⟨β, ?_⟩
      rw [lk_put]
      exact q1.put d (by rw [k2]; exact hdn) v (.t (r y)) (by simp only [VV]; exact q2)
    have := runOps_sound (Q := Sat E n Q) htab (ans := ans) (ops := ops) post (0 + pre.length + 1) (σ1.put (some d) ⟨[], .t (r y), [], []⟩) σ2 ps2 (a1.put (some d) v) w2 (by
      rw [hops, Nat.zero_add, ← List.drop_drop, List.drop_left' rfl]; rfl) g1 g2 hR (by rw [size_put]; exact k2) (fun a' w' r1 r2 => ⟨_, r1.wks hX g3 g4, r2, g5⟩)
    exact this
  · obtain ⟨dst, op, ty, pos, after, guard⟩ := o
    simp only at hop
    subst hop
    simp only [execOp, resolve, Sem.run_bind, harr, hd, Result.andThen_ok]
end

/-- What a function of branches comes back with: a tree of trees, or a new branch over two. -/
def RetE (tab : Tab) (vs : List ResultVar) (lo : Nat) (br : Br) (rest : List T) : Post := fun e σ => (e = .ret ∨ e = .normal) ∧
  ((∃ y, retGT tab vs σ = some ([], .t (.tup (brA y :: rest))) ∧ eraseA y = br ∧ GoodA lo y) ∨
   ∃ h e' q y n, retGT tab vs σ = some ([], .tup (.ref h 0 :: rest.map V.t)) ∧ 2000 ≤ h ∧ lk σ.O h = some (.cells e' [.int .i64 q, brA y, brA n]) ∧ e' < 1048576 ∧ br = .nd q (eraseA y) (eraseA n) ∧ (blocksA y ++ blocksA n).Nodup ∧ ∀ b ∈ blocksA y ++ blocksA n, lo ≤ b)
theorem CE.intro {P : Program} {tab : Tab} (htab : chkTab P tab = true) {f : FuncId} {fn : Func} {c : Code} {args : List T} {br : Br} {rest : List T} (hf : P.funcs[f]? = some fn) (hname : (fn.name == "runtime.NumGoroutine") = false) (hb : fn.body = some c)
    (hlen : args.length ≤ fn.ntmps) (hwp : ∀ lo, WPk lo P true fn.ntmps c (RetE tab fn.results.toList lo br rest) ⟨[], initS 0 args, []⟩) : CE P f args (fun y => T.tup (brA y :: rest)) (fun k y => eraseA y = br ∧ GoodA k y) := by
  intro ok w vs hok hg hl
  have hcall : (callFunc f vs).run P w = .ok (.enter f vs) w := by
    have hne : ¬ fn.name = "runtime.NumGoroutine" := by simpa using hname
    simp [callFunc, hf, hne, hb]
  refine ⟨hcall, calls_of_wp hf hb ?_⟩
  have hsz : vs.size = args.length := by rw [← VL.length hl]; simp
  let E : Env := ⟨ok, w, fun _ => False, fun _ => False, fun _ => none⟩
  have himm : ∀ b, ok b → Imm E (lk ([] : List (Nat × Obj))) (fun _ => none) w b := fun b hb => ⟨.inl hb, hok b hb, fun i o x ho _ => by simp [lk] at ho⟩
  have hR : Rel E ⟨[], initS 0 args, []⟩ { tmps := vs ++ Array.replicate (fn.ntmps - vs.size) undef, defers := [] } w := by
    refine ⟨fun _ => none, rfl, rfl, rfl, rfl, Nat.le_refl _, fun _ _ _ => rfl, fun b hb => ⟨hok b hb, fun h => h⟩, hg, fun _ _ => rfl, fun t x ht => ?_, fun i hp => hp.elim, fun i x _ hx => (by cases hx), fun i o ho => by simp [lk] at ho, fun i j o o' x x' ho => by simp [lk] at ho⟩
    obtain ⟨_, y, u, rfl, hu, hv⟩ := lk_initS args vs.toList 0 t x hl ht
    have hu' : vs[t]? = some u := by simpa using hu
    have hlt : t < vs.size := (Array.getElem?_eq_some_iff.1 hu').1
    refine ⟨by simp; omega, ?_⟩
    simp only [VV]
    rw [Array.getD_eq_getD_getElem?, Array.getElem?_append_left hlt, hu']
    exact VR.lasts ⟨himm, fun _ _ => rfl⟩ _ _ hv
  refine wp_mono (hwp w.heap.size E _ w rfl (fun _ b h => h) hR (by simp; omega)) fun e a' w' hq => ?_
  obtain ⟨σ', ⟨β, k1⟩, k2, he, k3⟩ := hq
  have hnew : ∀ b, Imm E (lk σ'.O) β w' b → ok b ∨ (w.heap.size ≤ b ∧ b < w'.heap.size) := fun b hb => by
    rcases hb.1 with h | h | h
    · exact .inl h
    · exact .inr ⟨h, hb.2.1⟩
    · exact h.elim
  have fin : a'.defers = [] ∧ ∃ v, (results fn a'.tmps).run P w' = .ok v w' ∧ ∃ v' y, Ending.returned v = .returned v' ∧ w'.os = w.os ∧ w'.tape = w.tape ∧ w'.output = w.output ∧ w.heap.size ≤ w'.heap.size ∧
      (∀ b, b < w.heap.size → w'.heap[b]? = w.heap[b]?) ∧ VR w' (fun b => ok b ∨ (w.heap.size ≤ b ∧ b < w'.heap.size)) (T.tup (brA y :: rest)) v' ∧ eraseA y = br ∧ GoodA w.heap.size y := by
    rcases k3 with ⟨y, h1, h2, h3⟩ | ⟨h, e', q, y, n, h1, h2, h3, hlt', h4, h5, h6⟩
    · obtain ⟨u, g1, g2⟩ := run_resultsG htab k1 h1 trivial
      simp only [VV] at g2
      exact ⟨k1.defers, u, g1, u, y, rfl, k1.os, k1.tape, k1.output, k1.size, fun b hb => k1.old b hb (fun h => h), VR.lasts ⟨hnew, fun _ _ => rfl⟩ _ _ g2, h2, h3⟩
    · obtain ⟨u, g1, g2⟩ := run_resultsG htab k1 h1 trivial
      simp only [VV, VVL] at g2
      obtain ⟨xs, rfl, v0, us0, hxs, ⟨b, z, hb, rfl⟩, hrest⟩ := g2
      obtain ⟨b', z', hb', hlt, hx, hor⟩ := k1.objS h3 hb
      rw [hb] at hb'; cases hb'
      simp only [OR] at hor
      obtain ⟨arr, us, rs, o1, o2, o3, o4, o5⟩ := hor
      have hy : VR w' (Imm E (lk σ'.O) β w') (brA y) us[1]! ∧ VR w' (Imm E (lk σ'.O) β w') (brA n) us[2]! := by
        have o5' := o5
        simp only [VL] at o5'
        obtain ⟨u0, r0, rfl, _, u1, r1, rfl, q1, u2, r2, rfl, q2, rfl⟩ := o5'
        exact ⟨q1, q2⟩
      have hne : ∀ c, c ∈ blocksA y ++ blocksA n → b ≠ c := fun c hc => by
        rcases List.mem_append.1 hc with hc | hc
        · exact (brA_ok y _ hy.1 c hc).2.2 h _ _ h3 hb
        · exact (brA_ok n _ hy.2 c hc).2.2 h _ _ h3 hb
      refine ⟨k1.defers, _, g1, _, .nd b q y n, rfl, k1.os, k1.tape, k1.output, k1.size, fun b hb => k1.old b hb (fun h => h), ?_, by rw [h4]; rfl, ?_, ?_⟩
      · simp only [VR]
        refine ⟨xs, rfl, ?_⟩
        rw [hxs]
        simp only [VL]
        refine ⟨_, _, rfl, ?_, VL.lasts ⟨hnew, fun _ _ => rfl⟩ _ _ (VVL.of_map_t hrest)⟩
        simp only [brA, VR]
        refine ⟨trivial, .inr ⟨hx.resolve_right (fun h => h), hlt⟩, ⟨arr, e', by rw [o1, bk_lt hlt']⟩, VA.of_cells (VL.lasts ⟨hnew, fun _ _ => rfl⟩ _ _ o5) o4 fun i u hi => ?_⟩
        have : arr[i]? = some u := by
          rw [← Array.getElem?_toList, o3, List.getElem?_append_left (List.getElem?_eq_some_iff.1 hi).1]; exact hi
        simp [World.cell?, o1, bk, this]
      · simp only [blocksA]
        exact List.nodup_cons.2 ⟨fun hm => hne b hm rfl, h5⟩
      · intro c hc
        simp only [blocksA, List.mem_cons] at hc
        rcases hc with rfl | hc
        · exact k1.news h _ h2 hb
        · exact h6 c hc
  rcases he with rfl | rfl
  · exact fin
  · exact fin
def evalPost (P : Program) (tab : Tab) (n : Nat) (cl : Bool) (ans : List (Nat × An)) (ks : List Wk) (all r : List Oper) (σ : St) : Option (List Prop × St) :=
  match runOps P tab n ans all r σ with
  | some (ps, σ1) => match wks cl ks σ1 with
    | some (qs, σ2) => some (ps ++ qs, σ2)
    | none => none
  | none => none
theorem evalPost_some {P : Program} {tab : Tab} {n : Nat} {cl : Bool} {ans : List (Nat × An)} {ks : List Wk} {all r : List Oper} {σ σ2 : St} {ps : List Prop} (h : evalPost P tab n cl ans ks all r σ = some (ps, σ2)) : ∃ ps1 σ1 qs, runOps P tab n ans all r σ = some (ps1, σ1) ∧ wks cl ks σ1 = some (qs, σ2) ∧ ps = ps1 ++ qs := by
  unfold evalPost at h
  split at h
  · split at h
    · cases h; exact ⟨_, _, _, by assumption, by assumption, rfl⟩
    · cases h
  · cases h
/-- The same, by the call's place in the region; slots are given up ahead of the call and behind it. -/
theorem WPk.callK {α : Type} {P : Program} {tab : Tab} {n : Nat} {cl : Bool} {lo : Nat} (htab : chkTab P tab = true) (ans : List (Nat × An)) (k : Nat) (ks1 ks2 : List Wk) {ops : Array Oper} {id : Nat} {fo : Operand} {args : Array Operand} {tys : Array TypeId} {d : Nat} {f : FuncId} {ts : List T} {r : α → T} {Φ : Nat → α → Prop} {σ σ1 : St} {ps : List Prop}
    (hops : ops.toList = ops.toList.take k ++ ops[k]! :: ops.toList.drop (k + 1)) (hop : (ops[k]!).op = .call ⟨.value fo, args, tys⟩) (hdst : (ops[k]!).dst = some d) (hguard : (ops[k]!).guard = none) (hdn : d < n)
    (hpre : evalPost P tab n cl ans ks1 ops.toList (ops.toList.take k) σ = some (ps, σ1)) (ho : Obs ps)
    (hf : ev (lk σ1.S) fo = some (.t (.fn f [] []))) (hargs : evs (lk σ1.S) args.toList = some (ts.map V.t))
    (hC : CE P f ts r Φ) {Q : Post}
    (hpost : ∀ y k', lo ≤ k' → Φ k' y → (∀ t x, lk σ1.S t = some (V.t (brA x)) → ∀ b ∈ blocksA x, b < k') → ∃ ps2 σ3, evalPost P tab n cl ans ks2 ops.toList (ops.toList.drop (k + 1)) (σ1.put (some d) ⟨[], .t (r y), [], []⟩) = some (ps2, σ3) ∧ Obs ps2 ∧ Q .normal σ3) :
    WPk lo P cl n (.region id ops false) Q σ := by
  intro E a w hlo hX hr hn
  obtain ⟨p1, s1, q1, g1, g2, rfl⟩ := evalPost_some hpre
  rw [Obs_append] at ho
  refine wp_region ?_
  have hsz : ops.size = (ops.toList.take k).length + (ops[k]! :: ops.toList.drop (k + 1)).length := by
    have h := congrArg List.length hops
    rw [List.length_append, Array.length_toList] at h
    exact h
  rw [List.range_eq_range', hsz]
  refine runOps_pre htab (ops[k]! :: ops.toList.drop (k + 1)) (ops.toList.take k) 0 σ s1 p1 a w (by rw [List.drop_zero]; exact hops) g1 ho.1 hr hn fun a1 w1 k0 k2 => ?_
  obtain ⟨β, k1⟩ := k0.wks hX g2 ho.2
  have hkl : (ops.toList.take k).length = k := by
    have h := congrArg List.length hops
    rw [List.length_append, List.length_cons, List.length_drop, List.length_take] at h
    rw [List.length_take]
    omega
  have hi : ops[0 + (ops.toList.take k).length]? = some (ops[k]!) := by
    have hlt : k < ops.size := by
      have h := congrArg List.length hops
      rw [List.length_append, List.length_cons, hkl, Array.length_toList] at h
      omega
    rw [hkl, Nat.zero_add, Array.getElem?_eq_getElem hlt, getElem!_pos ops k hlt]
  generalize hoo : ops[k]! = o at *
  rw [List.length_cons, List.range'_succ, wpOps_cons]
  unfold wpOp
  simp only [hi]
  have hwant : Region.wanted o (yielded ops a1.tmps) = true := by simp [Region.wanted, hguard]
  simp only [hwant, if_true]
  left
  have hfv := k1.ev hf
  simp only [VV] at hfv
  have hfv' := hfv
  rw [VR] at hfv'
  obtain ⟨pv, cv, hfe, _, _⟩ := hfv'
  have hav := VVL.of_map_t (k1.evs hargs)
  have harr : args.map a1.eval = (args.toList.map a1.eval).toArray := by apply Array.ext'; rw [Array.toList_map]
  have hd : (Deferred.ofValue (a1.eval fo) (args.toList.map a1.eval).toArray).run P w1 = .ok { target := .fn (.func f) cv, args := pv ++ (args.toList.map a1.eval).toArray } w1 := by rw [hfe]; rfl
  refine k1.callE hfv hav hC (dst := some d) (fun y v w2 hΦ q1 q2 => ?_) hdst hd ?_
  · obtain ⟨ps2, σ3, e1, g4, g5⟩ := hpost y w1.heap.size (hlo ▸ k1.size) hΦ (fun t x ht b hb => by
      have := (k1.slots t _ ht).2
      simp only [VV] at this
      exact (brA_ok x _ this b hb).2.1)
    obtain ⟨p2, s2, q3, f1, f2, rfl⟩ := evalPost_some e1
    rw [Obs_append] at g4
    have hR : Rel E (σ1.put (some d) ⟨[], .t (r y), [], []⟩) (a1.put (some d) v) w2 := by
      refine ⟨β, ?_⟩
      rw [lk_put]
      exact q1.put d (by rw [k2]; exact hdn) v (.t (r y)) (by simp only [VV]; exact q2)
    exact runOps_sound (Q := Sat E n Q) htab (ans := ans) (ops := ops) (ops.toList.drop (k + 1)) (0 + (ops.toList.take k).length + 1) (σ1.put (some d) ⟨[], .t (r y), [], []⟩) s2 p2 (a1.put (some d) v) w2 (by
      rw [hkl, Nat.zero_add]) f1 g4.1 hR (by rw [size_put]; exact k2) (fun a' w' r1 r2 => ⟨_, r1.wks hX f2 g4.2, r2, g5⟩)
  · clear hi hwant hops hdst hguard hoo hsz
    obtain ⟨dst, op, ty, pos, after, guard⟩ := o
    simp only at hop
    subst hop
    simp only [execOp, resolve, Sem.run_bind, harr, hd, Result.andThen_ok]
theorem good_nil {lo : Nat} : GoodA lo .nil := ⟨List.nodup_nil, fun b hb => by cases hb⟩
def brAM {δ : Type} (x : ABr) (a : Option δ) (f : Nat → Int → ABr → ABr → Option δ) : Option δ :=
  match x with
  | .nil => a
  | .nd b q y n => f b q y n
theorem brAM_some {δ : Type} {x : ABr} {a : Option δ} {f : Nat → Int → ABr → ABr → Option δ} {r : δ} (h : brAM x a f = some r) : (x = .nil ∧ a = some r) ∨ ∃ b q y n, x = .nd b q y n ∧ f b q y n = some r := by
  cases x with
  | nil => exact .inl ⟨rfl, h⟩
  | nd b q y n => exact .inr ⟨b, q, y, n, rfl, h⟩
/-! ### a store into one of the branches -/
def cutA (c : Nat) : ABr → ABr
  | .nil => .nil
  | .nd b q y n => if b = c then .nd b 0 .nil .nil else .nd b q (cutA c y) (cutA c n)
def okSlot : V → Bool
  | .t x => x.flat
  | .ref _ _ => true
  | _ => false
def okObj : Obj → Bool
  | .cells _ cs => T.flats cs
  | _ => false
section
variable {w : World} {ok ok' : Nat → Prop}
theorem brA_cut {c : Nat} {cs arr : Array Value} {e : Nat} {rest : List Value} (h1 : w.heap[c]? = some (.cells arr e (0, 0))) (hc : cs.toList = [Value.int .i64 0, .pointer none, .pointer none] ++ rest) (hok : ∀ b, ok b → ok' b) :
    ∀ (x : ABr) (v : Value), VR w ok (brA x) v → VR (w.setRow c cs) ok' (brA (cutA c x)) v
  | .nil, v, h => by simpa only [cutA, brA, VR] using h
  | .nd b q y n, v, h => by
    simp only [brA, VR] at h
    obtain ⟨rfl, hb, ⟨ar, t, hh⟩, hva⟩ := h
    unfold cutA
    by_cases e1 : b = c
    · subst e1
      rw [if_pos rfl]
      have hw := setRow_heap w b arr cs _ _ h1
      simp only [brA, VR, VA]
      have hg : ∀ i : Nat, (w.setRow b cs).cell? ⟨b, i, none⟩ = cs.toList[i]? := fun i => by simp [World.cell?, hw]
      refine ⟨trivial, hok b hb, ⟨cs, e, hw⟩, ⟨_, by rw [hg, hc]; rfl, rfl, rfl⟩, ⟨_, by rw [hg, hc]; rfl, rfl, rfl⟩, ⟨_, by rw [hg, hc]; rfl, rfl, rfl⟩, trivial⟩
    · rw [if_neg e1]
      have hs : (w.setRow c cs).heap[b]? = w.heap[b]? := setRow_other _ _ _ _ e1
      simp only [VA] at hva
      obtain ⟨⟨u0, c0, o0, q0⟩, ⟨u, c1, o1, hu⟩, ⟨u', c2, o2, hu'⟩, _⟩ := hva
      simp only [brA, VR, VA]
      simp only [VR] at q0
      exact ⟨trivial, hok b hb, ⟨ar, t, by rw [hs]; exact hh⟩, ⟨u0, (cell_same hs _).trans c0, o0, q0⟩, ⟨u, (cell_same hs _).trans c1, o1, brA_cut h1 hc hok y u hu⟩, ⟨u', (cell_same hs _).trans c2, o2, brA_cut h1 hc hok n u' hu'⟩, trivial⟩
end
section
variable {P : Program} {E : Env} {β : Names} {N : List Nat} {S S' : Nat → Option V} {O : Nat → Option Obj} {a : Act} {w : World}
/-- A branch in a tree is made a leaf. -/
theorem R.storeA (h : R E β N S O a w) {t : TypeId} {y70 : Ty} (hy : chkTy P t y70 = true) (hsz : y70.size = 3) {c : Nat} {q : Int} {y n : ABr} {va v : Value} (hp : VR w (Imm E O β w) (brA (.nd c q y n)) va) (hv : VR w (Imm E O β w) (.agg [.int .i64 0, .nilp, .nilp]) v)
    (hlo : E.w0.heap.size ≤ c) (hO : ∀ i o, O i = some o → okObj o = true)
    (hS : ∀ s x, S' s = some x → (okSlot x = true ∧ S s = some x) ∨ ∃ z, S s = some (.t (brA z)) ∧ x = .t (brT (eraseA (cutA c z)))) :
    ∃ w', (Instr.storeAt t va v).run P w = .ok () w' ∧ R E β N S' O a w' := by
  obtain ⟨it, z, hit, his, _⟩ := chkTy_info hy
  simp only [brA, VR] at hp
  obtain ⟨rfl, himm, ⟨arr, e, hh⟩, hva⟩ := hp
  simp only [VR, VL] at hv
  obtain ⟨vs, rfl, hone, u0, r0, hvs, rfl, u1, r1, rfl, rfl, u2, r2, rfl, rfl, rfl⟩ := hv
  have h3 : 3 ≤ arr.size := by
    simp only [VA] at hva
    obtain ⟨_, _, ⟨u, c2, _⟩, _⟩ := hva
    simp only [World.cell?, hh] at c2
    have := (Array.getElem?_eq_some_iff.1 (by simpa using c2)).1
    omega
  have hcs : (Value.agg vs).cells = vs := rfl
  have hvsz : vs.size = 3 := by rw [← Array.length_toList, hvs]; rfl
  have hst := run_storeCells_fr P c 0 e (0, 0) vs.toList 0 arr w hh (.inl rfl) (by rw [Array.length_toList, hvsz]; omega) (by rw [hvs]; intro u hu; simp only [List.mem_cons, List.not_mem_nil, or_false] at hu; rcases hu with rfl | rfl | rfl <;> rfl)
  simp only [Nat.add_zero, List.take_zero, List.nil_append, Nat.zero_add] at hst
  have hrow : (vs.toList ++ arr.toList.drop vs.toList.length).toArray.toList = [Value.int .i64 0, .pointer none, .pointer none] ++ arr.toList.drop vs.toList.length := by rw [hvs]
  generalize hcc : (vs.toList ++ arr.toList.drop vs.toList.length).toArray = cs at hst hrow
  refine ⟨w.setRow c cs, by simpa [Instr.storeAt, Instr.sureAddr, storeVar, sizeOf, typeInfo, hit, hcs, hvsz, his, hsz] using hst, ?_⟩
  have hoth : ∀ b, b ≠ c → (w.setRow c cs).heap[b]? = w.heap[b]? := fun b hb => setRow_other _ _ _ _ hb
  have hImm : ∀ b, Imm E O β w b → Imm E O β (w.setRow c cs) b := fun b hb => ⟨hb.1, by rw [setRow_size]; exact hb.2.1, hb.2.2⟩
  refine ⟨h.defers, (setRow_os ..).trans h.os, (setRow_tape ..).trans h.tape, (setRow_output ..).trans h.output, by rw [setRow_size]; exact h.size, fun b hb hx => (hoth b (by omega)).trans (h.old b hb hx), h.okb, h.glob, h.dom, fun s x hs => ?_, h.pins, h.news, fun i o ho => ?_, h.apart⟩
  · rcases hS s x hs with ⟨h1, h2⟩ | ⟨z, h1, rfl⟩
    · obtain ⟨g1, g2⟩ := h.slots s x h2
      refine ⟨g1, ?_⟩
      cases x with
      | t x => simp only [VV] at g2 ⊢; exact VR.flat x _ h1 g2
      | ref i o => simpa only [VV] using g2
      | _ => cases h1
    · obtain ⟨g1, g2⟩ := h.slots s _ h1
      refine ⟨g1, ?_⟩
      simp only [VV] at g2 ⊢
      exact brA_T _ _ (brA_cut hh hrow hImm z _ g2)
  · rcases h.objs i o ho with ⟨b, z, g1, g2, g3, g4⟩ | g
    · refine .inl ⟨b, z, g1, by rw [setRow_size]; exact g2, g3, ?_⟩
      have hne : b ≠ c := fun e => himm.2.2 i o _ ho g1 e
      have hfl := hO i o ho
      cases o with
      | cells e' cs' =>
        simp only [OR] at g4 ⊢
        obtain ⟨ar, us, rs, k1, k2, k3, k4, k5⟩ := g4
        exact ⟨ar, us, rs, by rw [hoth b hne]; exact k1, k2, k3, k4, VL.flat _ _ hfl k5⟩
      | _ => cases hfl
    · exact .inr g
end
theorem lk_all {α : Type} {p : α → Bool} : ∀ {l : List (Nat × α)} {i : Nat} {o : α}, l.all (fun q => p q.2) = true → lk l i = some o → p o = true
  | [], i, o, _, h => by simp [lk] at h
  | (j, x) :: r, i, o, ha, h => by
    simp only [List.all_cons, Bool.and_eq_true] at ha
    simp only [lk] at h
    split at h
    · cases h; exact ha.1
    · exact lk_all ha.2 h
/-- A region that ends with a store into one of the branches of a tree in a slot. -/
theorem WPk.storeK {P : Program} {tab : Tab} {n : Nat} {cl : Bool} {lo : Nat} (htab : chkTab P tab = true) (ans : List (Nat × An)) (k : Nat) (ks1 : List Wk) {ops : Array Oper} {id : Nat} {t : TypeId} {x va : Operand} {y70 : Ty} {c : Nat} {q : Int} {y z : ABr} {σ σ1 : St} {ps : List Prop}
    (hops : ops.toList = ops.toList.take k ++ ops[k]! :: ops.toList.drop (k + 1)) (hop : (ops[k]!).op = .store t x va) (hdst : (ops[k]!).dst = none) (hguard : (ops[k]!).guard = none) (hlast : ops.toList.drop (k + 1) = [])
    (hpre : evalPost P tab n cl ans ks1 ops.toList (ops.toList.take k) σ = some (ps, σ1)) (ho : Obs ps)
    (hy : look tab t = some y70) (hsz : y70.size = 3)
    (hx : ev (lk σ1.S) x = some (.t (brA (.nd c q y z)))) (hva : ev (lk σ1.S) va = some (.t (.agg [.int .i64 0, .nilp, .nilp])))
    (hc : lo ≤ c) (hO : σ1.O.all (fun p => okObj p.2) = true) {d8 : Nat} {a0 : ABr} (ts : List Nat) (h8 : lk σ1.S d8 = some (.t (brA a0))) (hts : (keepA σ1.S ts).all (fun p => okSlot p.2) = true) {Q : Post}
    (hQ : Q .normal ⟨σ1.N, (d8, .t (brT (eraseA (cutA c a0)))) :: keepA σ1.S ts, σ1.O⟩) :
    WPk lo P cl n (.region id ops false) Q σ := by
  intro E a w hlo hX hr hn
  obtain ⟨p1, s1, q1, g1, g2, rfl⟩ := evalPost_some hpre
  rw [Obs_append] at ho
  refine wp_region ?_
  have hsize : ops.size = (ops.toList.take k).length + (ops[k]! :: ops.toList.drop (k + 1)).length := by
    have h := congrArg List.length hops
    rw [List.length_append, Array.length_toList] at h
    exact h
  rw [List.range_eq_range', hsize]
  refine runOps_pre htab (ops[k]! :: ops.toList.drop (k + 1)) (ops.toList.take k) 0 σ s1 p1 a w (by rw [List.drop_zero]; exact hops) g1 ho.1 hr hn fun a1 w1 k0 k2 => ?_
  obtain ⟨β, k1⟩ := k0.wks hX g2 ho.2
  have hkl : (ops.toList.take k).length = k := by
    have h := congrArg List.length hops
    rw [List.length_append, List.length_cons, List.length_drop, List.length_take] at h
    rw [List.length_take]
    omega
  have hi : ops[0 + (ops.toList.take k).length]? = some (ops[k]!) := by
    have hlt : k < ops.size := by
      have h := congrArg List.length hops
      rw [List.length_append, List.length_cons, hkl, Array.length_toList] at h
      omega
    rw [hkl, Nat.zero_add, Array.getElem?_eq_getElem hlt, getElem!_pos ops k hlt]
  rw [hlast]
  generalize hoo : ops[k]! = o at *
  rw [List.length_cons, List.range'_succ, wpOps_cons]
  unfold wpOp
  simp only [hi]
  have hwant : Region.wanted o (yielded ops a1.tmps) = true := by simp [Region.wanted, hguard]
  simp only [hwant, if_true]
  left
  have e1 := k1.ev hx
  have e2 := k1.ev hva
  simp only [VV] at e1 e2
  obtain ⟨w2, f1, f2⟩ := k1.storeA (S' := lk ((d8, .t (brT (eraseA (cutA c a0)))) :: keepA σ1.S ts)) (chkTab_look htab hy) hsz e1 e2 (hlo ▸ hc) (fun i o h => lk_all hO h) (fun s v hs => by
    simp only [lk] at hs
    split at hs
    · rename_i es
      cases hs
      subst es
      exact .inr ⟨a0, h8, rfl⟩
    · exact .inl ⟨lk_all hts hs, lk_keep _ _ _ _ hs⟩)
  clear hi hwant hops hguard hoo hsize
  obtain ⟨dst, op, ty, pos, after, guard⟩ := o
  simp only at hop hdst
  subst hop hdst
  unfold Oper.wp
  simp only [execOp, Sem.run_bind, f1, Result.andThen_ok, Sem.run_pure]
  exact ⟨_, ⟨β, f2⟩, k2, hQ⟩
theorem C.introK {P : Program} {tab : Tab} (htab : chkTab P tab = true) {f : FuncId} {fn : Func} {c : Code} {args : List T} {r : T} (hf : P.funcs[f]? = some fn) (hname : (fn.name == "runtime.NumGoroutine") = false) (hb : fn.body = some c)
    (hlen : args.length ≤ fn.ntmps) (hwp : ∀ lo, WPk lo P true fn.ntmps c (RetQ tab fn.results.toList r) ⟨[], initS 0 args, []⟩) : C P f args r := by
  refine C.intro htab hf hname hb hlen ?_
  intro E a w hX hr hn
  exact hwp E.w0.heap.size E a w rfl hX hr hn
/-- A branch with a leaf at the end of a way. -/
def cutW : Br → List (Int × Bool) → Br
  | _, [] => .nd 0 .nil .nil
  | .nil, _ :: _ => .nil
  | .nd q y n, a :: w => if a.2 = true then .nd q (cutW y w) n else .nd q y (cutW n w)
theorem CG.introK {P : Program} {tab : Tab} (htab : chkTab P tab = true) {f : FuncId} {fn : Func} {c : Code} {args : List V} {Oi : List (Nat × Obj)} {r : V} {Oo : List (Nat × Obj)} (hf : P.funcs[f]? = some fn) (hname : (fn.name == "runtime.NumGoroutine") = false) (hb : fn.body = some c)
    (hlen : args.length ≤ fn.ntmps) (hpin : (keysO Oi).all (fun i => decide (i < 1000)) = true) (hwp : ∀ lo, WPk lo P false fn.ntmps c (RetG tab fn.results.toList r Oo) ⟨keysO Oi, initV 0 args, Oi⟩) : CG P f args Oi r Oo := by
  refine CG.intro htab hf hname hb hlen hpin ?_
  intro E a w hX hr hn
  exact hwp E.w0.heap.size E a w rfl hX hr hn
end Go.Tl
end
