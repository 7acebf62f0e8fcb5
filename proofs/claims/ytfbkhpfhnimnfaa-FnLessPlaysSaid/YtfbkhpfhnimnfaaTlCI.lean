/-
  Contracts with objects out of a function's body; a contract with new objects gives one with trees. No statement of the seat is proved here.
-/
import Derived.Test.YtfbkhpfhnimnfaaTlU
namespace Go.Tl
set_option linter.unusedVariables false
set_option linter.unusedSimpArgs false

/-! ### what a function's results are, with names -/
def retG1 (tab : Tab) (σ : St) : ResultVar → Option (List Prop × V)
  | .tmp t => (lk σ.S t).map fun x => ([], x)
  | .cell a t => match look tab t, lk σ.S a with
    | some y, some (.t (.ptr cs)) => (getPtr none cs y).map fun r => ([r.1], r.2)
    | some y, some (.ref i o) => match lk σ.O i with
      | some ob => (getObj none ob o y).map fun r => ([r.1], r.2)
      | none => none
    | _, _ => none
def retsG (tab : Tab) (σ : St) : List ResultVar → Option (List Prop × List V)
  | [] => some ([], [])
  | v :: vs => match retG1 tab σ v with
    | some (ps, t) => match retsG tab σ vs with
      | some (qs, ts) => some (ps ++ qs, t :: ts)
      | none => none
    | none => none
def retGT (tab : Tab) (vs : List ResultVar) (σ : St) : Option (List Prop × V) :=
  match retsG tab σ vs with
  | some (ps, [t]) => some (ps, t)
  | some (ps, ts) => some (ps, mkTup ts)
  | none => none
/-- The result, a nil slice in it told as a slice of its own. js: the names of such. -/
def RetG (tab : Tab) (vs : List ResultVar) (r : V) (Oo : List (Nat × Obj)) : Post := fun e σ => match e with
  | .ret | .normal => ∃ (js : List (Nat × TypeId)) (keys : List Nat) (ps : List Prop) (r1 : V), retGT tab vs σ = some (ps, r1) ∧ Obs ps ∧ Obs (adoptV (js.map (·.1)) r1 r) ∧ js.all (fun j => !σ.N.contains j.1) = true ∧ keepA σ.O keys ++ js.map (fun j => (j.1, .cells j.2 [])) = Oo
  | _ => False
section
variable {P : Program} {tab : Tab} {E : Env} {β : Names} {N : List Nat} {σ : St} {O : Nat → Option Obj} {a : Act} {w : World}
theorem R.retG1 (htab : chkTab P tab = true) (h : R E β N (lk σ.S) (lk σ.O) a w) {v : ResultVar} {ps : List Prop} {t : V} (hr : Tl.retG1 tab σ v = some (ps, t)) (ho : Obs ps) :
    ∃ u, (resV a.tmps v).run P w = .ok u w ∧ VV w (Imm E (lk σ.O) β w) β t u := by
  cases v with
  | tmp t' =>
    simp only [Tl.retG1, Option.map_eq_some_iff, Prod.mk.injEq] at hr
    obtain ⟨x, hx, _, rfl⟩ := hr
    exact ⟨_, rfl, (h.slots t' _ hx).2⟩
  | cell x t' =>
    simp only [Tl.retG1] at hr
    split at hr
    · rename_i y cs hy hx
      simp only [Option.map_eq_some_iff, Prod.mk.injEq] at hr
      obtain ⟨⟨p, x'⟩, hg, rfl, rfl⟩ := hr
      have := (h.slots x _ hx).2
      simp only [VV, VR] at this
      obtain ⟨b, o, hb, _, hva⟩ := this
      obtain ⟨u, h1, h2⟩ := run_getPtr (β := β) (chkTab_look htab hy) hg ho.1 hva
      refine ⟨u, ?_, h2⟩
      simp only [resV]
      rw [hb]
      simpa [asAddr, Instr.loadAt, Instr.sureAddr] using h1
    · rename_i y i o hy hx
      split at hr
      · rename_i ob hob
        simp only [Option.map_eq_some_iff, Prod.mk.injEq] at hr
        obtain ⟨⟨p, x'⟩, hg, rfl, rfl⟩ := hr
        have := (h.slots x _ hx).2
        simp only [VV] at this
        obtain ⟨b, z, hb, hv⟩ := this
        obtain ⟨b', z', hb', _, _, hor⟩ := h.objS hob hb
        rw [hb] at hb'; cases hb'
        obtain ⟨u, h1, h2⟩ := run_getObj (β := β) (chkTab_look htab hy) hg ho.1 hor
        refine ⟨u, ?_, h2⟩
        simp only [resV]
        rw [hv]
        simpa [asAddr, Instr.loadAt, Instr.sureAddr] using h1
      · cases hr
    · cases hr
theorem R.retsG (htab : chkTab P tab = true) (h : R E β N (lk σ.S) (lk σ.O) a w) : ∀ {vs : List ResultVar} {ps : List Prop} {ts : List V}, Tl.retsG tab σ vs = some (ps, ts) → Obs ps →
    ∃ us, (vs.mapM (resV a.tmps)).run P w = .ok us w ∧ VVL w (Imm E (lk σ.O) β w) β ts us
  | [], ps, ts, hr, _ => by
    simp only [Tl.retsG, Option.some.injEq, Prod.mk.injEq] at hr
    obtain ⟨_, rfl⟩ := hr
    exact ⟨[], by simp, by simp only [VVL]⟩
  | v :: vs, ps, ts, hr, ho => by
    simp only [Tl.retsG] at hr
    split at hr
    · rename_i ps1 t h1
      split at hr
      · rename_i qs ts' h2
        cases hr
        rw [Obs_append] at ho
        obtain ⟨u, k1, k2⟩ := h.retG1 htab h1 ho.1
        obtain ⟨us, k3, k4⟩ := R.retsG htab h h2 ho.2
        refine ⟨u :: us, ?_, by simp only [VVL]; exact ⟨u, us, rfl, k2, k4⟩⟩
        simp only [List.mapM_cons, Sem.run_bind]
        rw [k1]
        simp only [Result.andThen_ok, Sem.run_bind]
        rw [k3]
        rfl
      · cases hr
    · cases hr
theorem run_resultsG (htab : chkTab P tab = true) (h : R E β N (lk σ.S) (lk σ.O) a w) {fn : Func} {ps : List Prop} {r : V} (hr : retGT tab fn.results.toList σ = some (ps, r)) (ho : Obs ps) :
    ∃ u, (results fn a.tmps).run P w = .ok u w ∧ VV w (Imm E (lk σ.O) β w) β r u := by
  unfold retGT at hr
  have key : ∀ {ts : List V}, retsG tab σ fn.results.toList = some (ps, ts) → ∃ us : Array Value, (results fn a.tmps).run P w = .ok (if h : us.size = 1 then us[0] else .tuple us) w ∧ VVL w (Imm E (lk σ.O) β w) β ts us.toList := by
    intro ts hts
    obtain ⟨us, k1, k2⟩ := h.retsG htab hts ho
    refine ⟨us.toArray, ?_, by simpa using k2⟩
    rw [results_eq, Array.mapM_eq_mapM_toList]
    simp only [Sem.run_bind, Sem.run_map, k1, Result.andThen_ok]
    rfl
  split at hr
  · rename_i t hts
    cases hr
    obtain ⟨us, k1, k2⟩ := key hts
    simp only [VVL] at k2
    obtain ⟨u, us', e, k3, rfl⟩ := k2
    have : us = #[u] := by simpa using congrArg List.toArray e
    subst this
    exact ⟨u, by simpa using k1, k3⟩
  · rename_i ts hne hts
    cases hr
    obtain ⟨us, k1, k2⟩ := key hts
    have hsz : us.size ≠ 1 := by
      intro h1
      have := VVL.length k2
      rw [Array.length_toList, h1] at this
      match ts, this with
      | [t], _ => exact hne t rfl
    exact ⟨.tuple us, by simpa [hsz] using k1, mkTup_reads k2⟩
  · cases hr
end

def initV : Nat → List V → List (Nat × V)
  | _, [] => []
  | i, t :: ts => (i, t) :: initV (i + 1) ts
theorem lk_initV {w : World} {ok : Nat → Prop} {β : Names} : ∀ (ts : List V) (vs : List Value) (i t : Nat) (x : V), VVL w ok β ts vs → lk (initV i ts) t = some x → i ≤ t ∧ ∃ u, vs[t - i]? = some u ∧ VV w ok β x u
  | [], vs, i, t, x, _, h => by simp [initV, lk] at h
  | y :: ts, vs, i, t, x, hl, h => by
    simp only [VVL] at hl
    obtain ⟨u, us, rfl, h1, h2⟩ := hl
    simp only [initV, lk] at h
    split at h
    · rename_i e
      cases h
      subst e
      exact ⟨Nat.le_refl _, u, by simp, h1⟩
    · obtain ⟨k1, v, k3, k4⟩ := lk_initV ts us (i + 1) t x h2 h
      refine ⟨by omega, v, ?_, k4⟩
      rw [show t - i = (t - (i + 1)) + 1 by omega]
      simpa using k3

theorem CG.intro {P : Program} {tab : Tab} (htab : chkTab P tab = true) {f : FuncId} {fn : Func} {c : Code} {args : List V} {Oi : List (Nat × Obj)} {r : V} {Oo : List (Nat × Obj)} (hf : P.funcs[f]? = some fn) (hname : (fn.name == "runtime.NumGoroutine") = false) (hb : fn.body = some c)
    (hlen : args.length ≤ fn.ntmps) (hpin : (keysO Oi).all (fun i => decide (i < 1000)) = true) (hwp : WP P false fn.ntmps c (RetG tab fn.results.toList r Oo) ⟨keysO Oi, initV 0 args, Oi⟩) : CG P f args Oi r Oo := by
  intro ok w β vs hok hg hβ hO hap hl
  have hcall : (callFunc f vs).run P w = .ok (.enter f vs) w := by
    have hne : ¬ fn.name = "runtime.NumGoroutine" := by simpa using hname
    simp [callFunc, hf, hne, hb]
  refine ⟨hcall, calls_of_wp hf hb ?_⟩
  have hsz : vs.size = args.length := by rw [← VVL.length hl]; simp
  let E : Env := ⟨ok, w, fun b => ∃ i x, β i = some x ∧ x.1 = b, fun i => i ∈ keysO Oi, β⟩
  have himm : ∀ b, ok b → Imm E (lk Oi) β w b := fun b hb => ⟨.inl hb, hok b hb, fun i o x ho hx e => (hβ i x hx).2.2.1 (e ▸ hb)⟩
  have hR : Rel E ⟨keysO Oi, initV 0 args, Oi⟩ { tmps := vs ++ Array.replicate (fn.ntmps - vs.size) undef, defers := [] } w := by
    refine ⟨β, rfl, rfl, rfl, rfl, Nat.le_refl _, fun _ _ _ => rfl, fun b hb => ⟨hok b hb, fun ⟨i, x, hx, e⟩ => (hβ i x hx).2.2.1 (e ▸ hb)⟩, hg, fun i hi => ?_, fun t x ht => ?_, fun i hp => ⟨?_, hp, rfl⟩, fun i x h2 hx => ?_, fun i o ho => ?_, fun i j o o' x x' ho ho' hx hx' hne => hap i j x x' hx hx' hne⟩
    · cases hx : β i with
      | none => rfl
      | some x => exact absurd (hβ i x hx).2.1 hi
    · obtain ⟨_, u, hu, hv⟩ := lk_initV args vs.toList 0 t x hl ht
      have hu' : vs[t]? = some u := by simpa using hu
      have hlt : t < vs.size := (Array.getElem?_eq_some_iff.1 hu').1
      refine ⟨by simp; omega, ?_⟩
      rw [Array.getD_eq_getD_getElem?, Array.getElem?_append_left hlt, hu']
      exact VV.lasts ⟨himm, fun _ _ => rfl⟩ (fun _ _ h => h) _ _ hv
    · have := List.all_eq_true.1 hpin i hp
      simpa using this
    · have := (hβ i x hx).1
      omega
    · rcases hO i o ho with ⟨b, z, h1, h2⟩ | ⟨h1, h2, h3⟩
      · exact .inl ⟨b, z, h1, (hβ i _ h1).2.2.2, .inr ⟨i, _, h1, rfl⟩, OR.lasts ⟨himm, fun _ _ => rfl⟩ (fun _ _ h => h) rfl h2⟩
      · exact .inr ⟨lk_keys ho, h2, h3⟩
  refine wp_mono (hwp E _ w (fun hc => by cases hc) hR (by simp; omega)) fun e a' w' hq => ?_
  obtain ⟨σ', ⟨β', k1⟩, k2, k3⟩ := hq
  have fin : (∃ (js : List (Nat × TypeId)) (keys : List Nat) (ps : List Prop) (r1 : V), retGT tab fn.results.toList σ' = some (ps, r1) ∧ Obs ps ∧ Obs (adoptV (js.map (·.1)) r1 r) ∧ js.all (fun j => !σ'.N.contains j.1) = true ∧ keepA σ'.O keys ++ js.map (fun j => (j.1, .cells j.2 [])) = Oo) → a'.defers = [] ∧ ∃ v, (results fn a'.tmps).run P w' = .ok v w' ∧ ∃ v' β', Ending.returned v = .returned v' ∧ w'.os = w.os ∧ w'.tape = w.tape ∧ w'.output = w.output ∧ w.heap.size ≤ w'.heap.size ∧
      (∀ b, b < w.heap.size → (∀ i x, β i = some x → x.1 ≠ b) → w'.heap[b]? = w.heap[b]?) ∧
      (∀ i, i ∈ keysO Oi → β' i = β i) ∧
      (∀ i x, 2000 ≤ i → β' i = some x → w.heap.size ≤ x.1) ∧
      (∀ i o, lk Oo i = some o → (∃ b z, β' i = some (b, z) ∧ b < w'.heap.size ∧ (w.heap.size ≤ b ∨ ∃ j z', β j = some (b, z')) ∧ OR w' (Imm ⟨ok, w, fun b => ∃ i x, β i = some x ∧ x.1 = b, fun _ => False, fun _ => none⟩ (lk Oo) β' w') β' b z o) ∨ (β' i = none ∧ ∃ e, o = .cells e [])) ∧
      (∀ i j o o' x x', lk Oo i = some o → lk Oo j = some o' → β' i = some x → β' j = some x' → i ≠ j → x.1 ≠ x'.1) ∧
      VV w' (Imm ⟨ok, w, fun b => ∃ i x, β i = some x ∧ x.1 = b, fun _ => False, fun _ => none⟩ (lk Oo) β' w') β' r v' := by
    rintro ⟨js, keys, ps, r1, h1, h2, h3, h4, h5⟩
    obtain ⟨u, g1, g2⟩ := run_resultsG htab k1 h1 h2
    have hph : ∀ i, i ∈ js.map (·.1) → β' i = none := fun i hi => by
      obtain ⟨j, hj, rfl⟩ := List.mem_map.1 hi
      have := List.all_eq_true.1 h4 j hj
      simp only [Bool.not_eq_true', List.contains_eq_mem, decide_eq_false_iff_not] at this
      exact k1.dom _ this
    have hO : ∀ i o, lk Oo i = some o → lk σ'.O i = some o ∨ (β' i = none ∧ ∃ e, o = .cells e []) := fun i o ho => by
      rw [← h5, lk_app] at ho
      cases hl : lk (keepA σ'.O keys) i with
      | some o2 =>
        rw [hl] at ho
        simp only [Option.some_or, Option.some.injEq] at ho
        subst ho
        exact .inl (lk_keep σ'.O keys i _ hl)
      | none =>
        rw [hl] at ho
        simp only [Option.none_or] at ho
        obtain ⟨q1, q2⟩ := lk_phantom js i o ho
        exact .inr ⟨hph i q1, q2⟩
    have hlast : Lasts w' (Imm E (lk σ'.O) β' w') w' (Imm ⟨ok, w, fun b => ∃ i x, β i = some x ∧ x.1 = b, fun _ => False, fun _ => none⟩ (lk Oo) β' w') := ⟨fun b hb => ⟨hb.1, hb.2.1, fun i o x ho hx => by
      rcases hO i o ho with q | ⟨q, _⟩
      · exact hb.2.2 i o x q hx
      · rw [hx] at q; cases q⟩, fun _ _ => rfl⟩
    refine ⟨k1.defers, u, g1, u, β', rfl, k1.os, k1.tape, k1.output, k1.size, fun b hb hn => k1.old b hb (fun ⟨i, x, hx, e⟩ => hn i x hx e), fun i hi => (k1.pins i hi).2.2, k1.news, fun i o ho => ?_, fun i j o o' x x' ho ho' hx hx' hne => ?_, adoptV_reads r1 r u h3 (VV.lasts hlast (fun _ _ h => h) _ _ g2)⟩
    · rcases hO i o ho with q | q
      · rcases k1.objs i o q with ⟨b, z, q1, q2, q3, q4⟩ | ⟨_, q1, q2⟩
        · refine .inl ⟨b, z, q1, q2, ?_, OR.lasts hlast (fun _ _ h => h) rfl q4⟩
          rcases q3 with q3 | ⟨j, x, q3, rfl⟩
          · exact .inl q3
          · exact .inr ⟨j, x.2, q3⟩
        · exact .inr ⟨q1, q2⟩
      · exact .inr q
    · rcases hO i o ho with q | ⟨q, _⟩
      · rcases hO j o' ho' with q' | ⟨q', _⟩
        · exact k1.apart i j o o' x x' q q' hx hx' hne
        · rw [hx'] at q'; cases q'
      · rw [hx] at q; cases q
  cases e with
  | normal => exact fin k3
  | ret => exact fin k3
  | _ => exact k3.elim

theorem WkT.eq {x y z : T} (h : WkT x y) (e : y = z) : WkT x z := e ▸ h
/-- A path that returns, with names. -/
def evalG (P : Program) (tab : Tab) (n : Nat) (ans : List (Nat × An)) (ks : List Wk) (keys : List Nat) (vs : List ResultVar) (c : Code) (σ : St) : Option (List Prop × V × List Nat × List (Nat × Obj)) :=
  match evalC P tab n ans c σ with
  | some (ps, .ret, σ1) => match wks false ks σ1 with
    | some (ps2, σ2) => match retGT tab vs σ2 with
      | some (qs, r) => some (ps ++ (ps2 ++ qs), r, σ2.N, keepA σ2.O keys)
      | none => none
    | none => none
  | _ => none
theorem WP.pathG {P : Program} {n : Nat} {tab : Tab} (htab : chkTab P tab = true) (hm : P.follows .mixedOrders = true) (ans : List (Nat × An)) (ks : List Wk) (keys : List Nat) (vs : List ResultVar) {c : Code} {σ : St} {ps : List Prop} {r r' : V} {N : List Nat} {O Oo : List (Nat × Obj)} (js : List (Nat × TypeId)) {Q : Post} (h : evalG P tab n ans ks keys vs c σ = some (ps, r, N, O)) (ho : Obs ps) (he : Obs (adoptV (js.map (·.1)) r r'))
    (hj : js.all (fun j => !N.contains j.1) = true) (hO : O ++ js.map (fun j => (j.1, .cells j.2 [])) = Oo) (hQ : ∀ σ', RetG tab vs r' Oo .ret σ' → Q .ret σ') : WP P false n c Q σ := by
  unfold evalG at h
  split at h
  · rename_i ps1 σ1 h1
    split at h
    · rename_i ps2 σ2 h2
      split at h
      · rename_i qs r1 h3
        cases h
        rw [Obs_append, Obs_append] at ho
        refine WP.weak (Q' := fun e' σ' => e' = .ret ∧ σ' = σ1) (evalC_sound htab hm c σ σ1 ps1 .ret _ h1 ho.1 ⟨rfl, rfl⟩) fun e' σ' hh => ?_
        obtain ⟨rfl, rfl⟩ := hh
        exact ⟨ks, ps2, σ2, h2, ho.2.1, hQ σ2 ⟨js, keys, qs, r, h3, ho.2.2, he, hj, hO⟩⟩
      · cases h
    · cases h
  · cases h

/-- New objects that nobody writes are trees. -/
theorem CG.toC {P : Program} {f : FuncId} {args : List T} {r : V} {Oo : List (Nat × Obj)} {ps : List Prop} {t : T} (h : CG P f (args.map V.t) [] r Oo) (hs : snapV (lk Oo) r = some (ps, t)) (ho : Obs ps) : C P f args t := by
  intro ok w vs hok hg hl
  obtain ⟨c1, c2⟩ := h ok w (fun _ => none) vs hok hg (fun i x hx => by cases hx) (fun i o ho => by simp [lk] at ho) (fun i j x x' hx => by cases hx) (VVL.map_t hl)
  refine .inl ⟨c1, Calls.mono c2 fun e w' he => ?_⟩
  obtain ⟨v, β', rfl, os, tape, output, size, same, keep, news, objs, apart, hv⟩ := he
  refine ⟨v, rfl, os, tape, output, size, fun b hb => same b hb (fun i x hx => by cases hx), ?_⟩
  have hlast : Lasts w' (Imm ⟨ok, w, fun b => ∃ (i : Nat) (x : Nat × Nat), (none : Option (Nat × Nat)) = some x ∧ x.1 = b, fun _ => False, fun _ => none⟩ (lk Oo) β' w') w' (fun b => ok b ∨ (w.heap.size ≤ b ∧ b < w'.heap.size)) := ⟨fun b hb => hb.1.elim .inl fun h => h.elim (fun h1 => .inr ⟨h1, hb.2.1⟩) fun ⟨_, _, h1, _⟩ => (nomatch h1), fun _ _ => rfl⟩
  refine snapV_reads hlast (fun i ob cs b z h1 h2 h3 => ?_) r v ps t hs ho hv
  rcases objs i ob h1 with ⟨b', z', g1, g2, g3, g4⟩ | ⟨g1, _⟩
  · rw [h3] at g1; cases g1
    obtain ⟨us, q1, q2, q3⟩ := Obj.trees_reads h2 g4
    refine ⟨?_, us, VL.lasts hlast _ _ q1, q2, q3⟩
    rcases g3 with g3 | ⟨j, z', g3⟩
    · exact .inr ⟨g3, g2⟩
    · cases g3
  · rw [h3] at g1; cases g1
/-- A slice is the nil one, or none such. -/
theorem list_split {w : World} {ok : Nat → Prop} {n sz : Nat} {cs : List T} {v : Value} (h : VR w ok (.list n sz cs) v) : (VR w ok .zlist v ∧ n = 0 ∧ cs = []) ∨ VR w ok (.rows n sz cs) v := by
  simp only [VR] at h ⊢
  obtain ⟨hl, A, cap, rfl, h1, h2, h3⟩ := h
  cases A with
  | none =>
    rcases h3 with h3 | ⟨b, o, h3, _⟩
    · subst h3
      exact .inl ⟨⟨cap, rfl⟩, rfl, List.eq_nil_of_length_eq_zero (by simpa using hl)⟩
    · cases h3
  | some ad =>
    refine .inr ⟨hl, ad, cap, rfl, h1, h2, ?_⟩
    rcases h3 with h3 | ⟨b, o, h3, hb, hc⟩
    · exact .inl h3
    · exact .inr ⟨b, o, Option.some.inj h3, hb, hc⟩
/-- A function of one slice: of the nil one, and of those that are none. -/
theorem CG.split {P : Program} {f : FuncId} {n sz : Nat} {cs : List T} {r : V} {Oo : List (Nat × Obj)} (h1 : n = 0 → cs = [] → CG P f [.t .zlist] [] r Oo) (h2 : CG P f [.t (.rows n sz cs)] [] r Oo) : CG P f [.t (.list n sz cs)] [] r Oo := by
  intro ok w β vs hok hg hβ hO hap hl
  simp only [VVL, VV] at hl
  obtain ⟨u, us, e, hu, rfl⟩ := hl
  rcases list_split hu with ⟨hz, hn, hc⟩ | hr
  · exact h1 hn hc ok w β vs hok hg hβ hO hap (by simp only [VVL, VV]; exact ⟨u, [], e, hz, rfl⟩)
  · exact h2 ok w β vs hok hg hβ hO hap (by simp only [VVL, VV]; exact ⟨u, [], e, hr, rfl⟩)
end Go.Tl
