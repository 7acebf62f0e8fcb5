/-
  From contracts to the rows: what the arguments of a law read as, and the row's last step. No statement of the seat is proved here.
-/
import Derived.Test.YtfbkhpfhnimnfaaTlV
import Derived.ProofKit
import Derived.Below
import Derived.ChangeSame
import Derived.Carry
import Derived.OpenShut
namespace Go.Tl
open Go.RowKit Go.WideShapes Go.ChangeShapes Go.ChangeAt
set_option linter.unusedVariables false
set_option linter.unusedSimpArgs false

section
variable {H : Type} {enc : TypeId × Value → H} {P : Program}
theorem post_of_below {f : Func} {s : ChangeSpec} {apart fresh handsOn again : Bool} {W W' : World} {args : Array Value} {v : Value} {ds gs : List (DataW H)} {before pa pv : List MemPlace}
    (hW : DataW.Whole enc P f.params.toList s.vars apart W args.toList ds gs before)
    (hres : ∀ (b : Nat) (sp : Nat → Bool) (hd : Bool), DataW.TrodAll enc P W' b sp hd f.resultTypes.toList (v.resultList f.resultTypes.size) (s.fn H (ds ++ gs)).results [])
    (hargs : ∀ sp : Nat → Bool, (∀ p ∈ before, sp p.block = true) → DataW.TrodAll enc P W' 0 sp true f.params.toList args.toList (s.fn H (ds ++ gs)).args pa)
    (hvars : ∀ sp : Nat → Bool, (∀ p ∈ before, sp p.block = true) → DataW.TrodVars enc P W' sp s.vars (s.fn H (ds ++ gs)).vars pv)
    (hps : before = pa ++ pv) (hb : Below W.heap.size W W')
    (hok : ∀ (j : Nat) (t : TypeId) (r : Value), f.resultTypes[j]? = some t → (v.resultList f.resultTypes.size)[j]? = some r → Value.okWide P W' .any 0 t r) :
    s.post enc P f apart fresh handsOn again W args v W' := by
  have hlt : ∀ p ∈ before, p.block < W.heap.size := fun p hp => hW.lt p hp
  have hold : ∀ p ∈ before, (fun b => decide (b < W.heap.size)) p.block = true := fun p hp => by simpa using hlt p hp
  refine ⟨ds, gs, before, [], pa, pv, hW, hres _ _ _, hargs _ hold, hvars _ hold, World.keptBut_mono (fun p hp => ⟨hp, ?_⟩) (hb.frame (· ∈ before)), fun _ => ?_⟩
  · rw [hps, List.mem_append] at hp
    exact Or.inr hp
  · obtain ⟨_, _, _, _, _, hz, hn⟩ := hW
    refine ⟨hok, _, _, ([] ++ pa) ++ pv, ⟨[] ++ pa, pv, trodAll_append (hargs _ (fun _ _ => rfl)) (hres _ _ _), hvars _ (fun _ _ => rfl), rfl, ?_, ?_⟩, ?_⟩
    · intro b off hp
      have hin : MemPlace.cell b off ∈ before := by rw [hps]; simpa using hp
      rw [hb.frozen (hlt _ hin)]
      exact hz b off hin
    · intro ha
      have := hn ha
      rw [hps] at this
      simpa using this
    · intro p hp _
      rw [hps]
      simpa using hp

/-- Arguments read as they did, where nothing old has turned; told for a spare that says yes to their places. -/
theorem trodAll_stays (hl : laidOutB P = true) {W W' : World} (hb : Below W.heap.size W W') {sp : Nat → Bool} : ∀ {ts : List TypeId} {vs : List Value} {ds : List (DataW H)} {ps : List MemPlace},
    (∀ t ∈ ts, P.readableRec t = true ∧ t < P.types.size) → DataW.TrodAll enc P W 0 (fun _ => true) true ts vs ds ps → (∀ x ∈ ps, x.block < W.heap.size) → (∀ x ∈ ps, sp x.block = true) → DataW.TrodAll enc P W' 0 sp true ts vs ds ps
  | [], vs, ds, ps, _, h, _, _ => by
    cases vs <;> cases ds <;> simp_all [DataW.TrodAll]
  | t :: ts, vs, ds, ps, hr, h, hlt, hsp => by
    obtain ⟨v0, vs0, d0, ds0, p0, q0, rfl, rfl, rfl, h0, r0⟩ := trodAll_cons h
    have k := WideElems.Trod_stays hl (hr t List.mem_cons_self).1 (hr t List.mem_cons_self).2 h0 (fun x hx => hb.same (hlt x (List.mem_append_left _ hx))) (fun x hx => hsp x (List.mem_append_left _ hx))
    exact trodAll_cons_mk k (trodAll_stays hl hb (fun u hu => hr u (List.mem_cons_of_mem _ hu)) r0 (fun x hx => hlt x (List.mem_append_right _ hx)) (fun x hx => hsp x (List.mem_append_right _ hx)))
end

/-- Whatever was there at the call may be leant on. -/
abbrev Old (W : World) (b : Nat) : Prop := b < W.heap.size

/-- THE ROW'S STEP: a law whose contract says true, and that takes arguments alone. -/
theorem law_callsG {H : Type} {enc : TypeId × Value → H} {P : Program} {f : FuncId} {fn : Func} {s : ChangeSpec} (hl : laidOutB P = true) (hf : P.funcs[f]? = some fn) (hrun : ∀ (vs : Array Value) (w : World), (callFunc f vs).run P w = .ok (.enter f vs) w)
    {tb : TypeId} (hres : fn.resultTypes = #[tb]) (htb : P.underlying tb = some .bool) (hr : ∀ t ∈ fn.params.toList, P.readableRec t = true ∧ t < P.types.size) (hvars : s.vars = [])
    {W : World} {args : Array Value} {ds gs : List (DataW H)} {before : List MemPlace} (hW : DataW.Whole enc P fn.params.toList s.vars false W args.toList ds gs before)
    (hfn : (s.fn H (ds ++ [])).results = [.lit (.bool true)] ∧ (s.fn H (ds ++ [])).args = ds ∧ (s.fn H (ds ++ [])).vars = [])
    {ts : List T} (hts : VL W (Old W) ts args.toList) (hC : C P f ts (.bool true)) (hG : Glob (Old W) W) :
    Calls P f args W fun e W' => ∃ v, e = .returned v ∧ s.post enc P fn false true false false W args v W' := by
  have hW' := hW
  have hlt : ∀ p ∈ before, p.block < W.heap.size := fun p hp => hW.lt p hp
  obtain ⟨p, q, hA, hV, rfl, hfz, hnd⟩ := hW
  rw [hvars] at hV
  obtain ⟨rfl, rfl⟩ := trodVars_none hV
  rcases hC (Old W) W args (fun b hb => hb) hG hts with ⟨_, h2⟩ | ⟨v, h1, _⟩
  · refine h2.mono fun e W' he => ?_
    obtain ⟨v, rfl, os, tape, output, size, same, hv⟩ := he
    simp only [VR] at hv
    subst hv
    have hb : Below W.heap.size W W' := ⟨os, tape, output, size, same⟩
    refine ⟨_, rfl, post_of_below (pa := p) (pv := []) hW' (fun b sp hd => ?_) (fun sp hsp => ?_) (fun sp _ => ?_) (by simp) hb (ok_one hres rfl (okWide_bool_mk htb _))⟩
    · rw [hfn.1, hres]
      exact trodAll_cons_mk (shut_bool htb _) trodAll_mk0
    · rw [hfn.2.1]
      exact trodAll_stays hl hb hr hA (fun x hx => hlt x (by simpa using hx)) (fun x hx => hsp x (by simpa using hx))
    · rw [hfn.2.2, hvars]
      rfl
  · rw [hrun] at h1; cases h1

/-! ### what values read as -/
section
variable {H : Type} {enc : TypeId × Value → H} {P : Program} {w : World} {sp : Nat → Bool} {held : Bool}
theorem rd_ints {t e : TypeId} {k : IntKind} {fuel : Nat} {cs : List Value} {x : DataW H × List MemPlace} (ht : P.underlying t = some (.slice e)) (he : P.underlying e = some (.int k)) (hc : P.cellsOf e = 1)
    (h : DataW.trod enc P w 0 sp held fuel t cs = some x) : ∃ (v : Value) (xs : List Int), cs = [v] ∧ v.oneCell' = true ∧ VR w (Old w) (.list xs.length 1 (xs.map (T.int k))) v ∧ (∀ n ∈ xs, (Lit.int k n).wf = true) ∧ xs.length ≤ maxLen := by
  rcases DataW.trod_slice ht h with ⟨rfl, _⟩ | ⟨a, len, cap, elems, rest, n, _, rfl, _, _, hl, hm, hlen, hel, _, _⟩
  · exact ⟨_, [], rfl, rfl, by simp only [VR]; exact ⟨rfl, none, 0, rfl, Nat.le_refl _, Nat.zero_le _, .inl rfl⟩, by simp, Nat.zero_le _⟩
  · have each : ∀ i, i < len → ∃ m, w.cell? (a.add i) = some (.int k m) ∧ (Lit.int k m).wf = true := fun i hi => by
      have := hel i hi
      rw [hc, Nat.mul_one] at this
      have hsome : ∃ y, elems[i]? = some y := ⟨_, List.getElem?_eq_getElem (by omega)⟩
      obtain ⟨y, hy⟩ := hsome
      rw [hy] at this
      obtain ⟨cs', h1, h2⟩ := Option.bind_eq_some_iff.1 this
      obtain ⟨m, rfl, _, hw⟩ := DataW.trod_int he h2
      have h3 := (World.cells?_some h1).2.2 0 (by omega)
      exact ⟨m, by simpa [Addr.add] using h3, hw⟩
    refine ⟨_, (List.range len).map fun i => match w.cell? (a.add i) with | some (.int _ m) => m | _ => 0, rfl, rfl, ?_, fun n hn => ?_, by simpa using Nat.le_trans hl hm⟩
    · simp only [VR]
      refine ⟨by simp, some a, cap, by simp, by simpa using hl, hm, ?_⟩
      by_cases h0 : len = 0
      · left; simp [h0]
      · right
        obtain ⟨m0, hm0, _⟩ := each 0 (by omega)
        have hsp : a.spot = none := by
          cases hs : a.spot with
          | none => rfl
          | some s =>
            exfalso
            unfold World.cell? Addr.add at hm0
            simp only [hs] at hm0
            split at hm0 <;> simp_all
        obtain ⟨b, o, s⟩ := a
        simp only at hsp
        subst hsp
        refine ⟨b, o, rfl, ?_, VA.of fun i t hi => ?_⟩
        · rw [Addr.add_mid] at hm0
          exact World.block_lt_of_cell? w ⟨b, o + 0, none⟩ hm0
        · have hil : i < len := by
            have := (List.getElem?_eq_some_iff.1 hi).1
            simpa using this
          obtain ⟨m, h1, _⟩ := each i hil
          refine ⟨.int k m, by rw [← Addr.add_mid]; exact h1, rfl, ?_⟩
          rw [List.getElem?_map, List.getElem?_map, List.getElem?_range hil] at hi
          simp only [Option.map_some, Option.some.injEq, h1] at hi
          subst hi
          simp only [VR]
    · simp only [List.mem_map, List.mem_range] at hn
      obtain ⟨i, hi, rfl⟩ := hn
      obtain ⟨m, h1, h2⟩ := each i hi
      rw [h1]; exact h2
theorem vl_one {ok : Nat → Prop} {a : T} {x : Value} (h1 : VR w ok a x) : VL w ok [a] [x] := by
  simp only [VL]; exact ⟨_, _, rfl, h1, rfl⟩
end
end Go.Tl
