/-
  Contracts of functions, calls, and the step of one operation on slots and objects. No statement of the seat is proved here.
-/
import Derived.Test.YtfbkhpfhnimnfaaTlL
namespace Go.Tl
set_option linter.unusedVariables false
set_option linter.unusedSimpArgs false

/-- A call of the function with arguments that read as told comes back, with a result that reads as told; what was there before is as it was. -/
def C (P : Program) (f : FuncId) (args : List T) (r : T) : Prop :=
  ∀ (ok : Nat → Prop) (w : World) (vs : Array Value), (∀ b, ok b → b < w.heap.size) → Glob ok w → VL w ok args vs.toList →
    ((callFunc f vs).run P w = .ok (.enter f vs) w ∧ Calls P f vs w fun e w' => ∃ v, e = .returned v ∧ w'.os = w.os ∧ w'.tape = w.tape ∧ w'.output = w.output ∧ w.heap.size ≤ w'.heap.size ∧
      (∀ b, b < w.heap.size → w'.heap[b]? = w.heap[b]?) ∧ VR w' (fun b => ok b ∨ (w.heap.size ≤ b ∧ b < w'.heap.size)) r v) ∨
    ∃ v, (callFunc f vs).run P w = .ok (.value v) w ∧ VR w ok r v

mutual
/-- A tree that leans on no memory. -/
def T.flat : T → Bool
  | .list .. | .ptr _ | .fn .. | .iface .. | .rows .. => false
  | .agg cs | .tup cs => T.flats cs
  | _ => true
def T.flats : List T → Bool
  | [] => true
  | t :: ts => t.flat && T.flats ts
end
mutual
theorem VR.flat {w w' : World} {ok ok' : Nat → Prop} : ∀ (t : T) (v : Value), t.flat = true → VR w ok t v → VR w' ok' t v
  | .int _ _, v, _, h | .bool _, v, _, h | .str _, v, _, h | .nils, v, _, h | .nilp, v, _, h | .nilf, v, _, h | .nili, v, _, h | .nilm, v, _, h | .undef, v, _, h | .zlist, v, _, h => by simpa only [VR] using h
  | .agg cs, v, hf, h => by
    simp only [VR, T.flat] at h hf ⊢
    obtain ⟨vs, h1, h2, h3⟩ := h
    exact ⟨vs, h1, h2, VL.flat cs _ hf h3⟩
  | .tup cs, v, hf, h => by
    simp only [VR, T.flat] at h hf ⊢
    obtain ⟨vs, h1, h3⟩ := h
    exact ⟨vs, h1, VL.flat cs _ hf h3⟩
  | .list .., _, hf, _ | .ptr _, _, hf, _ | .fn .., _, hf, _ | .iface .., _, hf, _ | .rows .., _, hf, _ => by simp [T.flat] at hf
theorem VL.flat {w w' : World} {ok ok' : Nat → Prop} : ∀ (ts : List T) (vs : List Value), T.flats ts = true → VL w ok ts vs → VL w' ok' ts vs
  | [], _, _, h => by simpa only [VL] using h
  | t :: ts, vs, hf, h => by
    simp only [VL, T.flats, Bool.and_eq_true] at h hf ⊢
    obtain ⟨u, us, h1, h2, h3⟩ := h
    exact ⟨u, us, h1, VR.flat t u hf.1 h2, VL.flat ts us hf.2 h3⟩
end

mutual
/-- What a callee sees of a slot: objects as they stand. -/
def snapV (O : Nat → Option Obj) : V → Option (List Prop × T)
  | .t x => some ([], x)
  | .ref i o => match O i with
    | some ob => match ob.trees with
      | some cs => some ([], .ptr (cs.drop o))
      | none => none
    | none => none
  | .own i sz n => match O i with
    | some (.cells _ cs) => some ([cs.length = n * sz], .list n sz cs)
    | _ => none
  | .view i o sz n => match O i with
    | some (.cells _ cs) => some ([o + n * sz ≤ cs.length], .list n sz ((cs.drop o).take (n * sz)))
    | _ => none
  | .mapr _ => none
  | .agg vs => match snapL O vs with
    | some (ps, ts) => some (ps, .agg ts)
    | none => none
  | .tup vs => match snapL O vs with
    | some (ps, ts) => some (ps, .tup ts)
    | none => none
  | .fn f vs => match snapL O vs with
    | some (ps, ts) => some (ps, .fn f [] ts)
    | none => none
def snapL (O : Nat → Option Obj) : List V → Option (List Prop × List T)
  | [] => some ([], [])
  | v :: vs => match snapV O v with
    | some (p, t) => match snapL O vs with
      | some (ps, ts) => some (p ++ ps, t :: ts)
      | none => none
    | none => none
end

section
variable {O : Nat → Option Obj} {β : Names} {w : World} {ok ok' : Nat → Prop}
mutual
theorem snapV_reads (hl : Lasts w ok w ok') (hf : ∀ i ob cs b z, O i = some ob → ob.trees = some cs → β i = some (b, z) → Froz w ok' b z cs) : ∀ (x : V) (v : Value) (ps : List Prop) (t : T), Tl.snapV O x = some (ps, t) → Obs ps → VV w ok β x v → VR w ok' t v
  | .t x, v, ps, t, hs, ho, hv => by
    simp only [Tl.snapV, Option.some.injEq, Prod.mk.injEq] at hs
    obtain ⟨rfl, rfl⟩ := hs
    simp only [VV] at hv
    exact VR.lasts hl _ _ hv
  | .ref i o, v, ps, t, hs, ho, hv => by
    simp only [Tl.snapV] at hs
    cases hi : O i with
    | none => simp [hi] at hs
    | some ob =>
      cases ht : ob.trees with
      | none => simp [hi, ht] at hs
      | some cs =>
        simp only [hi, ht, Option.some.injEq, Prod.mk.injEq] at hs
        obtain ⟨rfl, rfl⟩ := hs
        simp only [VV, VR] at hv ⊢
        obtain ⟨b, z, hb, rfl⟩ := hv
        have hf := hf i ob cs b z hi ht hb
        exact ⟨b, o, rfl, hf.ok, hf.va o⟩
  | .own i sz n, v, ps, t, hs, ho, hv => by
    simp only [Tl.snapV] at hs
    split at hs
    · rename_i e cs hi
      simp only [Option.some.injEq, Prod.mk.injEq] at hs
      obtain ⟨rfl, rfl⟩ := hs
      simp only [VV, VR, Obs, and_true] at hv ho ⊢
      rcases hv with ⟨b, z, cap, hb, rfl, h1, h2, h3⟩ | ⟨rfl, rfl⟩
      · have hf := hf i _ cs b z hi rfl hb
        exact ⟨ho, _, cap, rfl, h2, h3, .inr ⟨b, 0, rfl, hf.ok, by simpa using hf.va 0⟩⟩
      · exact ⟨ho, _, 0, rfl, Nat.le_refl _, Nat.zero_le _, .inl rfl⟩
    · cases hs
  | .view i o sz n, v, ps, t, hs, ho, hv => by
    simp only [Tl.snapV] at hs
    split at hs
    · rename_i e cs hi
      simp only [Option.some.injEq, Prod.mk.injEq] at hs
      obtain ⟨rfl, rfl⟩ := hs
      simp only [VV, VR, Obs, and_true] at hv ho ⊢
      rcases hv with ⟨b, z, cap, hb, o', rfl, h1, h2, h3⟩ | ⟨rfl, rfl⟩
      · have hf := hf i _ cs b z hi rfl hb
        refine ⟨by simp; omega, _, cap, rfl, h1, h2, ?_⟩
        rcases h3 with h3 | rfl
        · exact .inl h3
        · exact .inr ⟨b, o', rfl, hf.ok, VA.take _ (hf.va o')⟩
      · exact ⟨by simp, _, 0, rfl, Nat.le_refl _, Nat.zero_le _, .inl rfl⟩
    · cases hs
  | .mapr i, v, ps, t, hs, ho, hv => by simp [Tl.snapV] at hs
  | .agg vs, v, ps, t, hs, ho, hv => by
    simp only [Tl.snapV] at hs
    split at hs
    · rename_i ps' ts hl'
      simp only [Option.some.injEq, Prod.mk.injEq] at hs
      obtain ⟨rfl, rfl⟩ := hs
      simp only [VV, VR] at hv ⊢
      obtain ⟨xs, h1, h2, h3⟩ := hv
      exact ⟨xs, h1, h2, snapL_reads hl hf vs _ _ _ hl' ho h3⟩
    · cases hs
  | .tup vs, v, ps, t, hs, ho, hv => by
    simp only [Tl.snapV] at hs
    split at hs
    · rename_i ps' ts hl'
      simp only [Option.some.injEq, Prod.mk.injEq] at hs
      obtain ⟨rfl, rfl⟩ := hs
      simp only [VV, VR] at hv ⊢
      obtain ⟨xs, h1, h3⟩ := hv
      exact ⟨xs, h1, snapL_reads hl hf vs _ _ _ hl' ho h3⟩
    · cases hs
  | .fn f vs, v, ps, t, hs, ho, hv => by
    simp only [Tl.snapV] at hs
    split at hs
    · rename_i ps' ts hl'
      simp only [Option.some.injEq, Prod.mk.injEq] at hs
      obtain ⟨rfl, rfl⟩ := hs
      simp only [VV, VR] at hv ⊢
      obtain ⟨xs, h1, h3⟩ := hv
      exact ⟨#[], xs, h1, by simp only [VL], snapL_reads hl hf vs _ _ _ hl' ho h3⟩
    · cases hs
theorem snapL_reads (hl : Lasts w ok w ok') (hf : ∀ i ob cs b z, O i = some ob → ob.trees = some cs → β i = some (b, z) → Froz w ok' b z cs) : ∀ (xs : List V) (vs : List Value) (ps : List Prop) (ts : List T), Tl.snapL O xs = some (ps, ts) → Obs ps → VVL w ok β xs vs → VL w ok' ts vs
  | [], vs, ps, ts, hs, ho, hv => by
    simp only [Tl.snapL, Option.some.injEq, Prod.mk.injEq] at hs
    obtain ⟨rfl, rfl⟩ := hs
    simp only [VVL, VL] at hv ⊢
    exact hv
  | x :: xs, vs, ps, ts, hs, ho, hv => by
    simp only [Tl.snapL] at hs
    split at hs
    · rename_i p t hx
      split at hs
      · rename_i ps' ts' hl'
        simp only [Option.some.injEq, Prod.mk.injEq] at hs
        obtain ⟨rfl, rfl⟩ := hs
        rw [Obs_append] at ho
        simp only [VVL, VL] at hv ⊢
        obtain ⟨u, us, h1, h2, h3⟩ := hv
        exact ⟨u, us, h1, snapV_reads hl hf x u _ _ hx ho.1 h2, snapL_reads hl hf xs us _ _ hl' ho.2 h3⟩
      · cases hs
    · cases hs
end
end

/-! ### a nil slice is a slice without elements -/
mutual
inductive WkT : T → T → Prop
  | refl (x : T) : WkT x x
  | nil (sz : Nat) : WkT .nils (.list 0 sz [])
  | rows (n sz : Nat) (cs : List T) : WkT (.rows n sz cs) (.list n sz cs)
  | agg {xs ys : List T} (h : WkL xs ys) : WkT (.agg xs) (.agg ys)
  | tup {xs ys : List T} (h : WkL xs ys) : WkT (.tup xs) (.tup ys)
inductive WkL : List T → List T → Prop
  | nil : WkL [] []
  | cons {x y : T} {xs ys : List T} (h : WkT x y) (hs : WkL xs ys) : WkL (x :: xs) (y :: ys)
end
mutual
theorem WkT.reads {w : World} {ok : Nat → Prop} : ∀ {x y : T}, WkT x y → ∀ {v : Value}, VR w ok x v → VR w ok y v
  | _, _, .refl x, v, h => h
  | _, _, .nil sz, v, h => by
    simp only [VR] at h ⊢
    subst h
    exact ⟨by simp, none, 0, rfl, Nat.le_refl _, Nat.zero_le _, .inl trivial⟩
  | _, _, .rows n sz cs, v, h => by
    simp only [VR] at h ⊢
    obtain ⟨hl, A, cap, rfl, h1, h2, h3⟩ := h
    refine ⟨hl, _, cap, rfl, h1, h2, ?_⟩
    rcases h3 with h3 | ⟨b, o, rfl, hb, hc⟩
    · exact .inl h3
    · exact .inr ⟨b, o, rfl, hb, hc⟩
  | _, _, .agg hs, v, h => by
    simp only [VR] at h ⊢
    obtain ⟨vs, h1, h2, h3⟩ := h
    exact ⟨vs, h1, h2, WkL.reads hs h3⟩
  | _, _, .tup hs, v, h => by
    simp only [VR] at h ⊢
    obtain ⟨vs, h1, h3⟩ := h
    exact ⟨vs, h1, WkL.reads hs h3⟩
theorem WkL.reads {w : World} {ok : Nat → Prop} : ∀ {xs ys : List T}, WkL xs ys → ∀ {vs : List Value}, VL w ok xs vs → VL w ok ys vs
  | _, _, .nil, vs, h => h
  | _, _, .cons hx hs, vs, h => by
    simp only [VL] at h ⊢
    obtain ⟨u, us, h1, h2, h3⟩ := h
    exact ⟨u, us, h1, WkT.reads hx h2, WkL.reads hs h3⟩
end
theorem WkL.refl : ∀ (xs : List T), WkL xs xs
  | [] => .nil
  | x :: xs => .cons (.refl x) (WkL.refl xs)
theorem WkL.append : ∀ {xs ys us vs : List T}, WkL xs ys → WkL us vs → WkL (xs ++ us) (ys ++ vs)
  | _, _, _, _, .nil, h => h
  | _, _, _, _, .cons h1 h2, h => .cons h1 (WkL.append h2 h)

section
variable {P : Program} {E : Env} {β : Names} {N : List Nat} {S : Nat → Option V} {O : Nat → Option Obj} {a : Act} {w : World}
/-- What may be leant on while a callee runs. -/
def Snap (E : Env) (O : Nat → Option Obj) (β : Names) (w : World) (b : Nat) : Prop := Imm E O β w b ∨ ∃ i o x, O i = some o ∧ β i = some x ∧ x.1 = b
theorem R.snap_lt (h : R E β N S O a w) : ∀ b, Snap E O β w b → b < w.heap.size := fun b hb => by
  rcases hb with hb | ⟨i, o, x, h1, h2, rfl⟩
  · exact hb.2.1
  · obtain ⟨b, z, hb, hlt, _⟩ := h.objS h1 h2
    rw [h2] at hb; cases hb
    exact hlt
theorem R.froz (h : R E β N S O a w) {i b z : Nat} {ob : Obj} {cs : List T} (ho : O i = some ob) (hb : β i = some (b, z)) (ht : ob.trees = some cs) : Froz w (Snap E O β w) b z cs := by
  obtain ⟨b', z', hb', hlt, hx, hor⟩ := h.objS ho hb
  rw [hb] at hb'; cases hb'
  obtain ⟨us, g1, g2, g3⟩ := Obj.trees_reads ht hor
  exact ⟨.inr ⟨i, ob, _, ho, hb, rfl⟩, us, VL.lasts ⟨fun b hb => .inl hb, fun _ _ => rfl⟩ _ _ g1, g2, g3⟩
theorem R.snapV (h : R E β N S O a w) (x : V) (v : Value) (ps : List Prop) (t : T) (hs : Tl.snapV O x = some (ps, t)) (ho : Obs ps) (hv : VV w (Imm E O β w) β x v) : VR w (Snap E O β w) t v :=
  snapV_reads ⟨fun b hb => .inl hb, fun _ _ => rfl⟩ (fun i ob cs b z h1 h2 h3 => h.froz h1 h3 h2) x v ps t hs ho hv
theorem R.snapL (h : R E β N S O a w) (xs : List V) (vs : List Value) (ps : List Prop) (ts : List T) (hs : Tl.snapL O xs = some (ps, ts)) (ho : Obs ps) (hv : VVL w (Imm E O β w) β xs vs) : VL w (Snap E O β w) ts vs :=
  snapL_reads ⟨fun b hb => .inl hb, fun _ _ => rfl⟩ (fun i ob cs b z h1 h2 h3 => h.froz h1 h3 h2) xs vs ps ts hs ho hv

/-- The world behind a call that leaves what was there as it was. -/
theorem R.called (h : R E β N S O a w) {w' : World} (os : w'.os = w.os) (tape : w'.tape = w.tape) (output : w'.output = w.output) (size : w.heap.size ≤ w'.heap.size)
    (same : ∀ b, b < w.heap.size → w'.heap[b]? = w.heap[b]?) : R E β N S O a w' ∧ Lasts w (Imm E O β w) w' (Imm E O β w') ∧ ∀ b, w.heap.size ≤ b → b < w'.heap.size → Imm E O β w' b := by
  obtain ⟨h1, h2⟩ := h.next (w' := w') (N' := N) (O' := O) (β' := β) os tape output size (fun b hb _ => same b (Nat.lt_of_lt_of_le hb h.size)) (fun _ _ => rfl) (fun _ h => h) (fun i x hn _ hx => absurd (h.inN hx) hn) h.dom
    (fun b hb => ⟨⟨hb.1, Nat.lt_of_lt_of_le hb.2.1 size, hb.2.2⟩, same b hb.2.1⟩)
    (fun i o ho => .inl ⟨ho, fun x hx => by
      obtain ⟨b, z, hb, hlt, _⟩ := h.objS ho hx
      rw [hx] at hb; cases hb
      exact same _ hlt⟩) h.apart
  refine ⟨h1, h2, fun b hb hlt => ⟨.inr (.inl (Nat.le_trans h.size hb)), hlt, fun i o x ho hx e => ?_⟩⟩
  obtain ⟨b', z, hb', hlt', _⟩ := h.objS ho hx
  rw [hx] at hb'; cases hb'
  simp only at e
  omega

/-- A call. -/
theorem R.call (h : R E β N S O a w) {f : FuncId} {pre caps : List T} {vf : Value} (hf : VR w (Imm E O β w) (.fn f pre caps) vf) {xs : List V} {vs : List Value} (hvs : VVL w (Imm E O β w) β xs vs)
    {ts ts' : List T} {ps : List Prop} {r : T} (hr : pures xs = some ts ∨ (r.flat = true ∧ Tl.snapL O xs = some (ps, ts) ∧ Obs ps)) (hw : WkL ts ts') (hC : C P f (pre ++ (ts' ++ caps)) r) {dst : Option Nat} {Q : Exit → Act → World → Prop} {K : Act → World → Prop}
    (hK : ∀ v w', R E β N S O a w' → VR w' (Imm E O β w') r v → K (a.put dst v) w') {o : Oper} (hdst : o.dst = dst) {d : Deferred}
    (hd : (Deferred.ofValue vf vs.toArray).run P w = .ok d w)
    (hrun : (execOp a.eval o).run P w = (invoke d.target d.args).run P w) : o.wp P a w K Q := by
  subst hdst
  simp only [VR] at hf
  obtain ⟨pv, cv, rfl, hpv, hcv⟩ := hf
  simp only [Deferred.ofValue, Sem.run_pure, Result.ok.injEq, and_true] at hd
  subst hd
  simp only [invoke] at hrun
  have hargs : ((pv ++ vs.toArray) ++ cv : Array Value).toList = pv.toList ++ (vs ++ cv.toList) := by simp
  unfold Oper.wp
  rw [hrun]
  have key : ∀ (ok : Nat → Prop), (∀ b, ok b → b < w.heap.size) → Glob ok w → VL w ok (pre ++ (ts' ++ caps)) (pv.toList ++ (vs ++ cv.toList)) →
      (∀ w' v, R E β N S O a w' → Lasts w (Imm E O β w) w' (Imm E O β w') → (∀ b, w.heap.size ≤ b → b < w'.heap.size → Imm E O β w' b) → w.heap.size ≤ w'.heap.size → VR w' (fun b => ok b ∨ (w.heap.size ≤ b ∧ b < w'.heap.size)) r v → VR w' (Imm E O β w') r v) →
      o.upon P a K Q ((callFunc f (pv ++ vs.toArray ++ cv)).run P w) := by
    intro ok hok hg hl hres
    rcases hC ok w _ hok hg (by rw [hargs]; exact hl) with ⟨h1, h2⟩ | ⟨v, h1, h2⟩
    · rw [h1]
      refine Calls.mono h2 fun e w' he => ?_
      obtain ⟨v, rfl, os, tape, output, size, same, hv⟩ := he
      obtain ⟨k1, k2, k3⟩ := h.called os tape output size same
      exact hK v w' k1 (hres w' v k1 k2 k3 size hv)
    · rw [h1]
      exact hK v w h (hres w v h (Lasts.refl _ _) (fun b h1 h2 => absurd h2 (Nat.not_lt.2 h1)) (Nat.le_refl _) (VR.lasts ⟨fun b hb => .inl hb, fun _ _ => rfl⟩ _ _ h2))
  rcases hr with hp | ⟨hflat, hs, ho⟩
  · exact key (Imm E O β w) (fun b hb => hb.2.1) h.globI (VL.append hpv (VL.append (hw.reads (VVL.pures hp hvs)) hcv)) (fun w' v k1 k2 k3 ksz hv => by
      refine VR.lasts ⟨fun b hb => ?_, fun _ _ => rfl⟩ _ _ hv
      rcases hb with hb | ⟨hb1, hb2⟩
      · exact k2.lets b hb
      · exact k3 b hb1 hb2)
  · exact key (Snap E O β w) h.snap_lt (Glob.lasts ⟨fun b hb => .inl hb, fun _ _ => rfl⟩ h.globI) (VL.append (VL.lasts ⟨fun b hb => .inl hb, fun _ _ => rfl⟩ _ _ hpv) (VL.append (hw.reads (R.snapL h xs vs ps ts hs ho hvs)) (VL.lasts ⟨fun b hb => .inl hb, fun _ _ => rfl⟩ _ _ hcv))) (fun w' v k1 k2 k3 ksz hv => VR.flat _ _ hflat hv)
end
end Go.Tl
