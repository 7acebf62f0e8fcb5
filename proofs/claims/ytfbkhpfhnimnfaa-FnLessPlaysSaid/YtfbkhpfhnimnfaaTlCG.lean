/-
  Contracts of functions that write objects that are handed to them, or whose results are new objects; a call of such a function. No statement of the seat is proved here.
-/
import Derived.Test.YtfbkhpfhnimnfaaTlM
namespace Go.Tl
set_option linter.unusedVariables false
set_option linter.unusedSimpArgs false

def keysO (l : List (Nat × Obj)) : List Nat := l.map (·.1)

/-- A call with the objects Oi at hand (their names are below 1000) comes back; behind it the objects are Oo: those of them with names of Oi are where they were. -/
def CG (P : Program) (f : FuncId) (args : List V) (Oi : List (Nat × Obj)) (r : V) (Oo : List (Nat × Obj)) : Prop :=
  ∀ (ok : Nat → Prop) (w : World) (β : Names) (vs : Array Value), (∀ b, ok b → b < w.heap.size) → Glob ok w →
    (∀ i x, β i = some x → i < 1000 ∧ i ∈ keysO Oi ∧ ¬ ok x.1 ∧ x.1 < w.heap.size) →
    (∀ i o, lk Oi i = some o → (∃ b z, β i = some (b, z) ∧ OR w ok β b z o) ∨ (i < 1000 ∧ β i = none ∧ ∃ e, o = .cells e [])) →
    (∀ i j x x', β i = some x → β j = some x' → i ≠ j → x.1 ≠ x'.1) →
    VVL w ok β args vs.toList →
    (callFunc f vs).run P w = .ok (.enter f vs) w ∧ Calls P f vs w fun e w' => ∃ v β', e = .returned v ∧ w'.os = w.os ∧ w'.tape = w.tape ∧ w'.output = w.output ∧ w.heap.size ≤ w'.heap.size ∧
      (∀ b, b < w.heap.size → (∀ i x, β i = some x → x.1 ≠ b) → w'.heap[b]? = w.heap[b]?) ∧
      (∀ i, i ∈ keysO Oi → β' i = β i) ∧
      (∀ i x, 2000 ≤ i → β' i = some x → w.heap.size ≤ x.1) ∧
      (∀ i o, lk Oo i = some o → (∃ b z, β' i = some (b, z) ∧ b < w'.heap.size ∧ (w.heap.size ≤ b ∨ ∃ j z', β j = some (b, z')) ∧ OR w' (Imm ⟨ok, w, fun b => ∃ i x, β i = some x ∧ x.1 = b, fun _ => False, fun _ => none⟩ (lk Oo) β' w') β' b z o) ∨ (β' i = none ∧ ∃ e, o = .cells e [])) ∧
      (∀ i j o o' x x', lk Oo i = some o → lk Oo j = some o' → β' i = some x → β' j = some x' → i ≠ j → x.1 ≠ x'.1) ∧
      VV w' (Imm ⟨ok, w, fun b => ∃ i x, β i = some x ∧ x.1 = b, fun _ => False, fun _ => none⟩ (lk Oo) β' w') β' r v

/-! ### slots that lean on no memory but the objects -/
mutual
def V.flat : V → Bool
  | .t x => x.flat
  | .agg vs => V.flats vs
  | .tup vs => V.flats vs
  | .fn _ vs => V.flats vs
  | _ => true
def V.flats : List V → Bool
  | [] => true
  | v :: vs => v.flat && V.flats vs
end
def flatEs : List (T × T) → Bool
  | [] => true
  | (k, x) :: es => k.flat && x.flat && flatEs es
def Obj.flat : Obj → Bool
  | .cells _ cs => T.flats cs
  | .vars _ vs => V.flats vs
  | .map es => flatEs es
section
variable {w : World} {ok ok' : Nat → Prop} {β : Names}
mutual
theorem VV.flat : ∀ (x : V) (v : Value), x.flat = true → VV w ok β x v → VV w ok' β x v
  | .t x, v, hf, h => by simp only [VV, V.flat] at h hf ⊢; exact VR.flat x v hf h
  | .ref .., v, _, h | .own .., v, _, h | .view .., v, _, h | .mapr _, v, _, h => by simpa only [VV] using h
  | .agg vs, v, hf, h => by
    simp only [VV, V.flat] at h hf ⊢
    obtain ⟨xs, h1, h2, h3⟩ := h
    exact ⟨xs, h1, h2, VVL.flat vs _ hf h3⟩
  | .tup vs, v, hf, h => by
    simp only [VV, V.flat] at h hf ⊢
    obtain ⟨xs, h1, h3⟩ := h
    exact ⟨xs, h1, VVL.flat vs _ hf h3⟩
  | .fn f vs, v, hf, h => by
    simp only [VV, V.flat] at h hf ⊢
    obtain ⟨xs, h1, h3⟩ := h
    exact ⟨xs, h1, VVL.flat vs _ hf h3⟩
theorem VVL.flat : ∀ (xs : List V) (vs : List Value), V.flats xs = true → VVL w ok β xs vs → VVL w ok' β xs vs
  | [], vs, _, h => by simpa only [VVL] using h
  | x :: xs, vs, hf, h => by
    simp only [VVL, V.flats, Bool.and_eq_true] at h hf ⊢
    obtain ⟨u, us, h1, h2, h3⟩ := h
    exact ⟨u, us, h1, VV.flat x u hf.1 h2, VVL.flat xs us hf.2 h3⟩
end
theorem VLP.flat : ∀ (es : List (T × T)) (ms : List MapEntry), flatEs es = true → VLP w ok es ms → VLP w ok' es ms
  | [], ms, _, h => by simpa only [VLP] using h
  | (k, x) :: es, ms, hf, h => by
    simp only [VLP, flatEs, Bool.and_eq_true] at h hf ⊢
    obtain ⟨m, r, h1, h2, h3, h4⟩ := h
    exact ⟨m, r, h1, VR.flat k _ hf.1.1 h2, VR.flat x _ hf.1.2 h3, VLP.flat es r hf.2 h4⟩
theorem OR.flat {b z : Nat} : ∀ {o : Obj}, o.flat = true → OR w ok β b z o → OR w ok' β b z o
  | .cells e cs, hf, h => by
    simp only [OR, Obj.flat] at h hf ⊢
    obtain ⟨arr, us, rest, h1, h2, h3, h5, h4⟩ := h
    exact ⟨arr, us, rest, h1, h2, h3, h5, VL.flat _ _ hf h4⟩
  | .vars e vs, hf, h => by
    simp only [OR, Obj.flat] at h hf ⊢
    obtain ⟨arr, us, rest, h1, h2, h3, h5, h4⟩ := h
    exact ⟨arr, us, rest, h1, h2, h3, h5, VVL.flat _ _ hf h4⟩
  | .map es, hf, h => by
    simp only [OR, Obj.flat] at h hf ⊢
    obtain ⟨ms, clock, h1, h2, h3⟩ := h
    exact ⟨ms, clock, h1, VLP.flat _ _ hf h2, h3⟩
end

/-! ### names taken back -/
section
variable {w : World} {ok : Nat → Prop} {β β' : Names}
mutual
theorem VV.unren {N : List Nat} {f : Nat → Nat} (hf : ∀ i, i ∈ N → β' (f i) = β i) : ∀ (x : V) (v : Value), x.inN N = true → VV w ok β' (x.ren f) v → VV w ok β x v
  | .t x, v, _, hv => by simp only [V.ren, VV] at hv ⊢; exact hv
  | .ref i o, v, hn, hv => by simp only [V.ren, VV, V.inN, List.contains_eq_mem, decide_eq_true_eq] at hv hn ⊢; rw [hf i hn] at hv; exact hv
  | .own i sz n, v, hn, hv => by simp only [V.ren, VV, V.inN, List.contains_eq_mem, decide_eq_true_eq] at hv hn ⊢; rw [hf i hn] at hv; exact hv
  | .view i o sz n, v, hn, hv => by simp only [V.ren, VV, V.inN, List.contains_eq_mem, decide_eq_true_eq] at hv hn ⊢; rw [hf i hn] at hv; exact hv
  | .mapr i, v, hn, hv => by simp only [V.ren, VV, V.inN, List.contains_eq_mem, decide_eq_true_eq] at hv hn ⊢; rw [hf i hn] at hv; exact hv
  | .agg vs, v, hn, hv => by
    simp only [V.ren, VV, V.inN] at hv hn ⊢
    obtain ⟨xs, h1, h2, h3⟩ := hv
    exact ⟨xs, h1, h2, VVL.unren hf vs _ hn h3⟩
  | .tup vs, v, hn, hv => by
    simp only [V.ren, VV, V.inN] at hv hn ⊢
    obtain ⟨xs, h1, h3⟩ := hv
    exact ⟨xs, h1, VVL.unren hf vs _ hn h3⟩
  | .fn g vs, v, hn, hv => by
    simp only [V.ren, VV, V.inN] at hv hn ⊢
    obtain ⟨xs, h1, h3⟩ := hv
    exact ⟨xs, h1, VVL.unren hf vs _ hn h3⟩
theorem VVL.unren {N : List Nat} {f : Nat → Nat} (hf : ∀ i, i ∈ N → β' (f i) = β i) : ∀ (xs : List V) (vs : List Value), V.inNL N xs = true → VVL w ok β' (V.renL f xs) vs → VVL w ok β xs vs
  | [], vs, _, hv => by simp only [V.renL, VVL] at hv ⊢; exact hv
  | x :: xs, vs, hn, hv => by
    simp only [V.renL, VVL, V.inNL, Bool.and_eq_true] at hv hn ⊢
    obtain ⟨u, us, rfl, h1, h2⟩ := hv
    exact ⟨u, us, rfl, VV.unren hf x u hn.1 h1, VVL.unren hf xs us hn.2 h2⟩
end
theorem OR.unren {N : List Nat} {f : Nat → Nat} (hf : ∀ i, i ∈ N → β' (f i) = β i) {b z : Nat} (o : Obj) (hn : o.inN N = true) (h : OR w ok β' b z (o.ren f)) : OR w ok β b z o := by
  cases o with
  | cells e cs => simp only [OR, Obj.ren] at h ⊢; exact h
  | map es => simp only [OR, Obj.ren] at h ⊢; exact h
  | vars e vs =>
    simp only [OR, Obj.ren, Obj.inN] at h hn ⊢
    obtain ⟨arr, us, rest, h1, h2, h3, h4, h5⟩ := h
    exact ⟨arr, us, rest, h1, h2, h3, h4, VVL.unren hf vs us hn h5⟩
end

/-! ### what the call does to the caller's objects -/
def effG (F : Nat → Nat) (Oi Oo : List (Nat × Obj)) : List (Nat × Option Obj) :=
  Oi.map (fun x => (F x.1, none)) ++ Oo.map (fun x => (F x.1, some (x.2.ren F)))
def newG (F : Nat → Nat) (Oi Oo : List (Nat × Obj)) : List Nat :=
  ((keysO Oo).filter fun k => !(keysO Oi).contains k).map F
def nodupN : List Nat → Bool
  | [] => true
  | x :: xs => !xs.contains x && nodupN xs
theorem effs_app : ∀ (a b : List (Nat × Option Obj)) (O : Nat → Option Obj), effs (a ++ b) O = effs b (effs a O)
  | [], b, O => rfl
  | (i, x) :: a, b, O => by simp only [List.cons_append, effs]; exact effs_app a b _
theorem effs_none (F : Nat → Nat) : ∀ (l : List (Nat × Obj)) (O : Nat → Option Obj) (j : Nat), effs (l.map fun x => (F x.1, none)) O j = if j ∈ (keysO l).map F then none else O j
  | [], O, j => by simp [effs, keysO]
  | (i, x) :: l, O, j => by
    have hk : keysO ((i, x) :: l) = i :: keysO l := rfl
    simp only [List.map_cons, effs, hk]
    rw [effs_none F l]
    by_cases h : j ∈ List.map F (keysO l)
    · rw [if_pos h, if_pos (List.mem_cons_of_mem _ h)]
    · rw [if_neg h]
      by_cases e : j = F i
      · rw [if_pos (by rw [e]; exact List.mem_cons_self)]; simp [upd, e]
      · rw [if_neg (fun hh => (List.mem_cons.1 hh).elim e h)]; simp [upd, e]
theorem effs_some (F : Nat → Nat) : ∀ (l : List (Nat × Obj)) (O : Nat → Option Obj) (j : Nat) (o' : Obj), nodupN (keysO l) = true → (∀ a b, a ∈ keysO l → b ∈ keysO l → F a = F b → a = b) → effs (l.map fun x => (F x.1, some (x.2.ren F))) O j = some o' →
    (∃ k o, lk l k = some o ∧ F k = j ∧ o' = o.ren F) ∨ (O j = some o' ∧ ∀ k ∈ keysO l, F k ≠ j)
  | [], O, j, o', _, _, h => .inr ⟨by simpa [effs] using h, by simp [keysO]⟩
  | (i, x) :: l, O, j, o', hd, hi, h => by
    simp only [List.map_cons, effs] at h
    simp only [keysO, List.map_cons, nodupN, Bool.and_eq_true, Bool.not_eq_true'] at hd
    rcases effs_some F l _ j o' hd.2 (fun a b ha hb => hi a b (List.mem_cons_of_mem _ ha) (List.mem_cons_of_mem _ hb)) h with ⟨k, o, h1, h2, h3⟩ | ⟨h1, h2⟩
    · refine .inl ⟨k, o, ?_, h2, h3⟩
      simp only [lk]
      have hk : k ∈ keysO l := by
        clear h hd hi
        induction l with
        | nil => simp [lk] at h1
        | cons y l ih =>
          simp only [lk] at h1
          simp only [keysO, List.map_cons, List.mem_cons]
          split at h1
          · rename_i e; exact .inl e
          · exact .inr (ih h1)
      have hne : k ≠ i := fun e => by
        subst e
        simp only [keysO] at hk
        have := hd.1
        simp [hk] at this
      rw [if_neg hne]; exact h1
    · by_cases e : j = F i
      · subst e
        rw [upd_same] at h1
        cases h1
        exact .inl ⟨i, x, by simp [lk], rfl, rfl⟩
      · rw [upd_other _ _ _ _ e] at h1
        refine .inr ⟨h1, fun k hk => ?_⟩
        simp only [keysO, List.map_cons, List.mem_cons] at hk
        rcases hk with rfl | hk
        · exact Ne.symm e
        · exact h2 k hk
theorem lk_keys : ∀ {l : List (Nat × Obj)} {i : Nat} {o : Obj}, lk l i = some o → i ∈ keysO l
  | [], i, o, h => by simp [lk] at h
  | (j, x) :: r, i, o, h => by
    simp only [lk] at h
    simp only [keysO, List.map_cons, List.mem_cons]
    split at h
    · rename_i e; exact .inl e
    · exact .inr (lk_keys h)
theorem keys_lk : ∀ {l : List (Nat × Obj)} {i : Nat}, i ∈ keysO l → ∃ o, lk l i = some o
  | [], i, h => by simp [keysO] at h
  | (j, x) :: r, i, h => by
    simp only [keysO, List.map_cons, List.mem_cons] at h
    simp only [lk]
    by_cases e : i = j
    · exact ⟨x, by rw [if_pos e]⟩
    · rw [if_neg e]; exact keys_lk (h.resolve_left e)

section
variable {P : Program} {E : Env} {β : Names} {N : List Nat} {S : Nat → Option V} {O : Nat → Option Obj} {a : Act} {w : World}
/-- What a call with objects leads to. -/
theorem R.callG (h : R E β N S O a w) {g : FuncId} {F : Nat → Nat} {Oi Oo : List (Nat × Obj)} {fa : List V} {r : V} (hC : CG P g fa Oi r Oo)
    (hi : ∀ i o, lk Oi i = some o → i < 1000 ∧ O (F i) = some (o.ren F) ∧ o.inN (keysO Oi) = true)
    (hd : nodupN (keysO Oo) = true) (hinj : ∀ i j, (i ∈ keysO Oi ∨ i ∈ keysO Oo) → (j ∈ keysO Oi ∨ j ∈ keysO Oo) → F i = F j → i = j)
    (hnew : ∀ j ∈ newG F Oi Oo, j ∉ N) (h2000 : ∀ i, i ∈ keysO Oo → i ∉ keysO Oi → 2000 ≤ F i → 2000 ≤ i ∨ ∀ j, j ∈ keysO Oi → 2000 ≤ F j)
    (hoN : ∀ i o, lk Oo i = some o → o.inN (keysO Oi ++ keysO Oo) = true) (hrN : r.inN (keysO Oi ++ keysO Oo) = true)
    {okc : Nat → Prop} (hok0 : ∀ b, Imm E O β w b → okc b) (hok1 : ∀ b, okc b → b < w.heap.size ∧ ∀ i o x, lk Oi i = some o → β (F i) = some x → x.1 ≠ b)
    (hok2 : (∀ b, okc b → Imm E O β w b) ∨ (r.flat = true ∧ ∀ i o, lk Oo i = some o → o.flat = true))
    {vs : Array Value} (hargs : VVL w okc (fun i => if i ∈ keysO Oi then β (F i) else none) fa vs.toList) {Q : Value → World → Prop}
    (hQ : ∀ β' v w', R E β' (newG F Oi Oo ++ N) S (effs (effG F Oi Oo) O) a w' → VV w' (Imm E (effs (effG F Oi Oo) O) β' w') β' (r.ren F) v → Q v w') :
    (callFunc g vs).run P w = .ok (.enter g vs) w ∧ Calls P g vs w fun e w' => ∃ v, e = .returned v ∧ Q v w' := by
  have hβc : ∀ i x, (if i ∈ keysO Oi then β (F i) else none) = some x → i ∈ keysO Oi ∧ β (F i) = some x := fun i x hx => by
    split at hx
    · rename_i hm; exact ⟨hm, hx⟩
    · cases hx
  have hβi : ∀ i, i ∈ keysO Oi → (fun i => if i ∈ keysO Oi then β (F i) else none) i = β (F i) := fun i hm => by simp only [if_pos hm]
  obtain ⟨c1, c2⟩ := hC okc w (fun i => if i ∈ keysO Oi then β (F i) else none) vs (fun b hb => (hok1 b hb).1) (Glob.lasts ⟨hok0, fun _ _ => rfl⟩ h.globI)
    (fun i x hx => by
      obtain ⟨hm, hx⟩ := hβc i x hx
      obtain ⟨o, ho⟩ := keys_lk hm
      obtain ⟨k1, k2, k3⟩ := hi i o ho
      obtain ⟨b, z, hb, hlt, _⟩ := h.objS k2 hx
      rw [hx] at hb; cases hb
      exact ⟨k1, hm, fun hk => (hok1 _ hk).2 i o _ ho hx rfl, hlt⟩)
    (fun i o ho => by
      obtain ⟨k1, k2, k3⟩ := hi i o ho
      have hm := lk_keys ho
      rcases h.objs _ _ k2 with ⟨b, z, hb, hlt, _, hor⟩ | ⟨g1, g2, e, g3⟩
      · refine .inl ⟨b, z, by rw [if_pos hm]; exact hb, ?_⟩
        exact OR.lasts ⟨hok0, fun _ _ => rfl⟩ (fun _ _ h => h) rfl (OR.unren (N := keysO Oi) (fun j hj => (hβi j hj).symm) o k3 hor)
      · refine .inr ⟨k1, by rw [if_pos hm]; exact g2, e, ?_⟩
        cases o <;> simp [Obj.ren] at g3 ⊢
        exact g3)
    (fun i j x x' hx hx' hne => by
      obtain ⟨hm, hx⟩ := hβc i x hx
      obtain ⟨hm', hx'⟩ := hβc j x' hx'
      obtain ⟨o, ho⟩ := keys_lk hm
      obtain ⟨o', ho'⟩ := keys_lk hm'
      exact h.apart _ _ _ _ x x' (hi i o ho).2.1 (hi j o' ho').2.1 hx hx' (fun e => hne (hinj i j (.inl hm) (.inl hm') e)))
    hargs
  refine ⟨c1, Calls.mono c2 fun e w' he => ?_⟩
  obtain ⟨v, β', rfl, os, tape, output, size, same, keep, news, objs, apart, hv⟩ := he
  refine ⟨v, rfl, ?_⟩
  -- the caller's names behind the call
  let β'' : Names := fun j => match ((keysO Oo).filter fun k => !(keysO Oi).contains k).find? (fun k => F k == j) with
    | some k => β' k
    | none => β j
  have hnm : ∀ k, k ∈ keysO Oo → k ∉ keysO Oi → F k ∉ N := fun k hk hn => hnew (F k) (List.mem_map.2 ⟨k, List.mem_filter.2 ⟨hk, by simpa using hn⟩, rfl⟩)
  have hFi : ∀ k, k ∈ keysO Oi → F k ∈ N := fun k hk => by
    obtain ⟨o, ho⟩ := keys_lk hk
    rcases h.objs _ _ (hi k o ho).2.1 with ⟨b, z, hb, _⟩ | ⟨g1, _⟩
    · exact h.inN hb
    · exact g1
  have hfind : ∀ j k, ((keysO Oo).filter fun k => !(keysO Oi).contains k).find? (fun k => F k == j) = some k → k ∈ keysO Oo ∧ k ∉ keysO Oi ∧ F k = j := fun j k hk => by
    have h1 := List.mem_of_find?_eq_some hk
    have h2 := List.find?_some hk
    simp only [List.mem_filter, List.contains_eq_mem, Bool.not_eq_true', decide_eq_false_iff_not] at h1
    exact ⟨h1.1, h1.2, by simpa using h2⟩
  have hβN : ∀ j, j ∈ N → β'' j = β j := fun j hj => by
    simp only [β'']
    split
    · rename_i k hk
      obtain ⟨k1, k2, rfl⟩ := hfind j k hk
      exact absurd hj (hnm k k1 k2)
    · rfl
  have hβn : ∀ k, k ∈ keysO Oo → k ∉ keysO Oi → β'' (F k) = β' k := fun k hk hn => by
    simp only [β'']
    split
    · rename_i k2 hk2
      obtain ⟨q1, q2, q3⟩ := hfind _ k2 hk2
      rw [hinj k2 k (.inr q1) (.inr hk) q3]
    · rename_i hnone
      rw [List.find?_eq_none] at hnone
      have := hnone k (List.mem_filter.2 ⟨hk, by simpa using hn⟩)
      simp at this
  have hβF : ∀ k, k ∈ keysO Oi ++ keysO Oo → β'' (F k) = β' k := fun k hk => by
    by_cases hm : k ∈ keysO Oi
    · rw [hβN _ (hFi k hm), keep k hm, if_pos hm]
    · exact hβn k ((List.mem_append.1 hk).resolve_left hm) hm
  have hlt : ∀ k x, k ∈ keysO Oi → β (F k) = some x → x.1 < w.heap.size := fun k x hk hx => by
    obtain ⟨o, ho⟩ := keys_lk hk
    obtain ⟨b, z, hb, hl, _⟩ := h.objS (hi k o ho).2.1 hx
    rw [hx] at hb; cases hb; exact hl
  have hO' : ∀ j o', effs (effG F Oi Oo) O j = some o' → (∃ k o, lk Oo k = some o ∧ F k = j ∧ o' = o.ren F) ∨ (O j = some o' ∧ (∀ k ∈ keysO Oo, F k ≠ j) ∧ ∀ k ∈ keysO Oi, F k ≠ j) := fun j o' hj => by
    rw [effG, effs_app] at hj
    rcases effs_some F Oo _ j o' hd (fun a b ha hb => hinj a b (.inr ha) (.inr hb)) hj with h1 | ⟨h1, h2⟩
    · exact .inl h1
    · rw [effs_none] at h1
      split at h1
      · cases h1
      · rename_i hn
        exact .inr ⟨h1, h2, fun k hk e => hn (List.mem_map.2 ⟨k, hk, e⟩)⟩
  have hsame : ∀ b, b < w.heap.size → (∀ k x, k ∈ keysO Oi → β (F k) = some x → x.1 ≠ b) → w'.heap[b]? = w.heap[b]? := fun b hb hn => same b hb fun i x hx => by
    obtain ⟨hm, hx⟩ := hβc i x hx
    exact hn i x hm hx
  -- a block of an object behind the call
  have hblk : ∀ k o x, lk Oo k = some o → β'' (F k) = some x → x.1 < w'.heap.size ∧ (w.heap.size ≤ x.1 ∨ ∃ j z', j ∈ keysO Oi ∧ β (F j) = some (x.1, z')) := fun k o x ho hx => by
    rw [hβF k (List.mem_append_right _ (lk_keys ho))] at hx
    rcases objs k o ho with ⟨b, z, hb, h1, h2, _⟩ | ⟨hn, _⟩
    · rw [hx] at hb; cases hb
      refine ⟨h1, ?_⟩
      rcases h2 with h2 | ⟨j, z', hj⟩
      · exact .inl h2
      · obtain ⟨hm, hj⟩ := hβc j _ hj
        exact .inr ⟨j, z', hm, hj⟩
    · rw [hx] at hn; cases hn
  have himm : ∀ b, Imm E O β w b → Imm E (effs (effG F Oi Oo) O) β'' w' b ∧ w'.heap[b]? = w.heap[b]? := fun b hb => by
    have hno : ∀ k x, k ∈ keysO Oi → β (F k) = some x → x.1 ≠ b := fun k x hk hx => by
      obtain ⟨o, ho⟩ := keys_lk hk
      exact hb.2.2 _ _ x (hi k o ho).2.1 hx
    refine ⟨⟨hb.1, Nat.lt_of_lt_of_le hb.2.1 size, fun j o' x ho hx => ?_⟩, hsame b hb.2.1 hno⟩
    rcases hO' j o' ho with ⟨k, o, h1, rfl, rfl⟩ | ⟨h1, h2, h3⟩
    · rcases (hblk k o x h1 hx).2 with h4 | ⟨j', z', h4, h5⟩
      · exact Nat.ne_of_gt (Nat.lt_of_lt_of_le hb.2.1 h4)
      · exact hno j' (x.1, z') h4 h5
    · have hjN : j ∈ N := by
        rcases h.objs _ _ h1 with ⟨b, z, hb, _⟩ | ⟨g1, _⟩
        · exact h.inN hb
        · exact g1
      rw [hβN j hjN] at hx
      exact hb.2.2 j o' x h1 hx
  have hNo : ∀ j o', O j = some o' → j ∈ N := fun j o' ho => by
    rcases h.objs _ _ ho with ⟨b, z, hb, _⟩ | ⟨g1, _⟩
    · exact h.inN hb
    · exact g1
  -- what the callee's results lean on may be leant on here
  have hgood : ∀ b, (Imm ⟨okc, w, fun b => ∃ i x, (if i ∈ keysO Oi then β (F i) else none) = some x ∧ x.1 = b, fun _ => False, fun _ => none⟩ (lk Oo) β' w') b → (Imm E O β w b ∨ w.heap.size ≤ b ∨ ∃ i x, (if i ∈ keysO Oi then β (F i) else none) = some x ∧ x.1 = b) → Imm E (effs (effG F Oi Oo) O) β'' w' b := fun b hb hor => by
    refine ⟨?_, hb.2.1, fun j o' x ho hx => ?_⟩
    · rcases hor with h1 | h1 | ⟨i, x, hx, rfl⟩
      · exact h1.1
      · exact .inr (.inl (Nat.le_trans h.size h1))
      · obtain ⟨hm, hx⟩ := hβc i x hx
        obtain ⟨o, ho⟩ := keys_lk hm
        obtain ⟨b', z, hb', _, hor, _⟩ := h.objS (hi i o ho).2.1 hx
        rw [hx] at hb'; cases hb'
        exact .inr hor
    · rcases hO' j o' ho with ⟨k, o, h1, rfl, rfl⟩ | ⟨h1, h2, h3⟩
      · rw [hβF k (List.mem_append_right _ (lk_keys h1))] at hx
        exact hb.2.2 k o x h1 hx
      · rw [hβN j (hNo j o' h1)] at hx
        rcases hor with h4 | h4 | ⟨i, x', hx', rfl⟩
        · exact h4.2.2 j o' x h1 hx
        · obtain ⟨b', z, hb', hl, _⟩ := h.objS h1 hx
          rw [hx] at hb'; cases hb'
          exact Nat.ne_of_lt (Nat.lt_of_lt_of_le hl h4)
        · obtain ⟨hm, hx'⟩ := hβc i x' hx'
          obtain ⟨o, ho⟩ := keys_lk hm
          exact h.apart _ _ _ _ x x' h1 (hi i o ho).2.1 hx hx' (fun e => h3 i hm e.symm)
  have hORr : ∀ k o b z, lk Oo k = some o → OR w' (Imm ⟨okc, w, fun b => ∃ i x, (if i ∈ keysO Oi then β (F i) else none) = some x ∧ x.1 = b, fun _ => False, fun _ => none⟩ (lk Oo) β' w') β' b z o → OR w' (Imm E (effs (effG F Oi Oo) O) β'' w') β'' b z (o.ren F) := fun k o b z ho hor => by
    refine OR.ren (N := keysO Oi ++ keysO Oo) (fun i hi => hβF i (by simpa using hi)) o (hoN k o ho) ?_
    rcases hok2 with hk | ⟨_, hk⟩
    · refine OR.lasts ⟨fun b hb => hgood b hb ?_, fun _ _ => rfl⟩ (fun _ _ h => h) rfl hor
      rcases hb.1 with h1 | h1 | h1
      · exact .inl (hk b h1)
      · exact .inr (.inl h1)
      · exact .inr (.inr h1)
    · exact OR.flat (hk k o ho) hor
  have hRr : VV w' (Imm E (effs (effG F Oi Oo) O) β'' w') β'' (r.ren F) v := by
    refine VV.ren (N := keysO Oi ++ keysO Oo) (fun i hi => hβF i (by simpa using hi)) r v hrN ?_
    rcases hok2 with hk | ⟨hk, _⟩
    · refine VV.lasts ⟨fun b hb => hgood b hb ?_, fun _ _ => rfl⟩ (fun _ _ h => h) _ _ hv
      rcases hb.1 with h1 | h1 | h1
      · exact .inl (hk b h1)
      · exact .inr (.inl h1)
      · exact .inr (.inr h1)
    · exact VV.flat _ _ hk hv
  refine hQ β'' v w' ?_ hRr
  refine (h.next (w' := w') (N' := newG F Oi Oo ++ N) (O' := effs (effG F Oi Oo) O) (β' := β'') os tape output size (fun b hb hX => ?_) hβN (fun _ hm => List.mem_append_right _ hm) (fun j x hn h2 hx => ?_) (fun j hj => ?_) himm (fun j o' ho => ?_) (fun i j o o' x x' ho ho' hx hx' hne => ?_)).1
  · refine hsame b (Nat.lt_of_lt_of_le hb h.size) fun k x hk hx e => ?_
    obtain ⟨o, ho⟩ := keys_lk hk
    obtain ⟨b', z, hb', _, hor, _⟩ := h.objS (hi k o ho).2.1 hx
    rw [hx] at hb'; cases hb'
    rcases hor with h1 | h1
    · simp only at e; omega
    · exact hX (e ▸ h1)
  · simp only [β''] at hx
    split at hx
    · rename_i k hk
      obtain ⟨k1, k2, rfl⟩ := hfind j k hk
      rcases h2000 k k1 k2 h2 with h9 | h9
      · exact Nat.le_trans h.size (news k x h9 hx)
      · obtain ⟨o, ho⟩ := keys_lk k1
        rcases (hblk k o x ho (by rw [hβn k k1 k2]; exact hx)).2 with h4 | ⟨j', z', h4, h5⟩
        · exact Nat.le_trans h.size h4
        · exact h.news (F j') (x.1, z') (h9 j' h4) h5
    · exact absurd (h.inN hx) hn
  · simp only [List.mem_append, not_or] at hj
    simp only [β'']
    split
    · rename_i k hk
      obtain ⟨k1, k2, rfl⟩ := hfind j k hk
      exact absurd (List.mem_map.2 ⟨k, List.mem_filter.2 ⟨k1, by simpa using k2⟩, rfl⟩) hj.1
    · exact h.dom j hj.2
  · rcases hO' j o' ho with ⟨k, o, h1, rfl, rfl⟩ | ⟨h1, h2, h3⟩
    · right
      have hkk := hβF k (List.mem_append_right _ (lk_keys h1))
      rcases objs k o h1 with ⟨b, z, hb, g1, g2, g3⟩ | ⟨hn, e, rfl⟩
      · refine .inl ⟨b, z, by rw [hkk]; exact hb, g1, ?_, hORr k o b z h1 g3⟩
        rcases g2 with g2 | ⟨j', z', g2⟩
        · exact .inl (Nat.le_trans h.size g2)
        · obtain ⟨hm, g2⟩ := hβc j' _ g2
          obtain ⟨o2, ho2⟩ := keys_lk hm
          obtain ⟨b', z2, hb', _, hor, _⟩ := h.objS (hi j' o2 ho2).2.1 g2
          rw [g2] at hb'; cases hb'
          exact hor
      · refine .inr ⟨?_, by rw [hkk]; exact hn, e, rfl⟩
        by_cases hm : k ∈ keysO Oi
        · exact List.mem_append_right _ (hFi k hm)
        · exact List.mem_append_left _ (List.mem_map.2 ⟨k, List.mem_filter.2 ⟨lk_keys h1, by simpa using hm⟩, rfl⟩)
    · refine .inl ⟨h1, fun x hx => ?_⟩
      obtain ⟨b', z, hb', hl, _⟩ := h.objS h1 hx
      rw [hx] at hb'; cases hb'
      refine hsame _ hl fun k x hk hx' => ?_
      obtain ⟨o, ho⟩ := keys_lk hk
      exact h.apart _ _ _ _ x _ (hi k o ho).2.1 h1 hx' hx (h3 k hk)
  · have old : ∀ j o', O j = some o' → (∀ k ∈ keysO Oi, F k ≠ j) → ∀ k o x x', lk Oo k = some o → β'' (F k) = some x → β'' j = some x' → x.1 ≠ x'.1 := fun j o' h1 h3 k o x x' hk hx hx' => by
      rw [hβN j (hNo j o' h1)] at hx'
      obtain ⟨b', z, hb', hl, _⟩ := h.objS h1 hx'
      rw [hx'] at hb'; cases hb'
      rcases (hblk k o x hk hx).2 with h4 | ⟨j', z', h4, h5⟩
      · exact Nat.ne_of_gt (Nat.lt_of_lt_of_le hl h4)
      · obtain ⟨o2, ho2⟩ := keys_lk h4
        exact h.apart _ _ _ _ (x.1, z') _ (hi j' o2 ho2).2.1 h1 h5 hx' (h3 j' h4)
    rcases hO' i o ho with ⟨k, o1, h1, rfl, rfl⟩ | ⟨h1, h2, h3⟩
    · rcases hO' j o' ho' with ⟨l, o2, g1, rfl, rfl⟩ | ⟨g1, g2, g3⟩
      · rw [hβF k (List.mem_append_right _ (lk_keys h1))] at hx
        rw [hβF l (List.mem_append_right _ (lk_keys g1))] at hx'
        exact apart k l o1 o2 x x' h1 g1 hx hx' (fun e => hne (by rw [e]))
      · exact old j o' g1 g3 k o1 x x' h1 hx hx'
    · rcases hO' j o' ho' with ⟨l, o2, g1, rfl, rfl⟩ | ⟨g1, g2, g3⟩
      · exact Ne.symm (old i o h1 h3 l o2 x' x g1 hx' hx)
      · rw [hβN i (hNo i o h1)] at hx
        rw [hβN j (hNo j o' g1)] at hx'
        exact h.apart i j o o' x x' h1 g1 hx hx' hne
end
end Go.Tl
