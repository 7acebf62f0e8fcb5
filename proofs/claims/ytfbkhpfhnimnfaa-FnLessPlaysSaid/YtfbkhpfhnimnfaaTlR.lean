/-
  Statements on slots and objects, and the proof of a contract from a function's body. No statement of the seat is proved here.
-/
import Derived.Test.YtfbkhpfhnimnfaaTlQ
namespace Go.Tl
set_option linter.unusedVariables false
set_option linter.unusedSimpArgs false

abbrev Post := Exit → St → Prop
def Sat (E : Env) (n : Nat) (Q : Post) : Exit → Act → World → Prop := fun e a w => ∃ σ, Rel E σ a w ∧ a.tmps.size = n ∧ Q e σ
/-- The code, begun where slots and objects are as told, ends as told. cl: the call's own objects are all new. -/
def WP (P : Program) (cl : Bool) (n : Nat) (c : Code) (Q : Post) (σ : St) : Prop :=
  ∀ (E : Env) (a : Act) (w : World), (cl = true → ∀ b, ¬ E.X b) → Rel E σ a w → a.tmps.size = n → c.wp P (Sat E n Q) a w

inductive Wk
  | keep (ts : List Nat)
  | keepO (is : List Nat)
  | freeze (i : Nat)
  | names (rn : List (Nat × Nat))
  | adopt (t : Nat) (x : V) (js : List (Nat × TypeId))
  | adoptO (i : Nat) (vs : List V) (js : List (Nat × TypeId))
mutual
/-- A nil slice told as a slice of its own without elements. -/
def adoptV (J : List Nat) : V → V → List Prop
  | .t x, y => adoptT J x y
  | .agg us, .agg vs => adoptL J us vs
  | .tup us, .tup vs => adoptL J us vs
  | x, y => [x = y]
def adoptL (J : List Nat) : List V → List V → List Prop
  | [], [] => []
  | x :: xs, y :: ys => adoptV J x y ++ adoptL J xs ys
  | _, _ => [False]
def adoptT (J : List Nat) : T → V → List Prop
  | .nils, .own j _ n => if J.contains j then [n = 0] else [False]
  | .agg ts, .agg vs => adoptTs J ts vs
  | .tup ts, .tup vs => adoptTs J ts vs
  | x, .t y => [WkT x y]
  | x, y => [V.t x = y]
def adoptTs (J : List Nat) : List T → List V → List Prop
  | [], [] => []
  | x :: xs, y :: ys => adoptT J x y ++ adoptTs J xs ys
  | _, _ => [False]
end
section
variable {w : World} {ok : Nat → Prop} {β : Names} {J : List Nat}
mutual
theorem adoptT_reads : ∀ (x : T) (y : V) (v : Value), Obs (adoptT J x y) → VR w ok x v → VV w ok β y v
  | .nils, .own j sz n, v, ho, h => by
    simp only [adoptT] at ho
    split at ho
    · simp only [Obs, and_true] at ho
      simp only [VR] at h
      simp only [VV]
      exact .inr ⟨ho, h⟩
    · exact ho.1.elim
  | .agg ts, .agg vs, v, ho, h => by
    simp only [adoptT] at ho
    simp only [VR, VV] at h ⊢
    obtain ⟨xs, h1, h2, h3⟩ := h
    exact ⟨xs, h1, h2, adoptTs_reads ts vs _ ho h3⟩
  | .tup ts, .tup vs, v, ho, h => by
    simp only [adoptT] at ho
    simp only [VR, VV] at h ⊢
    obtain ⟨xs, h1, h3⟩ := h
    exact ⟨xs, h1, adoptTs_reads ts vs _ ho h3⟩
  | .int _ _, y, v, ho, h | .bool _, y, v, ho, h | .str _, y, v, ho, h | .list _ _ _, y, v, ho, h | .ptr _, y, v, ho, h | .nilp, y, v, ho, h | .fn _ _ _, y, v, ho, h | .rows _ _ _, y, v, ho, h | .zlist, y, v, ho, h | .nilf, y, v, ho, h | .nili, y, v, ho, h | .iface _ _, y, v, ho, h | .nilm, y, v, ho, h | .undef, y, v, ho, h => by
    cases y with
    | t y => simp only [adoptT, Obs, and_true] at ho; simp only [VV]; exact WkT.reads ho h
    | _ => simp only [adoptT, Obs, and_true] at ho; rw [← ho]; simpa only [VV] using h
  | .nils, .t _, v, ho, h | .agg _, .t _, v, ho, h | .tup _, .t _, v, ho, h => by
    simp only [adoptT, Obs, and_true] at ho; simp only [VV]; exact WkT.reads ho h
  | .nils, .ref _ _, v, ho, h | .nils, .view _ _ _ _, v, ho, h | .nils, .mapr _, v, ho, h | .nils, .agg _, v, ho, h | .nils, .tup _, v, ho, h | .nils, .fn _ _, v, ho, h => by
    simp only [adoptT, Obs, and_true] at ho
    rw [← ho]; simpa only [VV] using h
  | .agg _, .ref _ _, v, ho, h | .agg _, .own _ _ _, v, ho, h | .agg _, .view _ _ _ _, v, ho, h | .agg _, .mapr _, v, ho, h | .agg _, .tup _, v, ho, h | .agg _, .fn _ _, v, ho, h => by
    simp only [adoptT, Obs, and_true] at ho
    rw [← ho]; simpa only [VV] using h
  | .tup _, .ref _ _, v, ho, h | .tup _, .own _ _ _, v, ho, h | .tup _, .view _ _ _ _, v, ho, h | .tup _, .mapr _, v, ho, h | .tup _, .agg _, v, ho, h | .tup _, .fn _ _, v, ho, h => by
    simp only [adoptT, Obs, and_true] at ho
    rw [← ho]; simpa only [VV] using h
theorem adoptTs_reads : ∀ (xs : List T) (ys : List V) (vs : List Value), Obs (adoptTs J xs ys) → VL w ok xs vs → VVL w ok β ys vs
  | [], [], vs, ho, h => by simp only [VL] at h; simp only [VVL]; exact h
  | x :: xs, y :: ys, vs, ho, h => by
    simp only [adoptTs, Obs_append] at ho
    simp only [VL, VVL] at h ⊢
    obtain ⟨u, us, h1, h2, h3⟩ := h
    exact ⟨u, us, h1, adoptT_reads x y u ho.1 h2, adoptTs_reads xs ys us ho.2 h3⟩
  | [], _ :: _, vs, ho, h | _ :: _, [], vs, ho, h => by
    simp only [adoptTs, Obs, and_true] at ho
end
mutual
theorem adoptV_reads : ∀ (x y : V) (v : Value), Obs (adoptV J x y) → VV w ok β x v → VV w ok β y v
  | .t x, y, v, ho, h => by
    simp only [adoptV] at ho
    simp only [VV] at h
    exact adoptT_reads x y v ho h
  | .agg us, y, v, ho, h => by
    cases y with
    | agg vs =>
      simp only [adoptV] at ho
      simp only [VV] at h ⊢
      obtain ⟨xs, h1, h2, h3⟩ := h
      exact ⟨xs, h1, h2, adoptL_reads us vs _ ho h3⟩
    | _ => simp only [adoptV, Obs, and_true] at ho; rw [← ho]; exact h
  | .tup us, y, v, ho, h => by
    cases y with
    | tup vs =>
      simp only [adoptV] at ho
      simp only [VV] at h ⊢
      obtain ⟨xs, h1, h3⟩ := h
      exact ⟨xs, h1, adoptL_reads us vs _ ho h3⟩
    | _ => simp only [adoptV, Obs, and_true] at ho; rw [← ho]; exact h
  | .ref _ _, y, v, ho, h | .own _ _ _, y, v, ho, h | .view _ _ _ _, y, v, ho, h | .mapr _, y, v, ho, h | .fn _ _, y, v, ho, h => by
    simp only [adoptV, Obs, and_true] at ho; rw [← ho]; exact h
theorem adoptL_reads : ∀ (xs ys : List V) (vs : List Value), Obs (adoptL J xs ys) → VVL w ok β xs vs → VVL w ok β ys vs
  | [], [], vs, ho, h => h
  | x :: xs, y :: ys, vs, ho, h => by
    simp only [adoptL, Obs_append] at ho
    simp only [VVL] at h ⊢
    obtain ⟨u, us, h1, h2, h3⟩ := h
    exact ⟨u, us, h1, adoptV_reads x y u ho.1 h2, adoptL_reads xs ys us ho.2 h3⟩
  | [], _ :: _, vs, ho, h | _ :: _, [], vs, ho, h => by
    simp only [adoptL, Obs, and_true] at ho
end
end
def St.adopt (σ : St) (t : Nat) (x : V) (js : List (Nat × TypeId)) : Option (List Prop × St) :=
  match lk σ.S t with
  | some y => if js.all (fun j => !σ.N.contains j.1) && nodupN (js.map (·.1)) then
      some (adoptV (js.map (·.1)) y x, ⟨js.map (·.1) ++ σ.N, (t, x) :: delA σ.S t, js.map (fun j => (j.1, .cells j.2 [])) ++ σ.O⟩) else none
  | none => none
theorem lk_app {α : Type} : ∀ (l r : List (Nat × α)) (i : Nat), lk (l ++ r) i = (lk l i).or (lk r i)
  | [], r, i => by simp [lk]
  | (j, x) :: l, r, i => by
    simp only [List.cons_append, lk]
    split
    · rfl
    · exact lk_app l r i
theorem lk_phantom : ∀ (js : List (Nat × TypeId)) (i : Nat) (o : Obj), lk (js.map fun j => (j.1, Obj.cells j.2 [])) i = some o → i ∈ js.map (·.1) ∧ ∃ e, o = .cells e []
  | [], i, o, h => by simp [lk] at h
  | (j, e) :: js, i, o, h => by
    simp only [List.map_cons, lk] at h
    split at h
    · rename_i e1; cases h; exact ⟨by simp [e1], e, rfl⟩
    · obtain ⟨h1, h2⟩ := lk_phantom js i o h
      exact ⟨List.mem_cons_of_mem _ h1, h2⟩
theorem Rel.adopt {E : Env} {σ σ' : St} {a : Act} {w : World} (h : Rel E σ a w) {t : Nat} {x : V} {js : List (Nat × TypeId)} {ps : List Prop} (hf : σ.adopt t x js = some (ps, σ')) (ho : Obs ps) : Rel E σ' a w := by
  obtain ⟨β, h⟩ := h
  unfold St.adopt at hf
  split at hf
  · rename_i y hy
    split at hf
    · rename_i hc
      cases hf
      simp only [Bool.and_eq_true, List.all_eq_true, Bool.not_eq_true', List.contains_eq_mem, decide_eq_false_iff_not] at hc
      have hβ : ∀ i, i ∈ js.map (·.1) → β i = none := fun i hi => by
        obtain ⟨j, hj, rfl⟩ := List.mem_map.1 hi
        exact h.dom _ (hc.1 j hj)
      have hO : ∀ k o', lk (js.map (fun j => (j.1, Obj.cells j.2 [])) ++ σ.O) k = some o' → (k ∈ js.map (·.1) ∧ ∃ e, o' = .cells e []) ∨ lk σ.O k = some o' := fun k o' hk => by
        rw [lk_app] at hk
        cases hl : lk (js.map fun j => (j.1, Obj.cells j.2 [])) k with
        | none => rw [hl] at hk; exact .inr (by simpa using hk)
        | some o2 =>
          rw [hl] at hk
          simp only [Option.some_or, Option.some.injEq] at hk
          subst hk
          exact .inl (lk_phantom js k _ hl)
      refine ⟨β, h.retell (fun i hp => ⟨List.mem_append_right _ (h.pins i hp).2.1, (h.pins i hp).2.2⟩) h.news (fun i hi => h.dom i (fun hm => hi (List.mem_append_right _ hm))) (fun k o x hk hx => ?_) (fun k o hk => ?_) (fun i j o o' x x' hi hj hx hx' hne => ?_) (fun himm k o x hk hx => ?_) (fun himm t' x' ht' => ?_)⟩
      · rcases hO k o hk with ⟨h1, _⟩ | h1
        · rw [hβ k h1] at hx; cases hx
        · exact ⟨k, o, h1, hx⟩
      · rcases hO k o hk with ⟨h1, h2⟩ | h1
        · exact .inr ⟨List.mem_append_left _ h1, hβ k h1, h2⟩
        · rcases h.objs k o h1 with ⟨b, z, g1, _⟩ | ⟨g1, g2, g3⟩
          · left; rw [g1]; rfl
          · exact .inr ⟨List.mem_append_right _ g1, g2, g3⟩
      · rcases hO i o hi with ⟨h1, _⟩ | h1
        · rw [hβ i h1] at hx; cases hx
        · rcases hO j o' hj with ⟨h2, _⟩ | h2
          · rw [hβ j h2] at hx'; cases hx'
          · exact h.apart i j o o' x x' h1 h2 hx hx' hne
      · rcases hO k o hk with ⟨h1, _⟩ | h1
        · rw [hβ k h1] at hx; cases hx
        · obtain ⟨b, z, g1, _, _, g4⟩ := h.objS h1 hx
          rw [hx] at g1; cases g1
          exact OR.lasts ⟨himm, fun _ _ => rfl⟩ (fun _ _ h => h) rfl g4
      · rw [lk_cons, lk_del, upd_upd] at ht'
        by_cases e : t' = t
        · subst e
          rw [upd_same] at ht'; cases ht'
          exact ⟨y, hy, fun v hv => VV.lasts ⟨himm, fun _ _ => rfl⟩ (fun _ _ h => h) _ _ (adoptV_reads y _ v ho hv)⟩
        · rw [upd_other _ _ _ _ e] at ht'
          exact ⟨x', ht', fun v hv => VV.lasts ⟨himm, fun _ _ => rfl⟩ (fun _ _ h => h) _ _ hv⟩
    · cases hf
  · cases hf
def Obj.asV : Obj → Option (TypeId × List V)
  | .cells e cs => some (e, cs.map V.t)
  | .vars e vs => some (e, vs)
  | .map _ => none
theorem Obj.asV_reads {w : World} {ok : Nat → Prop} {β : Names} {b z : Nat} {ob : Obj} {e : TypeId} {vs vs' : List V} {J : List Nat} (h : ob.asV = some (e, vs)) (ho : Obs (adoptL J vs vs')) (hr : OR w ok β b z ob) : OR w ok β b z (.vars e vs') := by
  cases ob with
  | cells e' cs =>
    simp only [Obj.asV, Option.some.injEq, Prod.mk.injEq] at h
    obtain ⟨rfl, rfl⟩ := h
    simp only [OR] at hr ⊢
    obtain ⟨arr, us, rest, h1, h2, h3, h5, h4⟩ := hr
    exact ⟨arr, us, rest, h1, h2, h3, h5, adoptL_reads _ _ _ ho (VVL.map_t h4)⟩
  | vars e' us =>
    simp only [Obj.asV, Option.some.injEq, Prod.mk.injEq] at h
    obtain ⟨rfl, rfl⟩ := h
    simp only [OR] at hr ⊢
    obtain ⟨arr, us, rest, h1, h2, h3, h5, h4⟩ := hr
    exact ⟨arr, us, rest, h1, h2, h3, h5, adoptL_reads _ _ _ ho h4⟩
  | map es => simp [Obj.asV] at h
/-- What an object holds, told anew: nil slices as slices of their own without elements. -/
def St.adoptO (σ : St) (i : Nat) (vs' : List V) (js : List (Nat × TypeId)) : Option (List Prop × St) :=
  match lk σ.O i with
  | some ob => match ob.asV with
    | some (e, vs) => if js.all (fun j => !σ.N.contains j.1) && nodupN (js.map (·.1)) && !vs.isEmpty then
        some (adoptL (js.map (·.1)) vs vs', ⟨js.map (·.1) ++ σ.N, σ.S, js.map (fun j => (j.1, .cells j.2 [])) ++ ((i, .vars e vs') :: delA σ.O i)⟩) else none
    | none => none
  | none => none
theorem Rel.adoptO {E : Env} {σ σ' : St} {a : Act} {w : World} (h : Rel E σ a w) {i0 : Nat} {vs' : List V} {js : List (Nat × TypeId)} {ps : List Prop} (hf : σ.adoptO i0 vs' js = some (ps, σ')) (ho : Obs ps) : Rel E σ' a w := by
  obtain ⟨β, h⟩ := h
  unfold St.adoptO at hf
  split at hf
  · rename_i ob hob
    split at hf
    · rename_i e vs has
      split at hf
      · rename_i hc
        cases hf
        simp only [Bool.and_eq_true, List.all_eq_true, Bool.not_eq_true', List.contains_eq_mem, decide_eq_false_iff_not] at hc
        have hβ : ∀ i, i ∈ js.map (·.1) → β i = none := fun i hi => by
          obtain ⟨j, hj, rfl⟩ := List.mem_map.1 hi
          exact h.dom _ (hc.1.1 j hj)
        have hO : ∀ k o', lk (js.map (fun j => (j.1, Obj.cells j.2 [])) ++ ((i0, Obj.vars e vs') :: delA σ.O i0)) k = some o' → (k ∈ js.map (·.1) ∧ ∃ e, o' = .cells e []) ∨ (k = i0 ∧ o' = .vars e vs') ∨ lk σ.O k = some o' := fun k o' hk => by
          rw [lk_app] at hk
          cases hl : lk (js.map fun j => (j.1, Obj.cells j.2 [])) k with
          | none =>
            rw [hl] at hk
            simp only [Option.none_or] at hk
            rw [lk_cons, lk_del, upd_upd] at hk
            by_cases e1 : k = i0
            · subst e1
              rw [upd_same] at hk; cases hk
              exact .inr (.inl ⟨rfl, rfl⟩)
            · rw [upd_other _ _ _ _ e1] at hk
              exact .inr (.inr hk)
          | some o2 =>
            rw [hl] at hk
            simp only [Option.some_or, Option.some.injEq] at hk
            subst hk
            exact .inl (lk_phantom js k _ hl)
        have hOld : ∀ k o', lk (js.map (fun j => (j.1, Obj.cells j.2 [])) ++ ((i0, Obj.vars e vs') :: delA σ.O i0)) k = some o' → (k ∈ js.map (·.1) ∧ ∃ e, o' = .cells e []) ∨ ∃ o2, lk σ.O k = some o2 := fun k o' hk => by
          rcases hO k o' hk with h1 | ⟨rfl, _⟩ | h1
          · exact .inl h1
          · exact .inr ⟨_, hob⟩
          · exact .inr ⟨_, h1⟩
        refine ⟨β, h.retell (fun i hp => ⟨List.mem_append_right _ (h.pins i hp).2.1, (h.pins i hp).2.2⟩) h.news (fun i hi => h.dom i (fun hm => hi (List.mem_append_right _ hm))) (fun k o x hk hx => ?_) (fun k o hk => ?_) (fun i j o o' x x' hi hj hx hx' hne => ?_) (fun himm k o x hk hx => ?_) (fun himm t' x' ht' => ?_)⟩
        · rcases hOld k o hk with ⟨h1, _⟩ | ⟨o2, h1⟩
          · rw [hβ k h1] at hx; cases hx
          · exact ⟨k, o2, h1, hx⟩
        · rcases hO k o hk with ⟨h1, h2⟩ | ⟨rfl, rfl⟩ | h1
          · exact .inr ⟨List.mem_append_left _ h1, hβ k h1, h2⟩
          · rcases h.objs k ob hob with ⟨b, z, g1, _⟩ | ⟨g1, g2, g3⟩
            · left; rw [g1]; rfl
            · obtain ⟨e0, rfl⟩ := g3
              simp only [Obj.asV, List.map_nil, Option.some.injEq, Prod.mk.injEq] at has
              obtain ⟨rfl, rfl⟩ := has
              simp at hc
          · rcases h.objs k o h1 with ⟨b, z, g1, _⟩ | ⟨g1, g2, g3⟩
            · left; rw [g1]; rfl
            · exact .inr ⟨List.mem_append_right _ g1, g2, g3⟩
        · rcases hOld i o hi with ⟨h1, _⟩ | ⟨o2, h1⟩
          · rw [hβ i h1] at hx; cases hx
          · rcases hOld j o' hj with ⟨h2, _⟩ | ⟨o3, h2⟩
            · rw [hβ j h2] at hx'; cases hx'
            · exact h.apart i j o2 o3 x x' h1 h2 hx hx' hne
        · rcases hO k o hk with ⟨h1, _⟩ | ⟨rfl, rfl⟩ | h1
          · rw [hβ k h1] at hx; cases hx
          · obtain ⟨b, z, g1, _, _, g4⟩ := h.objS hob hx
            rw [hx] at g1; cases g1
            exact Obj.asV_reads has ho (OR.lasts ⟨himm, fun _ _ => rfl⟩ (fun _ _ h => h) rfl g4)
          · obtain ⟨b, z, g1, _, _, g4⟩ := h.objS h1 hx
            rw [hx] at g1; cases g1
            exact OR.lasts ⟨himm, fun _ _ => rfl⟩ (fun _ _ h => h) rfl g4
        · exact ⟨x', ht', fun v hv => VV.lasts ⟨himm, fun _ _ => rfl⟩ (fun _ _ h => h) _ _ hv⟩
      · cases hf
    · cases hf
  · cases hf
def wk1 (cl : Bool) (σ : St) : Wk → Option (List Prop × St)
  | .keep ts => some ([], { σ with S := keepA σ.S ts })
  | .keepO is => some ([], { σ with O := keepA σ.O is })
  | .freeze i => σ.freeze i
  | .adopt t x js => σ.adopt t x js
  | .adoptO i vs js => σ.adoptO i vs js
  | .names rn => (σ.names rn).map fun σ' => ([], σ')
def wks (cl : Bool) : List Wk → St → Option (List Prop × St)
  | [], σ => some ([], σ)
  | k :: ks, σ => match wk1 cl σ k with
    | some (ps, σ') => match wks cl ks σ' with
      | some (qs, σ'') => some (ps ++ qs, σ'')
      | none => none
    | none => none
theorem Rel.wk1 {E : Env} {cl : Bool} (hX : cl = true → ∀ b, ¬ E.X b) {σ σ' : St} {a : Act} {w : World} (h : Rel E σ a w) {k : Wk} {ps : List Prop} (hk : Tl.wk1 cl σ k = some (ps, σ')) (ho : Obs ps) : Rel E σ' a w := by
  cases k with
  | keep ts => simp only [Tl.wk1, Option.some.injEq, Prod.mk.injEq] at hk; obtain ⟨_, rfl⟩ := hk; exact h.keep ts
  | keepO is => simp only [Tl.wk1, Option.some.injEq, Prod.mk.injEq] at hk; obtain ⟨_, rfl⟩ := hk; exact h.keepO is
  | freeze i =>
    exact h.freeze hk ho
  | adopt t x js => exact h.adopt hk ho
  | adoptO i vs js => exact h.adoptO hk ho
  | names rn =>
    simp only [Tl.wk1, Option.map_eq_some_iff, Prod.mk.injEq] at hk
    obtain ⟨σ2, hk, _, rfl⟩ := hk
    exact h.names hk
theorem Rel.wks {E : Env} {cl : Bool} (hX : cl = true → ∀ b, ¬ E.X b) : ∀ {ks : List Wk} {σ σ' : St} {a : Act} {w : World} {ps : List Prop}, Rel E σ a w → Tl.wks cl ks σ = some (ps, σ') → Obs ps → Rel E σ' a w
  | [], σ, σ', a, w, ps, h, hk, _ => by
    simp only [Tl.wks, Option.some.injEq, Prod.mk.injEq] at hk
    obtain ⟨_, rfl⟩ := hk
    exact h
  | k :: ks, σ, σ', a, w, ps, h, hk, ho => by
    simp only [Tl.wks] at hk
    split at hk
    · rename_i ps1 σ1 h1
      split at hk
      · rename_i qs σ2 h2
        cases hk
        rw [Obs_append] at ho
        exact Rel.wks hX (h.wk1 hX h1 ho.1) h2 ho.2
      · cases hk
    · cases hk

def regionT (P : Program) (tab : Tab) (cl : Bool) (n : Nat) (ans : List (Nat × An)) (ks : List Wk) (ops : Array Oper) (σ : St) : Option (List Prop × St) :=
  match runOps P tab n ans ops.toList ops.toList σ with
  | some (ps, σ1) => match wks cl ks σ1 with
    | some (qs, σ2) => some (ps ++ qs, σ2)
    | none => none
  | none => none

section
variable {P : Program} {cl : Bool} {n : Nat} {Q : Post} {σ σ' : St} {tab : Tab}
theorem WP.region (htab : chkTab P tab = true) (ans : List (Nat × An)) (ks : List Wk) {ops : Array Oper} {id : Nat} {ps : List Prop} (hr : regionT P tab cl n ans ks ops σ = some (ps, σ')) (ho : Obs ps) (hQ : Q .normal σ') : WP P cl n (.region id ops false) Q σ := by
  intro E a w hX h hn
  unfold regionT at hr
  split at hr
  · rename_i ps1 σ1 h1
    split at hr
    · rename_i qs σ2 h2
      cases hr
      rw [Obs_append] at ho
      refine wp_region ?_
      rw [List.range_eq_range', show ops.size = ops.toList.length from by simp]
      exact runOps_sound htab ops.toList 0 σ σ1 ps1 a w rfl h1 ho.1 h hn fun a' w' k1 k2 => ⟨_, k1.wks hX h2 ho.2, k2, hQ⟩
    · cases hr
  · cases hr
theorem WP.skip (h : Q .normal σ) : WP P cl n .skip Q σ := fun E a w hX hr hn => wp_skip ⟨σ, hr, hn, h⟩
theorem WP.ret (h : Q .ret σ) : WP P cl n .ret Q σ := fun E a w hX hr hn => wp_ret ⟨σ, hr, hn, h⟩
theorem WP.exit {id : Nat} (h : Q (.exit id) σ) : WP P cl n (.exit id) Q σ := fun E a w hX hr hn => wp_exit ⟨σ, hr, hn, h⟩
def thenQ (K : St → Prop) (Q : Post) : Post := fun e σ => match e with
  | .normal => K σ
  | e => Q e σ
theorem WP.seq {x y : Code} (h : WP P cl n x (thenQ (WP P cl n y Q) Q) σ) : WP P cl n (.seq x y) Q σ := fun E a w hX hr hn => by
  refine wp_seq (wp_mono (h E a w hX hr hn) fun e a' w' hq => ?_)
  obtain ⟨σ', k1, k2, k3⟩ := hq
  cases e with
  | normal => exact k3 E a' w' hX k1 k2
  | _ => exact ⟨σ', k1, k2, k3⟩
theorem WP.cond {c : Operand} {x y : Code} {b : Bool} (hc : ev (lk σ.S) c = some (.t (.bool b))) (ht : b = true → WP P cl n x Q σ) (hf : b = false → WP P cl n y Q σ) : WP P cl n (.cond c x y) Q σ := fun E a w hX hr hn => by
  obtain ⟨β, hR⟩ := hr
  have := hR.ev hc
  simp only [VV, VR] at this
  exact wp_cond_split this (fun e => ht e E a w hX ⟨β, hR⟩ hn) (fun e => hf e E a w hX ⟨β, hR⟩ hn)
def blockQ (id : Nat) (Q : Post) : Post := fun e σ => match e with
  | .exit id' => if id' = id then Q .normal σ else Q (.exit id') σ
  | e => Q e σ
theorem WP.block {id : Nat} {c : Code} (h : WP P cl n c (blockQ id Q) σ) : WP P cl n (.block id c) Q σ := fun E a w hX hr hn => by
  refine wp_block (wp_mono (h E a w hX hr hn) fun e a' w' hq => ?_)
  obtain ⟨σ', k1, k2, k3⟩ := hq
  cases e with
  | exit id' =>
    simp only [Exit.inBlock, blockQ] at k3 ⊢
    split
    · rename_i e; rw [if_pos e] at k3; exact ⟨σ', k1, k2, k3⟩
    · rename_i e; rw [if_neg e] at k3; exact ⟨σ', k1, k2, k3⟩
  | _ => exact ⟨σ', k1, k2, k3⟩
theorem WP.mono {c : Code} {Q' : Post} (h : WP P cl n c Q' σ) (hq : ∀ e σ, Q' e σ → Q e σ) : WP P cl n c Q σ := fun E a w hX hr hn =>
  wp_mono (h E a w hX hr hn) fun e a' w' ⟨σ', k1, k2, k3⟩ => ⟨σ', k1, k2, hq e σ' k3⟩
theorem WP.wk {c : Code} (ks : List Wk) {ps : List Prop} (hk : Tl.wks cl ks σ = some (ps, σ')) (ho : Obs ps) (h : WP P cl n c Q σ') : WP P cl n c Q σ := fun E a w hX hr hn =>
  h E a w hX (hr.wks hX hk ho) hn
/-- A loop: what the rounds keep is told by x. -/
theorem WP.loop {α : Type} (mk : α → St) (inv : α → Prop) (μ : α → Nat) {c : Code} (x0 : α) (h0 : inv x0)
    (round : ∀ x, inv x → WP P cl n c (thenQ (fun σ' => ∃ y, inv y ∧ μ y < μ x ∧ σ' = mk y) Q) (mk x)) : WP P cl n (.loop c) Q (mk x0) := by
  intro E a w hX hr hn b k cs
  have key : ∀ m x, μ x = m → inv x → ∀ a w, Rel E (mk x) a w → a.tmps.size = n →
      ∃ e a' w', Sat E n Q e a' w' ∧ Arrives P (lone (b.at a (.code c :: .inLoop c :: k)) cs w) b k cs e a' w' := by
    intro m
    induction m using Nat.strongRecOn with
    | _ m ih =>
      intro x hm hi a w hr hn
      obtain ⟨e, a₁, w₁, ⟨σ', k1, k2, k3⟩, harr⟩ := round x hi E a w hX hr hn b (.inLoop c :: k) cs
      cases e with
      | normal =>
        obtain ⟨y, y1, y2, rfl⟩ := k3
        obtain ⟨e₂, a₂, w₂, hq₂, harr₂⟩ := ih (μ y) (hm ▸ y2) y rfl y1 a₁ w₁ k1 k2
        exact ⟨e₂, a₂, w₂, hq₂, .of_steps (Steps.trans harr (.one step_inLoop)) harr₂⟩
      | exit id => exact ⟨_, a₁, w₁, ⟨σ', k1, k2, k3⟩, .pass (x := .inLoop c) rfl (fun _ _ => .inl (by simp)) harr⟩
      | goto l => exact ⟨_, a₁, w₁, ⟨σ', k1, k2, k3⟩, .pass (x := .inLoop c) rfl (fun _ _ => .inl (by simp)) harr⟩
      | ret => exact ⟨_, a₁, w₁, ⟨σ', k1, k2, k3⟩, .pass (x := .inLoop c) rfl (fun _ _ => .inl (by simp)) harr⟩
      | panic ch => exact ⟨_, a₁, w₁, ⟨σ', k1, k2, k3⟩, .pass (x := .inLoop c) rfl (fun _ _ => .inl (by simp)) harr⟩
      | outgrown => exact ⟨_, a₁, w₁, ⟨σ', k1, k2, k3⟩, .pass (x := .inLoop c) rfl (fun _ _ => .inl (by simp)) harr⟩
  obtain ⟨e, a', w', hq, harr⟩ := key _ x0 rfl h0 a w hr hn
  exact ⟨e, a', w', hq, .of_steps (.one step_loop) harr⟩
end

/-! ### contracts -/
def initS : Nat → List T → List (Nat × V)
  | _, [] => []
  | i, t :: ts => (i, .t t) :: initS (i + 1) ts
theorem lk_initS {w : World} {ok : Nat → Prop} : ∀ (ts : List T) (vs : List Value) (i t : Nat) (x : V), VL w ok ts vs → lk (initS i ts) t = some x → i ≤ t ∧ ∃ y u, x = .t y ∧ vs[t - i]? = some u ∧ VR w ok y u
  | [], vs, i, t, x, _, h => by simp [initS, lk] at h
  | y :: ts, vs, i, t, x, hl, h => by
    simp only [VL] at hl
    obtain ⟨u, us, rfl, h1, h2⟩ := hl
    simp only [initS, lk] at h
    split at h
    · rename_i e
      cases h
      subst e
      exact ⟨Nat.le_refl _, y, u, rfl, by simp, h1⟩
    · obtain ⟨k1, z, v, k2, k3, k4⟩ := lk_initS ts us (i + 1) t x h2 h
      refine ⟨by omega, z, v, k2, ?_, k4⟩
      rw [show t - i = (t - (i + 1)) + 1 by omega]
      simpa using k3

/-- What a function's results read as. -/
def ret1 (tab : Tab) (σ : St) : ResultVar → Option (List Prop × T)
  | .tmp t => match lk σ.S t with
    | some x => snapV (lk σ.O) x
    | none => none
  | .cell a t => match look tab t, lk σ.S a with
    | some y, some (.t (.ptr cs)) => match getPtr none cs y with
      | some (p, .t x) => some ([p], x)
      | _ => none
    | some y, some (.ref i o) => match lk σ.O i with
      | some ob => match getObj none ob o y with
        | some (p, x) => match snapV (lk σ.O) x with
          | some (qs, t) => some (p :: qs, t)
          | none => none
        | none => none
      | none => none
    | _, _ => none
def rets (tab : Tab) (σ : St) : List ResultVar → Option (List Prop × List T)
  | [] => some ([], [])
  | v :: vs => match ret1 tab σ v with
    | some (ps, t) => match rets tab σ vs with
      | some (qs, ts) => some (ps ++ qs, t :: ts)
      | none => none
    | none => none
def retT (tab : Tab) (vs : List ResultVar) (σ : St) : Option (List Prop × T) :=
  match rets tab σ vs with
  | some (ps, [t]) => some (ps, t)
  | some (ps, ts) => some (ps, .tup ts)
  | none => none
/-- The post of a body: it returns what reads as r. -/
def RetQ (tab : Tab) (vs : List ResultVar) (r : T) : Post := fun e σ => match e with
  | .ret | .normal => ∃ ps r1, retT tab vs σ = some (ps, r1) ∧ Obs ps ∧ WkT r1 r
  | _ => False
def resV (tmps : Array Value) : ResultVar → Sem Value
  | .tmp t => pure (tmps.getD t undef)
  | .cell a t => do loadVar t (← asAddr (tmps.getD a undef))
theorem results_eq (fn : Func) (tmps : Array Value) : results fn tmps = (do let vs ← fn.results.mapM (resV tmps); pure (if h : vs.size = 1 then vs[0] else .tuple vs) : Sem Value) := by
  unfold results
  congr 2
section
variable {P : Program} {tab : Tab} {E : Env} {β : Names} {N : List Nat} {σ : St} {O : Nat → Option Obj} {a : Act} {w : World}
theorem R.ret1 (htab : chkTab P tab = true) (h : R E β N (lk σ.S) (lk σ.O) a w) {v : ResultVar} {ps : List Prop} {t : T} (hr : Tl.ret1 tab σ v = some (ps, t)) (ho : Obs ps) :
    ∃ u, (resV a.tmps v).run P w = .ok u w ∧ VR w (Snap E (lk σ.O) β w) t u := by
  cases v with
  | tmp t' =>
    simp only [Tl.ret1] at hr
    split at hr
    · rename_i x hx
      exact ⟨_, rfl, h.snapV x _ _ _ hr ho (h.slots t' _ hx).2⟩
    · cases hr
  | cell x t' =>
    simp only [Tl.ret1] at hr
    split at hr
    · rename_i y cs hy hx
      split at hr
      · rename_i p x' hg
        cases hr
        have := (h.slots x _ hx).2
        simp only [VV, VR] at this
        obtain ⟨b, o, hb, _, hva⟩ := this
        obtain ⟨u, h1, h2⟩ := run_getPtr (β := β) (chkTab_look htab hy) hg ho.1 hva
        refine ⟨u, ?_, VR.lasts ⟨fun b hb => .inl hb, fun _ _ => rfl⟩ _ _ (by simpa only [VV] using h2)⟩
        simp only [resV]
        rw [hb]
        simpa [asAddr, Instr.loadAt, Instr.sureAddr] using h1
      · cases hr
    · rename_i y i o hy hx
      split at hr
      · rename_i ob hob
        split at hr
        · rename_i p x' hg
          split at hr
          · rename_i qs t2 hs
            cases hr
            have := (h.slots x _ hx).2
            simp only [VV] at this
            obtain ⟨b, z, hb, hv⟩ := this
            obtain ⟨b', z', hb', _, _, hor⟩ := h.objS hob hb
            rw [hb] at hb'; cases hb'
            obtain ⟨u, h1, h2⟩ := run_getObj (β := β) (chkTab_look htab hy) hg ho.1 hor
            refine ⟨u, ?_, h.snapV x' _ _ _ hs ho.2 h2⟩
            simp only [resV]
            rw [hv]
            simpa [asAddr, Instr.loadAt, Instr.sureAddr] using h1
          · cases hr
        · cases hr
      · cases hr
    · cases hr
theorem R.rets (htab : chkTab P tab = true) (h : R E β N (lk σ.S) (lk σ.O) a w) : ∀ {vs : List ResultVar} {ps : List Prop} {ts : List T}, Tl.rets tab σ vs = some (ps, ts) → Obs ps →
    ∃ us, (vs.mapM (resV a.tmps)).run P w = .ok us w ∧ VL w (Snap E (lk σ.O) β w) ts us
  | [], ps, ts, hr, _ => by
    simp only [Tl.rets, Option.some.injEq, Prod.mk.injEq] at hr
    obtain ⟨_, rfl⟩ := hr
    exact ⟨[], by simp, by simp only [VL]⟩
  | v :: vs, ps, ts, hr, ho => by
    simp only [Tl.rets] at hr
    split at hr
    · rename_i ps1 t h1
      split at hr
      · rename_i qs ts' h2
        cases hr
        rw [Obs_append] at ho
        obtain ⟨u, k1, k2⟩ := h.ret1 htab h1 ho.1
        obtain ⟨us, k3, k4⟩ := R.rets htab h h2 ho.2
        refine ⟨u :: us, ?_, by simp only [VL]; exact ⟨u, us, rfl, k2, k4⟩⟩
        simp only [List.mapM_cons, Sem.run_bind]
        rw [k1]
        simp only [Result.andThen_ok, Sem.run_bind]
        rw [k3]
        rfl
      · cases hr
    · cases hr
theorem run_results (htab : chkTab P tab = true) (h : R E β N (lk σ.S) (lk σ.O) a w) {fn : Func} {ps : List Prop} {r : T} (hr : retT tab fn.results.toList σ = some (ps, r)) (ho : Obs ps) :
    ∃ u, (results fn a.tmps).run P w = .ok u w ∧ VR w (Snap E (lk σ.O) β w) r u := by
  unfold retT at hr
  have key : ∀ {ts : List T}, rets tab σ fn.results.toList = some (ps, ts) → ∃ us : Array Value, (results fn a.tmps).run P w = .ok (if h : us.size = 1 then us[0] else .tuple us) w ∧ VL w (Snap E (lk σ.O) β w) ts us.toList := by
    intro ts hts
    obtain ⟨us, k1, k2⟩ := h.rets htab hts ho
    refine ⟨us.toArray, ?_, by simpa using k2⟩
    rw [results_eq, Array.mapM_eq_mapM_toList]
    simp only [Sem.run_bind, Sem.run_map, k1, Result.andThen_ok]
    rfl
  split at hr
  · rename_i t hts
    cases hr
    obtain ⟨us, k1, k2⟩ := key hts
    simp only [VL] at k2
    obtain ⟨u, us', e, k3, rfl⟩ := k2
    have : us = #[u] := by simpa using congrArg List.toArray e
    subst this
    exact ⟨u, by simpa using k1, k3⟩
  · rename_i ts hne hts
    cases hr
    obtain ⟨us, k1, k2⟩ := key hts
    have hsz : us.size ≠ 1 := by
      intro h1
      have := VL.length k2
      rw [Array.length_toList, h1] at this
      match ts, this with
      | [t], _ => exact hne t rfl
    exact ⟨.tuple us, by simpa [hsz] using k1, by simp only [VR]; exact ⟨us, rfl, k2⟩⟩
  · cases hr
end
theorem C.intro {P : Program} {tab : Tab} (htab : chkTab P tab = true) {f : FuncId} {fn : Func} {c : Code} {args : List T} {r : T} (hf : P.funcs[f]? = some fn) (hname : (fn.name == "runtime.NumGoroutine") = false) (hb : fn.body = some c)
    (hlen : args.length ≤ fn.ntmps) (hwp : WP P true fn.ntmps c (RetQ tab fn.results.toList r) ⟨[], initS 0 args, []⟩) : C P f args r := by
  intro ok w vs hok hg hl
  left
  have hcall : (callFunc f vs).run P w = .ok (.enter f vs) w := by
    have hne : ¬ fn.name = "runtime.NumGoroutine" := by simpa using hname
    simp [callFunc, hf, hne, hb]
  refine ⟨hcall, calls_of_wp hf hb ?_⟩
  have hsz : vs.size = args.length := by rw [← VL.length hl]; simp
  let E : Env := ⟨ok, w, fun _ => False, fun _ => False, fun _ => none⟩
  have himm : ∀ b, ok b → Imm E (lk ([] : List (Nat × Obj))) (fun _ => none) w b := fun b hb => ⟨.inl hb, hok b hb, fun i o x ho _ => by simp [lk] at ho⟩
  have hR : Rel E ⟨[], initS 0 args, []⟩ { tmps := vs ++ Array.replicate (fn.ntmps - vs.size) undef, defers := [] } w := by
    refine ⟨fun _ => none, rfl, rfl, rfl, rfl, Nat.le_refl _, fun _ _ _ => rfl, fun b hb => ⟨hok b hb, fun h => h⟩, hg, fun _ _ => rfl, fun t x ht => ?_, fun i hp => hp.elim, fun i x _ hx => (by cases hx), fun i o ho => by simp [lk] at ho, fun i j o o' x x' ho => by simp [lk] at ho⟩
    obtain ⟨_, y, u, rfl, hu, hv⟩ := lk_initS args vs.toList 0 t x hl ht
    have hu' : vs[t]? = some u := by simpa using hu
    have hlt : t < vs.size := (Array.getElem?_eq_some_iff.1 hu').1
    refine ⟨by simp; omega, ?_⟩
    simp only [VV]
    rw [Array.getD_eq_getD_getElem?, Array.getElem?_append_left hlt, hu']
    exact VR.lasts ⟨himm, fun _ _ => rfl⟩ _ _ hv
  refine wp_mono (hwp E _ w (fun _ b h => h) hR (by simp; omega)) fun e a' w' hq => ?_
  obtain ⟨σ', ⟨β, k1⟩, k2, k3⟩ := hq
  have fin : (∃ ps r1, retT tab fn.results.toList σ' = some (ps, r1) ∧ Obs ps ∧ WkT r1 r) → a'.defers = [] ∧ ∃ v, (results fn a'.tmps).run P w' = .ok v w' ∧ ∃ v', Ending.returned v = .returned v' ∧ w'.os = w.os ∧ w'.tape = w.tape ∧ w'.output = w.output ∧ w.heap.size ≤ w'.heap.size ∧
      (∀ b, b < w.heap.size → w'.heap[b]? = w.heap[b]?) ∧ VR w' (fun b => ok b ∨ (w.heap.size ≤ b ∧ b < w'.heap.size)) r v' := by
    rintro ⟨ps, r1, h1, h2, h3⟩
    obtain ⟨u, g1, g2⟩ := run_results htab k1 h1 h2
    have g2 := h3.reads g2
    refine ⟨k1.defers, u, g1, u, rfl, k1.os, k1.tape, k1.output, k1.size, fun b hb => k1.old b hb (fun h => h), VR.lasts ⟨fun b hb => ?_, fun _ _ => rfl⟩ _ _ g2⟩
    rcases hb with hb | ⟨i, o, x, h1, h2, rfl⟩
    · rcases hb.1 with h | h | h
      · exact .inl h
      · exact .inr ⟨h, hb.2.1⟩
      · exact h.elim
    · obtain ⟨b, z, hb, hlt, hx, _⟩ := k1.objS h1 h2
      rw [h2] at hb; cases hb
      exact .inr ⟨hx.resolve_right (fun h => h), hlt⟩
  cases e with
  | normal => exact fin k3
  | ret => exact fin k3
  | _ => exact k3.elim
end Go.Tl
