/-
  The step of a call with objects is what the machine does. No statement of the seat is proved here.
-/
import Derived.Test.YtfbkhpfhnimnfaaTlO
namespace Go.Tl
set_option linter.unusedVariables false
set_option linter.unusedSimpArgs false

theorem nodupN_not_mem {x : Nat} {xs : List Nat} (h : nodupN (x :: xs) = true) : x ∉ xs ∧ nodupN xs = true := by
  simp only [nodupN, Bool.and_eq_true, Bool.not_eq_true', List.contains_eq_mem, decide_eq_false_iff_not] at h
  exact h
theorem nodupN_inj (F : Nat → Nat) : ∀ (A : List Nat), nodupN (A.map F) = true → ∀ i j, i ∈ A → j ∈ A → F i = F j → i = j
  | [], _, i, _, hi, _, _ => by cases hi
  | a :: A, h, i, j, hi, hj, e => by
    obtain ⟨h1, h2⟩ := nodupN_not_mem h
    rcases List.mem_cons.1 hi with e1 | hi'
    · rcases List.mem_cons.1 hj with e2 | hj'
      · rw [e1, e2]
      · exact absurd (List.mem_map.2 ⟨j, hj', by rw [← e, e1]⟩) h1
    · rcases List.mem_cons.1 hj with e2 | hj'
      · exact absurd (List.mem_map.2 ⟨i, hi', by rw [e, e2]⟩) h1
      · exact nodupN_inj F A h2 i j hi' hj' e
theorem inNO_lk {K : List Nat} : ∀ {l : List (Nat × Obj)}, inNO K l = true → ∀ {i : Nat} {o : Obj}, lk l i = some o → o.inN K = true
  | [], _, i, o, h => by simp [lk] at h
  | (j, x) :: r, hn, i, o, h => by
    simp only [inNO, Bool.and_eq_true] at hn
    simp only [lk] at h
    split at h
    · cases h; exact hn.1
    · exact inNO_lk hn.2 h
theorem flatO_lk : ∀ {l : List (Nat × Obj)}, flatO l = true → ∀ {i : Nat} {o : Obj}, lk l i = some o → o.flat = true
  | [], _, i, o, h => by simp [lk] at h
  | (j, x) :: r, hn, i, o, h => by
    simp only [flatO, Bool.and_eq_true] at hn
    simp only [lk] at h
    split at h
    · cases h; exact hn.1
    · exact flatO_lk hn.2 h
theorem objObs_spec {O : Nat → Option Obj} {F : Nat → Nat} {K : List Nat} : ∀ {l : List (Nat × Obj)} {ps : List Prop}, objObs O F K l = some ps → Obs ps → ∀ i o, lk l i = some o → i < 1000 ∧ O (F i) = some (o.ren F) ∧ o.inN K = true
  | [], ps, h, ho, i, o, hl => by simp [lk] at hl
  | (j, x) :: r, ps, h, ho, i, o, hl => by
    simp only [objObs] at h
    split at h
    · rename_i o' ps' h1 h2
      split at h
      · rename_i hc
        cases h
        simp only [Obs] at ho
        simp only [Bool.and_eq_true, decide_eq_true_eq] at hc
        simp only [lk] at hl
        split at hl
        · rename_i e
          cases hl
          subst e
          exact ⟨hc.1, by rw [h1, ho.1], hc.2⟩
        · exact objObs_spec h2 ho.2 i o hl
      · cases h
    · cases h
section
variable {w : World} {ok okc : Nat → Prop} {β βc : Names} {O : Nat → Option Obj} {F : Nat → Nat} {K : List Nat}
theorem argObs_reads (hl : Lasts w ok w okc) (hβ : ∀ i, i ∈ K → β (F i) = βc i) : ∀ (vs fs : List V) (ps : List Prop) (b : Bool), argObs O F K vs fs = some (ps, b) → Obs ps →
    (b = true ∨ ∀ i ob cs b z, O i = some ob → ob.trees = some cs → β i = some (b, z) → Froz w okc b z cs) → ∀ xs, VVL w ok β vs xs → VVL w okc βc fs xs
  | [], [], ps, b, h, ho, hb, xs, hv => by
    simp only [VVL] at hv ⊢; exact hv
  | v :: vs, .t x :: fs, ps, b, h, ho, hb, xs, hv => by
    simp only [argObs] at h
    split at h
    · rename_i ps1 t qs b1 h1 h2
      cases h
      rw [Obs_append] at ho
      simp only [Obs] at ho
      obtain ⟨o1, o2, o3⟩ := ho
      simp only [VVL] at hv ⊢
      obtain ⟨u, us, rfl, hu, hr⟩ := hv
      have hb' : b1 = true ∨ ∀ i ob cs b z, O i = some ob → ob.trees = some cs → β i = some (b, z) → Froz w okc b z cs := by
        rcases hb with hb | hb
        · simp only [Bool.and_eq_true] at hb; exact .inl hb.1
        · exact .inr hb
      refine ⟨u, us, rfl, ?_, argObs_reads hl hβ vs fs qs b1 h2 o3 hb' us hr⟩
      simp only [VV]
      refine o2.reads ?_
      cases v with
      | t y =>
        simp only [snapV, Option.some.injEq, Prod.mk.injEq] at h1
        obtain ⟨_, rfl⟩ := h1
        simp only [VV] at hu
        exact VR.lasts hl _ _ hu
      | _ =>
        rcases hb with hb | hb
        · simp at hb
        · exact snapV_reads hl hb _ u _ _ h1 o1 hu
    · cases h
  | v :: vs, .ref i o :: fs, ps, b, h, ho, hb, xs, hv | v :: vs, .own i sz n :: fs, ps, b, h, ho, hb, xs, hv | v :: vs, .view i o sz n :: fs, ps, b, h, ho, hb, xs, hv
  | v :: vs, .mapr i :: fs, ps, b, h, ho, hb, xs, hv | v :: vs, .agg us :: fs, ps, b, h, ho, hb, xs, hv | v :: vs, .tup us :: fs, ps, b, h, ho, hb, xs, hv | v :: vs, .fn f us :: fs, ps, b, h, ho, hb, xs, hv => by
    simp only [argObs] at h
    split at h
    · rename_i qs b1 hn h2
      cases h
      simp only [Obs] at ho
      simp only [VVL] at hv ⊢
      obtain ⟨u, us, rfl, hu, hr⟩ := hv
      refine ⟨u, us, rfl, ?_, argObs_reads hl hβ vs fs qs b h2 ho.2 hb us hr⟩
      rw [← ho.1] at hu
      exact VV.lasts hl (fun _ _ h => h) _ _ (VV.unren (N := K) hβ _ u hn hu)
    · cases h
  | [], .t x :: fs, ps, b, h, ho, hb, xs, hv | [], .ref i o :: fs, ps, b, h, ho, hb, xs, hv | [], .own i sz n :: fs, ps, b, h, ho, hb, xs, hv | [], .view i o sz n :: fs, ps, b, h, ho, hb, xs, hv
  | [], .mapr i :: fs, ps, b, h, ho, hb, xs, hv | [], .agg us :: fs, ps, b, h, ho, hb, xs, hv | [], .tup us :: fs, ps, b, h, ho, hb, xs, hv | [], .fn f us :: fs, ps, b, h, ho, hb, xs, hv | v :: vs, [], ps, b, h, ho, hb, xs, hv => by
    simp [argObs] at h
end
theorem without_some {F : Nat → Nat} {K : List Nat} {O : Nat → Option Obj} {i : Nat} {o : Obj} (h : without F K O i = some o) : O i = some o ∧ ∀ k ∈ K, F k ≠ i := by
  unfold without at h
  split at h
  · cases h
  · rename_i hc
    refine ⟨h, fun k hk e => hc ?_⟩
    simp only [List.contains_eq_mem, decide_eq_true_eq]
    exact List.mem_map.2 ⟨k, hk, e⟩

section
variable {P : Program} {E : Env} {β : Names} {N : List Nat} {S : Nat → Option V} {O O1 : Nat → Option Obj} {a : Act} {w : World}
theorem R.callG_step (h : R E β N S O a w) (hO1 : ∀ i x, O1 i = some x → O i = some x) {g : FuncId} {vs : List V} {rn : List (Nat × Nat)} {fa : List V} {Oi Oo : List (Nat × Obj)} {r : V} {rs : Rs}
    (hs : Tl.callG P O1 g vs rn fa Oi r Oo = some rs) (ho : Obs rs.obs) (hnew : ∀ j ∈ rs.new, j ∉ N) {xs : Array Value} (hvs : VVL w (Imm E O β w) β vs xs.toList) {Q : Value → World → Prop}
    (hQ : ∀ β' v w', R E β' (rs.new ++ N) S (effs rs.eff O) a w' → VV w' (Imm E (effs rs.eff O) β' w') β' rs.v v → Q v w') :
    (callFunc g xs).run P w = .ok (.enter g xs) w ∧ Calls P g xs w fun e w' => ∃ v, e = .returned v ∧ Q v w' := by
  unfold Tl.callG at hs
  simp only at hs
  split at hs
  · rename_i ps pure qs hA hB
    split at hs
    · rename_i hc
      cases hs
      simp only [Bool.and_eq_true, Bool.or_eq_true] at hc
      obtain ⟨⟨⟨⟨⟨c1, c2⟩, c3⟩, c4⟩, c5⟩, c6⟩ := hc
      simp only [Obs, Obs_append] at ho
      obtain ⟨o1, c7', o2, o3⟩ := ho
      have hi : ∀ i o, lk Oi i = some o → i < 1000 ∧ O (renF rn i) = some (o.ren (renF rn)) ∧ o.inN (keysO Oi) = true := fun i o hl => by
        obtain ⟨k1, k2, k3⟩ := objObs_spec hB o3 i o hl
        exact ⟨k1, hO1 _ _ k2, k3⟩
      have hmem : ∀ i, (i ∈ keysO Oi ∨ i ∈ keysO Oo) → i ∈ keysO Oi ++ (keysO Oo).filter fun k => !(keysO Oi).contains k := fun i hi => by
        by_cases hm : i ∈ keysO Oi
        · exact List.mem_append_left _ hm
        · exact List.mem_append_right _ (List.mem_filter.2 ⟨hi.resolve_left hm, by simpa using hm⟩)
      have hinj := nodupN_inj (renF rn) _ c3
      rw [List.all_eq_true] at c4
      have main := fun (okc : Nat → Prop) k0 k1 k2 hargs => h.callG (okc := okc) o1 hi c2 (fun i j hi hj e => hinj i j (hmem i hi) (hmem j hj) e) hnew
        (fun i h1 h2 h3 => by
          have c4i := c4 i (hmem i (.inr h1))
          simp only [Bool.or_eq_true, decide_eq_true_eq, List.contains_eq_mem] at c4i
          rcases c4i with ((h4 | h4) | h4) | h4
          · exact absurd h4 h2
          · omega
          · exact .inl h4
          · simp only [List.all_eq_true, decide_eq_true_eq] at h4
            exact .inr h4)
        (fun i o hl => inNO_lk c5 hl) c6 k0 k1 k2 (vs := xs) hargs hQ
      by_cases hp : pure = true
      · refine main (Imm E O β w) (fun _ h => h) (fun b hb => ⟨hb.2.1, fun i o x hl hx => hb.2.2 _ _ x (hi i o hl).2.1 hx⟩) (.inl fun _ h => h) ?_
        exact argObs_reads (Lasts.refl _ _) (fun i hm => by simp only [if_pos hm]) vs fa ps pure hA o2 (.inl hp) _ hvs
      · have hfl : r.flat = true ∧ flatO Oo = true := by
          cases pure with
          | true => exact absurd rfl hp
          | false => exact ⟨c7'.1, c7'.2.1⟩
        refine main (fun b => Imm E O β w b ∨ ∃ i o x, O i = some o ∧ (∀ k ∈ keysO Oi, renF rn k ≠ i) ∧ β i = some x ∧ x.1 = b) (fun _ h => .inl h) (fun b hb => ?_) (.inr ⟨hfl.1, fun i o hl => flatO_lk hfl.2 hl⟩) ?_
        · rcases hb with hb | ⟨i, o, x, q1, q2, q3, rfl⟩
          · exact ⟨hb.2.1, fun i o x hl hx => hb.2.2 _ _ x (hi i o hl).2.1 hx⟩
          · obtain ⟨b', z, hb', hlt, _⟩ := h.objS q1 q3
            rw [q3] at hb'; cases hb'
            exact ⟨hlt, fun k o' x' hl hx => h.apart _ _ _ _ x' _ (hi k o' hl).2.1 q1 hx q3 (q2 k (lk_keys hl))⟩
        · refine argObs_reads ⟨fun b hb => .inl hb, fun _ _ => rfl⟩ (fun i hm => by simp only [if_pos hm]) vs fa ps pure hA o2 (.inr fun i ob cs b z g1 g2 g3 => ?_) _ hvs
          obtain ⟨g4, g5⟩ := without_some g1
          obtain ⟨b', z', hb', hlt, hx, hor⟩ := h.objS (hO1 _ _ g4) g3
          rw [g3] at hb'; cases hb'
          obtain ⟨us, q1, q2, q3⟩ := Obj.trees_reads g2 hor
          exact ⟨.inr ⟨i, ob, _, hO1 _ _ g4, g5, g3, rfl⟩, us, VL.lasts ⟨fun b hb => .inl hb, fun _ _ => rfl⟩ _ _ q1, q2, q3⟩
    · cases hs
  · cases hs
end
end Go.Tl
