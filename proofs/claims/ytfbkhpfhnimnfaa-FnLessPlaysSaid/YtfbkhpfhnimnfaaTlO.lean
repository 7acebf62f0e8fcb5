/-
  The step of one operation is what the machine does. No statement of the seat is proved here.
-/
import Derived.Test.YtfbkhpfhnimnfaaTlN
namespace Go.Tl
set_option linter.unusedVariables false
set_option linter.unusedSimpArgs false
section
variable {P : Program} {E : Env} {β : Names} {N : List Nat} {S : Nat → Option V} {O : Nat → Option Obj} {a : Act} {w : World}

def OptI (v : Option Value) (n : Option Int) : Prop := (v = none ∧ n = none) ∨ ∃ k i, v = some (.int k i) ∧ n = some i
theorem R.optV (h : R E β N S O a w) {x : Option Operand} {n : Option Int} (hx : Tl.optV S x = some n) : OptI (x.map a.eval) n := by
  cases x with
  | none => simp only [Tl.optV, Option.some.injEq] at hx; exact .inl ⟨rfl, hx.symm⟩
  | some x =>
    simp only [Tl.optV] at hx
    cases hv : Tl.ev S x with
    | none => simp [hv] at hx
    | some v =>
      cases hi : intOf v with
      | none => simp [hv, hi] at hx
      | some kn =>
        obtain ⟨k, i⟩ := kn
        simp only [hv, hi, Option.some.injEq] at hx
        exact .inr ⟨k, i, by simp [intOf_reads hi (h.ev hv)], hx.symm⟩
theorem run_bounds {lo hi : Option Value} {l h : Option Int} (hl : OptI lo l) (hh : OptI hi h) {b : Bool} {len cap : Nat} (h1 : 0 ≤ l.getD 0) (h2 : l.getD 0 ≤ h.getD len) (h3 : h.getD len ≤ cap) :
    (Instr.sliceBounds b len cap lo hi none).run P w = .ok ((l.getD 0).toNat, (h.getD len).toNat, cap) w := by
  rcases hl with ⟨rfl, rfl⟩ | ⟨k, i, rfl, rfl⟩ <;> rcases hh with ⟨rfl, rfl⟩ | ⟨k', i', rfl, rfl⟩ <;> simp only [Option.getD_none, Option.getD_some] at h1 h2 h3 ⊢
  · simp [Instr.sliceBounds]
  · simp [Instr.sliceBounds, run_sliceBound (P := P) w _ _ _ _ (show (0 : Int) ≤ i' by omega) h3]
  · have : (i : Int) ≤ ((len : Nat) : Int) := h2
    simp [Instr.sliceBounds, run_sliceBound (P := P) w _ _ _ _ h1 this]
  · have e : (i'.toNat : Int) = i' := Int.toNat_of_nonneg (by omega)
    have h2' : i ≤ ((i'.toNat : Nat) : Int) := by omega
    simp [Instr.sliceBounds, run_sliceBound (P := P) w _ _ _ _ (show (0 : Int) ≤ i' by omega) h3, run_sliceBound (P := P) w _ _ _ _ h1 h2']
theorem run_sliceV {t : TypeId} {y : Ty} (hy : chkTy P t y = true) {x r : V} {lo hi : Option Value} {l h : Option Int} (hl : OptI lo l) (hh : OptI hi h) {p : Prop} (hs : sliceV y.k x l h = some (p, r)) (hp : p)
    {ok : Nat → Prop} {v : Value} (hv : VV w ok β x v) : ∃ u, (Instr.sliceAt t v lo hi none).run P w = .ok u w ∧ VV w ok β r u := by
  have hc := chkTy_kind hy
  unfold sliceV at hs
  simp only at hs
  split at hs
  · rename_i st hk
    rw [hk] at hc
    have hu := chkK_string hc
    simp only [Option.some.injEq, Prod.mk.injEq] at hs
    obtain ⟨rfl, rfl⟩ := hs
    simp only [VV, VR] at hv ⊢
    subst hv
    exact ⟨_, by simp [Instr.sliceAt, Instr.slice, run_underlying hu, run_bounds hl hh hp.1 hp.2.1 hp.2.2], rfl⟩
  · rename_i e sz bb len sz' cs hk
    rw [hk] at hc
    obtain ⟨hu, i, hi', his, _⟩ := chkK_slice hc
    simp only [Option.ite_none_right_eq_some, Option.some.injEq, Prod.mk.injEq] at hs
    obtain ⟨rfl, rfl, rfl⟩ := hs
    simp only [VV, VR] at hv ⊢
    obtain ⟨hlen, A, cap, rfl, hn, hcm, hA⟩ := hv
    obtain ⟨p1, p2, p3⟩ := hp
    have hb := run_bounds (P := P) (w := w) (b := true) (len := len) (cap := cap) hl hh p1 p2 (by omega)
    refine ⟨_, by simp [Instr.sliceAt, Instr.slice, run_underlying hu, hb, sizeOf, typeInfo, hi']; rfl, ?_⟩
    refine ⟨?_, _, _, rfl, by omega, by omega, ?_⟩
    · simp only [List.length_take, List.length_drop, hlen]
      have : ((h.getD len).toNat - (l.getD 0).toNat) * sz' ≤ len * sz' - (l.getD 0).toNat * sz' := by
        rw [← Nat.sub_mul]; exact Nat.mul_le_mul_right _ (by omega)
      omega
    · by_cases h0 : (h.getD len).toNat - (l.getD 0).toNat = 0
      · exact .inl h0
      · right
        rcases hA with hA | ⟨b, o, rfl, hbk, hva⟩
        · omega
        · have hne : ¬ cap = (l.getD 0).toNat := by omega
          exact ⟨b, o + (l.getD 0).toNat * sz', by simp [hne, Addr.add_mid, his], hbk, VA.take _ (VA.drop _ hva)⟩
  · rename_i e sz bb i sz' len hk
    rw [hk] at hc
    obtain ⟨hu, i', hi', his, _⟩ := chkK_slice hc
    simp only [Option.ite_none_right_eq_some, Option.some.injEq, Prod.mk.injEq] at hs
    obtain ⟨rfl, rfl, rfl⟩ := hs
    simp only [VV] at hv ⊢
    obtain ⟨p1, p2, p3⟩ := hp
    rcases hv with ⟨b, z, cap, hb, rfl, _, h2, h3⟩ | ⟨rfl, rfl⟩
    rotate_left
    · have hbd := run_bounds (P := P) (w := w) (b := true) (len := 0) (cap := 0) hl hh p1 p2 (by omega)
      refine ⟨.slice none ((h.getD ((0 : Nat) : Int)).toNat - (l.getD 0).toNat) (0 - (l.getD 0).toNat), ?_, .inr ⟨by omega, ?_⟩⟩
      · simp [Instr.sliceAt, Instr.slice, run_underlying hu, hbd, sizeOf, typeInfo, hi']
      · congr 1 <;> omega
    have hbd := run_bounds (P := P) (w := w) (b := true) (len := len) (cap := cap) hl hh p1 p2 (by omega)
    have key : ∀ A : Option Addr, A = (if cap = (l.getD 0).toNat then some (⟨b, 0, none⟩ : Addr) else some ⟨b, (l.getD 0).toNat * sz', none⟩) →
        ∃ o', A = some ⟨b, o', none⟩ ∧ ((h.getD len).toNat - (l.getD 0).toNat = 0 ∨ o' = (l.getD 0).toNat * sz') := by
      intro A hA
      by_cases hne : cap = (l.getD 0).toNat
      · rw [if_pos hne] at hA; exact ⟨0, hA, .inl (by omega)⟩
      · rw [if_neg hne] at hA; exact ⟨_, hA, .inr rfl⟩
    obtain ⟨o', ho1, ho2⟩ := key _ rfl
    refine ⟨.slice (some ⟨b, o', none⟩) ((h.getD len).toNat - (l.getD 0).toNat) (cap - (l.getD 0).toNat), ?_, .inl ⟨b, z, _, hb, o', rfl, by omega, by omega, ho2⟩⟩
    rw [← ho1]
    have hif : (if cap = (l.getD 0).toNat then some (⟨b, 0, none⟩ : Addr) else some ⟨b, (l.getD 0).toNat * sz', none⟩) = if cap = (l.getD 0).toNat then some (⟨b, 0, none⟩ : Addr) else (some (⟨b, 0, none⟩ : Addr)).map (·.add ((l.getD 0).toNat * i'.size)) := by
      simp [Addr.add_mid, his]
    rw [hif]
    simp [Instr.sliceAt, Instr.slice, run_underlying hu, hbd, sizeOf, typeInfo, hi']
  · rename_i n e sz g cs hk
    rw [hk] at hc
    obtain ⟨hu, h3, _⟩ := chkK_array hc
    obtain ⟨ifo, hi', his⟩ : ∃ i, P.info? e = some i ∧ i.size = sz := by
      unfold sizeP at h3
      cases hi : P.info? e with
      | none => simp [hi] at h3
      | some i => exact ⟨i, rfl, by simpa [hi] using h3⟩
    simp only [Option.some.injEq, Prod.mk.injEq] at hs
    obtain ⟨rfl, rfl⟩ := hs
    simp only [VV, VR] at hv ⊢
    obtain ⟨b, o, rfl, hbk, hva⟩ := hv
    obtain ⟨p1, p2, p3, p4, p5⟩ := hp
    have hbd := run_bounds (P := P) (w := w) (b := false) (len := n) (cap := n) hl hh p1 p2 p3
    have h45 : ((h.getD n).toNat - (l.getD 0).toNat) * sz ≤ cs.length - (l.getD 0).toNat * sz := by
      have : ((h.getD n).toNat - (l.getD 0).toNat) * sz ≤ n * sz - (l.getD 0).toNat * sz := by
        rw [← Nat.sub_mul]; exact Nat.mul_le_mul_right _ (by omega)
      omega
    refine ⟨.slice (some (if n = (l.getD 0).toNat then ⟨b, o, none⟩ else (⟨b, o, none⟩ : Addr).add ((l.getD 0).toNat * ifo.size))) ((h.getD n).toNat - (l.getD 0).toNat) (n - (l.getD 0).toNat), by simp [Instr.sliceAt, Instr.sureAddr, run_underlying hu, hbd, sizeOf, typeInfo, hi'], ?_, _, _, rfl, by omega, by omega, ?_⟩
    · simp only [List.length_take, List.length_drop]; omega
    · by_cases h0 : (h.getD n).toNat - (l.getD 0).toNat = 0
      · exact .inl h0
      · have hne : ¬ n = (l.getD 0).toNat := by omega
        exact .inr ⟨b, o + (l.getD 0).toNat * sz, by simp [hne, Addr.add_mid, his], hbk, VA.take _ (VA.drop _ hva)⟩
  · rename_i n e sz g i o hk
    rw [hk] at hc
    obtain ⟨hu, h3, _⟩ := chkK_array hc
    obtain ⟨ifo, hi', his⟩ : ∃ i, P.info? e = some i ∧ i.size = sz := by
      unfold sizeP at h3
      cases hi : P.info? e with
      | none => simp [hi] at h3
      | some i => exact ⟨i, rfl, by simpa [hi] using h3⟩
    simp only [Option.some.injEq, Prod.mk.injEq] at hs
    obtain ⟨rfl, rfl⟩ := hs
    simp only [VV] at hv ⊢
    obtain ⟨b, z, hb, rfl⟩ := hv
    obtain ⟨p1, p2, p3, p4⟩ := hp
    have hbd := run_bounds (P := P) (w := w) (b := false) (len := n) (cap := n) hl hh p1 p2 p3
    refine ⟨.slice (some (if n = (l.getD 0).toNat then ⟨b, o, none⟩ else (⟨b, o, none⟩ : Addr).add ((l.getD 0).toNat * ifo.size))) ((h.getD n).toNat - (l.getD 0).toNat) (n - (l.getD 0).toNat), by simp [Instr.sliceAt, Instr.sureAddr, run_underlying hu, hbd, sizeOf, typeInfo, hi'], .inl ⟨b, z, n - (l.getD 0).toNat, hb, if n = (l.getD 0).toNat then o else o + (l.getD 0).toNat * sz, ?_, by omega, by omega, ?_⟩⟩
    · by_cases hne : n = (l.getD 0).toNat
      · simp [← hne]
      · simp [hne, Addr.add_mid, his]
    · by_cases hne : n = (l.getD 0).toNat
      · left; omega
      · right; rw [if_neg hne]
  · cases hs
end
end Go.Tl
