/-
  Making composite values: struct and array values, rows with given cells. No statement of the seat is proved here.
-/
import Derived.Test.YtfbkhpfhnimnfaaTlG
namespace Go.Tl
set_option linter.unusedVariables false
set_option linter.unusedSimpArgs false

theorem foldl_set (off : Nat) : ∀ (l : List Value) (k : Nat) (cells : Array Value), off + k + l.length ≤ cells.size →
    ((l.zipIdx k).foldl (fun (cs : Array Value) (x : Value × Nat) => cs.setIfInBounds (off + x.2) x.1) cells).toList = cells.toList.take (off + k) ++ l ++ cells.toList.drop (off + k + l.length)
  | [], k, cells, _ => by simp
  | v :: r, k, cells, h => by
    have hk : off + k < cells.size := by simp at h; omega
    simp only [List.zipIdx_cons, List.foldl_cons]
    rw [foldl_set off r (k + 1) (cells.setIfInBounds (off + k) v) (by simp at h ⊢; omega)]
    have hk' : off + k < cells.toList.length := by simpa using hk
    have h1 : (cells.toList.set (off + k) v).take (off + (k + 1)) = cells.toList.take (off + k) ++ [v] := by
      rw [set_eq _ _ _ hk', ← Nat.add_assoc, List.take_append_of_le_length (by simp; omega), List.take_of_length_le (by simp; omega)]
    have h2 : (cells.toList.set (off + k) v).drop (off + (k + 1) + r.length) = cells.toList.drop (off + k + (r.length + 1)) := by
      rw [List.drop_set_of_lt (by omega)]; congr 1; omega
    simp only [Array.toList_setIfInBounds, h1, h2, List.length_cons]
    simp

def cellsT : V → Option (List T)
  | .t (.agg cs) => some cs
  | .t x => if x.one then some [x] else none
  | _ => none
theorem cellsT_V {x : V} {cs : List T} (h : cellsT x = some cs) : cellsV x = some (cs.map V.t) := by
  unfold cellsT at h
  split at h
  · cases h; rfl
  · rename_i t _
    simp only [Option.ite_none_right_eq_some, Option.some.injEq] at h
    obtain ⟨h1, rfl⟩ := h
    cases t <;> first | rfl | cases h1
  · cases h
def fillV (place : Nat → Option (Nat × Nat)) : List V → List (Nat × V) → Option (Prop × List V)
  | cells, [] => some (True, cells)
  | cells, (i, x) :: r => match place i, cellsV x with
    | some (off, sz), some cv => match fillV place (cells.take off ++ cv ++ cells.drop (off + sz)) r with
      | some (p, out) => some ((cv.length = sz ∧ off + sz ≤ cells.length) ∧ p, out)
      | none => none
    | _, _ => none
def fillT (place : Nat → Option (Nat × Nat)) : List T → List (Nat × V) → Option (Prop × List T)
  | cells, [] => some (True, cells)
  | cells, (i, x) :: r => match place i, cellsT x with
    | some (off, sz), some cv => match fillT place (cells.take off ++ cv ++ cells.drop (off + sz)) r with
      | some (p, out) => some ((cv.length = sz ∧ off + sz ≤ cells.length) ∧ p, out)
      | none => none
    | _, _ => none
theorem fillT_V {place : Nat → Option (Nat × Nat)} : ∀ {parts : List (Nat × V)} {cells out : List T} {p : Prop}, fillT place cells parts = some (p, out) → ∃ p', fillV place (cells.map V.t) parts = some (p', out.map V.t) ∧ (p → p')
  | [], cells, out, p, h => by
    simp only [fillT, Option.some.injEq, Prod.mk.injEq] at h
    obtain ⟨rfl, rfl⟩ := h
    exact ⟨True, by simp only [fillV], fun _ => trivial⟩
  | (i, x) :: r, cells, out, p, h => by
    simp only [fillT] at h
    cases hp : place i with
    | none => simp [hp] at h
    | some os =>
      obtain ⟨off, sz⟩ := os
      cases hc : cellsT x with
      | none => simp [hp, hc] at h
      | some cv =>
        simp only [hp, hc] at h
        cases hr : fillT place (cells.take off ++ cv ++ cells.drop (off + sz)) r with
        | none => rw [hr] at h; cases h
        | some po =>
          obtain ⟨p1, out1⟩ := po
          simp only [hr, Option.some.injEq, Prod.mk.injEq] at h
          obtain ⟨rfl, rfl⟩ := h
          obtain ⟨p', h1, h2⟩ := fillT_V hr
          simp only [List.map_append, List.map_take, List.map_drop] at h1
          refine ⟨((cv.map V.t).length = sz ∧ off + sz ≤ (cells.map V.t).length) ∧ p', ?_, fun hp => ⟨by simpa using hp.1, h2 hp.2⟩⟩
          simp only [fillV, hp, cellsT_V hc, h1]

def evp (S : Nat → Option V) : List (Nat × Operand) → Option (List (Nat × V))
  | [] => some []
  | (i, x) :: xs => match ev S x, evp S xs with
    | some t, some ts => some ((i, t) :: ts)
    | _, _ => none

section
variable {P : Program} {E : Env} {β : Names} {N : List Nat} {S : Nat → Option V} {O : Nat → Option Obj} {a : Act} {w : World}
theorem R.fill (h : R E β N S O a w) {place : Nat → Option (Nat × Nat)} : ∀ {parts : List (Nat × Operand)} {ps : List (Nat × V)} (he : evp S parts = some ps) {cells out : List V} {p : Prop} (hf : fillV place cells ps = some (p, out)) (hp : p)
    {us : Array Value} (h1 : VVL w (Imm E O β w) β cells us.toList) (h2 : ∀ u ∈ us.toList, u.oneCell' = true),
    ∃ us', Instr.fill place us (parts.map fun (i, x) => (i, a.eval x)) = some us' ∧ VVL w (Imm E O β w) β out us'.toList ∧ ∀ u ∈ us'.toList, u.oneCell' = true
  | [], ps, he, cells, out, p, hf, hp, us, h1, h2 => by
    simp only [evp, Option.some.injEq] at he; subst he
    simp only [fillV, Option.some.injEq, Prod.mk.injEq] at hf
    obtain ⟨rfl, rfl⟩ := hf
    exact ⟨us, rfl, h1, h2⟩
  | (i, x) :: r, ps, he, cells, out, p, hf, hp, us, h1, h2 => by
    simp only [evp] at he
    cases hx : Tl.ev S x with
    | none => simp [hx] at he
    | some t =>
      cases hr : evp S r with
      | none => simp [hx, hr] at he
      | some ts =>
        simp only [hx, hr, Option.some.injEq] at he
        subst he
        simp only [fillV] at hf
        cases hpl : place i with
        | none => simp [hpl] at hf
        | some os =>
          obtain ⟨off, sz⟩ := os
          cases hc : cellsV t with
          | none => simp [hpl, hc] at hf
          | some cv =>
            simp only [hpl, hc] at hf
            cases hfr : fillV place (cells.take off ++ cv ++ cells.drop (off + sz)) ts with
            | none => rw [hfr] at hf; cases hf
            | some po =>
              obtain ⟨p1, out1⟩ := po
              simp only [hfr, Option.some.injEq, Prod.mk.injEq] at hf
              obtain ⟨rfl, rfl⟩ := hf
              obtain ⟨⟨hl, hle⟩, hp1⟩ := hp
              obtain ⟨g1, g2⟩ := VV.cells hc (h.ev hx)
              have hsz : (a.eval x).cells.size = sz := by rw [← hl, ← VVL.length g1]; simp
              have hus : us.size = cells.length := by rw [← VVL.length h1]; simp
              have hfold : ((a.eval x).cells.zipIdx.foldl (fun (cs : Array Value) (y : Value × Nat) => cs.setIfInBounds (off + y.2) y.1) us).toList = us.toList.take off ++ (a.eval x).cells.toList ++ us.toList.drop (off + sz) := by
                rw [← Array.foldl_toList, Array.toList_zipIdx]
                have := foldl_set off (a.eval x).cells.toList 0 us (by simp [hsz]; omega)
                simpa [hsz] using this
              have k1 : VVL w (Imm E O β w) β (cells.take off ++ cv ++ cells.drop (off + sz)) ((a.eval x).cells.zipIdx.foldl (fun (cs : Array Value) (y : Value × Nat) => cs.setIfInBounds (off + y.2) y.1) us).toList := by
                rw [hfold]
                exact VVL.append (VVL.append (VVL.take _ h1) g1) (VVL.drop _ h1)
              have k2 : ∀ u ∈ ((a.eval x).cells.zipIdx.foldl (fun (cs : Array Value) (y : Value × Nat) => cs.setIfInBounds (off + y.2) y.1) us).toList, u.oneCell' = true := by
                rw [hfold]
                intro u hu
                simp only [List.mem_append] at hu
                rcases hu with (hu | hu) | hu
                · exact h2 u (List.mem_of_mem_take hu)
                · exact g2 u hu
                · exact h2 u (List.mem_of_mem_drop hu)
              obtain ⟨us', q1, q2, q3⟩ := R.fill h hr hfr hp1 k1 k2
              refine ⟨us', ?_, q2, q3⟩
              simp only [List.map_cons, Instr.fill, hpl]
              rw [if_neg (by simp [hsz]; omega)]
              exact q1
end

theorem chkV_one {v : Value} {t : T} (h : chkV v t = true) : v.oneCell' = true := by
  unfold chkV at h
  split at h <;> first | rfl | cases h
theorem chkVs_ones : ∀ {vs : List Value} {ts : List T}, chkVs vs ts = true → ∀ u ∈ vs, u.oneCell' = true
  | [], [], _, u, hu => by cases hu
  | v :: vs, t :: ts, h, u, hu => by
    simp only [chkVs, Bool.and_eq_true] at h
    rcases List.mem_cons.1 hu with rfl | hu
    · exact chkV_one h.1
    · exact chkVs_ones h.2 u hu
  | [], _ :: _, h, _, _ => by simp [chkVs] at h
  | _ :: _, [], h, _, _ => by simp [chkVs] at h

/-! ### struct and array values -/
def placeK (k : TyK) : Option (Nat → Option (Nat × Nat)) :=
  match k with
  | .struct fs => some fun i => (fs[i]?).map fun f => (f.1, f.2.1)
  | .array _ _ sz _ => some fun i => some (i * sz, sz)
  | _ => none
def buildV (y : Ty) (ps : List (Nat × V)) : Option (Prop × V) :=
  match placeK y.k with
  | some place => match fillT place y.zero ps with
    | some (p, out) => some (p, .t (.agg out))
    | none => match fillV place (y.zero.map V.t) ps with
      | some (p, out) => some (p, .agg out)
      | none => none
  | none => none
theorem fill_congr {place place' : Nat → Option (Nat × Nat)} (h : ∀ i, place i = place' i) (cells : Array Value) (parts : List (Nat × Value)) : Instr.fill place cells parts = Instr.fill place' cells parts := by
  have : place = place' := funext h
  rw [this]
section
variable {P : Program} {E : Env} {β : Names} {N : List Nat} {S : Nat → Option V} {O : Nat → Option Obj} {a : Act} {w : World}
theorem places_of {P : Program} : ∀ {fs : List Field} {r : List (Nat × Nat × Bool)}, chkFs P fs r = true → fs.mapM (fun f => (P.info? f.type).map fun i => (f.offset, i.size)) = some (r.map fun f => (f.1, f.2.1))
  | [], [], _ => by simp
  | f :: fs, (o, s, g) :: r, h => by
    simp only [chkFs, Bool.and_eq_true, decide_eq_true_eq] at h
    obtain ⟨⟨⟨h1, h2⟩, _⟩, h4⟩ := h
    unfold sizeP at h2
    simp only [Option.map_eq_some_iff] at h2
    obtain ⟨i, hi, his⟩ := h2
    simp [List.mapM_cons, hi, his, h1, places_of h4]
  | [], _ :: _, h => by simp [chkFs] at h
  | _ :: _, [], h => by simp [chkFs] at h
theorem built_of {P : Program} {t : TypeId} {y : Ty} (hy : chkTy P t y = true) {place : Nat → Option (Nat × Nat)} (hp : placeK y.k = some place) {i : TypeInfo} {z : Value} (hi : P.info? t = some i) (hz : i.zero = some z) (parts : List (Nat × Value)) :
    P.built t parts = Instr.fill place z.cells parts := by
  have hk := chkTy_kind hy
  unfold placeK at hp
  split at hp
  · rename_i fs hyk
    rw [hyk] at hk
    obtain ⟨fields, hu, hf⟩ := chkK_struct hk
    cases hp
    unfold Program.built
    simp only [hi, hu, hz, places_of hf]
    apply fill_congr
    intro i
    simp
  · rename_i n e sz g hyk
    rw [hyk] at hk
    obtain ⟨hu, h3, _⟩ := chkK_array hk
    unfold sizeP at h3
    simp only [Option.map_eq_some_iff] at h3
    obtain ⟨ie, hie, his⟩ := h3
    cases hp
    unfold Program.built
    simp only [hi, hu, hz, hie, his]
  · cases hp
theorem run_buildV (h : R E β N S O a w) {t : TypeId} {y : Ty} (hy : chkTy P t y = true) {parts : Array (Nat × Operand)} {ps : List (Nat × V)} (he : evp S parts.toList = some ps) {p : Prop} {r : V} (hb : buildV y ps = some (p, r)) (hp : p) :
    ∃ u, (Instr.build t (parts.map fun (i, x) => (i, a.eval x))).run P w = .ok u w ∧ VV w (Imm E O β w) β r u := by
  obtain ⟨i, z, hi, his, _, hz, hzs, _⟩ := chkTy_info hy
  unfold buildV at hb
  cases hpl : placeK y.k with
  | none => simp [hpl] at hb
  | some place =>
    simp only [hpl] at hb
    have key : ∀ {p' : Prop} {out : List V}, fillV place (y.zero.map V.t) ps = some (p', out) → p' → ∃ us', (Instr.build t (parts.map fun (i, x) => (i, a.eval x))).run P w = .ok (.agg us') w ∧ VVL w (Imm E O β w) β out us'.toList ∧ ∀ u ∈ us'.toList, u.oneCell' = true := by
      intro p' out hf hp'
      obtain ⟨us', q1, q2, q3⟩ := h.fill he hf hp' (us := z.cells) (VVL.map_t (chkVs_reads hzs)) (chkVs_ones hzs)
      exact ⟨us', run_build w t _ us' (by rw [built_of hy hpl hi hz]; simpa using q1), q2, q3⟩
    cases hft : fillT place y.zero ps with
    | some po =>
      obtain ⟨p1, out⟩ := po
      simp only [hft, Option.some.injEq, Prod.mk.injEq] at hb
      obtain ⟨rfl, rfl⟩ := hb
      obtain ⟨p', g1, g2⟩ := fillT_V hft
      obtain ⟨us', k1, k2, k3⟩ := key g1 (g2 hp)
      exact ⟨_, k1, by simp only [VV, VR]; exact ⟨us', rfl, k3, VVL.of_map_t k2⟩⟩
    | none =>
      simp only [hft] at hb
      cases hfv : fillV place (y.zero.map V.t) ps with
      | none => simp [hfv] at hb
      | some po =>
        obtain ⟨p1, out⟩ := po
        simp only [hfv, Option.some.injEq, Prod.mk.injEq] at hb
        obtain ⟨rfl, rfl⟩ := hb
        obtain ⟨us', k1, k2, k3⟩ := key hfv hp
        exact ⟨_, k1, by simp only [VV]; exact ⟨us', rfl, k3, k2⟩⟩
end
end Go.Tl
