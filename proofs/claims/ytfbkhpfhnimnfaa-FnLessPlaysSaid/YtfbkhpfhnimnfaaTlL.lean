/-
  Objects that are written no more become trees; names that change. No statement of the seat is proved here.
-/
import Derived.Test.YtfbkhpfhnimnfaaTlK
namespace Go.Tl
set_option linter.unusedVariables false
set_option linter.unusedSimpArgs false

def Obs : List Prop → Prop
  | [] => True
  | p :: ps => p ∧ Obs ps
theorem Obs_append : ∀ (ps qs : List Prop), Obs (ps ++ qs) ↔ Obs ps ∧ Obs qs
  | [], qs => by simp [Obs]
  | p :: ps, qs => by simp [Obs, Obs_append ps qs, and_assoc]

def Obj.trees : Obj → Option (List T)
  | .cells _ cs => some cs
  | .vars _ vs => pures vs
  | .map _ => none

def mkTup (vs : List V) : V :=
  match pures vs with
  | some ts => .t (.tup ts)
  | none => .tup vs
def mkFn (f : FuncId) (vs : List V) : V :=
  match pures vs with
  | some ts => .t (.fn f [] ts)
  | none => .fn f vs
theorem mkTup_reads {w : World} {ok : Nat → Prop} {β : Names} {vs : List V} {xs : Array Value} (h : VVL w ok β vs xs.toList) : VV w ok β (mkTup vs) (.tuple xs) := by
  unfold mkTup
  split
  · rename_i ts hp
    simp only [VV, VR]
    exact ⟨_, rfl, VVL.pures hp h⟩
  · simp only [VV]
    exact ⟨_, rfl, h⟩
theorem mkFn_reads {w : World} {ok : Nat → Prop} {β : Names} {f : FuncId} {vs : List V} {xs : Array Value} (h : VVL w ok β vs xs.toList) : VV w ok β (mkFn f vs) (.func (.func f) #[] xs) := by
  unfold mkFn
  split
  · rename_i ts hp
    simp only [VV, VR]
    exact ⟨#[], _, rfl, by simp only [VL], VVL.pures hp h⟩
  · simp only [VV]
    exact ⟨_, rfl, h⟩
mutual
def frzV (i : Nat) (cs : List T) : V → List Prop × V
  | .t x => ([], .t x)
  | .ref k o => if k = i then ([], .t (.ptr (cs.drop o))) else ([], .ref k o)
  | .own k sz n => if k = i then ([cs.length = n * sz], .t (.list n sz cs)) else ([], .own k sz n)
  | .view k o sz n => if k = i then ([o + n * sz ≤ cs.length], .t (.list n sz ((cs.drop o).take (n * sz)))) else ([], .view k o sz n)
  | .mapr k => ([], .mapr k)
  | .agg vs => let r := frzL i cs vs; (r.1, mkAgg r.2)
  | .tup vs => let r := frzL i cs vs; (r.1, mkTup r.2)
  | .fn f vs => let r := frzL i cs vs; (r.1, mkFn f r.2)
def frzL (i : Nat) (cs : List T) : List V → List Prop × List V
  | [] => ([], [])
  | v :: vs => let r := frzV i cs v; let q := frzL i cs vs; (r.1 ++ q.1, r.2 :: q.2)
end
def frzO (i : Nat) (cs : List T) : Obj → List Prop × Obj
  | .vars e vs => let r := frzL i cs vs; (r.1, .vars e r.2)
  | ob => ([], ob)
def mapA {α : Type} (f : α → List Prop × α) : List (Nat × α) → List Prop × List (Nat × α)
  | [] => ([], [])
  | (i, x) :: r => let y := f x; let q := mapA f r; (y.1 ++ q.1, (i, y.2) :: q.2)
theorem lk_mapA {α : Type} (f : α → List Prop × α) : ∀ (l : List (Nat × α)) (k : Nat) (x' : α), Obs (mapA f l).1 → lk (mapA f l).2 k = some x' → ∃ x, lk l k = some x ∧ x' = (f x).2 ∧ Obs (f x).1
  | [], k, x', _, h => by simp [mapA, lk] at h
  | (i, x) :: r, k, x', ho, h => by
    simp only [mapA, Obs_append] at ho
    simp only [mapA, lk] at h ⊢
    split at h
    · rename_i e
      cases h
      exact ⟨x, by rw [if_pos e], rfl, ho.1⟩
    · rename_i e
      obtain ⟨y, h1, h2⟩ := lk_mapA f r k x' ho.2 h
      exact ⟨y, by rw [if_neg e]; exact h1, h2⟩

section
variable {w : World} {ok ok' : Nat → Prop} {β : Names} {i b z : Nat} {cs : List T}
/-- What an object that is frozen holds. -/
structure Froz (w : World) (ok' : Nat → Prop) (b z : Nat) (cs : List T) : Prop where
  ok : ok' b
  cells : ∃ us, VL w ok' cs us ∧ (∀ u ∈ us, u.oneCell' = true) ∧ ∀ j u, us[j]? = some u → w.cell? ⟨b, j, none⟩ = some u
theorem Froz.va (h : Froz w ok' b z cs) (o : Nat) : VA w ok' (cs.drop o) b o := by
  obtain ⟨us, h1, h2, h3⟩ := h.cells
  exact VA.of_cells (VL.drop o h1) (fun u hu => h2 u (List.mem_of_mem_drop hu)) fun j u hj => h3 _ _ (by simpa [List.getElem?_drop] using hj)
mutual
theorem frzV_reads (hl : Lasts w ok w ok') (hf : (∃ b z, β i = some (b, z) ∧ Froz w ok' b z cs) ∨ β i = none) : ∀ (x : V) (v : Value), Obs (frzV i cs x).1 → VV w ok β x v → VV w ok' β (frzV i cs x).2 v
  | .t x, v, _, hv => by simp only [frzV, VV] at hv ⊢; exact VR.lasts hl x v hv
  | .ref k o, v, ho, hv => by
    simp only [frzV] at ho ⊢
    split
    · rename_i e; subst e
      simp only [VV, VR] at hv ⊢
      obtain ⟨b', z', h1, rfl⟩ := hv
      rcases hf with ⟨b, z, hb, hf⟩ | hb <;> rw [hb] at h1 <;> cases h1
      exact ⟨_, o, rfl, hf.ok, hf.va o⟩
    · exact VV.lasts hl (fun _ _ h => h) _ _ hv
  | .own k sz n, v, ho, hv => by
    simp only [frzV] at ho ⊢
    split
    · rename_i e; subst e
      simp only [if_true, Obs, and_true] at ho
      simp only [VV, VR] at hv ⊢
      rcases hv with ⟨b', z', cap, h1, rfl, h2, h3, h4⟩ | ⟨rfl, rfl⟩
      · rcases hf with ⟨b, z, hb, hf⟩ | hb <;> rw [hb] at h1 <;> cases h1
        exact ⟨ho, _, cap, rfl, h3, h4, .inr ⟨_, 0, rfl, hf.ok, by simpa using hf.va 0⟩⟩
      · exact ⟨ho, _, 0, rfl, Nat.le_refl _, Nat.zero_le _, .inl rfl⟩
    · exact VV.lasts hl (fun _ _ h => h) _ _ hv
  | .view k o sz n, v, ho, hv => by
    simp only [frzV] at ho ⊢
    split
    · rename_i e; subst e
      simp only [if_true, Obs, and_true] at ho
      simp only [VV, VR] at hv ⊢
      rcases hv with ⟨b', z', cap, h1, o', rfl, h2, h3, h4⟩ | ⟨rfl, rfl⟩
      · rcases hf with ⟨b, z, hb, hf⟩ | hb <;> rw [hb] at h1 <;> cases h1
        refine ⟨by simp; omega, _, cap, rfl, h2, h3, ?_⟩
        rcases h4 with h4 | rfl
        · exact .inl h4
        · exact .inr ⟨_, o', rfl, hf.ok, VA.take _ (hf.va o')⟩
      · exact ⟨by simp, _, 0, rfl, Nat.le_refl _, Nat.zero_le _, .inl rfl⟩
    · exact VV.lasts hl (fun _ _ h => h) _ _ hv
  | .mapr k, v, _, hv => by simp only [frzV]; exact VV.lasts hl (fun _ _ h => h) _ _ hv
  | .agg vs, v, ho, hv => by
    simp only [frzV] at ho ⊢
    simp only [VV] at hv
    obtain ⟨xs, rfl, h1, h2⟩ := hv
    have := mkAgg_reads (frzL_reads hl hf vs xs.toList ho h2) h1
    simpa using this
  | .tup vs, v, ho, hv => by
    simp only [frzV] at ho ⊢
    simp only [VV] at hv
    obtain ⟨xs, rfl, h2⟩ := hv
    exact mkTup_reads (frzL_reads hl hf vs xs.toList ho h2)
  | .fn f vs, v, ho, hv => by
    simp only [frzV] at ho ⊢
    simp only [VV] at hv
    obtain ⟨xs, rfl, h2⟩ := hv
    exact mkFn_reads (frzL_reads hl hf vs xs.toList ho h2)
theorem frzL_reads (hl : Lasts w ok w ok') (hf : (∃ b z, β i = some (b, z) ∧ Froz w ok' b z cs) ∨ β i = none) : ∀ (xs : List V) (vs : List Value), Obs (frzL i cs xs).1 → VVL w ok β xs vs → VVL w ok' β (frzL i cs xs).2 vs
  | [], vs, _, hv => by simp only [frzL, VVL] at hv ⊢; exact hv
  | x :: xs, vs, ho, hv => by
    simp only [frzL, Obs_append] at ho
    simp only [frzL, VVL] at hv ⊢
    obtain ⟨u, us, rfl, h1, h2⟩ := hv
    exact ⟨u, us, rfl, frzV_reads hl hf x u ho.1 h1, frzL_reads hl hf xs us ho.2 h2⟩
end
theorem frzO_reads (hl : Lasts w ok w ok') (hf : (∃ b z, β i = some (b, z) ∧ Froz w ok' b z cs) ∨ β i = none) {b' z' : Nat} (ob : Obj) (ho : Obs (frzO i cs ob).1) (hv : OR w ok β b' z' ob) : OR w ok' β b' z' (frzO i cs ob).2 := by
  cases ob with
  | cells e cs' => exact OR.lasts hl (fun _ _ h => h) rfl hv
  | map es => exact OR.lasts hl (fun _ _ h => h) rfl hv
  | vars e vs =>
    simp only [frzO, OR] at ho hv ⊢
    obtain ⟨arr, us, rest, h1, h2, h3, h4, h5⟩ := hv
    exact ⟨arr, us, rest, h1, h2, h3, h4, frzL_reads hl hf vs us ho h5⟩
end

def St.freeze (σ : St) (i : Nat) : Option (List Prop × St) :=
  match lk σ.O i with
  | some ob => match ob.trees with
    | some cs =>
      let s := mapA (frzV i cs) σ.S
      let o := mapA (frzO i cs) (delA σ.O i)
      some (s.1 ++ o.1, ⟨σ.N, s.2, o.2⟩)
    | none => none
  | none => none
theorem Obj.trees_reads {w : World} {ok : Nat → Prop} {β : Names} {b z : Nat} {ob : Obj} {cs : List T} (ht : ob.trees = some cs) (h : OR w ok β b z ob) :
    ∃ us, VL w ok cs us ∧ (∀ u ∈ us, u.oneCell' = true) ∧ ∀ j u, us[j]? = some u → w.cell? ⟨b, j, none⟩ = some u := by
  have hm : ob.isMap = false := by cases ob <;> first | rfl | cases ht
  obtain ⟨arr, us, rest, h1, h2, h3, h4, h5⟩ := (OR_iff hm).1 h
  refine ⟨us, ?_, h4, fun j u hj => ?_⟩
  · cases ob with
    | cells e cs' => cases ht; exact VVL.of_map_t h5
    | vars e vs => exact VVL.pures ht h5
    | map es => cases ht
  · have : arr[j]? = some u := by
      rw [← Array.getElem?_toList, h3, List.getElem?_append_left (List.getElem?_eq_some_iff.1 hj).1]; exact hj
    simp [World.cell?, h1, this]
theorem Rel.freeze {E : Env} {σ σ' : St} {a : Act} {w : World} (h : Rel E σ a w) {i : Nat} {obs : List Prop} (hf : σ.freeze i = some (obs, σ')) (ho : Obs obs) : Rel E σ' a w := by
  obtain ⟨β, h⟩ := h
  unfold St.freeze at hf
  cases hi : lk σ.O i with
  | none => simp [hi] at hf
  | some ob =>
    cases ht : ob.trees with
    | none => simp [hi, ht] at hf
    | some cs =>
      simp only [hi, ht, Option.some.injEq, Prod.mk.injEq] at hf
      obtain ⟨rfl, rfl⟩ := hf
      rw [Obs_append] at ho
      have hdel : ∀ k o', lk (delA σ.O i) k = some o' → k ≠ i ∧ lk σ.O k = some o' := fun k o' hk => by
        rw [lk_del] at hk
        by_cases e : k = i
        · rw [e, upd_same] at hk; cases hk
        · rw [upd_other _ _ _ _ e] at hk; exact ⟨e, hk⟩
      refine ⟨β, h.retell (fun i hp => (h.pins i hp).2) h.news h.dom (fun k o x hk hx => ?_) (fun k o hk => ?_) (fun p q o o' x x' hp hq hx hx' hne => ?_) (fun himm k o x hk hx => ?_) (fun himm t x' ht' => ?_)⟩
      · obtain ⟨o2, h1, h2, h3⟩ := lk_mapA _ _ _ _ ho.2 hk
        exact ⟨k, o2, (hdel k o2 h1).2, hx⟩
      · obtain ⟨o2, h1, h2, h3⟩ := lk_mapA _ _ _ _ ho.2 hk
        rcases h.objs k o2 (hdel k o2 h1).2 with ⟨b', z', hb', _⟩ | ⟨g1, g2, e, rfl⟩
        · left; rw [hb']; rfl
        · right; rw [h2]; exact ⟨g1, g2, e, rfl⟩
      · obtain ⟨o2, h1, _, _⟩ := lk_mapA _ _ _ _ ho.2 hp
        obtain ⟨o3, h2, _, _⟩ := lk_mapA _ _ _ _ ho.2 hq
        exact h.apart p q o2 o3 x x' (hdel p o2 h1).2 (hdel q o3 h2).2 hx hx' hne
      all_goals
        have hfz : (∃ b z, β i = some (b, z) ∧ Froz w (Imm E (lk (mapA (frzO i cs) (delA σ.O i)).2) β w) b z cs) ∨ β i = none := by
          rcases h.objs i ob hi with ⟨b, z, hb, hlt, hbx, hor⟩ | ⟨_, hb, _⟩
          rotate_left
          · exact .inr hb
          refine .inl ⟨b, z, hb, ?_⟩
          obtain ⟨us, g1, g2, g3⟩ := Obj.trees_reads ht hor
          refine ⟨⟨.inr hbx, hlt, fun k o x hk hx e => ?_⟩, us, VL.lasts ⟨himm, fun _ _ => rfl⟩ _ _ g1, g2, g3⟩
          obtain ⟨o2, h1, _, _⟩ := lk_mapA _ _ _ _ ho.2 hk
          obtain ⟨h3, h4⟩ := hdel k o2 h1
          exact h.apart k i o2 ob x _ h4 hi hx hb h3 e
      · obtain ⟨o2, h1, rfl, h3⟩ := lk_mapA _ _ _ _ ho.2 hk
        obtain ⟨b', z', hb', _, _, hor'⟩ := h.objS (hdel k o2 h1).2 hx
        rw [hx] at hb'; cases hb'
        exact frzO_reads ⟨himm, fun _ _ => rfl⟩ hfz o2 h3 hor'
      · obtain ⟨x, h1, rfl, h3⟩ := lk_mapA _ _ _ _ ho.1 ht'
        exact ⟨x, h1, fun v hv => frzV_reads ⟨himm, fun _ _ => rfl⟩ hfz x v h3 hv⟩

/-! ### names -/
mutual
def V.ren (f : Nat → Nat) : V → V
  | .t x => .t x
  | .ref i o => .ref (f i) o
  | .own i sz n => .own (f i) sz n
  | .view i o sz n => .view (f i) o sz n
  | .mapr i => .mapr (f i)
  | .agg vs => .agg (V.renL f vs)
  | .tup vs => .tup (V.renL f vs)
  | .fn g vs => .fn g (V.renL f vs)
def V.renL (f : Nat → Nat) : List V → List V
  | [] => []
  | v :: vs => v.ren f :: V.renL f vs
end
mutual
def V.inN (N : List Nat) : V → Bool
  | .t _ => true
  | .ref i _ => N.contains i
  | .own i _ _ => N.contains i
  | .view i _ _ _ => N.contains i
  | .mapr i => N.contains i
  | .agg vs => V.inNL N vs
  | .tup vs => V.inNL N vs
  | .fn _ vs => V.inNL N vs
def V.inNL (N : List Nat) : List V → Bool
  | [] => true
  | v :: vs => v.inN N && V.inNL N vs
end
def Obj.ren (f : Nat → Nat) : Obj → Obj
  | .vars e vs => .vars e (V.renL f vs)
  | o => o
def Obj.inN (N : List Nat) : Obj → Bool
  | .vars _ vs => V.inNL N vs
  | _ => true
section
variable {w : World} {ok : Nat → Prop} {β β' : Names}
mutual
/-- Other names for the same blocks. -/
theorem VV.ren {N : List Nat} {f : Nat → Nat} (hf : ∀ i, N.contains i = true → β' (f i) = β i) : ∀ (x : V) (v : Value), x.inN N = true → VV w ok β x v → VV w ok β' (x.ren f) v
  | .t x, v, _, hv => by simp only [V.ren, VV] at hv ⊢; exact hv
  | .ref i o, v, hn, hv => by simp only [V.ren, VV, V.inN] at hv hn ⊢; rw [hf i hn]; exact hv
  | .own i sz n, v, hn, hv => by simp only [V.ren, VV, V.inN] at hv hn ⊢; rw [hf i hn]; exact hv
  | .view i o sz n, v, hn, hv => by simp only [V.ren, VV, V.inN] at hv hn ⊢; rw [hf i hn]; exact hv
  | .mapr i, v, hn, hv => by simp only [V.ren, VV, V.inN] at hv hn ⊢; rw [hf i hn]; exact hv
  | .agg vs, v, hn, hv => by
    simp only [V.ren, VV, V.inN] at hv hn ⊢
    obtain ⟨xs, h1, h2, h3⟩ := hv
    exact ⟨xs, h1, h2, VVL.ren hf vs _ hn h3⟩
  | .tup vs, v, hn, hv => by
    simp only [V.ren, VV, V.inN] at hv hn ⊢
    obtain ⟨xs, h1, h3⟩ := hv
    exact ⟨xs, h1, VVL.ren hf vs _ hn h3⟩
  | .fn g vs, v, hn, hv => by
    simp only [V.ren, VV, V.inN] at hv hn ⊢
    obtain ⟨xs, h1, h3⟩ := hv
    exact ⟨xs, h1, VVL.ren hf vs _ hn h3⟩
theorem VVL.ren {N : List Nat} {f : Nat → Nat} (hf : ∀ i, N.contains i = true → β' (f i) = β i) : ∀ (xs : List V) (vs : List Value), V.inNL N xs = true → VVL w ok β xs vs → VVL w ok β' (V.renL f xs) vs
  | [], vs, _, hv => by simp only [V.renL, VVL] at hv ⊢; exact hv
  | x :: xs, vs, hn, hv => by
    simp only [V.renL, VVL, V.inNL, Bool.and_eq_true] at hv hn ⊢
    obtain ⟨u, us, rfl, h1, h2⟩ := hv
    exact ⟨u, us, rfl, VV.ren hf x u hn.1 h1, VVL.ren hf xs us hn.2 h2⟩
end
theorem OR.ren {N : List Nat} {f : Nat → Nat} (hf : ∀ i, N.contains i = true → β' (f i) = β i) {b z : Nat} (o : Obj) (hn : o.inN N = true) (h : OR w ok β b z o) : OR w ok β' b z (o.ren f) := by
  cases o with
  | cells e cs => simp only [OR, Obj.ren] at h ⊢; exact h
  | map es => simp only [OR, Obj.ren] at h ⊢; exact h
  | vars e vs =>
    simp only [OR, Obj.ren, Obj.inN] at h hn ⊢
    obtain ⟨arr, us, rest, h1, h2, h3, h4, h5⟩ := h
    exact ⟨arr, us, rest, h1, h2, h3, h4, VVL.ren hf vs us hn h5⟩
end

def renF (rn : List (Nat × Nat)) (i : Nat) : Nat := (lk rn i).getD i
def mapK {α : Type} (f : Nat → Nat) (g : α → α) : List (Nat × α) → List (Nat × α)
  | [] => []
  | (i, x) :: r => (f i, g x) :: mapK f g r
theorem lk_mapK {α : Type} (f : Nat → Nat) (g : α → α) : ∀ (l : List (Nat × α)) (k' : Nat) (x' : α), lk (mapK f g l) k' = some x' → ∃ k x, f k = k' ∧ lk l k = some x ∧ x' = g x
  | [], k', x', h => by simp [mapK, lk] at h
  | (i, x) :: r, k', x', h => by
    simp only [mapK, lk] at h
    split at h
    · rename_i e
      cases h
      exact ⟨i, x, e.symm, by simp [lk], rfl⟩
    · rename_i e
      obtain ⟨k, y, h1, h2, h3⟩ := lk_mapK f g r k' x' h
      refine ⟨k, y, h1, ?_, h3⟩
      simp only [lk]
      rw [if_neg (fun e' => e (by rw [← h1, e']))]
      exact h2
def allS (p : V → Bool) : List (Nat × V) → Bool
  | [] => true
  | (_, x) :: r => p x && allS p r
def allO (p : Nat → Obj → Bool) : List (Nat × Obj) → Bool
  | [] => true
  | (i, x) :: r => p i x && allO p r
theorem allS_lk {p : V → Bool} : ∀ {l : List (Nat × V)}, allS p l = true → ∀ {k : Nat} {x : V}, lk l k = some x → p x = true
  | [], _, k, x, h => by simp [lk] at h
  | (i, y) :: r, ha, k, x, h => by
    simp only [allS, Bool.and_eq_true] at ha
    simp only [lk] at h
    split at h
    · cases h; exact ha.1
    · exact allS_lk ha.2 h
theorem allO_lk {p : Nat → Obj → Bool} : ∀ {l : List (Nat × Obj)}, allO p l = true → ∀ {k : Nat} {x : Obj}, lk l k = some x → p k x = true
  | [], _, k, x, h => by simp [lk] at h
  | (i, y) :: r, ha, k, x, h => by
    simp only [allO, Bool.and_eq_true] at ha
    simp only [lk] at h
    split at h
    · rename_i e; cases h; rw [e]; exact ha.1
    · exact allO_lk ha.2 h
/-- Other names; what is not told is forgotten. -/
def pinned (N : List Nat) (rn : List (Nat × Nat)) : List (Nat × Nat) :=
  rn ++ ((N.filter fun i => decide (i < 1000) && !(rn.map (·.1)).contains i).map fun i => (i, i))
def St.names (σ : St) (rn0 : List (Nat × Nat)) : Option St :=
  let rn := pinned σ.N rn0
  let olds := rn.map (·.1)
  let inv := rn.map fun x => (x.2, x.1)
  if rn.all (fun x => decide (lk inv x.2 = some x.1) && decide (lk rn x.1 = some x.2) && (decide (1000 ≤ x.1) || x.2 == x.1) && (decide (x.2 < 2000) || decide (2000 ≤ x.1))) && allS (V.inN olds) σ.S && allO (fun i o => olds.contains i && o.inN olds) σ.O then
    some ⟨rn.map (·.2), mapK id (V.ren (renF rn)) σ.S, mapK (renF rn) (Obj.ren (renF rn)) σ.O⟩
  else none
theorem Rel.names {E : Env} {σ σ' : St} {a : Act} {w : World} (h : Rel E σ a w) {rn0 : List (Nat × Nat)} (hn : σ.names rn0 = some σ') : Rel E σ' a w := by
  obtain ⟨β, h⟩ := h
  unfold St.names at hn
  have hpin : ∀ i, i ∈ σ.N → i < 1000 → (pinned σ.N rn0).any (fun x => x.1 == i) = true := fun i hi hlt => by
    simp only [List.any_eq_true, beq_iff_eq]
    by_cases hc : i ∈ rn0.map (·.1)
    · obtain ⟨x, hx, rfl⟩ := List.mem_map.1 hc
      exact ⟨x, List.mem_append_left _ hx, rfl⟩
    · refine ⟨(i, i), List.mem_append_right _ (List.mem_map.2 ⟨i, List.mem_filter.2 ⟨hi, ?_⟩, rfl⟩), rfl⟩
      simp only [List.contains_eq_mem, Bool.and_eq_true, decide_eq_true_eq, Bool.not_eq_true', decide_eq_false_iff_not]
      exact ⟨hlt, hc⟩
  generalize pinned σ.N rn0 = rn at hn hpin
  simp only [Option.ite_none_right_eq_some, Bool.and_eq_true, Option.some.injEq, List.all_eq_true, decide_eq_true_eq, Bool.or_eq_true, beq_iff_eq] at hn
  obtain ⟨⟨⟨h1', h2⟩, h3⟩, rfl⟩ := hn
  have h1 : ∀ x ∈ rn, lk (rn.map fun x => (x.2, x.1)) x.2 = some x.1 ∧ lk rn x.1 = some x.2 := fun x hx => (h1' x hx).1.1
  let β' : Names := fun j => match lk (rn.map fun x => (x.2, x.1)) j with
    | some i => β i
    | none => none
  have hf : ∀ i, (rn.map (·.1)).contains i = true → lk (rn.map fun x => (x.2, x.1)) (renF rn i) = some i := fun i hi => by
    simp only [List.contains_eq_mem, decide_eq_true_eq, List.mem_map] at hi
    obtain ⟨x, hx, rfl⟩ := hi
    obtain ⟨k1, k2⟩ := h1 x hx
    simp only [renF, k2, Option.getD_some]
    exact k1
  have hβ : ∀ i, (rn.map (·.1)).contains i = true → β' (renF rn i) = β i := fun i hi => by simp only [β', hf i hi]
  have hobj : ∀ k o', lk (mapK (renF rn) (Obj.ren (renF rn)) σ.O) k = some o' → ∃ i o, renF rn i = k ∧ lk σ.O i = some o ∧ o' = o.ren (renF rn) ∧ (rn.map (·.1)).contains i = true ∧ o.inN (rn.map (·.1)) = true := fun k o' hk => by
    obtain ⟨i, o, g1, g2, g3⟩ := lk_mapK _ _ _ _ _ hk
    have := allO_lk h3 g2
    simp only [Bool.and_eq_true] at this
    exact ⟨i, o, g1, g2, g3, this.1, this.2⟩
  refine ⟨β', h.retell (fun i hp => ?_) (fun j x hj hx => ?_) (fun j hj => ?_) (fun k o x hk hx => ?_) (fun k o hk => ?_) (fun p q o o' x x' hp hq hx hx' hne => ?_) (fun himm k o x hk hx => ?_) (fun himm t x' ht' => ?_)⟩
  · obtain ⟨hlt, hiN, hi⟩ := h.pins i hp
    have := hpin i hiN hlt
    simp only [List.any_eq_true, beq_iff_eq] at this
    obtain ⟨y, hy, rfl⟩ := this
    have e : y.2 = y.1 := by
      rcases (h1' y hy).1.2 with h | h
      · omega
      · exact h
    refine ⟨List.mem_map.2 ⟨y, hy, e⟩, ?_⟩
    simp only [β']
    rw [← e, (h1 y hy).1, e]
    simpa using hi
  · simp only [β'] at hx
    cases hl : lk (rn.map fun x => (x.2, x.1)) j with
    | none => simp [hl] at hx
    | some i =>
      simp only [hl] at hx
      have : ∀ (l : List (Nat × Nat)) (j i : Nat), lk (l.map fun x => (x.2, x.1)) j = some i → (i, j) ∈ l := by
        intro l
        induction l with
        | nil => intro j i h; simp [lk] at h
        | cons x l ih =>
          intro j i h
          simp only [List.map_cons, lk] at h
          split at h
          · rename_i e; cases h; rw [e]; exact List.mem_cons_self
          · exact List.mem_cons_of_mem _ (ih j i h)
      have hm := (h1' _ (this rn j i hl)).2
      exact h.news i x (by rcases hm with hm | hm <;> simp only at hm <;> omega) hx
  · simp only [β']
    cases hl : lk (rn.map fun x => (x.2, x.1)) j with
    | none => rfl
    | some i =>
      exfalso
      apply hj
      have : ∀ (l : List (Nat × Nat)) (j i : Nat), lk (l.map fun x => (x.2, x.1)) j = some i → j ∈ l.map (·.2) := by
        intro l
        induction l with
        | nil => intro j i h; simp [lk] at h
        | cons x l ih =>
          intro j i h
          simp only [List.map_cons, lk] at h
          split at h
          · rename_i e; simp [e]
          · exact List.mem_cons_of_mem _ (ih j i h)
      exact this rn j i hl
  · obtain ⟨i, o2, rfl, g2, _, g4, _⟩ := hobj k o hk
    rw [hβ i g4] at hx
    exact ⟨i, o2, g2, hx⟩
  · obtain ⟨i, o2, rfl, g2, g3, g4, _⟩ := hobj k o hk
    rw [hβ i g4]
    rcases h.objs i o2 g2 with ⟨b, z, hb, _⟩ | ⟨q1, q2, e, rfl⟩
    · left; rw [hb]; rfl
    · right
      refine ⟨?_, q2, e, by rw [g3]; rfl⟩
      simp only [List.contains_eq_mem, decide_eq_true_eq, List.mem_map] at g4
      obtain ⟨x, hx, rfl⟩ := g4
      exact List.mem_map.2 ⟨x, hx, by simp only [renF, (h1 x hx).2, Option.getD_some]⟩
  · obtain ⟨i, o2, rfl, g2, _, g4, _⟩ := hobj p o hp
    obtain ⟨i', o2', rfl, g2', _, g4', _⟩ := hobj q o' hq
    rw [hβ i g4] at hx
    rw [hβ i' g4'] at hx'
    exact h.apart i i' o2 o2' x x' g2 g2' hx hx' (fun e => hne (by rw [e]))
  · obtain ⟨i, o2, rfl, g2, rfl, g4, g5⟩ := hobj k o hk
    rw [hβ i g4] at hx
    obtain ⟨b, z, hb, _, _, hor⟩ := h.objS g2 hx
    rw [hx] at hb; cases hb
    exact OR.ren (fun i hi => (hβ i hi)) o2 g5 (OR.lasts ⟨himm, fun _ _ => rfl⟩ (fun _ _ h => h) rfl hor)
  · obtain ⟨t', x, g1, g2, rfl⟩ := lk_mapK _ _ _ _ _ ht'
    simp only [id] at g1
    subst g1
    exact ⟨x, g2, fun v hv => VV.ren (fun i hi => hβ i hi) x v (allS_lk h2 g2) (VV.lasts ⟨himm, fun _ _ => rfl⟩ (fun _ _ h => h) _ _ hv)⟩
end Go.Tl
