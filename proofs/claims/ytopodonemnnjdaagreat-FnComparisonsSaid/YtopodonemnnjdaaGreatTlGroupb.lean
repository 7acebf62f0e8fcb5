/-
  Trees for Go values, contracts of functions and the steps of the walks: texts of the layer, put together. No statement of the seat is proved here.
-/
import Derived.Test.YtopodonemnnjdaaGreatTlGroupa
import Derived.ChangeKeysEq
import Derived.Laws.StructEq
import Derived.MapKept
import Derived.WideKeyRuns
import Derived.Lib.ConvBytes
import Derived.Laws.BytesString
import GoSem.Builtin.Clear
import Derived.Laws.Slices
section
namespace Go.Tl
set_option linter.unusedVariables false
set_option linter.unusedSimpArgs false

def Obs : List Prop → Prop
  | [] => True
  | p :: ps => p ∧ Obs ps
theorem Obs_append : ∀ (ps qs : List Prop), Obs (ps ++ qs) ↔ Obs ps ∧ Obs qs
  | [], qs => by simp [Obs]
  | p :: ps, qs => by simp [Obs, Obs_append ps qs, and_assoc]

def Obj.trees : Obj → Option (List T)
  | .cells _ cs => some cs
  | .vars _ vs => pures vs
  | .map _ => none

def mkTup (vs : List V) : V :=
  match pures vs with
  | some ts => .t (.tup ts)
  | none => .tup vs
def mkFn (f : FuncId) (vs : List V) : V :=
  match pures vs with
  | some ts => .t (.fn f [] ts)
  | none => .fn f vs
theorem mkTup_reads {w : World} {ok : Nat → Prop} {β : Names} {vs : List V} {xs : Array Value} (h : VVL w ok β vs xs.toList) : VV w ok β (mkTup vs) (.tuple xs) := by
  unfold mkTup
  split
  · rename_i ts hp
    simp only [VV, VR]
    exact ⟨_, rfl, VVL.pures hp h⟩
  · simp only [VV]
    exact ⟨_, rfl, h⟩
theorem mkFn_reads {w : World} {ok : Nat → Prop} {β : Names} {f : FuncId} {vs : List V} {xs : Array Value} (h : VVL w ok β vs xs.toList) : VV w ok β (mkFn f vs) (.func (.func f) #[] xs) := by
  unfold mkFn
  split
  · rename_i ts hp
    simp only [VV, VR]
    exact ⟨#[], _, rfl, by simp only [VL], VVL.pures hp h⟩
  · simp only [VV]
    exact ⟨_, rfl, h⟩
mutual
def frzV (i : Nat) (cs : List T) : V → List Prop × V
  | .t x => ([], .t x)
  | .ref k o => if k = i then ([], .t (.ptr (cs.drop o))) else ([], .ref k o)
  | .own k sz n => if k = i then ([cs.length = n * sz], .t (.list n sz cs)) else ([], .own k sz n)
  | .view k o sz n => if k = i then ([o + n * sz ≤ cs.length], .t (.list n sz ((cs.drop o).take (n * sz)))) else ([], .view k o sz n)
  | .mapr k => ([], .mapr k)
  | .agg vs => let r := frzL i cs vs; (r.1, mkAgg r.2)
  | .tup vs => let r := frzL i cs vs; (r.1, mkTup r.2)
  | .fn f vs => let r := frzL i cs vs; (r.1, mkFn f r.2)
def frzL (i : Nat) (cs : List T) : List V → List Prop × List V
  | [] => ([], [])
  | v :: vs => let r := frzV i cs v; let q := frzL i cs vs; (r.1 ++ q.1, r.2 :: q.2)
end
def frzO (i : Nat) (cs : List T) : Obj → List Prop × Obj
  | .vars e vs => let r := frzL i cs vs; (r.1, .vars e r.2)
  | ob => ([], ob)
def mapA {α : Type} (f : α → List Prop × α) : List (Nat × α) → List Prop × List (Nat × α)
  | [] => ([], [])
  | (i, x) :: r => let y := f x; let q := mapA f r; (y.1 ++ q.1, (i, y.2) :: q.2)
theorem lk_mapA {α : Type} (f : α → List Prop × α) : ∀ (l : List (Nat × α)) (k : Nat) (x' : α), Obs (mapA f l).1 → lk (mapA f l).2 k = some x' → ∃ x, lk l k = some x ∧ x' = (f x).2 ∧ Obs (f x).1
  | [], k, x', _, h => by simp [mapA, lk] at h
  | (i, x) :: r, k, x', ho, h => by
    simp only [mapA, Obs_append] at ho
    simp only [mapA, lk] at h ⊢
    split at h
    · rename_i e
      cases h
      exact ⟨x, by rw [if_pos e], rfl, ho.1⟩
    · rename_i e
      obtain ⟨y, h1, h2⟩ := lk_mapA f r k x' ho.2 h
      exact ⟨y, by rw [if_neg e]; exact h1, h2⟩

section
variable {w : World} {ok ok' : Nat → Prop} {β : Names} {i b z : Nat} {cs : List T}
structure Froz (w : World) (ok' : Nat → Prop) (b z : Nat) (cs : List T) : Prop where
  ok : ok' b
  cells : ∃ us, VL w ok' cs us ∧ (∀ u ∈ us, u.oneCell' = true) ∧ ∀ j u, us[j]? = some u → w.cell? ⟨b, j, none⟩ = some u
theorem Froz.va (h : Froz w ok' b z cs) (o : Nat) : VA w ok' (cs.drop o) b o := by
  obtain ⟨us, h1, h2, h3⟩ := h.cells
  exact VA.of_cells (VL.drop o h1) (fun u hu => h2 u (List.mem_of_mem_drop hu)) fun j u hj => h3 _ _ (by simpa [List.getElem?_drop] using hj)
mutual
theorem frzV_reads (hl : Lasts w ok w ok') (hf : (∃ b z, β i = some (b, z) ∧ Froz w ok' b z cs) ∨ β i = none) : ∀ (x : V) (v : Value), Obs (frzV i cs x).1 → VV w ok β x v → VV w ok' β (frzV i cs x).2 v
  | .t x, v, _, hv => by simp only [frzV, VV] at hv ⊢; exact VR.lasts hl x v hv
  | .ref k o, v, ho, hv => by
    simp only [frzV] at ho ⊢
    split
    · rename_i e; subst e
      simp only [VV, VR] at hv ⊢
      obtain ⟨b', z', h1, rfl⟩ := hv
      rcases hf with ⟨b, z, hb, hf⟩ | hb <;> rw [hb] at h1 <;> cases h1
      exact ⟨_, o, rfl, hf.ok, hf.va o⟩
    · exact VV.lasts hl (fun _ _ h => h) _ _ hv
  | .own k sz n, v, ho, hv => by
    simp only [frzV] at ho ⊢
    split
    · rename_i e; subst e
      simp only [if_true, Obs, and_true] at ho
      simp only [VV, VR] at hv ⊢
      rcases hv with ⟨b', z', cap, h1, rfl, h2, h3, h4⟩ | ⟨rfl, rfl⟩
      · rcases hf with ⟨b, z, hb, hf⟩ | hb <;> rw [hb] at h1 <;> cases h1
        exact ⟨ho, _, cap, rfl, h3, h4, .inr ⟨_, 0, rfl, hf.ok, by simpa using hf.va 0⟩⟩
      · exact ⟨ho, _, 0, rfl, Nat.le_refl _, Nat.zero_le _, .inl rfl⟩
    · exact VV.lasts hl (fun _ _ h => h) _ _ hv
  | .view k o sz n, v, ho, hv => by
    simp only [frzV] at ho ⊢
    split
    · rename_i e; subst e
      simp only [if_true, Obs, and_true] at ho
      simp only [VV, VR] at hv ⊢
      rcases hv with ⟨b', z', cap, h1, o', rfl, h2, h3, h4⟩ | ⟨rfl, rfl⟩
      · rcases hf with ⟨b, z, hb, hf⟩ | hb <;> rw [hb] at h1 <;> cases h1
        refine ⟨by simp; omega, _, cap, rfl, h2, h3, ?_⟩
        rcases h4 with h4 | rfl
        · exact .inl h4
        · exact .inr ⟨_, o', rfl, hf.ok, VA.take _ (hf.va o')⟩
      · exact ⟨by simp, _, 0, rfl, Nat.le_refl _, Nat.zero_le _, .inl rfl⟩
    · exact VV.lasts hl (fun _ _ h => h) _ _ hv
  | .mapr k, v, _, hv => by simp only [frzV]; exact VV.lasts hl (fun _ _ h => h) _ _ hv
  | .agg vs, v, ho, hv => by
    simp only [frzV] at ho ⊢
    simp only [VV] at hv
    obtain ⟨xs, rfl, h1, h2⟩ := hv
    have := mkAgg_reads (frzL_reads hl hf vs xs.toList ho h2) h1
    simpa using this
  | .tup vs, v, ho, hv => by
    simp only [frzV] at ho ⊢
    simp only [VV] at hv
    obtain ⟨xs, rfl, h2⟩ := hv
    exact mkTup_reads (frzL_reads hl hf vs xs.toList ho h2)
  | .fn f vs, v, ho, hv => by
    simp only [frzV] at ho ⊢
    simp only [VV] at hv
    obtain ⟨xs, rfl, h2⟩ := hv
    exact mkFn_reads (frzL_reads hl hf vs xs.toList ho h2)
theorem frzL_reads (hl : Lasts w ok w ok') (hf : (∃ b z, β i = some (b, z) ∧ Froz w ok' b z cs) ∨ β i = none) : ∀ (xs : List V) (vs : List Value), Obs (frzL i cs xs).1 → VVL w ok β xs vs → VVL w ok' β (frzL i cs xs).2 vs
  | [], vs, _, hv => by simp only [frzL, VVL] at hv ⊢; exact hv
  | x :: xs, vs, ho, hv => by
    simp only [frzL, Obs_append] at ho
    simp only [frzL, VVL] at hv ⊢
    obtain ⟨u, us, rfl, h1, h2⟩ := hv
    exact ⟨u, us, rfl, frzV_reads hl hf x u ho.1 h1, frzL_reads hl hf xs us ho.2 h2⟩
end
theorem frzO_reads (hl : Lasts w ok w ok') (hf : (∃ b z, β i = some (b, z) ∧ Froz w ok' b z cs) ∨ β i = none) {b' z' : Nat} (ob : Obj) (ho : Obs (frzO i cs ob).1) (hv : OR w ok β b' z' ob) : OR w ok' β b' z' (frzO i cs ob).2 := by
  cases ob with
  | cells e cs' => exact OR.lasts hl (fun _ _ h => h) rfl hv
  | map es => exact OR.lasts hl (fun _ _ h => h) rfl hv
  | vars e vs =>
    simp only [frzO, OR] at ho hv ⊢
    obtain ⟨arr, us, rest, h1, h2, h3, h4, h5⟩ := hv
    exact ⟨arr, us, rest, h1, h2, h3, h4, frzL_reads hl hf vs us ho h5⟩
end

def St.freeze (σ : St) (i : Nat) : Option (List Prop × St) :=
  match lk σ.O i with
  | some ob => match ob.trees with
    | some cs =>
      let s := mapA (frzV i cs) σ.S
      let o := mapA (frzO i cs) (delA σ.O i)
      some (s.1 ++ o.1, ⟨σ.N, s.2, o.2⟩)
    | none => none
  | none => none
theorem Obj.trees_reads {w : World} {ok : Nat → Prop} {β : Names} {b z : Nat} {ob : Obj} {cs : List T} (ht : ob.trees = some cs) (h : OR w ok β b z ob) :
    ∃ us, VL w ok cs us ∧ (∀ u ∈ us, u.oneCell' = true) ∧ ∀ j u, us[j]? = some u → w.cell? ⟨b, j, none⟩ = some u := by
  have hm : ob.isMap = false := by cases ob <;> first | rfl | cases ht
  obtain ⟨arr, us, rest, h1, h2, h3, h4, h5⟩ := (OR_iff hm).1 h
  refine ⟨us, ?_, h4, fun j u hj => ?_⟩
  · cases ob with
    | cells e cs' => cases ht; exact VVL.of_map_t h5
    | vars e vs => exact VVL.pures ht h5
    | map es => cases ht
  · have : arr[j]? = some u := by
      rw [← Array.getElem?_toList, h3, List.getElem?_append_left (List.getElem?_eq_some_iff.1 hj).1]; exact hj
    simp [World.cell?, h1, bk, this]
theorem Rel.freeze {E : Env} {σ σ' : St} {a : Act} {w : World} (h : Rel E σ a w) {i : Nat} {obs : List Prop} (hf : σ.freeze i = some (obs, σ')) (ho : Obs obs) : Rel E σ' a w := by
  obtain ⟨β, h⟩ := h
  unfold St.freeze at hf
  cases hi : lk σ.O i with
  | none => simp [hi] at hf
  | some ob =>
    cases ht : ob.trees with
    | none => simp [hi, ht] at hf
    | some cs =>
      simp only [hi, ht, Option.some.injEq, Prod.mk.injEq] at hf
      obtain ⟨rfl, rfl⟩ := hf
      rw [Obs_append] at ho
      have hdel : ∀ k o', lk (delA σ.O i) k = some o' → k ≠ i ∧ lk σ.O k = some o' := fun k o' hk => by
        rw [lk_del] at hk
        by_cases e : k = i
        · rw [e, upd_same] at hk; cases hk
        · rw [upd_other _ _ _ _ e] at hk; exact ⟨e, hk⟩
      refine ⟨β, h.retell (fun i hp => (h.pins i hp).2) h.news h.dom (fun k o x hk hx => ?_) (fun k o hk => ?_) (fun p q o o' x x' hp hq hx hx' hne => ?_) (fun himm k o x hk hx => ?_) (fun himm t x' ht' => ?_)⟩
      · obtain ⟨o2, h1, h2, h3⟩ := lk_mapA _ _ _ _ ho.2 hk
        exact ⟨k, o2, (hdel k o2 h1).2, hx⟩
      · obtain ⟨o2, h1, h2, h3⟩ := lk_mapA _ _ _ _ ho.2 hk
        rcases h.objs k o2 (hdel k o2 h1).2 with ⟨b', z', hb', _⟩ | ⟨g1, g2, e, rfl⟩
        · left; rw [hb']; rfl
        · right; rw [h2]; exact ⟨g1, g2, e, rfl⟩
      · obtain ⟨o2, h1, _, _⟩ := lk_mapA _ _ _ _ ho.2 hp
        obtain ⟨o3, h2, _, _⟩ := lk_mapA _ _ _ _ ho.2 hq
        exact h.apart p q o2 o3 x x' (hdel p o2 h1).2 (hdel q o3 h2).2 hx hx' hne
      all_goals
        have hfz : (∃ b z, β i = some (b, z) ∧ Froz w (Imm E (lk (mapA (frzO i cs) (delA σ.O i)).2) β w) b z cs) ∨ β i = none := by
          rcases h.objs i ob hi with ⟨b, z, hb, hlt, hbx, hor⟩ | ⟨_, hb, _⟩
          rotate_left
          · exact .inr hb
          refine .inl ⟨b, z, hb, ?_⟩
          obtain ⟨us, g1, g2, g3⟩ := Obj.trees_reads ht hor
          refine ⟨⟨.inr hbx, hlt, fun k o x hk hx e => ?_⟩, us, VL.lasts ⟨himm, fun _ _ => rfl⟩ _ _ g1, g2, g3⟩
          obtain ⟨o2, h1, _, _⟩ := lk_mapA _ _ _ _ ho.2 hk
          obtain ⟨h3, h4⟩ := hdel k o2 h1
          exact h.apart k i o2 ob x _ h4 hi hx hb h3 e
      · obtain ⟨o2, h1, rfl, h3⟩ := lk_mapA _ _ _ _ ho.2 hk
        obtain ⟨b', z', hb', _, _, hor'⟩ := h.objS (hdel k o2 h1).2 hx
        rw [hx] at hb'; cases hb'
        exact frzO_reads ⟨himm, fun _ _ => rfl⟩ hfz o2 h3 hor'
      · obtain ⟨x, h1, rfl, h3⟩ := lk_mapA _ _ _ _ ho.1 ht'
        exact ⟨x, h1, fun v hv => frzV_reads ⟨himm, fun _ _ => rfl⟩ hfz x v h3 hv⟩

/-! ### names -/
mutual
def V.ren (f : Nat → Nat) : V → V
  | .t x => .t x
  | .ref i o => .ref (f i) o
  | .own i sz n => .own (f i) sz n
  | .view i o sz n => .view (f i) o sz n
  | .mapr i => .mapr (f i)
  | .agg vs => .agg (V.renL f vs)
  | .tup vs => .tup (V.renL f vs)
  | .fn g vs => .fn g (V.renL f vs)
def V.renL (f : Nat → Nat) : List V → List V
  | [] => []
  | v :: vs => v.ren f :: V.renL f vs
end
mutual
def V.inN (N : List Nat) : V → Bool
  | .t _ => true
  | .ref i _ => N.contains i
  | .own i _ _ => N.contains i
  | .view i _ _ _ => N.contains i
  | .mapr i => N.contains i
  | .agg vs => V.inNL N vs
  | .tup vs => V.inNL N vs
  | .fn _ vs => V.inNL N vs
def V.inNL (N : List Nat) : List V → Bool
  | [] => true
  | v :: vs => v.inN N && V.inNL N vs
end
def Obj.ren (f : Nat → Nat) : Obj → Obj
  | .vars e vs => .vars e (V.renL f vs)
  | o => o
def Obj.inN (N : List Nat) : Obj → Bool
  | .vars _ vs => V.inNL N vs
  | _ => true
section
variable {w : World} {ok : Nat → Prop} {β β' : Names}
mutual
theorem VV.ren {N : List Nat} {f : Nat → Nat} (hf : ∀ i, N.contains i = true → β' (f i) = β i) : ∀ (x : V) (v : Value), x.inN N = true → VV w ok β x v → VV w ok β' (x.ren f) v
  | .t x, v, _, hv => by simp only [V.ren, VV] at hv ⊢; exact hv
  | .ref i o, v, hn, hv => by simp only [V.ren, VV, V.inN] at hv hn ⊢; rw [hf i hn]; exact hv
  | .own i sz n, v, hn, hv => by simp only [V.ren, VV, V.inN] at hv hn ⊢; rw [hf i hn]; exact hv
  | .view i o sz n, v, hn, hv => by simp only [V.ren, VV, V.inN] at hv hn ⊢; rw [hf i hn]; exact hv
  | .mapr i, v, hn, hv => by simp only [V.ren, VV, V.inN] at hv hn ⊢; rw [hf i hn]; exact hv
  | .agg vs, v, hn, hv => by
    simp only [V.ren, VV, V.inN] at hv hn ⊢
    obtain ⟨xs, h1, h2, h3⟩ := hv
    exact ⟨xs, h1, h2, VVL.ren hf vs _ hn h3⟩
  | .tup vs, v, hn, hv => by
    simp only [V.ren, VV, V.inN] at hv hn ⊢
    obtain ⟨xs, h1, h3⟩ := hv
    exact ⟨xs, h1, VVL.ren hf vs _ hn h3⟩
  | .fn g vs, v, hn, hv => by
    simp only [V.ren, VV, V.inN] at hv hn ⊢
    obtain ⟨xs, h1, h3⟩ := hv
    exact ⟨xs, h1, VVL.ren hf vs _ hn h3⟩
theorem VVL.ren {N : List Nat} {f : Nat → Nat} (hf : ∀ i, N.contains i = true → β' (f i) = β i) : ∀ (xs : List V) (vs : List Value), V.inNL N xs = true → VVL w ok β xs vs → VVL w ok β' (V.renL f xs) vs
  | [], vs, _, hv => by simp only [V.renL, VVL] at hv ⊢; exact hv
  | x :: xs, vs, hn, hv => by
    simp only [V.renL, VVL, V.inNL, Bool.and_eq_true] at hv hn ⊢
    obtain ⟨u, us, rfl, h1, h2⟩ := hv
    exact ⟨u, us, rfl, VV.ren hf x u hn.1 h1, VVL.ren hf xs us hn.2 h2⟩
end
theorem OR.ren {N : List Nat} {f : Nat → Nat} (hf : ∀ i, N.contains i = true → β' (f i) = β i) {b z : Nat} (o : Obj) (hn : o.inN N = true) (h : OR w ok β b z o) : OR w ok β' b z (o.ren f) := by
  cases o with
  | cells e cs => simp only [OR, Obj.ren] at h ⊢; exact h
  | map es => simp only [OR, Obj.ren] at h ⊢; exact h
  | vars e vs =>
    simp only [OR, Obj.ren, Obj.inN] at h hn ⊢
    obtain ⟨arr, us, rest, h1, h2, h3, h4, h5⟩ := h
    exact ⟨arr, us, rest, h1, h2, h3, h4, VVL.ren hf vs us hn h5⟩
end

def renF (rn : List (Nat × Nat)) (i : Nat) : Nat := (lk rn i).getD i
def mapK {α : Type} (f : Nat → Nat) (g : α → α) : List (Nat × α) → List (Nat × α)
  | [] => []
  | (i, x) :: r => (f i, g x) :: mapK f g r
theorem lk_mapK {α : Type} (f : Nat → Nat) (g : α → α) : ∀ (l : List (Nat × α)) (k' : Nat) (x' : α), lk (mapK f g l) k' = some x' → ∃ k x, f k = k' ∧ lk l k = some x ∧ x' = g x
  | [], k', x', h => by simp [mapK, lk] at h
  | (i, x) :: r, k', x', h => by
    simp only [mapK, lk] at h
    split at h
    · rename_i e
      cases h
      exact ⟨i, x, e.symm, by simp [lk], rfl⟩
    · rename_i e
      obtain ⟨k, y, h1, h2, h3⟩ := lk_mapK f g r k' x' h
      refine ⟨k, y, h1, ?_, h3⟩
      simp only [lk]
      rw [if_neg (fun e' => e (by rw [← h1, e']))]
      exact h2
def allS (p : V → Bool) : List (Nat × V) → Bool
  | [] => true
  | (_, x) :: r => p x && allS p r
def allO (p : Nat → Obj → Bool) : List (Nat × Obj) → Bool
  | [] => true
  | (i, x) :: r => p i x && allO p r
theorem allS_lk {p : V → Bool} : ∀ {l : List (Nat × V)}, allS p l = true → ∀ {k : Nat} {x : V}, lk l k = some x → p x = true
  | [], _, k, x, h => by simp [lk] at h
  | (i, y) :: r, ha, k, x, h => by
    simp only [allS, Bool.and_eq_true] at ha
    simp only [lk] at h
    split at h
    · cases h; exact ha.1
    · exact allS_lk ha.2 h
theorem allO_lk {p : Nat → Obj → Bool} : ∀ {l : List (Nat × Obj)}, allO p l = true → ∀ {k : Nat} {x : Obj}, lk l k = some x → p k x = true
  | [], _, k, x, h => by simp [lk] at h
  | (i, y) :: r, ha, k, x, h => by
    simp only [allO, Bool.and_eq_true] at ha
    simp only [lk] at h
    split at h
    · rename_i e; cases h; rw [e]; exact ha.1
    · exact allO_lk ha.2 h
def pinned (N : List Nat) (rn : List (Nat × Nat)) : List (Nat × Nat) :=
  rn ++ ((N.filter fun i => decide (i < 1000) && !(rn.map (·.1)).contains i).map fun i => (i, i))
def St.names (σ : St) (rn0 : List (Nat × Nat)) : Option St :=
  let rn := pinned σ.N rn0
  let olds := rn.map (·.1)
  let inv := rn.map fun x => (x.2, x.1)
  if rn.all (fun x => decide (lk inv x.2 = some x.1) && decide (lk rn x.1 = some x.2) && (decide (1000 ≤ x.1) || x.2 == x.1) && (decide (x.2 < 2000) || decide (2000 ≤ x.1))) && allS (V.inN olds) σ.S && allO (fun i o => olds.contains i && o.inN olds) σ.O then
    some ⟨rn.map (·.2), mapK id (V.ren (renF rn)) σ.S, mapK (renF rn) (Obj.ren (renF rn)) σ.O⟩
  else none
theorem Rel.names {E : Env} {σ σ' : St} {a : Act} {w : World} (h : Rel E σ a w) {rn0 : List (Nat × Nat)} (hn : σ.names rn0 = some σ') : Rel E σ' a w := by
  obtain ⟨β, h⟩ := h
  unfold St.names at hn
  have hpin : ∀ i, i ∈ σ.N → i < 1000 → (pinned σ.N rn0).any (fun x => x.1 == i) = true := fun i hi hlt => by
    simp only [List.any_eq_true, beq_iff_eq]
    by_cases hc : i ∈ rn0.map (·.1)
    · obtain ⟨x, hx, rfl⟩ := List.mem_map.1 hc
      exact ⟨x, List.mem_append_left _ hx, rfl⟩
    · refine ⟨(i, i), List.mem_append_right _ (List.mem_map.2 ⟨i, List.mem_filter.2 ⟨hi, ?_⟩, rfl⟩), rfl⟩
      simp only [List.contains_eq_mem, Bool.and_eq_true, decide_eq_true_eq, Bool.not_eq_true', decide_eq_false_iff_not]
      exact ⟨hlt, hc⟩
  generalize pinned σ.N rn0 = rn at hn hpin
  simp only [Option.ite_none_right_eq_some, Bool.and_eq_true, Option.some.injEq, List.all_eq_true, decide_eq_true_eq, Bool.or_eq_true, beq_iff_eq] at hn
  obtain ⟨⟨⟨h1', h2⟩, h3⟩, rfl⟩ := hn
  have h1 : ∀ x ∈ rn, lk (rn.map fun x => (x.2, x.1)) x.2 = some x.1 ∧ lk rn x.1 = some x.2 := fun x hx => (h1' x hx).1.1
  let β' : Names := fun j => match lk (rn.map fun x => (x.2, x.1)) j with
    | some i => β i
    | none => none
  have hf : ∀ i, (rn.map (·.1)).contains i = true → lk (rn.map fun x => (x.2, x.1)) (renF rn i) = some i := fun i hi => by
    simp only [List.contains_eq_mem, decide_eq_true_eq, List.mem_map] at hi
    obtain ⟨x, hx, rfl⟩ := hi
    obtain ⟨k1, k2⟩ := h1 x hx
    simp only [renF, k2, Option.getD_some]
    exact k1
  have hβ : ∀ i, (rn.map (·.1)).contains i = true → β' (renF rn i) = β i := fun i hi => by simp only [β', hf i hi]
  have hobj : ∀ k o', lk (mapK (renF rn) (Obj.ren (renF rn)) σ.O) k = some o' → ∃ i o, renF rn i = k ∧ lk σ.O i = some o ∧ o' = o.ren (renF rn) ∧ (rn.map (·.1)).contains i = true ∧ o.inN (rn.map (·.1)) = true := fun k o' hk => by
    obtain ⟨i, o, g1, g2, g3⟩ := lk_mapK _ _ _ _ _ hk
    have := allO_lk h3 g2
    simp only [Bool.and_eq_true] at this
    exact ⟨i, o, g1, g2, g3, this.1, this.2⟩
  refine ⟨β', h.retell (fun i hp => ?_) (fun j x hj hx => ?_) (fun j hj => ?_) (fun k o x hk hx => ?_) (fun k o hk => ?_) (fun p q o o' x x' hp hq hx hx' hne => ?_) (fun himm k o x hk hx => ?_) (fun himm t x' ht' => ?_)⟩
  · obtain ⟨hlt, hiN, hi⟩ := h.pins i hp
    have := hpin i hiN hlt
    simp only [List.any_eq_true, beq_iff_eq] at this
    obtain ⟨y, hy, rfl⟩ := this
    have e : y.2 = y.1 := by
      rcases (h1' y hy).1.2 with h | h
      · omega
      · exact h
    refine ⟨List.mem_map.2 ⟨y, hy, e⟩, ?_⟩
    simp only [β']
    rw [← e, (h1 y hy).1, e]
    simpa using hi
  · simp only [β'] at hx
    cases hl : lk (rn.map fun x => (x.2, x.1)) j with
    | none => simp [hl] at hx
    | some i =>
      simp only [hl] at hx
      have : ∀ (l : List (Nat × Nat)) (j i : Nat), lk (l.map fun x => (x.2, x.1)) j = some i → (i, j) ∈ l := by
        intro l
        induction l with
        | nil => intro j i h; simp [lk] at h
        | cons x l ih =>
          intro j i h
          simp only [List.map_cons, lk] at h
          split at h
          · rename_i e; cases h; rw [e]; exact List.mem_cons_self
          · exact List.mem_cons_of_mem _ (ih j i h)
      have hm := (h1' _ (this rn j i hl)).2
      exact h.news i x (by rcases hm with hm | hm <;> simp only at hm <;> omega) hx
  · simp only [β']
    cases hl : lk (rn.map fun x => (x.2, x.1)) j with
    | none => rfl
    | some i =>
      exfalso
      apply hj
      have : ∀ (l : List (Nat × Nat)) (j i : Nat), lk (l.map fun x => (x.2, x.1)) j = some i → j ∈ l.map (·.2) := by
        intro l
        induction l with
        | nil => intro j i h; simp [lk] at h
        | cons x l ih =>
          intro j i h
          simp only [List.map_cons, lk] at h
          split at h
          · rename_i e; simp [e]
          · exact List.mem_cons_of_mem _ (ih j i h)
      exact this rn j i hl
  · obtain ⟨i, o2, rfl, g2, _, g4, _⟩ := hobj k o hk
    rw [hβ i g4] at hx
    exact ⟨i, o2, g2, hx⟩
  · obtain ⟨i, o2, rfl, g2, g3, g4, _⟩ := hobj k o hk
    rw [hβ i g4]
    rcases h.objs i o2 g2 with ⟨b, z, hb, _⟩ | ⟨q1, q2, e, rfl⟩
    · left; rw [hb]; rfl
    · right
      refine ⟨?_, q2, e, by rw [g3]; rfl⟩
      simp only [List.contains_eq_mem, decide_eq_true_eq, List.mem_map] at g4
      obtain ⟨x, hx, rfl⟩ := g4
      exact List.mem_map.2 ⟨x, hx, by simp only [renF, (h1 x hx).2, Option.getD_some]⟩
  · obtain ⟨i, o2, rfl, g2, _, g4, _⟩ := hobj p o hp
    obtain ⟨i', o2', rfl, g2', _, g4', _⟩ := hobj q o' hq
    rw [hβ i g4] at hx
    rw [hβ i' g4'] at hx'
    exact h.apart i i' o2 o2' x x' g2 g2' hx hx' (fun e => hne (by rw [e]))
  · obtain ⟨i, o2, rfl, g2, rfl, g4, g5⟩ := hobj k o hk
    rw [hβ i g4] at hx
    obtain ⟨b, z, hb, _, _, hor⟩ := h.objS g2 hx
    rw [hx] at hb; cases hb
    exact OR.ren (fun i hi => (hβ i hi)) o2 g5 (OR.lasts ⟨himm, fun _ _ => rfl⟩ (fun _ _ h => h) rfl hor)
  · obtain ⟨t', x, g1, g2, rfl⟩ := lk_mapK _ _ _ _ _ ht'
    simp only [id] at g1
    subst g1
    exact ⟨x, g2, fun v hv => VV.ren (fun i hi => hβ i hi) x v (allS_lk h2 g2) (VV.lasts ⟨himm, fun _ _ => rfl⟩ (fun _ _ h => h) _ _ hv)⟩
end Go.Tl
end
section
namespace Go.Tl
set_option linter.unusedVariables false
set_option linter.unusedSimpArgs false

def C (P : Program) (f : FuncId) (args : List T) (r : T) : Prop :=
  ∀ (ok : Nat → Prop) (w : World) (vs : Array Value), (∀ b, ok b → b < w.heap.size) → Glob ok w → VL w ok args vs.toList →
    ((callFunc f vs).run P w = .ok (.enter f vs) w ∧ Calls P f vs w fun e w' => ∃ v, e = .returned v ∧ w'.os = w.os ∧ w'.tape = w.tape ∧ w'.output = w.output ∧ w.heap.size ≤ w'.heap.size ∧
      (∀ b, b < w.heap.size → w'.heap[b]? = w.heap[b]?) ∧ VR w' (fun b => ok b ∨ (w.heap.size ≤ b ∧ b < w'.heap.size)) r v) ∨
    ∃ v, (callFunc f vs).run P w = .ok (.value v) w ∧ VR w ok r v

mutual
def T.flat : T → Bool
  | .list .. | .ptr _ | .pa .. | .fn .. | .iface .. | .rows .. | .mapt .. => false
  | .agg cs | .tup cs => T.flats cs
  | _ => true
def T.flats : List T → Bool
  | [] => true
  | t :: ts => t.flat && T.flats ts
end
mutual
theorem VR.flat {w w' : World} {ok ok' : Nat → Prop} : ∀ (t : T) (v : Value), t.flat = true → VR w ok t v → VR w' ok' t v
  | .int _ _, v, _, h | .bool _, v, _, h | .str _, v, _, h | .nils, v, _, h | .nilp, v, _, h | .nilf, v, _, h | .nili, v, _, h | .nilm, v, _, h | .undef, v, _, h | .zlist, v, _, h => by simpa only [VR] using h
  | .agg cs, v, hf, h => by
    simp only [VR, T.flat] at h hf ⊢
    obtain ⟨vs, h1, h2, h3⟩ := h
    exact ⟨vs, h1, h2, VL.flat cs _ hf h3⟩
  | .tup cs, v, hf, h => by
    simp only [VR, T.flat] at h hf ⊢
    obtain ⟨vs, h1, h3⟩ := h
    exact ⟨vs, h1, VL.flat cs _ hf h3⟩
  | .list .., _, hf, _ | .ptr _, _, hf, _ | .pa .., _, hf, _ | .fn .., _, hf, _ | .iface .., _, hf, _ | .rows .., _, hf, _ | .mapt .., _, hf, _ => by simp [T.flat] at hf
theorem VL.flat {w w' : World} {ok ok' : Nat → Prop} : ∀ (ts : List T) (vs : List Value), T.flats ts = true → VL w ok ts vs → VL w' ok' ts vs
  | [], _, _, h => by simpa only [VL] using h
  | t :: ts, vs, hf, h => by
    simp only [VL, T.flats, Bool.and_eq_true] at h hf ⊢
    obtain ⟨u, us, h1, h2, h3⟩ := h
    exact ⟨u, us, h1, VR.flat t u hf.1 h2, VL.flat ts us hf.2 h3⟩
end

def mapT (es : List (T × T)) : T := .mapt (es.map (·.1)) (es.map (·.2))
theorem VLP.trees {w : World} {ok : Nat → Prop} : ∀ {es : List (T × T)} {ms : List MapEntry}, VLP w ok es ms → VL w ok (es.map (·.1)) (ms.map (·.key)) ∧ VL w ok (es.map (·.2)) (ms.map (·.val))
  | [], ms, h => by simp only [VLP] at h; subst h; simp [VL]
  | (k, x) :: es, ms, h => by
    simp only [VLP] at h
    obtain ⟨m, r, rfl, h1, h2, h3⟩ := h
    obtain ⟨g1, g2⟩ := VLP.trees h3
    simp only [List.map_cons, VL]
    exact ⟨⟨_, _, rfl, h1, g1⟩, ⟨_, _, rfl, h2, g2⟩⟩
theorem VL.toVLP {w : World} {ok : Nat → Prop} : ∀ {es : List (T × T)} {ms : List MapEntry}, VL w ok (es.map (·.1)) (ms.map (·.key)) → VL w ok (es.map (·.2)) (ms.map (·.val)) → VLP w ok es ms
  | [], ms, h, _ => by
    simp only [List.map_nil, VL] at h
    simp only [VLP]
    simpa using h
  | (k, x) :: es, ms, h, g => by
    simp only [List.map_cons, VL] at h g
    obtain ⟨u, us, e1, h1, h2⟩ := h
    obtain ⟨u', us', e2, g1, g2⟩ := g
    cases ms with
    | nil => cases e1
    | cons m r =>
      simp only [List.map_cons, List.cons.injEq] at e1 e2
      obtain ⟨rfl, rfl⟩ := e1
      obtain ⟨rfl, rfl⟩ := e2
      simp only [VLP]
      exact ⟨m, r, rfl, h1, g1, VL.toVLP h2 g2⟩
def puresM (O : Nat → Option Obj) : List V → Option (List T)
  | [] => some []
  | .t x :: r => (puresM O r).map (x :: ·)
  | .mapr j :: r => match O j with
    | some (.map es) => (puresM O r).map (mapT es :: ·)
    | _ => none
  | _ :: _ => none
def Obj.treesO (O : Nat → Option Obj) : Obj → Option (List T)
  | .cells _ cs => some cs
  | .vars _ vs => puresM O vs
  | .map _ => none
structure SnapOK (w : World) (ok' : Nat → Prop) (O : Nat → Option Obj) (β : Names) : Prop where
  froz : ∀ i ob cs b z, O i = some ob → ob.treesO O = some cs → β i = some (b, z) → Froz w ok' b z cs
  maps : ∀ i es b z, O i = some (.map es) → β i = some (b, z) → VR w ok' (mapT es) (.map (some b))
theorem SnapOK.of {w : World} {ok ok' : Nat → Prop} {O : Nat → Option Obj} {β : Names} (hl : Lasts w ok w ok') (h : ∀ i ob b z, O i = some ob → β i = some (b, z) → ok' b ∧ OR w ok β b z ob) : SnapOK w ok' O β := by
  have maps : ∀ i es b z, O i = some (.map es) → β i = some (b, z) → VR w ok' (mapT es) (.map (some b)) := fun i es b z h1 h2 => by
    obtain ⟨k1, k2⟩ := h i _ b z h1 h2
    simp only [OR] at k2
    obtain ⟨ms, clock, q1, q2, q3⟩ := k2
    obtain ⟨g1, g2⟩ := (VLP.lasts hl _ _ q2).trees
    simp only [mapT, VR]
    exact ⟨b, ms, clock, rfl, k1, q1, g1, g2⟩
  have pures : ∀ {vs : List V} {cs : List T} {us : List Value}, puresM O vs = some cs → VVL w ok β vs us → VL w ok' cs us := by
    intro vs
    induction vs with
    | nil =>
      intro cs us hp hv
      simp only [puresM, Option.some.injEq] at hp
      subst hp
      simp only [VVL] at hv
      simp only [VL]; exact hv
    | cons v vs ih =>
      intro cs us hp hv
      simp only [VVL] at hv
      obtain ⟨u, us', rfl, hu, hr⟩ := hv
      cases v with
      | t x =>
        simp only [puresM, Option.map_eq_some_iff] at hp
        obtain ⟨ts, hp, rfl⟩ := hp
        simp only [VV] at hu
        simp only [VL]
        exact ⟨u, us', rfl, VR.lasts hl _ _ hu, ih hp hr⟩
      | mapr j =>
        simp only [puresM] at hp
        split at hp
        · rename_i es hj
          simp only [Option.map_eq_some_iff] at hp
          obtain ⟨ts, hp, rfl⟩ := hp
          simp only [VV] at hu
          obtain ⟨b, z, hb, rfl⟩ := hu
          simp only [VL]
          exact ⟨_, us', rfl, maps j es b z hj hb, ih hp hr⟩
        · cases hp
      | _ => simp [puresM] at hp
  refine ⟨fun i ob cs b z h1 h2 h3 => ?_, maps⟩
  obtain ⟨k1, k2⟩ := h i ob b z h1 h3
  have hm : ob.isMap = false := by cases ob <;> first | rfl | cases h2
  obtain ⟨arr, us, rest, q1, q2, q3, q4, q5⟩ := (OR_iff hm).1 k2
  refine ⟨k1, us, ?_, q4, fun j u hj => ?_⟩
  · cases ob with
    | cells e cs' => cases h2; exact VL.lasts hl _ _ (VVL.of_map_t q5)
    | vars e vs => exact pures h2 q5
    | map es => cases h2
  · have : arr[j]? = some u := by
      rw [← Array.getElem?_toList, q3, List.getElem?_append_left (List.getElem?_eq_some_iff.1 hj).1]; exact hj
    simp [World.cell?, q1, bk, this]
mutual
def snapV (O : Nat → Option Obj) : V → Option (List Prop × T)
  | .t x => some ([], x)
  | .ref i o => match O i with
    | some ob => match ob.treesO O with
      | some cs => some ([], .ptr (cs.drop o))
      | none => none
    | none => none
  | .own i sz n => match O i with
    | some (.cells _ cs) => some ([cs.length = n * sz], .list n sz cs)
    | _ => none
  | .view i o sz n => match O i with
    | some (.cells _ cs) => some ([o + n * sz ≤ cs.length], .list n sz ((cs.drop o).take (n * sz)))
    | _ => none
  | .mapr i => match O i with
    | some (.map es) => some ([], mapT es)
    | _ => none
  | .agg vs => match snapL O vs with
    | some (ps, ts) => some (ps, .agg ts)
    | none => none
  | .tup vs => match snapL O vs with
    | some (ps, ts) => some (ps, .tup ts)
    | none => none
  | .fn f vs => match snapL O vs with
    | some (ps, ts) => some (ps, .fn f [] ts)
    | none => none
def snapL (O : Nat → Option Obj) : List V → Option (List Prop × List T)
  | [] => some ([], [])
  | v :: vs => match snapV O v with
    | some (p, t) => match snapL O vs with
      | some (ps, ts) => some (p ++ ps, t :: ts)
      | none => none
    | none => none
end

section
variable {O : Nat → Option Obj} {β : Names} {w : World} {ok ok' : Nat → Prop}
mutual
theorem snapV_reads (hl : Lasts w ok w ok') (hf : SnapOK w ok' O β) : ∀ (x : V) (v : Value) (ps : List Prop) (t : T), Tl.snapV O x = some (ps, t) → Obs ps → VV w ok β x v → VR w ok' t v
  | .t x, v, ps, t, hs, ho, hv => by
    simp only [Tl.snapV, Option.some.injEq, Prod.mk.injEq] at hs
    obtain ⟨rfl, rfl⟩ := hs
    simp only [VV] at hv
    exact VR.lasts hl _ _ hv
  | .ref i o, v, ps, t, hs, ho, hv => by
    simp only [Tl.snapV] at hs
    cases hi : O i with
    | none => simp [hi] at hs
    | some ob =>
      cases ht : ob.treesO O with
      | none => simp [hi, ht] at hs
      | some cs =>
        simp only [hi, ht, Option.some.injEq, Prod.mk.injEq] at hs
        obtain ⟨rfl, rfl⟩ := hs
        simp only [VV, VR] at hv ⊢
        obtain ⟨b, z, hb, rfl⟩ := hv
        have hf := hf.froz i ob cs b z hi ht hb
        exact ⟨b, o, rfl, hf.ok, hf.va o⟩
  | .own i sz n, v, ps, t, hs, ho, hv => by
    simp only [Tl.snapV] at hs
    split at hs
    · rename_i e cs hi
      simp only [Option.some.injEq, Prod.mk.injEq] at hs
      obtain ⟨rfl, rfl⟩ := hs
      simp only [VV, VR, Obs, and_true] at hv ho ⊢
      rcases hv with ⟨b, z, cap, hb, rfl, h1, h2, h3⟩ | ⟨rfl, rfl⟩
      · have hf := hf.froz i _ cs b z hi rfl hb
        exact ⟨ho, _, cap, rfl, h2, h3, .inr ⟨b, 0, rfl, hf.ok, by simpa using hf.va 0⟩⟩
      · exact ⟨ho, _, 0, rfl, Nat.le_refl _, Nat.zero_le _, .inl rfl⟩
    · cases hs
  | .view i o sz n, v, ps, t, hs, ho, hv => by
    simp only [Tl.snapV] at hs
    split at hs
    · rename_i e cs hi
      simp only [Option.some.injEq, Prod.mk.injEq] at hs
      obtain ⟨rfl, rfl⟩ := hs
      simp only [VV, VR, Obs, and_true] at hv ho ⊢
      rcases hv with ⟨b, z, cap, hb, o', rfl, h1, h2, h3⟩ | ⟨rfl, rfl⟩
      · have hf := hf.froz i _ cs b z hi rfl hb
        refine ⟨by simp; omega, _, cap, rfl, h1, h2, ?_⟩
        rcases h3 with h3 | rfl
        · exact .inl h3
        · exact .inr ⟨b, o', rfl, hf.ok, VA.take _ (hf.va o')⟩
      · exact ⟨by simp, _, 0, rfl, Nat.le_refl _, Nat.zero_le _, .inl rfl⟩
    · cases hs
  | .mapr i, v, ps, t, hs, ho, hv => by
    simp only [Tl.snapV] at hs
    split at hs
    · rename_i es hi
      simp only [Option.some.injEq, Prod.mk.injEq] at hs
      obtain ⟨rfl, rfl⟩ := hs
      simp only [VV] at hv
      obtain ⟨b, z, hb, rfl⟩ := hv
      exact hf.maps i es b z hi hb
    · cases hs
  | .agg vs, v, ps, t, hs, ho, hv => by
    simp only [Tl.snapV] at hs
    split at hs
    · rename_i ps' ts hl'
      simp only [Option.some.injEq, Prod.mk.injEq] at hs
      obtain ⟨rfl, rfl⟩ := hs
      simp only [VV, VR] at hv ⊢
      obtain ⟨xs, h1, h2, h3⟩ := hv
      exact ⟨xs, h1, h2, snapL_reads hl hf vs _ _ _ hl' ho h3⟩
    · cases hs
  | .tup vs, v, ps, t, hs, ho, hv => by
    simp only [Tl.snapV] at hs
    split at hs
    · rename_i ps' ts hl'
      simp only [Option.some.injEq, Prod.mk.injEq] at hs
      obtain ⟨rfl, rfl⟩ := hs
      simp only [VV, VR] at hv ⊢
      obtain ⟨xs, h1, h3⟩ := hv
      exact ⟨xs, h1, snapL_reads hl hf vs _ _ _ hl' ho h3⟩
    · cases hs
  | .fn f vs, v, ps, t, hs, ho, hv => by
    simp only [Tl.snapV] at hs
    split at hs
    · rename_i ps' ts hl'
      simp only [Option.some.injEq, Prod.mk.injEq] at hs
      obtain ⟨rfl, rfl⟩ := hs
      simp only [VV, VR] at hv ⊢
      obtain ⟨xs, h1, h3⟩ := hv
      exact ⟨#[], xs, h1, by simp only [VL], snapL_reads hl hf vs _ _ _ hl' ho h3⟩
    · cases hs
theorem snapL_reads (hl : Lasts w ok w ok') (hf : SnapOK w ok' O β) : ∀ (xs : List V) (vs : List Value) (ps : List Prop) (ts : List T), Tl.snapL O xs = some (ps, ts) → Obs ps → VVL w ok β xs vs → VL w ok' ts vs
  | [], vs, ps, ts, hs, ho, hv => by
    simp only [Tl.snapL, Option.some.injEq, Prod.mk.injEq] at hs
    obtain ⟨rfl, rfl⟩ := hs
    simp only [VVL, VL] at hv ⊢
    exact hv
  | x :: xs, vs, ps, ts, hs, ho, hv => by
    simp only [Tl.snapL] at hs
    split at hs
    · rename_i p t hx
      split at hs
      · rename_i ps' ts' hl'
        simp only [Option.some.injEq, Prod.mk.injEq] at hs
        obtain ⟨rfl, rfl⟩ := hs
        rw [Obs_append] at ho
        simp only [VVL, VL] at hv ⊢
        obtain ⟨u, us, h1, h2, h3⟩ := hv
        exact ⟨u, us, h1, snapV_reads hl hf x u _ _ hx ho.1 h2, snapL_reads hl hf xs us _ _ hl' ho.2 h3⟩
      · cases hs
    · cases hs
end
end

/-! ### a nil slice is a slice without elements -/
mutual
inductive WkT : T → T → Prop
  | refl (x : T) : WkT x x
  | nil (sz : Nat) : WkT .nils (.list 0 sz [])
  | rows (n sz : Nat) (cs : List T) : WkT (.rows n sz cs) (.list n sz cs)
  | agg {xs ys : List T} (h : WkL xs ys) : WkT (.agg xs) (.agg ys)
  | tup {xs ys : List T} (h : WkL xs ys) : WkT (.tup xs) (.tup ys)
inductive WkL : List T → List T → Prop
  | nil : WkL [] []
  | cons {x y : T} {xs ys : List T} (h : WkT x y) (hs : WkL xs ys) : WkL (x :: xs) (y :: ys)
end
mutual
theorem WkT.reads {w : World} {ok : Nat → Prop} : ∀ {x y : T}, WkT x y → ∀ {v : Value}, VR w ok x v → VR w ok y v
  | _, _, .refl x, v, h => h
  | _, _, .nil sz, v, h => by
    simp only [VR] at h ⊢
    subst h
    exact ⟨by simp, none, 0, rfl, Nat.le_refl _, Nat.zero_le _, .inl trivial⟩
  | _, _, .rows n sz cs, v, h => by
    simp only [VR] at h ⊢
    obtain ⟨hl, A, cap, rfl, h1, h2, h3⟩ := h
    refine ⟨hl, _, cap, rfl, h1, h2, ?_⟩
    rcases h3 with h3 | ⟨b, o, rfl, hb, hc⟩
    · exact .inl h3
    · exact .inr ⟨b, o, rfl, hb, hc⟩
  | _, _, .agg hs, v, h => by
    simp only [VR] at h ⊢
    obtain ⟨vs, h1, h2, h3⟩ := h
    exact ⟨vs, h1, h2, WkL.reads hs h3⟩
  | _, _, .tup hs, v, h => by
    simp only [VR] at h ⊢
    obtain ⟨vs, h1, h3⟩ := h
    exact ⟨vs, h1, WkL.reads hs h3⟩
theorem WkL.reads {w : World} {ok : Nat → Prop} : ∀ {xs ys : List T}, WkL xs ys → ∀ {vs : List Value}, VL w ok xs vs → VL w ok ys vs
  | _, _, .nil, vs, h => h
  | _, _, .cons hx hs, vs, h => by
    simp only [VL] at h ⊢
    obtain ⟨u, us, h1, h2, h3⟩ := h
    exact ⟨u, us, h1, WkT.reads hx h2, WkL.reads hs h3⟩
end
theorem WkL.refl : ∀ (xs : List T), WkL xs xs
  | [] => .nil
  | x :: xs => .cons (.refl x) (WkL.refl xs)
theorem WkL.append : ∀ {xs ys us vs : List T}, WkL xs ys → WkL us vs → WkL (xs ++ us) (ys ++ vs)
  | _, _, _, _, .nil, h => h
  | _, _, _, _, .cons h1 h2, h => .cons h1 (WkL.append h2 h)

section
variable {P : Program} {E : Env} {β : Names} {N : List Nat} {S : Nat → Option V} {O : Nat → Option Obj} {a : Act} {w : World}
def Snap (E : Env) (O : Nat → Option Obj) (β : Names) (w : World) (b : Nat) : Prop := Imm E O β w b ∨ ∃ i o x, O i = some o ∧ β i = some x ∧ x.1 = b
theorem R.snap_lt (h : R E β N S O a w) : ∀ b, Snap E O β w b → b < w.heap.size := fun b hb => by
  rcases hb with hb | ⟨i, o, x, h1, h2, rfl⟩
  · exact hb.2.1
  · obtain ⟨b, z, hb, hlt, _⟩ := h.objS h1 h2
    rw [h2] at hb; cases hb
    exact hlt
theorem R.snapOK (h : R E β N S O a w) : SnapOK w (Snap E O β w) O β := .of (ok := Imm E O β w) ⟨fun b hb => .inl hb, fun _ _ => rfl⟩ fun i ob b z ho hb => by
  obtain ⟨b', z', hb', hlt, hx, hor⟩ := h.objS ho hb
  rw [hb] at hb'; cases hb'
  exact ⟨.inr ⟨i, ob, _, ho, hb, rfl⟩, hor⟩
theorem R.snapV (h : R E β N S O a w) (x : V) (v : Value) (ps : List Prop) (t : T) (hs : Tl.snapV O x = some (ps, t)) (ho : Obs ps) (hv : VV w (Imm E O β w) β x v) : VR w (Snap E O β w) t v :=
  snapV_reads ⟨fun b hb => .inl hb, fun _ _ => rfl⟩ h.snapOK x v ps t hs ho hv
theorem R.snapL (h : R E β N S O a w) (xs : List V) (vs : List Value) (ps : List Prop) (ts : List T) (hs : Tl.snapL O xs = some (ps, ts)) (ho : Obs ps) (hv : VVL w (Imm E O β w) β xs vs) : VL w (Snap E O β w) ts vs :=
  snapL_reads ⟨fun b hb => .inl hb, fun _ _ => rfl⟩ h.snapOK xs vs ps ts hs ho hv

theorem R.called (h : R E β N S O a w) {w' : World} (os : w'.os = w.os) (tape : w'.tape = w.tape) (output : w'.output = w.output) (size : w.heap.size ≤ w'.heap.size)
    (same : ∀ b, b < w.heap.size → w'.heap[b]? = w.heap[b]?) : R E β N S O a w' ∧ Lasts w (Imm E O β w) w' (Imm E O β w') ∧ ∀ b, w.heap.size ≤ b → b < w'.heap.size → Imm E O β w' b := by
  obtain ⟨h1, h2⟩ := h.next (w' := w') (N' := N) (O' := O) (β' := β) os tape output size (fun b hb _ => same b (Nat.lt_of_lt_of_le hb h.size)) (fun _ _ => rfl) (fun _ h => h) (fun i x hn _ hx => absurd (h.inN hx) hn) h.dom
    (fun b hb => ⟨⟨hb.1, Nat.lt_of_lt_of_le hb.2.1 size, hb.2.2⟩, same b hb.2.1⟩)
    (fun i o ho => .inl ⟨ho, fun x hx => by
      obtain ⟨b, z, hb, hlt, _⟩ := h.objS ho hx
      rw [hx] at hb; cases hb
      exact same _ hlt⟩) h.apart
  refine ⟨h1, h2, fun b hb hlt => ⟨.inr (.inl (Nat.le_trans h.size hb)), hlt, fun i o x ho hx e => ?_⟩⟩
  obtain ⟨b', z, hb', hlt', _⟩ := h.objS ho hx
  rw [hx] at hb'; cases hb'
  simp only at e
  omega

theorem R.call (h : R E β N S O a w) {f : FuncId} {pre caps : List T} {vf : Value} (hf : VR w (Imm E O β w) (.fn f pre caps) vf) {xs : List V} {vs : List Value} (hvs : VVL w (Imm E O β w) β xs vs)
    {ts ts' : List T} {ps : List Prop} {r : T} (hr : pures xs = some ts ∨ (r.flat = true ∧ Tl.snapL O xs = some (ps, ts) ∧ Obs ps)) (hw : WkL ts ts') (hC : C P f (pre ++ (ts' ++ caps)) r) {dst : Option Nat} {Q : Exit → Act → World → Prop} {K : Act → World → Prop}
    (hK : ∀ v w', R E β N S O a w' → VR w' (Imm E O β w') r v → K (a.put dst v) w') {o : Oper} (hdst : o.dst = dst) {d : Deferred}
    (hd : (Deferred.ofValue vf vs.toArray).run P w = .ok d w)
    (hrun : (execOp a.eval o).run P w = (invoke d.target d.args).run P w) : o.wp P a w K Q := by
  subst hdst
  simp only [VR] at hf
  obtain ⟨pv, cv, rfl, hpv, hcv⟩ := hf
  simp only [Deferred.ofValue, Sem.run_pure, Result.ok.injEq, and_true] at hd
  subst hd
  simp only [invoke] at hrun
  have hargs : ((pv ++ vs.toArray) ++ cv : Array Value).toList = pv.toList ++ (vs ++ cv.toList) := by simp
  unfold Oper.wp
  rw [hrun]
  have key : ∀ (ok : Nat → Prop), (∀ b, ok b → b < w.heap.size) → Glob ok w → VL w ok (pre ++ (ts' ++ caps)) (pv.toList ++ (vs ++ cv.toList)) →
      (∀ w' v, R E β N S O a w' → Lasts w (Imm E O β w) w' (Imm E O β w') → (∀ b, w.heap.size ≤ b → b < w'.heap.size → Imm E O β w' b) → w.heap.size ≤ w'.heap.size → VR w' (fun b => ok b ∨ (w.heap.size ≤ b ∧ b < w'.heap.size)) r v → VR w' (Imm E O β w') r v) →
      o.upon P a K Q ((callFunc f (pv ++ vs.toArray ++ cv)).run P w) := by
    intro ok hok hg hl hres
    rcases hC ok w _ hok hg (by rw [hargs]; exact hl) with ⟨h1, h2⟩ | ⟨v, h1, h2⟩
    · rw [h1]
      refine Calls.mono h2 fun e w' he => ?_
      obtain ⟨v, rfl, os, tape, output, size, same, hv⟩ := he
      obtain ⟨k1, k2, k3⟩ := h.called os tape output size same
      exact hK v w' k1 (hres w' v k1 k2 k3 size hv)
    · rw [h1]
      exact hK v w h (hres w v h (Lasts.refl _ _) (fun b h1 h2 => absurd h2 (Nat.not_lt.2 h1)) (Nat.le_refl _) (VR.lasts ⟨fun b hb => .inl hb, fun _ _ => rfl⟩ _ _ h2))
  rcases hr with hp | ⟨hflat, hs, ho⟩
  · exact key (Imm E O β w) (fun b hb => hb.2.1) h.globI (VL.append hpv (VL.append (hw.reads (VVL.pures hp hvs)) hcv)) (fun w' v k1 k2 k3 ksz hv => by
      refine VR.lasts ⟨fun b hb => ?_, fun _ _ => rfl⟩ _ _ hv
      rcases hb with hb | ⟨hb1, hb2⟩
      · exact k2.lets b hb
      · exact k3 b hb1 hb2)
  · exact key (Snap E O β w) h.snap_lt (Glob.lasts ⟨fun b hb => .inl hb, fun _ _ => rfl⟩ h.globI) (VL.append (VL.lasts ⟨fun b hb => .inl hb, fun _ _ => rfl⟩ _ _ hpv) (VL.append (hw.reads (R.snapL h xs vs ps ts hs ho hvs)) (VL.lasts ⟨fun b hb => .inl hb, fun _ _ => rfl⟩ _ _ hcv))) (fun w' v k1 k2 k3 ksz hv => VR.flat _ _ hflat hv)
end
end Go.Tl
end
section
namespace Go.Tl
set_option linter.unusedVariables false
set_option linter.unusedSimpArgs false

def eqCells : List T → List T → Option Bool
  | [], [] => some true
  | .int k a :: r, .int k' b :: r' => if k = k' then (eqCells r r').map fun c => (a == b) && c else none
  | .str a :: r, .str b :: r' => (eqCells r r').map fun c => (a.toList == b.toList) && c
  | .bool a :: r, .bool b :: r' => (eqCells r r').map fun c => (a == b) && c
  | _, _ => none
def chkEqF (P : Program) : List Field → Nat → List T → Bool
  | [], _, [] => true
  | f :: fs, i, x :: xs => f.name != "_" && f.offset == i && (match P.underlying f.type, x with
    | some (.int k), .int k' _ => decide (k = k')
    | some .string, .str _ => true
    | some .bool, .bool _ => true
    | _, _ => false) && chkEqF P fs (i + 1) xs
  | _, _, _ => false
def chkInts : List T → Bool
  | [] => true
  | .int .i64 _ :: xs => chkInts xs
  | _ :: _ => false
def chkEq (P : Program) (t : TypeId) (xs : List T) : Bool :=
  !P.stoodInHeld t && !P.eqGuardType P.depth t && (match P.underlying t with
  | some (.struct fs) => chkEqF P fs.toList 0 xs
  | some (.array n e) => (match P.underlying e, P.info? e with
    | some (.int .i64), some i => P.plainKey e && P.cellsOf e == 1 && decide (n = xs.length) && chkInts xs
    | _, _ => false)
  | _ => false)
def isRowD : TypeDesc → Bool
  | .struct _ | .array _ _ => true
  | _ => false
theorem run_part_one {P : Program} {t : TypeId} {d : TypeDesc} (ht : P.underlying t = some d) (hd : isRowD d = false) {cs : Array Value} {i : Nat} {v : Value} (hv : cs[i]? = some v) (w : World) : (part t cs i).run P w = .ok v w := by
  cases d <;> simp [isRowD] at hd <;> simp [part, isAgg, run_underlying ht, hv]
theorem run_eqFields {P : Program} {w : World} {ok : Nat → Prop} {A B : Array Value} (d : Nat) : ∀ (fs : List Field) (i : Nat) (xs ys : List T) (us vs : List Value) (b : Bool), chkEqF P fs i xs = true → A.toList.drop i = us → B.toList.drop i = vs → VL w ok xs us → VL w ok ys vs → eqCells xs ys = some b →
    (Op.eqFields (d + 1) A B fs).run P w = .ok b w
  | [], i, xs, ys, us, vs, b, hc, ha, hb, hx, hy, he => by
    cases xs with
    | cons x xs => simp [chkEqF] at hc
    | nil =>
      cases ys with
      | cons y ys => simp [eqCells] at he
      | nil =>
        simp only [eqCells, Option.some.injEq] at he
        subst he
        simp [Op.eqFields]
  | f :: fs, i, [], ys, us, vs, b, hc, ha, hb, hx, hy, he => by simp [chkEqF] at hc
  | f :: fs, i, x :: xs, [], us, vs, b, hc, ha, hb, hx, hy, he => by cases x <;> simp [eqCells] at he
  | f :: fs, i, x :: xs, y :: ys, us, vs, b, hc, ha, hb, hx, hy, he => by
    simp only [chkEqF, Bool.and_eq_true, bne_iff_ne, ne_eq, beq_iff_eq] at hc
    obtain ⟨⟨⟨hn, ho⟩, hk⟩, hr⟩ := hc
    simp only [VL] at hx hy
    obtain ⟨u, us', rfl, hu, hxs⟩ := hx
    obtain ⟨v, vs', rfl, hv, hys⟩ := hy
    have ga : A[i]? = some u := by
      have := congrArg (·[0]?) ha
      simpa [List.getElem?_drop] using this
    have gb : B[i]? = some v := by
      have := congrArg (·[0]?) hb
      simpa [List.getElem?_drop] using this
    have ta : A.toList.drop (i + 1) = us' := by rw [← List.drop_drop, ha]; rfl
    have tb : B.toList.drop (i + 1) = vs' := by rw [← List.drop_drop, hb]; rfl
    have rest : ∀ c, eqCells xs ys = some c → (Op.eqFields (d + 1) A B fs).run P w = .ok c w := fun c hcc => run_eqFields d fs (i + 1) xs ys us' vs' c hr ta tb hxs hys hcc
    have step : ∀ (d' : TypeDesc), P.underlying f.type = some d' → isRowD d' = false → ∀ (e c : Bool), (Op.equalIn (d + 1) f.type u v).run P w = .ok e w → eqCells xs ys = some c → (Op.eqFields (d + 1) A B (f :: fs)).run P w = .ok (e && c) w := by
      intro d' hd' ha' e c he' hc'
      simp only [Op.eqFields, ne_eq, hn, not_false_eq_true, if_true, Sem.run_bind, ho, run_part_one hd' ha' ga, run_part_one hd' ha' gb, Result.andThen_ok, he']
      cases e
      · simp
      · simp [rest c hc']
    split at hk
    · rename_i k k' a hu'
      simp only [decide_eq_true_eq] at hk
      subst hk
      cases y <;> simp only [eqCells, reduceCtorEq] at he
      rename_i k2 b2
      simp only [Option.ite_none_right_eq_some, Option.map_eq_some_iff] at he
      obtain ⟨rfl, c, hcc, rfl⟩ := he
      simp only [VR] at hu hv
      subst hu; subst hv
      exact step _ hu' rfl _ _ (by simp [Op.equalIn, run_underlying hu']) hcc
    · rename_i s hu'
      cases y <;> simp only [eqCells, reduceCtorEq] at he
      rename_i s2
      simp only [Option.map_eq_some_iff] at he
      obtain ⟨c, hcc, rfl⟩ := he
      simp only [VR] at hu hv
      subst hu; subst hv
      exact step _ hu' rfl _ _ (by simp [Op.equalIn, run_underlying hu', beq_toListBytes]) hcc
    · rename_i s hu'
      cases y <;> simp only [eqCells, reduceCtorEq] at he
      rename_i s2
      simp only [Option.map_eq_some_iff] at he
      obtain ⟨c, hcc, rfl⟩ := he
      simp only [VR] at hu hv
      subst hu; subst hv
      exact step _ hu' rfl _ _ (by simp [Op.equalIn, run_underlying hu']) hcc
    · cases hk
theorem run_eqItems {P : Program} {w : World} {ok : Nat → Prop} {A B : Array Value} {d : Nat} {e : TypeId} (he : P.underlying e = some (.int .i64)) (pe : P.plainKey e = true) : ∀ (xs ys : List T) (i : Nat) (us vs : List Value) (b : Bool), chkInts xs = true → A.toList.drop i = us → B.toList.drop i = vs → VL w ok xs us → VL w ok ys vs → eqCells xs ys = some b →
    (Op.eqItems (d + 1) e 1 A B (List.range' i xs.length)).run P w = .ok b w
  | [], ys, i, us, vs, b, hc, ha, hb, hx, hy, hq => by
    cases ys with
    | cons y ys => simp [eqCells] at hq
    | nil =>
      simp only [eqCells, Option.some.injEq] at hq
      subst hq
      simp [Op.eqItems]
  | x :: xs, [], i, us, vs, b, hc, ha, hb, hx, hy, hq => by cases x <;> simp [eqCells] at hq
  | x :: xs, y :: ys, i, us, vs, b, hc, ha, hb, hx, hy, hq => by
    cases x with
    | int k n =>
      cases k <;> simp only [chkInts, Bool.false_eq_true] at hc
      cases y with
      | int k' m =>
        simp only [eqCells, Option.ite_none_right_eq_some, Option.map_eq_some_iff] at hq
        obtain ⟨rfl, c, hcc, rfl⟩ := hq
        simp only [VL] at hx hy
        obtain ⟨u, us', rfl, hu, hxs⟩ := hx
        obtain ⟨v, vs', rfl, hv, hys⟩ := hy
        simp only [VR] at hu hv
        subst hu; subst hv
        have ga : A[i]? = some (Value.int .i64 n) := by
          have h1 := congrArg (·[0]?) ha
          simpa [List.getElem?_drop] using h1
        have gb : B[i]? = some (Value.int .i64 m) := by
          have h1 := congrArg (·[0]?) hb
          simpa [List.getElem?_drop] using h1
        have ta : A.toList.drop (i + 1) = us' := by rw [← List.drop_drop, ha]; rfl
        have tb : B.toList.drop (i + 1) = vs' := by rw [← List.drop_drop, hb]; rfl
        have pa : (part e A (i * 1)).run P w = .ok (Value.int .i64 n) w := run_part_plain w pe (by rw [Nat.mul_one]; exact ga)
        have pb : (part e B (i * 1)).run P w = .ok (Value.int .i64 m) w := run_part_plain w pe (by rw [Nat.mul_one]; exact gb)
        have ih := run_eqItems (d := d) he pe xs ys (i + 1) us' vs' c hc ta tb hxs hys hcc
        rw [List.length_cons, List.range'_succ]
        simp only [Op.eqItems, Sem.run_bind, pa, pb, Result.andThen_ok, run_equalIn_int w d e .i64 .i64 n m he]
        cases hnm : (n == m) with
        | true => simp [ih]
        | false => simp
      | _ => simp [eqCells] at hq
    | _ => simp [chkInts] at hc
theorem run_aggEq {P : Program} {w : World} {ok : Nat → Prop} {β : Names} {t : TypeId} {xs ys : List T} {b : Bool} (hc : chkEq P t xs = true) (he : eqCells xs ys = some b) {v v' : Value} (hv : VV w ok β (.t (.agg xs)) v) (hv' : VV w ok β (.t (.agg ys)) v') {op : BinOp} {r : T} {p : Prop} (hop : eqT op b = some (p, r)) {xo yo : Operand} :
    ∃ u, (do eqGuard op t xo yo v v'; binOp op t v v' : Sem Value).run P w = .ok u w ∧ VR w ok r u := by
  simp only [chkEq, Bool.and_eq_true, Bool.not_eq_true'] at hc
  obtain ⟨⟨h1, h2⟩, h3⟩ := hc
  cases hu : P.underlying t with
  | none => simp [hu] at h3
  | some d =>
    cases d with
    | struct fs =>
      simp only [hu] at h3
      simp only [VV, VR] at hv hv'
      obtain ⟨A, rfl, _, hA⟩ := hv
      obtain ⟨B, rfl, _, hB⟩ := hv'
      have hfs : P.fieldsOf t = fs := by simp [Program.fieldsOf, hu]
      have heq : (Op.equal t (.agg A) (.agg B)).run P w = .ok b w := by
        show (Op.equalIn (9999 + 1) t (.agg A) (.agg B)).run P w = _
        rw [run_equalIn_struct w 9999 t A B (by rw [hfs]; exact hu) h1, hfs]
        exact run_eqFields 9998 fs.toList 0 xs ys A.toList B.toList b h3 rfl rfl hA hB he
      have guard : (eqGuard op t xo yo (.agg A) (.agg B)).run P w = .ok () w := by
        cases op <;> simp [eqGuard, h2]
      simp only [Sem.run_bind, guard, Result.andThen_ok]
      cases op <;> simp only [eqT, Option.some.injEq, Prod.mk.injEq, reduceCtorEq] at hop
      · obtain ⟨_, rfl⟩ := hop
        exact ⟨.bool b, by simp [binOp, heq], by simp only [VR]⟩
      · obtain ⟨_, rfl⟩ := hop
        exact ⟨.bool (!b), by simp [binOp, heq], by simp only [VR]⟩
    | array n e =>
      simp only [hu] at h3
      cases he0 : P.underlying e with
      | none => simp [he0] at h3
      | some de =>
        cases hi0 : P.info? e with
        | none => cases de <;> simp [he0, hi0] at h3
        | some ie =>
          cases de with
          | int k =>
            cases k with
            | i64 =>
              simp only [he0, hi0, Bool.and_eq_true, beq_iff_eq, decide_eq_true_eq] at h3
              obtain ⟨⟨⟨g1, g2⟩, g3⟩, g4⟩ := h3
              simp only [VV, VR] at hv hv'
              obtain ⟨A, rfl, _, hA⟩ := hv
              obtain ⟨B, rfl, _, hB⟩ := hv'
              have heq : (Op.equal t (.agg A) (.agg B)).run P w = .ok b w := by
                show (Op.equalIn (9999 + 1) t (.agg A) (.agg B)).run P w = _
                rw [run_equalIn_array w 9999 A B hu hi0, g2, g3, List.range_eq_range']
                exact run_eqItems (d := 9998) he0 g1 xs ys 0 A.toList B.toList b g4 rfl rfl hA hB he
              have guard : (eqGuard op t xo yo (.agg A) (.agg B)).run P w = .ok () w := by
                cases op <;> simp [eqGuard, h2]
              simp only [Sem.run_bind, guard, Result.andThen_ok]
              cases op <;> simp only [eqT, Option.some.injEq, Prod.mk.injEq, reduceCtorEq] at hop
              · obtain ⟨_, rfl⟩ := hop
                exact ⟨.bool b, by simp [binOp, heq], by simp only [VR]⟩
              · obtain ⟨_, rfl⟩ := hop
                exact ⟨.bool (!b), by simp [binOp, heq], by simp only [VR]⟩
            | _ => simp [he0, hi0] at h3
          | _ => simp [he0, hi0] at h3
    | _ => simp [hu] at h3
def EqSame (P : Program) (t : TypeId) (n : Nat) : Prop := ∀ (as : List Int) (op : BinOp) (xo yo : Operand) (w : World) (p : Prop) (r : T), as.length = n → eqT op true = some (p, r) →
  ∃ c, r = .bool c ∧ (do eqGuard op t xo yo (.agg (as.map (Value.int .i64)).toArray) (.agg (as.map (Value.int .i64)).toArray); binOp op t (.agg (as.map (Value.int .i64)).toArray) (.agg (as.map (Value.int .i64)).toArray) : Sem Value).run P w = .ok (.bool c) w
theorem VL_ints_inv {w : World} {ok : Nat → Prop} {k : IntKind} : ∀ (as : List Int) (us : List Value), VL w ok (as.map (T.int k)) us → us = as.map (Value.int k)
  | [], us, h => by simpa only [List.map_nil, VL] using h
  | a :: as, us, h => by
    simp only [List.map_cons, VL] at h
    obtain ⟨u, us', rfl, h1, h2⟩ := h
    simp only [VR] at h1
    rw [h1, VL_ints_inv as us' h2]; rfl
theorem agg_ints {w : World} {ok : Nat → Prop} {β : Names} {as : List Int} {v : Value} (h : VV w ok β (.t (.agg (as.map (T.int .i64)))) v) : v = .agg (as.map (Value.int .i64)).toArray := by
  simp only [VV, VR] at h
  obtain ⟨A, rfl, _, hA⟩ := h
  have := VL_ints_inv as A.toList hA
  rw [← this]
theorem run_aggSame {P : Program} {w : World} {ok : Nat → Prop} {β : Names} {t : TypeId} {xs ys : List T} {as : List Int} (h1 : xs = as.map (T.int .i64)) (h2 : ys = as.map (T.int .i64)) (hs : EqSame P t as.length) {v v' : Value} (hv : VV w ok β (.t (.agg xs)) v) (hv' : VV w ok β (.t (.agg ys)) v') {op : BinOp} {r : T} {p : Prop} (hop : eqT op true = some (p, r)) {xo yo : Operand} :
    ∃ u, (do eqGuard op t xo yo v v'; binOp op t v v' : Sem Value).run P w = .ok u w ∧ VR w ok r u := by
  subst h1; subst h2
  rw [agg_ints hv, agg_ints hv']
  obtain ⟨c, rfl, hr⟩ := hs as op xo yo w p r rfl hop
  exact ⟨_, hr, by simp only [VR]⟩
end Go.Tl
end
section
namespace Go.Tl
set_option linter.unusedVariables false
set_option linter.unusedSimpArgs false

def keysO (l : List (Nat × Obj)) : List Nat := l.map (·.1)

def CG (P : Program) (f : FuncId) (args : List V) (Oi : List (Nat × Obj)) (r : V) (Oo : List (Nat × Obj)) : Prop :=
  ∀ (ok : Nat → Prop) (w : World) (β : Names) (vs : Array Value), (∀ b, ok b → b < w.heap.size) → Glob ok w →
    (∀ i x, β i = some x → i < 1000 ∧ i ∈ keysO Oi ∧ ¬ ok x.1 ∧ x.1 < w.heap.size) →
    (∀ i o, lk Oi i = some o → (∃ b z, β i = some (b, z) ∧ OR w ok β b z o) ∨ (i < 1000 ∧ β i = none ∧ ∃ e, o = .cells e [])) →
    (∀ i j x x', β i = some x → β j = some x' → i ≠ j → x.1 ≠ x'.1) →
    VVL w ok β args vs.toList →
    (callFunc f vs).run P w = .ok (.enter f vs) w ∧ Calls P f vs w fun e w' => ∃ v β', e = .returned v ∧ w'.os = w.os ∧ w'.tape = w.tape ∧ w'.output = w.output ∧ w.heap.size ≤ w'.heap.size ∧
      (∀ b, b < w.heap.size → (∀ i x, β i = some x → x.1 ≠ b) → w'.heap[b]? = w.heap[b]?) ∧
      (∀ i, i ∈ keysO Oi → β' i = β i) ∧
      (∀ i x, 2000 ≤ i → β' i = some x → w.heap.size ≤ x.1) ∧
      (∀ i o, lk Oo i = some o → (∃ b z, β' i = some (b, z) ∧ b < w'.heap.size ∧ (w.heap.size ≤ b ∨ ∃ j z', β j = some (b, z')) ∧ OR w' (Imm ⟨ok, w, fun b => ∃ i x, β i = some x ∧ x.1 = b, fun _ => False, fun _ => none⟩ (lk Oo) β' w') β' b z o) ∨ (β' i = none ∧ ∃ e, o = .cells e [])) ∧
      (∀ i j o o' x x', lk Oo i = some o → lk Oo j = some o' → β' i = some x → β' j = some x' → i ≠ j → x.1 ≠ x'.1) ∧
      VV w' (Imm ⟨ok, w, fun b => ∃ i x, β i = some x ∧ x.1 = b, fun _ => False, fun _ => none⟩ (lk Oo) β' w') β' r v

/-! ### slots that lean on no memory but the objects -/
mutual
def V.flat : V → Bool
  | .t x => x.flat
  | .agg vs => V.flats vs
  | .tup vs => V.flats vs
  | .fn _ vs => V.flats vs
  | _ => true
def V.flats : List V → Bool
  | [] => true
  | v :: vs => v.flat && V.flats vs
end
def flatEs : List (T × T) → Bool
  | [] => true
  | (k, x) :: es => k.flat && x.flat && flatEs es
def Obj.flat : Obj → Bool
  | .cells _ cs => T.flats cs
  | .vars _ vs => V.flats vs
  | .map es => flatEs es
section
variable {w : World} {ok ok' : Nat → Prop} {β : Names}
mutual
theorem VV.flat : ∀ (x : V) (v : Value), x.flat = true → VV w ok β x v → VV w ok' β x v
  | .t x, v, hf, h => by simp only [VV, V.flat] at h hf ⊢; exact VR.flat x v hf h
  | .ref .., v, _, h | .own .., v, _, h | .view .., v, _, h | .mapr _, v, _, h => by simpa only [VV] using h
  | .agg vs, v, hf, h => by
    simp only [VV, V.flat] at h hf ⊢
    obtain ⟨xs, h1, h2, h3⟩ := h
    exact ⟨xs, h1, h2, VVL.flat vs _ hf h3⟩
  | .tup vs, v, hf, h => by
    simp only [VV, V.flat] at h hf ⊢
    obtain ⟨xs, h1, h3⟩ := h
    exact ⟨xs, h1, VVL.flat vs _ hf h3⟩
  | .fn f vs, v, hf, h => by
    simp only [VV, V.flat] at h hf ⊢
    obtain ⟨xs, h1, h3⟩ := h
    exact ⟨xs, h1, VVL.flat vs _ hf h3⟩
theorem VVL.flat : ∀ (xs : List V) (vs : List Value), V.flats xs = true → VVL w ok β xs vs → VVL w ok' β xs vs
  | [], vs, _, h => by simpa only [VVL] using h
  | x :: xs, vs, hf, h => by
    simp only [VVL, V.flats, Bool.and_eq_true] at h hf ⊢
    obtain ⟨u, us, h1, h2, h3⟩ := h
    exact ⟨u, us, h1, VV.flat x u hf.1 h2, VVL.flat xs us hf.2 h3⟩
end
theorem VLP.flat : ∀ (es : List (T × T)) (ms : List MapEntry), flatEs es = true → VLP w ok es ms → VLP w ok' es ms
  | [], ms, _, h => by simpa only [VLP] using h
  | (k, x) :: es, ms, hf, h => by
    simp only [VLP, flatEs, Bool.and_eq_true] at h hf ⊢
    obtain ⟨m, r, h1, h2, h3, h4⟩ := h
    exact ⟨m, r, h1, VR.flat k _ hf.1.1 h2, VR.flat x _ hf.1.2 h3, VLP.flat es r hf.2 h4⟩
theorem OR.flat {b z : Nat} : ∀ {o : Obj}, o.flat = true → OR w ok β b z o → OR w ok' β b z o
  | .cells e cs, hf, h => by
    simp only [OR, Obj.flat] at h hf ⊢
    obtain ⟨arr, us, rest, h1, h2, h3, h5, h4⟩ := h
    exact ⟨arr, us, rest, h1, h2, h3, h5, VL.flat _ _ hf h4⟩
  | .vars e vs, hf, h => by
    simp only [OR, Obj.flat] at h hf ⊢
    obtain ⟨arr, us, rest, h1, h2, h3, h5, h4⟩ := h
    exact ⟨arr, us, rest, h1, h2, h3, h5, VVL.flat _ _ hf h4⟩
  | .map es, hf, h => by
    simp only [OR, Obj.flat] at h hf ⊢
    obtain ⟨ms, clock, h1, h2, h3⟩ := h
    exact ⟨ms, clock, h1, VLP.flat _ _ hf h2, h3⟩
end

/-! ### names taken back -/
section
variable {w : World} {ok : Nat → Prop} {β β' : Names}
mutual
theorem VV.unren {N : List Nat} {f : Nat → Nat} (hf : ∀ i, i ∈ N → β' (f i) = β i) : ∀ (x : V) (v : Value), x.inN N = true → VV w ok β' (x.ren f) v → VV w ok β x v
  | .t x, v, _, hv => by simp only [V.ren, VV] at hv ⊢; exact hv
  | .ref i o, v, hn, hv => by simp only [V.ren, VV, V.inN, List.contains_eq_mem, decide_eq_true_eq] at hv hn ⊢; rw [hf i hn] at hv; exact hv
  | .own i sz n, v, hn, hv => by simp only [V.ren, VV, V.inN, List.contains_eq_mem, decide_eq_true_eq] at hv hn ⊢; rw [hf i hn] at hv; exact hv
  | .view i o sz n, v, hn, hv => by simp only [V.ren, VV, V.inN, List.contains_eq_mem, decide_eq_true_eq] at hv hn ⊢; rw [hf i hn] at hv; exact hv
  | .mapr i, v, hn, hv => by simp only [V.ren, VV, V.inN, List.contains_eq_mem, decide_eq_true_eq] at hv hn ⊢; rw [hf i hn] at hv; exact hv
  | .agg vs, v, hn, hv => by
    simp only [V.ren, VV, V.inN] at hv hn ⊢
    obtain ⟨xs, h1, h2, h3⟩ := hv
    exact ⟨xs, h1, h2, VVL.unren hf vs _ hn h3⟩
  | .tup vs, v, hn, hv => by
    simp only [V.ren, VV, V.inN] at hv hn ⊢
    obtain ⟨xs, h1, h3⟩ := hv
    exact ⟨xs, h1, VVL.unren hf vs _ hn h3⟩
  | .fn g vs, v, hn, hv => by
    simp only [V.ren, VV, V.inN] at hv hn ⊢
    obtain ⟨xs, h1, h3⟩ := hv
    exact ⟨xs, h1, VVL.unren hf vs _ hn h3⟩
theorem VVL.unren {N : List Nat} {f : Nat → Nat} (hf : ∀ i, i ∈ N → β' (f i) = β i) : ∀ (xs : List V) (vs : List Value), V.inNL N xs = true → VVL w ok β' (V.renL f xs) vs → VVL w ok β xs vs
  | [], vs, _, hv => by simp only [V.renL, VVL] at hv ⊢; exact hv
  | x :: xs, vs, hn, hv => by
    simp only [V.renL, VVL, V.inNL, Bool.and_eq_true] at hv hn ⊢
    obtain ⟨u, us, rfl, h1, h2⟩ := hv
    exact ⟨u, us, rfl, VV.unren hf x u hn.1 h1, VVL.unren hf xs us hn.2 h2⟩
end
theorem OR.unren {N : List Nat} {f : Nat → Nat} (hf : ∀ i, i ∈ N → β' (f i) = β i) {b z : Nat} (o : Obj) (hn : o.inN N = true) (h : OR w ok β' b z (o.ren f)) : OR w ok β b z o := by
  cases o with
  | cells e cs => simp only [OR, Obj.ren] at h ⊢; exact h
  | map es => simp only [OR, Obj.ren] at h ⊢; exact h
  | vars e vs =>
    simp only [OR, Obj.ren, Obj.inN] at h hn ⊢
    obtain ⟨arr, us, rest, h1, h2, h3, h4, h5⟩ := h
    exact ⟨arr, us, rest, h1, h2, h3, h4, VVL.unren hf vs us hn h5⟩
end

/-! ### what the call does to the caller's objects -/
def effG (F : Nat → Nat) (Oi Oo : List (Nat × Obj)) : List (Nat × Option Obj) :=
  Oi.map (fun x => (F x.1, none)) ++ Oo.map (fun x => (F x.1, some (x.2.ren F)))
def newG (F : Nat → Nat) (Oi Oo : List (Nat × Obj)) : List Nat :=
  ((keysO Oo).filter fun k => !(keysO Oi).contains k).map F
def nodupN : List Nat → Bool
  | [] => true
  | x :: xs => !xs.contains x && nodupN xs
theorem effs_app : ∀ (a b : List (Nat × Option Obj)) (O : Nat → Option Obj), effs (a ++ b) O = effs b (effs a O)
  | [], b, O => rfl
  | (i, x) :: a, b, O => by simp only [List.cons_append, effs]; exact effs_app a b _
theorem effs_none (F : Nat → Nat) : ∀ (l : List (Nat × Obj)) (O : Nat → Option Obj) (j : Nat), effs (l.map fun x => (F x.1, none)) O j = if j ∈ (keysO l).map F then none else O j
  | [], O, j => by simp [effs, keysO]
  | (i, x) :: l, O, j => by
    have hk : keysO ((i, x) :: l) = i :: keysO l := rfl
    simp only [List.map_cons, effs, hk]
    rw [effs_none F l]
    by_cases h : j ∈ List.map F (keysO l)
    · rw [if_pos h, if_pos (List.mem_cons_of_mem _ h)]
    · rw [if_neg h]
      by_cases e : j = F i
      · rw [if_pos (by rw [e]; exact List.mem_cons_self)]; simp [upd, e]
      · rw [if_neg (fun hh => (List.mem_cons.1 hh).elim e h)]; simp [upd, e]
theorem effs_some (F : Nat → Nat) : ∀ (l : List (Nat × Obj)) (O : Nat → Option Obj) (j : Nat) (o' : Obj), nodupN (keysO l) = true → (∀ a b, a ∈ keysO l → b ∈ keysO l → F a = F b → a = b) → effs (l.map fun x => (F x.1, some (x.2.ren F))) O j = some o' →
    (∃ k o, lk l k = some o ∧ F k = j ∧ o' = o.ren F) ∨ (O j = some o' ∧ ∀ k ∈ keysO l, F k ≠ j)
  | [], O, j, o', _, _, h => .inr ⟨by simpa [effs] using h, by simp [keysO]⟩
  | (i, x) :: l, O, j, o', hd, hi, h => by
    simp only [List.map_cons, effs] at h
    simp only [keysO, List.map_cons, nodupN, Bool.and_eq_true, Bool.not_eq_true'] at hd
    rcases effs_some F l _ j o' hd.2 (fun a b ha hb => hi a b (List.mem_cons_of_mem _ ha) (List.mem_cons_of_mem _ hb)) h with ⟨k, o, h1, h2, h3⟩ | ⟨h1, h2⟩
    · refine .inl ⟨k, o, ?_, h2, h3⟩
      simp only [lk]
      have hk : k ∈ keysO l := by
        clear h hd hi
        induction l with
        | nil => simp [lk] at h1
        | cons y l ih =>
          simp only [lk] at h1
          simp only [keysO, List.map_cons, List.mem_cons]
          split at h1
          · rename_i e; exact .inl e
          · exact .inr (ih h1)
      have hne : k ≠ i := fun e => by
        subst e
        simp only [keysO] at hk
        have := hd.1
        simp [hk] at this
      rw [if_neg hne]; exact h1
    · by_cases e : j = F i
      · subst e
        rw [upd_same] at h1
        cases h1
        exact .inl ⟨i, x, by simp [lk], rfl, rfl⟩
      · rw [upd_other _ _ _ _ e] at h1
        refine .inr ⟨h1, fun k hk => ?_⟩
        simp only [keysO, List.map_cons, List.mem_cons] at hk
        rcases hk with rfl | hk
        · exact Ne.symm e
        · exact h2 k hk
theorem lk_keys : ∀ {l : List (Nat × Obj)} {i : Nat} {o : Obj}, lk l i = some o → i ∈ keysO l
  | [], i, o, h => by simp [lk] at h
  | (j, x) :: r, i, o, h => by
    simp only [lk] at h
    simp only [keysO, List.map_cons, List.mem_cons]
    split at h
    · rename_i e; exact .inl e
    · exact .inr (lk_keys h)
theorem keys_lk : ∀ {l : List (Nat × Obj)} {i : Nat}, i ∈ keysO l → ∃ o, lk l i = some o
  | [], i, h => by simp [keysO] at h
  | (j, x) :: r, i, h => by
    simp only [keysO, List.map_cons, List.mem_cons] at h
    simp only [lk]
    by_cases e : i = j
    · exact ⟨x, by rw [if_pos e]⟩
    · rw [if_neg e]; exact keys_lk (h.resolve_left e)

section
variable {P : Program} {E : Env} {β : Names} {N : List Nat} {S : Nat → Option V} {O : Nat → Option Obj} {a : Act} {w : World}
theorem R.callG (h : R E β N S O a w) {g : FuncId} {F : Nat → Nat} {Oi Oo : List (Nat × Obj)} {fa : List V} {r : V} (hC : CG P g fa Oi r Oo)
    (hi : ∀ i o, lk Oi i = some o → i < 1000 ∧ O (F i) = some (o.ren F) ∧ o.inN (keysO Oi) = true)
    (hd : nodupN (keysO Oo) = true) (hinj : ∀ i j, (i ∈ keysO Oi ∨ i ∈ keysO Oo) → (j ∈ keysO Oi ∨ j ∈ keysO Oo) → F i = F j → i = j)
    (hnew : ∀ j ∈ newG F Oi Oo, j ∉ N) (h2000 : ∀ i, i ∈ keysO Oo → i ∉ keysO Oi → 2000 ≤ F i → 2000 ≤ i ∨ ∀ j, j ∈ keysO Oi → 2000 ≤ F j)
    (hoN : ∀ i o, lk Oo i = some o → o.inN (keysO Oi ++ keysO Oo) = true) (hrN : r.inN (keysO Oi ++ keysO Oo) = true)
    {okc : Nat → Prop} (hok0 : ∀ b, Imm E O β w b → okc b) (hok1 : ∀ b, okc b → b < w.heap.size ∧ ∀ i o x, lk Oi i = some o → β (F i) = some x → x.1 ≠ b)
    (hok2 : (∀ b, okc b → Imm E O β w b) ∨ (r.flat = true ∧ ∀ i o, lk Oo i = some o → o.flat = true))
    {vs : Array Value} (hargs : VVL w okc (fun i => if i ∈ keysO Oi then β (F i) else none) fa vs.toList) {Q : Value → World → Prop}
    (hQ : ∀ β' v w', R E β' (newG F Oi Oo ++ N) S (effs (effG F Oi Oo) O) a w' → VV w' (Imm E (effs (effG F Oi Oo) O) β' w') β' (r.ren F) v → Q v w') :
    (callFunc g vs).run P w = .ok (.enter g vs) w ∧ Calls P g vs w fun e w' => ∃ v, e = .returned v ∧ Q v w' := by
  have hβc : ∀ i x, (if i ∈ keysO Oi then β (F i) else none) = some x → i ∈ keysO Oi ∧ β (F i) = some x := fun i x hx => by
    split at hx
    · rename_i hm; exact ⟨hm, hx⟩
    · cases hx
  have hβi : ∀ i, i ∈ keysO Oi → (fun i => if i ∈ keysO Oi then β (F i) else none) i = β (F i) := fun i hm => by simp only [if_pos hm]
  obtain ⟨c1, c2⟩ := hC okc w (fun i => if i ∈ keysO Oi then β (F i) else none) vs (fun b hb => (hok1 b hb).1) (Glob.lasts ⟨hok0, fun _ _ => rfl⟩ h.globI)
    (fun i x hx => by
      obtain ⟨hm, hx⟩ := hβc i x hx
      obtain ⟨o, ho⟩ := keys_lk hm
      obtain ⟨k1, k2, k3⟩ := hi i o ho
      obtain ⟨b, z, hb, hlt, _⟩ := h.objS k2 hx
      rw [hx] at hb; cases hb
      exact ⟨k1, hm, fun hk => (hok1 _ hk).2 i o _ ho hx rfl, hlt⟩)
    (fun i o ho => by
      obtain ⟨k1, k2, k3⟩ := hi i o ho
      have hm := lk_keys ho
      rcases h.objs _ _ k2 with ⟨b, z, hb, hlt, _, hor⟩ | ⟨g1, g2, e, g3⟩
      · refine .inl ⟨b, z, by rw [if_pos hm]; exact hb, ?_⟩
        exact OR.lasts ⟨hok0, fun _ _ => rfl⟩ (fun _ _ h => h) rfl (OR.unren (N := keysO Oi) (fun j hj => (hβi j hj).symm) o k3 hor)
      · refine .inr ⟨k1, by rw [if_pos hm]; exact g2, e, ?_⟩
        cases o <;> simp [Obj.ren] at g3 ⊢
        exact g3)
    (fun i j x x' hx hx' hne => by
      obtain ⟨hm, hx⟩ := hβc i x hx
      obtain ⟨hm', hx'⟩ := hβc j x' hx'
      obtain ⟨o, ho⟩ := keys_lk hm
      obtain ⟨o', ho'⟩ := keys_lk hm'
      exact h.apart _ _ _ _ x x' (hi i o ho).2.1 (hi j o' ho').2.1 hx hx' (fun e => hne (hinj i j (.inl hm) (.inl hm') e)))
    hargs
  refine ⟨c1, Calls.mono c2 fun e w' he => ?_⟩
  obtain ⟨v, β', rfl, os, tape, output, size, same, keep, news, objs, apart, hv⟩ := he
  refine ⟨v, rfl, ?_⟩
  let β'' : Names := fun j => match ((keysO Oo).filter fun k => !(keysO Oi).contains k).find? (fun k => F k == j) with
    | some k => β' k
    | none => β j
  have hnm : ∀ k, k ∈ keysO Oo → k ∉ keysO Oi → F k ∉ N := fun k hk hn => hnew (F k) (List.mem_map.2 ⟨k, List.mem_filter.2 ⟨hk, by simpa using hn⟩, rfl⟩)
  have hFi : ∀ k, k ∈ keysO Oi → F k ∈ N := fun k hk => by
    obtain ⟨o, ho⟩ := keys_lk hk
    rcases h.objs _ _ (hi k o ho).2.1 with ⟨b, z, hb, _⟩ | ⟨g1, _⟩
    · exact h.inN hb
    · exact g1
  have hfind : ∀ j k, ((keysO Oo).filter fun k => !(keysO Oi).contains k).find? (fun k => F k == j) = some k → k ∈ keysO Oo ∧ k ∉ keysO Oi ∧ F k = j := fun j k hk => by
    have h1 := List.mem_of_find?_eq_some hk
    have h2 := List.find?_some hk
    simp only [List.mem_filter, List.contains_eq_mem, Bool.not_eq_true', decide_eq_false_iff_not] at h1
    exact ⟨h1.1, h1.2, by simpa using h2⟩
  have hβN : ∀ j, j ∈ N → β'' j = β j := fun j hj => by
    simp only [β'']
    split
    · rename_i k hk
      obtain ⟨k1, k2, rfl⟩ := hfind j k hk
      exact absurd hj (hnm k k1 k2)
    · rfl
  have hβn : ∀ k, k ∈ keysO Oo → k ∉ keysO Oi → β'' (F k) = β' k := fun k hk hn => by
    simp only [β'']
    split
    · rename_i k2 hk2
      obtain ⟨q1, q2, q3⟩ := hfind _ k2 hk2
      rw [hinj k2 k (.inr q1) (.inr hk) q3]
    · rename_i hnone
      rw [List.find?_eq_none] at hnone
      have := hnone k (List.mem_filter.2 ⟨hk, by simpa using hn⟩)
      simp at this
  have hβF : ∀ k, k ∈ keysO Oi ++ keysO Oo → β'' (F k) = β' k := fun k hk => by
    by_cases hm : k ∈ keysO Oi
    · rw [hβN _ (hFi k hm), keep k hm, if_pos hm]
    · exact hβn k ((List.mem_append.1 hk).resolve_left hm) hm
  have hlt : ∀ k x, k ∈ keysO Oi → β (F k) = some x → x.1 < w.heap.size := fun k x hk hx => by
    obtain ⟨o, ho⟩ := keys_lk hk
    obtain ⟨b, z, hb, hl, _⟩ := h.objS (hi k o ho).2.1 hx
    rw [hx] at hb; cases hb; exact hl
  have hO' : ∀ j o', effs (effG F Oi Oo) O j = some o' → (∃ k o, lk Oo k = some o ∧ F k = j ∧ o' = o.ren F) ∨ (O j = some o' ∧ (∀ k ∈ keysO Oo, F k ≠ j) ∧ ∀ k ∈ keysO Oi, F k ≠ j) := fun j o' hj => by
    rw [effG, effs_app] at hj
    rcases effs_some F Oo _ j o' hd (fun a b ha hb => hinj a b (.inr ha) (.inr hb)) hj with h1 | ⟨h1, h2⟩
    · exact .inl h1
    · rw [effs_none] at h1
      split at h1
      · cases h1
      · rename_i hn
        exact .inr ⟨h1, h2, fun k hk e => hn (List.mem_map.2 ⟨k, hk, e⟩)⟩
  have hsame : ∀ b, b < w.heap.size → (∀ k x, k ∈ keysO Oi → β (F k) = some x → x.1 ≠ b) → w'.heap[b]? = w.heap[b]? := fun b hb hn => same b hb fun i x hx => by
    obtain ⟨hm, hx⟩ := hβc i x hx
    exact hn i x hm hx
  have hblk : ∀ k o x, lk Oo k = some o → β'' (F k) = some x → x.1 < w'.heap.size ∧ (w.heap.size ≤ x.1 ∨ ∃ j z', j ∈ keysO Oi ∧ β (F j) = some (x.1, z')) := fun k o x ho hx => by
    rw [hβF k (List.mem_append_right _ (lk_keys ho))] at hx
    rcases objs k o ho with ⟨b, z, hb, h1, h2, _⟩ | ⟨hn, _⟩
    · rw [hx] at hb; cases hb
      refine ⟨h1, ?_⟩
      rcases h2 with h2 | ⟨j, z', hj⟩
      · exact .inl h2
      · obtain ⟨hm, hj⟩ := hβc j _ hj
        exact .inr ⟨j, z', hm, hj⟩
    · rw [hx] at hn; cases hn
  have himm : ∀ b, Imm E O β w b → Imm E (effs (effG F Oi Oo) O) β'' w' b ∧ w'.heap[b]? = w.heap[b]? := fun b hb => by
    have hno : ∀ k x, k ∈ keysO Oi → β (F k) = some x → x.1 ≠ b := fun k x hk hx => by
      obtain ⟨o, ho⟩ := keys_lk hk
      exact hb.2.2 _ _ x (hi k o ho).2.1 hx
    refine ⟨⟨hb.1, Nat.lt_of_lt_of_le hb.2.1 size, fun j o' x ho hx => ?_⟩, hsame b hb.2.1 hno⟩
    rcases hO' j o' ho with ⟨k, o, h1, rfl, rfl⟩ | ⟨h1, h2, h3⟩
    · rcases (hblk k o x h1 hx).2 with h4 | ⟨j', z', h4, h5⟩
      · exact Nat.ne_of_gt (Nat.lt_of_lt_of_le hb.2.1 h4)
      · exact hno j' (x.1, z') h4 h5
    · have hjN : j ∈ N := by
        rcases h.objs _ _ h1 with ⟨b, z, hb, _⟩ | ⟨g1, _⟩
        · exact h.inN hb
        · exact g1
      rw [hβN j hjN] at hx
      exact hb.2.2 j o' x h1 hx
  have hNo : ∀ j o', O j = some o' → j ∈ N := fun j o' ho => by
    rcases h.objs _ _ ho with ⟨b, z, hb, _⟩ | ⟨g1, _⟩
    · exact h.inN hb
    · exact g1
  have hgood : ∀ b, (Imm ⟨okc, w, fun b => ∃ i x, (if i ∈ keysO Oi then β (F i) else none) = some x ∧ x.1 = b, fun _ => False, fun _ => none⟩ (lk Oo) β' w') b → (Imm E O β w b ∨ w.heap.size ≤ b ∨ ∃ i x, (if i ∈ keysO Oi then β (F i) else none) = some x ∧ x.1 = b) → Imm E (effs (effG F Oi Oo) O) β'' w' b := fun b hb hor => by
    refine ⟨?_, hb.2.1, fun j o' x ho hx => ?_⟩
    · rcases hor with h1 | h1 | ⟨i, x, hx, rfl⟩
      · exact h1.1
      · exact .inr (.inl (Nat.le_trans h.size h1))
      · obtain ⟨hm, hx⟩ := hβc i x hx
        obtain ⟨o, ho⟩ := keys_lk hm
        obtain ⟨b', z, hb', _, hor, _⟩ := h.objS (hi i o ho).2.1 hx
        rw [hx] at hb'; cases hb'
        exact .inr hor
    · rcases hO' j o' ho with ⟨k, o, h1, rfl, rfl⟩ | ⟨h1, h2, h3⟩
      · rw [hβF k (List.mem_append_right _ (lk_keys h1))] at hx
        exact hb.2.2 k o x h1 hx
      · rw [hβN j (hNo j o' h1)] at hx
        rcases hor with h4 | h4 | ⟨i, x', hx', rfl⟩
        · exact h4.2.2 j o' x h1 hx
        · obtain ⟨b', z, hb', hl, _⟩ := h.objS h1 hx
          rw [hx] at hb'; cases hb'
          exact Nat.ne_of_lt (Nat.lt_of_lt_of_le hl h4)
        · obtain ⟨hm, hx'⟩ := hβc i x' hx'
          obtain ⟨o, ho⟩ := keys_lk hm
          exact h.apart _ _ _ _ x x' h1 (hi i o ho).2.1 hx hx' (fun e => h3 i hm e.symm)
  have hORr : ∀ k o b z, lk Oo k = some o → OR w' (Imm ⟨okc, w, fun b => ∃ i x, (if i ∈ keysO Oi then β (F i) else none) = some x ∧ x.1 = b, fun _ => False, fun _ => none⟩ (lk Oo) β' w') β' b z o → OR w' (Imm E (effs (effG F Oi Oo) O) β'' w') β'' b z (o.ren F) := fun k o b z ho hor => by
    refine OR.ren (N := keysO Oi ++ keysO Oo) (fun i hi => hβF i (by simpa using hi)) o (hoN k o ho) ?_
    rcases hok2 with hk | ⟨_, hk⟩
    · refine OR.lasts ⟨fun b hb => hgood b hb ?_, fun _ _ => rfl⟩ (fun _ _ h => h) rfl hor
      rcases hb.1 with h1 | h1 | h1
      · exact .inl (hk b h1)
      · exact .inr (.inl h1)
      · exact .inr (.inr h1)
    · exact OR.flat (hk k o ho) hor
  have hRr : VV w' (Imm E (effs (effG F Oi Oo) O) β'' w') β'' (r.ren F) v := by
    refine VV.ren (N := keysO Oi ++ keysO Oo) (fun i hi => hβF i (by simpa using hi)) r v hrN ?_
    rcases hok2 with hk | ⟨hk, _⟩
    · refine VV.lasts ⟨fun b hb => hgood b hb ?_, fun _ _ => rfl⟩ (fun _ _ h => h) _ _ hv
      rcases hb.1 with h1 | h1 | h1
      · exact .inl (hk b h1)
      · exact .inr (.inl h1)
      · exact .inr (.inr h1)
    · exact VV.flat _ _ hk hv
  refine hQ β'' v w' ?_ hRr
  refine (h.next (w' := w') (N' := newG F Oi Oo ++ N) (O' := effs (effG F Oi Oo) O) (β' := β'') os tape output size (fun b hb hX => ?_) hβN (fun _ hm => List.mem_append_right _ hm) (fun j x hn h2 hx => ?_) (fun j hj => ?_) himm (fun j o' ho => ?_) (fun i j o o' x x' ho ho' hx hx' hne => ?_)).1
  · refine hsame b (Nat.lt_of_lt_of_le hb h.size) fun k x hk hx e => ?_
    obtain ⟨o, ho⟩ := keys_lk hk
    obtain ⟨b', z, hb', _, hor, _⟩ := h.objS (hi k o ho).2.1 hx
    rw [hx] at hb'; cases hb'
    rcases hor with h1 | h1
    · simp only at e; omega
    · exact hX (e ▸ h1)
  · simp only [β''] at hx
    split at hx
    · rename_i k hk
      obtain ⟨k1, k2, rfl⟩ := hfind j k hk
      rcases h2000 k k1 k2 h2 with h9 | h9
      · exact Nat.le_trans h.size (news k x h9 hx)
      · obtain ⟨o, ho⟩ := keys_lk k1
        rcases (hblk k o x ho (by rw [hβn k k1 k2]; exact hx)).2 with h4 | ⟨j', z', h4, h5⟩
        · exact Nat.le_trans h.size h4
        · exact h.news (F j') (x.1, z') (h9 j' h4) h5
    · exact absurd (h.inN hx) hn
  · simp only [List.mem_append, not_or] at hj
    simp only [β'']
    split
    · rename_i k hk
      obtain ⟨k1, k2, rfl⟩ := hfind j k hk
      exact absurd (List.mem_map.2 ⟨k, List.mem_filter.2 ⟨k1, by simpa using k2⟩, rfl⟩) hj.1
    · exact h.dom j hj.2
  · rcases hO' j o' ho with ⟨k, o, h1, rfl, rfl⟩ | ⟨h1, h2, h3⟩
    · right
      have hkk := hβF k (List.mem_append_right _ (lk_keys h1))
      rcases objs k o h1 with ⟨b, z, hb, g1, g2, g3⟩ | ⟨hn, e, rfl⟩
      · refine .inl ⟨b, z, by rw [hkk]; exact hb, g1, ?_, hORr k o b z h1 g3⟩
        rcases g2 with g2 | ⟨j', z', g2⟩
        · exact .inl (Nat.le_trans h.size g2)
        · obtain ⟨hm, g2⟩ := hβc j' _ g2
          obtain ⟨o2, ho2⟩ := keys_lk hm
          obtain ⟨b', z2, hb', _, hor, _⟩ := h.objS (hi j' o2 ho2).2.1 g2
          rw [g2] at hb'; cases hb'
          exact hor
      · refine .inr ⟨?_, by rw [hkk]; exact hn, e, rfl⟩
        by_cases hm : k ∈ keysO Oi
        · exact List.mem_append_right _ (hFi k hm)
        · exact List.mem_append_left _ (List.mem_map.2 ⟨k, List.mem_filter.2 ⟨lk_keys h1, by simpa using hm⟩, rfl⟩)
    · refine .inl ⟨h1, fun x hx => ?_⟩
      obtain ⟨b', z, hb', hl, _⟩ := h.objS h1 hx
      rw [hx] at hb'; cases hb'
      refine hsame _ hl fun k x hk hx' => ?_
      obtain ⟨o, ho⟩ := keys_lk hk
      exact h.apart _ _ _ _ x _ (hi k o ho).2.1 h1 hx' hx (h3 k hk)
  · have old : ∀ j o', O j = some o' → (∀ k ∈ keysO Oi, F k ≠ j) → ∀ k o x x', lk Oo k = some o → β'' (F k) = some x → β'' j = some x' → x.1 ≠ x'.1 := fun j o' h1 h3 k o x x' hk hx hx' => by
      rw [hβN j (hNo j o' h1)] at hx'
      obtain ⟨b', z, hb', hl, _⟩ := h.objS h1 hx'
      rw [hx'] at hb'; cases hb'
      rcases (hblk k o x hk hx).2 with h4 | ⟨j', z', h4, h5⟩
      · exact Nat.ne_of_gt (Nat.lt_of_lt_of_le hl h4)
      · obtain ⟨o2, ho2⟩ := keys_lk h4
        exact h.apart _ _ _ _ (x.1, z') _ (hi j' o2 ho2).2.1 h1 h5 hx' (h3 j' h4)
    rcases hO' i o ho with ⟨k, o1, h1, rfl, rfl⟩ | ⟨h1, h2, h3⟩
    · rcases hO' j o' ho' with ⟨l, o2, g1, rfl, rfl⟩ | ⟨g1, g2, g3⟩
      · rw [hβF k (List.mem_append_right _ (lk_keys h1))] at hx
        rw [hβF l (List.mem_append_right _ (lk_keys g1))] at hx'
        exact apart k l o1 o2 x x' h1 g1 hx hx' (fun e => hne (by rw [e]))
      · exact old j o' g1 g3 k o1 x x' h1 hx hx'
    · rcases hO' j o' ho' with ⟨l, o2, g1, rfl, rfl⟩ | ⟨g1, g2, g3⟩
      · exact Ne.symm (old i o h1 h3 l o2 x' x g1 hx' hx)
      · rw [hβN i (hNo i o h1)] at hx
        rw [hβN j (hNo j o' g1)] at hx'
        exact h.apart i j o o' x x' h1 g1 hx hx' hne
end
end Go.Tl
end
section
namespace Go.Tl
set_option linter.unusedVariables false
set_option linter.unusedSimpArgs false

mutual
def valT : T → Option Value
  | .int k n => some (.int k n)
  | .bool b => some (.bool b)
  | .str s => some (.string s)
  | .agg cs => (valTs cs).map fun l => .agg l.toArray
  | _ => none
def valTs : List T → Option (List Value)
  | [] => some []
  | t :: ts => match valT t, valTs ts with
    | some v, some vs => some (v :: vs)
    | _, _ => none
end
mutual
theorem valT_reads {w : World} {ok : Nat → Prop} : ∀ {t : T} {v u : Value}, VR w ok t v → valT t = some u → v = u
  | .int k n, v, u, h, hv | .bool b, v, u, h, hv | .str s, v, u, h, hv => by
    simp only [valT, Option.some.injEq] at hv; subst hv; simpa only [VR] using h
  | .agg cs, v, u, h, hv => by
    simp only [valT, Option.map_eq_some_iff] at hv
    obtain ⟨l, hl, rfl⟩ := hv
    simp only [VR] at h
    obtain ⟨vs, rfl, _, h⟩ := h
    have := valTs_reads h hl
    rw [← this]
  | .list .., _, _, _, hv | .nils, _, _, _, hv | .tup _, _, _, _, hv | .ptr _, _, _, _, hv | .pa .., _, _, _, hv | .nilp, _, _, _, hv | .fn .., _, _, _, hv | .rows .., _, _, _, hv | .zlist, _, _, _, hv | .nilf, _, _, _, hv | .nili, _, _, _, hv | .iface .., _, _, _, hv | .nilm, _, _, _, hv | .mapt .., _, _, _, hv | .undef, _, _, _, hv => by simp [valT] at hv
theorem valTs_reads {w : World} {ok : Nat → Prop} : ∀ {ts : List T} {vs us : List Value}, VL w ok ts vs → valTs ts = some us → vs = us
  | [], vs, us, h, hv => by
    simp only [valTs, Option.some.injEq] at hv; subst hv; simpa only [VL] using h
  | t :: ts, vs, us, h, hv => by
    simp only [VL] at h
    obtain ⟨x, xs, rfl, h1, h2⟩ := h
    simp only [valTs] at hv
    split at hv
    · rename_i v' vs' e1 e2
      cases hv
      rw [valT_reads h1 e1, valTs_reads h2 e2]
    · cases hv
end
mutual
theorem valT_inj : ∀ {t t' : T} {u : Value}, valT t = some u → valT t' = some u → t = t'
  | .int k n, t', u, h, h' => by
    simp only [valT, Option.some.injEq] at h; subst h
    cases t' <;> simp [valT] at h' <;> simp [h']
  | .bool b, t', u, h, h' => by
    simp only [valT, Option.some.injEq] at h; subst h
    cases t' <;> simp [valT] at h' <;> simp [h']
  | .str s, t', u, h, h' => by
    simp only [valT, Option.some.injEq] at h; subst h
    cases t' <;> simp [valT] at h' <;> simp [h']
  | .agg cs, t', u, h, h' => by
    simp only [valT, Option.map_eq_some_iff] at h
    obtain ⟨l, hl, rfl⟩ := h
    cases t' <;> simp only [valT, Option.some.injEq, reduceCtorEq] at h'
    rename_i cs'
    simp only [Option.map_eq_some_iff] at h'
    obtain ⟨l', hl', e⟩ := h'
    have e : l' = l := by simpa using e
    rw [e] at hl'
    rw [valTs_inj hl hl']
  | .list .., _, _, hv, _ | .nils, _, _, hv, _ | .tup _, _, _, hv, _ | .ptr _, _, _, hv, _ | .pa .., _, _, hv, _ | .nilp, _, _, hv, _ | .fn .., _, _, hv, _ | .rows .., _, _, hv, _ | .zlist, _, _, hv, _ | .nilf, _, _, hv, _ | .nili, _, _, hv, _ | .iface .., _, _, hv, _ | .nilm, _, _, hv, _ | .mapt .., _, _, hv, _ | .undef, _, _, hv, _ => by simp [valT] at hv
theorem valTs_inj : ∀ {ts ts' : List T} {us : List Value}, valTs ts = some us → valTs ts' = some us → ts = ts'
  | [], ts', us, h, h' => by
    simp only [valTs, Option.some.injEq] at h; subst h
    cases ts' with
    | nil => rfl
    | cons t r =>
      simp only [valTs] at h'
      split at h' <;> cases h'
  | t :: ts, ts', us, h, h' => by
    simp only [valTs] at h
    split at h
    · rename_i v vs e1 e2
      cases h
      cases ts' with
      | nil => simp only [valTs, Option.some.injEq] at h'; cases h'
      | cons t' r =>
        simp only [valTs] at h'
        split at h'
        · rename_i v' vs' e3 e4
          cases h'
          rw [valT_inj e1 e3, valTs_inj e2 e4]
        · cases h'
    · cases h
end
mutual
def keyEq : T → T → Bool
  | .int k a, .int k' b => decide (k = k') && decide (a = b)
  | .bool a, .bool b => decide (a = b)
  | .str a, .str b => decide (a = b)
  | .agg xs, .agg ys => keyEqs xs ys
  | _, _ => false
def keyEqs : List T → List T → Bool
  | [], [] => true
  | x :: xs, y :: ys => keyEq x y && keyEqs xs ys
  | _, _ => false
end
structure KeyRun (P : Program) (k : TypeId) (G : T → Prop) : Prop where
  eq : ∀ t t', G t → G t' → (keyEq t t' = true ↔ t = t')
  val : ∀ t, G t → ∃ v, valT t = some v
  check : ∀ (w : World) (em : Bool) (t : T) (v : Value), G t → valT t = some v → (Instr.checkKey em 10000 k v).run P w = .ok () w
  find : ∀ (w : World) (t : T) (v : Value) (ms : List MapEntry), G t → valT t = some v → (∀ m ∈ ms, ∃ x, G x ∧ valT x = some m.key) →
    ((Instr.findKey k v ms).run P w = .ok none w ∧ ∀ m ∈ ms, m.key ≠ v) ∨ ∃ j m, (Instr.findKey k v ms).run P w = .ok (some (j, m.val)) w ∧ ms[j]? = some m ∧ m.key = v ∧ ∀ i, i < j → ∀ m', ms[i]? = some m' → m'.key ≠ v
  stays : ∀ (w : World) (t : T) (v : Value), G t → valT t = some v → (Instr.keyThatStays v v).run P w = .ok v w
theorem findNow_first {d : TypeDesc} {k : Value} (hk : MapKept.IsKey d k) : ∀ (l : List MapEntry) (i : Nat), (∀ x ∈ l, MapKept.IsKey d x.key) →
    (Instr.findNow d k l i = some none ∧ ∀ x ∈ l, x.key ≠ k) ∨ ∃ j e, Instr.findNow d k l i = some (some (i + j, e.val)) ∧ l[j]? = some e ∧ e.key = k ∧ ∀ i', i' < j → ∀ m', l[i']? = some m' → m'.key ≠ k
  | [], _, _ => .inl ⟨rfl, by simp⟩
  | e :: es, i, h => by
    obtain ⟨r, hr, hiff⟩ := MapKept.sameNow_of_keys hk (h e (.head _))
    cases r with
    | true => exact .inr ⟨0, e, by simp [Instr.findNow, hr], rfl, (hiff.1 rfl).symm, fun i' hi => by omega⟩
    | false =>
      have hne : e.key ≠ k := fun q => by have := hiff.2 q.symm; cases this
      rcases findNow_first hk es (i + 1) (fun x hx => h x (.tail _ hx)) with ⟨h1, h2⟩ | ⟨j, e', h1, h2, h3, h4⟩
      · exact .inl ⟨by simp [Instr.findNow, hr, h1], fun x hx => by
          cases hx with
          | head => exact hne
          | tail _ hx => exact h2 x hx⟩
      · refine .inr ⟨j + 1, e', by simp [Instr.findNow, hr, h1]; omega, h2, h3, fun i' hi m' hm => ?_⟩
        cases i' with
        | zero => simp at hm; subst hm; exact hne
        | succ i' => exact h4 i' (by omega) m' (by simpa using hm)
def IntKey (q : IntKind) (t : T) : Prop := ∃ n, t = .int q n
theorem keyRun_int {P : Program} {k : TypeId} {q : IntKind} (hk : P.underlying k = some (.int q)) : KeyRun P k (IntKey q) where
  eq t t' ht ht' := by
    obtain ⟨n, rfl⟩ := ht
    obtain ⟨n', rfl⟩ := ht'
    simp [keyEq]
  val t ht := by obtain ⟨n, rfl⟩ := ht; exact ⟨_, rfl⟩
  check w em t v ht hv := by
    obtain ⟨n, rfl⟩ := ht
    simp only [valT, Option.some.injEq] at hv
    subst hv
    exact MapKept.run_checkKey hk (show MapKept.IsKey (.int q) (.int q n) from rfl) em 9999
  find w t v ms ht hv hms := by
    obtain ⟨n, rfl⟩ := ht
    simp only [valT, Option.some.injEq] at hv
    subst hv
    have hks : ∀ m ∈ ms, MapKept.IsKey (.int q) m.key := fun m hm => by
      obtain ⟨x, ⟨n', rfl⟩, hx⟩ := hms m hm
      simp only [valT, Option.some.injEq] at hx
      rw [← hx]; exact rfl
    rcases findNow_first (show MapKept.IsKey (.int q) (.int q n) from rfl) ms 0 hks with ⟨h1, h2⟩ | ⟨j, e, h1, h2, h3, h4⟩
    · exact .inl ⟨MapKept.run_findKey hk h1, h2⟩
    · exact .inr ⟨j, e, by simpa using MapKept.run_findKey hk h1, h2, h3, h4⟩
  stays w t v ht hv := by
    obtain ⟨n, rfl⟩ := ht
    simp only [valT, Option.some.injEq] at hv
    subst hv
    exact MapKept.run_keyThatStays (d := .int q) rfl

/-! ### keys of three numbers -/
def TriKey (t : T) : Prop := ∃ a b c : Int, t = .agg [.int .i64 a, .int .i64 b, .int .i64 c]
section
variable {P : Program} {k e : TypeId} (hu : P.underlying k = some (.array 3 e)) (he : P.underlying e = some (.int .i64)) (pe : P.plainKey e = true) (ce : P.cellsOf e = 1)
include hu he pe ce
theorem run_equal_tri (w : World) (a b c a' b' c' : Int) : (Op.equal k (.agg #[.int .i64 a, .int .i64 b, .int .i64 c]) (.agg #[.int .i64 a', .int .i64 b', .int .i64 c'])).run P w = .ok (a == a' && (b == b' && c == c')) w := by
  obtain ⟨ie, hie⟩ := info_of_underlying he
  have step : ∀ (d : Nat) (A B : Array Value) (i : Nat) (is : List Nat) (x y : Int), A[i]? = some (.int .i64 x) → B[i]? = some (.int .i64 y) → (Op.eqItems (d + 1) e 1 A B (i :: is)).run P w = if (x == y) = true then (Op.eqItems (d + 1) e 1 A B is).run P w else .ok false w := fun d A B i is x y hA hB => by
    have p1 : (part e A (i * 1)).run P w = .ok (.int .i64 x) w := run_part_plain w pe (by rw [Nat.mul_one]; exact hA)
    have p2 : (part e B (i * 1)).run P w = .ok (.int .i64 y) w := run_part_plain w pe (by rw [Nat.mul_one]; exact hB)
    simp only [Op.eqItems, Sem.run_bind, p1, p2, Result.andThen_ok, run_equalIn_int w d e .i64 .i64 x y he]
    cases x == y <;> simp
  have last : ∀ (d : Nat) (A B : Array Value), (Op.eqItems d e 1 A B []).run P w = .ok true w := fun d A B => by simp [Op.eqItems]
  show (Op.equalIn (9999 + 1) k _ _).run P w = _
  rw [run_equalIn_array w 9999 _ _ hu hie, ce, show List.range 3 = [0, 1, 2] from rfl, step 9998 _ _ 0 _ a a' rfl rfl, step 9998 _ _ 1 _ b b' rfl rfl, step 9998 _ _ 2 _ c c' rfl rfl, last]
  cases a == a' <;> cases b == b' <;> cases c == c' <;> rfl
theorem keyRun_tri : KeyRun P k TriKey where
  eq t t' ht ht' := by
    obtain ⟨a, b, c, rfl⟩ := ht
    obtain ⟨a', b', c', rfl⟩ := ht'
    simp [keyEq, keyEqs]
  val t ht := by obtain ⟨a, b, c, rfl⟩ := ht; exact ⟨.agg #[.int .i64 a, .int .i64 b, .int .i64 c], rfl⟩
  check w em t v ht hv := by
    obtain ⟨a, b, c, rfl⟩ := ht
    have hv : v = .agg #[.int .i64 a, .int .i64 b, .int .i64 c] := (Option.some.inj hv).symm
    subst hv
    obtain ⟨ie, hie⟩ := info_of_underlying he
    have p (i : Nat) (v : Value) (hv : (#[Value.int .i64 a, .int .i64 b, .int .i64 c])[i]? = some v) : (part e #[.int .i64 a, .int .i64 b, .int .i64 c] (i * 1)).run P w = .ok v w := run_part_plain w pe (by rw [Nat.mul_one]; exact hv)
    have ck' : ∀ (d : Nat) (x : Int), (Instr.checkKey em (d + 1) e (.int .i64 x)).run P w = .ok () w := fun d x => by
      simp [Instr.checkKey, run_underlying he]
    have ck : ∀ x : Int, (Instr.checkKey em 9999 e (.int .i64 x)).run P w = .ok () w := ck' 9998
    show (Instr.checkKey em (9999 + 1) k _).run P w = _
    generalize 9999 = d at ck ⊢
    rw [Instr.checkKey]
    simp only [Sem.run_bind, run_underlying hu, Result.andThen_ok]
    simp only [Std.Legacy.Range.forIn_eq_forIn_range', Std.Legacy.Range.size, Nat.sub_zero, Nat.add_one_sub_one, Nat.div_one]
    rw [show List.range' 0 3 = [0, 1, 2] from rfl]
    simp only [List.forIn_cons, List.forIn_nil, Sem.run_bind, run_sizeOf w hie, ce, Result.andThen_ok, p 0 (.int .i64 a) rfl, p 1 (.int .i64 b) rfl, p 2 (.int .i64 c) rfl, ck, Sem.run_pure]
  find w t v ms ht hv hms := by
    obtain ⟨a, b, c, rfl⟩ := ht
    have hv : v = .agg #[.int .i64 a, .int .i64 b, .int .i64 c] := (Option.some.inj hv).symm
    subst hv
    rw [run_findKey_eq w (by rw [hu])]
    have key : ∀ (ms : List MapEntry) (i : Nat), (∀ m ∈ ms, ∃ x, TriKey x ∧ valT x = some m.key) →
        ((Instr.findAsking k (.agg #[.int .i64 a, .int .i64 b, .int .i64 c]) ms i).run P w = .ok none w ∧ ∀ m ∈ ms, m.key ≠ .agg #[.int .i64 a, .int .i64 b, .int .i64 c]) ∨
        ∃ j m, (Instr.findAsking k (.agg #[.int .i64 a, .int .i64 b, .int .i64 c]) ms i).run P w = .ok (some (i + j, m.val)) w ∧ ms[j]? = some m ∧ m.key = .agg #[.int .i64 a, .int .i64 b, .int .i64 c] ∧ ∀ i', i' < j → ∀ m', ms[i']? = some m' → m'.key ≠ .agg #[.int .i64 a, .int .i64 b, .int .i64 c] := by
      intro ms
      induction ms with
      | nil => intro i _; exact .inl ⟨by simp [Instr.findAsking], by simp⟩
      | cons m ms ih =>
        intro i hall
        obtain ⟨x, ⟨a', b', c', rfl⟩, hx⟩ := hall m (by simp)
        have hm : m.key = .agg #[.int .i64 a', .int .i64 b', .int .i64 c'] := (Option.some.inj hx).symm
        have hq := run_equal_tri hu he pe ce w a b c a' b' c'
        rw [← hm] at hq
        cases hr : (a == a' && (b == b' && c == c')) with
        | true =>
          rw [hr] at hq
          simp only [Bool.and_eq_true, beq_iff_eq] at hr
          obtain ⟨rfl, rfl, rfl⟩ := hr
          exact .inr ⟨0, m, by simp [Instr.findAsking, hq], rfl, hm, fun i' hi => by omega⟩
        | false =>
          rw [hr] at hq
          have hne : m.key ≠ .agg #[.int .i64 a, .int .i64 b, .int .i64 c] := fun e => by
            rw [hm] at e
            simp at e
            obtain ⟨rfl, rfl, rfl⟩ := e
            simp at hr
          rcases ih (i + 1) (fun y hy => hall y (by simp [hy])) with ⟨h1, h2⟩ | ⟨j, m', h1, h2, h3, h4⟩
          · refine .inl ⟨by simp [Instr.findAsking, hq, h1], fun y hy => ?_⟩
            rcases List.mem_cons.1 hy with rfl | hy
            · exact hne
            · exact h2 y hy
          · refine .inr ⟨j + 1, m', by simp [Instr.findAsking, hq, h1, Nat.add_assoc, Nat.add_comm 1 j], by simpa using h2, h3, fun i' hi y hy => ?_⟩
            cases i' with
            | zero => simp at hy; subst hy; exact hne
            | succ i' => exact h4 i' (by omega) y (by simpa using hy)
    rcases key ms 0 hms with h | ⟨j, m, h1, h2⟩
    · exact .inl h
    · exact .inr ⟨j, m, by simpa using h1, h2⟩
  stays w t v ht hv := by
    obtain ⟨a, b, c, rfl⟩ := ht
    have hv : v = .agg #[.int .i64 a, .int .i64 b, .int .i64 c] := (Option.some.inj hv).symm
    subst hv
    have : Instr.sameBits 10000 (.agg #[.int .i64 a, .int .i64 b, .int .i64 c]) (.agg #[.int .i64 a, .int .i64 b, .int .i64 c]) = true := by
      show Instr.sameBits (9999 + 1) _ _ = true
      simp [Instr.sameBits]
    simp [Instr.keyThatStays, this]
end

def lookT : List (T × T) → T → Option T
  | [], _ => none
  | (a, b) :: r, k => if keyEq a k = true then some b else lookT r k
def putT : List (T × T) → T → T → List (T × T)
  | [], k, v => [(k, v)]
  | (a, b) :: r, k, v => if keyEq a k = true then (k, v) :: r else (a, b) :: putT r k v
def lookR (ok : Bool) (z : T) : Option T → T
  | some x => if ok then .tup [x, .bool true] else x
  | none => if ok then .tup [z, .bool false] else z

section
variable {P : Program} {E : Env} {β : Names} {N : List Nat} {S : Nat → Option V} {O : Nat → Option Obj} {a : Act} {w : World} {ok : Nat → Prop}

theorem VLP.keys {G : T → Prop} (hG : ∀ t, G t → ∃ v, valT t = some v) : ∀ {es : List (T × T)} {ms : List MapEntry}, VLP w ok es ms → (∀ e ∈ es, G e.1) → ∀ m ∈ ms, ∃ x, G x ∧ valT x = some m.key
  | [], ms, h, _, m, hm => by simp only [VLP] at h; subst h; cases hm
  | (k, x) :: es, ms, h, hg, m, hm => by
    simp only [VLP] at h
    obtain ⟨m0, r, rfl, h1, h2, h3⟩ := h
    rcases List.mem_cons.1 hm with rfl | hm
    · have hk : G k := hg (k, x) List.mem_cons_self
      obtain ⟨v, hv⟩ := hG k hk
      exact ⟨k, hk, by rw [valT_reads h1 hv]; exact hv⟩
    · exact VLP.keys hG h3 (fun e he => hg e (List.mem_cons_of_mem _ he)) m hm
theorem VLP.key_ne {G : T → Prop} (hG : ∀ t, G t → ∃ v, valT t = some v) {k t : T} {u v : Value} (h : VR w ok k u) (hk : G k) (ht : valT t = some v) : u = v ↔ k = t := by
  obtain ⟨v', hv'⟩ := hG k hk
  have e := valT_reads h hv'
  subst e
  constructor
  · rintro rfl; exact valT_inj hv' ht
  · rintro rfl; rw [hv'] at ht; exact Option.some.inj ht
theorem lookT_none {G : T → Prop} (hG : ∀ t, G t → ∃ v, valT t = some v) (hE : ∀ t t', G t → G t' → (keyEq t t' = true ↔ t = t')) {t : T} {v : Value} (ht : valT t = some v) (hgt : G t) : ∀ {es : List (T × T)} {ms : List MapEntry}, VLP w ok es ms → (∀ e ∈ es, G e.1) → (∀ m ∈ ms, m.key ≠ v) → lookT es t = none ∧ ∀ y, putT es t y = es ++ [(t, y)]
  | [], ms, h, _, _ => ⟨rfl, fun y => rfl⟩
  | (k, x) :: es, ms, h, hg, hn => by
    simp only [VLP] at h
    obtain ⟨m0, r, rfl, h1, h2, h3⟩ := h
    have hk : G k := hg (k, x) List.mem_cons_self
    have hne : ¬ keyEq k t = true := fun e => hn m0 List.mem_cons_self ((VLP.key_ne hG h1 hk ht).2 ((hE _ _ hk hgt).1 e))
    obtain ⟨i1, i2⟩ := lookT_none hG hE ht hgt h3 (fun e he => hg e (List.mem_cons_of_mem _ he)) (fun m hm => hn m (List.mem_cons_of_mem _ hm))
    exact ⟨by rw [lookT, if_neg hne]; exact i1, fun y => by rw [putT, if_neg hne, i2]; rfl⟩
theorem lookT_some {G : T → Prop} (hG : ∀ t, G t → ∃ v, valT t = some v) (hE : ∀ t t', G t → G t' → (keyEq t t' = true ↔ t = t')) {t : T} {v : Value} (ht : valT t = some v) (hgt : G t) : ∀ {es : List (T × T)} {ms : List MapEntry} {j : Nat} {m : MapEntry}, VLP w ok es ms → (∀ e ∈ es, G e.1) → ms[j]? = some m → m.key = v → (∀ i, i < j → ∀ m', ms[i]? = some m' → m'.key ≠ v) →
    ∃ x, lookT es t = some x ∧ VR w ok x m.val ∧ (∀ y, putT es t y = es.set j (t, y)) ∧ j < es.length
  | [], ms, j, m, h, _, hj, _, _ => by simp only [VLP] at h; subst h; simp at hj
  | (k, x) :: es, ms, j, m, h, hg, hj, hm, hf => by
    simp only [VLP] at h
    obtain ⟨m0, r, rfl, h1, h2, h3⟩ := h
    have hk : G k := hg (k, x) List.mem_cons_self
    cases j with
    | zero =>
      simp at hj
      subst hj
      have he : keyEq k t = true := (hE _ _ hk hgt).2 ((VLP.key_ne hG h1 hk ht).1 hm)
      exact ⟨x, by rw [lookT, if_pos he], h2, fun y => by rw [putT, if_pos he]; rfl, by simp⟩
    | succ j =>
      have hne : ¬ keyEq k t = true := fun e => hf 0 (by omega) m0 rfl ((VLP.key_ne hG h1 hk ht).2 ((hE _ _ hk hgt).1 e))
      obtain ⟨y, i1, i2, i3, i4⟩ := lookT_some hG hE ht hgt h3 (fun e he => hg e (List.mem_cons_of_mem _ he)) (j := j) (m := m) (by simpa using hj) hm (fun i hi m' hm' => hf (i + 1) (by omega) m' (by simpa using hm'))
      exact ⟨y, by rw [lookT, if_neg hne]; exact i1, i2, fun z => by rw [putT, if_neg hne, i3]; rfl, by simpa using i4⟩
theorem VLP.append : ∀ {es es' : List (T × T)} {ms ms' : List MapEntry}, VLP w ok es ms → VLP w ok es' ms' → VLP w ok (es ++ es') (ms ++ ms')
  | [], es', ms, ms', h, h' => by simp only [VLP] at h; subst h; simpa using h'
  | (k, x) :: es, es', ms, ms', h, h' => by
    simp only [VLP, List.cons_append] at h ⊢
    obtain ⟨m, r, rfl, h1, h2, h3⟩ := h
    exact ⟨m, r ++ ms', rfl, h1, h2, VLP.append h3 h'⟩
theorem VLP.set : ∀ {es : List (T × T)} {ms : List MapEntry} {j : Nat} {e : T × T} {m : MapEntry}, VLP w ok es ms → VR w ok e.1 m.key → VR w ok e.2 m.val → VLP w ok (es.set j e) (ms.set j m)
  | [], ms, j, e, m, h, _, _ => by simp only [VLP] at h; subst h; simp [VLP]
  | (k, x) :: es, ms, j, e, m, h, h1, h2 => by
    simp only [VLP] at h
    obtain ⟨m0, r, rfl, g1, g2, g3⟩ := h
    cases j with
    | zero => simp only [List.set_cons_zero, VLP]; exact ⟨m, r, rfl, h1, h2, g3⟩
    | succ j => simp only [List.set_cons_succ, VLP]; exact ⟨m0, r.set j m, rfl, g1, g2, VLP.set g3 h1 h2⟩

theorem does_makeMap (h : R E β N S O a w) {t : TypeId} {j : Nat} (hj : j ∉ N) {p : Prop} : Does P E N S O a (Instr.makeMap t none) w ⟨p, .mapr j, [(j, some (.map []))], [j]⟩ := by
  obtain ⟨h1, h2⟩ := h.allocObj j 0 hj (.map #[] 0) (.map []) (by
    simp only [OR]
    exact ⟨#[], 0, heap_push_new _ _, by simp only [VLP], by simp⟩)
  refine ⟨.map (some w.heap.size), _, _, ?_, h1, by simp only [VV]; exact ⟨_, _, upd_same _ _ _, rfl⟩⟩
  rfl
def zeroT (y : Ty) : T := if y.k.agg then .agg y.zero else y.zero.headD .undef
theorem run_zero {e : TypeId} {y : Ty} (hy : chkTy P e y = true) (w : World) (ok : Nat → Prop) : ∃ z, (zeroValue e).run P w = .ok z w ∧ VR w ok (zeroT y) z := by
  obtain ⟨i, z, hi, _, _, hz, hzs, _, h1, h2⟩ := chkTy_info hy
  refine ⟨z, by simp [zeroValue, typeInfo, hi, hz], ?_⟩
  unfold zeroT
  have hr := chkVs_reads (w := w) (ok := ok) hzs
  cases ha : y.k.agg with
  | true =>
    obtain ⟨cs, rfl⟩ := h1 ha
    rw [if_pos rfl]
    simp only [VR]
    exact ⟨cs, rfl, chkVs_ones hzs, hr⟩
  | false =>
    rw [h2 ha] at hr
    rw [if_neg (by decide)]
    cases hzz : y.zero with
    | nil => rw [hzz] at hr; simp [VL] at hr
    | cons t r =>
      rw [hzz] at hr
      simp only [VL] at hr
      obtain ⟨u, us, he, hu, _⟩ := hr
      have : z = u := by simpa using (List.cons.inj (by simpa using he)).1
      subst this
      exact hu
theorem run_lookup (h : R E β N S O a w) {t k e : TypeId} {y ye : Ty} (hy : chkTy P t y = true) (hk : y.k = .map k e) (hye : chkTy P e ye = true) {G : T → Prop} (K : KeyRun P k G)
    {i : Nat} {es : List (T × T)} (hO : O i = some (.map es)) (hG : ∀ x ∈ es, G x.1) {kt : T} (hkt : G kt) {xv kv : Value} (hx : VV w (Imm E O β w) β (.mapr i) xv) (hkv : VR w (Imm E O β w) kt kv) (c : Bool) :
    ∃ u, (Instr.lookup t xv kv c).run P w = .ok u w ∧ VR w (Imm E O β w) (lookR c (zeroT ye) (lookT es kt)) u := by
  have hc := chkTy_kind hy
  rw [hk] at hc
  have hu := chkK_map hc
  simp only [VV] at hx
  obtain ⟨b, z0, hb, rfl⟩ := hx
  obtain ⟨b2, z2, hb2, hlt, _, hor⟩ := h.objS hO hb
  rw [hb] at hb2; cases hb2
  simp only [OR] at hor
  obtain ⟨ms, clock, hm, hv, hborn⟩ := hor
  obtain ⟨v, hval⟩ := K.val kt hkt
  have := valT_reads hkv hval
  subst this
  have hkeys := VLP.keys K.val hv hG
  have hck := fun em => K.check w em kt kv hkt hval
  obtain ⟨zv, hz1, hz2⟩ := run_zero (P := P) hye w (Imm E O β w)
  rcases K.find w kt kv ms.toList hkt hval hkeys with ⟨f1, f2⟩ | ⟨j, m, f1, f2, f3, f4⟩
  · refine ⟨if c then .tuple #[zv, .bool false] else zv, ?_, ?_⟩
    · simp [Instr.lookup, run_underlying hu, MapKept.run_getObj_map hm, hck, f1, hz1, Result.andThen]
    · rw [(lookT_none K.val K.eq hval hkt hv hG f2).1, lookR]
      cases c with
      | false => exact hz2
      | true =>
        simp only [if_true, VR, VL]
        exact ⟨_, rfl, zv, [.bool false], rfl, hz2, .bool false, [], rfl, rfl, rfl⟩
  · obtain ⟨x, g1, g2, g3, g4⟩ := lookT_some K.val K.eq hval hkt hv hG f2 f3 f4
    refine ⟨if c then .tuple #[m.val, .bool true] else m.val, ?_, ?_⟩
    · simp [Instr.lookup, run_underlying hu, MapKept.run_getObj_map hm, hck, f1, Result.andThen]
    · rw [g1, lookR]
      cases c with
      | false => exact g2
      | true =>
        simp only [if_true, VR, VL]
        exact ⟨_, rfl, m.val, [.bool true], rfl, g2, .bool true, [], rfl, rfl, rfl⟩
theorem does_mapUpdate (h : R E β N S O a w) {t k e : TypeId} {y : Ty} (hy : chkTy P t y = true) (hk : y.k = .map k e) {G : T → Prop} (K : KeyRun P k G)
    {i : Nat} {es : List (T × T)} (hO : O i = some (.map es)) (hG : ∀ x ∈ es, G x.1) {kt vt : T} (hkt : G kt) {xv kv vv : Value} (hx : VV w (Imm E O β w) β (.mapr i) xv) (hkv : VR w (Imm E O β w) kt kv) (hvv : VR w (Imm E O β w) vt vv) :
    ∃ w', (Instr.mapUpdate t xv kv vv).run P w = .ok () w' ∧ R E β N S (upd O i (some (.map (putT es kt vt)))) a w' := by
  have hc := chkTy_kind hy
  rw [hk] at hc
  have hu := chkK_map hc
  simp only [VV] at hx
  obtain ⟨b, z0, hb, rfl⟩ := hx
  obtain ⟨b2, z2, hb2, hlt, hbx, hor⟩ := h.objS hO hb
  rw [hb] at hb2; cases hb2
  simp only [OR] at hor
  obtain ⟨ms, clock, hm, hv, hborn⟩ := hor
  obtain ⟨v, hval⟩ := K.val kt hkt
  have := valT_reads hkv hval
  subst this
  have hkeys := VLP.keys K.val hv hG
  have hck := fun em => K.check w em kt kv hkt hval
  have hst := K.stays w kt kv hkt hval
  have fin : ∀ (ms' : Array MapEntry) (clock' : Nat), (Instr.mapUpdate t (.map (some b)) kv vv).run P w = .ok () { w with heap := w.heap.setIfInBounds b (.map ms' clock') } →
      VLP w (Imm E O β w) (putT es kt vt) ms'.toList → (∀ m ∈ ms'.toList, m.born < clock') →
      ∃ w', (Instr.mapUpdate t (.map (some b)) kv vv).run P w = .ok () w' ∧ R E β N S (upd O i (some (.map (putT es kt vt)))) a w' := by
    intro ms' clock' hrun hvl hbo
    obtain ⟨q1, q2⟩ := MapKept.heap_set (o' := .map ms' clock') hm
    have hl : Lasts w (Imm E O β w) { w with heap := w.heap.setIfInBounds b (.map ms' clock') } (Imm E O β w) := ⟨fun _ h => h, fun c hc => q2 c (fun e => hc.2.2 i _ _ hO hb (by simp [e]))⟩
    refine ⟨_, hrun, (h.write (w' := { w with heap := w.heap.setIfInBounds b (.map ms' clock') }) i b z0 _ (.map (putT es kt vt)) hO hb rfl rfl rfl (by simp) q2 ?_).1⟩
    simp only [OR]
    exact ⟨ms', clock', q1, VLP.lasts hl _ _ hvl, hbo⟩
  rcases K.find w kt kv ms.toList hkt hval hkeys with ⟨f1, f2⟩ | ⟨j, m, f1, f2, f3, f4⟩
  · refine fin (ms.push ⟨kv, vv, clock⟩) (clock + 1) ?_ ?_ ?_
    · simp [Instr.mapUpdate, run_underlying hu, MapKept.run_getObj_map hm, hck, f1, MapKept.run_setObj_map _ hm, Result.andThen]
    · rw [(lookT_none K.val K.eq hval hkt hv hG f2).2, Array.toList_push]
      exact VLP.append hv (by simp only [VLP]; exact ⟨_, [], rfl, hkv, hvv, rfl⟩)
    · intro m hm'
      rw [Array.toList_push] at hm'
      rcases List.mem_append.1 hm' with h1 | h1
      · exact Nat.lt_succ_of_lt (hborn m h1)
      · simp at h1; subst h1; exact Nat.lt_succ_self _
  · obtain ⟨x, g1, g2, g3, g4⟩ := lookT_some K.val K.eq hval hkt hv hG f2 f3 f4
    have hj : ms[j]? = some m := by simpa using f2
    have hmod : (ms.modify j fun e => { e with key := kv, val := vv }).toList = ms.toList.set j { m with key := kv, val := vv } := by
      rw [Array.toList_modify]
      have hlt : j < ms.toList.length := (List.getElem?_eq_some_iff.1 f2).1
      exact ChangeMaps.modify_eq_set _ _ _ _ f2
    refine fin (ms.modify j fun e => { e with key := kv, val := vv }) clock ?_ ?_ ?_
    · simp [Instr.mapUpdate, run_underlying hu, MapKept.run_getObj_map hm, hck, f1, hj, f3, hst, MapKept.run_setObj_map _ hm, Result.andThen]
    · rw [hmod, g3]
      exact VLP.set hv hkv hvv
    · intro m' hm'
      rw [hmod] at hm'
      rcases List.mem_or_eq_of_mem_set hm' with h1 | h1
      · exact hborn m' h1
      · subst h1; exact hborn m (List.mem_of_getElem? f2)
theorem run_index1 {t e : TypeId} {y ye : Ty} (hy : chkTy P t y = true) {len : Nat} (hk : y.k = .array len e 1 false) (hye : chkTy P e ye = true) {q : IntKind} (hq : ye.k = .int q) {kx : IntKind} {n : Int} {cs : List T} (hp : 0 ≤ n ∧ n < len ∧ n.toNat < cs.length)
    {v : Value} (hv : VR w ok (.agg cs) v) : ∃ u, (Instr.index t v (.int kx n)).run P w = .ok u w ∧ VR w ok (cs.getD n.toNat .undef) u := by
  have hc := chkTy_kind hy
  rw [hk] at hc
  have hce := chkTy_kind hye
  rw [hq] at hce
  have hue := chkK_int hce
  obtain ⟨hu, h3, hg⟩ := chkK_array hc
  obtain ⟨ifo, hi, his⟩ : ∃ i, P.info? e = some i ∧ i.size = 1 := by
    unfold sizeP at h3
    cases hi : P.info? e with
    | none => simp [hi] at h3
    | some i => exact ⟨i, rfl, by simpa [hi] using h3⟩
  simp only [VR] at hv
  obtain ⟨vs, rfl, h1, h2⟩ := hv
  have hag : (isAgg e).run P w = .ok false w := by simp [isAgg, run_underlying hue]
  obtain ⟨u, g1, g2⟩ := VL.get h2 n.toNat (cs.getD n.toNat .undef) (by rw [List.getD_eq_getElem?_getD, List.getElem?_eq_getElem hp.2.2]; rfl)
  refine ⟨u, ?_, g2⟩
  have g3 : vs[n.toNat]? = some u := by simpa using g1
  simp [Instr.index, asIntOf, run_underlying hu, hp.1, hp.2.1, part, hag, sizeOf, typeInfo, hi, his, g3]
end
end Go.Tl
end
section
namespace Go.Tl
set_option linter.unusedVariables false
set_option linter.unusedSimpArgs false
def bints (s : ByteArray) : List Int := s.data.toList.map fun b => (b.toNat : Int)
def bstr (l : List Int) : ByteArray := ⟨(l.map fun n => UInt8.ofNat n.toNat).toArray⟩
@[simp] theorem len_bints (s : ByteArray) : (bints s).length = s.size := by unfold bints; rw [List.length_map, Array.length_toList]; rfl
section
variable {P : Program} {E : Env} {β : Names} {N : List Nat} {S : Nat → Option V} {O : Nat → Option Obj} {a : Act} {w : World}
theorem bytesWorld_eq (w : World) (e : TypeId) (s : ByteArray) : Lib.bytesWorld w e s = w.drew.alloc (.cells (Lib.bytesCells w e s) e ((Lib.bytesCells w e s).size, (Lib.bytesCells w e s).size + 1)) := by
  unfold Lib.bytesWorld World.freeze
  simp only [World.alloc, World.drew, Nat.one_ne_zero, if_false]
  congr 1
  apply Array.ext_getElem?
  intro i
  rw [Array.getElem?_modify, Array.getElem?_push, Array.getElem?_push]
  by_cases hi : i = w.heap.size
  · subst hi; simp
  · have : ¬ (w.heap.size = i) := fun e => hi e.symm
    simp [hi, this]
theorem VL_bytes {w : World} {ok : Nat → Prop} : ∀ (l : List Int), VL w ok (l.map (T.int .u8)) (l.map (Value.int .u8))
  | [] => by simp only [List.map_nil, VL]
  | n :: l => by simp only [List.map_cons, VL]; exact ⟨_, _, rfl, by simp only [VR], VL_bytes l⟩
theorem VL_bytes_inv {w : World} {ok : Nat → Prop} : ∀ (l : List Int) (vs : List Value), VL w ok (l.map (T.int .u8)) vs → vs = l.map (Value.int .u8)
  | [], vs, h => by simpa only [List.map_nil, VL] using h
  | n :: l, vs, h => by
    simp only [List.map_cons, VL] at h
    obtain ⟨u, us, rfl, hu, hr⟩ := h
    simp only [VR] at hu
    rw [List.map_cons, hu, VL_bytes_inv l us hr]
theorem does_s2b (h : R E β N S O a w) {sT dT e : TypeId} {ys yd ye : Ty} {bytes : Nat} (hs : chkTy P sT ys = true) (hks : ys.k = .string) (hd : chkTy P dT yd = true) (hkd : yd.k = .slice e 1 bytes)
    (he : chkTy P e ye = true) (hke : ye.k = .int .u8) {x : ByteArray} (hx : x.size ≤ maxLen) {j : Nat} (hj : j ∉ N) {p : Prop} :
    Does P E N S O a (convert sT dT (.string x)) w ⟨p, .own j 1 x.size, [(j, some (.cells (e + 1048576) ((bints x).map (T.int .u8))))], [j]⟩ := by
  have hcs := chkTy_kind hs
  have hcd := chkTy_kind hd
  have hce := chkTy_kind he
  rw [hks] at hcs; rw [hkd] at hcd; rw [hke] at hce
  have hrun := Lib.run_convert_string_bytes (P := P) w sT dT e x (chkK_string hcs) (chkK_slice hcd).1 (chkK_int hce)
  rw [bytesWorld_eq] at hrun
  have hdr := h.drawn (w.drawn + 1)
  have hsz : (Lib.bytesCells w e x).size = grownCap w x.size 0 e := by
    have := grownCap_ge w x.size 0 e
    simp [Lib.bytesCells]
    show x.data.size + _ = _
    have e1 : x.data.size = x.size := rfl
    omega
  have hpre : (Lib.bytesCells w e x).toList = (bints x).map (Value.int .u8) ++ List.replicate (grownCap w x.size 0 e - x.size) (.int .u8 0) := by
    simp [Lib.bytesCells, bints]
  obtain ⟨h1, h2⟩ := R.allocObj (w := w.drew) hdr j (Lib.bytesCells w e x).size hj (.cells (Lib.bytesCells w e x) e ((Lib.bytesCells w e x).size, (Lib.bytesCells w e x).size + 1)) (.cells (e + 1048576) ((bints x).map (T.int .u8))) (by
    simp only [OR]
    refine ⟨_, _, _, ?_, rfl, hpre, fun u hu => ?_, VL_bytes _⟩
    · rw [bk_mk]; exact heap_push_new _ _
    · obtain ⟨n, _, rfl⟩ := List.mem_map.1 hu; rfl)
  refine ⟨_, _, _, hrun, h1, ?_⟩
  simp only [VV]
  exact .inl ⟨_, _, grownCap w x.size 0 e, upd_same _ _ _, rfl, by rw [hsz, Nat.mul_one], grownCap_ge _ _ _ _, grownCap_le_maxLen _ _ _ _ hx⟩
theorem bstr_fold : ∀ (l : List Int) (s : ByteArray), l.foldl (fun r n => r.push (UInt8.ofNat n.toNat)) s = ⟨s.data ++ (l.map fun n => UInt8.ofNat n.toNat).toArray⟩
  | [], s => by simp
  | n :: l, s => by
    rw [List.foldl_cons, bstr_fold l]
    congr 1
    apply Array.ext'
    simp [ByteArray.push]
theorem run_b2s {sT dT e : TypeId} {ys yd ye : Ty} {bytes : Nat} (hs : chkTy P sT ys = true) (hks : ys.k = .slice e 1 bytes) (hd : chkTy P dT yd = true) (hkd : yd.k = .string)
    (he : chkTy P e ye = true) (hke : ye.k = .int .u8) {l : List Int} {v : Value} {m : Nat} (hsrc : Src w v m (l.map (Value.int .u8))) (hl : l.length = m) :
    (convert sT dT v).run P w = .ok (.string (bstr l)) w := by
  have hcs := chkTy_kind hs
  have hcd := chkTy_kind hd
  have hce := chkTy_kind he
  rw [hks] at hcs; rw [hkd] at hcd; rw [hke] at hce
  obtain ⟨A, c, rfl, _, _, hA⟩ := hsrc
  rw [run_convert_bytes_string w sT dT e A m c (chkK_slice hcs).1 (chkK_int hce) (chkK_string hcd)]
  cases A with
  | none =>
    rcases hA with ⟨rfl, h0⟩ | ⟨b, o, hbo, _⟩
    · have : l = [] := by simpa using h0
      subst this
      rfl
    · cases hbo
  | some ad =>
    have hcell : ∀ j u, (l.map (Value.int .u8))[j]? = some u → w.cell? (ad.add j) = some u := by
      rcases hA with ⟨rfl, h0⟩ | ⟨b, o, hbo, hc⟩
      · intro j u hj; rw [h0] at hj; simp at hj
      · cases hbo
        intro j u hj
        rw [Addr.add_mid]
        exact hc j u hj
    have hl2 := run_loadCells_list (P := P) w ad (l.map (Value.int .u8)) hcell
    rw [List.length_map, hl] at hl2
    rw [run_bytesToString w ad m c l hl2, bstr_fold]
    congr 2
    apply ByteArray.ext
    apply Array.ext'
    simp [bstr]
end
end Go.Tl
end
section
namespace Go.Tl
set_option linter.unusedVariables false
set_option linter.unusedSimpArgs false
section
variable {P : Program} {E : Env} {β : Names} {N : List Nat} {S : Nat → Option V} {O : Nat → Option Obj} {a : Act} {w : World}
def OptI (v : Option Value) (n : Option Int) : Prop := (v = none ∧ n = none) ∨ ∃ k i, v = some (.int k i) ∧ n = some i
theorem run_bounds {lo hi : Option Value} {l h : Option Int} (hl : OptI lo l) (hh : OptI hi h) {b : Bool} {len cap : Nat} (h1 : 0 ≤ l.getD 0) (h2 : l.getD 0 ≤ h.getD len) (h3 : h.getD len ≤ cap) :
    (Instr.sliceBounds b len cap lo hi none).run P w = .ok ((l.getD 0).toNat, (h.getD len).toNat, cap) w := by
  rcases hl with ⟨rfl, rfl⟩ | ⟨k, i, rfl, rfl⟩ <;> rcases hh with ⟨rfl, rfl⟩ | ⟨k', i', rfl, rfl⟩ <;> simp only [Option.getD_none, Option.getD_some] at h1 h2 h3 ⊢
  · simp [Instr.sliceBounds]
  · simp [Instr.sliceBounds, run_sliceBound (P := P) w _ _ _ _ (show (0 : Int) ≤ i' by omega) h3]
  · have : (i : Int) ≤ ((len : Nat) : Int) := h2
    simp [Instr.sliceBounds, run_sliceBound (P := P) w _ _ _ _ h1 this]
  · have e : (i'.toNat : Int) = i' := Int.toNat_of_nonneg (by omega)
    have h2' : i ≤ ((i'.toNat : Nat) : Int) := by omega
    simp [Instr.sliceBounds, run_sliceBound (P := P) w _ _ _ _ (show (0 : Int) ≤ i' by omega) h3, run_sliceBound (P := P) w _ _ _ _ h1 h2']
theorem does_appendF (h : R E β N S O a w) {t e ty : TypeId} {y ye : Ty} {sz bytes : Nat} (hy : chkTy P t y = true) (hk : y.k = .slice e sz bytes) (hye : chkTy P e ye = true) (hsz : 0 < sz)
    {i n : Nat} {cs ts : List T} (hO : O i = some (.cells e cs)) (hcs : cs.length = n * sz) {v vx : Value} (hv : VV w (Imm E O β w) β (.own i sz n) v)
    {m : Nat} {news : List Value} (hsrc : Src w vx m news) (hl : VL w (Imm E O β w) ts news) (h1 : ∀ u ∈ news, u.oneCell' = true) (hlen : ts.length = m * sz)
    (hb : (n + m) * bytes ≤ 140737488355328 ∧ n + m ≤ maxLen) {p : Prop} :
    Does P E N S O a (Builtin.append_ #[t, t] ty #[v, vx]) w ⟨p, .t (.list (n + m) sz (cs ++ ts)), [(i, none)], []⟩ := by
  have hc := chkTy_kind hy
  rw [hk] at hc
  obtain ⟨hu, ii, hi, his, hib⟩ := chkK_slice hc
  obtain ⟨i', z, hi', his', _, hz, hzs, hzz, _⟩ := chkTy_info hye
  rw [hi] at hi'; cases hi'
  simp only [VV] at hv
  obtain ⟨us, hown, q4, q5, hnil⟩ : ∃ us, w.ownsRow 0 e sz v n us ∧ (∀ u ∈ us, u.oneCell' = true) ∧ VL w (Imm E O β w) cs us ∧ ((v.ownBlock = none ∧ n = 0) ∨ ∃ b zb, v.ownBlock = some b ∧ β i = some (b, zb) ∧ b < w.heap.size ∧ (E.w0.heap.size ≤ b ∨ E.X b)) := by
    rcases hv with ⟨b, zb, cap, hbi, rfl, hzc, hn, hcap⟩ | ⟨rfl, rfl⟩
    · obtain ⟨arr, us, rest, q1, q2, q3, q4, q5, q6⟩ := h.cell hO hbi
      obtain ⟨_, _, hbi2, hblt, hbx, _⟩ := h.objS hO hbi
      rw [hbi] at hbi2; cases hbi2
      have hul : us.length = n * sz := by rw [VL.length q5, hcs]
      exact ⟨us, ⟨hul, .inr ⟨b, cap, arr, rfl, Nat.zero_le _, by rw [q1, bk_lt (chkTy_lt hye)], hn, hcap, by rw [q2, hzc], by rw [q3, ← hul]; simp⟩⟩, q4, q5, .inr ⟨b, zb, rfl, hbi, hblt, hbx⟩⟩
    · have : cs = [] := List.eq_nil_of_length_eq_zero (by simpa using hcs)
      subst this
      exact ⟨[], ⟨by simp, .inl ⟨rfl, rfl⟩⟩, by simp, by simp only [VL], .inl ⟨rfl, rfl⟩⟩
  have hnl : news.length = m * sz := by rw [VL.length hl, hlen]
  obtain ⟨v', w', r1, ⟨r2, r3⟩, r4, r5, r6⟩ := run_append_src (P := P) (ty := ty) hu hi hz his hib (by omega) hsz hown hsrc hnl h1 hb.2 hb.1
  have hO' : ∀ k o, effs [(i, none)] O k = some o → k ≠ i ∧ O k = some o := fun k o hk => by
    simp only [effs] at hk
    by_cases e2 : k = i
    · subst e2; rw [upd_same] at hk; cases hk
    · rw [upd_other _ _ _ _ e2] at hk; exact ⟨e2, hk⟩
  have hold : ∀ k o x, O k = some o → β k = some x → x.1 < w.heap.size := fun k o x ho hx => by
    obtain ⟨_, _, hb', hl', _⟩ := h.objS ho hx
    rw [hx] at hb'; cases hb'; exact hl'
  have hblk : ∀ k, k < w.heap.size → (∀ x, β i = some x → x.1 ≠ k) → w'.heap[k]? = w.heap[k]? := fun k hk hne => r4.block k hk (by
    rcases hnil with ⟨e1, _⟩ | ⟨b, zb, e1, e2, _⟩
    · rw [e1]; simp
    · rw [e1]; exact fun h' => hne _ e2 (Option.some.inj h').symm)
  have himm : ∀ c, Imm E O β w c → Imm E (effs [(i, none)] O) β w' c ∧ w'.heap[c]? = w.heap[c]? := fun c hc =>
    ⟨⟨hc.1, Nat.lt_of_lt_of_le hc.2.1 r4.size, fun k o x ho hx => hc.2.2 k o x (hO' k o ho).2 hx⟩, hblk c hc.2.1 (fun x hx => hc.2.2 i _ x hO hx)⟩
  have hl2 : Lasts w (Imm E O β w) w' (Imm E (effs [(i, none)] O) β w') := ⟨fun c hc => (himm c hc).1, fun c hc => (himm c hc).2⟩
  have hR := h.next (w' := w') (N' := N) (O' := effs [(i, none)] O) (β' := β) r4.os r4.tape r4.output r4.size
    (fun c hc hx => hblk c (Nat.lt_of_lt_of_le hc h.size) (fun x hbx e => by
      obtain ⟨_, _, g1, _, g2, _⟩ := h.objS hO hbx
      rw [hbx] at g1; cases g1
      rcases g2 with h' | h'
      · simp only at e; omega
      · exact hx (e ▸ h'))) (fun _ _ => rfl) (fun _ hm => hm) (fun k x hn _ hx => absurd (h.inN hx) hn) h.dom himm
    (fun k o ho => .inl ⟨(hO' k o ho).2, fun x hx => hblk _ (hold k o x (hO' k o ho).2 hx) (fun x' hx' => Ne.symm (h.apart k i o _ x _ (hO' k o ho).2 hO hx hx' (hO' k o ho).1))⟩)
    (fun k l o o' x x' ho ho' hx hx' hne => h.apart k l o o' x x' (hO' k o ho).2 (hO' l o' ho').2 hx hx' hne)
  refine ⟨_, w', β, r1, hR.1, ?_⟩
  simp only [VV, VR]
  have hlc : (cs ++ ts).length = (n + m) * sz := by rw [List.length_append, hcs, hlen, Nat.add_mul]
  rcases r3 with ⟨rfl, hn0⟩ | ⟨g, cap', cur, rfl, _, hg, hnc, hcm, hcsz, htk⟩
  · exact ⟨hlc, none, 0, by rw [hn0], by omega, Nat.zero_le _, .inl hn0⟩
  · have hgb : (∃ zb, β i = some (g, zb) ∧ g < w.heap.size ∧ (E.w0.heap.size ≤ g ∨ E.X g)) ∨ g = w.heap.size := by
      rcases r6 with r6 | r6
      · rcases hnil with ⟨e1, _⟩ | ⟨b, zb, e1, e2, e3⟩
        · rw [e1] at r6; simp [Value.ownBlock] at r6
        · rw [e1] at r6
          simp only [Value.ownBlock, Option.some.injEq] at r6
          subst r6
          exact .inl ⟨zb, e2, e3⟩
      · simp only [Value.ownBlock, Option.some.injEq] at r6
        exact .inr r6
    have hglt : g < w'.heap.size := (Array.getElem?_eq_some_iff.1 hg).1
    refine ⟨hlc, _, cap', rfl, hnc, hcm, .inr ⟨g, 0, rfl, ⟨?_, hglt, fun k o x ho hx => ?_⟩, ?_⟩⟩
    · rcases hgb with ⟨_, _, _, h' | h'⟩ | rfl
      · exact .inr (.inl h')
      · exact .inr (.inr h')
      · exact .inr (.inl h.size)
    · obtain ⟨k1, k2⟩ := hO' k o ho
      rcases hgb with ⟨zb, e1, _⟩ | rfl
      · exact h.apart k i o _ x (g, zb) k2 hO hx e1 k1
      · exact Nat.ne_of_lt (hold k o x k2 hx)
    · refine VA.of_cells (vs := us ++ news) (VL.lasts hl2 _ _ (VL.append q5 hl)) (fun u hu => ?_) fun j u hj => ?_
      · rcases List.mem_append.1 hu with hu | hu
        · exact q4 u hu
        · exact h1 u hu
      · have hjl : j < (us ++ news).length := (List.getElem?_eq_some_iff.1 hj).1
        have : cur[j]? = some u := by
          rw [← Array.getElem?_toList]
          have e1 : (cur.toList.take ((n + m) * sz))[j]? = (us ++ news)[j]? := by rw [htk]
          rw [hj, List.getElem?_take] at e1
          split at e1
          · exact e1
          · cases e1
        simp [World.cell?, hg, this]
theorem does_clear (h : R E β N S O a w) {t e ty : TypeId} {y ye : Ty} {sz bytes : Nat} (hy : chkTy P t y = true) (hk : y.k = .slice e sz bytes) (hye : chkTy P e ye = true)
    {x : V} {i o n : Nat} (hx : (x = .own i sz n ∧ o = 0) ∨ x = .view i o sz n) {cs : List T} (hO : O i = some (.cells e cs)) {v : Value} (hv : VV w (Imm E O β w) β x v) {p : Prop} (hfit : o + n * sz ≤ cs.length) :
    Does P E N S O a (Builtin.clear_ #[t] ty #[v]) w ⟨p, .t (.tup []), [(i, some (.cells e (cs.take o ++ zerosT ye n ++ cs.drop (o + n * sz))))], []⟩ := by
  have hc := chkTy_kind hy
  rw [hk] at hc
  obtain ⟨hu, ii, hi, his, hib⟩ := chkK_slice hc
  obtain ⟨i', z, hi', his', _, hz, hzs, hzz, _⟩ := chkTy_info hye
  rw [hi] at hi'; cases hi'
  have he : e < 1048576 := chkTy_lt hye
  have unit : VV w (Imm E O β w) β (.t (.tup [])) (.tuple #[]) := by simp only [VV, VR, VL]; exact ⟨#[], rfl, rfl⟩
  have zero : n = 0 → (Builtin.clear_ #[t] ty #[v]).run P w = .ok (.tuple #[]) w → Does P E N S O a (Builtin.clear_ #[t] ty #[v]) w ⟨p, .t (.tup []), [(i, some (.cells e (cs.take o ++ zerosT ye n ++ cs.drop (o + n * sz))))], []⟩ := fun h0 hr => by
    subst h0
    have e1 : cs.take o ++ zerosT ye 0 ++ cs.drop (o + 0 * sz) = cs := by
      rw [zerosT_eq, Nat.zero_mul, Nat.add_zero]; simp
    have e2 : effs [(i, some (Obj.cells e cs))] O = O := by
      simp only [effs]
      funext k
      by_cases hk : k = i
      · subst hk; rw [upd_same, hO]
      · rw [upd_other _ _ _ _ hk]
    refine ⟨_, w, β, hr, ?_, ?_⟩
    · rw [e1, e2]; exact h
    · rw [e1, e2]; exact unit
  have hsl : (∃ b z' cap, β i = some (b, z') ∧ v = .slice (some ⟨b, o, none⟩) n cap) ∨ (n = 0 ∧ ∃ A cap, v = .slice A 0 cap) := by
    rcases hx with ⟨rfl, rfl⟩ | rfl
    · simp only [VV] at hv
      rcases hv with ⟨b, z', cap, hb, rfl, _⟩ | ⟨h0, rfl⟩
      · exact .inl ⟨b, z', cap, hb, rfl⟩
      · exact .inr ⟨h0, _, _, rfl⟩
    · simp only [VV] at hv
      rcases hv with ⟨b, z', cap, hb, o', rfl, _, _, h0 | rfl⟩ | ⟨h0, rfl⟩
      · exact .inr ⟨h0, _, _, by rw [h0]⟩
      · exact .inl ⟨b, z', cap, hb, rfl⟩
      · exact .inr ⟨h0, _, _, rfl⟩
  by_cases h0 : n = 0
  · refine zero h0 ?_
    obtain ⟨A, cap, rfl⟩ : ∃ A cap, v = .slice A 0 cap := by
      rcases hsl with ⟨b, z', cap, _, rfl⟩ | ⟨_, h⟩
      · exact ⟨_, _, by rw [h0]⟩
      · exact h
    cases A <;> simp [Builtin.clear_, run_underlying hu]
  · obtain ⟨b, z', cap, hb, rfl⟩ : ∃ b z' cap, β i = some (b, z') ∧ v = .slice (some ⟨b, o, none⟩) n cap := by
      rcases hsl with h | ⟨h1, _⟩
      · exact h
      · exact absurd h1 h0
    obtain ⟨arr, us, rest, q1, q2, q3, q4, q5, q6⟩ := h.cell hO hb
    rw [bk_lt he] at q1
    have hul := VL.length q5
    have harr : arr.toList.length = us.length + rest.length := by rw [q3]; simp
    obtain ⟨m1, m2⟩ := zeros_list (w := w) (ok := Imm E O β w) z.cells ye.zero (chkVs_reads hzs) (chkVs_ones hzs) n
    have hzc : (Builtin.zeroCells z.cells n) = madeCells z.cells (n * z.cells.size) := rfl
    have hzl : (Builtin.zeroCells z.cells n).toList.length = n * sz := by rw [hzc, Array.length_toList, size_madeCells, hzz, ← his', his]
    have hst := run_storeCells_fr P b o e (0, 0) (Builtin.zeroCells z.cells n).toList 0 arr w q1 (.inl rfl) (by rw [hzl]; simp at harr ⊢; omega) (by rw [hzc]; exact m2)
    simp only [Nat.add_zero, hzl] at hst
    have hrun : (Builtin.clear_ #[t] ty #[.slice (some ⟨b, o, none⟩) n cap]).run P w = .ok (.tuple #[]) (w.setRow b (arr.toList.take o ++ (Builtin.zeroCells z.cells n).toList ++ arr.toList.drop (o + n * sz)).toArray) := by
      obtain ⟨n, rfl⟩ : ∃ k, n = k + 1 := ⟨n - 1, by omega⟩
      simp [Builtin.clear_, run_underlying hu, zeroValue, typeInfo, hi, hz, hst]
    refine ⟨_, _, β, hrun, (h.write i b z' _ (.cells e (cs.take o ++ zerosT ye n ++ cs.drop (o + n * sz))) hO hb (setRow_os ..) (setRow_tape ..) (setRow_output ..) (setRow_size ..) (fun c hc => setRow_other _ _ _ _ hc) ?_).1, ?_⟩
    rotate_left
    · simp only [VV, VR, VL]; exact ⟨#[], rfl, rfl⟩
    have hl2 : Lasts w (Imm E O β w) (w.setRow b (arr.toList.take o ++ (Builtin.zeroCells z.cells n).toList ++ arr.toList.drop (o + n * sz)).toArray) (Imm E O β w) :=
      ⟨fun _ h => h, fun c hc => setRow_other _ _ _ _ (fun e => hc.2.2 i _ _ hO hb (by simp [e]))⟩
    simp only [OR]
    refine ⟨_, us.take o ++ (Builtin.zeroCells z.cells n).toList ++ us.drop (o + n * sz), rest, by rw [bk_lt he]; exact setRow_heap _ _ _ _ _ _ q1, ?_, ?_, ?_, ?_⟩
    · simp only [List.size_toArray, List.length_append, List.length_take, List.length_drop, hzl]
      simp at harr ⊢
      omega
    · simp only [q3]
      rw [List.take_append_of_le_length (by omega), List.drop_append_of_le_length (by omega)]
      simp
    · intro u hu
      simp only [List.mem_append] at hu
      rcases hu with (hu | hu) | hu
      · exact q4 u (List.mem_of_mem_take hu)
      · rw [hzc] at hu; exact m2 u hu
      · exact q4 u (List.mem_of_mem_drop hu)
    · rw [zerosT_eq, hzc]
      exact VL.append (VL.append (VL.take _ (VL.lasts hl2 _ _ q5)) (VL.lasts hl2 _ _ m1)) (VL.drop _ (VL.lasts hl2 _ _ q5))
theorem does_cut (h : R E β N S O a w) {t e : TypeId} {y : Ty} {sz bytes : Nat} (hy : chkTy P t y = true) (hk : y.k = .slice e sz bytes) {i n : Nat} {cs : List T} {e' : TypeId} (hO : O i = some (.cells e' cs))
    {v : Value} (hv : VV w (Imm E O β w) β (.own i sz n) v) {kx : IntKind} {m : Int} (hm : 0 ≤ m ∧ m ≤ n) {p : Prop} :
    Does P E N S O a (Instr.sliceAt t v none (some (.int kx m)) none) w ⟨p, .own i sz m.toNat, [(i, some (.cells e' (cs.take (m.toNat * sz))))], []⟩ := by
  have hc := chkTy_kind hy
  rw [hk] at hc
  obtain ⟨hu, ii, hi, his, hib⟩ := chkK_slice hc
  simp only [VV] at hv
  rcases hv with ⟨b, z, cap, hb, rfl, hz, hn, hcap⟩ | ⟨rfl, rfl⟩
  · have hbd := run_bounds (P := P) (w := w) (b := true) (len := n) (cap := cap) (lo := none) (hi := some (.int kx m)) (l := none) (h := some m) (.inl ⟨rfl, rfl⟩) (.inr ⟨kx, m, rfl, rfl⟩) (by simp) (by simpa using hm.1) (by simp; omega)
    simp only [Option.getD_none, Option.getD_some] at hbd
    refine ⟨.slice (some ⟨b, 0, none⟩) m.toNat cap, w, β, ?_, (h.write (w' := w) i b z _ (.cells e' (cs.take (m.toNat * sz))) hO hb rfl rfl rfl rfl (fun _ _ => rfl) ?_).1, ?_⟩
    · simp [Instr.sliceAt, Instr.slice, run_underlying hu, hbd, sizeOf, typeInfo, hi, Addr.add_mid]
    · obtain ⟨arr, us, rest, q1, q2, q3, q4, q5, q6⟩ := h.cell hO hb
      simp only [OR]
      exact ⟨arr, us.take (m.toNat * sz), us.drop (m.toNat * sz) ++ rest, q1, q2, by rw [q3, ← List.append_assoc, List.take_append_drop], fun u hu => q4 u (List.mem_of_mem_take hu), VL.take _ q5⟩
    · simp only [VV]
      exact .inl ⟨b, z, cap, hb, rfl, hz, by omega, hcap⟩
  · have hm0 : m = 0 := by omega
    subst hm0
    have hbd := run_bounds (P := P) (w := w) (b := true) (len := 0) (cap := 0) (lo := none) (hi := some (.int kx 0)) (l := none) (h := some 0) (.inl ⟨rfl, rfl⟩) (.inr ⟨kx, 0, rfl, rfl⟩) (by simp) (by simp) (by simp)
    simp only [Option.getD_none, Option.getD_some] at hbd
    have hrun : (Instr.sliceAt t (.slice none 0 0) none (some (.int kx 0)) none).run P w = .ok (.slice none 0 0) w := by
      simp [Instr.sliceAt, Instr.slice, run_underlying hu, hbd, sizeOf, typeInfo, hi]
    rcases hb : β i with _ | ⟨b, z⟩
    · rcases h.objs i _ hO with ⟨b, z, hb', _⟩ | ⟨hN, _, e2, he⟩
      · rw [hb] at hb'; cases hb'
      · cases he
        have e1 : effs [(i, some (Obj.cells e' (([] : List T).take ((0 : Int).toNat * sz))))] O = O := by
          simp only [effs, List.take_nil]
          funext k
          by_cases hk : k = i
          · subst hk; rw [upd_same, hO]
          · rw [upd_other _ _ _ _ hk]
        exact ⟨_, w, β, hrun, by rw [e1]; exact h, by simp [VV]⟩
    · refine ⟨_, w, β, hrun, (h.write (w' := w) i b z _ (.cells e' (cs.take ((0 : Int).toNat * sz))) hO hb rfl rfl rfl rfl (fun _ _ => rfl) ?_).1, by simp [VV]⟩
      obtain ⟨arr, us, rest, q1, q2, q3, q4, q5, q6⟩ := h.cell hO hb
      simp only [OR]
      exact ⟨arr, us.take ((0 : Int).toNat * sz), us.drop ((0 : Int).toNat * sz) ++ rest, q1, q2, by rw [q3, ← List.append_assoc, List.take_append_drop], fun u hu => q4 u (List.mem_of_mem_take hu), VL.take _ q5⟩
def entT (ks xs : List T) : List (T × T) := ks.zip xs
theorem entT_map (es : List (T × T)) : entT (es.map (·.1)) (es.map (·.2)) = es := by
  unfold entT
  induction es with
  | nil => rfl
  | cons x es ih => rw [List.map_cons, List.map_cons, List.zip_cons_cons, ih]
theorem run_lookupT {ok : Nat → Prop} {t k e : TypeId} {y ye : Ty} (hy : chkTy P t y = true) (hk : y.k = .map k e) (hye : chkTy P e ye = true) {G : T → Prop} (K : KeyRun P k G)
    {ks xs : List T} (hlen : ks.length = xs.length) (hG : ∀ x ∈ entT ks xs, G x.1) {kt : T} (hkt : G kt) {xv kv : Value} (hx : VR w ok (.mapt ks xs) xv) (hkv : VR w ok kt kv) (c : Bool) :
    ∃ u, (Instr.lookup t xv kv c).run P w = .ok u w ∧ VR w ok (lookR c (zeroT ye) (lookT (entT ks xs) kt)) u := by
  have hc := chkTy_kind hy
  rw [hk] at hc
  have hu := chkK_map hc
  simp only [VR] at hx
  obtain ⟨b, ms, clock, rfl, hb, hm, hv1, hv2⟩ := hx
  have hv : VLP w ok (entT ks xs) ms.toList := by
    refine VL.toVLP ?_ ?_
    · rw [show (entT ks xs).map (·.1) = ks from by unfold entT; rw [List.map_fst_zip (by omega)]]; exact hv1
    · rw [show (entT ks xs).map (·.2) = xs from by unfold entT; rw [List.map_snd_zip (by omega)]]; exact hv2
  obtain ⟨v, hval⟩ := K.val kt hkt
  have := valT_reads hkv hval
  subst this
  have hkeys := VLP.keys K.val hv hG
  have hck := fun em => K.check w em kt kv hkt hval
  obtain ⟨zv, hz1, hz2⟩ := run_zero (P := P) hye w ok
  rcases K.find w kt kv ms.toList hkt hval hkeys with ⟨f1, f2⟩ | ⟨j, m, f1, f2, f3, f4⟩
  · refine ⟨if c then .tuple #[zv, .bool false] else zv, ?_, ?_⟩
    · simp [Instr.lookup, run_underlying hu, MapKept.run_getObj_map hm, hck, f1, hz1, Result.andThen]
    · rw [(lookT_none K.val K.eq hval hkt hv hG f2).1, lookR]
      cases c with
      | false => exact hz2
      | true =>
        simp only [if_true, VR, VL]
        exact ⟨_, rfl, zv, [.bool false], rfl, hz2, .bool false, [], rfl, rfl, rfl⟩
  · obtain ⟨x, g1, g2, g3, g4⟩ := lookT_some K.val K.eq hval hkt hv hG f2 f3 f4
    refine ⟨if c then .tuple #[m.val, .bool true] else m.val, ?_, ?_⟩
    · simp [Instr.lookup, run_underlying hu, MapKept.run_getObj_map hm, hck, f1, Result.andThen]
    · rw [g1, lookR]
      cases c with
      | false => exact g2
      | true =>
        simp only [if_true, VR, VL]
        exact ⟨_, rfl, m.val, [.bool true], rfl, g2, .bool true, [], rfl, rfl, rfl⟩
end
end Go.Tl
end
section
namespace Go.Tl
set_option linter.unusedVariables false
set_option linter.unusedSimpArgs false

inductive An where
  | no
  | b (c : Bool)
  | v (x : T)
  | fz
  | id (j : Nat)
  | call (r : T)
  | o (cs : List T)
  | fid (j : Nat)
  | callW (ts : List T) (r : T)
  | callG (rn : List (Nat × Nat)) (fa : List V) (Oi : List (Nat × Obj)) (r : V) (Oo : List (Nat × Obj))
  | same (as : List Int)
  | mp (es : List (T × T))
def An.x? : An → Option T
  | .v x => some x
  | _ => none
structure Rs where
  obs : List Prop
  v : V
  eff : List (Nat × Option Obj)
  new : List Nat
abbrev Tab := List (Nat × Ty)

def optV (S : Nat → Option V) : Option Operand → Option (Option Int)
  | none => some none
  | some x => match ev S x with
    | some v => match intOf v with
      | some (_, n) => some (some n)
      | none => none
    | none => none
def sliceV (k : TyK) (x : V) (lo hi : Option Int) : Option (Prop × V) :=
  let l := lo.getD 0
  match k, x with
  | .string, .t (.str s) => let h := hi.getD s.size; some (0 ≤ l ∧ l ≤ h ∧ h ≤ s.size, .t (.str (s.extract l.toNat h.toNat)))
  | .slice _ sz _, .t (.list len sz' cs) => let h := hi.getD len; if sz' = sz then some (0 ≤ l ∧ l ≤ h ∧ h ≤ len, .t (.list (h.toNat - l.toNat) sz ((cs.drop (l.toNat * sz)).take ((h.toNat - l.toNat) * sz)))) else none
  | .slice _ sz _, .own i sz' len => let h := hi.getD len; if sz' = sz then some (0 ≤ l ∧ l ≤ h ∧ h ≤ len, .view i (l.toNat * sz) sz (h.toNat - l.toNat)) else none
  | .array n _ sz _, .t (.ptr cs) => let h := hi.getD n; some (0 ≤ l ∧ l ≤ h ∧ h ≤ n ∧ n * sz ≤ cs.length ∧ n ≤ maxLen, .t (.list (h.toNat - l.toNat) sz ((cs.drop (l.toNat * sz)).take ((h.toNat - l.toNat) * sz))))
  | .array n _ sz _, .ref i o => let h := hi.getD n; some (0 ≤ l ∧ l ≤ h ∧ h ≤ n ∧ n ≤ maxLen, .view i (o + l.toNat * sz) sz (h.toNat - l.toNat))
  | _, _ => none

def argObs (O : Nat → Option Obj) (F : Nat → Nat) (K : List Nat) : List V → List V → Option (List Prop × Bool)
  | [], [] => some ([], true)
  | v :: vs, .t x :: fs => match snapV O v, argObs O F K vs fs with
    | some (ps, t), some (qs, b) => some (ps ++ (WkT t x :: qs), b && (match v with | .t _ => true | _ => false))
    | _, _ => none
  | v :: vs, f :: fs => match f.inN K, argObs O F K vs fs with
    | true, some (qs, b) => some ((f.ren F = v) :: qs, b)
    | _, _ => none
  | _, _ => none
def objObs (O : Nat → Option Obj) (F : Nat → Nat) (K : List Nat) : List (Nat × Obj) → Option (List Prop)
  | [] => some []
  | (i, o) :: r => match O (F i), objObs O F K r with
    | some o', some ps => if decide (i < 1000) && o.inN K then some ((o' = o.ren F) :: ps) else none
    | _, _ => none
def inNO (K : List Nat) : List (Nat × Obj) → Bool
  | [] => true
  | (_, o) :: r => o.inN K && inNO K r
def flatO : List (Nat × Obj) → Bool
  | [] => true
  | (_, o) :: r => o.flat && flatO r
def without (F : Nat → Nat) (K : List Nat) (O : Nat → Option Obj) : Nat → Option Obj := fun i => if (K.map F).contains i then none else O i
def callG (P : Program) (O : Nat → Option Obj) (g : FuncId) (vs : List V) (rn : List (Nat × Nat)) (fa : List V) (Oi : List (Nat × Obj)) (r : V) (Oo : List (Nat × Obj)) : Option Rs :=
  let F := renF rn
  let K := keysO Oi
  let A := keysO Oi ++ (keysO Oo).filter fun k => !K.contains k
  match argObs (without F K O) F K vs fa, objObs O F K Oi with
  | some (ps, pure), some qs =>
    if nodupN K && nodupN (keysO Oo) && nodupN (A.map F) && (A.all fun k => K.contains k || decide (F k < 2000) || decide (2000 ≤ k) || K.all fun j => decide (2000 ≤ F j)) && inNO (K ++ keysO Oo) Oo && r.inN (K ++ keysO Oo) then
      some ⟨CG P g fa Oi r Oo :: ((match pure with | true => [] | false => [r.flat = true, flatO Oo = true]) ++ (ps ++ qs)), r.ren F, effG F Oi Oo, newG F Oi Oo⟩
    else none
  | _, _ => none

def clrV (x : V) (sz : Nat) : Option (Nat × Nat × Nat) :=
  match x with
  | .own i sz' n => if sz' = sz then some (i, 0, n) else none
  | .view i o sz' n => if sz' = sz then some (i, o, n) else none
  | _ => none
theorem clrV_spec {x : V} {sz i o n : Nat} (h : clrV x sz = some (i, o, n)) : (x = .own i sz n ∧ o = 0) ∨ x = .view i o sz n := by
  unfold clrV at h
  split at h
  · simp only [Option.ite_none_right_eq_some, Option.some.injEq, Prod.mk.injEq] at h
    obtain ⟨rfl, rfl, rfl, rfl⟩ := h
    exact .inl ⟨rfl, rfl⟩
  · simp only [Option.ite_none_right_eq_some, Option.some.injEq, Prod.mk.injEq] at h
    obtain ⟨rfl, rfl, rfl, rfl⟩ := h
    exact .inr rfl
  · cases h
def mk1 (p : Prop × V) : Rs := ⟨[p.1], p.2, [], []⟩
def mk0 (v : V) : Rs := ⟨[], v, [], []⟩

def stepOp (P : Program) (tab : Tab) (an : An) (S : Nat → Option V) (O : Nat → Option Obj) (o : Oper) : Option Rs :=
  match o.op with
  | .move x | .assign x => (ev S x).map mk0
  | .pick c x y => match ev S c with
    | some (.t (.bool true)) => (ev S x).map mk0
    | some (.t (.bool false)) => (ev S y).map mk0
    | _ => none
  | .alloc t => match look tab t, an with
    | some y, .id j => some ⟨[], .ref j 0, [(j, some (.cells t y.zero))], [j]⟩
    | some y, .fz => some ⟨[], .t (.ptr y.zero), [], []⟩
    | _, _ => none
  | .box t x => match ev S x, an with
    | some v, .id j => if t < 1048576 then (mkObj t v).map fun ob => ⟨[], .ref j 0, [(j, some ob)], [j]⟩ else none
    | some v, .fz => (cellsT v).map fun cs => ⟨[], .t (.ptr cs), [], []⟩
    | _, _ => none
  | .build t parts => match look tab t, evp S parts.toList with
    | some y, some ps => (buildV y ps).map mk1
    | _, _ => none
  | .buildSlice t len parts => match look tab t, evp S parts.toList with
    | some y, some ps => match y.k with
      | .slice e sz _ => match look tab e with
        | some ye => if sz = 0 ∨ 16777216 < len * sz then none else match fillT (fun i => some (i * sz, sz)) (zerosT ye len) ps, an with
          | some (p, out), .id j => some ⟨[p, out.length = len * sz], .own j sz len, [(j, some (.cells e out))], [j]⟩
          | some (p, out), .fz => some ⟨[p, out.length = len * sz], .t (.list len sz out), [], []⟩
          | _, _ => none
        | none => none
      | _ => none
    | _, _ => none
  | .load t x => match look tab t, ev S x with
    | some y, some (.ref i off) => match O i with
      | some ob => (getObj an.x? ob off y).map mk1
      | none => none
    | some y, some (.t (.ptr cs)) => (getPtr an.x? cs y).map mk1
    | _, _ => none
  | .store t x v => match look tab t, ev S x, ev S v with
    | some y, some (.ref i off), some v => match O i with
      | some ob => match setObj ob off v y.size, an with
        | some (p, .cells e cs), .o cs' => some ⟨[p, cs = cs'], .t .undef, [(i, some (.cells e cs'))], []⟩
        | some (p, ob'), _ => some ⟨[p], .t .undef, [(i, some ob')], []⟩
        | none, _ => none
      | none => none
    | _, _, _ => none
  | .binOp op t x y _ => match ev S x, ev S y with
    | some (.t (.agg xs)), some (.t (.agg ys)) => match an with
      | .same as => match eqT op true with
        | some r => some ⟨[xs = as.map (T.int .i64), ys = as.map (T.int .i64), EqSame P t as.length], .t r.2, [], []⟩
        | none => none
      | _ => match eqCells xs ys with
        | some b => match eqT op b with
          | some r => some ⟨[chkEq P t xs = true], .t r.2, [], []⟩
          | none => none
        | none => none
    | some v, some u => (binV op ((look tab t).map (·.k)) v u (isConst x || isConst y)).map fun r => mk1 (r.1, .t r.2)
    | _, _ => none
  | .unOp op _ x => match ev S x with
    | some v => (unT op v).map mk0
    | none => none
  | .convert s d x => match look tab s, look tab d, ev S x with
    | some ys, some yd, some v => match ys.k, yd.k with
      | .string, .slice e 1 _ => match look tab e, v, an with
        | some ye, .t (.str b), .id j => match ye.k with
          | .int .u8 => some ⟨[b.size ≤ maxLen], .own j 1 b.size, [(j, some (.cells (e + 1048576) ((bints b).map (T.int .u8))))], [j]⟩
          | _ => none
        | _, _, _ => none
      | .slice e 1 _, .string => match look tab e, srcV O v 1, an with
        | some ye, some (p, m, ts), .same l => match ye.k with
          | .int .u8 => some ⟨[p, ts = l.map (T.int .u8)], .t (.str (bstr l)), [], []⟩
          | _ => none
        | _, _, _ => none
      | _, _ => (convV ys.k yd.k v).map mk0
    | _, _, _ => none
  | .makeFunc (.func f) first captured => match first.toList, evs S captured.toList with
    | [], some vs => some (mk0 (mkFn f vs))
    | x :: xs, some vs => match evs S (x :: xs) with
      | some us => match pures us, pures vs with
        | some pre, some ts => some (mk0 (.t (.fn f pre ts)))
        | _, _ => none
      | none => none
    | _, _ => none
  | .nilCheck x => match ev S x with
    | some (.ref i o) => some (mk0 (.ref i o))
    | some (.t (.ptr cs)) => some (mk0 (.t (.ptr cs)))
    | some (.t (.pa b cs)) => some (mk0 (.t (.pa b cs)))
    | some (.t (.fn f pre cs)) => some (mk0 (.t (.fn f pre cs)))
    | some (.fn f vs) => some (mk0 (.fn f vs))
    | _ => none
  | .makeSlice t l c => match look tab t, ev S l, ev S c, an with
    | some y, some vl, some vc, .id j => match y.k, intOf vl, intOf vc with
      | .slice e sz bytes, some (_, nl), some (_, nc) => match look tab e with
        | some ye => some ⟨[0 ≤ nl ∧ nl ≤ nc ∧ (bytes : Int) * nc ≤ 281474976710656 ∧ nc ≤ maxLen], .own j sz nl.toNat, [(j, some (.cells e (zerosT ye nl.toNat)))], [j]⟩
        | none => none
      | _, _, _ => none
    | _, _, _, _ => none
  | .slice t x lo hi none => match an with
    | .o cs' => match lo, hi, look tab t, ev S x with
      | none, some hx, some y, some (.own i sz n) => match y.k, (ev S hx).bind intOf, O i with
        | .slice _ sz' _, some (_, m), some (.cells e' cs) => if sz' = sz then some ⟨[0 ≤ m ∧ m ≤ n, cs.take (m.toNat * sz) = cs'], .own i sz m.toNat, [(i, some (.cells e' cs'))], []⟩ else none
        | _, _, _ => none
      | _, _, _, _ => none
    | _ => match look tab t, ev S x, optV S lo, optV S hi with
      | some y, some v, some l, some h => (sliceV y.k v l h).map mk1
      | _, _, _, _ => none
  | .fieldAddr t x f => match look tab t, ev S x with
    | some y, some v => match y.k with
      | .struct fs => (fieldV fs f v).map mk0
      | _ => none
    | _, _ => none
  | .field t x f => if fieldHas P t f then match look tab t, ev S x with
    | some y, some v => match y.k with
      | .struct fs => (pickFieldV fs f v).map mk0
      | _ => none
    | _, _ => none
    else none
  | .indexAddr t x ix => match look tab t, ev S x, ev S ix with
    | some y, some v, some i => match intOf i with
      | some (_, n) => (indexAddrV y.k v n).map mk1
      | none => none
    | _, _, _ => none
  | .index t x ix => match look tab t, ev S x, ev S ix with
    | some y, some v, some i => match intOf i with
      | some (_, n) => match indexV y.k v n with
        | some r => some (mk1 r)
        | none => match y.k, v with
          | .array len e 1 false, .t (.agg cs) => match look tab e with
            | some ye => match ye.k with
              | .int _ => some (mk1 (0 ≤ n ∧ n < len ∧ n.toNat < cs.length, .t (cs.getD n.toNat .undef)))
              | _ => none
            | none => none
          | _, _ => none
      | none => none
    | _, _, _ => none
  | .makeMap t none => match an with
    | .id j => some ⟨[], .mapr j, [(j, some (.map []))], [j]⟩
    | _ => none
  | .lookup t x kx c => match look tab t, ev S x, ev S kx with
    | some y, some (.mapr i), some (.t kt) => match y.k, O i with
      | .map k e, some (.map es) => match look tab e with
        | some ye => some ⟨[∃ G, KeyRun P k G ∧ G kt ∧ ∀ x ∈ es, G x.1], .t (lookR c (zeroT ye) (lookT es kt)), [], []⟩
        | none => none
      | _, _ => none
    | some y, some (.t (.mapt ks xs)), some (.t kt) => match y.k with
      | .map k e => match look tab e with
        | some ye => some ⟨[∃ G, KeyRun P k G ∧ G kt ∧ ∀ x ∈ entT ks xs, G x.1, ks.length = xs.length], .t (lookR c (zeroT ye) (lookT (entT ks xs) kt)), [], []⟩
        | none => none
      | _ => none
    | _, _, _ => none
  | .mapUpdate t m kx vx => match look tab t, ev S m, ev S kx, ev S vx, an with
    | some y, some (.mapr i), some (.t kt), some (.t vt), .mp es' => match y.k, O i with
      | .map k e, some (.map es) => some ⟨[∃ G, KeyRun P k G ∧ G kt ∧ ∀ x ∈ es, G x.1, putT es kt vt = es'], .t .undef, [(i, some (.map es'))], []⟩
      | _, _ => none
    | _, _, _, _, _ => none
  | .extract x i => match ev S x with
    | some v => (extractV v i).map mk0
    | none => none
  | .call c => match c.callee with
    | .builtin .len => match c.args.toList, c.argTypes.toList with
      | [x], t :: _ => match look tab t, ev S x with
        | some y, some v => (lenV y.k v).map mk0
        | _, _ => none
      | _, _ => none
    | .builtin .append => match c.args.toList, c.argTypes.toList with
      | [x, z], [t, t'] => if t = t' then match look tab t, ev S x, ev S z with
        | some y, some (.own i sz n), some v => match y.k with
          | .slice e sz' bytes => if sz = sz' ∧ sz ≠ 0 then match O i, srcV O v sz, look tab e, an with
            | some (.cells e' cs), some (p, m, ts), some ye, .id j => if e' = e ∧ (2000 ≤ j → 2000 ≤ i) then some ⟨[p, cs.length = n * sz, (n + m) * bytes ≤ 140737488355328 ∧ n + m ≤ maxLen], .own j sz (n + m), [(i, none), (j, some (.cells e (cs ++ ts)))], [j]⟩ else none
            | some (.cells e' cs), some (p, m, ts), some ye, .fz => if e' = e then some ⟨[p, cs.length = n * sz, (n + m) * bytes ≤ 140737488355328 ∧ n + m ≤ maxLen], .t (.list (n + m) sz (cs ++ ts)), [(i, none)], []⟩ else none
            | _, _, _, _ => none
            else none
          | _ => none
        | _, _, _ => none
        else none
      | _, _ => none
    | .builtin .clear => match c.args.toList, c.argTypes.toList with
      | [x], [t] => match look tab t, ev S x with
        | some y, some v => match y.k with
          | .slice e sz _ => match clrV v sz, look tab e with
            | some (i, o, n), some ye => match O i with
              | some (.cells e' cs) => if e' = e then some ⟨[o + n * sz ≤ cs.length], .t (.tup []), [(i, some (.cells e (cs.take o ++ zerosT ye n ++ cs.drop (o + n * sz))))], []⟩ else none
              | _ => none
            | _, _ => none
          | _ => none
        | _, _ => none
      | _, _ => none
    | .builtin .max => match c.args.toList with
      | [x, y] => match ev S x, ev S y with
        | some (.t (.int k a)), some (.t (.int _ b)) => some (mk0 (.t (.int k (max a b))))
        | _, _ => none
      | _ => none
    | .builtin .min => match c.args.toList with
      | [x, y] => match ev S x, ev S y with
        | some (.t (.int k a)), some (.t (.int _ b)) => some (mk0 (.t (.int k (min a b))))
        | _, _ => none
      | _ => none
    | .builtin .copy => match c.args.toList, c.argTypes.toList with
      | [x, z], [t, _] => match look tab t, ev S x, ev S z with
        | some y, some d, some v => match y.k with
          | .slice e 1 bytes => match dstV d, srcV O v 1 with
            | some (i, off, n), some (p, m, ts) => match O i with
              | some (.cells e' cs) => if 1048576 ≤ e' then none else match an with
                | .o cs' => some ⟨[p, 0 < n ∧ off + Nat.min m n ≤ cs.length, cs.take off ++ ts.take (Nat.min m n) ++ cs.drop (off + Nat.min m n) = cs'], .t (.int .i64 (Nat.min m n : Nat)), [(i, some (.cells e' cs'))], []⟩
                | _ => some ⟨[p, 0 < n ∧ off + Nat.min m n ≤ cs.length], .t (.int .i64 (Nat.min m n : Nat)), [(i, some (.cells e' (cs.take off ++ ts.take (Nat.min m n) ++ cs.drop (off + Nat.min m n))))], []⟩
              | _ => none
            | _, _ => none
          | _ => none
        | _, _, _ => none
      | _, _ => none
    | .value f => match ev S f, evs S c.args.toList, an with
      | some (.t (.fn g pre caps)), some vs, .call r => match pures vs with
        | some ts => some ⟨[C P g (pre ++ (ts ++ caps)) r], .t r, [], []⟩
        | none => if r.flat then match snapL O vs with
          | some (ps, ts) => some ⟨C P g (pre ++ (ts ++ caps)) r :: ps, .t r, [], []⟩
          | none => none
          else none
      | some (.t (.fn g pre caps)), some vs, .callW ts' r => match pures vs with
        | some ts => some ⟨[C P g (pre ++ (ts' ++ caps)) r, WkL ts ts'], .t r, [], []⟩
        | none => if r.flat then match snapL O vs with
          | some (ps, ts) => some ⟨C P g (pre ++ (ts' ++ caps)) r :: WkL ts ts' :: ps, .t r, [], []⟩
          | none => none
          else none
      | some (.t (.fn g pre caps)), some vs, .callG rn fa Oi r Oo => callG P O g (pre.map V.t ++ (vs ++ caps.map V.t)) rn fa Oi r Oo
      | some (.fn g caps), some vs, .callG rn fa Oi r Oo => callG P O g (vs ++ caps) rn fa Oi r Oo
      | _, _, _ => none
    | _ => none
  | _ => none
end Go.Tl
end
section
namespace Go.Tl
set_option linter.unusedVariables false
set_option linter.unusedSimpArgs false
section
variable {P : Program} {E : Env} {β : Names} {N : List Nat} {S : Nat → Option V} {O : Nat → Option Obj} {a : Act} {w : World}

theorem R.optV (h : R E β N S O a w) {x : Option Operand} {n : Option Int} (hx : Tl.optV S x = some n) : OptI (x.map a.eval) n := by
  cases x with
  | none => simp only [Tl.optV, Option.some.injEq] at hx; exact .inl ⟨rfl, hx.symm⟩
  | some x =>
    simp only [Tl.optV] at hx
    cases hv : Tl.ev S x with
    | none => simp [hv] at hx
    | some v =>
      cases hi : intOf v with
      | none => simp [hv, hi] at hx
      | some kn =>
        obtain ⟨k, i⟩ := kn
        simp only [hv, hi, Option.some.injEq] at hx
        exact .inr ⟨k, i, by simp [intOf_reads hi (h.ev hv)], hx.symm⟩
theorem run_sliceV {t : TypeId} {y : Ty} (hy : chkTy P t y = true) {x r : V} {lo hi : Option Value} {l h : Option Int} (hl : OptI lo l) (hh : OptI hi h) {p : Prop} (hs : sliceV y.k x l h = some (p, r)) (hp : p)
    {ok : Nat → Prop} {v : Value} (hv : VV w ok β x v) : ∃ u, (Instr.sliceAt t v lo hi none).run P w = .ok u w ∧ VV w ok β r u := by
  have hc := chkTy_kind hy
  unfold sliceV at hs
  simp only at hs
  split at hs
  · rename_i st hk
    rw [hk] at hc
    have hu := chkK_string hc
    simp only [Option.some.injEq, Prod.mk.injEq] at hs
    obtain ⟨rfl, rfl⟩ := hs
    simp only [VV, VR] at hv ⊢
    subst hv
    exact ⟨_, by simp [Instr.sliceAt, Instr.slice, run_underlying hu, run_bounds hl hh hp.1 hp.2.1 hp.2.2], rfl⟩
  · rename_i e sz bb len sz' cs hk
    rw [hk] at hc
    obtain ⟨hu, i, hi', his, _⟩ := chkK_slice hc
    simp only [Option.ite_none_right_eq_some, Option.some.injEq, Prod.mk.injEq] at hs
    obtain ⟨rfl, rfl, rfl⟩ := hs
    simp only [VV, VR] at hv ⊢
    obtain ⟨hlen, A, cap, rfl, hn, hcm, hA⟩ := hv
    obtain ⟨p1, p2, p3⟩ := hp
    have hb := run_bounds (P := P) (w := w) (b := true) (len := len) (cap := cap) hl hh p1 p2 (by omega)
    refine ⟨_, by simp [Instr.sliceAt, Instr.slice, run_underlying hu, hb, sizeOf, typeInfo, hi']; rfl, ?_⟩
    refine ⟨?_, _, _, rfl, by omega, by omega, ?_⟩
    · simp only [List.length_take, List.length_drop, hlen]
      have : ((h.getD len).toNat - (l.getD 0).toNat) * sz' ≤ len * sz' - (l.getD 0).toNat * sz' := by
        rw [← Nat.sub_mul]; exact Nat.mul_le_mul_right _ (by omega)
      omega
    · by_cases h0 : (h.getD len).toNat - (l.getD 0).toNat = 0
      · exact .inl h0
      · right
        rcases hA with hA | ⟨b, o, rfl, hbk, hva⟩
        · omega
        · have hne : ¬ cap = (l.getD 0).toNat := by omega
          exact ⟨b, o + (l.getD 0).toNat * sz', by simp [hne, Addr.add_mid, his], hbk, VA.take _ (VA.drop _ hva)⟩
  · rename_i e sz bb i sz' len hk
    rw [hk] at hc
    obtain ⟨hu, i', hi', his, _⟩ := chkK_slice hc
    simp only [Option.ite_none_right_eq_some, Option.some.injEq, Prod.mk.injEq] at hs
    obtain ⟨rfl, rfl, rfl⟩ := hs
    simp only [VV] at hv ⊢
    obtain ⟨p1, p2, p3⟩ := hp
    rcases hv with ⟨b, z, cap, hb, rfl, _, h2, h3⟩ | ⟨rfl, rfl⟩
    rotate_left
    · have hbd := run_bounds (P := P) (w := w) (b := true) (len := 0) (cap := 0) hl hh p1 p2 (by omega)
      refine ⟨.slice none ((h.getD ((0 : Nat) : Int)).toNat - (l.getD 0).toNat) (0 - (l.getD 0).toNat), ?_, .inr ⟨by omega, ?_⟩⟩
      · simp [Instr.sliceAt, Instr.slice, run_underlying hu, hbd, sizeOf, typeInfo, hi']
      · congr 1 <;> omega
    have hbd := run_bounds (P := P) (w := w) (b := true) (len := len) (cap := cap) hl hh p1 p2 (by omega)
    have key : ∀ A : Option Addr, A = (if cap = (l.getD 0).toNat then some (⟨b, 0, none⟩ : Addr) else some ⟨b, (l.getD 0).toNat * sz', none⟩) →
        ∃ o', A = some ⟨b, o', none⟩ ∧ ((h.getD len).toNat - (l.getD 0).toNat = 0 ∨ o' = (l.getD 0).toNat * sz') := by
      intro A hA
      by_cases hne : cap = (l.getD 0).toNat
      · rw [if_pos hne] at hA; exact ⟨0, hA, .inl (by omega)⟩
      · rw [if_neg hne] at hA; exact ⟨_, hA, .inr rfl⟩
    obtain ⟨o', ho1, ho2⟩ := key _ rfl
    refine ⟨.slice (some ⟨b, o', none⟩) ((h.getD len).toNat - (l.getD 0).toNat) (cap - (l.getD 0).toNat), ?_, .inl ⟨b, z, _, hb, o', rfl, by omega, by omega, ho2⟩⟩
    rw [← ho1]
    have hif : (if cap = (l.getD 0).toNat then some (⟨b, 0, none⟩ : Addr) else some ⟨b, (l.getD 0).toNat * sz', none⟩) = if cap = (l.getD 0).toNat then some (⟨b, 0, none⟩ : Addr) else (some (⟨b, 0, none⟩ : Addr)).map (·.add ((l.getD 0).toNat * i'.size)) := by
      simp [Addr.add_mid, his]
    rw [hif]
    simp [Instr.sliceAt, Instr.slice, run_underlying hu, hbd, sizeOf, typeInfo, hi']
  · rename_i n e sz g cs hk
    rw [hk] at hc
    obtain ⟨hu, h3, _⟩ := chkK_array hc
    obtain ⟨ifo, hi', his⟩ : ∃ i, P.info? e = some i ∧ i.size = sz := by
      unfold sizeP at h3
      cases hi : P.info? e with
      | none => simp [hi] at h3
      | some i => exact ⟨i, rfl, by simpa [hi] using h3⟩
    simp only [Option.some.injEq, Prod.mk.injEq] at hs
    obtain ⟨rfl, rfl⟩ := hs
    simp only [VV, VR] at hv ⊢
    obtain ⟨b, o, rfl, hbk, hva⟩ := hv
    obtain ⟨p1, p2, p3, p4, p5⟩ := hp
    have hbd := run_bounds (P := P) (w := w) (b := false) (len := n) (cap := n) hl hh p1 p2 p3
    have h45 : ((h.getD n).toNat - (l.getD 0).toNat) * sz ≤ cs.length - (l.getD 0).toNat * sz := by
      have : ((h.getD n).toNat - (l.getD 0).toNat) * sz ≤ n * sz - (l.getD 0).toNat * sz := by
        rw [← Nat.sub_mul]; exact Nat.mul_le_mul_right _ (by omega)
      omega
    refine ⟨.slice (some (if n = (l.getD 0).toNat then ⟨b, o, none⟩ else (⟨b, o, none⟩ : Addr).add ((l.getD 0).toNat * ifo.size))) ((h.getD n).toNat - (l.getD 0).toNat) (n - (l.getD 0).toNat), by simp [Instr.sliceAt, Instr.sureAddr, run_underlying hu, hbd, sizeOf, typeInfo, hi'], ?_, _, _, rfl, by omega, by omega, ?_⟩
    · simp only [List.length_take, List.length_drop]; omega
    · by_cases h0 : (h.getD n).toNat - (l.getD 0).toNat = 0
      · exact .inl h0
      · have hne : ¬ n = (l.getD 0).toNat := by omega
        exact .inr ⟨b, o + (l.getD 0).toNat * sz, by simp [hne, Addr.add_mid, his], hbk, VA.take _ (VA.drop _ hva)⟩
  · rename_i n e sz g i o hk
    rw [hk] at hc
    obtain ⟨hu, h3, _⟩ := chkK_array hc
    obtain ⟨ifo, hi', his⟩ : ∃ i, P.info? e = some i ∧ i.size = sz := by
      unfold sizeP at h3
      cases hi : P.info? e with
      | none => simp [hi] at h3
      | some i => exact ⟨i, rfl, by simpa [hi] using h3⟩
    simp only [Option.some.injEq, Prod.mk.injEq] at hs
    obtain ⟨rfl, rfl⟩ := hs
    simp only [VV] at hv ⊢
    obtain ⟨b, z, hb, rfl⟩ := hv
    obtain ⟨p1, p2, p3, p4⟩ := hp
    have hbd := run_bounds (P := P) (w := w) (b := false) (len := n) (cap := n) hl hh p1 p2 p3
    refine ⟨.slice (some (if n = (l.getD 0).toNat then ⟨b, o, none⟩ else (⟨b, o, none⟩ : Addr).add ((l.getD 0).toNat * ifo.size))) ((h.getD n).toNat - (l.getD 0).toNat) (n - (l.getD 0).toNat), by simp [Instr.sliceAt, Instr.sureAddr, run_underlying hu, hbd, sizeOf, typeInfo, hi'], .inl ⟨b, z, n - (l.getD 0).toNat, hb, if n = (l.getD 0).toNat then o else o + (l.getD 0).toNat * sz, ?_, by omega, by omega, ?_⟩⟩
    · by_cases hne : n = (l.getD 0).toNat
      · simp [← hne]
      · simp [hne, Addr.add_mid, his]
    · by_cases hne : n = (l.getD 0).toNat
      · left; omega
      · right; rw [if_neg hne]
  · cases hs
end
end Go.Tl
end
section
namespace Go.Tl
set_option linter.unusedVariables false
set_option linter.unusedSimpArgs false

theorem nodupN_not_mem {x : Nat} {xs : List Nat} (h : nodupN (x :: xs) = true) : x ∉ xs ∧ nodupN xs = true := by
  simp only [nodupN, Bool.and_eq_true, Bool.not_eq_true', List.contains_eq_mem, decide_eq_false_iff_not] at h
  exact h
theorem nodupN_inj (F : Nat → Nat) : ∀ (A : List Nat), nodupN (A.map F) = true → ∀ i j, i ∈ A → j ∈ A → F i = F j → i = j
  | [], _, i, _, hi, _, _ => by cases hi
  | a :: A, h, i, j, hi, hj, e => by
    obtain ⟨h1, h2⟩ := nodupN_not_mem h
    rcases List.mem_cons.1 hi with e1 | hi'
    · rcases List.mem_cons.1 hj with e2 | hj'
      · rw [e1, e2]
      · exact absurd (List.mem_map.2 ⟨j, hj', by rw [← e, e1]⟩) h1
    · rcases List.mem_cons.1 hj with e2 | hj'
      · exact absurd (List.mem_map.2 ⟨i, hi', by rw [e, e2]⟩) h1
      · exact nodupN_inj F A h2 i j hi' hj' e
theorem inNO_lk {K : List Nat} : ∀ {l : List (Nat × Obj)}, inNO K l = true → ∀ {i : Nat} {o : Obj}, lk l i = some o → o.inN K = true
  | [], _, i, o, h => by simp [lk] at h
  | (j, x) :: r, hn, i, o, h => by
    simp only [inNO, Bool.and_eq_true] at hn
    simp only [lk] at h
    split at h
    · cases h; exact hn.1
    · exact inNO_lk hn.2 h
theorem flatO_lk : ∀ {l : List (Nat × Obj)}, flatO l = true → ∀ {i : Nat} {o : Obj}, lk l i = some o → o.flat = true
  | [], _, i, o, h => by simp [lk] at h
  | (j, x) :: r, hn, i, o, h => by
    simp only [flatO, Bool.and_eq_true] at hn
    simp only [lk] at h
    split at h
    · cases h; exact hn.1
    · exact flatO_lk hn.2 h
theorem objObs_spec {O : Nat → Option Obj} {F : Nat → Nat} {K : List Nat} : ∀ {l : List (Nat × Obj)} {ps : List Prop}, objObs O F K l = some ps → Obs ps → ∀ i o, lk l i = some o → i < 1000 ∧ O (F i) = some (o.ren F) ∧ o.inN K = true
  | [], ps, h, ho, i, o, hl => by simp [lk] at hl
  | (j, x) :: r, ps, h, ho, i, o, hl => by
    simp only [objObs] at h
    split at h
    · rename_i o' ps' h1 h2
      split at h
      · rename_i hc
        cases h
        simp only [Obs] at ho
        simp only [Bool.and_eq_true, decide_eq_true_eq] at hc
        simp only [lk] at hl
        split at hl
        · rename_i e
          cases hl
          subst e
          exact ⟨hc.1, by rw [h1, ho.1], hc.2⟩
        · exact objObs_spec h2 ho.2 i o hl
      · cases h
    · cases h
section
variable {w : World} {ok okc : Nat → Prop} {β βc : Names} {O : Nat → Option Obj} {F : Nat → Nat} {K : List Nat}
theorem argObs_reads (hl : Lasts w ok w okc) (hβ : ∀ i, i ∈ K → β (F i) = βc i) : ∀ (vs fs : List V) (ps : List Prop) (b : Bool), argObs O F K vs fs = some (ps, b) → Obs ps →
    (b = true ∨ SnapOK w okc O β) → ∀ xs, VVL w ok β vs xs → VVL w okc βc fs xs
  | [], [], ps, b, h, ho, hb, xs, hv => by
    simp only [VVL] at hv ⊢; exact hv
  | v :: vs, .t x :: fs, ps, b, h, ho, hb, xs, hv => by
    simp only [argObs] at h
    split at h
    · rename_i ps1 t qs b1 h1 h2
      cases h
      rw [Obs_append] at ho
      simp only [Obs] at ho
      obtain ⟨o1, o2, o3⟩ := ho
      simp only [VVL] at hv ⊢
      obtain ⟨u, us, rfl, hu, hr⟩ := hv
      have hb' : b1 = true ∨ SnapOK w okc O β := by
        rcases hb with hb | hb
        · simp only [Bool.and_eq_true] at hb; exact .inl hb.1
        · exact .inr hb
      refine ⟨u, us, rfl, ?_, argObs_reads hl hβ vs fs qs b1 h2 o3 hb' us hr⟩
      simp only [VV]
      refine o2.reads ?_
      cases v with
      | t y =>
        simp only [snapV, Option.some.injEq, Prod.mk.injEq] at h1
        obtain ⟨_, rfl⟩ := h1
        simp only [VV] at hu
        exact VR.lasts hl _ _ hu
      | _ =>
        rcases hb with hb | hb
        · simp at hb
        · exact snapV_reads hl hb _ u _ _ h1 o1 hu
    · cases h
  | v :: vs, .ref i o :: fs, ps, b, h, ho, hb, xs, hv | v :: vs, .own i sz n :: fs, ps, b, h, ho, hb, xs, hv | v :: vs, .view i o sz n :: fs, ps, b, h, ho, hb, xs, hv
  | v :: vs, .mapr i :: fs, ps, b, h, ho, hb, xs, hv | v :: vs, .agg us :: fs, ps, b, h, ho, hb, xs, hv | v :: vs, .tup us :: fs, ps, b, h, ho, hb, xs, hv | v :: vs, .fn f us :: fs, ps, b, h, ho, hb, xs, hv => by
    simp only [argObs] at h
    split at h
    · rename_i qs b1 hn h2
      cases h
      simp only [Obs] at ho
      simp only [VVL] at hv ⊢
      obtain ⟨u, us, rfl, hu, hr⟩ := hv
      refine ⟨u, us, rfl, ?_, argObs_reads hl hβ vs fs qs b h2 ho.2 hb us hr⟩
      rw [← ho.1] at hu
      exact VV.lasts hl (fun _ _ h => h) _ _ (VV.unren (N := K) hβ _ u hn hu)
    · cases h
  | [], .t x :: fs, ps, b, h, ho, hb, xs, hv | [], .ref i o :: fs, ps, b, h, ho, hb, xs, hv | [], .own i sz n :: fs, ps, b, h, ho, hb, xs, hv | [], .view i o sz n :: fs, ps, b, h, ho, hb, xs, hv
  | [], .mapr i :: fs, ps, b, h, ho, hb, xs, hv | [], .agg us :: fs, ps, b, h, ho, hb, xs, hv | [], .tup us :: fs, ps, b, h, ho, hb, xs, hv | [], .fn f us :: fs, ps, b, h, ho, hb, xs, hv | v :: vs, [], ps, b, h, ho, hb, xs, hv => by
    simp [argObs] at h
end
theorem without_some {F : Nat → Nat} {K : List Nat} {O : Nat → Option Obj} {i : Nat} {o : Obj} (h : without F K O i = some o) : O i = some o ∧ ∀ k ∈ K, F k ≠ i := by
  unfold without at h
  split at h
  · cases h
  · rename_i hc
    refine ⟨h, fun k hk e => hc ?_⟩
    simp only [List.contains_eq_mem, decide_eq_true_eq]
    exact List.mem_map.2 ⟨k, hk, e⟩

section
variable {P : Program} {E : Env} {β : Names} {N : List Nat} {S : Nat → Option V} {O O1 : Nat → Option Obj} {a : Act} {w : World}
theorem R.callG_step (h : R E β N S O a w) (hO1 : ∀ i x, O1 i = some x → O i = some x) {g : FuncId} {vs : List V} {rn : List (Nat × Nat)} {fa : List V} {Oi Oo : List (Nat × Obj)} {r : V} {rs : Rs}
    (hs : Tl.callG P O1 g vs rn fa Oi r Oo = some rs) (ho : Obs rs.obs) (hnew : ∀ j ∈ rs.new, j ∉ N) {xs : Array Value} (hvs : VVL w (Imm E O β w) β vs xs.toList) {Q : Value → World → Prop}
    (hQ : ∀ β' v w', R E β' (rs.new ++ N) S (effs rs.eff O) a w' → VV w' (Imm E (effs rs.eff O) β' w') β' rs.v v → Q v w') :
    (callFunc g xs).run P w = .ok (.enter g xs) w ∧ Calls P g xs w fun e w' => ∃ v, e = .returned v ∧ Q v w' := by
  unfold Tl.callG at hs
  simp only at hs
  split at hs
  · rename_i ps pure qs hA hB
    split at hs
    · rename_i hc
      cases hs
      simp only [Bool.and_eq_true, Bool.or_eq_true] at hc
      obtain ⟨⟨⟨⟨⟨c1, c2⟩, c3⟩, c4⟩, c5⟩, c6⟩ := hc
      simp only [Obs, Obs_append] at ho
      obtain ⟨o1, c7', o2, o3⟩ := ho
      have hi : ∀ i o, lk Oi i = some o → i < 1000 ∧ O (renF rn i) = some (o.ren (renF rn)) ∧ o.inN (keysO Oi) = true := fun i o hl => by
        obtain ⟨k1, k2, k3⟩ := objObs_spec hB o3 i o hl
        exact ⟨k1, hO1 _ _ k2, k3⟩
      have hmem : ∀ i, (i ∈ keysO Oi ∨ i ∈ keysO Oo) → i ∈ keysO Oi ++ (keysO Oo).filter fun k => !(keysO Oi).contains k := fun i hi => by
        by_cases hm : i ∈ keysO Oi
        · exact List.mem_append_left _ hm
        · exact List.mem_append_right _ (List.mem_filter.2 ⟨hi.resolve_left hm, by simpa using hm⟩)
      have hinj := nodupN_inj (renF rn) _ c3
      rw [List.all_eq_true] at c4
      have main := fun (okc : Nat → Prop) k0 k1 k2 hargs => h.callG (okc := okc) o1 hi c2 (fun i j hi hj e => hinj i j (hmem i hi) (hmem j hj) e) hnew
        (fun i h1 h2 h3 => by
          have c4i := c4 i (hmem i (.inr h1))
          simp only [Bool.or_eq_true, decide_eq_true_eq, List.contains_eq_mem] at c4i
          rcases c4i with ((h4 | h4) | h4) | h4
          · exact absurd h4 h2
          · omega
          · exact .inl h4
          · simp only [List.all_eq_true, decide_eq_true_eq] at h4
            exact .inr h4)
        (fun i o hl => inNO_lk c5 hl) c6 k0 k1 k2 (vs := xs) hargs hQ
      by_cases hp : pure = true
      · refine main (Imm E O β w) (fun _ h => h) (fun b hb => ⟨hb.2.1, fun i o x hl hx => hb.2.2 _ _ x (hi i o hl).2.1 hx⟩) (.inl fun _ h => h) ?_
        exact argObs_reads (Lasts.refl _ _) (fun i hm => by simp only [if_pos hm]) vs fa ps pure hA o2 (.inl hp) _ hvs
      · have hfl : r.flat = true ∧ flatO Oo = true := by
          cases pure with
          | true => exact absurd rfl hp
          | false => exact ⟨c7'.1, c7'.2.1⟩
        refine main (fun b => Imm E O β w b ∨ ∃ i o x, O i = some o ∧ (∀ k ∈ keysO Oi, renF rn k ≠ i) ∧ β i = some x ∧ x.1 = b) (fun _ h => .inl h) (fun b hb => ?_) (.inr ⟨hfl.1, fun i o hl => flatO_lk hfl.2 hl⟩) ?_
        · rcases hb with hb | ⟨i, o, x, q1, q2, q3, rfl⟩
          · exact ⟨hb.2.1, fun i o x hl hx => hb.2.2 _ _ x (hi i o hl).2.1 hx⟩
          · obtain ⟨b', z, hb', hlt, _⟩ := h.objS q1 q3
            rw [q3] at hb'; cases hb'
            exact ⟨hlt, fun k o' x' hl hx => h.apart _ _ _ _ x' _ (hi k o' hl).2.1 q1 hx q3 (q2 k (lk_keys hl))⟩
        · refine argObs_reads ⟨fun b hb => .inl hb, fun _ _ => rfl⟩ (fun i hm => by simp only [if_pos hm]) vs fa ps pure hA o2 (.inr (.of (ok := Imm E O β w) ⟨fun b hb => .inl hb, fun _ _ => rfl⟩ fun i ob b z g1 g3 => ?_)) _ hvs
          obtain ⟨g4, g5⟩ := without_some g1
          obtain ⟨b', z', hb', hlt, hx, hor⟩ := h.objS (hO1 _ _ g4) g3
          rw [g3] at hb'; cases hb'
          exact ⟨.inr ⟨i, ob, _, hO1 _ _ g4, g5, g3, rfl⟩, hor⟩
    · cases hs
  · cases hs
end
end Go.Tl
end
