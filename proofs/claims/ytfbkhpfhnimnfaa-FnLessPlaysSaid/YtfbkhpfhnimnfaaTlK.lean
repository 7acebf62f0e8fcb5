/-
  Copying; and what may be forgotten: slots, objects, names; objects that are written no more. No statement of the seat is proved here.
-/
import Derived.Test.YtfbkhpfhnimnfaaTlJ
namespace Go.Tl
set_option linter.unusedVariables false
set_option linter.unusedSimpArgs false

section
variable {P : Program} {E : Env} {β : Names} {N : List Nat} {S : Nat → Option V} {O : Nat → Option Obj} {a : Act} {w : World}
theorem run_copy_src {dT sT ty elem : TypeId} {g o dLen dCap : Nat} {cur : Array Value} {t : TypeId} (hu : P.underlying dT = some (.slice elem)) (hs : (P.info? elem).map (·.size) = some 1)
    (hg : w.heap[g]? = some (.cells cur t (0, 0))) {vx : Value} {m : Nat} {news : List Value} (hsrc : Src w vx m news) (hl : news.length = m) (h1 : ∀ u ∈ news, u.oneCell' = true) (hfit : o + Nat.min m dLen ≤ cur.size) :
    (Builtin.copy_ #[dT, sT] ty #[.slice (some ⟨g, o, none⟩) dLen dCap, vx]).run P w =
      .ok (goInt (Nat.min m dLen)) (w.setRow g (cur.toList.take o ++ news.take (Nat.min m dLen) ++ cur.toList.drop (o + Nat.min m dLen)).toArray) := by
  obtain ⟨A, c, rfl, _, _, hA⟩ := hsrc
  have hmn : Nat.min m dLen ≤ m := Nat.min_le_left _ _
  cases A with
  | some ad =>
    have hc : ∀ j v, (news.take (Nat.min m dLen))[j]? = some v → w.cell? (ad.add j) = some v := by
      rcases hA with ⟨rfl, rfl⟩ | ⟨b, o', hbo, hc⟩
      · intro j v h; simp at h
      · cases hbo
        intro j v h
        rw [Addr.add_mid]
        refine hc j v ?_
        rw [List.getElem?_take] at h
        split at h
        · exact h
        · cases h
    have hlen : (news.take (Nat.min m dLen)).length = Nat.min m dLen := by simp [hl]
    have := run_copy_row (P := P) w dT sT ty elem g o dLen dCap ad m c cur t (news.take (Nat.min m dLen)) hu hs hg hlen hc (by rw [hlen]; exact hfit) (fun v hv => h1 v (List.mem_of_mem_take hv))
    rw [hlen] at this
    exact this
  | none =>
    rcases hA with ⟨rfl, rfl⟩ | ⟨b, o', hbo, hc⟩
    · cases hq : P.info? elem with
      | none => simp [hq] at hs
      | some i =>
        have h0 : Nat.min 0 dLen = 0 := Nat.zero_min _
        simp only [h0, Nat.add_zero, List.take_nil, List.append_nil, List.take_append_drop, Array.toArray_toList]
        rw [setRow_self w g cur t (0, 0) hg]
        simp [Builtin.copy_, run_underlying hu, Builtin.lenOf, Builtin.firstCells, sizeOf, typeInfo, hq, storeCells]
    · cases hbo

/-- Where a copy goes. -/
def dstV (x : V) : Option (Nat × Nat × Nat) :=
  match x with
  | .own i sz n => if sz = 1 then some (i, 0, n) else none
  | .view i o sz n => if sz = 1 then some (i, o, n) else none
  | _ => none
theorem does_copy (h : R E β N S O a w) {t t2 e ty : TypeId} {y : Ty} {bytes : Nat} (hy : chkTy P t y = true) (hk : y.k = .slice e 1 bytes)
    {x : V} {i o n : Nat} (hx : dstV x = some (i, o, n)) {e' : TypeId} {cs ts : List T} (hO : O i = some (.cells e' cs)) {v vx : Value} (hv : VV w (Imm E O β w) β x v)
    {m : Nat} {news : List Value} (hsrc : Src w vx m news) (hl : VL w (Imm E O β w) ts news) (h1 : ∀ u ∈ news, u.oneCell' = true) (hlen : ts.length = m * 1)
    {p : Prop} (hfit : 0 < n ∧ o + Nat.min m n ≤ cs.length) :
    Does P E N S O a (Builtin.copy_ #[t, t2] ty #[v, vx]) w ⟨p, .t (.int .i64 (Nat.min m n : Nat)), [(i, some (.cells e' (cs.take o ++ ts.take (Nat.min m n) ++ cs.drop (o + Nat.min m n))))], []⟩ := by
  have hc := chkTy_kind hy
  rw [hk] at hc
  obtain ⟨hu, ii, hi, his, hib⟩ := chkK_slice hc
  obtain ⟨b, z, cap, hb, rfl⟩ : ∃ b z cap, β i = some (b, z) ∧ v = .slice (some ⟨b, o, none⟩) n cap := by
    unfold dstV at hx
    split at hx
    · simp only [Option.ite_none_right_eq_some, Option.some.injEq, Prod.mk.injEq] at hx
      obtain ⟨_, rfl, rfl, rfl⟩ := hx
      simp only [VV] at hv
      rcases hv with ⟨b, z, cap, hb, rfl, _⟩ | ⟨h0, _⟩
      · exact ⟨b, z, cap, hb, rfl⟩
      · omega
    · simp only [Option.ite_none_right_eq_some, Option.some.injEq, Prod.mk.injEq] at hx
      obtain ⟨_, rfl, rfl, rfl⟩ := hx
      simp only [VV] at hv
      rcases hv with ⟨b, z, cap, hb, o', rfl, _, _, h0 | rfl⟩ | ⟨h0, _⟩
      · omega
      · exact ⟨b, z, cap, hb, rfl⟩
      · omega
    · cases hx
  obtain ⟨arr, us, rest, q1, q2, q3, q4, q5, q6⟩ := h.cell hO hb
  have hul := VL.length q5
  have harr : arr.toList.length = us.length + rest.length := by rw [q3]; simp
  have hnl : news.length = m := by rw [VL.length hl, hlen]; omega
  have hrun := run_copy_src (P := P) (sT := t2) (ty := ty) (dCap := cap) hu (by rw [hi]; simp [his]) q1 hsrc hnl h1 (o := o) (dLen := n) (by simp at harr; omega)
  have hmm : Nat.min m n ≤ m := Nat.min_le_left _ _
  generalize Nat.min m n = kk at hrun hfit hmm ⊢
  refine ⟨_, _, β, hrun, (h.write i b z _ (.cells e' (cs.take o ++ ts.take (kk) ++ cs.drop (o + kk))) hO hb (setRow_os ..) (setRow_tape ..) (setRow_output ..) (setRow_size ..) (fun c hc => setRow_other _ _ _ _ hc) ?_).1, by simp only [VV, VR, goInt]⟩
  have hl2 : Lasts w (Imm E O β w) (w.setRow b (arr.toList.take o ++ news.take (kk) ++ arr.toList.drop (o + kk)).toArray) (Imm E O β w) :=
    ⟨fun _ h => h, fun c hc => setRow_other _ _ _ _ (fun e => hc.2.2 i _ _ hO hb (by simp [e]))⟩
  simp only [OR]
  refine ⟨_, us.take o ++ news.take (kk) ++ us.drop (o + kk), rest, setRow_heap _ _ _ _ _ _ q1, ?_, ?_, ?_, ?_⟩
  · simp only [List.size_toArray, List.length_append, List.length_take, List.length_drop]
    simp at harr ⊢
    omega
  · simp only [q3]
    rw [List.take_append_of_le_length (by omega), List.drop_append_of_le_length (by omega)]
    simp
  · intro u hu
    simp only [List.mem_append] at hu
    rcases hu with (hu | hu) | hu
    · exact q4 u (List.mem_of_mem_take hu)
    · exact h1 u (List.mem_of_mem_take hu)
    · exact q4 u (List.mem_of_mem_drop hu)
  · exact VL.append (VL.append (VL.take _ (VL.lasts hl2 _ _ q5)) (VL.take _ (VL.lasts hl2 _ _ hl))) (VL.drop _ (VL.lasts hl2 _ _ q5))
end

/-! ### lists of slots and objects -/
def lk {α : Type} : List (Nat × α) → Nat → Option α
  | [], _ => none
  | (j, x) :: r, i => if i = j then some x else lk r i
def delA {α : Type} : List (Nat × α) → Nat → List (Nat × α)
  | [], _ => []
  | (j, x) :: r, i => if i = j then delA r i else (j, x) :: delA r i
theorem lk_cons {α : Type} (l : List (Nat × α)) (i : Nat) (x : α) : lk ((i, x) :: l) = upd (lk l) i (some x) := by
  funext k; simp only [lk, upd]
theorem lk_del {α : Type} : ∀ (l : List (Nat × α)) (i : Nat), lk (delA l i) = upd (lk l) i none
  | [], i => by funext k; simp [delA, lk, upd]
  | (j, x) :: r, i => by
    funext k
    have ih := congrFun (lk_del r i) k
    simp only [delA]
    by_cases h : i = j
    · rw [if_pos h, ih]
      simp only [upd, lk]
      by_cases hk : k = i
      · simp [hk]
      · rw [if_neg hk, if_neg hk, if_neg (by rw [← h]; exact hk)]
    · rw [if_neg h]
      simp only [lk, upd, ih]
      by_cases hk : k = j
      · subst hk; rw [if_pos rfl, if_neg (Ne.symm h), if_pos rfl]
      · rw [if_neg hk, if_neg hk]
def keepA {α : Type} (l : List (Nat × α)) : List Nat → List (Nat × α)
  | [] => []
  | i :: is => match lk l i with
    | some x => (i, x) :: keepA l is
    | none => keepA l is
theorem lk_keep {α : Type} (l : List (Nat × α)) : ∀ (is : List Nat) (k : Nat) (x : α), lk (keepA l is) k = some x → lk l k = some x
  | [], k, x, h => by simp [keepA, lk] at h
  | i :: is, k, x, h => by
    simp only [keepA] at h
    cases hi : lk l i with
    | none => simp only [hi] at h; exact lk_keep l is k x h
    | some y =>
      simp only [hi, lk] at h
      split at h
      · rename_i e; cases h; rw [e]; exact hi
      · exact lk_keep l is k x h

structure St where
  N : List Nat
  S : List (Nat × V)
  O : List (Nat × Obj)

/-- The relation, for lists. -/
def Rel (E : Env) (σ : St) (a : Act) (w : World) : Prop := ∃ β, R E β σ.N (lk σ.S) (lk σ.O) a w

theorem Rel.keep {E : Env} {σ : St} {a : Act} {w : World} (h : Rel E σ a w) (ts : List Nat) : Rel E { σ with S := keepA σ.S ts } a w :=
  let ⟨β, h⟩ := h
  ⟨β, h.less (lk_keep σ.S ts)⟩

section
variable {E : Env} {β β' : Names} {N N' : List Nat} {S S' : Nat → Option V} {O O' : Nat → Option Obj} {a a' : Act} {w w' : World}
/-- Another telling of the same memory: fewer objects, other slots. -/
theorem R.retell (h : R E β N S O a w) (pins : ∀ i, E.pin i → i ∈ N' ∧ β' i = E.pinβ i) (news : ∀ i x, 2000 ≤ i → β' i = some x → E.w0.heap.size ≤ x.1) (dom : ∀ i, i ∉ N' → β' i = none)
    (hO : ∀ k o' x', O' k = some o' → β' k = some x' → ∃ l o, O l = some o ∧ β l = some x')
    (hβ : ∀ k o', O' k = some o' → (β' k).isSome = true ∨ (k ∈ N' ∧ β' k = none ∧ ∃ e, o' = .cells e []))
    (hinj : ∀ i j o o' x x', O' i = some o → O' j = some o' → β' i = some x → β' j = some x' → i ≠ j → x.1 ≠ x'.1)
    (hOR : (∀ b, Imm E O β w b → Imm E O' β' w b) → ∀ k o' x', O' k = some o' → β' k = some x' → OR w (Imm E O' β' w) β' x'.1 x'.2 o')
    (hS : (∀ b, Imm E O β w b → Imm E O' β' w b) → ∀ t x', S' t = some x' → ∃ x, S t = some x ∧ ∀ v, VV w (Imm E O β w) β x v → VV w (Imm E O' β' w) β' x' v) : R E β' N' S' O' a w := by
  have himm : ∀ b, Imm E O β w b → Imm E O' β' w b := fun b hb => ⟨hb.1, hb.2.1, fun i o x ho hx => by
    obtain ⟨l, o2, h1, h2⟩ := hO i o x ho hx
    exact hb.2.2 l o2 x h1 h2⟩
  refine ⟨h.defers, h.os, h.tape, h.output, h.size, h.old, h.okb, h.glob, dom, fun t x' ht => ?_, fun i hp => ⟨(h.pins i hp).1, pins i hp⟩, news, fun i o ho => ?_, fun i j o o' x x' ho ho' hx hx' hne => hinj i j o o' x x' ho ho' hx hx' hne⟩
  · obtain ⟨x, h1, h2⟩ := hS himm t x' ht
    obtain ⟨h3, h4⟩ := h.slots t x h1
    exact ⟨h3, h2 _ h4⟩
  · rcases hβ i o ho with hs | hs
    · obtain ⟨x', hx'⟩ := Option.isSome_iff_exists.1 hs
      obtain ⟨l, o2, h1, h2⟩ := hO i o x' ho hx'
      obtain ⟨b, z, g1, g2, g3, g4⟩ := h.objS h1 h2
      rw [h2] at g1; cases g1
      exact .inl ⟨b, z, hx', g2, g3, hOR himm i o _ ho hx'⟩
    · exact .inr hs
/-- Objects that are not told any more. -/
theorem R.lessO (h : R E β N S O a w) (hO : ∀ k o, O' k = some o → O k = some o) : R E β N S O' a w := by
  refine h.retell (fun i hp => (h.pins i hp).2) h.news h.dom (fun k o x ho hx => ⟨k, o, hO k o ho, hx⟩) (fun k o ho => ?_) (fun i j o o' x x' ho ho' hx hx' hne => h.apart i j o o' x x' (hO i o ho) (hO j o' ho') hx hx' hne)
    (fun hi k o x ho hx => ?_) (fun hi t x ht => ⟨x, ht, fun v hv => VV.lasts ⟨hi, fun _ _ => rfl⟩ (fun _ _ h => h) _ _ hv⟩)
  · rcases h.objs k o (hO k o ho) with ⟨b, z, g1, _⟩ | hs
    · left; rw [g1]; rfl
    · exact .inr hs
  · obtain ⟨b, z, g1, _, _, g4⟩ := h.objS (hO k o ho) hx
    rw [hx] at g1; cases g1
    exact OR.lasts ⟨hi, fun _ _ => rfl⟩ (fun _ _ h => h) rfl g4
end
theorem Rel.keepO {E : Env} {σ : St} {a : Act} {w : World} (h : Rel E σ a w) (is : List Nat) : Rel E { σ with O := keepA σ.O is } a w :=
  let ⟨β, h⟩ := h
  ⟨β, h.lessO (lk_keep σ.O is)⟩
end Go.Tl
