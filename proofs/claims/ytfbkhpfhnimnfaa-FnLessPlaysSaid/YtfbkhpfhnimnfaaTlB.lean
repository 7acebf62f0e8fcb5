/-
  The relation between the machine's frame and memory on one side, slots with trees and a store of the call's own objects on the other; what keeps it. No statement of the seat is proved here.
-/
import Derived.Test.YtfbkhpfhnimnfaaTlGlob
namespace Go.Tl
set_option linter.unusedVariables false
set_option linter.unusedSimpArgs false

/-- What a slot holds: a tree, or a handle of an object of the store. -/
inductive V where
  | t (x : T)
  | ref (i o : Nat)
  | own (i sz n : Nat)
  | view (i o sz n : Nat)
  | mapr (i : Nat)
  | agg (vs : List V)
  | tup (vs : List V)
  | fn (f : FuncId) (vs : List V)
  deriving Inhabited

/-- What a handle stands for: a block, and how many cells it has. -/
abbrev Names := Nat → Option (Nat × Nat)

mutual
def VV (w : World) (ok : Nat → Prop) (β : Names) : V → Value → Prop
  | .t x, v => VR w ok x v
  | .ref i o, v => ∃ b z, β i = some (b, z) ∧ v = .pointer (some ⟨b, o, none⟩)
  | .own i sz n, v => (∃ b z cap, β i = some (b, z) ∧ v = .slice (some ⟨b, 0, none⟩) n cap ∧ z = cap * sz ∧ n ≤ cap ∧ cap ≤ maxLen) ∨ (n = 0 ∧ v = .slice none 0 0)
  | .view i o sz n, v => (∃ b z cap, β i = some (b, z) ∧ ∃ o', v = .slice (some ⟨b, o', none⟩) n cap ∧ n ≤ cap ∧ cap ≤ maxLen ∧ (n = 0 ∨ o' = o)) ∨ (n = 0 ∧ v = .slice none 0 0)
  | .mapr i, v => ∃ b z, β i = some (b, z) ∧ v = .map (some b)
  | .agg vs, v => ∃ xs, v = .agg xs ∧ (∀ u ∈ xs.toList, u.oneCell' = true) ∧ VVL w ok β vs xs.toList
  | .tup vs, v => ∃ xs, v = .tuple xs ∧ VVL w ok β vs xs.toList
  | .fn f vs, v => ∃ xs, v = .func (.func f) #[] xs ∧ VVL w ok β vs xs.toList
def VVL (w : World) (ok : Nat → Prop) (β : Names) : List V → List Value → Prop
  | [], vs => vs = []
  | t :: ts, vs => ∃ u us, vs = u :: us ∧ VV w ok β t u ∧ VVL w ok β ts us
end

inductive Obj where
  | cells (e : TypeId) (cs : List T)
  | vars (e : TypeId) (vs : List V)
  | map (es : List (T × T))
  deriving Inhabited

def VLP (w : World) (ok : Nat → Prop) : List (T × T) → List MapEntry → Prop
  | [], ms => ms = []
  | (k, x) :: es, ms => ∃ m r, ms = m :: r ∧ VR w ok k m.key ∧ VR w ok x m.val ∧ VLP w ok es r

/-- The object's block. z: its cells. -/
def OR (w : World) (ok : Nat → Prop) (β : Names) (b z : Nat) : Obj → Prop
  | .cells e cs => ∃ arr us rest, w.heap[b]? = some (.cells arr e (0, 0)) ∧ arr.size = z ∧ arr.toList = us ++ rest ∧ (∀ u ∈ us, u.oneCell' = true) ∧ VL w ok cs us
  | .vars e vs => ∃ arr us rest, w.heap[b]? = some (.cells arr e (0, 0)) ∧ arr.size = z ∧ arr.toList = us ++ rest ∧ (∀ u ∈ us, u.oneCell' = true) ∧ VVL w ok β vs us
  | .map es => ∃ ms clock, w.heap[b]? = some (.map ms clock) ∧ VLP w ok es ms.toList ∧ ∀ m ∈ ms.toList, m.born < clock

section
variable {w w' : World} {ok ok' : Nat → Prop} {β β' : Names}
mutual
theorem VV.lasts (h : Lasts w ok w' ok') (hn : ∀ i x, β i = some x → β' i = some x) : ∀ (t : V) (v : Value), VV w ok β t v → VV w' ok' β' t v
  | .t x, v, hv => by simp only [VV] at hv ⊢; exact VR.lasts h x v hv
  | .ref i o, v, hv => by
    simp only [VV] at hv ⊢
    obtain ⟨b, z, hi, e⟩ := hv
    exact ⟨b, z, hn _ _ hi, e⟩
  | .own i sz n, v, hv => by
    simp only [VV] at hv ⊢
    rcases hv with ⟨b, z, cap, hi, e⟩ | e
    · exact .inl ⟨b, z, cap, hn _ _ hi, e⟩
    · exact .inr e
  | .view i o sz n, v, hv => by
    simp only [VV] at hv ⊢
    rcases hv with ⟨b, z, cap, hi, e⟩ | e
    · exact .inl ⟨b, z, cap, hn _ _ hi, e⟩
    · exact .inr e
  | .mapr i, v, hv => by
    simp only [VV] at hv ⊢
    obtain ⟨b, z, hi, e⟩ := hv
    exact ⟨b, z, hn _ _ hi, e⟩
  | .agg vs, v, hv => by
    simp only [VV] at hv ⊢
    obtain ⟨xs, e, h1, hc⟩ := hv
    exact ⟨xs, e, h1, VVL.lasts h hn vs _ hc⟩
  | .tup vs, v, hv => by
    simp only [VV] at hv ⊢
    obtain ⟨xs, e, hc⟩ := hv
    exact ⟨xs, e, VVL.lasts h hn vs _ hc⟩
  | .fn f vs, v, hv => by
    simp only [VV] at hv ⊢
    obtain ⟨xs, e, hc⟩ := hv
    exact ⟨xs, e, VVL.lasts h hn vs _ hc⟩
theorem VVL.lasts (h : Lasts w ok w' ok') (hn : ∀ i x, β i = some x → β' i = some x) : ∀ (ts : List V) (vs : List Value), VVL w ok β ts vs → VVL w' ok' β' ts vs
  | [], vs, hv => by simpa only [VVL] using hv
  | t :: ts, vs, hv => by
    simp only [VVL] at hv ⊢
    obtain ⟨u, us, e, hu, hr⟩ := hv
    exact ⟨u, us, e, VV.lasts h hn t u hu, VVL.lasts h hn ts us hr⟩
end
theorem VLP.lasts (h : Lasts w ok w' ok') : ∀ (es : List (T × T)) (ms : List MapEntry), VLP w ok es ms → VLP w' ok' es ms
  | [], ms, hv => by simpa only [VLP] using hv
  | (k, x) :: es, ms, hv => by
    simp only [VLP] at hv ⊢
    obtain ⟨m, r, e, hk, hx, hr⟩ := hv
    exact ⟨m, r, e, VR.lasts h _ _ hk, VR.lasts h _ _ hx, VLP.lasts h es r hr⟩
theorem OR.lasts (h : Lasts w ok w' ok') (hn : ∀ i x, β i = some x → β' i = some x) {b z : Nat} {o : Obj} (hb : w'.heap[b]? = w.heap[b]?) (ho : OR w ok β b z o) : OR w' ok' β' b z o := by
  cases o with
  | cells e cs =>
    obtain ⟨arr, us, rest, h1, h2, h3, h5, h4⟩ := ho
    exact ⟨arr, us, rest, hb.trans h1, h2, h3, h5, VL.lasts h cs us h4⟩
  | vars e cs =>
    obtain ⟨arr, us, rest, h1, h2, h3, h5, h4⟩ := ho
    exact ⟨arr, us, rest, hb.trans h1, h2, h3, h5, VVL.lasts h hn cs us h4⟩
  | map es =>
    obtain ⟨ms, clock, h1, h2, h3⟩ := ho
    exact ⟨ms, clock, hb.trans h1, VLP.lasts h es _ h2, h3⟩
end

/-! ### lists -/
section
variable {w : World} {ok : Nat → Prop} {β : Names}
theorem VVL.length : ∀ {ts : List V} {vs : List Value}, VVL w ok β ts vs → vs.length = ts.length
  | [], vs, h => by simp only [VVL] at h; simp [h]
  | t :: ts, vs, h => by
    simp only [VVL] at h
    obtain ⟨u, us, rfl, _, hr⟩ := h
    simp [VVL.length hr]
theorem VVL.get : ∀ {ts : List V} {vs : List Value} (_ : VVL w ok β ts vs) (i : Nat) (t : V), ts[i]? = some t → ∃ u, vs[i]? = some u ∧ VV w ok β t u
  | [], vs, h, i, t, hi => by simp at hi
  | t0 :: ts, vs, h, i, t, hi => by
    simp only [VVL] at h
    obtain ⟨u, us, rfl, hu, hr⟩ := h
    cases i with
    | zero => simp at hi; subst hi; exact ⟨u, rfl, hu⟩
    | succ i => simp at hi; simpa using VVL.get hr i t hi
theorem VVL.append : ∀ {ts us : List V} {vs xs : List Value}, VVL w ok β ts vs → VVL w ok β us xs → VVL w ok β (ts ++ us) (vs ++ xs)
  | [], us, vs, xs, h, k => by simp only [VVL] at h; subst h; simpa using k
  | t :: ts, us, vs, xs, h, k => by
    simp only [VVL] at h
    obtain ⟨u, vs, rfl, hu, hr⟩ := h
    simp only [List.cons_append, VVL]
    exact ⟨u, vs ++ xs, rfl, hu, VVL.append hr k⟩
theorem VVL.take : ∀ {ts : List V} {vs : List Value} (n : Nat), VVL w ok β ts vs → VVL w ok β (ts.take n) (vs.take n)
  | [], vs, n, h => by simp only [VVL] at h; subst h; simp [VVL]
  | t :: ts, vs, n, h => by
    simp only [VVL] at h
    obtain ⟨u, us, rfl, hu, hr⟩ := h
    cases n with
    | zero => simp [VVL]
    | succ n => simp only [List.take_succ_cons, VVL]; exact ⟨u, us.take n, rfl, hu, VVL.take n hr⟩
theorem VVL.drop : ∀ {ts : List V} {vs : List Value} (n : Nat), VVL w ok β ts vs → VVL w ok β (ts.drop n) (vs.drop n)
  | [], vs, n, h => by simp only [VVL] at h; subst h; simp [VVL]
  | t :: ts, vs, n, h => by
    cases n with
    | zero => simpa using h
    | succ n =>
      simp only [VVL] at h
      obtain ⟨u, us, rfl, hu, hr⟩ := h
      simpa using VVL.drop n hr
theorem VVL.map_t : ∀ {cs : List T} {us : List Value}, VL w ok cs us → VVL w ok β (cs.map V.t) us
  | [], us, h => by simp only [VL] at h; simp only [List.map_nil, VVL]; exact h
  | c :: cs, us, h => by
    simp only [VL] at h
    obtain ⟨u, us, rfl, hu, hr⟩ := h
    simp only [List.map_cons, VVL]
    exact ⟨u, us, rfl, by simpa only [VV] using hu, VVL.map_t hr⟩
/-- The trees of a list of slots that holds trees alone. -/
def pures : List V → Option (List T)
  | [] => some []
  | .t x :: r => (pures r).map (x :: ·)
  | _ :: _ => none
theorem VVL.pures : ∀ {vs : List V} {ts : List T} {us : List Value}, Tl.pures vs = some ts → VVL w ok β vs us → VL w ok ts us
  | [], ts, us, hp, h => by
    simp only [Tl.pures, Option.some.injEq] at hp; subst hp
    simp only [VVL] at h; simp only [VL]; exact h
  | .t x :: r, ts, us, hp, h => by
    simp only [Tl.pures, Option.map_eq_some_iff] at hp
    obtain ⟨ts', hp, rfl⟩ := hp
    simp only [VVL] at h
    obtain ⟨u, us, rfl, hu, hr⟩ := h
    simp only [VL]
    exact ⟨u, us, rfl, by simpa only [VV] using hu, VVL.pures hp hr⟩
  | .ref _ _ :: _, _, _, hp, _ => by simp [Tl.pures] at hp
  | .own _ _ _ :: _, _, _, hp, _ => by simp [Tl.pures] at hp
  | .view _ _ _ _ :: _, _, _, hp, _ => by simp [Tl.pures] at hp
  | .mapr _ :: _, _, _, hp, _ => by simp [Tl.pures] at hp
  | .agg _ :: _, _, _, hp, _ => by simp [Tl.pures] at hp
  | .tup _ :: _, _, _, hp, _ => by simp [Tl.pures] at hp
  | .fn _ _ :: _, _, _, hp, _ => by simp [Tl.pures] at hp
end

/-- What was there at the call, what may be leant on, what may be written. -/
structure Env where
  ok : Nat → Prop
  w0 : World
  X : Nat → Prop
  pin : Nat → Prop
  pinβ : Names

/-- The blocks that nobody writes from here on: those that were let (ok), and what is new, but for the objects of the store. -/
def Imm (E : Env) (O : Nat → Option Obj) (β : Names) (w : World) (b : Nat) : Prop :=
  (E.ok b ∨ E.w0.heap.size ≤ b ∨ E.X b) ∧ b < w.heap.size ∧ ∀ i o x, O i = some o → β i = some x → x.1 ≠ b

structure R (E : Env) (β : Names) (N : List Nat) (S : Nat → Option V) (O : Nat → Option Obj) (a : Act) (w : World) : Prop where
  defers : a.defers = []
  os : w.os = E.w0.os
  tape : w.tape = E.w0.tape
  output : w.output = E.w0.output
  size : E.w0.heap.size ≤ w.heap.size
  old : ∀ b, b < E.w0.heap.size → ¬ E.X b → w.heap[b]? = E.w0.heap[b]?
  okb : ∀ b, E.ok b → b < E.w0.heap.size ∧ ¬ E.X b
  glob : Glob E.ok E.w0
  dom : ∀ i, i ∉ N → β i = none
  slots : ∀ t x, S t = some x → t < a.tmps.size ∧ VV w (Imm E O β w) β x (a.tmps.getD t undef)
  pins : ∀ i, E.pin i → i < 1000 ∧ i ∈ N ∧ β i = E.pinβ i
  news : ∀ i x, 2000 ≤ i → β i = some x → E.w0.heap.size ≤ x.1
  objs : ∀ i o, O i = some o → (∃ b z, β i = some (b, z) ∧ b < w.heap.size ∧ (E.w0.heap.size ≤ b ∨ E.X b) ∧ OR w (Imm E O β w) β b z o) ∨ (i ∈ N ∧ β i = none ∧ ∃ e, o = .cells e [])
  apart : ∀ i j o o' x x', O i = some o → O j = some o' → β i = some x → β j = some x' → i ≠ j → x.1 ≠ x'.1

section
variable {E : Env} {β β' : Names} {N N' : List Nat} {S S' : Nat → Option V} {O O' : Nat → Option Obj} {a a' : Act} {w w' : World}

theorem R.objS (h : R E β N S O a w) {i : Nat} {o : Obj} (ho : O i = some o) {x : Nat × Nat} (hx : β i = some x) : ∃ b z, β i = some (b, z) ∧ b < w.heap.size ∧ (E.w0.heap.size ≤ b ∨ E.X b) ∧ OR w (Imm E O β w) β b z o := by
  rcases h.objs i o ho with h1 | ⟨_, h1, _⟩
  · exact h1
  · rw [hx] at h1; cases h1
theorem R.globI (h : R E β N S O a w) : Glob (Imm E O β w) w := fun q hq => by
  obtain ⟨h1, e, f, h2⟩ := h.glob q hq
  obtain ⟨h3, h4⟩ := h.okb _ h1
  refine ⟨⟨.inl h1, Nat.lt_of_lt_of_le h3 h.size, fun i o x ho hx hb => ?_⟩, e, f, by rw [h.old _ h3 h4]; exact h2⟩
  obtain ⟨b, z, hb', _, hc, _⟩ := h.objS ho hx
  rw [hx] at hb'; cases hb'
  simp only at hb
  subst hb
  rcases hc with hc | hc
  · exact Nat.not_lt.2 hc h3
  · exact h4 hc
theorem R.inN (h : R E β N S O a w) {i : Nat} {x : Nat × Nat} (hx : β i = some x) : i ∈ N := by
  apply Classical.byContradiction
  intro hn
  rw [h.dom i hn] at hx; cases hx

def upd {α : Type} (S : Nat → Option α) (d : Nat) (x : Option α) : Nat → Option α := fun t => if t = d then x else S t

theorem getD_put_same (a : Act) (d : Nat) (v : Value) (h : d < a.tmps.size) : (a.put (some d) v).tmps.getD d undef = v := by
  simp [Act.put, h]
theorem getD_put_other (a : Act) (d t : Nat) (v : Value) (h : t ≠ d) : (a.put (some d) v).tmps.getD t undef = a.tmps.getD t undef := by
  simp [Act.put, Array.getElem?_setIfInBounds_ne (Ne.symm h)]
theorem size_put (a : Act) (d : Option Nat) (v : Value) : (a.put d v).tmps.size = a.tmps.size := by
  cases d <;> simp [Act.put]
theorem defers_put (a : Act) (d : Option Nat) (v : Value) : (a.put d v).defers = a.defers := by
  cases d <;> simp [Act.put]

/-- Fewer slots. -/
theorem R.less (h : R E β N S O a w) (hs : ∀ t x, S' t = some x → S t = some x) : R E β N S' O a w :=
  ⟨h.defers, h.os, h.tape, h.output, h.size, h.old, h.okb, h.glob, h.dom, fun t x ht => h.slots t x (hs t x ht), h.pins, h.news, h.objs, h.apart⟩

theorem R.put (h : R E β N S O a w) (d : Nat) (hd : d < a.tmps.size) (v : Value) (x : V) (hv : VV w (Imm E O β w) β x v) : R E β N (upd S d (some x)) O (a.put (some d) v) w := by
  refine ⟨by rw [defers_put]; exact h.defers, h.os, h.tape, h.output, h.size, h.old, h.okb, h.glob, h.dom, fun t y ht => ?_, h.pins, h.news, h.objs, h.apart⟩
  rw [size_put]
  by_cases e : t = d
  · subst e
    simp only [upd, if_true, Option.some.injEq] at ht
    subst ht
    exact ⟨hd, by rw [getD_put_same a t v hd]; exact hv⟩
  · simp only [upd, e, if_false] at ht
    obtain ⟨h1, h2⟩ := h.slots t y ht
    exact ⟨h1, by rw [getD_put_other a d t v e]; exact h2⟩
/-- The world goes on: what the readings lean on stays. The one rule behind all that write. -/
theorem R.next (h : R E β N S O a w)
    (os : w'.os = w.os) (tape : w'.tape = w.tape) (output : w'.output = w.output) (size : w.heap.size ≤ w'.heap.size)
    (old : ∀ b, b < E.w0.heap.size → ¬ E.X b → w'.heap[b]? = w.heap[b]?)
    (names : ∀ i, i ∈ N → β' i = β i) (hN : ∀ i, i ∈ N → i ∈ N')
    (news : ∀ i x, i ∉ N → 2000 ≤ i → β' i = some x → E.w0.heap.size ≤ x.1)
    (dom : ∀ i, i ∉ N' → β' i = none)
    (imm : ∀ b, Imm E O β w b → Imm E O' β' w' b ∧ w'.heap[b]? = w.heap[b]?)
    (objs : ∀ i o, O' i = some o → (O i = some o ∧ ∀ x, β i = some x → w'.heap[x.1]? = w.heap[x.1]?) ∨ (∃ b z, β' i = some (b, z) ∧ b < w'.heap.size ∧ (E.w0.heap.size ≤ b ∨ E.X b) ∧ OR w' (Imm E O' β' w') β' b z o) ∨ (i ∈ N' ∧ β' i = none ∧ ∃ e, o = .cells e []))
    (apart : ∀ i j o o' x x', O' i = some o → O' j = some o' → β' i = some x → β' j = some x' → i ≠ j → x.1 ≠ x'.1) :
    R E β' N' S O' a w' ∧ Lasts w (Imm E O β w) w' (Imm E O' β' w') := by
  have hl : Lasts w (Imm E O β w) w' (Imm E O' β' w') := ⟨fun b hb => (imm b hb).1, fun b hb => (imm b hb).2⟩
  have names' : ∀ i x, β i = some x → β' i = some x := fun i x hx => by rw [names i (h.inN hx)]; exact hx
  refine ⟨⟨h.defers, os.trans h.os, tape.trans h.tape, output.trans h.output, Nat.le_trans h.size size, fun b hb hx => (old b hb hx).trans (h.old b hb hx), h.okb, h.glob, dom, fun t x ht => ?_, fun i hp => ⟨(h.pins i hp).1, hN i (h.pins i hp).2.1, by rw [names i (h.pins i hp).2.1]; exact (h.pins i hp).2.2⟩, fun i x hi hx => ?_, fun i o ho => ?_, apart⟩, hl⟩
  · obtain ⟨h1, h2⟩ := h.slots t x ht
    exact ⟨h1, VV.lasts hl names' _ _ h2⟩
  · by_cases hm : i ∈ N
    · rw [names i hm] at hx; exact h.news i x hi hx
    · exact news i x hm hi hx
  · rcases objs i o ho with ⟨h1, h2⟩ | h1
    · rcases h.objs i o h1 with ⟨b, z, hb, hlt, hx, hor⟩ | ⟨g1, g2, g3⟩
      · exact .inl ⟨b, z, names' _ _ hb, Nat.lt_of_lt_of_le hlt size, hx, OR.lasts hl names' (h2 _ hb) hor⟩
      · exact .inr ⟨hN i g1, by rw [names i g1]; exact g2, g3⟩
    · exact h1

/-- Only the count of draws has turned. -/
theorem R.drawn (h : R E β N S O a w) (n : Nat) : R E β N S O a { w with drawn := n } :=
  (h.next (w' := { w with drawn := n }) (N' := N) (O' := O) (β' := β) rfl rfl rfl (Nat.le_refl _) (fun _ _ _ => rfl) (fun _ _ => rfl) (fun _ h => h) (fun i x hn _ hx => absurd (h.inN hx) hn) h.dom (fun b hb => ⟨hb, rfl⟩) (fun i o ho => .inl ⟨ho, fun _ _ => rfl⟩) h.apart).1

theorem heap_push_old (w : World) (o : Go.Obj) (b : Nat) (hb : b < w.heap.size) : (w.alloc o).heap[b]? = w.heap[b]? := by
  show (w.heap.push o)[b]? = _
  rw [Array.getElem?_push, if_neg (Nat.ne_of_lt hb)]
theorem heap_push_new (w : World) (o : Go.Obj) : (w.alloc o).heap[w.heap.size]? = some o := by
  show (w.heap.push o)[w.heap.size]? = _
  rw [Array.getElem?_push, if_pos rfl]
theorem heap_push_size (w : World) (o : Go.Obj) : (w.alloc o).heap.size = w.heap.size + 1 := Array.size_push ..

/-- A new block that is nobody's object: it may be leant on. -/
theorem R.allocImm (h : R E β N S O a w) (o : Go.Obj) : R E β N S O a (w.alloc o) ∧ Lasts w (Imm E O β w) (w.alloc o) (Imm E O β (w.alloc o)) ∧ Imm E O β (w.alloc o) w.heap.size := by
  have himm : ∀ b, Imm E O β w b → Imm E O β (w.alloc o) b ∧ (w.alloc o).heap[b]? = w.heap[b]? := fun b hb =>
    ⟨⟨hb.1, by rw [heap_push_size]; exact Nat.lt_succ_of_lt hb.2.1, hb.2.2⟩, heap_push_old w o b hb.2.1⟩
  obtain ⟨h1, h2⟩ := h.next (w' := w.alloc o) rfl rfl rfl (by rw [heap_push_size]; omega) (fun b hb _ => heap_push_old w o b (Nat.lt_of_lt_of_le hb h.size)) (fun _ _ => rfl) (fun _ h => h) (fun i x hn _ hx => absurd (h.inN hx) hn) h.dom himm
    (fun i ob ho => .inl ⟨ho, fun x hx => by
      obtain ⟨b, z, hb, hlt, _⟩ := h.objS ho hx
      rw [hx] at hb; cases hb
      exact heap_push_old w o b hlt⟩) h.apart
  refine ⟨h1, h2, .inr (.inl h.size), by rw [heap_push_size]; omega, fun i ob x ho hx e => ?_⟩
  obtain ⟨b, z, hb, hlt, _⟩ := h.objS ho hx
  rw [hx] at hb; cases hb
  simp only at e
  omega

theorem upd_same {α : Type} (S : Nat → Option α) (d : Nat) (x : Option α) : upd S d x d = x := by simp [upd]
theorem upd_other {α : Type} (S : Nat → Option α) (d t : Nat) (x : Option α) (h : t ≠ d) : upd S d x t = S t := by simp [upd, h]

/-- A new object. -/
theorem R.allocObj (h : R E β N S O a w) (j z : Nat) (hj : j ∉ N) (o : Go.Obj) (ob : Obj)
    (hor : OR (w.alloc o) (Imm E O β w) β w.heap.size z ob) :
    R E (upd β j (some (w.heap.size, z))) (j :: N) S (upd O j (some ob)) a (w.alloc o) ∧ Lasts w (Imm E O β w) (w.alloc o) (Imm E (upd O j (some ob)) (upd β j (some (w.heap.size, z))) (w.alloc o)) := by
  have hβ := h.dom j hj
  have hOj : O j = none := by
    cases ho : O j with
    | none => rfl
    | some o' =>
      rcases h.objs j o' ho with ⟨b, z, hb, _⟩ | ⟨hb, _⟩
      · rw [hβ] at hb; cases hb
      · exact absurd hb hj
  have hnamesN : ∀ i, i ∈ N → upd β j (some (w.heap.size, z)) i = β i := fun i hi => by
    rw [upd_other]
    rintro rfl; exact hj hi
  have hnames : ∀ i x, β i = some x → upd β j (some (w.heap.size, z)) i = some x := fun i x hx => by
    rw [upd_other]; exact hx
    rintro rfl; rw [hβ] at hx; cases hx
  have himm : ∀ b, Imm E O β w b → Imm E (upd O j (some ob)) (upd β j (some (w.heap.size, z))) (w.alloc o) b ∧ (w.alloc o).heap[b]? = w.heap[b]? := fun b hb => by
    refine ⟨⟨hb.1, by rw [heap_push_size]; exact Nat.lt_succ_of_lt hb.2.1, fun i o' x ho hx => ?_⟩, heap_push_old w o b hb.2.1⟩
    by_cases e : i = j
    · subst e
      rw [upd_same] at hx; cases hx
      exact Nat.ne_of_gt hb.2.1
    · rw [upd_other _ _ _ _ e] at ho hx
      exact hb.2.2 i o' x ho hx
  have hl : Lasts w (Imm E O β w) (w.alloc o) (Imm E (upd O j (some ob)) (upd β j (some (w.heap.size, z))) (w.alloc o)) := ⟨fun b hb => (himm b hb).1, fun b hb => (himm b hb).2⟩
  refine h.next rfl rfl rfl (by rw [heap_push_size]; omega) (fun b hb _ => heap_push_old w o b (Nat.lt_of_lt_of_le hb h.size)) hnamesN (fun i hi => List.mem_cons_of_mem _ hi)
    (fun i x hn _ hx => by
      by_cases e : i = j
      · subst e; rw [upd_same] at hx; cases hx; exact h.size
      · rw [upd_other _ _ _ _ e] at hx; exact absurd (h.inN hx) hn)
    (fun i hi => by
      rw [upd_other _ _ _ _ (fun e => hi (by rw [e]; exact List.mem_cons_self))]
      exact h.dom i (fun hm => hi (List.mem_cons_of_mem _ hm))) himm (fun i o' ho => ?_) (fun i k o' o'' x x' ho ho' hx hx' hne => ?_)
  · by_cases e : i = j
    · subst e
      rw [upd_same] at ho; cases ho
      refine .inr (.inl ⟨w.heap.size, z, upd_same _ _ _, by rw [heap_push_size]; omega, .inl h.size, ?_⟩)
      exact OR.lasts (w := w.alloc o) ⟨fun b hb => (himm b hb).1, fun _ _ => rfl⟩ hnames rfl hor
    · rw [upd_other _ _ _ _ e] at ho
      refine .inl ⟨ho, fun x hx => ?_⟩
      obtain ⟨b, z, hb, hlt, _⟩ := h.objS ho hx
      rw [hx] at hb; cases hb
      exact heap_push_old w o b hlt
  · have hlt : ∀ i o' x, O i = some o' → β i = some x → x.1 < w.heap.size := fun i o' x ho hx => by
      obtain ⟨b, z, hb, hlt, _⟩ := h.objS ho hx
      rw [hx] at hb; cases hb
      exact hlt
    by_cases e : i = j
    · subst e
      rw [upd_same] at hx; cases hx
      have ek : k ≠ i := Ne.symm hne
      rw [upd_other _ _ _ _ ek] at ho' hx'
      exact Nat.ne_of_gt (hlt k o'' x' ho' hx')
    · rw [upd_other _ _ _ _ e] at ho hx
      by_cases ek : k = j
      · subst ek
        rw [upd_same] at hx'; cases hx'
        exact Nat.ne_of_lt (hlt i o' x ho hx)
      · rw [upd_other _ _ _ _ ek] at ho' hx'
        exact h.apart i k o' o'' x x' ho ho' hx hx' hne

/-- An object's block is written. -/
theorem R.write (h : R E β N S O a w) (i b z : Nat) (o ob : Obj) (hi : O i = some o) (hb : β i = some (b, z))
    (os : w'.os = w.os) (tape : w'.tape = w.tape) (output : w'.output = w.output) (size : w'.heap.size = w.heap.size)
    (same : ∀ c, c ≠ b → w'.heap[c]? = w.heap[c]?)
    (hor : OR w' (Imm E O β w) β b z ob) :
    R E β N S (upd O i (some ob)) a w' ∧ Lasts w (Imm E O β w) w' (Imm E (upd O i (some ob)) β w') := by
  have hbb : b < w.heap.size ∧ (E.w0.heap.size ≤ b ∨ E.X b) := by
    obtain ⟨b', z', hb', h1, h2, _⟩ := h.objS hi hb
    rw [hb] at hb'; cases hb'
    exact ⟨h1, h2⟩
  have himm : ∀ c, Imm E O β w c → Imm E (upd O i (some ob)) β w' c ∧ w'.heap[c]? = w.heap[c]? := fun c hc => by
    refine ⟨⟨hc.1, by rw [size]; exact hc.2.1, fun k o' x ho hx => ?_⟩, same c (fun e => hc.2.2 i o _ hi hb (by simp [e]))⟩
    by_cases e : k = i
    · subst e
      exact hc.2.2 k o x hi hx
    · rw [upd_other _ _ _ _ e] at ho
      exact hc.2.2 k o' x ho hx
  refine h.next os tape output (Nat.le_of_eq size.symm) (fun c hc hx => same c (fun e => ?_)) (fun _ _ => rfl) (fun _ h => h) (fun i x hn _ hx => absurd (h.inN hx) hn) h.dom himm (fun k o' ho => ?_) (fun k l o' o'' x x' ho ho' hx hx' hne => ?_)
  · subst e
    rcases hbb.2 with h' | h'
    · omega
    · exact hx h'
  · by_cases e : k = i
    · subst e
      rw [upd_same] at ho; cases ho
      refine .inr (.inl ⟨b, z, hb, by rw [size]; exact hbb.1, hbb.2, ?_⟩)
      exact OR.lasts (w := w') ⟨fun b hb => (himm b hb).1, fun _ _ => rfl⟩ (fun _ _ h => h) rfl hor
    · rw [upd_other _ _ _ _ e] at ho
      refine .inl ⟨ho, fun x hx => same _ (fun hxb => ?_)⟩
      exact h.apart k i o' o x (b, z) ho hi hx hb e hxb
  · have get : ∀ k o', upd O i (some ob) k = some o' → ∃ o'', O k = some o'' := fun k o' hk => by
      by_cases e : k = i
      · exact ⟨o, e ▸ hi⟩
      · rw [upd_other _ _ _ _ e] at hk; exact ⟨o', hk⟩
    obtain ⟨p, hp⟩ := get k o' ho
    obtain ⟨q, hq⟩ := get l o'' ho'
    exact h.apart k l p q x x' hp hq hx hx' hne
end
end Go.Tl
