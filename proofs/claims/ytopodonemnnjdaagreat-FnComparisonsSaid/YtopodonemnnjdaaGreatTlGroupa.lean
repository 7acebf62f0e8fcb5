/-
  Trees for Go values, contracts of functions and the steps of the walks: texts of the layer, put together. No statement of the seat is proved here.
-/
import Derived.WalkKit
import Derived.Deep.MidRow
import Derived.Laws.CopyRow
import Derived.Great.BuildSlice
import Derived.Laws.MakeOwn
import Derived.Maps.AppendAt
section
namespace Go.Tl
set_option linter.unusedVariables false
set_option linter.unusedSimpArgs false

inductive T where
  | int (k : IntKind) (n : Int)
  | bool (b : Bool)
  | str (s : ByteArray)
  | list (n sz : Nat) (cs : List T)
  | nils
  | agg (cs : List T)
  | tup (cs : List T)
  | ptr (cs : List T)
  | pa (b : Nat) (cs : List T)
  | nilp
  | fn (f : FuncId) (pre cs : List T)
  | rows (n sz : Nat) (cs : List T)
  | zlist
  | nilf
  | nili
  | iface (t : TypeId) (x : T)
  | nilm
  | mapt (ks xs : List T)
  | undef
  deriving Inhabited


mutual
def VR (w : World) (ok : Nat → Prop) : T → Value → Prop
  | .int k n, v => v = .int k n
  | .bool b, v => v = .bool b
  | .str s, v => v = .string s
  | .list n sz cs, v => cs.length = n * sz ∧ ∃ A cap, v = .slice A n cap ∧ n ≤ cap ∧ cap ≤ maxLen ∧ (n = 0 ∨ ∃ b o, A = some ⟨b, o, none⟩ ∧ ok b ∧ VA w ok cs b o)
  | .nils, v => v = .slice none 0 0
  | .agg cs, v => ∃ vs, v = .agg vs ∧ (∀ u ∈ vs.toList, u.oneCell' = true) ∧ VL w ok cs vs.toList
  | .tup cs, v => ∃ vs, v = .tuple vs ∧ VL w ok cs vs.toList
  | .ptr cs, v => ∃ b o, v = .pointer (some ⟨b, o, none⟩) ∧ ok b ∧ VA w ok cs b o
  | .pa b cs, v => v = .pointer (some ⟨b, 0, none⟩) ∧ ok b ∧ (∃ arr e, w.heap[b]? = some (.cells arr e (0, 0))) ∧ VA w ok cs b 0
  | .nilp, v => v = .pointer none
  | .fn f pre cs, v => ∃ ps vs, v = .func (.func f) ps vs ∧ VL w ok pre ps.toList ∧ VL w ok cs vs.toList
  | .rows n sz cs, v => cs.length = n * sz ∧ ∃ ad cap, v = .slice (some ad) n cap ∧ n ≤ cap ∧ cap ≤ maxLen ∧ (n = 0 ∨ ∃ b o, ad = ⟨b, o, none⟩ ∧ ok b ∧ VA w ok cs b o)
  | .zlist, v => ∃ cap, v = .slice none 0 cap
  | .nilf, v => v = .nilFunc
  | .nili, v => v = .nilIface
  | .iface t x, v => ∃ u, v = .iface t u ∧ VR w ok x u
  | .nilm, v => v = .map none
  | .mapt ks xs, v => ∃ b ms clock, v = .map (some b) ∧ ok b ∧ w.heap[b]? = some (.map ms clock) ∧ VL w ok ks (ms.toList.map (·.key)) ∧ VL w ok xs (ms.toList.map (·.val))
  | .undef, v => v = Go.undef
def VL (w : World) (ok : Nat → Prop) : List T → List Value → Prop
  | [], vs => vs = []
  | t :: ts, vs => ∃ u us, vs = u :: us ∧ VR w ok t u ∧ VL w ok ts us
def VA (w : World) (ok : Nat → Prop) : List T → Nat → Nat → Prop
  | [], _, _ => True
  | t :: ts, b, o => (∃ u, w.cell? ⟨b, o, none⟩ = some u ∧ u.oneCell' = true ∧ VR w ok t u) ∧ VA w ok ts b (o + 1)
end

structure Lasts (w : World) (ok : Nat → Prop) (w' : World) (ok' : Nat → Prop) : Prop where
  lets : ∀ b, ok b → ok' b
  same : ∀ b, ok b → w'.heap[b]? = w.heap[b]?

theorem Lasts.refl (w : World) (ok : Nat → Prop) : Lasts w ok w ok := ⟨fun _ h => h, fun _ _ => rfl⟩

theorem cell_same {w w' : World} {b : Nat} (h : w'.heap[b]? = w.heap[b]?) (o : Nat) : w'.cell? ⟨b, o, none⟩ = w.cell? ⟨b, o, none⟩ := World.cell?_of_block (a := ⟨b, o, none⟩) h

section
variable {w w' : World} {ok ok' : Nat → Prop}
mutual
theorem VR.lasts (h : Lasts w ok w' ok') : ∀ (t : T) (v : Value), VR w ok t v → VR w' ok' t v
  | .int k n, v, hv => by simpa only [VR] using hv
  | .bool b, v, hv => by simpa only [VR] using hv
  | .str s, v, hv => by simpa only [VR] using hv
  | .list n sz cs, v, hv => by
    simp only [VR] at hv ⊢
    obtain ⟨hl, A, cap, e, h1, h2, h3⟩ := hv
    refine ⟨hl, A, cap, e, h1, h2, ?_⟩
    rcases h3 with h3 | ⟨b, o, hA, hb, hc⟩
    · exact .inl h3
    · exact .inr ⟨b, o, hA, h.lets b hb, VA.lasts h cs b o (h.same b hb) hc⟩
  | .nils, v, hv => by simpa only [VR] using hv
  | .agg cs, v, hv => by
    simp only [VR] at hv ⊢
    obtain ⟨vs, e, h1, hc⟩ := hv
    exact ⟨vs, e, h1, VL.lasts h cs _ hc⟩
  | .tup cs, v, hv => by
    simp only [VR] at hv ⊢
    obtain ⟨vs, e, hc⟩ := hv
    exact ⟨vs, e, VL.lasts h cs _ hc⟩
  | .ptr cs, v, hv => by
    simp only [VR] at hv ⊢
    obtain ⟨b, o, e, hb, hc⟩ := hv
    exact ⟨b, o, e, h.lets b hb, VA.lasts h cs b o (h.same b hb) hc⟩
  | .pa b cs, v, hv => by
    simp only [VR] at hv ⊢
    obtain ⟨e, hb, ⟨arr, t, hh⟩, hc⟩ := hv
    exact ⟨e, h.lets b hb, ⟨arr, t, by rw [h.same b hb]; exact hh⟩, VA.lasts h cs b 0 (h.same b hb) hc⟩
  | .nilp, v, hv => by simpa only [VR] using hv
  | .fn f pre cs, v, hv => by
    simp only [VR] at hv ⊢
    obtain ⟨ps, vs, e, hp, hc⟩ := hv
    exact ⟨ps, vs, e, VL.lasts h pre _ hp, VL.lasts h cs _ hc⟩
  | .rows n sz cs, v, hv => by
    simp only [VR] at hv ⊢
    obtain ⟨hl, A, cap, e, h1, h2, h3⟩ := hv
    refine ⟨hl, A, cap, e, h1, h2, ?_⟩
    rcases h3 with h3 | ⟨b, o, hA, hb, hc⟩
    · exact .inl h3
    · exact .inr ⟨b, o, hA, h.lets b hb, VA.lasts h cs b o (h.same b hb) hc⟩
  | .zlist, v, hv => by simpa only [VR] using hv
  | .nilf, v, hv => by simpa only [VR] using hv
  | .nili, v, hv => by simpa only [VR] using hv
  | .iface t x, v, hv => by
    simp only [VR] at hv ⊢
    obtain ⟨u, e, hu⟩ := hv
    exact ⟨u, e, VR.lasts h x u hu⟩
  | .nilm, v, hv => by simpa only [VR] using hv
  | .mapt ks xs, v, hv => by
    simp only [VR] at hv ⊢
    obtain ⟨b, ms, clock, e, hb, hh, h1, h2⟩ := hv
    exact ⟨b, ms, clock, e, h.lets b hb, by rw [h.same b hb]; exact hh, VL.lasts h ks _ h1, VL.lasts h xs _ h2⟩
  | .undef, v, hv => by simpa only [VR] using hv
theorem VL.lasts (h : Lasts w ok w' ok') : ∀ (ts : List T) (vs : List Value), VL w ok ts vs → VL w' ok' ts vs
  | [], vs, hv => by simpa only [VL] using hv
  | t :: ts, vs, hv => by
    simp only [VL] at hv ⊢
    obtain ⟨u, us, e, hu, hr⟩ := hv
    exact ⟨u, us, e, VR.lasts h t u hu, VL.lasts h ts us hr⟩
theorem VA.lasts (h : Lasts w ok w' ok') : ∀ (ts : List T) (b o : Nat), w'.heap[b]? = w.heap[b]? → VA w ok ts b o → VA w' ok' ts b o
  | [], b, o, _, _ => by simp only [VA]
  | t :: ts, b, o, hb, hv => by
    simp only [VA] at hv ⊢
    obtain ⟨⟨u, hc, h1, hu⟩, hr⟩ := hv
    exact ⟨⟨u, (cell_same hb o).trans hc, h1, VR.lasts h t u hu⟩, VA.lasts h ts b (o + 1) hb hr⟩
end
end

/-! ### lists of readings -/
section
variable {w : World} {ok : Nat → Prop}
theorem VL.length : ∀ {ts : List T} {vs : List Value}, VL w ok ts vs → vs.length = ts.length
  | [], vs, h => by simp only [VL] at h; simp [h]
  | t :: ts, vs, h => by
    simp only [VL] at h
    obtain ⟨u, us, rfl, _, hr⟩ := h
    simp [VL.length hr]
theorem VL.get : ∀ {ts : List T} {vs : List Value} (_ : VL w ok ts vs) (i : Nat) (t : T), ts[i]? = some t → ∃ u, vs[i]? = some u ∧ VR w ok t u
  | [], vs, h, i, t, hi => by simp at hi
  | t0 :: ts, vs, h, i, t, hi => by
    simp only [VL] at h
    obtain ⟨u, us, rfl, hu, hr⟩ := h
    cases i with
    | zero => simp at hi; subst hi; exact ⟨u, rfl, hu⟩
    | succ i => simp at hi; simpa using VL.get hr i t hi
theorem VL.append : ∀ {ts us : List T} {vs xs : List Value}, VL w ok ts vs → VL w ok us xs → VL w ok (ts ++ us) (vs ++ xs)
  | [], us, vs, xs, h, k => by simp only [VL] at h; subst h; simpa using k
  | t :: ts, us, vs, xs, h, k => by
    simp only [VL] at h
    obtain ⟨u, vs, rfl, hu, hr⟩ := h
    simp only [List.cons_append, VL]
    exact ⟨u, vs ++ xs, rfl, hu, VL.append hr k⟩
theorem VL.take : ∀ {ts : List T} {vs : List Value} (n : Nat), VL w ok ts vs → VL w ok (ts.take n) (vs.take n)
  | [], vs, n, h => by simp only [VL] at h; subst h; simp [VL]
  | t :: ts, vs, n, h => by
    simp only [VL] at h
    obtain ⟨u, us, rfl, hu, hr⟩ := h
    cases n with
    | zero => simp [VL]
    | succ n => simp only [List.take_succ_cons, VL]; exact ⟨u, us.take n, rfl, hu, VL.take n hr⟩
theorem VL.drop : ∀ {ts : List T} {vs : List Value} (n : Nat), VL w ok ts vs → VL w ok (ts.drop n) (vs.drop n)
  | [], vs, n, h => by simp only [VL] at h; subst h; simp [VL]
  | t :: ts, vs, n, h => by
    cases n with
    | zero => simpa using h
    | succ n =>
      simp only [VL] at h
      obtain ⟨u, us, rfl, hu, hr⟩ := h
      simpa using VL.drop n hr
theorem VA.get : ∀ {ts : List T} {b o : Nat} (_ : VA w ok ts b o) (i : Nat) (t : T), ts[i]? = some t → ∃ u, w.cell? ⟨b, o + i, none⟩ = some u ∧ u.oneCell' = true ∧ VR w ok t u
  | [], b, o, h, i, t, hi => by simp at hi
  | t0 :: ts, b, o, h, i, t, hi => by
    simp only [VA] at h
    obtain ⟨⟨u, hc, h1, hu⟩, hr⟩ := h
    cases i with
    | zero => simp at hi; subst hi; exact ⟨u, hc, h1, hu⟩
    | succ i => simp at hi; have := VA.get hr i t hi; rwa [Nat.add_assoc, Nat.add_comm 1 i] at this
theorem VA.of : ∀ {ts : List T} {b o : Nat}, (∀ i t, ts[i]? = some t → ∃ u, w.cell? ⟨b, o + i, none⟩ = some u ∧ u.oneCell' = true ∧ VR w ok t u) → VA w ok ts b o
  | [], b, o, _ => by simp only [VA]
  | t :: ts, b, o, h => by
    simp only [VA]
    refine ⟨h 0 t rfl, VA.of fun i u hi => ?_⟩
    have := h (i + 1) u (by simpa using hi)
    rwa [Nat.add_assoc, Nat.add_comm 1 i]
theorem VA.drop {ts : List T} {b o : Nat} (n : Nat) (h : VA w ok ts b o) : VA w ok (ts.drop n) b (o + n) :=
  VA.of fun i t hi => by
    have := VA.get h (n + i) t (by simpa [List.getElem?_drop] using hi)
    rwa [← Nat.add_assoc] at this
theorem VA.take {ts : List T} {b o : Nat} (n : Nat) (h : VA w ok ts b o) : VA w ok (ts.take n) b o :=
  VA.of fun i t hi => VA.get h i t (by
    rw [List.getElem?_take] at hi
    split at hi
    · exact hi
    · cases hi)
theorem VA.cells : ∀ {ts : List T} {b o : Nat}, VA w ok ts b o → ∃ vs : List Value, VL w ok ts vs ∧ (∀ u ∈ vs, u.oneCell' = true) ∧ ∀ i u, vs[i]? = some u → w.cell? ⟨b, o + i, none⟩ = some u
  | [], b, o, _ => ⟨[], by simp only [VL], fun u h => by simp at h, fun i u h => by simp at h⟩
  | t :: ts, b, o, h => by
    simp only [VA] at h
    obtain ⟨⟨u, hc, h1, hu⟩, hr⟩ := h
    obtain ⟨vs, hl, h1s, hcs⟩ := VA.cells hr
    refine ⟨u :: vs, by simp only [VL]; exact ⟨u, vs, rfl, hu, hl⟩, fun x hx => ?_, fun i x hi => ?_⟩
    · rcases List.mem_cons.1 hx with rfl | hx
      · exact h1
      · exact h1s x hx
    · cases i with
      | zero => simp at hi; subst hi; exact hc
      | succ i => simp at hi; have := hcs i x hi; rwa [Nat.add_assoc, Nat.add_comm 1 i] at this
theorem VA.of_cells : ∀ {ts : List T} {vs : List Value} {b o : Nat}, VL w ok ts vs → (∀ u ∈ vs, u.oneCell' = true) → (∀ i u, vs[i]? = some u → w.cell? ⟨b, o + i, none⟩ = some u) → VA w ok ts b o
  | [], _, _, _, _, _, _ => by simp only [VA]
  | t :: ts, vs, b, o, hl, h1, hc => by
    simp only [VL] at hl
    obtain ⟨u, us, rfl, hu, hr⟩ := hl
    simp only [VA]
    refine ⟨⟨u, hc 0 u rfl, h1 u List.mem_cons_self, hu⟩, VA.of_cells hr (fun x hx => h1 x (List.mem_cons_of_mem _ hx)) fun i x hi => ?_⟩
    have := hc (i + 1) x (by simpa using hi)
    rwa [Nat.add_assoc, Nat.add_comm 1 i]
end

/-! ### cells -/
def T.cells : T → List T
  | .agg cs => cs
  | t => [t]
def T.one : T → Bool
  | .agg _ | .tup _ | .undef => false
  | _ => true
theorem VR.cells {w : World} {ok : Nat → Prop} {t : T} {v : Value} (h : VR w ok t v) (ha : t.one = true ∨ ∃ cs, t = .agg cs) : VL w ok t.cells v.cells.toList := by
  rcases ha with ha | ⟨cs, rfl⟩
  · cases t <;> simp only [T.one, Bool.false_eq_true] at ha <;> simp only [VR] at h <;> simp only [T.cells, VL]
    case int => subst h; exact ⟨_, [], rfl, by simp only [VR], rfl⟩
    case bool => subst h; exact ⟨_, [], rfl, by simp only [VR], rfl⟩
    case str => subst h; exact ⟨_, [], rfl, by simp only [VR], rfl⟩
    case nils => subst h; exact ⟨_, [], rfl, by simp only [VR], rfl⟩
    case nilp => subst h; exact ⟨_, [], rfl, by simp only [VR], rfl⟩
    case nilf => subst h; exact ⟨_, [], rfl, by simp only [VR], rfl⟩
    case nili => subst h; exact ⟨_, [], rfl, by simp only [VR], rfl⟩
    case list n sz cs => obtain ⟨hl, A, cap, rfl, hr⟩ := h; exact ⟨_, [], rfl, by simp only [VR]; exact ⟨hl, A, cap, rfl, hr⟩, rfl⟩
    case ptr cs => obtain ⟨b, o, rfl, hr⟩ := h; exact ⟨_, [], rfl, by simp only [VR]; exact ⟨b, o, rfl, hr⟩, rfl⟩
    case pa b cs => obtain ⟨rfl, hr⟩ := h; exact ⟨_, [], rfl, by simp only [VR]; exact ⟨trivial, hr⟩, rfl⟩
    case fn f pre cs => obtain ⟨ps, vs, rfl, hr⟩ := h; exact ⟨_, [], rfl, by simp only [VR]; exact ⟨ps, vs, rfl, hr⟩, rfl⟩
    case rows n sz cs => obtain ⟨hl, A, cap, rfl, hr⟩ := h; exact ⟨_, [], rfl, by simp only [VR]; exact ⟨hl, A, cap, rfl, hr⟩, rfl⟩
    case zlist => obtain ⟨cap, rfl⟩ := h; exact ⟨_, [], rfl, by simp only [VR]; exact ⟨cap, rfl⟩, rfl⟩
    case iface t x => obtain ⟨u, rfl, hr⟩ := h; exact ⟨_, [], rfl, by simp only [VR]; exact ⟨u, rfl, hr⟩, rfl⟩
    case nilm => subst h; exact ⟨_, [], rfl, by simp only [VR], rfl⟩
    case mapt => obtain ⟨b, ms, clock, rfl, hr⟩ := h; exact ⟨_, [], rfl, by simp only [VR]; exact ⟨b, ms, clock, rfl, hr⟩, rfl⟩
  · simp only [VR] at h
    obtain ⟨vs, rfl, _, hv⟩ := h
    exact hv
theorem VR.oneCell {w : World} {ok : Nat → Prop} {t : T} {v : Value} (h : VR w ok t v) (ha : t.one = true) : v.oneCell' = true := by
  cases t <;> simp only [T.one, Bool.false_eq_true] at ha <;> simp only [VR] at h
  case int => subst h; rfl
  case bool => subst h; rfl
  case str => subst h; rfl
  case nils => subst h; rfl
  case nilp => subst h; rfl
  case nilf => subst h; rfl
  case nili => subst h; rfl
  case list n sz cs => obtain ⟨hl, A, cap, rfl, hr⟩ := h; rfl
  case ptr cs => obtain ⟨b, o, rfl, hr⟩ := h; rfl
  case pa b cs => obtain ⟨rfl, hr⟩ := h; rfl
  case fn f pre cs => obtain ⟨ps, vs, rfl, hr⟩ := h; rfl
  case rows n sz cs => obtain ⟨hl, A, cap, rfl, hr⟩ := h; rfl
  case zlist => obtain ⟨cap, rfl⟩ := h; rfl
  case iface t x => obtain ⟨u, rfl, hr⟩ := h; rfl
  case nilm => subst h; rfl
  case mapt => obtain ⟨b, ms, clock, rfl, hr⟩ := h; rfl
theorem VR.ones {w : World} {ok : Nat → Prop} {t : T} {v : Value} (h : VR w ok t v) (ha : t.one = true ∨ ∃ cs, t = .agg cs) : ∀ u ∈ v.cells.toList, u.oneCell' = true := by
  rcases ha with ha | ⟨cs, rfl⟩
  · have h1 := VR.oneCell h ha
    intro u hu
    have : v.cells.toList = [v] := by cases v <;> first | rfl | cases h1
    rw [this] at hu
    rw [List.mem_singleton.1 hu]; exact h1
  · simp only [VR] at h
    obtain ⟨vs, rfl, h1, _⟩ := h
    exact h1
end Go.Tl
end
section
namespace Go.Tl
def laidB : List (Nat × Array Value) := []
def Glob (ok : Nat → Prop) (w : World) : Prop := ∀ q ∈ laidB, ok q.1 ∧ ∃ e f, w.heap[q.1]? = some (.cells q.2 e f)
theorem Glob.lasts {ok ok' : Nat → Prop} {w w' : World} (h : Lasts w ok w' ok') (g : Glob ok w) : Glob ok' w' := fun q hq => by
  obtain ⟨h1, e, f, h2⟩ := g q hq
  exact ⟨h.lets _ h1, e, f, by rw [h.same _ h1]; exact h2⟩
end Go.Tl
end
section
namespace Go.Tl
set_option linter.unusedVariables false
set_option linter.unusedSimpArgs false

inductive V where
  | t (x : T)
  | ref (i o : Nat)
  | own (i sz n : Nat)
  | view (i o sz n : Nat)
  | mapr (i : Nat)
  | agg (vs : List V)
  | tup (vs : List V)
  | fn (f : FuncId) (vs : List V)
  deriving Inhabited

abbrev Names := Nat → Option (Nat × Nat)

mutual
def VV (w : World) (ok : Nat → Prop) (β : Names) : V → Value → Prop
  | .t x, v => VR w ok x v
  | .ref i o, v => ∃ b z, β i = some (b, z) ∧ v = .pointer (some ⟨b, o, none⟩)
  | .own i sz n, v => (∃ b z cap, β i = some (b, z) ∧ v = .slice (some ⟨b, 0, none⟩) n cap ∧ z = cap * sz ∧ n ≤ cap ∧ cap ≤ maxLen) ∨ (n = 0 ∧ v = .slice none 0 0)
  | .view i o sz n, v => (∃ b z cap, β i = some (b, z) ∧ ∃ o', v = .slice (some ⟨b, o', none⟩) n cap ∧ n ≤ cap ∧ cap ≤ maxLen ∧ (n = 0 ∨ o' = o)) ∨ (n = 0 ∧ v = .slice none 0 0)
  | .mapr i, v => ∃ b z, β i = some (b, z) ∧ v = .map (some b)
  | .agg vs, v => ∃ xs, v = .agg xs ∧ (∀ u ∈ xs.toList, u.oneCell' = true) ∧ VVL w ok β vs xs.toList
  | .tup vs, v => ∃ xs, v = .tuple xs ∧ VVL w ok β vs xs.toList
  | .fn f vs, v => ∃ xs, v = .func (.func f) #[] xs ∧ VVL w ok β vs xs.toList
def VVL (w : World) (ok : Nat → Prop) (β : Names) : List V → List Value → Prop
  | [], vs => vs = []
  | t :: ts, vs => ∃ u us, vs = u :: us ∧ VV w ok β t u ∧ VVL w ok β ts us
end

inductive Obj where
  | cells (e : TypeId) (cs : List T)
  | vars (e : TypeId) (vs : List V)
  | map (es : List (T × T))
  deriving Inhabited

def VLP (w : World) (ok : Nat → Prop) : List (T × T) → List MapEntry → Prop
  | [], ms => ms = []
  | (k, x) :: es, ms => ∃ m r, ms = m :: r ∧ VR w ok k m.key ∧ VR w ok x m.val ∧ VLP w ok es r

def bk (arr : Array Value) (e : Nat) : Go.Obj := .cells arr (if e < 1048576 then e else e - 1048576) (if e < 1048576 then (0, 0) else (arr.size, arr.size + 1))
theorem bk_lt {arr : Array Value} {e : Nat} (h : e < 1048576) : bk arr e = .cells arr e (0, 0) := by simp [bk, h]
theorem bk_mk (arr : Array Value) (e : Nat) : bk arr (e + 1048576) = .cells arr e (arr.size, arr.size + 1) := by
  have : ¬ (e + 1048576 < 1048576) := by omega
  simp [bk, this]
def OR (w : World) (ok : Nat → Prop) (β : Names) (b z : Nat) : Obj → Prop
  | .cells e cs => ∃ arr us rest, w.heap[b]? = some (bk arr e) ∧ arr.size = z ∧ arr.toList = us ++ rest ∧ (∀ u ∈ us, u.oneCell' = true) ∧ VL w ok cs us
  | .vars e vs => ∃ arr us rest, w.heap[b]? = some (bk arr e) ∧ arr.size = z ∧ arr.toList = us ++ rest ∧ (∀ u ∈ us, u.oneCell' = true) ∧ VVL w ok β vs us
  | .map es => ∃ ms clock, w.heap[b]? = some (.map ms clock) ∧ VLP w ok es ms.toList ∧ ∀ m ∈ ms.toList, m.born < clock

section
variable {w w' : World} {ok ok' : Nat → Prop} {β β' : Names}
mutual
theorem VV.lasts (h : Lasts w ok w' ok') (hn : ∀ i x, β i = some x → β' i = some x) : ∀ (t : V) (v : Value), VV w ok β t v → VV w' ok' β' t v
  | .t x, v, hv => by simp only [VV] at hv ⊢; exact VR.lasts h x v hv
  | .ref i o, v, hv => by
    simp only [VV] at hv ⊢
    obtain ⟨b, z, hi, e⟩ := hv
    exact ⟨b, z, hn _ _ hi, e⟩
  | .own i sz n, v, hv => by
    simp only [VV] at hv ⊢
    rcases hv with ⟨b, z, cap, hi, e⟩ | e
    · exact .inl ⟨b, z, cap, hn _ _ hi, e⟩
    · exact .inr e
  | .view i o sz n, v, hv => by
    simp only [VV] at hv ⊢
    rcases hv with ⟨b, z, cap, hi, e⟩ | e
    · exact .inl ⟨b, z, cap, hn _ _ hi, e⟩
    · exact .inr e
  | .mapr i, v, hv => by
    simp only [VV] at hv ⊢
    obtain ⟨b, z, hi, e⟩ := hv
    exact ⟨b, z, hn _ _ hi, e⟩
  | .agg vs, v, hv => by
    simp only [VV] at hv ⊢
    obtain ⟨xs, e, h1, hc⟩ := hv
    exact ⟨xs, e, h1, VVL.lasts h hn vs _ hc⟩
  | .tup vs, v, hv => by
    simp only [VV] at hv ⊢
    obtain ⟨xs, e, hc⟩ := hv
    exact ⟨xs, e, VVL.lasts h hn vs _ hc⟩
  | .fn f vs, v, hv => by
    simp only [VV] at hv ⊢
    obtain ⟨xs, e, hc⟩ := hv
    exact ⟨xs, e, VVL.lasts h hn vs _ hc⟩
theorem VVL.lasts (h : Lasts w ok w' ok') (hn : ∀ i x, β i = some x → β' i = some x) : ∀ (ts : List V) (vs : List Value), VVL w ok β ts vs → VVL w' ok' β' ts vs
  | [], vs, hv => by simpa only [VVL] using hv
  | t :: ts, vs, hv => by
    simp only [VVL] at hv ⊢
    obtain ⟨u, us, e, hu, hr⟩ := hv
    exact ⟨u, us, e, VV.lasts h hn t u hu, VVL.lasts h hn ts us hr⟩
end
theorem VLP.lasts (h : Lasts w ok w' ok') : ∀ (es : List (T × T)) (ms : List MapEntry), VLP w ok es ms → VLP w' ok' es ms
  | [], ms, hv => by simpa only [VLP] using hv
  | (k, x) :: es, ms, hv => by
    simp only [VLP] at hv ⊢
    obtain ⟨m, r, e, hk, hx, hr⟩ := hv
    exact ⟨m, r, e, VR.lasts h _ _ hk, VR.lasts h _ _ hx, VLP.lasts h es r hr⟩
theorem OR.lasts (h : Lasts w ok w' ok') (hn : ∀ i x, β i = some x → β' i = some x) {b z : Nat} {o : Obj} (hb : w'.heap[b]? = w.heap[b]?) (ho : OR w ok β b z o) : OR w' ok' β' b z o := by
  cases o with
  | cells e cs =>
    obtain ⟨arr, us, rest, h1, h2, h3, h5, h4⟩ := ho
    exact ⟨arr, us, rest, hb.trans h1, h2, h3, h5, VL.lasts h cs us h4⟩
  | vars e cs =>
    obtain ⟨arr, us, rest, h1, h2, h3, h5, h4⟩ := ho
    exact ⟨arr, us, rest, hb.trans h1, h2, h3, h5, VVL.lasts h hn cs us h4⟩
  | map es =>
    obtain ⟨ms, clock, h1, h2, h3⟩ := ho
    exact ⟨ms, clock, hb.trans h1, VLP.lasts h es _ h2, h3⟩
end

/-! ### lists -/
section
variable {w : World} {ok : Nat → Prop} {β : Names}
theorem VVL.length : ∀ {ts : List V} {vs : List Value}, VVL w ok β ts vs → vs.length = ts.length
  | [], vs, h => by simp only [VVL] at h; simp [h]
  | t :: ts, vs, h => by
    simp only [VVL] at h
    obtain ⟨u, us, rfl, _, hr⟩ := h
    simp [VVL.length hr]
theorem VVL.get : ∀ {ts : List V} {vs : List Value} (_ : VVL w ok β ts vs) (i : Nat) (t : V), ts[i]? = some t → ∃ u, vs[i]? = some u ∧ VV w ok β t u
  | [], vs, h, i, t, hi => by simp at hi
  | t0 :: ts, vs, h, i, t, hi => by
    simp only [VVL] at h
    obtain ⟨u, us, rfl, hu, hr⟩ := h
    cases i with
    | zero => simp at hi; subst hi; exact ⟨u, rfl, hu⟩
    | succ i => simp at hi; simpa using VVL.get hr i t hi
theorem VVL.append : ∀ {ts us : List V} {vs xs : List Value}, VVL w ok β ts vs → VVL w ok β us xs → VVL w ok β (ts ++ us) (vs ++ xs)
  | [], us, vs, xs, h, k => by simp only [VVL] at h; subst h; simpa using k
  | t :: ts, us, vs, xs, h, k => by
    simp only [VVL] at h
    obtain ⟨u, vs, rfl, hu, hr⟩ := h
    simp only [List.cons_append, VVL]
    exact ⟨u, vs ++ xs, rfl, hu, VVL.append hr k⟩
theorem VVL.take : ∀ {ts : List V} {vs : List Value} (n : Nat), VVL w ok β ts vs → VVL w ok β (ts.take n) (vs.take n)
  | [], vs, n, h => by simp only [VVL] at h; subst h; simp [VVL]
  | t :: ts, vs, n, h => by
    simp only [VVL] at h
    obtain ⟨u, us, rfl, hu, hr⟩ := h
    cases n with
    | zero => simp [VVL]
    | succ n => simp only [List.take_succ_cons, VVL]; exact ⟨u, us.take n, rfl, hu, VVL.take n hr⟩
theorem VVL.drop : ∀ {ts : List V} {vs : List Value} (n : Nat), VVL w ok β ts vs → VVL w ok β (ts.drop n) (vs.drop n)
  | [], vs, n, h => by simp only [VVL] at h; subst h; simp [VVL]
  | t :: ts, vs, n, h => by
    cases n with
    | zero => simpa using h
    | succ n =>
      simp only [VVL] at h
      obtain ⟨u, us, rfl, hu, hr⟩ := h
      simpa using VVL.drop n hr
theorem VVL.map_t : ∀ {cs : List T} {us : List Value}, VL w ok cs us → VVL w ok β (cs.map V.t) us
  | [], us, h => by simp only [VL] at h; simp only [List.map_nil, VVL]; exact h
  | c :: cs, us, h => by
    simp only [VL] at h
    obtain ⟨u, us, rfl, hu, hr⟩ := h
    simp only [List.map_cons, VVL]
    exact ⟨u, us, rfl, by simpa only [VV] using hu, VVL.map_t hr⟩
def pures : List V → Option (List T)
  | [] => some []
  | .t x :: r => (pures r).map (x :: ·)
  | _ :: _ => none
theorem VVL.pures : ∀ {vs : List V} {ts : List T} {us : List Value}, Tl.pures vs = some ts → VVL w ok β vs us → VL w ok ts us
  | [], ts, us, hp, h => by
    simp only [Tl.pures, Option.some.injEq] at hp; subst hp
    simp only [VVL] at h; simp only [VL]; exact h
  | .t x :: r, ts, us, hp, h => by
    simp only [Tl.pures, Option.map_eq_some_iff] at hp
    obtain ⟨ts', hp, rfl⟩ := hp
    simp only [VVL] at h
    obtain ⟨u, us, rfl, hu, hr⟩ := h
    simp only [VL]
    exact ⟨u, us, rfl, by simpa only [VV] using hu, VVL.pures hp hr⟩
  | .ref _ _ :: _, _, _, hp, _ => by simp [Tl.pures] at hp
  | .own _ _ _ :: _, _, _, hp, _ => by simp [Tl.pures] at hp
  | .view _ _ _ _ :: _, _, _, hp, _ => by simp [Tl.pures] at hp
  | .mapr _ :: _, _, _, hp, _ => by simp [Tl.pures] at hp
  | .agg _ :: _, _, _, hp, _ => by simp [Tl.pures] at hp
  | .tup _ :: _, _, _, hp, _ => by simp [Tl.pures] at hp
  | .fn _ _ :: _, _, _, hp, _ => by simp [Tl.pures] at hp
end

structure Env where
  ok : Nat → Prop
  w0 : World
  X : Nat → Prop
  pin : Nat → Prop
  pinβ : Names

def Imm (E : Env) (O : Nat → Option Obj) (β : Names) (w : World) (b : Nat) : Prop :=
  (E.ok b ∨ E.w0.heap.size ≤ b ∨ E.X b) ∧ b < w.heap.size ∧ ∀ i o x, O i = some o → β i = some x → x.1 ≠ b

structure R (E : Env) (β : Names) (N : List Nat) (S : Nat → Option V) (O : Nat → Option Obj) (a : Act) (w : World) : Prop where
  defers : a.defers = []
  os : w.os = E.w0.os
  tape : w.tape = E.w0.tape
  output : w.output = E.w0.output
  size : E.w0.heap.size ≤ w.heap.size
  old : ∀ b, b < E.w0.heap.size → ¬ E.X b → w.heap[b]? = E.w0.heap[b]?
  okb : ∀ b, E.ok b → b < E.w0.heap.size ∧ ¬ E.X b
  glob : Glob E.ok E.w0
  dom : ∀ i, i ∉ N → β i = none
  slots : ∀ t x, S t = some x → t < a.tmps.size ∧ VV w (Imm E O β w) β x (a.tmps.getD t undef)
  pins : ∀ i, E.pin i → i < 1000 ∧ i ∈ N ∧ β i = E.pinβ i
  news : ∀ i x, 2000 ≤ i → β i = some x → E.w0.heap.size ≤ x.1
  objs : ∀ i o, O i = some o → (∃ b z, β i = some (b, z) ∧ b < w.heap.size ∧ (E.w0.heap.size ≤ b ∨ E.X b) ∧ OR w (Imm E O β w) β b z o) ∨ (i ∈ N ∧ β i = none ∧ ∃ e, o = .cells e [])
  apart : ∀ i j o o' x x', O i = some o → O j = some o' → β i = some x → β j = some x' → i ≠ j → x.1 ≠ x'.1

section
variable {E : Env} {β β' : Names} {N N' : List Nat} {S S' : Nat → Option V} {O O' : Nat → Option Obj} {a a' : Act} {w w' : World}

theorem R.objS (h : R E β N S O a w) {i : Nat} {o : Obj} (ho : O i = some o) {x : Nat × Nat} (hx : β i = some x) : ∃ b z, β i = some (b, z) ∧ b < w.heap.size ∧ (E.w0.heap.size ≤ b ∨ E.X b) ∧ OR w (Imm E O β w) β b z o := by
  rcases h.objs i o ho with h1 | ⟨_, h1, _⟩
  · exact h1
  · rw [hx] at h1; cases h1
theorem R.globI (h : R E β N S O a w) : Glob (Imm E O β w) w := fun q hq => by
  obtain ⟨h1, e, f, h2⟩ := h.glob q hq
  obtain ⟨h3, h4⟩ := h.okb _ h1
  refine ⟨⟨.inl h1, Nat.lt_of_lt_of_le h3 h.size, fun i o x ho hx hb => ?_⟩, e, f, by rw [h.old _ h3 h4]; exact h2⟩
  obtain ⟨b, z, hb', _, hc, _⟩ := h.objS ho hx
  rw [hx] at hb'; cases hb'
  simp only at hb
  subst hb
  rcases hc with hc | hc
  · exact Nat.not_lt.2 hc h3
  · exact h4 hc
theorem R.inN (h : R E β N S O a w) {i : Nat} {x : Nat × Nat} (hx : β i = some x) : i ∈ N := by
  apply Classical.byContradiction
  intro hn
  rw [h.dom i hn] at hx; cases hx

def upd {α : Type} (S : Nat → Option α) (d : Nat) (x : Option α) : Nat → Option α := fun t => if t = d then x else S t

theorem getD_put_same (a : Act) (d : Nat) (v : Value) (h : d < a.tmps.size) : (a.put (some d) v).tmps.getD d undef = v := by
  simp [Act.put, h]
theorem getD_put_other (a : Act) (d t : Nat) (v : Value) (h : t ≠ d) : (a.put (some d) v).tmps.getD t undef = a.tmps.getD t undef := by
  simp [Act.put, Array.getElem?_setIfInBounds_ne (Ne.symm h)]
theorem size_put (a : Act) (d : Option Nat) (v : Value) : (a.put d v).tmps.size = a.tmps.size := by
  cases d <;> simp [Act.put]
theorem defers_put (a : Act) (d : Option Nat) (v : Value) : (a.put d v).defers = a.defers := by
  cases d <;> simp [Act.put]

theorem R.less (h : R E β N S O a w) (hs : ∀ t x, S' t = some x → S t = some x) : R E β N S' O a w :=
  ⟨h.defers, h.os, h.tape, h.output, h.size, h.old, h.okb, h.glob, h.dom, fun t x ht => h.slots t x (hs t x ht), h.pins, h.news, h.objs, h.apart⟩

theorem R.put (h : R E β N S O a w) (d : Nat) (hd : d < a.tmps.size) (v : Value) (x : V) (hv : VV w (Imm E O β w) β x v) : R E β N (upd S d (some x)) O (a.put (some d) v) w := by
  refine ⟨by rw [defers_put]; exact h.defers, h.os, h.tape, h.output, h.size, h.old, h.okb, h.glob, h.dom, fun t y ht => ?_, h.pins, h.news, h.objs, h.apart⟩
  rw [size_put]
  by_cases e : t = d
  · subst e
    simp only [upd, if_true, Option.some.injEq] at ht
    subst ht
    exact ⟨hd, by rw [getD_put_same a t v hd]; exact hv⟩
  · simp only [upd, e, if_false] at ht
    obtain ⟨h1, h2⟩ := h.slots t y ht
    exact ⟨h1, by rw [getD_put_other a d t v e]; exact h2⟩
theorem R.next (h : R E β N S O a w)
    (os : w'.os = w.os) (tape : w'.tape = w.tape) (output : w'.output = w.output) (size : w.heap.size ≤ w'.heap.size)
    (old : ∀ b, b < E.w0.heap.size → ¬ E.X b → w'.heap[b]? = w.heap[b]?)
    (names : ∀ i, i ∈ N → β' i = β i) (hN : ∀ i, i ∈ N → i ∈ N')
    (news : ∀ i x, i ∉ N → 2000 ≤ i → β' i = some x → E.w0.heap.size ≤ x.1)
    (dom : ∀ i, i ∉ N' → β' i = none)
    (imm : ∀ b, Imm E O β w b → Imm E O' β' w' b ∧ w'.heap[b]? = w.heap[b]?)
    (objs : ∀ i o, O' i = some o → (O i = some o ∧ ∀ x, β i = some x → w'.heap[x.1]? = w.heap[x.1]?) ∨ (∃ b z, β' i = some (b, z) ∧ b < w'.heap.size ∧ (E.w0.heap.size ≤ b ∨ E.X b) ∧ OR w' (Imm E O' β' w') β' b z o) ∨ (i ∈ N' ∧ β' i = none ∧ ∃ e, o = .cells e []))
    (apart : ∀ i j o o' x x', O' i = some o → O' j = some o' → β' i = some x → β' j = some x' → i ≠ j → x.1 ≠ x'.1) :
    R E β' N' S O' a w' ∧ Lasts w (Imm E O β w) w' (Imm E O' β' w') := by
  have hl : Lasts w (Imm E O β w) w' (Imm E O' β' w') := ⟨fun b hb => (imm b hb).1, fun b hb => (imm b hb).2⟩
  have names' : ∀ i x, β i = some x → β' i = some x := fun i x hx => by rw [names i (h.inN hx)]; exact hx
  refine ⟨⟨h.defers, os.trans h.os, tape.trans h.tape, output.trans h.output, Nat.le_trans h.size size, fun b hb hx => (old b hb hx).trans (h.old b hb hx), h.okb, h.glob, dom, fun t x ht => ?_, fun i hp => ⟨(h.pins i hp).1, hN i (h.pins i hp).2.1, by rw [names i (h.pins i hp).2.1]; exact (h.pins i hp).2.2⟩, fun i x hi hx => ?_, fun i o ho => ?_, apart⟩, hl⟩
  · obtain ⟨h1, h2⟩ := h.slots t x ht
    exact ⟨h1, VV.lasts hl names' _ _ h2⟩
  · by_cases hm : i ∈ N
    · rw [names i hm] at hx; exact h.news i x hi hx
    · exact news i x hm hi hx
  · rcases objs i o ho with ⟨h1, h2⟩ | h1
    · rcases h.objs i o h1 with ⟨b, z, hb, hlt, hx, hor⟩ | ⟨g1, g2, g3⟩
      · exact .inl ⟨b, z, names' _ _ hb, Nat.lt_of_lt_of_le hlt size, hx, OR.lasts hl names' (h2 _ hb) hor⟩
      · exact .inr ⟨hN i g1, by rw [names i g1]; exact g2, g3⟩
    · exact h1

theorem R.drawn (h : R E β N S O a w) (n : Nat) : R E β N S O a { w with drawn := n } :=
  (h.next (w' := { w with drawn := n }) (N' := N) (O' := O) (β' := β) rfl rfl rfl (Nat.le_refl _) (fun _ _ _ => rfl) (fun _ _ => rfl) (fun _ h => h) (fun i x hn _ hx => absurd (h.inN hx) hn) h.dom (fun b hb => ⟨hb, rfl⟩) (fun i o ho => .inl ⟨ho, fun _ _ => rfl⟩) h.apart).1

theorem heap_push_old (w : World) (o : Go.Obj) (b : Nat) (hb : b < w.heap.size) : (w.alloc o).heap[b]? = w.heap[b]? := by
  show (w.heap.push o)[b]? = _
  rw [Array.getElem?_push, if_neg (Nat.ne_of_lt hb)]
theorem heap_push_new (w : World) (o : Go.Obj) : (w.alloc o).heap[w.heap.size]? = some o := by
  show (w.heap.push o)[w.heap.size]? = _
  rw [Array.getElem?_push, if_pos rfl]
theorem heap_push_size (w : World) (o : Go.Obj) : (w.alloc o).heap.size = w.heap.size + 1 := Array.size_push ..

theorem R.allocImm (h : R E β N S O a w) (o : Go.Obj) : R E β N S O a (w.alloc o) ∧ Lasts w (Imm E O β w) (w.alloc o) (Imm E O β (w.alloc o)) ∧ Imm E O β (w.alloc o) w.heap.size := by
  have himm : ∀ b, Imm E O β w b → Imm E O β (w.alloc o) b ∧ (w.alloc o).heap[b]? = w.heap[b]? := fun b hb =>
    ⟨⟨hb.1, by rw [heap_push_size]; exact Nat.lt_succ_of_lt hb.2.1, hb.2.2⟩, heap_push_old w o b hb.2.1⟩
  obtain ⟨h1, h2⟩ := h.next (w' := w.alloc o) rfl rfl rfl (by rw [heap_push_size]; omega) (fun b hb _ => heap_push_old w o b (Nat.lt_of_lt_of_le hb h.size)) (fun _ _ => rfl) (fun _ h => h) (fun i x hn _ hx => absurd (h.inN hx) hn) h.dom himm
    (fun i ob ho => .inl ⟨ho, fun x hx => by
      obtain ⟨b, z, hb, hlt, _⟩ := h.objS ho hx
      rw [hx] at hb; cases hb
      exact heap_push_old w o b hlt⟩) h.apart
  refine ⟨h1, h2, .inr (.inl h.size), by rw [heap_push_size]; omega, fun i ob x ho hx e => ?_⟩
  obtain ⟨b, z, hb, hlt, _⟩ := h.objS ho hx
  rw [hx] at hb; cases hb
  simp only at e
  omega

theorem upd_same {α : Type} (S : Nat → Option α) (d : Nat) (x : Option α) : upd S d x d = x := by simp [upd]
theorem upd_other {α : Type} (S : Nat → Option α) (d t : Nat) (x : Option α) (h : t ≠ d) : upd S d x t = S t := by simp [upd, h]

theorem R.allocObj (h : R E β N S O a w) (j z : Nat) (hj : j ∉ N) (o : Go.Obj) (ob : Obj)
    (hor : OR (w.alloc o) (Imm E O β w) β w.heap.size z ob) :
    R E (upd β j (some (w.heap.size, z))) (j :: N) S (upd O j (some ob)) a (w.alloc o) ∧ Lasts w (Imm E O β w) (w.alloc o) (Imm E (upd O j (some ob)) (upd β j (some (w.heap.size, z))) (w.alloc o)) := by
  have hβ := h.dom j hj
  have hOj : O j = none := by
    cases ho : O j with
    | none => rfl
    | some o' =>
      rcases h.objs j o' ho with ⟨b, z, hb, _⟩ | ⟨hb, _⟩
      · rw [hβ] at hb; cases hb
      · exact absurd hb hj
  have hnamesN : ∀ i, i ∈ N → upd β j (some (w.heap.size, z)) i = β i := fun i hi => by
    rw [upd_other]
    rintro rfl; exact hj hi
  have hnames : ∀ i x, β i = some x → upd β j (some (w.heap.size, z)) i = some x := fun i x hx => by
    rw [upd_other]; exact hx
    rintro rfl; rw [hβ] at hx; cases hx
  have himm : ∀ b, Imm E O β w b → Imm E (upd O j (some ob)) (upd β j (some (w.heap.size, z))) (w.alloc o) b ∧ (w.alloc o).heap[b]? = w.heap[b]? := fun b hb => by
    refine ⟨⟨hb.1, by rw [heap_push_size]; exact Nat.lt_succ_of_lt hb.2.1, fun i o' x ho hx => ?_⟩, heap_push_old w o b hb.2.1⟩
    by_cases e : i = j
    · subst e
      rw [upd_same] at hx; cases hx
      exact Nat.ne_of_gt hb.2.1
    · rw [upd_other _ _ _ _ e] at ho hx
      exact hb.2.2 i o' x ho hx
  have hl : Lasts w (Imm E O β w) (w.alloc o) (Imm E (upd O j (some ob)) (upd β j (some (w.heap.size, z))) (w.alloc o)) := ⟨fun b hb => (himm b hb).1, fun b hb => (himm b hb).2⟩
  refine h.next rfl rfl rfl (by rw [heap_push_size]; omega) (fun b hb _ => heap_push_old w o b (Nat.lt_of_lt_of_le hb h.size)) hnamesN (fun i hi => List.mem_cons_of_mem _ hi)
    (fun i x hn _ hx => by
      by_cases e : i = j
      · subst e; rw [upd_same] at hx; cases hx; exact h.size
      · rw [upd_other _ _ _ _ e] at hx; exact absurd (h.inN hx) hn)
    (fun i hi => by
      rw [upd_other _ _ _ _ (fun e => hi (by rw [e]; exact List.mem_cons_self))]
      exact h.dom i (fun hm => hi (List.mem_cons_of_mem _ hm))) himm (fun i o' ho => ?_) (fun i k o' o'' x x' ho ho' hx hx' hne => ?_)
  · by_cases e : i = j
    · subst e
      rw [upd_same] at ho; cases ho
      refine .inr (.inl ⟨w.heap.size, z, upd_same _ _ _, by rw [heap_push_size]; omega, .inl h.size, ?_⟩)
      exact OR.lasts (w := w.alloc o) ⟨fun b hb => (himm b hb).1, fun _ _ => rfl⟩ hnames rfl hor
    · rw [upd_other _ _ _ _ e] at ho
      refine .inl ⟨ho, fun x hx => ?_⟩
      obtain ⟨b, z, hb, hlt, _⟩ := h.objS ho hx
      rw [hx] at hb; cases hb
      exact heap_push_old w o b hlt
  · have hlt : ∀ i o' x, O i = some o' → β i = some x → x.1 < w.heap.size := fun i o' x ho hx => by
      obtain ⟨b, z, hb, hlt, _⟩ := h.objS ho hx
      rw [hx] at hb; cases hb
      exact hlt
    by_cases e : i = j
    · subst e
      rw [upd_same] at hx; cases hx
      have ek : k ≠ i := Ne.symm hne
      rw [upd_other _ _ _ _ ek] at ho' hx'
      exact Nat.ne_of_gt (hlt k o'' x' ho' hx')
    · rw [upd_other _ _ _ _ e] at ho hx
      by_cases ek : k = j
      · subst ek
        rw [upd_same] at hx'; cases hx'
        exact Nat.ne_of_lt (hlt i o' x ho hx)
      · rw [upd_other _ _ _ _ ek] at ho' hx'
        exact h.apart i k o' o'' x x' ho ho' hx hx' hne

theorem R.write (h : R E β N S O a w) (i b z : Nat) (o ob : Obj) (hi : O i = some o) (hb : β i = some (b, z))
    (os : w'.os = w.os) (tape : w'.tape = w.tape) (output : w'.output = w.output) (size : w'.heap.size = w.heap.size)
    (same : ∀ c, c ≠ b → w'.heap[c]? = w.heap[c]?)
    (hor : OR w' (Imm E O β w) β b z ob) :
    R E β N S (upd O i (some ob)) a w' ∧ Lasts w (Imm E O β w) w' (Imm E (upd O i (some ob)) β w') := by
  have hbb : b < w.heap.size ∧ (E.w0.heap.size ≤ b ∨ E.X b) := by
    obtain ⟨b', z', hb', h1, h2, _⟩ := h.objS hi hb
    rw [hb] at hb'; cases hb'
    exact ⟨h1, h2⟩
  have himm : ∀ c, Imm E O β w c → Imm E (upd O i (some ob)) β w' c ∧ w'.heap[c]? = w.heap[c]? := fun c hc => by
    refine ⟨⟨hc.1, by rw [size]; exact hc.2.1, fun k o' x ho hx => ?_⟩, same c (fun e => hc.2.2 i o _ hi hb (by simp [e]))⟩
    by_cases e : k = i
    · subst e
      exact hc.2.2 k o x hi hx
    · rw [upd_other _ _ _ _ e] at ho
      exact hc.2.2 k o' x ho hx
  refine h.next os tape output (Nat.le_of_eq size.symm) (fun c hc hx => same c (fun e => ?_)) (fun _ _ => rfl) (fun _ h => h) (fun i x hn _ hx => absurd (h.inN hx) hn) h.dom himm (fun k o' ho => ?_) (fun k l o' o'' x x' ho ho' hx hx' hne => ?_)
  · subst e
    rcases hbb.2 with h' | h'
    · omega
    · exact hx h'
  · by_cases e : k = i
    · subst e
      rw [upd_same] at ho; cases ho
      refine .inr (.inl ⟨b, z, hb, by rw [size]; exact hbb.1, hbb.2, ?_⟩)
      exact OR.lasts (w := w') ⟨fun b hb => (himm b hb).1, fun _ _ => rfl⟩ (fun _ _ h => h) rfl hor
    · rw [upd_other _ _ _ _ e] at ho
      refine .inl ⟨ho, fun x hx => same _ (fun hxb => ?_)⟩
      exact h.apart k i o' o x (b, z) ho hi hx hb e hxb
  · have get : ∀ k o', upd O i (some ob) k = some o' → ∃ o'', O k = some o'' := fun k o' hk => by
      by_cases e : k = i
      · exact ⟨o, e ▸ hi⟩
      · rw [upd_other _ _ _ _ e] at hk; exact ⟨o', hk⟩
    obtain ⟨p, hp⟩ := get k o' ho
    obtain ⟨q, hq⟩ := get l o'' ho'
    exact h.apart k l p q x x' hp hq hx hx' hne
end
end Go.Tl
end
section
namespace Go.Tl
set_option linter.unusedVariables false
set_option linter.unusedSimpArgs false

inductive TyK where
  | int (k : IntKind)
  | bool
  | string
  | slice (e sz bytes : Nat)
  | array (n e sz : Nat) (agg : Bool)
  | struct (fs : List (Nat × Nat × Bool))
  | pointer (e : TypeId)
  | map (k e : TypeId)
  | func
  | iface
structure Ty where
  k : TyK
  size : Nat
  bytes : Nat
  zero : List T
def TyK.agg : TyK → Bool
  | .array .. | .struct .. => true
  | _ => false

def look {α : Type} : List (Nat × α) → Nat → Option α
  | [], _ => none
  | (j, x) :: r, i => if i == j then some x else look r i

def aggP (P : Program) (t : TypeId) : Bool :=
  match P.underlying t with
  | some (.struct _) | some (.array _ _) => true
  | _ => false
def sizeP (P : Program) (t : TypeId) : Option Nat := (P.info? t).map (·.size)

def chkV : Value → T → Bool
  | .int k n, .int k' n' => decide (k = k') && decide (n = n')
  | .bool b, .bool b' => b == b'
  | .string s, .str s' => decide (s = s')
  | .slice none 0 0, .nils => true
  | .pointer none, .nilp => true
  | .nilFunc, .nilf => true
  | .nilIface, .nili => true
  | .map none, .nilm => true
  | _, _ => false
def chkVs : List Value → List T → Bool
  | [], [] => true
  | v :: vs, t :: ts => chkV v t && chkVs vs ts
  | _, _ => false
def chkFs (P : Program) : List Field → List (Nat × Nat × Bool) → Bool
  | [], [] => true
  | f :: fs, (o, s, g) :: r => decide (f.offset = o) && decide (sizeP P f.type = some s) && (aggP P f.type == g) && chkFs P fs r
  | _, _ => false
def chkK (P : Program) (t : TypeId) : TyK → Bool
  | .int k => match P.underlying t with | some (.int k') => decide (k = k') | _ => false
  | .bool => match P.underlying t with | some .bool => true | _ => false
  | .string => match P.underlying t with | some .string => true | _ => false
  | .slice e sz b => match P.underlying t with | some (.slice e') => decide (e' = e) && (match P.info? e with | some i => decide (i.size = sz) && decide (i.bytes = b) | none => false) | _ => false
  | .array n e sz g => match P.underlying t with | some (.array n' e') => decide (n' = n) && decide (e' = e) && decide (sizeP P e = some sz) && (aggP P e == g) | _ => false
  | .struct fs => match P.underlying t with | some (.struct fields) => chkFs P fields.toList fs | _ => false
  | .pointer e => match P.underlying t with | some (.pointer e') => decide (e' = e) | _ => false
  | .map k e => match P.underlying t with | some (.map k' e') => decide (k' = k) && decide (e' = e) | _ => false
  | .func => match P.underlying t with | some (.func ..) => true | _ => false
  | .iface => match P.underlying t with | some (.interface _) => true | _ => false
def chkTy (P : Program) (t : TypeId) (y : Ty) : Bool :=
  (match P.info? t with
   | some i => decide (i.size = y.size) && decide (i.bytes = y.bytes) && (match i.zero with | some z => chkVs z.cells.toList y.zero && decide (z.cells.size = y.size) && ((match z with | .agg _ => true | _ => false) == y.k.agg) | none => false)
   | none => false) && chkK P t y.k && decide (t < 1048576)
def chkTab (P : Program) : List (Nat × Ty) → Bool
  | [] => true
  | (t, y) :: r => chkTy P t y && chkTab P r
theorem chkTab_look {P : Program} : ∀ {tab : List (Nat × Ty)}, chkTab P tab = true → ∀ {t : Nat} {y : Ty}, look tab t = some y → chkTy P t y = true
  | [], _, t, y, h => by simp [look] at h
  | (t0, y0) :: r, hc, t, y, h => by
    simp only [chkTab, Bool.and_eq_true] at hc
    simp only [look] at h
    split at h
    · rename_i e
      have e' : t = t0 := by simpa using e
      cases h
      rw [e']
      exact hc.1
    · exact chkTab_look hc.2 h

theorem chkV_reads {w : World} {ok : Nat → Prop} : ∀ {v : Value} {t : T}, chkV v t = true → VR w ok t v := by
  intro v t h
  unfold chkV at h
  split at h
  · simp only [Bool.and_eq_true, decide_eq_true_eq] at h; simp only [VR]; rw [h.1, h.2]
  · simp only [beq_iff_eq] at h; simp only [VR]; rw [h]
  · simp only [decide_eq_true_eq] at h; simp only [VR]; rw [h]
  all_goals first | (simp only [VR]; done) | cases h
theorem chkVs_reads {w : World} {ok : Nat → Prop} : ∀ {vs : List Value} {ts : List T}, chkVs vs ts = true → VL w ok ts vs
  | [], [], _ => by simp only [VL]
  | v :: vs, t :: ts, h => by
    simp only [chkVs, Bool.and_eq_true] at h
    simp only [VL]
    exact ⟨v, vs, rfl, chkV_reads h.1, chkVs_reads h.2⟩
  | [], _ :: _, h => by simp [chkVs] at h
  | _ :: _, [], h => by simp [chkVs] at h

/-! ### the types' facts -/
section
variable {P : Program} {t : TypeId} {y : Ty}
theorem chkTy_info (h : chkTy P t y = true) : ∃ i z, P.info? t = some i ∧ i.size = y.size ∧ i.bytes = y.bytes ∧ i.zero = some z ∧ chkVs z.cells.toList y.zero = true ∧ z.cells.size = y.size ∧ (y.k.agg = true → ∃ cs, z = .agg cs) ∧ (y.k.agg = false → z.cells = #[z]) := by
  simp only [chkTy, Bool.and_eq_true] at h
  obtain ⟨⟨h, _⟩, _⟩ := h
  cases hi : P.info? t with
  | none => simp [hi] at h
  | some i =>
    simp only [hi, Bool.and_eq_true, decide_eq_true_eq] at h
    obtain ⟨⟨h1, h2⟩, h3⟩ := h
    cases hz : i.zero with
    | none => simp [hz] at h3
    | some z =>
      simp only [hz, Bool.and_eq_true, decide_eq_true_eq, beq_iff_eq] at h3
      obtain ⟨⟨h3, h4⟩, h5⟩ := h3
      refine ⟨i, z, rfl, h1, h2, hz, h3, h4, fun hg => ?_, fun hg => ?_⟩
      · rw [hg] at h5
        cases z <;> simp at h5
        exact ⟨_, rfl⟩
      · rw [hg] at h5
        cases z <;> simp at h5 <;> rfl
theorem chkTy_kind (h : chkTy P t y = true) : chkK P t y.k = true := by
  simp only [chkTy, Bool.and_eq_true] at h
  exact h.1.2
theorem chkTy_lt (h : chkTy P t y = true) : t < 1048576 := by
  simp only [chkTy, Bool.and_eq_true, decide_eq_true_eq] at h
  exact h.2
theorem chkK_slice {e sz b : Nat} (h : chkK P t (.slice e sz b) = true) : P.underlying t = some (.slice e) ∧ ∃ i, P.info? e = some i ∧ i.size = sz ∧ i.bytes = b := by
  simp only [chkK] at h
  cases hu : P.underlying t with
  | none => simp [hu] at h
  | some d =>
    cases d <;> simp [hu] at h
    rename_i e'
    obtain ⟨rfl, h⟩ := h
    cases hi : P.info? e' with
    | none => simp [hi] at h
    | some i =>
      simp only [hi, Bool.and_eq_true, decide_eq_true_eq] at h
      exact ⟨rfl, i, rfl, h.1, h.2⟩
theorem chkK_array {n e sz : Nat} {g : Bool} (h : chkK P t (.array n e sz g) = true) : P.underlying t = some (.array n e) ∧ sizeP P e = some sz ∧ aggP P e = g := by
  simp only [chkK] at h
  cases hu : P.underlying t with
  | none => simp [hu] at h
  | some d =>
    cases d <;> simp [hu] at h
    rename_i n' e'
    obtain ⟨⟨⟨rfl, rfl⟩, h2⟩, h3⟩ := h
    exact ⟨rfl, h2, h3⟩
theorem chkFs_get : ∀ {fs : List Field} {r : List (Nat × Nat × Bool)}, chkFs P fs r = true → ∀ {i o s : Nat} {g : Bool}, r[i]? = some (o, s, g) → ∃ f, fs[i]? = some f ∧ f.offset = o ∧ sizeP P f.type = some s ∧ aggP P f.type = g
  | [], [], _, i, o, s, g, h => by simp at h
  | f :: fs, (o0, s0, g0) :: r, hc, i, o, s, g, h => by
    simp only [chkFs, Bool.and_eq_true, decide_eq_true_eq, beq_iff_eq] at hc
    obtain ⟨⟨⟨h1, h2⟩, h3⟩, h4⟩ := hc
    cases i with
    | zero =>
      simp only [List.getElem?_cons_zero, Option.some.injEq, Prod.mk.injEq] at h
      obtain ⟨rfl, rfl, rfl⟩ := h
      exact ⟨f, rfl, h1, h2, h3⟩
    | succ i =>
      simp only [List.getElem?_cons_succ] at h
      simpa using chkFs_get h4 h
  | [], _ :: _, hc, i, o, s, g, h => by simp [chkFs] at hc
  | _ :: _, [], hc, i, o, s, g, h => by simp at h
theorem chkK_struct {r : List (Nat × Nat × Bool)} (h : chkK P t (.struct r) = true) : ∃ fields, P.underlying t = some (.struct fields) ∧ chkFs P fields.toList r = true := by
  simp only [chkK] at h
  cases hu : P.underlying t with
  | none => simp [hu] at h
  | some d =>
    cases d <;> simp [hu] at h
    exact ⟨_, rfl, h⟩
theorem chkK_int {k : IntKind} (h : chkK P t (.int k) = true) : P.underlying t = some (.int k) := by
  simp only [chkK] at h
  cases hu : P.underlying t with
  | none => simp [hu] at h
  | some d => cases d <;> simp [hu] at h; rw [h]
theorem chkK_bool (h : chkK P t .bool = true) : P.underlying t = some .bool := by
  simp only [chkK] at h
  cases hu : P.underlying t with
  | none => simp [hu] at h
  | some d => cases d <;> simp [hu] at h; rfl
theorem chkK_string (h : chkK P t .string = true) : P.underlying t = some .string := by
  simp only [chkK] at h
  cases hu : P.underlying t with
  | none => simp [hu] at h
  | some d => cases d <;> simp [hu] at h; rfl
theorem chkK_pointer {e : TypeId} (h : chkK P t (.pointer e) = true) : P.underlying t = some (.pointer e) := by
  simp only [chkK] at h
  cases hu : P.underlying t with
  | none => simp [hu] at h
  | some d => cases d <;> simp [hu] at h; rw [h]
theorem chkK_map {k e : TypeId} (h : chkK P t (.map k e) = true) : P.underlying t = some (.map k e) := by
  simp only [chkK] at h
  cases hu : P.underlying t with
  | none => simp [hu] at h
  | some d => cases d <;> simp [hu] at h; rw [h.1, h.2]
theorem chkK_func (h : chkK P t .func = true) : ∃ a b c, P.underlying t = some (.func a b c) := by
  simp only [chkK] at h
  cases hu : P.underlying t with
  | none => simp [hu] at h
  | some d => cases d <;> simp [hu] at h; exact ⟨_, _, _, rfl⟩
theorem chkK_iface (h : chkK P t .iface = true) : ∃ ms, P.underlying t = some (.interface ms) := by
  simp only [chkK] at h
  cases hu : P.underlying t with
  | none => simp [hu] at h
  | some d => cases d <;> simp [hu] at h; exact ⟨_, rfl⟩
theorem chkTy_agg {y : Ty} (h : chkTy P t y = true) : ∃ d, P.underlying t = some d ∧ (match d with | .struct _ | .array _ _ => true | _ => false) = y.k.agg := by
  have hk := chkTy_kind h
  cases hy : y.k <;> rw [hy] at hk <;> simp only [chkK] at hk <;> (cases hu : P.underlying t with
    | none => simp [hu] at hk
    | some d => cases d <;> simp [hu] at hk <;> exact ⟨_, rfl, rfl⟩)
end

end Go.Tl
end
section
namespace Go.Tl
set_option linter.unusedVariables false
set_option linter.unusedSimpArgs false

def ofValue : Value → Option T
  | .int k n => some (.int k n)
  | .bool b => some (.bool b)
  | .string s => some (.str s)
  | .slice none 0 0 => some .nils
  | .pointer none => some .nilp
  | .nilFunc => some .nilf
  | .nilIface => some .nili
  | .map none => some .nilm
  | _ => none
theorem ofValue_reads {w : World} {ok : Nat → Prop} {v : Value} {t : T} (h : ofValue v = some t) : VR w ok t v := by
  unfold ofValue at h
  split at h <;> cases h <;> simp only [VR]
def ev (S : Nat → Option V) : Operand → Option V
  | .tmp t => S t
  | .const v => (ofValue v).map V.t
  | .func f => some (.t (.fn f [] []))
  | .global _ => none
def evs (S : Nat → Option V) : List Operand → Option (List V)
  | [] => some []
  | x :: xs => match ev S x, evs S xs with
    | some t, some ts => some (t :: ts)
    | _, _ => none
section
variable {E : Env} {β : Names} {N : List Nat} {S : Nat → Option V} {O : Nat → Option Obj} {a : Act} {w : World}
theorem R.ev (h : R E β N S O a w) {x : Operand} {t : V} (he : ev S x = some t) : VV w (Imm E O β w) β t (a.eval x) := by
  cases x with
  | tmp i => exact (h.slots i t he).2
  | const v =>
    simp only [Tl.ev, Option.map_eq_some_iff] at he
    obtain ⟨t', he, rfl⟩ := he
    simp only [VV]
    exact ofValue_reads he
  | func f =>
    simp only [Tl.ev, Option.some.injEq] at he
    subst he
    simp only [VV, VR, Act.eval]
    exact ⟨#[], #[], rfl, by simp only [VL], by simp only [VL]⟩
  | global g => simp [Tl.ev] at he
theorem R.evs (h : R E β N S O a w) : ∀ {xs : List Operand} {ts : List V}, evs S xs = some ts → VVL w (Imm E O β w) β ts (xs.map a.eval)
  | [], ts, he => by simp only [Tl.evs, Option.some.injEq] at he; subst he; simp only [VVL, List.map_nil]
  | x :: xs, ts, he => by
    simp only [Tl.evs] at he
    cases hx : Tl.ev S x with
    | none => simp [hx] at he
    | some t =>
      cases hr : Tl.evs S xs with
      | none => simp [hx, hr] at he
      | some ts' =>
        simp only [hx, hr, Option.some.injEq] at he
        subst he
        simp only [VVL, List.map_cons]
        exact ⟨_, _, rfl, h.ev hx, R.evs h hr⟩
end

/-! ### integers, bools, strings -/
def intT (op : BinOp) (k : IntKind) (a b : Int) : Option (Prop × T) :=
  match op with
  | .add => some (True, .int k (k.wrap (a + b)))
  | .sub => some (True, .int k (k.wrap (a - b)))
  | .mul => some (True, .int k (k.wrap (a * b)))
  | .quo => some (b ≠ 0, .int k (k.wrap (a.tdiv b)))
  | .rem => some (b ≠ 0, .int k (a.tmod b))
  | .and => some (True, .int k (bits .and k a b))
  | .or => some (True, .int k (bits .or k a b))
  | .xor => some (True, .int k (bits .xor k a b))
  | .andNot => some (True, .int k (bits .andNot k a b))
  | .eql => some (True, .bool (a == b))
  | .neq => some (True, .bool (a != b))
  | .lss => some (True, .bool (decide (a < b)))
  | .leq => some (True, .bool (decide (a ≤ b)))
  | .gtr => some (True, .bool (decide (a > b)))
  | .geq => some (True, .bool (decide (a ≥ b)))
  | .shl | .shr => none
def strT (op : BinOp) (s t : ByteArray) : Option (Prop × T) :=
  match op with
  | .add => some (s.size + t.size ≤ 9223372036854775807, .str (s ++ t))
  | .eql => some (True, .bool (s.toList == t.toList))
  | .neq => some (True, .bool (!(s.toList == t.toList)))
  | .lss => some (True, .bool (Op.bytesLess s.toList t.toList))
  | .leq => some (True, .bool (Op.bytesLess s.toList t.toList || s.toList == t.toList))
  | .gtr => some (True, .bool (!(Op.bytesLess s.toList t.toList || s.toList == t.toList)))
  | .geq => some (True, .bool (!(Op.bytesLess s.toList t.toList)))
  | _ => none
def eqT (op : BinOp) (b : Bool) : Option (Prop × T) :=
  match op with
  | .eql => some (True, .bool b)
  | .neq => some (True, .bool (!b))
  | _ => none
def isConst : Operand → Bool
  | .const _ => true
  | _ => false
theorem run_intT {P : Program} {op : BinOp} {t : TypeId} {k : IntKind} {a b : Int} {p : Prop} {r : T} (h : intT op k a b = some (p, r)) (hp : p) (w : World) (ok : Nat → Prop) :
    ∃ v, (binOp op t (.int k a) (.int k b)).run P w = .ok v w ∧ VR w ok r v := by
  cases op <;> simp only [intT, Option.some.injEq, Prod.mk.injEq, reduceCtorEq] at h
  all_goals obtain ⟨rfl, rfl⟩ := h
  all_goals refine ⟨_, ?_, by simp only [VR]; rfl⟩
  all_goals first
    | (simp [go_sem, binOp, Op.intArith]; done)
    | (simp [go_sem, binOp, Op.intDiv, hp]; done)
    | (simp [go_sem, binOp, Op.intCmp]; done)
    | (simp [go_sem, binOp]; done)
theorem run_strT {P : Program} {op : BinOp} {t : TypeId} {a b : ByteArray} {p : Prop} {r : T} (h : strT op a b = some (p, r)) (hp : p) (w : World) (ok : Nat → Prop) :
    ∃ v, (binOp op t (.string a) (.string b)).run P w = .ok v w ∧ VR w ok r v := by
  cases op <;> simp only [strT, Option.some.injEq, Prod.mk.injEq, reduceCtorEq] at h
  all_goals obtain ⟨rfl, rfl⟩ := h
  all_goals refine ⟨_, ?_, by simp only [VR]; rfl⟩
  case add =>
    have : ¬ ((a.size : Int) + (b.size : Int) > IntKind.i64.max) := by
      have : IntKind.i64.max = 9223372036854775807 := by decide
      rw [this]; omega
    simp only [binOp, Op.stringOp]
    rw [if_neg (by push_cast; exact this)]
    rfl
  all_goals simp [binOp, Op.stringOp]

def eqV (k : TyK) (x y : V) (c : Bool) : Option Bool :=
  match k, x, y with
  | .bool, .t (.bool a), .t (.bool b) => some (a == b)
  | .pointer _, .t .nilp, .t .nilp => some true
  | .pointer _, .t .nilp, .t (.ptr _) => some false
  | .pointer _, .t (.ptr _), .t .nilp => some false
  | .pointer _, .t .nilp, .ref _ _ => some false
  | .pointer _, .ref _ _, .t .nilp => some false
  | .iface, .t .nili, .t .nili => if c then some true else none
  | .iface, .t .nili, .t (.iface _ _) => some false
  | .iface, .t (.iface _ _), .t .nili => some false
  | .func, .t .nilf, .t .nilf => some true
  | .func, .t .nilf, .t (.fn _ _ _) => some false
  | .func, .t (.fn _ _ _), .t .nilf => some false
  | .map _ _, .t .nilm, .t .nilm => some true
  | .map _ _, .t .nilm, .mapr _ => some false
  | .map _ _, .mapr _, .t .nilm => some false
  | .slice .., .t .nils, .t .nils => some true
  | .slice .., .t .zlist, .t .nils => some true
  | .slice .., .t (.rows _ _ _), .t .nils => some false
  | _, _, _ => none
def binV (op : BinOp) (k : Option TyK) (x y : V) (c : Bool) : Option (Prop × T) :=
  match x, y with
  | .t (.int k a), .t (.int k' b) =>
    match op with
    | .shl => some (0 ≤ b, .int k (k.wrap (a * 2 ^ (min b.toNat k.bits))))
    | .shr => some (0 ≤ b, .int k (a.fdiv (2 ^ (min b.toNat k.bits))))
    | op => if k = k' then intT op k a b else none
  | .t (.str s), .t (.str t) => strT op s t
  | x, y => match k with
    | some k => match eqV k x y c with
      | some b => eqT op b
      | none => none
    | none => none

theorem run_eqV' {P : Program} {t : TypeId} {y : Ty} (ht : chkTy P t y = true) {x x' : V} {c b : Bool} (h : eqV y.k x x' c = some b) {w : World} {ok : Nat → Prop} {β : Names} {v v' : Value}
    (hv : VV w ok β x v) (hv' : VV w ok β x' v') (d : Nat) : (Op.equalIn (d + 1) t v v').run P w = .ok b w := by
  have hk := chkTy_kind ht
  unfold eqV at h
  split at h <;> (try cases h) <;> (rename_i hy; rw [hy] at hk)
  · simp only [VV, VR] at hv hv'; subst hv; subst hv'
    simp [Op.equalIn, run_underlying (chkK_bool hk)]
  · simp only [VV, VR] at hv hv'; subst hv; subst hv'
    simp [Op.equalIn, run_underlying (chkK_pointer hk)]
  · simp only [VV, VR] at hv hv'; subst hv; obtain ⟨_, _, rfl, _⟩ := hv'
    simp [Op.equalIn, run_underlying (chkK_pointer hk)]
  · simp only [VV, VR] at hv hv'; subst hv'; obtain ⟨_, _, rfl, _⟩ := hv
    simp [Op.equalIn, run_underlying (chkK_pointer hk)]
  · simp only [VV, VR] at hv hv'; subst hv; obtain ⟨_, _, _, rfl⟩ := hv'
    simp [Op.equalIn, run_underlying (chkK_pointer hk)]
  · simp only [VV, VR] at hv hv'; subst hv'; obtain ⟨_, _, _, rfl⟩ := hv
    simp [Op.equalIn, run_underlying (chkK_pointer hk)]
  · obtain ⟨ms, hu⟩ := chkK_iface hk
    simp only [VV, VR] at hv hv'; subst hv; subst hv'
    simp only [Option.ite_none_right_eq_some, Option.some.injEq] at h
    obtain ⟨_, rfl⟩ := h
    simp [Op.equalIn, run_underlying hu]
  · obtain ⟨ms, hu⟩ := chkK_iface hk
    simp only [VV, VR] at hv hv'; subst hv; obtain ⟨_, rfl, _⟩ := hv'
    simp [Op.equalIn, run_underlying hu]
  · obtain ⟨ms, hu⟩ := chkK_iface hk
    simp only [VV, VR] at hv hv'; subst hv'; obtain ⟨_, rfl, _⟩ := hv
    simp [Op.equalIn, run_underlying hu]
  · simp only [VV, VR] at hv hv'; subst hv; subst hv'
    obtain ⟨_, _, _, hu⟩ := chkK_func hk
    simp [Op.equalIn, run_underlying hu]
  · simp only [VV, VR] at hv hv'; subst hv; obtain ⟨_, _, rfl, _⟩ := hv'
    obtain ⟨_, _, _, hu⟩ := chkK_func hk
    simp [Op.equalIn, run_underlying hu]
  · simp only [VV, VR] at hv hv'; subst hv'; obtain ⟨_, _, rfl, _⟩ := hv
    obtain ⟨_, _, _, hu⟩ := chkK_func hk
    simp [Op.equalIn, run_underlying hu]
  · simp only [VV, VR] at hv hv'; subst hv; subst hv'
    simp [Op.equalIn, run_underlying (chkK_map hk)]
  · simp only [VV, VR] at hv hv'; subst hv; obtain ⟨_, _, _, rfl⟩ := hv'
    simp [Op.equalIn, run_underlying (chkK_map hk)]
  · simp only [VV, VR] at hv hv'; subst hv'; obtain ⟨_, _, _, rfl⟩ := hv
    simp [Op.equalIn, run_underlying (chkK_map hk)]
  · simp only [VV, VR] at hv hv'; subst hv; subst hv'
    simp [Op.equalIn, run_underlying (chkK_slice hk).1]
  · simp only [VV, VR] at hv hv'; subst hv'; obtain ⟨_, rfl⟩ := hv
    simp [Op.equalIn, run_underlying (chkK_slice hk).1]
  · simp only [VV, VR] at hv hv'; subst hv'; obtain ⟨_, _, _, rfl, _⟩ := hv
    simp [Op.equalIn, run_underlying (chkK_slice hk).1]
theorem run_eqV {P : Program} {t : TypeId} {y : Ty} (ht : chkTy P t y = true) {x x' : V} {c b : Bool} (h : eqV y.k x x' c = some b) {w : World} {ok : Nat → Prop} {β : Names} {v v' : Value}
    (hv : VV w ok β x v) (hv' : VV w ok β x' v') : (Op.equal t v v').run P w = .ok b w := run_eqV' ht h hv hv' 9999
end Go.Tl
end
section
namespace Go.Tl
set_option linter.unusedVariables false
set_option linter.unusedSimpArgs false

theorem run_guardInt {P : Program} {op : BinOp} {t : TypeId} {x y : Operand} {k k' : IntKind} {a b : Int} (w : World) : (eqGuard op t x y (.int k a) (.int k' b)).run P w = .ok () w := by
  cases op <;> simp [eqGuard]
theorem run_guardStr {P : Program} {op : BinOp} {t : TypeId} {x y : Operand} {a b : ByteArray} (w : World) : (eqGuard op t x y (.string a) (.string b)).run P w = .ok () w := by
  cases op <;> simp [eqGuard]

theorem run_binV {P : Program} {op : BinOp} {t : TypeId} {ty : Option Ty} (hty : ∀ y, ty = some y → chkTy P t y = true) {xo yo : Operand} {x y : V} {p : Prop} {r : T}
    (h : binV op (ty.map (·.k)) x y (isConst xo || isConst yo) = some (p, r)) (hp : p) {w : World} {ok : Nat → Prop} {β : Names} {v v' : Value} (hv : VV w ok β x v) (hv' : VV w ok β y v') :
    ∃ u, (do eqGuard op t xo yo v v'; binOp op t v v' : Sem Value).run P w = .ok u w ∧ VR w ok r u := by
  unfold binV at h
  split at h
  · rename_i k a k' b
    simp only [VV, VR] at hv hv'
    subst hv; subst hv'
    simp only [Sem.run_bind, run_guardInt, Result.andThen_ok]
    split at h
    · simp only [Option.some.injEq, Prod.mk.injEq] at h
      obtain ⟨rfl, rfl⟩ := h
      exact ⟨_, by simp only [binOp, Op.shift]; rw [if_neg (Int.not_lt.2 hp)]; rfl, by simp only [VR]⟩
    · simp only [Option.some.injEq, Prod.mk.injEq] at h
      obtain ⟨rfl, rfl⟩ := h
      exact ⟨_, by simp only [binOp, Op.shift]; rw [if_neg (Int.not_lt.2 hp)]; rfl, by simp only [VR]⟩
    · split at h
      · rename_i hk; subst hk; exact run_intT h hp w ok
      · cases h
  · simp only [VV, VR] at hv hv'
    subst hv; subst hv'
    simp only [Sem.run_bind, run_guardStr, Result.andThen_ok]
    exact run_strT h hp w ok
  · rename_i hn1 hn2
    cases hty' : ty with
    | none => simp [hty'] at h
    | some yt =>
      simp only [hty', Option.map_some] at h
      cases he : eqV yt.k x y (isConst xo || isConst yo) with
      | none => simp [he] at h
      | some b =>
        simp only [he] at h
        have hc := hty yt hty'
        have hrun := run_eqV hc he hv hv'
        have hg : (op = .eql ∨ op = .neq) := by
          cases op <;> simp [eqT] at h <;> simp
        have guard : (eqGuard op t xo yo v v').run P w = .ok () w := by
          unfold eqV at he
          split at he <;> (try cases he) <;> simp only [VV, VR] at hv hv'
          case h_7 =>
            subst hv; subst hv'
            simp only [Option.ite_none_right_eq_some] at he
            obtain ⟨hcc, _⟩ := he
            rcases hg with rfl | rfl <;> cases xo <;> cases yo <;> simp [isConst] at hcc <;> simp [eqGuard]
          all_goals rcases hg with rfl | rfl
          all_goals first
            | (subst hv; subst hv'; simp [eqGuard]; done)
            | (subst hv; obtain ⟨_, _, rfl, _⟩ := hv'; simp [eqGuard]; done)
            | (subst hv'; obtain ⟨_, _, rfl, _⟩ := hv; simp [eqGuard]; done)
            | (subst hv; obtain ⟨_, _, _, rfl⟩ := hv'; simp [eqGuard]; done)
            | (subst hv'; obtain ⟨_, _, _, rfl⟩ := hv; simp [eqGuard]; done)
            | (subst hv; obtain ⟨_, rfl, _⟩ := hv'; simp [eqGuard]; done)
            | (subst hv'; obtain ⟨_, rfl, _⟩ := hv; simp [eqGuard]; done)
            | (subst hv'; obtain ⟨_, rfl⟩ := hv; simp [eqGuard]; done)
            | (subst hv'; obtain ⟨_, _, _, rfl, _⟩ := hv; simp [eqGuard]; done)
        have hbin : ∀ f : Bool → Value, (∀ b, (op = .eql → f b = .bool b) ∧ (op = .neq → f b = .bool (!b))) → (binOp op t v v').run P w = .ok (f b) w := by
          intro f hf
          unfold eqV at he
          split at he <;> (try cases he) <;> simp only [VV, VR] at hv hv'
          all_goals rcases hg with rfl | rfl
          all_goals first
            | (subst hv; subst hv'; simp only [binOp, Sem.run_bind, hrun, Result.andThen_ok, Sem.run_pure]; simp [hf]; done)
            | (subst hv; obtain ⟨_, _, rfl, _⟩ := hv'; simp only [binOp, Sem.run_bind, hrun, Result.andThen_ok, Sem.run_pure]; simp [hf]; done)
            | (subst hv'; obtain ⟨_, _, rfl, _⟩ := hv; simp only [binOp, Sem.run_bind, hrun, Result.andThen_ok, Sem.run_pure]; simp [hf]; done)
            | (subst hv; obtain ⟨_, _, _, rfl⟩ := hv'; simp only [binOp, Sem.run_bind, hrun, Result.andThen_ok, Sem.run_pure]; simp [hf]; done)
            | (subst hv'; obtain ⟨_, _, _, rfl⟩ := hv; simp only [binOp, Sem.run_bind, hrun, Result.andThen_ok, Sem.run_pure]; simp [hf]; done)
            | (subst hv; obtain ⟨_, rfl, _⟩ := hv'; simp only [binOp, Sem.run_bind, hrun, Result.andThen_ok, Sem.run_pure]; simp [hf]; done)
            | (subst hv'; obtain ⟨_, rfl, _⟩ := hv; simp only [binOp, Sem.run_bind, hrun, Result.andThen_ok, Sem.run_pure]; simp [hf]; done)
            | (subst hv'; obtain ⟨_, rfl⟩ := hv; simp only [binOp, Sem.run_bind, hrun, Result.andThen_ok, Sem.run_pure]; simp [hf]; done)
            | (subst hv'; obtain ⟨_, _, _, rfl, _⟩ := hv; simp only [binOp, Sem.run_bind, hrun, Result.andThen_ok, Sem.run_pure]; simp [hf]; done)
        rcases hg with rfl | rfl
        · simp only [eqT, Option.some.injEq, Prod.mk.injEq] at h
          obtain ⟨rfl, rfl⟩ := h
          exact ⟨.bool b, by simp only [Sem.run_bind, guard, Result.andThen_ok]; exact hbin .bool (fun b => ⟨fun _ => rfl, fun e => by cases e⟩), by simp only [VR]⟩
        · simp only [eqT, Option.some.injEq, Prod.mk.injEq] at h
          obtain ⟨rfl, rfl⟩ := h
          exact ⟨.bool (!b), by simp only [Sem.run_bind, guard, Result.andThen_ok]; exact hbin (fun b => .bool (!b)) (fun b => ⟨(fun e => by cases e), fun _ => rfl⟩), by simp only [VR]⟩
end Go.Tl
end
section
namespace Go.Tl
set_option linter.unusedVariables false
set_option linter.unusedSimpArgs false

def intOf : V → Option (IntKind × Int)
  | .t (.int k n) => some (k, n)
  | _ => none
theorem intOf_reads {w : World} {ok : Nat → Prop} {β : Names} {x : V} {k : IntKind} {n : Int} {v : Value} (h : intOf x = some (k, n)) (hv : VV w ok β x v) : v = .int k n := by
  unfold intOf at h
  split at h
  · cases h; simpa only [VV, VR] using hv
  · cases h

def fieldV (fs : List (Nat × Nat × Bool)) (f : Nat) (x : V) : Option V :=
  match fs[f]? with
  | some (off, sz, _) => if sz = 0 then none else match x with
    | .ref i o => some (.ref i (o + off))
    | .t (.ptr cs) => some (.t (.ptr (cs.drop off)))
    | .t (.pa _ cs) => some (.t (.ptr (cs.drop off)))
    | _ => none
  | none => none
theorem run_fieldV {P : Program} {s : TypeId} {y : Ty} (hy : chkTy P s y = true) {fs : List (Nat × Nat × Bool)} (hk : y.k = .struct fs) {f : Nat} {x r : V} (h : fieldV fs f x = some r)
    {w : World} {ok : Nat → Prop} {β : Names} {v : Value} (hv : VV w ok β x v) : ∃ u, (Instr.fieldAt s v f).run P w = .ok u w ∧ VV w ok β r u := by
  have hc := chkTy_kind hy
  rw [hk] at hc
  obtain ⟨fields, hu, hf⟩ := chkK_struct hc
  unfold fieldV at h
  split at h
  · rename_i off sz g hfs
    obtain ⟨fd, h1, h2, h3, h4⟩ := chkFs_get hf hfs
    split at h
    · cases h
    · rename_i hsz
      have hfield : fields[f]? = some fd := by simpa using h1
      obtain ⟨ifo, hi, his⟩ : ∃ i, P.info? fd.type = some i ∧ i.size = sz := by
        unfold sizeP at h3
        cases hi : P.info? fd.type with
        | none => simp [hi] at h3
        | some i => exact ⟨i, rfl, by simpa [hi] using h3⟩
      have place : ∀ a : Addr, (fieldPlace a fd).run P w = .ok (a.add fd.offset) w := fun a => by
        have : ¬ ifo.size = 0 := by rw [his]; exact hsz
        simp [fieldPlace, sizeOf, typeInfo, hi, this]
      split at h
      · cases h
        simp only [VV] at hv ⊢
        obtain ⟨b, z, hb, rfl⟩ := hv
        exact ⟨_, by simp [Instr.fieldAt, run_underlying hu, hfield, Instr.sureAddr, place]; rfl, b, z, hb, by rw [Addr.add_mid, h2]⟩
      · cases h
        simp only [VV, VR] at hv ⊢
        obtain ⟨b, o, rfl, hb, hc⟩ := hv
        exact ⟨_, by simp [Instr.fieldAt, run_underlying hu, hfield, Instr.sureAddr, place]; rfl, b, o + off, by rw [Addr.add_mid, h2], hb, VA.drop off hc⟩
      · cases h
        simp only [VV, VR] at hv ⊢
        obtain ⟨rfl, hb, _, hc⟩ := hv
        exact ⟨_, by simp [Instr.fieldAt, run_underlying hu, hfield, Instr.sureAddr, place]; rfl, _, 0 + off, by rw [Addr.add_mid, h2], hb, VA.drop off hc⟩
      · cases h
  · cases h

def indexAddrV (k : TyK) (x : V) (n : Int) : Option (Prop × V) :=
  match k, x with
  | .slice _ sz _, .t (.list len sz' cs) => if sz' = sz then some (0 ≤ n ∧ n < len, .t (.ptr (cs.drop (n.toNat * sz)))) else none
  | .slice _ sz _, .own i sz' len => if sz' = sz then some (0 ≤ n ∧ n < len, .ref i (n.toNat * sz)) else none
  | .slice _ sz _, .view i o sz' len => if sz' = sz then some (0 ≤ n ∧ n < len, .ref i (o + n.toNat * sz)) else none
  | .array len _ sz _, .ref i o => some (0 ≤ n ∧ n < len, .ref i (o + n.toNat * sz))
  | .array len _ sz _, .t (.ptr cs) => some (0 ≤ n ∧ n < len, .t (.ptr (cs.drop (n.toNat * sz))))
  | _, _ => none
theorem run_indexAddrV {P : Program} {s : TypeId} {y : Ty} (hy : chkTy P s y = true) {kx : IntKind} {n : Int} {x r : V} {p : Prop} (h : indexAddrV y.k x n = some (p, r)) (hp : p)
    {w : World} {ok : Nat → Prop} {β : Names} {v : Value} (hv : VV w ok β x v) : ∃ u, (Instr.indexAt s v (.int kx n)).run P w = .ok u w ∧ VV w ok β r u := by
  have hc := chkTy_kind hy
  unfold indexAddrV at h
  split at h
  · rename_i e sz bb len sz' cs hk
    rw [hk] at hc
    obtain ⟨hu, i, hi, his, _⟩ := chkK_slice hc
    simp only [Option.ite_none_right_eq_some, Option.some.injEq, Prod.mk.injEq] at h
    obtain ⟨rfl, rfl, rfl⟩ := h
    simp only [VV, VR] at hv ⊢
    obtain ⟨hl, A, cap, rfl, _, _, h0 | ⟨b, o, rfl, hb, hc⟩⟩ := hv
    · omega
    · exact ⟨_, by simp [Instr.indexAt, asIntOf, run_underlying hu, hp, sizeOf, typeInfo, hi]; rfl, b, o + n.toNat * sz', by rw [Addr.add_mid, his], hb, VA.drop _ hc⟩
  · rename_i e sz bb i sz' len hk
    rw [hk] at hc
    obtain ⟨hu, ii, hi, his, _⟩ := chkK_slice hc
    simp only [Option.ite_none_right_eq_some, Option.some.injEq, Prod.mk.injEq] at h
    obtain ⟨rfl, rfl, rfl⟩ := h
    simp only [VV] at hv ⊢
    rcases hv with ⟨b, z, cap, hb, rfl, _⟩ | ⟨h0, _⟩
    · exact ⟨_, by simp [Instr.indexAt, asIntOf, run_underlying hu, hp, sizeOf, typeInfo, hi]; rfl, b, z, hb, by rw [Addr.add_mid, his, Nat.zero_add]⟩
    · omega
  · rename_i e sz bb i o sz' len hk
    rw [hk] at hc
    obtain ⟨hu, ii, hi, his, _⟩ := chkK_slice hc
    simp only [Option.ite_none_right_eq_some, Option.some.injEq, Prod.mk.injEq] at h
    obtain ⟨rfl, rfl, rfl⟩ := h
    simp only [VV] at hv ⊢
    rcases hv with ⟨b, z, cap, hb, o', rfl, _, _, h0 | rfl⟩ | ⟨h0, _⟩
    rotate_right
    · omega
    · omega
    · exact ⟨_, by simp [Instr.indexAt, asIntOf, run_underlying hu, hp, sizeOf, typeInfo, hi]; rfl, b, z, hb, by rw [Addr.add_mid, his]⟩
  · rename_i len e sz g i o hk
    rw [hk] at hc
    obtain ⟨hu, h3, _⟩ := chkK_array hc
    obtain ⟨ifo, hi, his⟩ : ∃ i, P.info? e = some i ∧ i.size = sz := by
      unfold sizeP at h3
      cases hi : P.info? e with
      | none => simp [hi] at h3
      | some i => exact ⟨i, rfl, by simpa [hi] using h3⟩
    simp only [Option.some.injEq, Prod.mk.injEq] at h
    obtain ⟨rfl, rfl⟩ := h
    simp only [VV] at hv ⊢
    obtain ⟨b, z, hb, rfl⟩ := hv
    exact ⟨_, by simp [Instr.indexAt, asIntOf, run_underlying hu, hp, sizeOf, typeInfo, hi, Instr.sureAddr]; rfl, b, z, hb, by rw [Addr.add_mid, his]⟩
  · rename_i len e sz g cs hk
    rw [hk] at hc
    obtain ⟨hu, h3, _⟩ := chkK_array hc
    obtain ⟨ifo, hi, his⟩ : ∃ i, P.info? e = some i ∧ i.size = sz := by
      unfold sizeP at h3
      cases hi : P.info? e with
      | none => simp [hi] at h3
      | some i => exact ⟨i, rfl, by simpa [hi] using h3⟩
    simp only [Option.some.injEq, Prod.mk.injEq] at h
    obtain ⟨rfl, rfl⟩ := h
    simp only [VV, VR] at hv ⊢
    obtain ⟨b, o, rfl, hb, hc⟩ := hv
    exact ⟨_, by simp [Instr.indexAt, asIntOf, run_underlying hu, hp, sizeOf, typeInfo, hi, Instr.sureAddr]; rfl, b, o + n.toNat * sz, by rw [Addr.add_mid, his], hb, VA.drop _ hc⟩
  · cases h

def byteAt (s : ByteArray) (i : Nat) : Int := (((s.data.toList[i]?).getD 0).toNat : Int)
def indexV (k : TyK) (x : V) (n : Int) : Option (Prop × V) :=
  match k, x with
  | .string, .t (.str s) => some (0 ≤ n ∧ n < s.size, .t (.int .u8 (byteAt s n.toNat)))
  | .array len _ sz true, .t (.agg cs) => some (0 ≤ n ∧ n < len, .t (.agg ((cs.drop (n.toNat * sz)).take sz)))
  | _, _ => none
theorem run_indexV {P : Program} {s : TypeId} {y : Ty} (hy : chkTy P s y = true) {kx : IntKind} {n : Int} {x r : V} {p : Prop} (h : indexV y.k x n = some (p, r)) (hp : p)
    {w : World} {ok : Nat → Prop} {β : Names} {v : Value} (hv : VV w ok β x v) : ∃ u, (Instr.index s v (.int kx n)).run P w = .ok u w ∧ VV w ok β r u := by
  have hc := chkTy_kind hy
  unfold indexV at h
  split at h
  · rename_i st hk
    rw [hk] at hc
    have hu := chkK_string hc
    simp only [Option.some.injEq, Prod.mk.injEq] at h
    obtain ⟨rfl, rfl⟩ := h
    simp only [VV, VR] at hv ⊢
    subst hv
    have hlt : n.toNat < st.size := by omega
    have hget : st[n.toNat]? = some st[n.toNat] := by simp [hlt]
    refine ⟨.int .u8 (st[n.toNat]).toNat, by simp [Instr.index, asIntOf, run_underlying hu, hp.1, hget], ?_⟩
    have : st.data.toList[n.toNat]? = some st[n.toNat] := by
      have h' : n.toNat < st.data.size := hlt
      rw [Array.getElem?_toList, Array.getElem?_eq_getElem h']; rfl
    simp only [byteAt, this, Option.getD_some]
  · rename_i len e sz cs hk
    rw [hk] at hc
    obtain ⟨hu, h3, hg⟩ := chkK_array hc
    obtain ⟨ifo, hi, his⟩ : ∃ i, P.info? e = some i ∧ i.size = sz := by
      unfold sizeP at h3
      cases hi : P.info? e with
      | none => simp [hi] at h3
      | some i => exact ⟨i, rfl, by simpa [hi] using h3⟩
    simp only [Option.some.injEq, Prod.mk.injEq] at h
    obtain ⟨rfl, rfl⟩ := h
    simp only [VV, VR] at hv ⊢
    obtain ⟨vs, rfl, h1, h2⟩ := hv
    have hag : (isAgg e).run P w = .ok true w := by
      unfold aggP at hg
      cases hue : P.underlying e with
      | none => simp [hue] at hg
      | some d => cases d <;> simp [hue] at hg <;> simp [isAgg, run_underlying hue]
    refine ⟨.agg (vs.extract (n.toNat * sz) (n.toNat * sz + sz)), ?_, _, rfl, ?_, ?_⟩
    · simp [Instr.index, asIntOf, run_underlying hu, hp.1, hp.2, part, hag, sizeOf, typeInfo, hi, his]
    · intro u hu'
      rw [Array.toList_extract, List.extract_eq_take_drop] at hu'
      exact h1 u (List.mem_of_mem_drop (List.mem_of_mem_take hu'))
    · rw [Array.toList_extract, List.extract_eq_take_drop, Nat.add_sub_cancel_left]
      exact VL.take _ (VL.drop _ h2)
  · cases h

def lenV (k : TyK) (x : V) : Option V :=
  match k, x with
  | .string, .t (.str s) => some (.t (.int .i64 s.size))
  | .slice .., .t (.list n _ _) => some (.t (.int .i64 n))
  | .slice .., .t .nils => some (.t (.int .i64 0))
  | .slice .., .t (.rows n _ _) => some (.t (.int .i64 n))
  | .slice .., .own _ _ n => some (.t (.int .i64 n))
  | .slice .., .view _ _ _ n => some (.t (.int .i64 n))
  | .map _ _, .t .nilm => some (.t (.int .i64 0))
  | .array n _ _ _, _ => some (.t (.int .i64 n))
  | _, _ => none
theorem run_lenV {P : Program} {s : TypeId} {y : Ty} (hy : chkTy P s y = true) {x r : V} (h : lenV y.k x = some r)
    {w : World} {ok : Nat → Prop} {β : Names} {v : Value} (hv : VV w ok β x v) (ty : TypeId) (rest : List TypeId) : ∃ u, (Builtin.len_ (s :: rest).toArray ty #[v]).run P w = .ok u w ∧ VV w ok β r u := by
  have hc := chkTy_kind hy
  unfold lenV at h
  split at h <;> (try cases h) <;> (rename_i hk; rw [hk] at hc)
  · have hu := chkK_string hc
    simp only [VV, VR] at hv ⊢
    subst hv
    exact ⟨_, by simp [Builtin.len_, run_underlying hu]; rfl, rfl⟩
  · obtain ⟨hu, _⟩ := chkK_slice hc
    simp only [VV, VR] at hv ⊢
    obtain ⟨_, A, cap, rfl, _⟩ := hv
    exact ⟨_, by simp [Builtin.len_, run_underlying hu]; rfl, rfl⟩
  · obtain ⟨hu, _⟩ := chkK_slice hc
    simp only [VV, VR] at hv ⊢
    subst hv
    exact ⟨_, by simp [Builtin.len_, run_underlying hu]; rfl, rfl⟩
  · obtain ⟨hu, _⟩ := chkK_slice hc
    simp only [VV, VR] at hv ⊢
    obtain ⟨_, A, cap, rfl, _⟩ := hv
    exact ⟨_, by simp [Builtin.len_, run_underlying hu]; rfl, rfl⟩
  · obtain ⟨hu, _⟩ := chkK_slice hc
    simp only [VV, VR] at hv ⊢
    rcases hv with ⟨b, z, cap, _, rfl, _⟩ | ⟨rfl, rfl⟩
    · exact ⟨_, by simp [Builtin.len_, run_underlying hu]; rfl, rfl⟩
    · exact ⟨_, by simp [Builtin.len_, run_underlying hu]; rfl, rfl⟩
  · obtain ⟨hu, _⟩ := chkK_slice hc
    simp only [VV, VR] at hv ⊢
    rcases hv with ⟨b, z, cap, _, o', rfl, _⟩ | ⟨rfl, rfl⟩
    · exact ⟨_, by simp [Builtin.len_, run_underlying hu]; rfl, rfl⟩
    · exact ⟨_, by simp [Builtin.len_, run_underlying hu]; rfl, rfl⟩
  · have hu := chkK_map hc
    simp only [VV, VR] at hv ⊢
    subst hv
    exact ⟨_, by simp [Builtin.len_, run_underlying hu]; rfl, rfl⟩
  · obtain ⟨hu, _⟩ := chkK_array hc
    simp only [VV, VR]
    exact ⟨_, by cases v <;> simp [Builtin.len_, run_underlying hu] <;> rfl, rfl⟩

def unT (op : UnOp) (x : V) : Option V :=
  match op, x with
  | .neg, .t (.int k n) => some (.t (.int k (k.wrap (0 - n))))
  | .not, .t (.bool b) => some (.t (.bool (!b)))
  | _, _ => none
theorem run_unT {P : Program} {op : UnOp} {x r : V} (h : unT op x = some r) {w : World} {ok : Nat → Prop} {β : Names} {v : Value} (hv : VV w ok β x v) :
    ∃ u, (Op.unary op v).run P w = .ok u w ∧ VV w ok β r u := by
  unfold unT at h
  split at h <;> cases h <;> simp only [VV, VR] at hv ⊢ <;> subst hv
  · exact ⟨_, by simp [Op.unary, Op.intArith]; rfl, by simp⟩
  · exact ⟨_, by simp [Op.unary], rfl⟩

def convV (ks kd : TyK) (x : V) : Option V :=
  match ks, kd, x with
  | .int _, .int k, .t (.int _ n) => some (.t (.int k (k.wrap n)))
  | .string, .string, .t (.str s) => some (.t (.str s))
  | _, _, _ => none
theorem run_convV {P : Program} {s d : TypeId} {ys yd : Ty} (hs : chkTy P s ys = true) (hd : chkTy P d yd = true) {x r : V} (h : convV ys.k yd.k x = some r) {w : World} {ok : Nat → Prop} {β : Names} {v : Value} (hv : VV w ok β x v) :
    ∃ u, (convert s d v).run P w = .ok u w ∧ VV w ok β r u := by
  have hcs := chkTy_kind hs
  have hcd := chkTy_kind hd
  unfold convV at h
  split at h <;> (try cases h) <;> (rename_i hk1 hk2; rw [hk1] at hcs; rw [hk2] at hcd) <;> simp only [VV, VR] at hv ⊢ <;> subst hv
  · exact ⟨_, by simp [convert, run_underlying (chkK_int hcs), run_underlying (chkK_int hcd), Conv.intToInt], rfl⟩
  · exact ⟨_, by simp [convert, run_underlying (chkK_string hcs), run_underlying (chkK_string hcd)], rfl⟩

def extractV (x : V) (i : Nat) : Option V :=
  match x with
  | .t (.tup cs) => (cs[i]?).map V.t
  | .tup vs => vs[i]?
  | _ => none
theorem run_extractV {P : Program} {x r : V} {i : Nat} (h : extractV x i = some r) {w : World} {ok : Nat → Prop} {β : Names} {v : Value} (hv : VV w ok β x v) :
    ∃ u, (Instr.extract v i).run P w = .ok u w ∧ VV w ok β r u := by
  unfold extractV at h
  split at h
  · rename_i cs
    simp only [Option.map_eq_some_iff] at h
    obtain ⟨t, hi, rfl⟩ := h
    simp only [VV, VR] at hv ⊢
    obtain ⟨vs, rfl, hl⟩ := hv
    obtain ⟨u, hu, hr⟩ := VL.get hl i t hi
    have hu' : vs[i]? = some u := by simpa using hu
    exact ⟨u, by simp [Instr.extract, hu'], hr⟩
  · simp only [VV] at hv
    obtain ⟨vs, rfl, hl⟩ := hv
    obtain ⟨u, hu, hr⟩ := VVL.get hl i r h
    have hu' : vs[i]? = some u := by simpa using hu
    exact ⟨u, by simp [Instr.extract, hu'], hr⟩
  · cases h
def pickFieldV (fs : List (Nat × Nat × Bool)) (f : Nat) (x : V) : Option V :=
  match fs[f]? with
  | some (off, sz, g) => match x with
    | .t (.agg cs) => if g then some (.t (.agg ((cs.drop off).take sz))) else (cs[off]?).map V.t
    | .agg vs => if g then none else vs[off]?
    | _ => none
  | none => none
def fieldHas (P : Program) (s : TypeId) (f : Nat) : Bool :=
  match P.underlying s with
  | some (.struct fds) => match fds[f]? with
    | some d => (P.underlying d.type).isSome
    | none => false
  | _ => false
theorem run_pickFieldV {P : Program} {s : TypeId} {y : Ty} (hy : chkTy P s y = true) {fs : List (Nat × Nat × Bool)} (hk : y.k = .struct fs) {f : Nat} (hh : fieldHas P s f = true) {x r : V} (h : pickFieldV fs f x = some r)
    {w : World} {ok : Nat → Prop} {β : Names} {v : Value} (hv : VV w ok β x v) : ∃ u, (Instr.field s v f).run P w = .ok u w ∧ VV w ok β r u := by
  have hc := chkTy_kind hy
  rw [hk] at hc
  obtain ⟨fields, hu, hf⟩ := chkK_struct hc
  unfold pickFieldV at h
  split at h
  · rename_i off sz g hfs
    obtain ⟨fd, h1, h2, h3, h4⟩ := chkFs_get hf hfs
    have hfield : fields[f]? = some fd := by simpa using h1
    obtain ⟨d, hd⟩ : ∃ d, P.underlying fd.type = some d := by
      unfold fieldHas at hh
      rw [hu] at hh
      simp only [hfield] at hh
      exact Option.isSome_iff_exists.1 hh
    obtain ⟨ifo, hi, his⟩ : ∃ i, P.info? fd.type = some i ∧ i.size = sz := by
      unfold sizeP at h3
      cases hi : P.info? fd.type with
      | none => simp [hi] at h3
      | some i => exact ⟨i, rfl, by simpa [hi] using h3⟩
    have hag : (isAgg fd.type).run P w = .ok g w := by
      rw [← h4]
      unfold aggP
      rw [hd]
      cases d <;> simp [isAgg, run_underlying hd]
    split at h
    · rename_i cs
      simp only [VV, VR] at hv
      obtain ⟨vs, rfl, h5, h6⟩ := hv
      cases g with
      | true =>
        simp only [if_true, Option.some.injEq] at h
        subst h
        refine ⟨.agg (vs.extract off (off + sz)), by simp [Instr.field, run_underlying hu, hfield, asAgg, part, hag, sizeOf, typeInfo, hi, his, h2], ?_⟩
        simp only [VV, VR]
        refine ⟨_, rfl, ?_, ?_⟩
        · intro u hu'
          rw [Array.toList_extract, List.extract_eq_take_drop] at hu'
          exact h5 u (List.mem_of_mem_drop (List.mem_of_mem_take hu'))
        · rw [Array.toList_extract, List.extract_eq_take_drop, Nat.add_sub_cancel_left]
          exact VL.take _ (VL.drop _ h6)
      | false =>
        simp only [Bool.false_eq_true, if_false, Option.map_eq_some_iff] at h
        obtain ⟨t, ht, rfl⟩ := h
        obtain ⟨u, hu1, hr⟩ := VL.get h6 off t ht
        have hu' : vs[off]? = some u := by simpa using hu1
        exact ⟨u, by simp [Instr.field, run_underlying hu, hfield, asAgg, part, hag, h2, hu'], by simpa only [VV] using hr⟩
    · rename_i ws
      simp only [VV] at hv
      obtain ⟨vs, rfl, h5, h6⟩ := hv
      cases g with
      | true => simp at h
      | false =>
        simp only [Bool.false_eq_true, if_false] at h
        obtain ⟨u, hu1, hr⟩ := VVL.get h6 off r h
        have hu' : vs[off]? = some u := by simpa using hu1
        exact ⟨u, by simp [Instr.field, run_underlying hu, hfield, asAgg, part, hag, h2, hu'], hr⟩
    · cases h
  · cases h
end Go.Tl
end
section
namespace Go.Tl
set_option linter.unusedVariables false
set_option linter.unusedSimpArgs false

/-! ### objects as lists of slots -/
def Obj.isMap : Obj → Bool
  | .map _ => true
  | _ => false
def Obj.e : Obj → TypeId
  | .cells e _ | .vars e _ => e
  | .map _ => 0
def Obj.vs : Obj → List V
  | .cells _ cs => cs.map V.t
  | .vars _ vs => vs
  | .map _ => []
section
variable {w : World} {ok : Nat → Prop} {β : Names}
theorem VVL.of_map_t : ∀ {cs : List T} {us : List Value}, VVL w ok β (cs.map V.t) us → VL w ok cs us
  | [], us, h => by simp only [List.map_nil, VVL] at h; simp only [VL]; exact h
  | c :: cs, us, h => by
    simp only [List.map_cons, VVL] at h
    obtain ⟨u, us, rfl, hu, hr⟩ := h
    simp only [VL]
    exact ⟨u, us, rfl, by simpa only [VV] using hu, VVL.of_map_t hr⟩
theorem OR_iff {b z : Nat} {ob : Obj} (hm : ob.isMap = false) : OR w ok β b z ob ↔
    ∃ arr us rest, w.heap[b]? = some (bk arr ob.e) ∧ arr.size = z ∧ arr.toList = us ++ rest ∧ (∀ u ∈ us, u.oneCell' = true) ∧ VVL w ok β ob.vs us := by
  cases ob with
  | cells e cs =>
    simp only [OR, Obj.e, Obj.vs]
    constructor
    · rintro ⟨arr, us, rest, h1, h2, h3, h4, h5⟩; exact ⟨arr, us, rest, h1, h2, h3, h4, VVL.map_t h5⟩
    · rintro ⟨arr, us, rest, h1, h2, h3, h4, h5⟩; exact ⟨arr, us, rest, h1, h2, h3, h4, VVL.of_map_t h5⟩
  | vars e vs => simp only [OR, Obj.e, Obj.vs]
  | map es => simp [Obj.isMap] at hm
end

def cellsV : V → Option (List V)
  | .t (.agg cs) => some (cs.map V.t)
  | .t x => if x.one then some [.t x] else none
  | .agg vs => some vs
  | .tup _ => none
  | v => some [v]
theorem VV.cells {w : World} {ok : Nat → Prop} {β : Names} {x : V} {cs : List V} {v : Value} (hx : cellsV x = some cs) (h : VV w ok β x v) :
    VVL w ok β cs v.cells.toList ∧ ∀ u ∈ v.cells.toList, u.oneCell' = true := by
  unfold cellsV at hx
  split at hx
  · cases hx
    simp only [VV] at h
    exact ⟨VVL.map_t (VR.cells h (.inr ⟨_, rfl⟩)), VR.ones h (.inr ⟨_, rfl⟩)⟩
  · rename_i t _
    simp only [VV] at h
    split at hx
    · rename_i h1
      cases hx
      have h2 := VR.cells h (.inl h1)
      have : t.cells = [t] := by cases t <;> first | rfl | cases h1
      rw [this] at h2
      exact ⟨VVL.map_t h2, VR.ones h (.inl h1)⟩
    · cases hx
  · cases hx
    simp only [VV] at h
    obtain ⟨xs, rfl, h1, h2⟩ := h
    exact ⟨h2, h1⟩
  · cases hx
  · cases hx
    rename_i h1 h2 h3 h4
    cases x with
    | tup vs => exact absurd rfl (h4 vs)
    | fn f vs =>
      simp only [VV] at h; obtain ⟨xs, rfl, hh⟩ := h
      refine ⟨by simp only [VVL]; exact ⟨_, [], rfl, by simp only [VV]; exact ⟨xs, rfl, hh⟩, rfl⟩, fun u hu => ?_⟩
      rw [show (Value.func (.func f) #[] xs).cells.toList = [Value.func (.func f) #[] xs] from rfl, List.mem_singleton] at hu
      rw [hu]; rfl
    | t t => exact absurd rfl (h2 t)
    | agg vs => exact absurd rfl (h3 vs)
    | ref i o =>
      simp only [VV] at h; obtain ⟨b, z, hb, rfl⟩ := h
      refine ⟨by simp only [VVL]; exact ⟨_, [], rfl, by simp only [VV]; exact ⟨b, z, hb, rfl⟩, rfl⟩, fun u hu => ?_⟩
      rw [show (Value.pointer (some ⟨b, o, none⟩)).cells.toList = [Value.pointer (some ⟨b, o, none⟩)] from rfl, List.mem_singleton] at hu
      rw [hu]; rfl
    | own i sz n =>
      simp only [VV] at h
      rcases h with ⟨b, z, cap, hb, rfl, hh⟩ | ⟨h0, rfl⟩
      · refine ⟨by simp only [VVL]; exact ⟨_, [], rfl, by simp only [VV]; exact .inl ⟨b, z, cap, hb, rfl, hh⟩, rfl⟩, fun u hu => ?_⟩
        rw [show (Value.slice (some ⟨b, 0, none⟩) n cap).cells.toList = [Value.slice (some ⟨b, 0, none⟩) n cap] from rfl, List.mem_singleton] at hu
        rw [hu]; rfl
      · refine ⟨by simp only [VVL]; exact ⟨_, [], rfl, by simp only [VV]; exact .inr ⟨h0, trivial⟩, rfl⟩, fun u hu => ?_⟩
        rw [show (Value.slice none 0 0).cells.toList = [Value.slice none 0 0] from rfl, List.mem_singleton] at hu
        rw [hu]; rfl
    | view i o sz n =>
      simp only [VV] at h
      rcases h with ⟨b, z, cap, hb, o', rfl, hh⟩ | ⟨h0, rfl⟩
      · refine ⟨by simp only [VVL]; exact ⟨_, [], rfl, by simp only [VV]; exact .inl ⟨b, z, cap, hb, o', rfl, hh⟩, rfl⟩, fun u hu => ?_⟩
        rw [show (Value.slice (some ⟨b, o', none⟩) n cap).cells.toList = [Value.slice (some ⟨b, o', none⟩) n cap] from rfl, List.mem_singleton] at hu
        rw [hu]; rfl
      · refine ⟨by simp only [VVL]; exact ⟨_, [], rfl, by simp only [VV]; exact .inr ⟨h0, trivial⟩, rfl⟩, fun u hu => ?_⟩
        rw [show (Value.slice none 0 0).cells.toList = [Value.slice none 0 0] from rfl, List.mem_singleton] at hu
        rw [hu]; rfl
    | mapr i =>
      simp only [VV] at h; obtain ⟨b, z, hb, rfl⟩ := h
      refine ⟨by simp only [VVL]; exact ⟨_, [], rfl, by simp only [VV]; exact ⟨b, z, hb, rfl⟩, rfl⟩, fun u hu => ?_⟩
      rw [show (Value.map (some b)).cells.toList = [Value.map (some b)] from rfl, List.mem_singleton] at hu
      rw [hu]; rfl

def mkAgg (vs : List V) : V :=
  match pures vs with
  | some ts => .t (.agg ts)
  | none => .agg vs
theorem mkAgg_reads {w : World} {ok : Nat → Prop} {β : Names} {vs : List V} {us : List Value} (h : VVL w ok β vs us) (h1 : ∀ u ∈ us, u.oneCell' = true) : VV w ok β (mkAgg vs) (.agg us.toArray) := by
  unfold mkAgg
  split
  · rename_i ts hp
    simp only [VV, VR]
    exact ⟨_, rfl, by simpa using h1, VVL.pures hp (by simpa using h)⟩
  · simp only [VV]
    exact ⟨_, rfl, by simpa using h1, by simpa using h⟩

/-! ### loads -/
section
variable {P : Program} {w : World}
theorem run_load_one {t : TypeId} {y : Ty} (hy : chkTy P t y = true) (hg : y.k.agg = false) {b o : Nat} {u : Value} (hc : w.cell? ⟨b, o, none⟩ = some u) :
    (Instr.loadAt t (.pointer (some ⟨b, o, none⟩))).run P w = .ok u w := by
  obtain ⟨d, hu, hd⟩ := chkTy_agg hy
  rw [hg] at hd
  cases d <;> simp at hd <;> simp [Instr.loadAt, Instr.sureAddr, loadVar, isAgg, run_underlying hu, hc]
theorem run_load_agg {t : TypeId} {y : Ty} (hy : chkTy P t y = true) (hg : y.k.agg = true) {b o : Nat} {us : List Value} (hl : us.length = y.size) (hc : ∀ j u, us[j]? = some u → w.cell? ⟨b, o + j, none⟩ = some u) :
    (Instr.loadAt t (.pointer (some ⟨b, o, none⟩))).run P w = .ok (.agg us.toArray) w := by
  obtain ⟨d, hu, hd⟩ := chkTy_agg hy
  rw [hg] at hd
  obtain ⟨i, z, hi, his, _⟩ := chkTy_info hy
  have := run_loadVar_mid (P := P) w b o t us d hc hu (by cases d <;> first | rfl | simp at hd) (by rw [hi]; simp [his, hl])
  simpa [Instr.loadAt, Instr.sureAddr] using this
end

def getObj (x? : Option T) (ob : Obj) (o : Nat) (y : Ty) : Option (Prop × V) :=
  match ob with
  | .cells _ cs => if y.k.agg then some (o + y.size ≤ cs.length, .t (.agg ((cs.drop o).take y.size))) else match x? with
    | some x => some (cs[o]? = some x, .t x)
    | none => (cs[o]?).map fun x => (True, .t x)
  | .vars _ vs => if y.k.agg then some (o + y.size ≤ vs.length, mkAgg ((vs.drop o).take y.size)) else (vs[o]?).map fun x => (True, x)
  | .map _ => none
theorem take_drop_get {α : Type} (l : List α) (o n j : Nat) (u : α) (h : ((l.drop o).take n)[j]? = some u) : l[o + j]? = some u := by
  rw [List.getElem?_take] at h
  split at h
  · simpa [List.getElem?_drop] using h
  · cases h
theorem run_getObj {P : Program} {w : World} {ok : Nat → Prop} {β : Names} {t : TypeId} {y : Ty} (hy : chkTy P t y = true) {x? : Option T} {ob : Obj} {o b z : Nat} {p : Prop} {r : V} (h : getObj x? ob o y = some (p, r)) (hp : p)
    (hor : OR w ok β b z ob) : ∃ u, (Instr.loadAt t (.pointer (some ⟨b, o, none⟩))).run P w = .ok u w ∧ VV w ok β r u := by
  have hm : ob.isMap = false := by cases ob <;> first | rfl | simp [getObj] at h
  obtain ⟨arr, us, rest, h1, h2, h3, h4, h5⟩ := (OR_iff hm).1 hor
  have hcell : ∀ j u, us[j]? = some u → w.cell? ⟨b, j, none⟩ = some u := fun j u hj => by
    have : arr[j]? = some u := by
      rw [← Array.getElem?_toList, h3, List.getElem?_append_left (List.getElem?_eq_some_iff.1 hj).1]; exact hj
    simp [World.cell?, h1, bk, this]
  have one : ∀ x : V, ob.vs[o]? = some x → y.k.agg = false → ∃ u, (Instr.loadAt t (.pointer (some ⟨b, o, none⟩))).run P w = .ok u w ∧ VV w ok β x u := fun x hx hg => by
    obtain ⟨u, hu, hr⟩ := VVL.get h5 o x hx
    exact ⟨u, run_load_one hy hg (hcell o u hu), hr⟩
  have agg : ∀ vs, (ob.vs.drop o).take y.size = vs → o + y.size ≤ ob.vs.length → y.k.agg = true →
      ∃ us', (Instr.loadAt t (.pointer (some ⟨b, o, none⟩))).run P w = .ok (.agg us'.toArray) w ∧ VVL w ok β vs us' ∧ ∀ u ∈ us', u.oneCell' = true := fun vs hvs hl hg => by
    refine ⟨(us.drop o).take y.size, run_load_agg hy hg ?_ (fun j u hj => hcell _ _ (take_drop_get us o y.size j u hj)), hvs ▸ VVL.take _ (VVL.drop _ h5), fun u hu => h4 u (List.mem_of_mem_drop (List.mem_of_mem_take hu))⟩
    rw [← VVL.length h5] at hl
    simp; omega
  cases ob with
  | cells e cs =>
    simp only [getObj] at h
    split at h
    · rename_i hg
      simp only [Option.some.injEq, Prod.mk.injEq] at h
      obtain ⟨rfl, rfl⟩ := h
      obtain ⟨us', hrun, hr, h1'⟩ := agg _ rfl (by simpa [Obj.vs] using hp) hg
      refine ⟨_, hrun, ?_⟩
      simp only [Obj.vs, ← List.map_drop, ← List.map_take] at hr
      simp only [VV, VR]
      exact ⟨_, rfl, by simpa using h1', by simpa using VVL.of_map_t hr⟩
    · rename_i hg
      have hg' : y.k.agg = false := by simpa using hg
      split at h
      · simp only [Option.some.injEq, Prod.mk.injEq] at h
        obtain ⟨rfl, rfl⟩ := h
        exact one _ (by simp [Obj.vs, hp]) hg'
      · simp only [Option.map_eq_some_iff, Prod.mk.injEq] at h
        obtain ⟨x, hx, rfl, rfl⟩ := h
        exact one _ (by simp [Obj.vs, hx]) hg'
  | vars e vs =>
    simp only [getObj] at h
    split at h
    · rename_i hg
      simp only [Option.some.injEq, Prod.mk.injEq] at h
      obtain ⟨rfl, rfl⟩ := h
      obtain ⟨us', hrun, hr, h1'⟩ := agg _ rfl hp hg
      exact ⟨_, hrun, mkAgg_reads hr h1'⟩
    · rename_i hg
      simp only [Option.map_eq_some_iff, Prod.mk.injEq] at h
      obtain ⟨x, hx, rfl, rfl⟩ := h
      exact one _ hx (by simpa using hg)
  | map es => simp [getObj] at h

def getPtr (x? : Option T) (cs : List T) (y : Ty) : Option (Prop × V) :=
  if y.k.agg then some (y.size ≤ cs.length, .t (.agg (cs.take y.size))) else match x? with
    | some x => some (cs[0]? = some x, .t x)
    | none => (cs[0]?).map fun x => (True, .t x)
theorem run_getPtr {P : Program} {w : World} {ok : Nat → Prop} {β : Names} {t : TypeId} {y : Ty} (hy : chkTy P t y = true) {x? : Option T} {cs : List T} {o b : Nat} {p : Prop} {r : V} (h : getPtr x? cs y = some (p, r)) (hp : p)
    (hor : VA w ok cs b o) : ∃ u, (Instr.loadAt t (.pointer (some ⟨b, o, none⟩))).run P w = .ok u w ∧ VV w ok β r u := by
  have one : ∀ x : T, cs[0]? = some x → y.k.agg = false → ∃ u, (Instr.loadAt t (.pointer (some ⟨b, o, none⟩))).run P w = .ok u w ∧ VV w ok β (.t x) u := fun x hx hg => by
    obtain ⟨u, hu, _, hr⟩ := VA.get hor 0 x hx
    exact ⟨u, run_load_one hy hg hu, by simpa only [VV] using hr⟩
  unfold getPtr at h
  split at h
  · rename_i hg
    simp only [Option.some.injEq, Prod.mk.injEq] at h
    obtain ⟨rfl, rfl⟩ := h
    obtain ⟨us, h1, h2, h3⟩ := VA.cells (VA.take y.size hor)
    refine ⟨_, run_load_agg hy hg (us := us) ?_ h3, ?_⟩
    · rw [VL.length h1]; simp; omega
    · simp only [VV, VR]
      exact ⟨_, rfl, by simpa using h2, by simpa using h1⟩
  · rename_i hg
    have hg' : y.k.agg = false := by simpa using hg
    split at h
    · simp only [Option.some.injEq, Prod.mk.injEq] at h
      obtain ⟨rfl, rfl⟩ := h
      exact one _ hp hg'
    · simp only [Option.map_eq_some_iff, Prod.mk.injEq] at h
      obtain ⟨x, hx, rfl, rfl⟩ := h
      exact one _ hx hg'

/-! ### stores -/
def setObj (ob : Obj) (o : Nat) (x : V) (size : Nat) : Option (Prop × Obj) :=
  match ob, x with
  | .cells e cs, .t (.agg ts) => some (o + size ≤ cs.length ∧ ts.length = size, .cells e (cs.take o ++ ts ++ cs.drop (o + size)))
  | .cells e cs, .t x => if x.one && size == 1 then some (o < cs.length, .cells e (cs.set o x)) else none
  | .cells _ _, .tup _ => none
  | .vars _ _, .tup _ => none
  | .cells e cs, .agg vs => some (o + size ≤ cs.length ∧ vs.length = size, .vars e ((cs.map V.t).take o ++ vs ++ (cs.map V.t).drop (o + size)))
  | .cells e cs, x => if size == 1 then some (o < cs.length, .vars e ((cs.map V.t).set o x)) else none
  | .vars e vs, .t (.agg ts) => some (o + size ≤ vs.length ∧ ts.length = size, .vars e (vs.take o ++ ts.map V.t ++ vs.drop (o + size)))
  | .vars e vs, .agg xs => some (o + size ≤ vs.length ∧ xs.length = size, .vars e (vs.take o ++ xs ++ vs.drop (o + size)))
  | .vars e vs, .t x => if x.one && size == 1 then some (o < vs.length, .vars e (vs.set o (.t x))) else none
  | .vars e vs, x => if size == 1 then some (o < vs.length, .vars e (vs.set o x)) else none
  | .map _, _ => none
theorem set_eq {α : Type} (l : List α) (o : Nat) (x : α) (h : o < l.length) : l.set o x = l.take o ++ [x] ++ l.drop (o + 1) := by
  rw [List.set_eq_take_append_cons_drop, if_pos h]; simp
theorem setObj_spec {ob ob' : Obj} {o size : Nat} {x : V} {p : Prop} (h : setObj ob o x size = some (p, ob')) (hp : p) :
    ob.isMap = false ∧ ob'.isMap = false ∧ ob'.e = ob.e ∧ ∃ cs, cellsV x = some cs ∧ cs.length = size ∧ o + size ≤ ob.vs.length ∧ ob'.vs = ob.vs.take o ++ cs ++ ob.vs.drop (o + size) := by
  unfold setObj at h
  split at h
  · simp only [Option.some.injEq, Prod.mk.injEq] at h
    obtain ⟨rfl, rfl⟩ := h
    exact ⟨rfl, rfl, rfl, _, rfl, by simpa using hp.2, by simpa [Obj.vs] using hp.1, by simp [Obj.vs, List.map_take, List.map_drop]⟩
  · rename_i e cs t hna
    simp only [Option.ite_none_right_eq_some, Bool.and_eq_true, beq_iff_eq, Option.some.injEq, Prod.mk.injEq] at h
    obtain ⟨⟨h1, rfl⟩, rfl, rfl⟩ := h
    refine ⟨rfl, rfl, rfl, [.t t], ?_, rfl, by simp [Obj.vs]; omega, ?_⟩
    · cases t <;> first | rfl | cases h1
    · simp only [Obj.vs]; rw [set_eq _ _ _ hp]; simp [List.map_take, List.map_drop]
  · cases h
  · cases h
  · simp only [Option.some.injEq, Prod.mk.injEq] at h
    obtain ⟨rfl, rfl⟩ := h
    exact ⟨rfl, rfl, rfl, _, rfl, hp.2, by simpa [Obj.vs] using hp.1, by simp [Obj.vs]⟩
  · rename_i x' e cs hna hnt hntt hnb
    simp only [Option.ite_none_right_eq_some, beq_iff_eq, Option.some.injEq, Prod.mk.injEq] at h
    obtain ⟨rfl, rfl, rfl⟩ := h
    refine ⟨rfl, rfl, rfl, [x], ?_, rfl, by simp [Obj.vs]; omega, ?_⟩
    · cases x <;> first | rfl | exact (hna _ rfl).elim | exact (hnt _ rfl).elim | exact (hnb _ rfl).elim | exact (hntt _ rfl).elim
    · simp only [Obj.vs]; rw [set_eq _ _ _ (by simpa using hp)]
  · simp only [Option.some.injEq, Prod.mk.injEq] at h
    obtain ⟨rfl, rfl⟩ := h
    exact ⟨rfl, rfl, rfl, _, rfl, by simpa using hp.2, by simpa [Obj.vs] using hp.1, by simp [Obj.vs]⟩
  · simp only [Option.some.injEq, Prod.mk.injEq] at h
    obtain ⟨rfl, rfl⟩ := h
    exact ⟨rfl, rfl, rfl, _, rfl, hp.2, by simpa [Obj.vs] using hp.1, by simp [Obj.vs]⟩
  · rename_i e vs t hna
    simp only [Option.ite_none_right_eq_some, Bool.and_eq_true, beq_iff_eq, Option.some.injEq, Prod.mk.injEq] at h
    obtain ⟨⟨h1, rfl⟩, rfl, rfl⟩ := h
    refine ⟨rfl, rfl, rfl, [.t t], ?_, rfl, by simp [Obj.vs]; omega, ?_⟩
    · cases t <;> first | rfl | cases h1
    · simp only [Obj.vs]; rw [set_eq _ _ _ hp]
  · rename_i x' e vs hna hnt hntt hnb
    simp only [Option.ite_none_right_eq_some, beq_iff_eq, Option.some.injEq, Prod.mk.injEq] at h
    obtain ⟨rfl, rfl, rfl⟩ := h
    refine ⟨rfl, rfl, rfl, [x], ?_, rfl, by simp [Obj.vs]; omega, ?_⟩
    · cases x <;> first | rfl | exact (hna _ rfl).elim | exact (hnt _ rfl).elim | exact (hnb _ rfl).elim | exact (hntt _ rfl).elim
    · simp only [Obj.vs]; rw [set_eq _ _ _ (by simpa using hp)]
  · cases h
end Go.Tl
end
section
namespace Go.Tl
set_option linter.unusedVariables false
set_option linter.unusedSimpArgs false

theorem foldl_set (off : Nat) : ∀ (l : List Value) (k : Nat) (cells : Array Value), off + k + l.length ≤ cells.size →
    ((l.zipIdx k).foldl (fun (cs : Array Value) (x : Value × Nat) => cs.setIfInBounds (off + x.2) x.1) cells).toList = cells.toList.take (off + k) ++ l ++ cells.toList.drop (off + k + l.length)
  | [], k, cells, _ => by simp
  | v :: r, k, cells, h => by
    have hk : off + k < cells.size := by simp at h; omega
    simp only [List.zipIdx_cons, List.foldl_cons]
    rw [foldl_set off r (k + 1) (cells.setIfInBounds (off + k) v) (by simp at h ⊢; omega)]
    have hk' : off + k < cells.toList.length := by simpa using hk
    have h1 : (cells.toList.set (off + k) v).take (off + (k + 1)) = cells.toList.take (off + k) ++ [v] := by
      rw [set_eq _ _ _ hk', ← Nat.add_assoc, List.take_append_of_le_length (by simp; omega), List.take_of_length_le (by simp; omega)]
    have h2 : (cells.toList.set (off + k) v).drop (off + (k + 1) + r.length) = cells.toList.drop (off + k + (r.length + 1)) := by
      rw [List.drop_set_of_lt (by omega)]; congr 1; omega
    simp only [Array.toList_setIfInBounds, h1, h2, List.length_cons]
    simp

def cellsT : V → Option (List T)
  | .t (.agg cs) => some cs
  | .t x => if x.one then some [x] else none
  | _ => none
theorem cellsT_V {x : V} {cs : List T} (h : cellsT x = some cs) : cellsV x = some (cs.map V.t) := by
  unfold cellsT at h
  split at h
  · cases h; rfl
  · rename_i t _
    simp only [Option.ite_none_right_eq_some, Option.some.injEq] at h
    obtain ⟨h1, rfl⟩ := h
    cases t <;> first | rfl | cases h1
  · cases h
def fillV (place : Nat → Option (Nat × Nat)) : List V → List (Nat × V) → Option (Prop × List V)
  | cells, [] => some (True, cells)
  | cells, (i, x) :: r => match place i, cellsV x with
    | some (off, sz), some cv => match fillV place (cells.take off ++ cv ++ cells.drop (off + sz)) r with
      | some (p, out) => some ((cv.length = sz ∧ off + sz ≤ cells.length) ∧ p, out)
      | none => none
    | _, _ => none
def fillT (place : Nat → Option (Nat × Nat)) : List T → List (Nat × V) → Option (Prop × List T)
  | cells, [] => some (True, cells)
  | cells, (i, x) :: r => match place i, cellsT x with
    | some (off, sz), some cv => match fillT place (cells.take off ++ cv ++ cells.drop (off + sz)) r with
      | some (p, out) => some ((cv.length = sz ∧ off + sz ≤ cells.length) ∧ p, out)
      | none => none
    | _, _ => none
theorem fillT_V {place : Nat → Option (Nat × Nat)} : ∀ {parts : List (Nat × V)} {cells out : List T} {p : Prop}, fillT place cells parts = some (p, out) → ∃ p', fillV place (cells.map V.t) parts = some (p', out.map V.t) ∧ (p → p')
  | [], cells, out, p, h => by
    simp only [fillT, Option.some.injEq, Prod.mk.injEq] at h
    obtain ⟨rfl, rfl⟩ := h
    exact ⟨True, by simp only [fillV], fun _ => trivial⟩
  | (i, x) :: r, cells, out, p, h => by
    simp only [fillT] at h
    cases hp : place i with
    | none => simp [hp] at h
    | some os =>
      obtain ⟨off, sz⟩ := os
      cases hc : cellsT x with
      | none => simp [hp, hc] at h
      | some cv =>
        simp only [hp, hc] at h
        cases hr : fillT place (cells.take off ++ cv ++ cells.drop (off + sz)) r with
        | none => rw [hr] at h; cases h
        | some po =>
          obtain ⟨p1, out1⟩ := po
          simp only [hr, Option.some.injEq, Prod.mk.injEq] at h
          obtain ⟨rfl, rfl⟩ := h
          obtain ⟨p', h1, h2⟩ := fillT_V hr
          simp only [List.map_append, List.map_take, List.map_drop] at h1
          refine ⟨((cv.map V.t).length = sz ∧ off + sz ≤ (cells.map V.t).length) ∧ p', ?_, fun hp => ⟨by simpa using hp.1, h2 hp.2⟩⟩
          simp only [fillV, hp, cellsT_V hc, h1]

def evp (S : Nat → Option V) : List (Nat × Operand) → Option (List (Nat × V))
  | [] => some []
  | (i, x) :: xs => match ev S x, evp S xs with
    | some t, some ts => some ((i, t) :: ts)
    | _, _ => none

section
variable {P : Program} {E : Env} {β : Names} {N : List Nat} {S : Nat → Option V} {O : Nat → Option Obj} {a : Act} {w : World}
theorem R.fill (h : R E β N S O a w) {place : Nat → Option (Nat × Nat)} : ∀ {parts : List (Nat × Operand)} {ps : List (Nat × V)} (he : evp S parts = some ps) {cells out : List V} {p : Prop} (hf : fillV place cells ps = some (p, out)) (hp : p)
    {us : Array Value} (h1 : VVL w (Imm E O β w) β cells us.toList) (h2 : ∀ u ∈ us.toList, u.oneCell' = true),
    ∃ us', Instr.fill place us (parts.map fun (i, x) => (i, a.eval x)) = some us' ∧ VVL w (Imm E O β w) β out us'.toList ∧ ∀ u ∈ us'.toList, u.oneCell' = true
  | [], ps, he, cells, out, p, hf, hp, us, h1, h2 => by
    simp only [evp, Option.some.injEq] at he; subst he
    simp only [fillV, Option.some.injEq, Prod.mk.injEq] at hf
    obtain ⟨rfl, rfl⟩ := hf
    exact ⟨us, rfl, h1, h2⟩
  | (i, x) :: r, ps, he, cells, out, p, hf, hp, us, h1, h2 => by
    simp only [evp] at he
    cases hx : Tl.ev S x with
    | none => simp [hx] at he
    | some t =>
      cases hr : evp S r with
      | none => simp [hx, hr] at he
      | some ts =>
        simp only [hx, hr, Option.some.injEq] at he
        subst he
        simp only [fillV] at hf
        cases hpl : place i with
        | none => simp [hpl] at hf
        | some os =>
          obtain ⟨off, sz⟩ := os
          cases hc : cellsV t with
          | none => simp [hpl, hc] at hf
          | some cv =>
            simp only [hpl, hc] at hf
            cases hfr : fillV place (cells.take off ++ cv ++ cells.drop (off + sz)) ts with
            | none => rw [hfr] at hf; cases hf
            | some po =>
              obtain ⟨p1, out1⟩ := po
              simp only [hfr, Option.some.injEq, Prod.mk.injEq] at hf
              obtain ⟨rfl, rfl⟩ := hf
              obtain ⟨⟨hl, hle⟩, hp1⟩ := hp
              obtain ⟨g1, g2⟩ := VV.cells hc (h.ev hx)
              have hsz : (a.eval x).cells.size = sz := by rw [← hl, ← VVL.length g1]; simp
              have hus : us.size = cells.length := by rw [← VVL.length h1]; simp
              have hfold : ((a.eval x).cells.zipIdx.foldl (fun (cs : Array Value) (y : Value × Nat) => cs.setIfInBounds (off + y.2) y.1) us).toList = us.toList.take off ++ (a.eval x).cells.toList ++ us.toList.drop (off + sz) := by
                rw [← Array.foldl_toList, Array.toList_zipIdx]
                have := foldl_set off (a.eval x).cells.toList 0 us (by simp [hsz]; omega)
                simpa [hsz] using this
              have k1 : VVL w (Imm E O β w) β (cells.take off ++ cv ++ cells.drop (off + sz)) ((a.eval x).cells.zipIdx.foldl (fun (cs : Array Value) (y : Value × Nat) => cs.setIfInBounds (off + y.2) y.1) us).toList := by
                rw [hfold]
                exact VVL.append (VVL.append (VVL.take _ h1) g1) (VVL.drop _ h1)
              have k2 : ∀ u ∈ ((a.eval x).cells.zipIdx.foldl (fun (cs : Array Value) (y : Value × Nat) => cs.setIfInBounds (off + y.2) y.1) us).toList, u.oneCell' = true := by
                rw [hfold]
                intro u hu
                simp only [List.mem_append] at hu
                rcases hu with (hu | hu) | hu
                · exact h2 u (List.mem_of_mem_take hu)
                · exact g2 u hu
                · exact h2 u (List.mem_of_mem_drop hu)
              obtain ⟨us', q1, q2, q3⟩ := R.fill h hr hfr hp1 k1 k2
              refine ⟨us', ?_, q2, q3⟩
              simp only [List.map_cons, Instr.fill, hpl]
              rw [if_neg (by simp [hsz]; omega)]
              exact q1
end

theorem chkV_one {v : Value} {t : T} (h : chkV v t = true) : v.oneCell' = true := by
  unfold chkV at h
  split at h <;> first | rfl | cases h
theorem chkVs_ones : ∀ {vs : List Value} {ts : List T}, chkVs vs ts = true → ∀ u ∈ vs, u.oneCell' = true
  | [], [], _, u, hu => by cases hu
  | v :: vs, t :: ts, h, u, hu => by
    simp only [chkVs, Bool.and_eq_true] at h
    rcases List.mem_cons.1 hu with rfl | hu
    · exact chkV_one h.1
    · exact chkVs_ones h.2 u hu
  | [], _ :: _, h, _, _ => by simp [chkVs] at h
  | _ :: _, [], h, _, _ => by simp [chkVs] at h

/-! ### struct and array values -/
def placeK (k : TyK) : Option (Nat → Option (Nat × Nat)) :=
  match k with
  | .struct fs => some fun i => (fs[i]?).map fun f => (f.1, f.2.1)
  | .array _ _ sz _ => some fun i => some (i * sz, sz)
  | _ => none
def buildV (y : Ty) (ps : List (Nat × V)) : Option (Prop × V) :=
  match placeK y.k with
  | some place => match fillT place y.zero ps with
    | some (p, out) => some (p, .t (.agg out))
    | none => match fillV place (y.zero.map V.t) ps with
      | some (p, out) => some (p, .agg out)
      | none => none
  | none => none
theorem fill_congr {place place' : Nat → Option (Nat × Nat)} (h : ∀ i, place i = place' i) (cells : Array Value) (parts : List (Nat × Value)) : Instr.fill place cells parts = Instr.fill place' cells parts := by
  have : place = place' := funext h
  rw [this]
section
variable {P : Program} {E : Env} {β : Names} {N : List Nat} {S : Nat → Option V} {O : Nat → Option Obj} {a : Act} {w : World}
theorem places_of {P : Program} : ∀ {fs : List Field} {r : List (Nat × Nat × Bool)}, chkFs P fs r = true → fs.mapM (fun f => (P.info? f.type).map fun i => (f.offset, i.size)) = some (r.map fun f => (f.1, f.2.1))
  | [], [], _ => by simp
  | f :: fs, (o, s, g) :: r, h => by
    simp only [chkFs, Bool.and_eq_true, decide_eq_true_eq] at h
    obtain ⟨⟨⟨h1, h2⟩, _⟩, h4⟩ := h
    unfold sizeP at h2
    simp only [Option.map_eq_some_iff] at h2
    obtain ⟨i, hi, his⟩ := h2
    simp [List.mapM_cons, hi, his, h1, places_of h4]
  | [], _ :: _, h => by simp [chkFs] at h
  | _ :: _, [], h => by simp [chkFs] at h
theorem built_of {P : Program} {t : TypeId} {y : Ty} (hy : chkTy P t y = true) {place : Nat → Option (Nat × Nat)} (hp : placeK y.k = some place) {i : TypeInfo} {z : Value} (hi : P.info? t = some i) (hz : i.zero = some z) (parts : List (Nat × Value)) :
    P.built t parts = Instr.fill place z.cells parts := by
  have hk := chkTy_kind hy
  unfold placeK at hp
  split at hp
  · rename_i fs hyk
    rw [hyk] at hk
    obtain ⟨fields, hu, hf⟩ := chkK_struct hk
    cases hp
    unfold Program.built
    simp only [hi, hu, hz, places_of hf]
    apply fill_congr
    intro i
    simp
  · rename_i n e sz g hyk
    rw [hyk] at hk
    obtain ⟨hu, h3, _⟩ := chkK_array hk
    unfold sizeP at h3
    simp only [Option.map_eq_some_iff] at h3
    obtain ⟨ie, hie, his⟩ := h3
    cases hp
    unfold Program.built
    simp only [hi, hu, hz, hie, his]
  · cases hp
theorem run_buildV (h : R E β N S O a w) {t : TypeId} {y : Ty} (hy : chkTy P t y = true) {parts : Array (Nat × Operand)} {ps : List (Nat × V)} (he : evp S parts.toList = some ps) {p : Prop} {r : V} (hb : buildV y ps = some (p, r)) (hp : p) :
    ∃ u, (Instr.build t (parts.map fun (i, x) => (i, a.eval x))).run P w = .ok u w ∧ VV w (Imm E O β w) β r u := by
  obtain ⟨i, z, hi, his, _, hz, hzs, _⟩ := chkTy_info hy
  unfold buildV at hb
  cases hpl : placeK y.k with
  | none => simp [hpl] at hb
  | some place =>
    simp only [hpl] at hb
    have key : ∀ {p' : Prop} {out : List V}, fillV place (y.zero.map V.t) ps = some (p', out) → p' → ∃ us', (Instr.build t (parts.map fun (i, x) => (i, a.eval x))).run P w = .ok (.agg us') w ∧ VVL w (Imm E O β w) β out us'.toList ∧ ∀ u ∈ us'.toList, u.oneCell' = true := by
      intro p' out hf hp'
      obtain ⟨us', q1, q2, q3⟩ := h.fill he hf hp' (us := z.cells) (VVL.map_t (chkVs_reads hzs)) (chkVs_ones hzs)
      exact ⟨us', run_build w t _ us' (by rw [built_of hy hpl hi hz]; simpa using q1), q2, q3⟩
    cases hft : fillT place y.zero ps with
    | some po =>
      obtain ⟨p1, out⟩ := po
      simp only [hft, Option.some.injEq, Prod.mk.injEq] at hb
      obtain ⟨rfl, rfl⟩ := hb
      obtain ⟨p', g1, g2⟩ := fillT_V hft
      obtain ⟨us', k1, k2, k3⟩ := key g1 (g2 hp)
      exact ⟨_, k1, by simp only [VV, VR]; exact ⟨us', rfl, k3, VVL.of_map_t k2⟩⟩
    | none =>
      simp only [hft] at hb
      cases hfv : fillV place (y.zero.map V.t) ps with
      | none => simp [hfv] at hb
      | some po =>
        obtain ⟨p1, out⟩ := po
        simp only [hfv, Option.some.injEq, Prod.mk.injEq] at hb
        obtain ⟨rfl, rfl⟩ := hb
        obtain ⟨us', k1, k2, k3⟩ := key hfv hp
        exact ⟨_, k1, by simp only [VV]; exact ⟨us', rfl, k3, k2⟩⟩
end
end Go.Tl
end
section
namespace Go.Tl
set_option linter.unusedVariables false
set_option linter.unusedSimpArgs false

structure Res where
  ob : Prop
  v : V
  eff : List (Nat × Option Obj)
  new : List Nat
def effs : List (Nat × Option Obj) → (Nat → Option Obj) → Nat → Option Obj
  | [], O => O
  | (i, x) :: r, O => effs r (upd O i x)

section
variable {P : Program} {E : Env} {β : Names} {N : List Nat} {S : Nat → Option V} {O : Nat → Option Obj} {a : Act} {w : World}

def Does (P : Program) (E : Env) (N : List Nat) (S : Nat → Option V) (O : Nat → Option Obj) (a : Act) (s : Sem Value) (w : World) (r : Res) : Prop :=
  ∃ v w' β', s.run P w = .ok v w' ∧ R E β' (r.new ++ N) S (effs r.eff O) a w' ∧ VV w' (Imm E (effs r.eff O) β' w') β' r.v v

theorem Does.pure (h : R E β N S O a w) {s : Sem Value} {p : Prop} {x : V} (hr : ∃ u, s.run P w = .ok u w ∧ VV w (Imm E O β w) β x u) : Does P E N S O a s w ⟨p, x, [], []⟩ := by
  obtain ⟨u, h1, h2⟩ := hr
  exact ⟨u, w, β, h1, h, h2⟩

theorem does_newObj (h : R E β N S O a w) {s : Sem Value} {e : TypeId} {cells : Array Value} {j : Nat} {ob : Obj} (hj : j ∉ N)
    (hrun : s.run P w = .ok (.pointer (some ⟨w.heap.size, 0, none⟩)) (w.alloc (.cells cells e)))
    (hor : OR (w.alloc (.cells cells e)) (Imm E O β w) β w.heap.size cells.size ob) {p : Prop} : Does P E N S O a s w ⟨p, .ref j 0, [(j, some ob)], [j]⟩ := by
  obtain ⟨h1, h2⟩ := h.allocObj j cells.size hj _ ob hor
  exact ⟨_, _, _, hrun, h1, by simp only [VV]; exact ⟨_, _, upd_same _ _ _, rfl⟩⟩
theorem does_newRow (h : R E β N S O a w) {s : Sem Value} {e : TypeId} {cells : Array Value} {j n cap sz : Nat} {ob : Obj} (hj : j ∉ N)
    (hrun : s.run P w = .ok (.slice (some ⟨w.heap.size, 0, none⟩) n cap) (w.alloc (.cells cells e))) (hz : cells.size = cap * sz) (hn : n ≤ cap) (hc : cap ≤ maxLen)
    (hor : OR (w.alloc (.cells cells e)) (Imm E O β w) β w.heap.size cells.size ob) {p : Prop} : Does P E N S O a s w ⟨p, .own j sz n, [(j, some ob)], [j]⟩ := by
  obtain ⟨h1, h2⟩ := h.allocObj j cells.size hj _ ob hor
  exact ⟨_, _, _, hrun, h1, by simp only [VV]; exact .inl ⟨_, _, cap, upd_same _ _ _, rfl, hz, hn, hc⟩⟩
theorem does_newPtr (h : R E β N S O a w) {s : Sem Value} {e : TypeId} {cells : Array Value} {cs : List T}
    (hrun : s.run P w = .ok (.pointer (some ⟨w.heap.size, 0, none⟩)) (w.alloc (.cells cells e)))
    (hl : VL w (Imm E O β w) cs cells.toList) (h1 : ∀ u ∈ cells.toList, u.oneCell' = true) {p : Prop} : Does P E N S O a s w ⟨p, .t (.ptr cs), [], []⟩ := by
  obtain ⟨k1, k2, k3⟩ := h.allocImm (.cells cells e)
  refine ⟨_, _, _, hrun, k1, ?_⟩
  simp only [VV, VR]
  refine ⟨_, 0, rfl, k3, VA.of_cells (VL.lasts k2 _ _ hl) h1 fun i u hi => ?_⟩
  have : cells[i]? = some u := by simpa using hi
  unfold World.cell?
  rw [heap_push_new]
  simp [this]
theorem does_newList (h : R E β N S O a w) {s : Sem Value} {e : TypeId} {cells : Array Value} {cs : List T} {n cap sz : Nat}
    (hrun : s.run P w = .ok (.slice (some ⟨w.heap.size, 0, none⟩) n cap) (w.alloc (.cells cells e))) (hn : n ≤ cap) (hc : cap ≤ maxLen)
    {us rest : List Value} (hus : cells.toList = us ++ rest) (hlen : cs.length = n * sz)
    (hl : VL w (Imm E O β w) cs us) (h1 : ∀ u ∈ us, u.oneCell' = true) {p : Prop} : Does P E N S O a s w ⟨p, .t (.list n sz cs), [], []⟩ := by
  obtain ⟨k1, k2, k3⟩ := h.allocImm (.cells cells e)
  refine ⟨_, _, _, hrun, k1, ?_⟩
  simp only [VV, VR]
  refine ⟨hlen, _, cap, rfl, hn, hc, .inr ⟨_, 0, rfl, k3, VA.of_cells (VL.lasts k2 _ _ hl) h1 fun i u hi => ?_⟩⟩
  have : cells[i]? = some u := by
    rw [← Array.getElem?_toList, hus, List.getElem?_append_left (List.getElem?_eq_some_iff.1 hi).1]; exact hi
  unfold World.cell?
  rw [heap_push_new]
  simp [this]

/-! ### variables -/
theorem does_alloc (h : R E β N S O a w) {t : TypeId} {y : Ty} (hy : chkTy P t y = true) {j : Nat} (hj : j ∉ N) {p : Prop} :
    Does P E N S O a (Instr.alloc t true (.tuple #[])) w ⟨p, .ref j 0, [(j, some (.cells t y.zero))], [j]⟩ := by
  obtain ⟨i, z, hi, his, _, hz, hzs, hzz, _⟩ := chkTy_info hy
  refine does_newObj (cells := z.cells) (e := t) h hj ?_ ?_
  · simp [Instr.alloc, zeroValue, typeInfo, hi, hz, newVar, newRow]
  · simp only [OR]
    exact ⟨_, z.cells.toList, [], by rw [bk_lt (chkTy_lt hy)]; exact heap_push_new _ _, rfl, by simp, chkVs_ones hzs, chkVs_reads hzs⟩
theorem does_allocF (h : R E β N S O a w) {t : TypeId} {y : Ty} (hy : chkTy P t y = true) {p : Prop} :
    Does P E N S O a (Instr.alloc t true (.tuple #[])) w ⟨p, .t (.ptr y.zero), [], []⟩ := by
  obtain ⟨i, z, hi, his, _, hz, hzs, hzz, _⟩ := chkTy_info hy
  refine does_newPtr (cells := z.cells) (e := t) h ?_ (chkVs_reads hzs) (chkVs_ones hzs)
  simp [Instr.alloc, zeroValue, typeInfo, hi, hz, newVar, newRow]

def mkObj (e : TypeId) (x : V) : Option Obj :=
  match x with
  | .t (.agg cs) => some (.cells e cs)
  | .t x => if x.one then some (.cells e [x]) else none
  | .agg vs => some (.vars e vs)
  | .tup _ => none
  | x => some (.vars e [x])
theorem mkObj_spec {e : TypeId} {x : V} {ob : Obj} (h : mkObj e x = some ob) : ob.isMap = false ∧ ob.e = e ∧ cellsV x = some ob.vs := by
  unfold mkObj at h
  split at h
  · cases h; exact ⟨rfl, rfl, rfl⟩
  · rename_i t _
    simp only [Option.ite_none_right_eq_some, Option.some.injEq] at h
    obtain ⟨h1, rfl⟩ := h
    refine ⟨rfl, rfl, ?_⟩
    cases t <;> first | rfl | cases h1
  · cases h; exact ⟨rfl, rfl, rfl⟩
  · cases h
  · cases h
    refine ⟨rfl, rfl, ?_⟩
    rename_i h1 h2 h3 h4
    cases x <;> first | rfl | exact (h2 _ rfl).elim | exact (h3 _ rfl).elim | exact (h4 _ rfl).elim | exact (h1 _ rfl).elim
theorem run_box (e : TypeId) (v : Value) (w : World) : (Instr.box e v).run P w = .ok (.pointer (some ⟨w.heap.size, 0, none⟩)) (w.alloc (.cells v.cells e)) := by
  simp [Instr.box, newVar, newRow]
theorem does_box (h : R E β N S O a w) {e : TypeId} (he : e < 1048576) {x : V} {v : Value} (hv : VV w (Imm E O β w) β x v) {ob : Obj} (hm : mkObj e x = some ob) {j : Nat} (hj : j ∉ N) {p : Prop} :
    Does P E N S O a (Instr.box e v) w ⟨p, .ref j 0, [(j, some ob)], [j]⟩ := by
  obtain ⟨k1, k2, k3⟩ := mkObj_spec hm
  obtain ⟨g1, g2⟩ := VV.cells k3 hv
  have hl := (h.allocImm (.cells v.cells e)).2.1
  refine does_newObj (e := e) h hj (run_box e v w) ?_
  have hl' : Lasts w (Imm E O β w) (w.alloc (.cells v.cells e)) (Imm E O β w) := ⟨fun _ h => h, hl.same⟩
  exact (OR_iff k1).2 ⟨_, v.cells.toList, [], by rw [k2, bk_lt he]; exact heap_push_new _ _, rfl, by simp, g2, VVL.lasts hl' (fun _ _ h => h) _ _ g1⟩
theorem does_boxF (h : R E β N S O a w) {e : TypeId} {x : V} {v : Value} (hv : VV w (Imm E O β w) β x v) {cs : List T} (hm : cellsT x = some cs) {p : Prop} :
    Does P E N S O a (Instr.box e v) w ⟨p, .t (.ptr cs), [], []⟩ := by
  obtain ⟨g1, g2⟩ := VV.cells (cellsT_V hm) hv
  exact does_newPtr h (run_box e v w) (VVL.of_map_t g1) g2

/-! ### stores -/
theorem run_storeCells_fr (P : Program) (g o : Nat) (t : TypeId) (fr : Nat × Nat) : ∀ (vs : List Value) (i : Nat) (cur : Array Value) (w : World), w.heap[g]? = some (.cells cur t fr) → (fr.2 = 0 ∨ cur.size ≤ fr.1) → o + i + vs.length ≤ cur.size → (∀ v ∈ vs, v.oneCell' = true) →
    (storeCells ⟨g, o, none⟩ vs i).run P w = .ok () (w.setRow g (cur.toList.take (o + i) ++ vs ++ cur.toList.drop (o + i + vs.length)).toArray)
  | [], i, cur, w, hg, _, _, _ => by
    simp only [storeCells, List.append_nil, List.length_nil, Nat.add_zero, List.take_append_drop, Array.toArray_toList]
    rw [setRow_self w g cur t fr hg]
    rfl
  | v :: rest, i, cur, w, hg, hfr, hl, h1 => by
    have hi : o + i < cur.size := by simp at hl; omega
    have hadd : (⟨g, o, none⟩ : Addr).add i = ⟨g, o + i, none⟩ := by unfold Addr.add; split <;> simp_all
    have hcell : w.cell? ⟨g, o + i, none⟩ = some cur[o + i] := by simp [World.cell?, hg, hi]
    have hfro : w.frozen? ⟨g, o + i, none⟩ = false := by
      simp [World.frozen?, hg]; omega
    have hst : (store ((⟨g, o, none⟩ : Addr).add i) v).run P w = .ok () (w.setRow g (cur.setIfInBounds (o + i) v)) := by
      rw [hadd, run_store P w _ v _ (h1 v (by simp)), hcell]
      simp [hfro, setCell_eq_setRow w g (o + i) cur t fr v hg]
    have ih := run_storeCells_fr P g o t fr rest (i + 1) (cur.setIfInBounds (o + i) v) (w.setRow g (cur.setIfInBounds (o + i) v)) (setRow_heap w g cur _ t _ hg) (by simpa using hfr) (by simp at hl ⊢; omega) (fun x hx => h1 x (by simp [hx]))
    simp only [storeCells, Sem.run_bind, hst, Result.andThen_ok, ih, setRow_setRow]
    congr 3
    have e := list_seg_step cur.toList (o + i) v rest (by simp at hl ⊢; omega)
    simpa [Array.toList_setIfInBounds, Nat.add_assoc] using e
theorem setRow_bk {w : World} {b : Nat} {arr cs : Array Value} {e : Nat} (h : w.heap[b]? = some (bk arr e)) (hs : cs.size = arr.size) : (w.setRow b cs).heap[b]? = some (bk cs e) := by
  have := setRow_heap w b arr cs _ _ h
  rw [this]
  simp [bk, hs]
theorem does_store (h : R E β N S O a w) {t : TypeId} {y : Ty} (hy : chkTy P t y = true) {i o : Nat} {ob ob' : Obj} (hi : O i = some ob) {x : V} {v va : Value} {p : Prop} (hs : setObj ob o x y.size = some (p, ob')) (hp : p)
    (hv : VV w (Imm E O β w) β x v) (ha : VV w (Imm E O β w) β (.ref i o) va) :
    ∃ w', (Instr.storeAt t va v).run P w = .ok () w' ∧ R E β N S (upd O i (some ob')) a w' := by
  obtain ⟨k1, k2, k3, cs, k4, k5, k6, k7⟩ := setObj_spec hs hp
  obtain ⟨g1, g2⟩ := VV.cells k4 hv
  obtain ⟨it, z, hit, his, _⟩ := chkTy_info hy
  simp only [VV] at ha
  obtain ⟨b, z', hb, rfl⟩ := ha
  obtain ⟨b2, z2, hb2, hlt, hx, hor⟩ := h.objS hi hb
  rw [hb] at hb2; cases hb2
  obtain ⟨arr, us, rest, q1, q2, q3, q4, q5⟩ := (OR_iff k1).1 hor
  have hvs : v.cells.size = y.size := by rw [← k5, ← VVL.length g1]; simp
  have hus : us.length = ob.vs.length := VVL.length q5
  have harr : arr.toList.length = us.length + rest.length := by rw [q3]; simp
  have hst := run_storeCells_fr P b o _ _ v.cells.toList 0 arr w q1 (by split <;> simp) (by simp [hvs]; simp at harr; omega) g2
  simp only [Nat.add_zero] at hst
  refine ⟨w.setRow b (arr.toList.take o ++ v.cells.toList ++ arr.toList.drop (o + v.cells.toList.length)).toArray, ?_, ?_⟩
  · simpa [Instr.storeAt, Instr.sureAddr, storeVar, sizeOf, typeInfo, hit, hvs, his] using hst
  have hlen : v.cells.toList.length = y.size := by simpa using hvs
  refine (h.write i b z' ob ob' hi hb (setRow_os ..) (setRow_tape ..) (setRow_output ..) (setRow_size ..) (fun c hc => setRow_other _ _ _ _ hc) ?_).1
  have hl : Lasts w (Imm E O β w) (w.setRow b (arr.toList.take o ++ v.cells.toList ++ arr.toList.drop (o + v.cells.toList.length)).toArray) (Imm E O β w) :=
    ⟨fun _ h => h, fun c hc => setRow_other _ _ _ _ (fun e => hc.2.2 i ob _ hi hb (by simp [e]))⟩
  refine (OR_iff k2).2 ⟨_, us.take o ++ v.cells.toList ++ us.drop (o + y.size), rest, by rw [k3]; refine setRow_bk q1 ?_; simp only [List.size_toArray, List.length_append, List.length_take, List.length_drop, hlen]; simp at harr ⊢; omega, ?_, ?_, ?_, ?_⟩
  · simp only [List.size_toArray, List.length_append, List.length_take, List.length_drop, hlen]
    simp at harr ⊢
    omega
  · simp only [q3, hlen]
    rw [List.take_append_of_le_length (by omega), List.drop_append_of_le_length (by omega)]
    simp
  · intro u hu
    simp only [List.mem_append] at hu
    rcases hu with (hu | hu) | hu
    · exact q4 u (List.mem_of_mem_take hu)
    · exact g2 u hu
    · exact q4 u (List.mem_of_mem_drop hu)
  · rw [k7]
    exact VVL.append (VVL.append (VVL.take _ (VVL.lasts hl (fun _ _ h => h) _ _ q5)) (VVL.lasts hl (fun _ _ h => h) _ _ g1)) (VVL.drop _ (VVL.lasts hl (fun _ _ h => h) _ _ q5))

/-! ### rows -/
theorem zeros_list (z : Array Value) (zs : List T) {w : World} {ok : Nat → Prop} (hl : VL w ok zs z.toList) (h1 : ∀ u ∈ z.toList, u.oneCell' = true) :
    ∀ c, VL w ok (List.replicate c zs).flatten (madeCells z (c * z.size)).toList ∧ ∀ u ∈ (madeCells z (c * z.size)).toList, u.oneCell' = true := by
  intro c
  have key : (madeCells z (c * z.size)).toList = (List.replicate c z.toList).flatten := by
    apply List.ext_getElem?
    intro i
    by_cases hz : z.size = 0
    · have : z.toList = [] := by simpa using hz
      simp [madeCells, hz, this]
    · have hz' : 0 < z.size := Nat.pos_of_ne_zero hz
      induction c generalizing i with
      | zero => simp [madeCells]
      | succ c ih =>
        rw [List.replicate_succ, List.flatten_cons]
        by_cases hi : i < z.toList.length
        · rw [List.getElem?_append_left hi]
          have hi' : i < z.size := by simpa using hi
          have hlt : i < (c + 1) * z.size := by rw [Nat.succ_mul]; omega
          simp [madeCells, hlt, Nat.mod_eq_of_lt hi', hi']
        · rw [List.getElem?_append_right (by omega), ← ih]
          have hi' : z.size ≤ i := by simpa using hi
          by_cases hlt : i < (c + 1) * z.size
          · have hlt' : i - z.size < c * z.size := by rw [Nat.succ_mul] at hlt; omega
            have hm : i % z.size = (i - z.size) % z.size := by rw [Nat.mod_eq_sub_mod hi']
            simp [madeCells, hlt, hlt', hm]
          · have hlt' : ¬ (i - z.size < c * z.size) := by rw [Nat.succ_mul] at hlt; omega
            simp [madeCells, hlt, hlt']
  rw [key]
  clear key
  induction c with
  | zero => simp [VL]
  | succ c ih =>
    rw [List.replicate_succ, List.replicate_succ, List.flatten_cons, List.flatten_cons]
    refine ⟨VL.append hl ih.1, fun u hu => ?_⟩
    rcases List.mem_append.1 hu with hu | hu
    · exact h1 u hu
    · exact ih.2 u hu
end
end Go.Tl
end
section
namespace Go.Tl
set_option linter.unusedVariables false
set_option linter.unusedSimpArgs false

section
variable {P : Program} {E : Env} {β : Names} {N : List Nat} {S : Nat → Option V} {O : Nat → Option Obj} {a : Act} {w : World}

def zerosT (y : Ty) (n : Nat) : List T :=
  match y.zero with
  | [z] => List.replicate n z
  | zs => (List.replicate n zs).flatten
theorem zerosT_eq (y : Ty) (n : Nat) : zerosT y n = (List.replicate n y.zero).flatten := by
  unfold zerosT
  split
  · rename_i z hz
    rw [hz]
    induction n with
    | zero => rfl
    | succ n ih => rw [List.replicate_succ, List.replicate_succ, List.flatten_cons, ih]; rfl
  · rfl
theorem does_make (h : R E β N S O a w) {t e : TypeId} {y ye : Ty} {sz bytes : Nat} (hy : chkTy P t y = true) (hk : y.k = .slice e sz bytes) (hye : chkTy P e ye = true)
    {kl kc : IntKind} {l c : Int} {j : Nat} (hj : j ∉ N) {p : Prop} (hp : 0 ≤ l ∧ l ≤ c ∧ (bytes : Int) * c ≤ 281474976710656 ∧ c ≤ maxLen) :
    Does P E N S O a (Instr.makeSlice t (.int kl l) (.int kc c)) w ⟨p, .own j sz l.toNat, [(j, some (.cells e (zerosT ye l.toNat)))], [j]⟩ := by
  have hc := chkTy_kind hy
  rw [hk] at hc
  obtain ⟨hu, i, hi, his, hib⟩ := chkK_slice hc
  obtain ⟨i', z, hi', his', _, hz, hzs, hzz, _⟩ := chkTy_info hye
  rw [hi] at hi'; cases hi'
  obtain ⟨h1, h2, h3, h4⟩ := hp
  have hm : maxLen ≤ 9223372036854775807 := by decide
  have hrun := run_make (P := P) w t e i z hu hi hz kl kc l c h1 h2 (by rw [hib]; exact h3) (by omega)
  have hzz' : z.cells.size = i.size := by omega
  have hms : (madeCells z.cells (c.toNat * i.size)).size = c.toNat * sz := by rw [size_madeCells, his]
  refine does_newRow h hj hrun hms (by omega) (by omega) ?_
  have hal := (h.allocImm (.cells (madeCells z.cells (c.toNat * i.size)) e)).2.1
  obtain ⟨g1, g2⟩ := zeros_list (w := w.alloc (.cells (madeCells z.cells (c.toNat * i.size)) e)) (ok := Imm E O β w) z.cells ye.zero (chkVs_reads hzs) (chkVs_ones hzs) c.toNat
  obtain ⟨m1, m2⟩ := zeros_list (w := w.alloc (.cells (madeCells z.cells (c.toNat * i.size)) e)) (ok := Imm E O β w) z.cells ye.zero (chkVs_reads hzs) (chkVs_ones hzs) l.toNat
  rw [zerosT_eq]
  simp only [OR]
  rw [hzz'] at g1 g2 m1 m2
  refine ⟨_, (madeCells z.cells (l.toNat * i.size)).toList, (madeCells z.cells (c.toNat * i.size)).toList.drop (l.toNat * i.size), by rw [bk_lt (chkTy_lt hye)]; exact heap_push_new _ _, rfl, ?_, m2, m1⟩
  have hle : l.toNat * i.size ≤ c.toNat * i.size := Nat.mul_le_mul_right _ (by omega)
  rw [← List.take_append_drop (l.toNat * i.size) (madeCells z.cells (c.toNat * i.size)).toList]
  congr 1
  · apply List.ext_getElem?
    intro k
    rw [List.getElem?_take]
    by_cases hk : k < l.toNat * i.size
    · rw [if_pos hk]
      simp [madeCells, hk, Nat.lt_of_lt_of_le hk hle]
    · rw [if_neg hk]
      simp [madeCells, hk]
  · simp

theorem run_rowV (h : R E β N S O a w) {t e : TypeId} {y ye : Ty} {sz bytes : Nat} (hy : chkTy P t y = true) (hk : y.k = .slice e sz bytes) (hye : chkTy P e ye = true)
    {len : Nat} {parts : Array (Nat × Operand)} {ps : List (Nat × V)} (he : evp S parts.toList = some ps) {p : Prop} {out : List V}
    (hf : fillV (fun i => some (i * sz, sz)) ((zerosT ye len).map V.t) ps = some (p, out)) (hp : p) (hs : len * sz ≤ 16777216) :
    ∃ us, (Instr.buildSlice t len (parts.map fun (i, x) => (i, a.eval x))).run P w = .ok (.slice (some ⟨w.heap.size, 0, none⟩) len len) (w.alloc (.cells us e)) ∧
      VVL w (Imm E O β w) β out us.toList ∧ ∀ u ∈ us.toList, u.oneCell' = true := by
  have hc := chkTy_kind hy
  rw [hk] at hc
  obtain ⟨hu, i, hi, his, hib⟩ := chkK_slice hc
  obtain ⟨i', z, hi', his', _, hz, hzs, hzz, _⟩ := chkTy_info hye
  rw [hi] at hi'; cases hi'
  have hzz' : z.cells.size = i.size := by omega
  obtain ⟨g1, g2⟩ := zeros_list (w := w) (ok := Imm E O β w) z.cells ye.zero (chkVs_reads hzs) (chkVs_ones hzs) len
  rw [← zerosT_eq, hzz'] at g1
  rw [hzz'] at g2
  obtain ⟨us, q1, q2, q3⟩ := h.fill he hf hp (VVL.map_t g1) g2
  refine ⟨us, ?_, q2, q3⟩
  have hsmall : ¬ (2 ^ 24 < len * i.size) := by rw [his]; omega
  by_cases h0 : len * i.size = 0
  · have hr0 : ∀ f : Nat → Value, (Array.range (len * i.size)).map f = #[] := fun f => by rw [h0]; simp
    have q1' : Instr.fill (fun k => some (k * i.size, i.size)) #[] (parts.map fun (i, x) => (i, a.eval x)).toList = some us := by
      have : madeCells z.cells (len * i.size) = #[] := hr0 _
      rw [this, ← his] at q1
      simpa using q1
    have h0' : len = 0 ∨ i.size = 0 := Nat.mul_eq_zero.1 h0
    simp only [Instr.buildSlice, Sem.run_bind, run_underlying hu, Result.andThen_ok, sizeOf, typeInfo, run_program, hi, Sem.run_pure, hr0]
    simp only [h0, Nat.not_lt_zero, Nat.reducePow, gt_iff_lt, if_false, if_true, Sem.run_pure, Result.andThen_ok, Sem.run_ite, Sem.run_bind, q1', newRow, run_newObj]
    rfl
  · exact run_buildSlice (P := P) w t e len _ us i z hu hi hz (by omega) h0 (by rw [his]; rw [← his]; simpa [his, madeCells] using q1)
theorem does_rowO (h : R E β N S O a w) {t e : TypeId} {y ye : Ty} {sz bytes : Nat} (hy : chkTy P t y = true) (hk : y.k = .slice e sz bytes) (hye : chkTy P e ye = true)
    {len : Nat} {parts : Array (Nat × Operand)} {ps : List (Nat × V)} (he : evp S parts.toList = some ps) {p q : Prop} {out : List T}
    (hf : fillT (fun i => some (i * sz, sz)) (zerosT ye len) ps = some (p, out)) (hp : p) (hs : len * sz ≤ 16777216) (hsz : 0 < sz) (hl : out.length = len * sz) {j : Nat} (hj : j ∉ N) :
    Does P E N S O a (Instr.buildSlice t len (parts.map fun (i, x) => (i, a.eval x))) w ⟨q, .own j sz len, [(j, some (.cells e out))], [j]⟩ := by
  obtain ⟨p', g1, g2⟩ := fillT_V hf
  obtain ⟨us, k1, k2, k3⟩ := run_rowV h hy hk hye he g1 (g2 hp) hs
  have hl2 := VVL.of_map_t k2
  have hlu : us.size = len * sz := by rw [← hl, ← VL.length hl2]; simp
  have hm : len ≤ maxLen := by
    have : len ≤ len * sz := Nat.le_mul_of_pos_right _ hsz
    have : (16777216 : Nat) ≤ maxLen := by decide
    omega
  refine does_newRow h hj k1 hlu (Nat.le_refl _) hm ?_
  have hal := (h.allocImm (.cells us e)).2.1
  have hl' : Lasts w (Imm E O β w) (w.alloc (.cells us e)) (Imm E O β w) := ⟨fun _ h => h, hal.same⟩
  simp only [OR]
  exact ⟨_, us.toList, [], by rw [bk_lt (chkTy_lt hye)]; exact heap_push_new _ _, rfl, by simp, k3, VL.lasts hl' _ _ hl2⟩
theorem does_rowF (h : R E β N S O a w) {t e : TypeId} {y ye : Ty} {sz bytes : Nat} (hy : chkTy P t y = true) (hk : y.k = .slice e sz bytes) (hye : chkTy P e ye = true)
    {len : Nat} {parts : Array (Nat × Operand)} {ps : List (Nat × V)} (he : evp S parts.toList = some ps) {p q : Prop} {out : List T}
    (hf : fillT (fun i => some (i * sz, sz)) (zerosT ye len) ps = some (p, out)) (hp : p) (hs : len * sz ≤ 16777216) (hsz : 0 < sz) (hl : out.length = len * sz) :
    Does P E N S O a (Instr.buildSlice t len (parts.map fun (i, x) => (i, a.eval x))) w ⟨q, .t (.list len sz out), [], []⟩ := by
  obtain ⟨p', g1, g2⟩ := fillT_V hf
  obtain ⟨us, k1, k2, k3⟩ := run_rowV h hy hk hye he g1 (g2 hp) hs
  have hl2 := VVL.of_map_t k2
  have hm : len ≤ maxLen := by
    have : len ≤ len * sz := Nat.le_mul_of_pos_right _ hsz
    have : (16777216 : Nat) ≤ maxLen := by decide
    omega
  exact does_newList h k1 (Nat.le_refl _) hm (us := us.toList) (rest := []) (by simp) hl hl2 k3

/-! ### sources -/
def Src (w : World) (v : Value) (m : Nat) (news : List Value) : Prop :=
  ∃ A c, v = .slice A m c ∧ m ≤ c ∧ c ≤ maxLen ∧ ((m = 0 ∧ news = []) ∨ ∃ b o, A = some ⟨b, o, none⟩ ∧ ∀ j u, news[j]? = some u → w.cell? ⟨b, o + j, none⟩ = some u)
def srcV (O : Nat → Option Obj) (x : V) (sz : Nat) : Option (Prop × Nat × List T) :=
  match x with
  | .t (.list m sz' cs) => if sz' = sz then some (True, m, cs) else none
  | .t .nils => some (True, 0, [])
  | .t (.rows m sz' cs) => if sz' = sz then some (True, m, cs) else none
  | .own i sz' m => if sz' = sz then match O i with
    | some (.cells _ cs) => some (cs.length = m * sz, m, cs)
    | _ => none
    else none
  | .view i o sz' m => if sz' = sz then match O i with
    | some (.cells _ cs) => some (o + m * sz ≤ cs.length, m, (cs.drop o).take (m * sz))
    | _ => none
    else none
  | _ => none
theorem R.cell (h : R E β N S O a w) {i b z : Nat} {e : TypeId} {cs : List T} (hi : O i = some (.cells e cs)) (hb : β i = some (b, z)) :
    ∃ arr us rest, w.heap[b]? = some (bk arr e) ∧ arr.size = z ∧ arr.toList = us ++ rest ∧ (∀ u ∈ us, u.oneCell' = true) ∧ VL w (Imm E O β w) cs us ∧ ∀ j u, us[j]? = some u → w.cell? ⟨b, j, none⟩ = some u := by
  obtain ⟨b2, z2, hb2, hlt, hx, hor⟩ := h.objS hi hb
  rw [hb] at hb2; cases hb2
  simp only [OR] at hor
  obtain ⟨arr, us, rest, h1, h2, h3, h4, h5⟩ := hor
  refine ⟨arr, us, rest, h1, h2, h3, h4, h5, fun j u hj => ?_⟩
  have : arr[j]? = some u := by
    rw [← Array.getElem?_toList, h3, List.getElem?_append_left (List.getElem?_eq_some_iff.1 hj).1]; exact hj
  simp [World.cell?, h1, bk, this]
theorem R.src (h : R E β N S O a w) {x : V} {sz m : Nat} {cs : List T} {p : Prop} (hs : srcV O x sz = some (p, m, cs)) (hp : p) {v : Value} (hv : VV w (Imm E O β w) β x v) :
    ∃ news, Src w v m news ∧ VL w (Imm E O β w) cs news ∧ (∀ u ∈ news, u.oneCell' = true) ∧ cs.length = m * sz := by
  unfold srcV at hs
  split at hs
  · simp only [Option.ite_none_right_eq_some, Option.some.injEq, Prod.mk.injEq] at hs
    obtain ⟨rfl, rfl, rfl, rfl⟩ := hs
    simp only [VV, VR] at hv
    obtain ⟨hl, A, cap, rfl, h1, h2, h3⟩ := hv
    rcases h3 with h3 | ⟨b, o, rfl, hb, hc⟩
    · subst h3
      rename_i _ cs'
      have : cs' = [] := List.eq_nil_of_length_eq_zero (by simpa using hl)
      subst this
      exact ⟨[], ⟨A, cap, rfl, h1, h2, .inl ⟨rfl, rfl⟩⟩, by simp only [VL], by simp, hl⟩
    · obtain ⟨vs, g1, g2, g3⟩ := VA.cells hc
      exact ⟨vs, ⟨_, cap, rfl, h1, h2, .inr ⟨b, o, rfl, g3⟩⟩, g1, g2, hl⟩
  · simp only [Option.some.injEq, Prod.mk.injEq] at hs
    obtain ⟨rfl, rfl, rfl⟩ := hs
    simp only [VV, VR] at hv
    subst hv
    exact ⟨[], ⟨none, 0, rfl, Nat.le_refl _, Nat.zero_le _, .inl ⟨rfl, rfl⟩⟩, by simp only [VL], by simp, by simp⟩
  · simp only [Option.ite_none_right_eq_some, Option.some.injEq, Prod.mk.injEq] at hs
    obtain ⟨rfl, rfl, rfl, rfl⟩ := hs
    simp only [VV, VR] at hv
    obtain ⟨hl, A, cap, rfl, h1, h2, h3⟩ := hv
    rcases h3 with h3 | ⟨b, o, rfl, hb, hc⟩
    · subst h3
      rename_i _ cs'
      have : cs' = [] := List.eq_nil_of_length_eq_zero (by simpa using hl)
      subst this
      exact ⟨[], ⟨_, cap, rfl, h1, h2, .inl ⟨rfl, rfl⟩⟩, by simp only [VL], by simp, hl⟩
    · obtain ⟨vs, g1, g2, g3⟩ := VA.cells hc
      exact ⟨vs, ⟨_, cap, rfl, h1, h2, .inr ⟨b, o, rfl, g3⟩⟩, g1, g2, hl⟩
  · split at hs
    · rename_i hsz
      split at hs
      · rename_i e cs' ho
        simp only [Option.some.injEq, Prod.mk.injEq] at hs
        obtain ⟨rfl, rfl, rfl⟩ := hs
        simp only [VV] at hv
        rcases hv with ⟨b, z, cap, hb, rfl, hz, h1, h2⟩ | ⟨h0, rfl⟩
        · obtain ⟨arr, us, rest, q1, q2, q3, q4, q5, q6⟩ := h.cell ho hb
          exact ⟨us, ⟨_, cap, rfl, h1, h2, .inr ⟨b, 0, rfl, fun j u hj => by rw [Nat.zero_add]; exact q6 j u hj⟩⟩, q5, q4, hp⟩
        · subst h0
          have : cs' = [] := List.eq_nil_of_length_eq_zero (by simpa using hp)
          subst this
          exact ⟨[], ⟨none, 0, rfl, Nat.le_refl _, Nat.zero_le _, .inl ⟨rfl, rfl⟩⟩, by simp only [VL], by simp, by simp⟩
      · cases hs
    · cases hs
  · rename_i io oo sz' m'
    split at hs
    · rename_i hsz
      split at hs
      · rename_i e cs' ho
        simp only [Option.some.injEq, Prod.mk.injEq] at hs
        obtain ⟨rfl, rfl, rfl⟩ := hs
        simp only [VV] at hv
        rcases hv with ⟨b, z, cap, hb, o', rfl, h1, h2, h3⟩ | ⟨h0, rfl⟩
        rotate_right
        · subst h0
          exact ⟨[], ⟨none, 0, rfl, Nat.le_refl _, Nat.zero_le _, .inl ⟨rfl, rfl⟩⟩, by simp [VL], by simp, by simp⟩
        obtain ⟨arr, us, rest, q1, q2, q3, q4, q5, q6⟩ := h.cell ho hb
        rcases h3 with h3 | rfl
        · subst h3
          exact ⟨[], ⟨_, cap, rfl, h1, h2, .inl ⟨rfl, rfl⟩⟩, by simp [VL], by simp, by simp⟩
        · refine ⟨(us.drop o').take (m' * sz), ⟨_, cap, rfl, h1, h2, .inr ⟨b, o', rfl, fun j u hj => q6 _ _ (take_drop_get us o' _ j u hj)⟩⟩, VL.take _ (VL.drop _ q5), fun u hu => q4 u (List.mem_of_mem_drop (List.mem_of_mem_take hu)), ?_⟩
          simp; omega
      · cases hs
    · cases hs
  · cases hs

/-! ### append -/
theorem run_append_src {t ty e : TypeId} {i : TypeInfo} {z : Value} {size bytes : Nat} (ht : P.underlying t = some (.slice e)) (hi : P.info? e = some i) (hz : i.zero = some z)
    (hsize : i.size = size) (hby : i.bytes = bytes) (hzs : z.cells.size = size) (hsz : 0 < size)
    {v : Value} {n : Nat} {xs : List Value} (hown : w.ownsRow 0 e size v n xs) {vx : Value} {m : Nat} {news : List Value} (hsrc : Src w vx m news) (hl : news.length = m * size) (h1 : ∀ u ∈ news, u.oneCell' = true)
    (h63 : n + m ≤ maxLen) (hbytes : (n + m) * bytes ≤ 140737488355328) :
    ∃ v' w', (Builtin.append_ #[t, t] ty #[v, vx]).run P w = .ok v' w' ∧ w'.ownsRow 0 e size v' (n + m) (xs ++ news) ∧ w.grownBy w' v.ownBlock ∧
      (v' = .slice none 0 0 ↔ v = .slice none 0 0 ∧ m = 0) ∧ (v'.ownBlock = v.ownBlock ∨ v'.ownBlock = some w.heap.size) := by
  obtain ⟨A, c, rfl, _, _, hA⟩ := hsrc
  cases A with
  | some ad =>
    rcases hA with ⟨rfl, rfl⟩ | ⟨b, o, hbo, hc⟩
    · exact run_append_own_at w 0 t ty e i z size bytes ht hi hz hsize hby hzs hsz v n xs hown ad 0 c [] hl (fun j u h => by simp at h) (by simp) h63 hbytes (Nat.zero_le _)
    · cases hbo
      exact run_append_own_at w 0 t ty e i z size bytes ht hi hz hsize hby hzs hsz v n xs hown _ m c news hl (fun j u h => by rw [Addr.add_mid]; exact hc j u h) h1 h63 hbytes (Nat.zero_le _)
  | none =>
    rcases hA with ⟨rfl, rfl⟩ | ⟨b, o, hbo, hc⟩
    · have hown' := hown
      obtain ⟨hxl, ⟨rfl, rfl⟩ | ⟨g, cap, cur, rfl, _, hg, hnc, hcm, hcs, htake⟩⟩ := hown
      · refine ⟨.slice none 0 0, w, ?_, by simpa using hown', ⟨rfl, rfl, rfl, Nat.le_refl _, fun _ _ _ => rfl⟩, by simp, .inl rfl⟩
        simp [Builtin.append_, run_underlying ht, sizeOf, typeInfo, hi, Builtin.lenOf, Builtin.firstCells]
      · refine ⟨.slice (some ⟨g, 0, none⟩) n cap, w, ?_, by simpa using hown', ⟨rfl, rfl, rfl, Nat.le_refl _, fun _ _ _ => rfl⟩, by simp, .inl rfl⟩
        simp [Builtin.append_, run_underlying ht, sizeOf, typeInfo, hi, Builtin.lenOf, Builtin.firstCells, hnc, storeCells]
    · cases hbo
theorem does_append (h : R E β N S O a w) {t e ty : TypeId} {y ye : Ty} {sz bytes : Nat} (hy : chkTy P t y = true) (hk : y.k = .slice e sz bytes) (hye : chkTy P e ye = true) (hsz : 0 < sz)
    {i n : Nat} {cs ts : List T} (hO : O i = some (.cells e cs)) (hcs : cs.length = n * sz) {v vx : Value} (hv : VV w (Imm E O β w) β (.own i sz n) v)
    {m : Nat} {news : List Value} (hsrc : Src w vx m news) (hl : VL w (Imm E O β w) ts news) (h1 : ∀ u ∈ news, u.oneCell' = true) (hlen : ts.length = m * sz)
    (hb : (n + m) * bytes ≤ 140737488355328 ∧ n + m ≤ maxLen) {j : Nat} (hj : j ∉ N) (hnew : 2000 ≤ j → 2000 ≤ i) {p : Prop} :
    Does P E N S O a (Builtin.append_ #[t, t] ty #[v, vx]) w ⟨p, .own j sz (n + m), [(i, none), (j, some (.cells e (cs ++ ts)))], [j]⟩ := by
  have hc := chkTy_kind hy
  rw [hk] at hc
  obtain ⟨hu, ii, hi, his, hib⟩ := chkK_slice hc
  obtain ⟨i', z, hi', his', _, hz, hzs, hzz, _⟩ := chkTy_info hye
  rw [hi] at hi'; cases hi'
  simp only [VV] at hv
  have hβj := h.dom j hj
  obtain ⟨us, hown, q4, q5, hnil⟩ : ∃ us, w.ownsRow 0 e sz v n us ∧ (∀ u ∈ us, u.oneCell' = true) ∧ VL w (Imm E O β w) cs us ∧ ((v.ownBlock = none ∧ n = 0) ∨ ∃ b zb, v.ownBlock = some b ∧ β i = some (b, zb) ∧ b < w.heap.size ∧ (E.w0.heap.size ≤ b ∨ E.X b)) := by
    rcases hv with ⟨b, zb, cap, hbi, rfl, hzc, hn, hcap⟩ | ⟨rfl, rfl⟩
    · obtain ⟨arr, us, rest, q1, q2, q3, q4, q5, q6⟩ := h.cell hO hbi
      obtain ⟨_, _, hbi2, hblt, hbx, _⟩ := h.objS hO hbi
      rw [hbi] at hbi2; cases hbi2
      have hul : us.length = n * sz := by rw [VL.length q5, hcs]
      exact ⟨us, ⟨hul, .inr ⟨b, cap, arr, rfl, Nat.zero_le _, by rw [q1, bk_lt (chkTy_lt hye)], hn, hcap, by rw [q2, hzc], by rw [q3, ← hul]; simp⟩⟩, q4, q5, .inr ⟨b, zb, rfl, hbi, hblt, hbx⟩⟩
    · have : cs = [] := List.eq_nil_of_length_eq_zero (by simpa using hcs)
      subst this
      exact ⟨[], ⟨by simp, .inl ⟨rfl, rfl⟩⟩, by simp, by simp only [VL], .inl ⟨rfl, rfl⟩⟩
  have hnl : news.length = m * sz := by rw [VL.length hl, hlen]
  obtain ⟨v', w', r1, ⟨r2, r3⟩, r4, r5, r6⟩ := run_append_src (P := P) (ty := ty) hu hi hz his hib (by omega) hsz hown hsrc hnl h1 hb.2 hb.1
  have hij : i ≠ j := fun e => by
    rcases h.objs i _ hO with ⟨_, _, hb', _⟩ | ⟨hm, _⟩
    · rw [e, hβj] at hb'; cases hb'
    · exact hj (e ▸ hm)
  have hOj : O j = none := by
    cases ho : O j with
    | none => rfl
    | some o' =>
      rcases h.objs j o' ho with ⟨_, _, hb', _⟩ | ⟨hm, _⟩
      · rw [hβj] at hb'; cases hb'
      · exact absurd hm hj
  have hO' : ∀ k o, effs [(i, none), (j, some (.cells e (cs ++ ts)))] O k = some o → (k = j ∧ o = .cells e (cs ++ ts)) ∨ (k ≠ j ∧ k ≠ i ∧ O k = some o) := fun k o hk => by
    simp only [effs] at hk
    by_cases e1 : k = j
    · subst e1; rw [upd_same] at hk; cases hk; exact .inl ⟨rfl, rfl⟩
    · rw [upd_other _ _ _ _ e1] at hk
      by_cases e2 : k = i
      · subst e2; rw [upd_same] at hk; cases hk
      · rw [upd_other _ _ _ _ e2] at hk; exact .inr ⟨e1, e2, hk⟩
  have hold : ∀ k o x, O k = some o → β k = some x → x.1 < w.heap.size := fun k o x ho hx => by
    obtain ⟨_, _, hb', hl', _⟩ := h.objS ho hx
    rw [hx] at hb'; cases hb'; exact hl'
  have hblk : ∀ k, k < w.heap.size → (∀ x, β i = some x → x.1 ≠ k) → w'.heap[k]? = w.heap[k]? := fun k hk hne => r4.block k hk (by
    rcases hnil with ⟨e1, _⟩ | ⟨b, zb, e1, e2, _⟩
    · rw [e1]; simp
    · rw [e1]; exact fun h' => hne _ e2 (Option.some.inj h').symm)
  rcases r3 with ⟨rfl, hn0⟩ | ⟨g, cap', cur, rfl, _, hg, hnc, hcm, hcsz, htk⟩
  · have hm0 : n = 0 ∧ m = 0 := by omega
    obtain ⟨rfl, rfl⟩ := hm0
    have e1 : cs = [] := List.eq_nil_of_length_eq_zero (by simpa using hcs)
    have e2 : ts = [] := List.eq_nil_of_length_eq_zero (by simpa using hlen)
    subst e1; subst e2
    have hvn : v = .slice none 0 0 := (r5.1 rfl).1
    have hall : ∀ k, k < w.heap.size → w'.heap[k]? = w.heap[k]? := fun k hk => r4.block k hk (by rw [hvn]; simp [Value.ownBlock])
    have himm : ∀ c, Imm E O β w c → Imm E (effs [(i, none), (j, some (.cells e ([] ++ [])))] O) β w' c ∧ w'.heap[c]? = w.heap[c]? := fun c hc =>
      ⟨⟨hc.1, Nat.lt_of_lt_of_le hc.2.1 r4.size, fun k o x ho hx => by
        rcases hO' k o ho with ⟨rfl, rfl⟩ | ⟨_, _, h3'⟩
        · rw [hβj] at hx; cases hx
        · exact hc.2.2 k o x h3' hx⟩, hall c hc.2.1⟩
    have hR := h.next (w' := w') (N' := j :: N) (O' := effs [(i, none), (j, some (.cells e ([] ++ [])))] O) (β' := β) r4.os r4.tape r4.output r4.size
      (fun c hc _ => hall c (Nat.lt_of_lt_of_le hc h.size)) (fun _ _ => rfl) (fun _ hm => List.mem_cons_of_mem _ hm) (fun k x hn _ hx => absurd (h.inN hx) hn)
      (fun k hk => h.dom k (fun hm => hk (List.mem_cons_of_mem _ hm))) himm
      (fun k o ho => by
        rcases hO' k o ho with ⟨rfl, rfl⟩ | ⟨_, _, h3'⟩
        · exact .inr (.inr ⟨List.mem_cons_self, hβj, e, rfl⟩)
        · exact .inl ⟨h3', fun x hx => hall _ (hold k o x h3' hx)⟩)
      (fun k l o o' x x' ho ho' hx hx' hne => by
        rcases hO' k o ho with ⟨rfl, rfl⟩ | ⟨_, _, a3⟩
        · rw [hβj] at hx; cases hx
        · rcases hO' l o' ho' with ⟨rfl, rfl⟩ | ⟨_, _, b3⟩
          · rw [hβj] at hx'; cases hx'
          · exact h.apart k l o o' x x' a3 b3 hx hx' hne)
    exact ⟨_, w', _, r1, hR.1, by simp [VV]⟩
  have hgb : (∃ zb, β i = some (g, zb) ∧ g < w.heap.size ∧ (E.w0.heap.size ≤ g ∨ E.X g)) ∨ g = w.heap.size := by
    rcases r6 with r6 | r6
    · rcases hnil with ⟨e1, _⟩ | ⟨b, zb, e1, e2, e3⟩
      · rw [e1] at r6; simp [Value.ownBlock] at r6
      · rw [e1] at r6
        simp only [Value.ownBlock, Option.some.injEq] at r6
        subst r6
        exact .inl ⟨zb, e2, e3⟩
    · simp only [Value.ownBlock, Option.some.injEq] at r6
      exact .inr r6
  have hglt : g < w'.heap.size := (Array.getElem?_eq_some_iff.1 hg).1
  have hnames : ∀ k, k ∈ N → upd β j (some (g, cur.size)) k = β k := fun k hk => by
    rw [upd_other]
    rintro rfl; exact hj hk
  have himm : ∀ c, Imm E O β w c → Imm E (effs [(i, none), (j, some (.cells e (cs ++ ts)))] O) (upd β j (some (g, cur.size))) w' c ∧ w'.heap[c]? = w.heap[c]? := fun c hc => by
    refine ⟨⟨hc.1, Nat.lt_of_lt_of_le hc.2.1 r4.size, fun k o x ho hx => ?_⟩, hblk c hc.2.1 (fun x hx => hc.2.2 i _ x hO hx)⟩
    rcases hO' k o ho with ⟨rfl, rfl⟩ | ⟨h1', h2', h3'⟩
    · rw [upd_same] at hx; cases hx
      rcases hgb with ⟨zb, e1, _⟩ | rfl
      · exact hc.2.2 i _ (g, zb) hO e1
      · exact Ne.symm (Nat.ne_of_lt hc.2.1)
    · rw [upd_other _ _ _ _ h1'] at hx
      exact hc.2.2 k o x h3' hx
  have hl2 : Lasts w (Imm E O β w) w' (Imm E (effs [(i, none), (j, some (.cells e (cs ++ ts)))] O) (upd β j (some (g, cur.size))) w') := ⟨fun c hc => (himm c hc).1, fun c hc => (himm c hc).2⟩
  have hR := h.next (w' := w') (N' := j :: N) (O' := effs [(i, none), (j, some (.cells e (cs ++ ts)))] O) (β' := upd β j (some (g, cur.size))) r4.os r4.tape r4.output r4.size
    (fun c hc hx => hblk c (Nat.lt_of_lt_of_le hc h.size) (fun x hbx e => by
      obtain ⟨_, _, g1, _, g2, _⟩ := h.objS hO hbx
      rw [hbx] at g1; cases g1
      rcases g2 with h' | h'
      · simp only at e; omega
      · exact hx (e ▸ h'))) hnames (fun _ hm => List.mem_cons_of_mem _ hm)
    (fun k x hn h2 hx => by
      by_cases e1 : k = j
      · subst e1
        rw [upd_same] at hx; cases hx
        rcases hgb with ⟨zb, e2, _⟩ | rfl
        · exact h.news i (g, zb) (hnew h2) e2
        · exact h.size
      · rw [upd_other _ _ _ _ e1] at hx; exact absurd (h.inN hx) hn)
    (fun k hk => by
      rw [upd_other _ _ _ _ (fun e => hk (by rw [e]; exact List.mem_cons_self))]
      exact h.dom k (fun hm => hk (List.mem_cons_of_mem _ hm))) himm
    (fun k o ho => by
      rcases hO' k o ho with ⟨rfl, rfl⟩ | ⟨h1', h2', h3'⟩
      · refine .inr (.inl ⟨g, cur.size, upd_same _ _ _, hglt, ?_, ?_⟩)
        · rcases hgb with ⟨_, _, _, hbx⟩ | rfl
          · exact hbx
          · exact .inl h.size
        · simp only [OR]
          refine ⟨cur, us ++ news, cur.toList.drop ((n + m) * sz), by rw [hg, bk_lt (chkTy_lt hye)], rfl, by rw [← htk, List.take_append_drop], fun u hu => ?_, VL.lasts hl2 _ _ (VL.append q5 hl)⟩
          rcases List.mem_append.1 hu with hu | hu
          · exact q4 u hu
          · exact h1 u hu
      · refine .inl ⟨h3', fun x hx => hblk _ (hold k o x h3' hx) (fun x' hx' => ?_)⟩
        exact Ne.symm (h.apart k i o _ x _ h3' hO hx hx' h2'))
    (fun k l o o' x x' ho ho' hx hx' hne => by
      rcases hO' k o ho with ⟨rfl, rfl⟩ | ⟨a1, a2, a3⟩
      · rw [upd_same] at hx; cases hx
        rcases hO' l o' ho' with ⟨rfl, rfl⟩ | ⟨b1, b2, b3⟩
        · exact absurd rfl hne
        · rw [upd_other _ _ _ _ b1] at hx'
          rcases hgb with ⟨zb, e1, _⟩ | rfl
          · exact h.apart i l _ o' (g, zb) x' hO b3 e1 hx' (Ne.symm b2)
          · exact Nat.ne_of_gt (hold l o' x' b3 hx')
      · rw [upd_other _ _ _ _ a1] at hx
        rcases hO' l o' ho' with ⟨rfl, rfl⟩ | ⟨b1, b2, b3⟩
        · rw [upd_same] at hx'; cases hx'
          rcases hgb with ⟨zb, e1, _⟩ | rfl
          · exact h.apart k i o _ x (g, zb) a3 hO hx e1 a2
          · exact Nat.ne_of_lt (hold k o x a3 hx)
        · rw [upd_other _ _ _ _ b1] at hx'
          exact h.apart k l o o' x x' a3 b3 hx hx' hne)
  refine ⟨_, w', _, r1, hR.1, ?_⟩
  simp only [VV]
  exact .inl ⟨g, cur.size, cap', upd_same _ _ _, rfl, hcsz, hnc, hcm⟩
end
end Go.Tl
end
section
namespace Go.Tl
set_option linter.unusedVariables false
set_option linter.unusedSimpArgs false

section
variable {P : Program} {E : Env} {β : Names} {N : List Nat} {S : Nat → Option V} {O : Nat → Option Obj} {a : Act} {w : World}
theorem run_copy_src {dT sT ty elem : TypeId} {g o dLen dCap : Nat} {cur : Array Value} {t : TypeId} (hu : P.underlying dT = some (.slice elem)) (hs : (P.info? elem).map (·.size) = some 1)
    (hg : w.heap[g]? = some (.cells cur t (0, 0))) {vx : Value} {m : Nat} {news : List Value} (hsrc : Src w vx m news) (hl : news.length = m) (h1 : ∀ u ∈ news, u.oneCell' = true) (hfit : o + Nat.min m dLen ≤ cur.size) :
    (Builtin.copy_ #[dT, sT] ty #[.slice (some ⟨g, o, none⟩) dLen dCap, vx]).run P w =
      .ok (goInt (Nat.min m dLen)) (w.setRow g (cur.toList.take o ++ news.take (Nat.min m dLen) ++ cur.toList.drop (o + Nat.min m dLen)).toArray) := by
  obtain ⟨A, c, rfl, _, _, hA⟩ := hsrc
  have hmn : Nat.min m dLen ≤ m := Nat.min_le_left _ _
  cases A with
  | some ad =>
    have hc : ∀ j v, (news.take (Nat.min m dLen))[j]? = some v → w.cell? (ad.add j) = some v := by
      rcases hA with ⟨rfl, rfl⟩ | ⟨b, o', hbo, hc⟩
      · intro j v h; simp at h
      · cases hbo
        intro j v h
        rw [Addr.add_mid]
        refine hc j v ?_
        rw [List.getElem?_take] at h
        split at h
        · exact h
        · cases h
    have hlen : (news.take (Nat.min m dLen)).length = Nat.min m dLen := by simp [hl]
    have := run_copy_row (P := P) w dT sT ty elem g o dLen dCap ad m c cur t (news.take (Nat.min m dLen)) hu hs hg hlen hc (by rw [hlen]; exact hfit) (fun v hv => h1 v (List.mem_of_mem_take hv))
    rw [hlen] at this
    exact this
  | none =>
    rcases hA with ⟨rfl, rfl⟩ | ⟨b, o', hbo, hc⟩
    · cases hq : P.info? elem with
      | none => simp [hq] at hs
      | some i =>
        have h0 : Nat.min 0 dLen = 0 := Nat.zero_min _
        simp only [h0, Nat.add_zero, List.take_nil, List.append_nil, List.take_append_drop, Array.toArray_toList]
        rw [setRow_self w g cur t (0, 0) hg]
        simp [Builtin.copy_, run_underlying hu, Builtin.lenOf, Builtin.firstCells, sizeOf, typeInfo, hq, storeCells]
    · cases hbo

def dstV (x : V) : Option (Nat × Nat × Nat) :=
  match x with
  | .own i sz n => if sz = 1 then some (i, 0, n) else none
  | .view i o sz n => if sz = 1 then some (i, o, n) else none
  | _ => none
theorem does_copy (h : R E β N S O a w) {t t2 e ty : TypeId} {y : Ty} {bytes : Nat} (hy : chkTy P t y = true) (hk : y.k = .slice e 1 bytes)
    {x : V} {i o n : Nat} (hx : dstV x = some (i, o, n)) {e' : TypeId} {cs ts : List T} (hO : O i = some (.cells e' cs)) (he : e' < 1048576) {v vx : Value} (hv : VV w (Imm E O β w) β x v)
    {m : Nat} {news : List Value} (hsrc : Src w vx m news) (hl : VL w (Imm E O β w) ts news) (h1 : ∀ u ∈ news, u.oneCell' = true) (hlen : ts.length = m * 1)
    {p : Prop} (hfit : 0 < n ∧ o + Nat.min m n ≤ cs.length) :
    Does P E N S O a (Builtin.copy_ #[t, t2] ty #[v, vx]) w ⟨p, .t (.int .i64 (Nat.min m n : Nat)), [(i, some (.cells e' (cs.take o ++ ts.take (Nat.min m n) ++ cs.drop (o + Nat.min m n))))], []⟩ := by
  have hc := chkTy_kind hy
  rw [hk] at hc
  obtain ⟨hu, ii, hi, his, hib⟩ := chkK_slice hc
  obtain ⟨b, z, cap, hb, rfl⟩ : ∃ b z cap, β i = some (b, z) ∧ v = .slice (some ⟨b, o, none⟩) n cap := by
    unfold dstV at hx
    split at hx
    · simp only [Option.ite_none_right_eq_some, Option.some.injEq, Prod.mk.injEq] at hx
      obtain ⟨_, rfl, rfl, rfl⟩ := hx
      simp only [VV] at hv
      rcases hv with ⟨b, z, cap, hb, rfl, _⟩ | ⟨h0, _⟩
      · exact ⟨b, z, cap, hb, rfl⟩
      · omega
    · simp only [Option.ite_none_right_eq_some, Option.some.injEq, Prod.mk.injEq] at hx
      obtain ⟨_, rfl, rfl, rfl⟩ := hx
      simp only [VV] at hv
      rcases hv with ⟨b, z, cap, hb, o', rfl, _, _, h0 | rfl⟩ | ⟨h0, _⟩
      · omega
      · exact ⟨b, z, cap, hb, rfl⟩
      · omega
    · cases hx
  obtain ⟨arr, us, rest, q1, q2, q3, q4, q5, q6⟩ := h.cell hO hb
  rw [bk_lt he] at q1
  have hul := VL.length q5
  have harr : arr.toList.length = us.length + rest.length := by rw [q3]; simp
  have hnl : news.length = m := by rw [VL.length hl, hlen]; omega
  have hrun := run_copy_src (P := P) (sT := t2) (ty := ty) (dCap := cap) hu (by rw [hi]; simp [his]) q1 hsrc hnl h1 (o := o) (dLen := n) (by simp at harr; omega)
  have hmm : Nat.min m n ≤ m := Nat.min_le_left _ _
  generalize Nat.min m n = kk at hrun hfit hmm ⊢
  refine ⟨_, _, β, hrun, (h.write i b z _ (.cells e' (cs.take o ++ ts.take (kk) ++ cs.drop (o + kk))) hO hb (setRow_os ..) (setRow_tape ..) (setRow_output ..) (setRow_size ..) (fun c hc => setRow_other _ _ _ _ hc) ?_).1, by simp only [VV, VR, goInt]⟩
  have hl2 : Lasts w (Imm E O β w) (w.setRow b (arr.toList.take o ++ news.take (kk) ++ arr.toList.drop (o + kk)).toArray) (Imm E O β w) :=
    ⟨fun _ h => h, fun c hc => setRow_other _ _ _ _ (fun e => hc.2.2 i _ _ hO hb (by simp [e]))⟩
  simp only [OR]
  refine ⟨_, us.take o ++ news.take (kk) ++ us.drop (o + kk), rest, by rw [bk_lt he]; exact setRow_heap _ _ _ _ _ _ q1, ?_, ?_, ?_, ?_⟩
  · simp only [List.size_toArray, List.length_append, List.length_take, List.length_drop]
    simp at harr ⊢
    omega
  · simp only [q3]
    rw [List.take_append_of_le_length (by omega), List.drop_append_of_le_length (by omega)]
    simp
  · intro u hu
    simp only [List.mem_append] at hu
    rcases hu with (hu | hu) | hu
    · exact q4 u (List.mem_of_mem_take hu)
    · exact h1 u (List.mem_of_mem_take hu)
    · exact q4 u (List.mem_of_mem_drop hu)
  · exact VL.append (VL.append (VL.take _ (VL.lasts hl2 _ _ q5)) (VL.take _ (VL.lasts hl2 _ _ hl))) (VL.drop _ (VL.lasts hl2 _ _ q5))
end

/-! ### lists of slots and objects -/
def lk {α : Type} : List (Nat × α) → Nat → Option α
  | [], _ => none
  | (j, x) :: r, i => if i = j then some x else lk r i
def delA {α : Type} : List (Nat × α) → Nat → List (Nat × α)
  | [], _ => []
  | (j, x) :: r, i => if i = j then delA r i else (j, x) :: delA r i
theorem lk_cons {α : Type} (l : List (Nat × α)) (i : Nat) (x : α) : lk ((i, x) :: l) = upd (lk l) i (some x) := by
  funext k; simp only [lk, upd]
theorem lk_del {α : Type} : ∀ (l : List (Nat × α)) (i : Nat), lk (delA l i) = upd (lk l) i none
  | [], i => by funext k; simp [delA, lk, upd]
  | (j, x) :: r, i => by
    funext k
    have ih := congrFun (lk_del r i) k
    simp only [delA]
    by_cases h : i = j
    · rw [if_pos h, ih]
      simp only [upd, lk]
      by_cases hk : k = i
      · simp [hk]
      · rw [if_neg hk, if_neg hk, if_neg (by rw [← h]; exact hk)]
    · rw [if_neg h]
      simp only [lk, upd, ih]
      by_cases hk : k = j
      · subst hk; rw [if_pos rfl, if_neg (Ne.symm h), if_pos rfl]
      · rw [if_neg hk, if_neg hk]
def keepA {α : Type} (l : List (Nat × α)) : List Nat → List (Nat × α)
  | [] => []
  | i :: is => match lk l i with
    | some x => (i, x) :: keepA l is
    | none => keepA l is
theorem lk_keep {α : Type} (l : List (Nat × α)) : ∀ (is : List Nat) (k : Nat) (x : α), lk (keepA l is) k = some x → lk l k = some x
  | [], k, x, h => by simp [keepA, lk] at h
  | i :: is, k, x, h => by
    simp only [keepA] at h
    cases hi : lk l i with
    | none => simp only [hi] at h; exact lk_keep l is k x h
    | some y =>
      simp only [hi, lk] at h
      split at h
      · rename_i e; cases h; rw [e]; exact hi
      · exact lk_keep l is k x h

structure St where
  N : List Nat
  S : List (Nat × V)
  O : List (Nat × Obj)

def Rel (E : Env) (σ : St) (a : Act) (w : World) : Prop := ∃ β, R E β σ.N (lk σ.S) (lk σ.O) a w

theorem Rel.keep {E : Env} {σ : St} {a : Act} {w : World} (h : Rel E σ a w) (ts : List Nat) : Rel E { σ with S := keepA σ.S ts } a w :=
  let ⟨β, h⟩ := h
  ⟨β, h.less (lk_keep σ.S ts)⟩

section
variable {E : Env} {β β' : Names} {N N' : List Nat} {S S' : Nat → Option V} {O O' : Nat → Option Obj} {a a' : Act} {w w' : World}
theorem R.retell (h : R E β N S O a w) (pins : ∀ i, E.pin i → i ∈ N' ∧ β' i = E.pinβ i) (news : ∀ i x, 2000 ≤ i → β' i = some x → E.w0.heap.size ≤ x.1) (dom : ∀ i, i ∉ N' → β' i = none)
    (hO : ∀ k o' x', O' k = some o' → β' k = some x' → ∃ l o, O l = some o ∧ β l = some x')
    (hβ : ∀ k o', O' k = some o' → (β' k).isSome = true ∨ (k ∈ N' ∧ β' k = none ∧ ∃ e, o' = .cells e []))
    (hinj : ∀ i j o o' x x', O' i = some o → O' j = some o' → β' i = some x → β' j = some x' → i ≠ j → x.1 ≠ x'.1)
    (hOR : (∀ b, Imm E O β w b → Imm E O' β' w b) → ∀ k o' x', O' k = some o' → β' k = some x' → OR w (Imm E O' β' w) β' x'.1 x'.2 o')
    (hS : (∀ b, Imm E O β w b → Imm E O' β' w b) → ∀ t x', S' t = some x' → ∃ x, S t = some x ∧ ∀ v, VV w (Imm E O β w) β x v → VV w (Imm E O' β' w) β' x' v) : R E β' N' S' O' a w := by
  have himm : ∀ b, Imm E O β w b → Imm E O' β' w b := fun b hb => ⟨hb.1, hb.2.1, fun i o x ho hx => by
    obtain ⟨l, o2, h1, h2⟩ := hO i o x ho hx
    exact hb.2.2 l o2 x h1 h2⟩
  refine ⟨h.defers, h.os, h.tape, h.output, h.size, h.old, h.okb, h.glob, dom, fun t x' ht => ?_, fun i hp => ⟨(h.pins i hp).1, pins i hp⟩, news, fun i o ho => ?_, fun i j o o' x x' ho ho' hx hx' hne => hinj i j o o' x x' ho ho' hx hx' hne⟩
  · obtain ⟨x, h1, h2⟩ := hS himm t x' ht
    obtain ⟨h3, h4⟩ := h.slots t x h1
    exact ⟨h3, h2 _ h4⟩
  · rcases hβ i o ho with hs | hs
    · obtain ⟨x', hx'⟩ := Option.isSome_iff_exists.1 hs
      obtain ⟨l, o2, h1, h2⟩ := hO i o x' ho hx'
      obtain ⟨b, z, g1, g2, g3, g4⟩ := h.objS h1 h2
      rw [h2] at g1; cases g1
      exact .inl ⟨b, z, hx', g2, g3, hOR himm i o _ ho hx'⟩
    · exact .inr hs
theorem R.lessO (h : R E β N S O a w) (hO : ∀ k o, O' k = some o → O k = some o) : R E β N S O' a w := by
  refine h.retell (fun i hp => (h.pins i hp).2) h.news h.dom (fun k o x ho hx => ⟨k, o, hO k o ho, hx⟩) (fun k o ho => ?_) (fun i j o o' x x' ho ho' hx hx' hne => h.apart i j o o' x x' (hO i o ho) (hO j o' ho') hx hx' hne)
    (fun hi k o x ho hx => ?_) (fun hi t x ht => ⟨x, ht, fun v hv => VV.lasts ⟨hi, fun _ _ => rfl⟩ (fun _ _ h => h) _ _ hv⟩)
  · rcases h.objs k o (hO k o ho) with ⟨b, z, g1, _⟩ | hs
    · left; rw [g1]; rfl
    · exact .inr hs
  · obtain ⟨b, z, g1, _, _, g4⟩ := h.objS (hO k o ho) hx
    rw [hx] at g1; cases g1
    exact OR.lasts ⟨hi, fun _ _ => rfl⟩ (fun _ _ h => h) rfl g4
end
theorem Rel.keepO {E : Env} {σ : St} {a : Act} {w : World} (h : Rel E σ a w) (is : List Nat) : Rel E { σ with O := keepA σ.O is } a w :=
  let ⟨β, h⟩ := h
  ⟨β, h.lessO (lk_keep σ.O is)⟩
end Go.Tl
end
