/-
  Trees for Go values: an abstraction of the machine's memory by immutable trees and a small store of the call's own objects. No statement of the seat is proved here: definitions and monotonicity.
-/
import Derived.WalkKit
namespace Go.Tl
set_option linter.unusedVariables false
set_option linter.unusedSimpArgs false

/-- A value as a tree; what it leans on in memory nobody writes any more. -/
inductive T where
  | int (k : IntKind) (n : Int)
  | bool (b : Bool)
  | str (s : ByteArray)
  | list (n sz : Nat) (cs : List T)
  | nils
  | agg (cs : List T)
  | tup (cs : List T)
  | ptr (cs : List T)
  | nilp
  | fn (f : FuncId) (pre cs : List T)
  | rows (n sz : Nat) (cs : List T)
  | zlist
  | nilf
  | nili
  | iface (t : TypeId) (x : T)
  | nilm
  | undef
  deriving Inhabited


mutual
def VR (w : World) (ok : Nat → Prop) : T → Value → Prop
  | .int k n, v => v = .int k n
  | .bool b, v => v = .bool b
  | .str s, v => v = .string s
  | .list n sz cs, v => cs.length = n * sz ∧ ∃ A cap, v = .slice A n cap ∧ n ≤ cap ∧ cap ≤ maxLen ∧ (n = 0 ∨ ∃ b o, A = some ⟨b, o, none⟩ ∧ ok b ∧ VA w ok cs b o)
  | .nils, v => v = .slice none 0 0
  | .agg cs, v => ∃ vs, v = .agg vs ∧ (∀ u ∈ vs.toList, u.oneCell' = true) ∧ VL w ok cs vs.toList
  | .tup cs, v => ∃ vs, v = .tuple vs ∧ VL w ok cs vs.toList
  | .ptr cs, v => ∃ b o, v = .pointer (some ⟨b, o, none⟩) ∧ ok b ∧ VA w ok cs b o
  | .nilp, v => v = .pointer none
  | .fn f pre cs, v => ∃ ps vs, v = .func (.func f) ps vs ∧ VL w ok pre ps.toList ∧ VL w ok cs vs.toList
  | .rows n sz cs, v => cs.length = n * sz ∧ ∃ ad cap, v = .slice (some ad) n cap ∧ n ≤ cap ∧ cap ≤ maxLen ∧ (n = 0 ∨ ∃ b o, ad = ⟨b, o, none⟩ ∧ ok b ∧ VA w ok cs b o)
  | .zlist, v => ∃ cap, v = .slice none 0 cap
  | .nilf, v => v = .nilFunc
  | .nili, v => v = .nilIface
  | .iface t x, v => ∃ u, v = .iface t u ∧ VR w ok x u
  | .nilm, v => v = .map none
  | .undef, v => v = Go.undef
def VL (w : World) (ok : Nat → Prop) : List T → List Value → Prop
  | [], vs => vs = []
  | t :: ts, vs => ∃ u us, vs = u :: us ∧ VR w ok t u ∧ VL w ok ts us
def VA (w : World) (ok : Nat → Prop) : List T → Nat → Nat → Prop
  | [], _, _ => True
  | t :: ts, b, o => (∃ u, w.cell? ⟨b, o, none⟩ = some u ∧ u.oneCell' = true ∧ VR w ok t u) ∧ VA w ok ts b (o + 1)
end

/-- What makes a reading last: the blocks it leans on hold what they held. -/
structure Lasts (w : World) (ok : Nat → Prop) (w' : World) (ok' : Nat → Prop) : Prop where
  lets : ∀ b, ok b → ok' b
  same : ∀ b, ok b → w'.heap[b]? = w.heap[b]?

theorem Lasts.refl (w : World) (ok : Nat → Prop) : Lasts w ok w ok := ⟨fun _ h => h, fun _ _ => rfl⟩

theorem cell_same {w w' : World} {b : Nat} (h : w'.heap[b]? = w.heap[b]?) (o : Nat) : w'.cell? ⟨b, o, none⟩ = w.cell? ⟨b, o, none⟩ := World.cell?_of_block (a := ⟨b, o, none⟩) h

section
variable {w w' : World} {ok ok' : Nat → Prop}
mutual
theorem VR.lasts (h : Lasts w ok w' ok') : ∀ (t : T) (v : Value), VR w ok t v → VR w' ok' t v
  | .int k n, v, hv => by simpa only [VR] using hv
  | .bool b, v, hv => by simpa only [VR] using hv
  | .str s, v, hv => by simpa only [VR] using hv
  | .list n sz cs, v, hv => by
    simp only [VR] at hv ⊢
    obtain ⟨hl, A, cap, e, h1, h2, h3⟩ := hv
    refine ⟨hl, A, cap, e, h1, h2, ?_⟩
    rcases h3 with h3 | ⟨b, o, hA, hb, hc⟩
    · exact .inl h3
    · exact .inr ⟨b, o, hA, h.lets b hb, VA.lasts h cs b o (h.same b hb) hc⟩
  | .nils, v, hv => by simpa only [VR] using hv
  | .agg cs, v, hv => by
    simp only [VR] at hv ⊢
    obtain ⟨vs, e, h1, hc⟩ := hv
    exact ⟨vs, e, h1, VL.lasts h cs _ hc⟩
  | .tup cs, v, hv => by
    simp only [VR] at hv ⊢
    obtain ⟨vs, e, hc⟩ := hv
    exact ⟨vs, e, VL.lasts h cs _ hc⟩
  | .ptr cs, v, hv => by
    simp only [VR] at hv ⊢
    obtain ⟨b, o, e, hb, hc⟩ := hv
    exact ⟨b, o, e, h.lets b hb, VA.lasts h cs b o (h.same b hb) hc⟩
  | .nilp, v, hv => by simpa only [VR] using hv
  | .fn f pre cs, v, hv => by
    simp only [VR] at hv ⊢
    obtain ⟨ps, vs, e, hp, hc⟩ := hv
    exact ⟨ps, vs, e, VL.lasts h pre _ hp, VL.lasts h cs _ hc⟩
  | .rows n sz cs, v, hv => by
    simp only [VR] at hv ⊢
    obtain ⟨hl, A, cap, e, h1, h2, h3⟩ := hv
    refine ⟨hl, A, cap, e, h1, h2, ?_⟩
    rcases h3 with h3 | ⟨b, o, hA, hb, hc⟩
    · exact .inl h3
    · exact .inr ⟨b, o, hA, h.lets b hb, VA.lasts h cs b o (h.same b hb) hc⟩
  | .zlist, v, hv => by simpa only [VR] using hv
  | .nilf, v, hv => by simpa only [VR] using hv
  | .nili, v, hv => by simpa only [VR] using hv
  | .iface t x, v, hv => by
    simp only [VR] at hv ⊢
    obtain ⟨u, e, hu⟩ := hv
    exact ⟨u, e, VR.lasts h x u hu⟩
  | .nilm, v, hv => by simpa only [VR] using hv
  | .undef, v, hv => by simpa only [VR] using hv
theorem VL.lasts (h : Lasts w ok w' ok') : ∀ (ts : List T) (vs : List Value), VL w ok ts vs → VL w' ok' ts vs
  | [], vs, hv => by simpa only [VL] using hv
  | t :: ts, vs, hv => by
    simp only [VL] at hv ⊢
    obtain ⟨u, us, e, hu, hr⟩ := hv
    exact ⟨u, us, e, VR.lasts h t u hu, VL.lasts h ts us hr⟩
theorem VA.lasts (h : Lasts w ok w' ok') : ∀ (ts : List T) (b o : Nat), w'.heap[b]? = w.heap[b]? → VA w ok ts b o → VA w' ok' ts b o
  | [], b, o, _, _ => by simp only [VA]
  | t :: ts, b, o, hb, hv => by
    simp only [VA] at hv ⊢
    obtain ⟨⟨u, hc, h1, hu⟩, hr⟩ := hv
    exact ⟨⟨u, (cell_same hb o).trans hc, h1, VR.lasts h t u hu⟩, VA.lasts h ts b (o + 1) hb hr⟩
end
end

/-! ### lists of readings -/
section
variable {w : World} {ok : Nat → Prop}
theorem VL.length : ∀ {ts : List T} {vs : List Value}, VL w ok ts vs → vs.length = ts.length
  | [], vs, h => by simp only [VL] at h; simp [h]
  | t :: ts, vs, h => by
    simp only [VL] at h
    obtain ⟨u, us, rfl, _, hr⟩ := h
    simp [VL.length hr]
theorem VL.get : ∀ {ts : List T} {vs : List Value} (_ : VL w ok ts vs) (i : Nat) (t : T), ts[i]? = some t → ∃ u, vs[i]? = some u ∧ VR w ok t u
  | [], vs, h, i, t, hi => by simp at hi
  | t0 :: ts, vs, h, i, t, hi => by
    simp only [VL] at h
    obtain ⟨u, us, rfl, hu, hr⟩ := h
    cases i with
    | zero => simp at hi; subst hi; exact ⟨u, rfl, hu⟩
    | succ i => simp at hi; simpa using VL.get hr i t hi
theorem VL.append : ∀ {ts us : List T} {vs xs : List Value}, VL w ok ts vs → VL w ok us xs → VL w ok (ts ++ us) (vs ++ xs)
  | [], us, vs, xs, h, k => by simp only [VL] at h; subst h; simpa using k
  | t :: ts, us, vs, xs, h, k => by
    simp only [VL] at h
    obtain ⟨u, vs, rfl, hu, hr⟩ := h
    simp only [List.cons_append, VL]
    exact ⟨u, vs ++ xs, rfl, hu, VL.append hr k⟩
theorem VL.take : ∀ {ts : List T} {vs : List Value} (n : Nat), VL w ok ts vs → VL w ok (ts.take n) (vs.take n)
  | [], vs, n, h => by simp only [VL] at h; subst h; simp [VL]
  | t :: ts, vs, n, h => by
    simp only [VL] at h
    obtain ⟨u, us, rfl, hu, hr⟩ := h
    cases n with
    | zero => simp [VL]
    | succ n => simp only [List.take_succ_cons, VL]; exact ⟨u, us.take n, rfl, hu, VL.take n hr⟩
theorem VL.drop : ∀ {ts : List T} {vs : List Value} (n : Nat), VL w ok ts vs → VL w ok (ts.drop n) (vs.drop n)
  | [], vs, n, h => by simp only [VL] at h; subst h; simp [VL]
  | t :: ts, vs, n, h => by
    cases n with
    | zero => simpa using h
    | succ n =>
      simp only [VL] at h
      obtain ⟨u, us, rfl, hu, hr⟩ := h
      simpa using VL.drop n hr
theorem VA.get : ∀ {ts : List T} {b o : Nat} (_ : VA w ok ts b o) (i : Nat) (t : T), ts[i]? = some t → ∃ u, w.cell? ⟨b, o + i, none⟩ = some u ∧ u.oneCell' = true ∧ VR w ok t u
  | [], b, o, h, i, t, hi => by simp at hi
  | t0 :: ts, b, o, h, i, t, hi => by
    simp only [VA] at h
    obtain ⟨⟨u, hc, h1, hu⟩, hr⟩ := h
    cases i with
    | zero => simp at hi; subst hi; exact ⟨u, hc, h1, hu⟩
    | succ i => simp at hi; have := VA.get hr i t hi; rwa [Nat.add_assoc, Nat.add_comm 1 i] at this
theorem VA.of : ∀ {ts : List T} {b o : Nat}, (∀ i t, ts[i]? = some t → ∃ u, w.cell? ⟨b, o + i, none⟩ = some u ∧ u.oneCell' = true ∧ VR w ok t u) → VA w ok ts b o
  | [], b, o, _ => by simp only [VA]
  | t :: ts, b, o, h => by
    simp only [VA]
    refine ⟨h 0 t rfl, VA.of fun i u hi => ?_⟩
    have := h (i + 1) u (by simpa using hi)
    rwa [Nat.add_assoc, Nat.add_comm 1 i]
theorem VA.drop {ts : List T} {b o : Nat} (n : Nat) (h : VA w ok ts b o) : VA w ok (ts.drop n) b (o + n) :=
  VA.of fun i t hi => by
    have := VA.get h (n + i) t (by simpa [List.getElem?_drop] using hi)
    rwa [← Nat.add_assoc] at this
theorem VA.take {ts : List T} {b o : Nat} (n : Nat) (h : VA w ok ts b o) : VA w ok (ts.take n) b o :=
  VA.of fun i t hi => VA.get h i t (by
    rw [List.getElem?_take] at hi
    split at hi
    · exact hi
    · cases hi)
/-- The cells that a reading of a range meets, as a list. -/
theorem VA.cells : ∀ {ts : List T} {b o : Nat}, VA w ok ts b o → ∃ vs : List Value, VL w ok ts vs ∧ (∀ u ∈ vs, u.oneCell' = true) ∧ ∀ i u, vs[i]? = some u → w.cell? ⟨b, o + i, none⟩ = some u
  | [], b, o, _ => ⟨[], by simp only [VL], fun u h => by simp at h, fun i u h => by simp at h⟩
  | t :: ts, b, o, h => by
    simp only [VA] at h
    obtain ⟨⟨u, hc, h1, hu⟩, hr⟩ := h
    obtain ⟨vs, hl, h1s, hcs⟩ := VA.cells hr
    refine ⟨u :: vs, by simp only [VL]; exact ⟨u, vs, rfl, hu, hl⟩, fun x hx => ?_, fun i x hi => ?_⟩
    · rcases List.mem_cons.1 hx with rfl | hx
      · exact h1
      · exact h1s x hx
    · cases i with
      | zero => simp at hi; subst hi; exact hc
      | succ i => simp at hi; have := hcs i x hi; rwa [Nat.add_assoc, Nat.add_comm 1 i] at this
/-- Cells that are there read as a range. -/
theorem VA.of_cells : ∀ {ts : List T} {vs : List Value} {b o : Nat}, VL w ok ts vs → (∀ u ∈ vs, u.oneCell' = true) → (∀ i u, vs[i]? = some u → w.cell? ⟨b, o + i, none⟩ = some u) → VA w ok ts b o
  | [], _, _, _, _, _, _ => by simp only [VA]
  | t :: ts, vs, b, o, hl, h1, hc => by
    simp only [VL] at hl
    obtain ⟨u, us, rfl, hu, hr⟩ := hl
    simp only [VA]
    refine ⟨⟨u, hc 0 u rfl, h1 u List.mem_cons_self, hu⟩, VA.of_cells hr (fun x hx => h1 x (List.mem_cons_of_mem _ hx)) fun i x hi => ?_⟩
    have := hc (i + 1) x (by simpa using hi)
    rwa [Nat.add_assoc, Nat.add_comm 1 i]
end

/-! ### cells -/
def T.cells : T → List T
  | .agg cs => cs
  | t => [t]
/-- Of one cell: what may stand in memory. -/
def T.one : T → Bool
  | .agg _ | .tup _ | .undef => false
  | _ => true
theorem VR.cells {w : World} {ok : Nat → Prop} {t : T} {v : Value} (h : VR w ok t v) (ha : t.one = true ∨ ∃ cs, t = .agg cs) : VL w ok t.cells v.cells.toList := by
  rcases ha with ha | ⟨cs, rfl⟩
  · cases t <;> simp only [T.one, Bool.false_eq_true] at ha <;> simp only [VR] at h <;> simp only [T.cells, VL]
    case int => subst h; exact ⟨_, [], rfl, by simp only [VR], rfl⟩
    case bool => subst h; exact ⟨_, [], rfl, by simp only [VR], rfl⟩
    case str => subst h; exact ⟨_, [], rfl, by simp only [VR], rfl⟩
    case nils => subst h; exact ⟨_, [], rfl, by simp only [VR], rfl⟩
    case nilp => subst h; exact ⟨_, [], rfl, by simp only [VR], rfl⟩
    case nilf => subst h; exact ⟨_, [], rfl, by simp only [VR], rfl⟩
    case nili => subst h; exact ⟨_, [], rfl, by simp only [VR], rfl⟩
    case list n sz cs => obtain ⟨hl, A, cap, rfl, hr⟩ := h; exact ⟨_, [], rfl, by simp only [VR]; exact ⟨hl, A, cap, rfl, hr⟩, rfl⟩
    case ptr cs => obtain ⟨b, o, rfl, hr⟩ := h; exact ⟨_, [], rfl, by simp only [VR]; exact ⟨b, o, rfl, hr⟩, rfl⟩
    case fn f pre cs => obtain ⟨ps, vs, rfl, hr⟩ := h; exact ⟨_, [], rfl, by simp only [VR]; exact ⟨ps, vs, rfl, hr⟩, rfl⟩
    case rows n sz cs => obtain ⟨hl, A, cap, rfl, hr⟩ := h; exact ⟨_, [], rfl, by simp only [VR]; exact ⟨hl, A, cap, rfl, hr⟩, rfl⟩
    case zlist => obtain ⟨cap, rfl⟩ := h; exact ⟨_, [], rfl, by simp only [VR]; exact ⟨cap, rfl⟩, rfl⟩
    case iface t x => obtain ⟨u, rfl, hr⟩ := h; exact ⟨_, [], rfl, by simp only [VR]; exact ⟨u, rfl, hr⟩, rfl⟩
    case nilm => subst h; exact ⟨_, [], rfl, by simp only [VR], rfl⟩
  · simp only [VR] at h
    obtain ⟨vs, rfl, _, hv⟩ := h
    exact hv
theorem VR.oneCell {w : World} {ok : Nat → Prop} {t : T} {v : Value} (h : VR w ok t v) (ha : t.one = true) : v.oneCell' = true := by
  cases t <;> simp only [T.one, Bool.false_eq_true] at ha <;> simp only [VR] at h
  case int => subst h; rfl
  case bool => subst h; rfl
  case str => subst h; rfl
  case nils => subst h; rfl
  case nilp => subst h; rfl
  case nilf => subst h; rfl
  case nili => subst h; rfl
  case list n sz cs => obtain ⟨hl, A, cap, rfl, hr⟩ := h; rfl
  case ptr cs => obtain ⟨b, o, rfl, hr⟩ := h; rfl
  case fn f pre cs => obtain ⟨ps, vs, rfl, hr⟩ := h; rfl
  case rows n sz cs => obtain ⟨hl, A, cap, rfl, hr⟩ := h; rfl
  case zlist => obtain ⟨cap, rfl⟩ := h; rfl
  case iface t x => obtain ⟨u, rfl, hr⟩ := h; rfl
  case nilm => subst h; rfl
theorem VR.ones {w : World} {ok : Nat → Prop} {t : T} {v : Value} (h : VR w ok t v) (ha : t.one = true ∨ ∃ cs, t = .agg cs) : ∀ u ∈ v.cells.toList, u.oneCell' = true := by
  rcases ha with ha | ⟨cs, rfl⟩
  · have h1 := VR.oneCell h ha
    intro u hu
    have : v.cells.toList = [v] := by cases v <;> first | rfl | cases h1
    rw [this] at hu
    rw [List.mem_singleton.1 hu]; exact h1
  · simp only [VR] at h
    obtain ⟨vs, rfl, h1, _⟩ := h
    exact h1
end Go.Tl
