/-
  What slices of flat elements that a law takes read as. No statement of the seat is proved here.
-/
import Derived.Test.YtofiecpgfjofdaaTlTreeY
import Derived.Test.YtofiecpgfjofdaaTlTr2
namespace Go.Tl
open Go.RowKit Go.WideShapes Go.ChangeShapes Go.ChangeAt
set_option linter.unusedVariables false
set_option linter.unusedSimpArgs false
section
variable {H : Type} {enc : TypeId × Value → H} {P : Program} {w : World} {sp : Nat → Bool} {held : Bool}
theorem len_flat {α : Type} {f : α → List T} {c : Nat} (hf : ∀ p, (f p).length = c) (xs : List α) : (List.flatMap f xs).length = xs.length * c := by
  induction xs with
  | nil => simp
  | cons x xs ih => rw [List.flatMap_cons, List.length_append, ih, hf, List.length_cons, Nat.succ_mul, Nat.add_comm]
theorem get_flat {α : Type} {f : α → List T} {c : Nat} (hf : ∀ p, (f p).length = c) (d : α) : ∀ (xs : List α) (i j : Nat), j < c → i < xs.length → (List.flatMap f xs)[i * c + j]? = (f (xs.getD i d))[j]?
  | [], i, j, hj, hi => by simp at hi
  | x :: xs, 0, j, hj, hi => by rw [List.flatMap_cons, Nat.zero_mul, Nat.zero_add, List.getElem?_append_left (by rw [hf]; exact hj)]; rfl
  | x :: xs, i + 1, j, hj, hi => by
    rw [List.flatMap_cons, List.getElem?_append_right (by rw [hf, Nat.succ_mul]; omega), hf, show (i + 1) * c + j - c = i * c + j by rw [Nat.succ_mul]; omega, get_flat hf d xs i j hj (by simpa using hi)]
    rfl
/-- A cell that reads as a tree. -/
def CellR (P : Program) (w : World) (ts : List T) (cs : List Value) : Prop := ∀ (j : Nat) t, ts[j]? = some t → ∃ u, cs[j]? = some u ∧ u.oneCell' = true ∧ VR w (Old w) t u
theorem rd_flat {α : Type} {f : α → List T} {c : Nat} (d : α) (hc : 0 < c) (hf : ∀ p, (f p).length = c) {t e : TypeId} {fuel : Nat} {cs : List Value} {x : DataW H × List MemPlace} (ht : P.underlying t = some (.slice e)) (ce : P.cellsOf e = c)
    (hel : ∀ (n : Nat) (cs : List Value) y, DataW.trod enc P w 0 sp held n e cs = some y → ∃ p : α, CellR P w (f p) cs)
    (h : DataW.trod enc P w 0 sp held fuel t cs = some x) : ∃ (v : Value) (xs : List α), cs = [v] ∧ v.oneCell' = true ∧ VR w (Old w) (.list xs.length c (List.flatMap f xs)) v ∧ xs.length ≤ maxLen := by
  rcases DataW.trod_slice ht h with ⟨rfl, _⟩ | ⟨a, len, cap, elems, rest, n, _, rfl, _, _, hl, hm, hlen, hel', _, _⟩
  · exact ⟨_, [], rfl, rfl, by simp only [VR]; exact ⟨by simp, none, 0, rfl, Nat.le_refl _, Nat.zero_le _, .inl rfl⟩, Nat.zero_le _⟩
  · have each : ∀ i, i < len → ∃ p : α, ∀ j t, (f p)[j]? = some t → ∃ u, w.cell? ((a.add (i * c)).add j) = some u ∧ u.oneCell' = true ∧ VR w (Old w) t u := fun i hi => by
      have := hel' i hi
      rw [ce] at this
      obtain ⟨y, hy⟩ : ∃ y, elems[i]? = some y := ⟨_, List.getElem?_eq_getElem (by omega)⟩
      rw [hy] at this
      obtain ⟨cs', g1, g2⟩ := Option.bind_eq_some_iff.1 this
      obtain ⟨p, hp⟩ := hel _ _ _ g2
      refine ⟨p, fun j t hj => ?_⟩
      obtain ⟨u, h1, h2, h3⟩ := hp j t hj
      have hjc : j < c := by have := (List.getElem?_eq_some_iff.1 hj).1; rw [hf] at this; exact this
      exact ⟨u, by rw [(World.cells?_some g1).2.2 j hjc]; exact h1, h2, h3⟩
    obtain ⟨p, hp⟩ : ∃ p : Nat → α, ∀ i, i < len → ∀ j t, (f (p i))[j]? = some t → ∃ u, w.cell? ((a.add (i * c)).add j) = some u ∧ u.oneCell' = true ∧ VR w (Old w) t u := by
      refine ⟨fun i => if h : i < len then Classical.choose (each i h) else d, fun i hi => ?_⟩
      simp only [hi, dif_pos]
      exact Classical.choose_spec (each i hi)
    refine ⟨_, (List.range len).map p, rfl, rfl, ?_, by simpa using Nat.le_trans hl hm⟩
    simp only [VR]
    refine ⟨len_flat hf _, some a, cap, by simp, by simpa using hl, hm, ?_⟩
    by_cases hz : len = 0
    · left; simp [hz]
    · right
      obtain ⟨t0, ht0⟩ : ∃ t0, (f (p 0))[0]? = some t0 := ⟨_, List.getElem?_eq_getElem (by rw [hf]; exact hc)⟩
      obtain ⟨u0, hm0, _⟩ := hp 0 (by omega) 0 t0 ht0
      have hsp : a.spot = none := by
        cases hs : a.spot with
        | none => rfl
        | some s =>
          exfalso
          unfold World.cell? Addr.add at hm0
          simp only [hs] at hm0
          split at hm0 <;> simp_all
      obtain ⟨b, o, s⟩ := a
      simp only at hsp
      subst hsp
      refine ⟨b, o, rfl, ?_, VA.of fun i t hi => ?_⟩
      · simp only [Addr.add_mid] at hm0
        exact World.block_lt_of_cell? w ⟨b, _, none⟩ hm0
      · have hil : i < len * c := by
          have := (List.getElem?_eq_some_iff.1 hi).1
          rw [len_flat hf] at this
          simpa using this
        have hq : i / c < len := Nat.div_lt_of_lt_mul (by rw [Nat.mul_comm]; exact hil)
        have hi2 : i = i / c * c + i % c := by rw [Nat.mul_comm]; exact (Nat.div_add_mod i c).symm
        have hr : i % c < c := Nat.mod_lt _ hc
        rw [hi2, get_flat hf d _ _ _ hr (by simpa using hq)] at hi
        have hgd : ((List.range len).map p).getD (i / c) d = p (i / c) := by
          rw [List.getD_eq_getElem?_getD, List.getElem?_map, List.getElem?_range hq]; rfl
        rw [hgd] at hi
        obtain ⟨u, h1, h2, h3⟩ := hp _ hq _ _ hi
        simp only [Addr.add_mid] at h1
        rw [hi2]
        exact ⟨u, by simpa [Nat.add_assoc] using h1, h2, h3⟩
theorem map_flat {α : Type} (g : α → T) (xs : List α) : List.flatMap (fun b => [g b]) xs = xs.map g := by
  induction xs with
  | nil => rfl
  | cons x xs ih => rw [List.flatMap_cons, ih]; rfl
theorem cellR_one {t : T} {u : Value} (h1 : u.oneCell' = true) (h2 : VR w (Old w) t u) : CellR P w [t] [u] := fun j t' hj => by
  match j with
  | 0 => simp only [List.getElem?_cons_zero, Option.some.injEq] at hj; subst hj; exact ⟨u, rfl, h1, h2⟩
  | j + 1 => simp at hj
theorem cellR_two {t t2 : T} {u u2 : Value} {cs : List Value} (g0 : (cs.drop 0).take 1 = [u]) (g1 : (cs.drop 1).take 1 = [u2]) (h1 : u.oneCell' = true) (h2 : VR w (Old w) t u) (k1 : u2.oneCell' = true) (k2 : VR w (Old w) t2 u2) : CellR P w [t, t2] cs := fun j t' hj => by
  match j with
  | 0 =>
    simp only [List.getElem?_cons_zero, Option.some.injEq] at hj; subst hj
    refine ⟨u, ?_, h1, h2⟩
    have := congrArg (·[0]?) g0
    simpa [List.getElem?_take, List.getElem?_drop] using this
  | 1 =>
    simp only [List.getElem?_cons_succ, List.getElem?_cons_zero, Option.some.injEq] at hj; subst hj
    refine ⟨u2, ?_, k1, k2⟩
    have := congrArg (·[0]?) g1
    simpa [List.getElem?_take, List.getElem?_drop] using this
  | j + 2 => simp at hj
theorem rd_bools {t e : TypeId} {fuel : Nat} {cs : List Value} {x : DataW H × List MemPlace} (ht : P.underlying t = some (.slice e)) (he : P.underlying e = some .bool) (ce : P.cellsOf e = 1)
    (h : DataW.trod enc P w 0 sp held fuel t cs = some x) : ∃ (v : Value) (xs : List Bool), cs = [v] ∧ v.oneCell' = true ∧ VR w (Old w) (.list xs.length 1 (xs.map T.bool)) v ∧ xs.length ≤ maxLen := by
  obtain ⟨v, xs, h1, h2, h3, h4⟩ := rd_flat (f := fun b => [T.bool b]) (c := 1) false (by decide) (fun _ => rfl) ht ce (fun n cs y hy => by
    obtain ⟨b, rfl, _⟩ := DataW.trod_bool he hy
    exact ⟨b, cellR_one rfl vr_bool⟩) h
  exact ⟨v, xs, h1, h2, by rw [← map_flat]; exact h3, h4⟩
theorem rd_asked {t e k b : TypeId} {f0 f1 : Field} {fuel : Nat} {cs : List Value} {x : DataW H × List MemPlace} (ht : P.underlying t = some (.slice e)) (he : P.underlying e = some (.struct #[f0, f1])) (hk : P.underlying k = some (.int .i64)) (hb : P.underlying b = some .bool)
    (h0 : f0.type = k ∧ f0.offset = 0) (h1 : f1.type = b ∧ f1.offset = 1) (ce : P.cellsOf e = 2) (ck : P.cellsOf k = 1) (cb : P.cellsOf b = 1)
    (h : DataW.trod enc P w 0 sp held fuel t cs = some x) : ∃ (v : Value) (xs : List (Int × Bool)), cs = [v] ∧ v.oneCell' = true ∧ VR w (Old w) (.list xs.length 2 (List.flatMap askedC xs)) v ∧ xs.length ≤ maxLen :=
  rd_flat (f := askedC) (c := 2) (0, false) (by decide) (fun _ => rfl) ht ce (fun n cs y hy => by
    obtain ⟨hl', n', hf⟩ := rd_struct he hy
    obtain ⟨y0, k0⟩ := hf 0 f0 rfl
    obtain ⟨y1, k1⟩ := hf 1 f1 rfl
    rw [h0.1, h0.2, ck] at k0
    rw [h1.1, h1.2, cb] at k1
    obtain ⟨q0, e0, _⟩ := DataW.trod_int hk k0
    obtain ⟨q1, e1, _⟩ := DataW.trod_bool hb k1
    exact ⟨(q0, q1), cellR_two e0 e1 rfl vr_int rfl vr_bool⟩) h
def recC (x : ByteArray × ByteArray) : List T := [T.str x.1, T.str x.2]
theorem rd_recs {t e k : TypeId} {f0 f1 : Field} {fuel : Nat} {cs : List Value} {x : DataW H × List MemPlace} (ht : P.underlying t = some (.slice e)) (he : P.underlying e = some (.struct #[f0, f1])) (hk : P.underlying k = some .string)
    (h0 : f0.type = k ∧ f0.offset = 0) (h1 : f1.type = k ∧ f1.offset = 1) (ce : P.cellsOf e = 2) (ck : P.cellsOf k = 1)
    (h : DataW.trod enc P w 0 sp held fuel t cs = some x) : ∃ (v : Value) (xs : List (ByteArray × ByteArray)), cs = [v] ∧ v.oneCell' = true ∧ VR w (Old w) (.list xs.length 2 (List.flatMap recC xs)) v ∧ xs.length ≤ maxLen :=
  rd_flat (f := recC) (c := 2) (ByteArray.empty, ByteArray.empty) (by decide) (fun _ => rfl) ht ce (fun n cs y hy => by
    obtain ⟨hl', n', hf⟩ := rd_struct he hy
    obtain ⟨y0, k0⟩ := hf 0 f0 rfl
    obtain ⟨y1, k1⟩ := hf 1 f1 rfl
    rw [h0.1, h0.2, ck] at k0
    rw [h1.1, h1.2, ck] at k1
    obtain ⟨q0, e0, _⟩ := DataW.trod_string hk k0
    obtain ⟨q1, e1, _⟩ := DataW.trod_string hk k1
    exact ⟨(q0, q1), cellR_two e0 e1 rfl vr_str rfl vr_str⟩) h
theorem rd_strs {t e : TypeId} {fuel : Nat} {cs : List Value} {x : DataW H × List MemPlace} (ht : P.underlying t = some (.slice e)) (he : P.underlying e = some .string) (ce : P.cellsOf e = 1)
    (h : DataW.trod enc P w 0 sp held fuel t cs = some x) : ∃ (v : Value) (xs : List ByteArray), cs = [v] ∧ v.oneCell' = true ∧ VR w (Old w) (.list xs.length 1 (xs.map T.str)) v ∧ xs.length ≤ maxLen := by
  obtain ⟨v, xs, h1, h2, h3, h4⟩ := rd_flat (f := fun b => [T.str b]) (c := 1) ByteArray.empty (by decide) (fun _ => rfl) ht ce (fun n cs y hy => by
    obtain ⟨b, rfl, _⟩ := DataW.trod_string he hy
    exact ⟨b, cellR_one rfl vr_str⟩) h
  exact ⟨v, xs, h1, h2, by rw [← map_flat]; exact h3, h4⟩
theorem vl_three {ok : Nat → Prop} {a b c : T} {x y z : Value} (h1 : VR w ok a x) (h2 : VR w ok b y) (h3 : VR w ok c z) : VL w ok [a, b, c] [x, y, z] := by
  simp only [VL]; exact ⟨_, _, rfl, h1, _, _, rfl, h2, _, _, rfl, h3, rfl⟩
theorem vl_four {ok : Nat → Prop} {a b c d : T} {x y z u : Value} (h1 : VR w ok a x) (h2 : VR w ok b y) (h3 : VR w ok c z) (h4 : VR w ok d u) : VL w ok [a, b, c, d] [x, y, z, u] := by
  simp only [VL]; exact ⟨_, _, rfl, h1, _, _, rfl, h2, _, _, rfl, h3, _, _, rfl, h4, rfl⟩
/-- A slice as an argument of its own. -/
theorem open_slice {t e : TypeId} {v : Value} {d : DataW H} {ps : List MemPlace} {r : Reach} {b0 : Nat} (ht : P.underlying t = some (.slice e)) (hv : Value.okWide P w r b0 t v) (h : DataW.Trod enc P w 0 sp held t v d ps) :
    ∃ fuel, DataW.trod enc P w 0 sp held fuel t [v] = some (d, ps) := by
  obtain ⟨fuel, h⟩ := h
  obtain ⟨a, l, c, rfl⟩ := okWide_slice ht hv
  exact ⟨fuel, h⟩
end
end Go.Tl
