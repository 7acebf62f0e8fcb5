/-
  Plain laws of the printed functions: no program here.
-/
import Derived.Test.YtgppmbbbgolkhaaAuCutF
namespace Go.Tl
set_option linter.unusedVariables false
set_option linter.unusedSimpArgs false
/-- A loop, told by what its rounds keep. -/
theorem loop_m {σ R : Type} (L : Nat → σ → Option R) (I : σ → Prop) (μ : σ → Nat) (Q : Option R → Prop)
    (step : ∀ n s, I s → (∃ s', I s' ∧ μ s' < μ s ∧ L (n + 1) s = L n s') ∨ Q (L (n + 1) s)) : ∀ n s, I s → μ s < n → Q (L n s) := by
  intro n
  induction n with
  | zero => intro s _ h; omega
  | succ n ih =>
    intro s hI hm
    rcases step n s hI with ⟨s', h1, h2, h3⟩ | h
    · rw [h3]; exact ih s' h1 (by omega)
    · exact h
/-- A loop that counts up to N; st is its state by the count. -/
theorem loop_up {σ R : Type} (L : Nat → Int → σ → Option R) (N : Int) (st : Int → σ) (r : Option R)
    (step : ∀ n i, 0 ≤ i → i < N → L (n + 1) i (st i) = L n (i + 1) (st (i + 1))) (fin : ∀ n, L (n + 1) N (st N) = r) (h0 : 0 ≤ N) (n : Nat) (hn : N.toNat < n) : L n 0 (st 0) = r := by
  have key : ∀ (k : Nat) (n : Nat) (i : Int), 0 ≤ i → i + k = N → k < n → L n i (st i) = r := by
    intro k
    induction k with
    | zero =>
      intro n i h1 h2 h3; obtain ⟨n, rfl⟩ : ∃ m, n = m + 1 := ⟨n - 1, by omega⟩; have e : i = N := by omega
      subst e; exact fin n
    | succ k ih =>
      intro n i h1 h2 h3
      obtain ⟨n, rfl⟩ : ∃ m, n = m + 1 := ⟨n - 1, by omega⟩
      rw [step n i h1 (by omega)]
      exact ih n (i + 1) (by omega) (by omega) (by omega)
  exact key N.toNat n 0 (Int.le_refl _) (by omega) hn
/-- A loop that counts up to N and may end early: with what p tells. -/
theorem loop_all {R : Type} (L : Nat → Int → Option R) (N : Int) (p : Int → Bool) (no yes : Option R)
    (step : ∀ n i, 0 ≤ i → i < N → p i = true → L (n + 1) i = L n (i + 1)) (stop : ∀ n i, 0 ≤ i → i < N → p i = false → L (n + 1) i = no) (fin : ∀ n, L (n + 1) N = yes) (h0 : 0 ≤ N) (n : Nat) (hn : N.toNat < n) :
    (L n 0 = yes ∧ ∀ i, 0 ≤ i → i < N → p i = true) ∨ (L n 0 = no ∧ ∃ i, 0 ≤ i ∧ i < N ∧ p i = false ∧ ∀ j, 0 ≤ j → j < i → p j = true) := by
  have key : ∀ (k : Nat) (n : Nat) (i : Int), 0 ≤ i → i + k = N → k < n → (∀ j, 0 ≤ j → j < i → p j = true) → (L n i = yes ∧ ∀ i, 0 ≤ i → i < N → p i = true) ∨ (L n i = no ∧ ∃ i, 0 ≤ i ∧ i < N ∧ p i = false ∧ ∀ j, 0 ≤ j → j < i → p j = true) := by
    intro k
    induction k with
    | zero =>
      intro n i h1 h2 h3 h4; obtain ⟨n, rfl⟩ : ∃ m, n = m + 1 := ⟨n - 1, by omega⟩; have e : i = N := by omega
      subst e; exact .inl ⟨fin n, h4⟩
    | succ k ih =>
      intro n i h1 h2 h3 h4
      obtain ⟨n, rfl⟩ : ∃ m, n = m + 1 := ⟨n - 1, by omega⟩
      cases hp : p i with
      | false => exact .inr ⟨stop n i h1 (by omega) hp, i, h1, by omega, hp, h4⟩
      | true =>
        rw [step n i h1 (by omega) hp]
        refine ih n (i + 1) (by omega) (by omega) (by omega) fun j k1 k2 => ?_
        by_cases e : j = i
        · rw [e]; exact hp
        · exact h4 j k1 (by omega)
  exact key N.toNat n 0 (Int.le_refl _) (by omega) hn fun j h1 h2 => by omega
theorem ite_t {α : Type} {c : Bool} (h : c = true) (x y : α) : (bif c then x else y) = x := by rw [h]; rfl
theorem ite_f {α : Type} {c : Bool} (h : c = false) (x y : α) : (bif c then x else y) = y := by rw [h]; rfl
theorem ite_c {α : Type} {P : α → Prop} {c : Bool} {x y : α} (h1 : c = true → P x) (h2 : c = false → P y) : P (bif c then x else y) := by
  cases c
  · exact h2 rfl
  · exact h1 rfl
theorem getD_in {xs : List Int} {i : Nat} {P : Int → Prop} (h : i < xs.length) (hP : ∀ x ∈ xs, P x) : P (xs.getD i 0) := by
  rw [List.getD_eq_getElem?_getD, List.getElem?_eq_getElem h]; exact hP _ (List.getElem_mem h)
theorem maxN_in {a b : Int} : a ≤ maxN a b ∧ b ≤ maxN a b ∧ (maxN a b = a ∨ maxN a b = b) := by unfold maxN; split <;> omega
theorem minN_in {a b : Int} : minN a b ≤ a ∧ minN a b ≤ b ∧ (minN a b = a ∨ minN a b = b) := by unfold minN; split <;> omega
theorem jn_is {γ δ : Type} {f : γ} {g : γ → Option δ} {r : Option δ} (k : γ → Option δ) (h : ∀ J, g J = k J) (h2 : k f = r) : jn f g = r := by
  unfold jn; rw [h f]; exact h2
/-- The numbers below k that p tells. -/
def fl (p : Nat → Bool) (k : Nat) : List Int := ((List.range k).filter p).map fun (i : Nat) => (i : Int)
theorem fl_yes {p : Nat → Bool} {k : Nat} (h : p k = true) : fl p (k + 1) = fl p k ++ [(k : Int)] := by
  unfold fl; rw [List.range_succ, List.filter_append, List.map_append, List.filter_cons, if_pos h]; rfl
theorem fl_no {p : Nat → Bool} {k : Nat} (h : p k = false) : fl p (k + 1) = fl p k := by
  unfold fl; rw [List.range_succ, List.filter_append, List.map_append, List.filter_cons, if_neg (by rw [h]; simp)]; simp
theorem fl_len (p : Nat → Bool) (k : Nat) : (fl p k).length ≤ k := by
  unfold fl; rw [List.length_map]; exact Nat.le_trans (List.length_filter_le _ _) (by simp)
theorem mem_fl {p : Nat → Bool} {k : Nat} {x : Int} : x ∈ fl p k ↔ ∃ i : Nat, i < k ∧ p i = true ∧ x = (i : Int) := by
  unfold fl
  simp only [List.mem_map, List.mem_filter, List.mem_range]
  constructor
  · rintro ⟨i, ⟨h1, h2⟩, rfl⟩; exact ⟨i, h1, h2, rfl⟩
  · rintro ⟨i, h1, h2, rfl⟩; exact ⟨i, ⟨h1, h2⟩, rfl⟩
theorem fl_getD {p : Nat → Bool} {k i : Nat} (h : i < (fl p k).length) : ∃ j : Nat, j < k ∧ p j = true ∧ (fl p k).getD i 0 = (j : Int) := by
  have : (fl p k).getD i 0 ∈ fl p k := getD_in (P := fun x => x ∈ fl p k) h fun x hx => hx
  obtain ⟨j, h1, h2, h3⟩ := mem_fl.1 this
  exact ⟨j, h1, h2, h3⟩
theorem openN_fl (xs : List Int) : openN xs = fl (fun i => decide (xs.getD i 0 ≥ 0)) xs.length := rfl
theorem int_nat {i : Int} (h : 0 ≤ i) : ∃ k : Nat, i = (k : Int) := ⟨i.toNat, by omega⟩
/-- How many nodes. -/
def szB : Br → Nat
  | .nil => 0
  | .nd _ .nil _ => 1
  | .nd _ (.nd a b c) n => 1 + szB (.nd a b c) + szB n
/-- The list of a tree's nodes, from a place on. -/
def enc : Br → Int → List Nd
  | .nil, _ => []
  | .nd _ .nil _, _ => [(-1, -1, -1)]
  | .nd q (.nd a b c) n, o => (q, o + 1, o + 1 + szB (.nd a b c)) :: (enc (.nd a b c) (o + 1) ++ enc n (o + 1 + szB (.nd a b c)))
theorem enc_len : ∀ (b : Br) (o : Int), (enc b o).length = szB b
  | .nil, _ => rfl
  | .nd _ .nil _, _ => rfl
  | .nd q (.nd a b c) n, o => by
    rw [enc, szB, List.length_cons, List.length_append, enc_len _ (o + 1), enc_len n _]; omega
/-- The trees that are read: questions about n numbers, at most d high. -/
inductive WF (n : Int) : Nat → Br → Prop
  | leaf (d : Nat) : WF n (d + 1) (.nd 0 .nil .nil)
  | node {d : Nat} {q : Int} {y z : Br} (hq : isQ n q = true) (hy : WF n d y) (hz : WF n d z) : WF n (d + 1) (.nd q y z)
theorem WF.some {n : Int} {d : Nat} {b : Br} (h : WF n d b) : ∃ q y z, b = .nd q y z := by cases h <;> exact ⟨_, _, _, rfl⟩
theorem WF.pos {n : Int} {d : Nat} {b : Br} (h : WF n d b) : 1 ≤ szB b := by
  obtain ⟨q, y, z, rfl⟩ := h.some
  cases y with
  | nil => exact Nat.le_refl _
  | nd a b c => rw [szB]; omega
theorem WF.node_enc {n : Int} {d : Nat} {y : Br} (h : WF n d y) (q : Int) (z : Br) (o : Int) : enc (.nd q y z) o = (q, o + 1, o + 1 + szB y) :: (enc y (o + 1) ++ enc z (o + 1 + szB y)) ∧ szB (.nd q y z) = 1 + szB y + szB z := by
  obtain ⟨a, b, c, rfl⟩ := h.some
  exact ⟨by rw [enc], by rw [szB]⟩
theorem WF.size {n : Int} : ∀ {d : Nat} {b : Br}, WF n d b → szB b < 2 ^ d
  | _, _, .leaf d => by
    have : 1 ≤ 2 ^ d := Nat.two_pow_pos d
    show 1 < 2 ^ (d + 1)
    rw [Nat.pow_succ]; omega
  | _, _, .node (d := d) hq hy hz => by
    have h1 := hy.size
    have h2 := hz.size
    rw [(hy.node_enc _ _ 0).2, Nat.pow_succ]
    omega
theorem WF.up {n : Int} : ∀ {d : Nat} {b : Br}, WF n d b → WF n (d + 1) b
  | _, _, .leaf d => .leaf (d + 1)
  | _, _, .node hq hy hz => .node hq hy.up hz.up
/-- What is read at a place: the tree, the place behind it, and whether it is one. -/
def readB (n : Int) (t : List Nd) : Nat → Int → Br × Int × Bool
  | 0, _ => (.nil, 0, false)
  | d + 1, a =>
    if (decide (0 ≤ a) && decide (a ≤ (t.length : Int) - 1)) = false then (.nil, 0, false) else
    if leafB (t.getD a.toNat (0, 0, 0)).1 (t.getD a.toNat (0, 0, 0)).2.1 (t.getD a.toNat (0, 0, 0)).2.2 = true then (.nd 0 .nil .nil, a + 1, true) else
    if isQ n (t.getD a.toNat (0, 0, 0)).1 = false ∨ ¬ (t.getD a.toNat (0, 0, 0)).2.1 = a + 1 then (.nil, 0, false) else
    if (readB n t d (a + 1)).2.2 = false ∨ ¬ (t.getD a.toNat (0, 0, 0)).2.2 = (readB n t d (a + 1)).2.1 then (.nil, 0, false) else
    (.nd (t.getD a.toNat (0, 0, 0)).1 (readB n t d (a + 1)).1 (readB n t d (readB n t d (a + 1)).2.1).1, (readB n t d (readB n t d (a + 1)).2.1).2.1, (readB n t d (readB n t d (a + 1)).2.1).2.2)
theorem readB_N (n : Int) (t : List Nd) : ∀ (d : Nat) (a : Int), readN n t d a = (brT (readB n t d a).1, (readB n t d a).2.1, (readB n t d a).2.2)
  | 0, a => rfl
  | d + 1, a => by
    rw [readN, readB]
    by_cases h1 : (decide (0 ≤ a) && decide (a ≤ (t.length : Int) - 1)) = false
    · rw [if_pos h1, if_pos h1]; rfl
    · rw [if_neg h1, if_neg h1]
      dsimp only
      by_cases h2 : leafB (t.getD a.toNat (0, 0, 0)).1 (t.getD a.toNat (0, 0, 0)).2.1 (t.getD a.toNat (0, 0, 0)).2.2 = true
      · rw [if_pos h2, if_pos h2]; rfl
      · rw [if_neg h2, if_neg h2]
        by_cases h3 : isQ n (t.getD a.toNat (0, 0, 0)).1 = false ∨ ¬ (t.getD a.toNat (0, 0, 0)).2.1 = a + 1
        · rw [if_pos h3, if_pos h3]; rfl
        · rw [if_neg h3, if_neg h3, readB_N n t d (a + 1)]
          dsimp only
          by_cases h4 : (readB n t d (a + 1)).2.2 = false ∨ ¬ (t.getD a.toNat (0, 0, 0)).2.2 = (readB n t d (a + 1)).2.1
          · rw [if_pos h4, if_pos h4]; rfl
          · rw [if_neg h4, if_neg h4, readB_N n t d]; rfl
theorem drop_one {t : List Nd} {a : Nat} (h : a < t.length) : t.drop a = t.getD a (0, 0, 0) :: t.drop (a + 1) := by
  rw [List.getD_eq_getElem?_getD, List.getElem?_eq_getElem h]; exact List.drop_eq_getElem_cons h
theorem take_more {t u v : List Nd} {m k : Nat} (h1 : t.take m = u) (h2 : (t.drop m).take k = v) : t.take (m + k) = u ++ v := by
  rw [List.take_add, h1, h2]
/-- What is read lies in the list. -/
theorem readB_in {n : Int} {t : List Nd} : ∀ {d : Nat} {a : Nat}, (readB n t d a).2.2 = true → WF n d (readB n t d a).1 ∧ (readB n t d a).2.1 = (a : Int) + szB (readB n t d a).1 ∧ a + szB (readB n t d a).1 ≤ t.length ∧ (t.drop a).take (szB (readB n t d a).1) = enc (readB n t d a).1 a
  | 0, a, h => by cases h
  | d + 1, a, h => by
    rw [readB] at h ⊢
    by_cases h1 : (decide ((0 : Int) ≤ a) && decide ((a : Int) ≤ (t.length : Int) - 1)) = false
    · rw [if_pos h1] at h; cases h
    · rw [if_neg h1] at h ⊢
      have h1' : a < t.length := by simp at h1; omega
      simp only [Int.toNat_natCast] at h ⊢
      by_cases h2 : leafB (t.getD a (0, 0, 0)).1 (t.getD a (0, 0, 0)).2.1 (t.getD a (0, 0, 0)).2.2 = true
      · rw [if_pos h2]
        refine ⟨.leaf d, rfl, h1', ?_⟩
        have e : t.getD a (0, 0, 0) = (-1, -1, -1) := by
          unfold leafB at h2
          simp only [Bool.and_eq_true, beq_iff_eq, Bool.and_true] at h2
          exact Prod.ext h2.1 (Prod.ext h2.2.1 h2.2.2)
        show (t.drop a).take 1 = [(-1, -1, -1)]
        rw [drop_one h1', e]; rfl
      · rw [if_neg h2] at h ⊢
        by_cases h3 : isQ n (t.getD a (0, 0, 0)).1 = false ∨ ¬ (t.getD a (0, 0, 0)).2.1 = (a : Int) + 1
        · rw [if_pos h3] at h; cases h
        · rw [if_neg h3] at h ⊢
          simp only [not_or, Decidable.not_not, Bool.not_eq_false] at h3
          by_cases h4 : (readB n t d ((a : Int) + 1)).2.2 = false ∨ ¬ (t.getD a (0, 0, 0)).2.2 = (readB n t d ((a : Int) + 1)).2.1
          · rw [if_pos h4] at h; cases h
          · rw [if_neg h4] at h ⊢
            simp only [not_or, Decidable.not_not, Bool.not_eq_false] at h4
            have ea : (a : Int) + 1 = ((a + 1 : Nat) : Int) := by omega
            rw [ea] at h h3 h4 ⊢
            obtain ⟨y1, y2, y3, y4⟩ := readB_in (a := a + 1) h4.1
            rw [y2] at h h4 ⊢
            generalize readB n t d ((a + 1 : Nat) : Int) = Y at *
            have eb : ((a + 1 : Nat) : Int) + (szB Y.1 : Int) = ((a + 1 + szB Y.1 : Nat) : Int) := by omega
            rw [eb] at h h4 ⊢
            obtain ⟨z1, z2, z3, z4⟩ := readB_in (a := a + 1 + szB Y.1) h
            generalize readB n t d ((a + 1 + szB Y.1 : Nat) : Int) = Z at *
            obtain ⟨ne, ns⟩ := y1.node_enc (t.getD a (0, 0, 0)).1 Z.1 (a : Int)
            refine ⟨.node h3.1 y1 z1, ?_, ?_, ?_⟩
            · show Z.2.1 = _
              rw [z2, ns]; omega
            · show a + szB (.nd _ Y.1 Z.1) ≤ _
              rw [ns]; omega
            · show (t.drop a).take (szB (.nd _ Y.1 Z.1)) = enc (.nd _ Y.1 Z.1) a
              have e1 : t.getD a (0, 0, 0) = ((t.getD a (0, 0, 0)).1, (a : Int) + 1, (a : Int) + 1 + szB Y.1) := Prod.ext rfl (Prod.ext (show _ = (a : Int) + 1 by omega) (show _ = (a : Int) + 1 + szB Y.1 by omega))
              rw [ns, ne, drop_one h1', show 1 + szB Y.1 + szB Z.1 = (szB Y.1 + szB Z.1) + 1 by omega, List.take_succ_cons, ← e1]
              congr 1
              refine take_more ?_ ?_
              · rw [y4, ea]
              · rw [List.drop_drop, z4]
                congr 1 <;> omega
/-- And what lies in the list is read. -/
theorem readB_of {n : Int} {t : List Nd} : ∀ {d : Nat} {b : Br} {a : Nat}, WF n d b → (t.drop a).take (szB b) = enc b a → readB n t d a = (b, (a : Int) + szB b, true)
  | _, _, a, .leaf d, h => by
    have h : (t.drop a).take 1 = [(-1, -1, -1)] := h
    have h1 : a < t.length := by
      rcases Nat.lt_or_ge a t.length with h1 | h1
      · exact h1
      · rw [List.drop_of_length_le h1] at h; cases h
    rw [drop_one h1] at h
    have e : t.getD a (0, 0, 0) = (-1, -1, -1) := by simpa using h
    rw [readB, if_neg (by simp; omega), Int.toNat_natCast, e, if_pos (by decide)]
    rfl
  | _, _, a, .node (d := d) (q := q) (y := y) (z := z) hq hy hz, h => by
    obtain ⟨ne, ns⟩ := hy.node_enc q z (a : Int)
    rw [ns, ne] at h
    have h1 : a < t.length := by
      rcases Nat.lt_or_ge a t.length with h1 | h1
      · exact h1
      · rw [List.drop_of_length_le h1] at h; simp at h
    rw [drop_one h1, show 1 + szB y + szB z = (szB y + szB z) + 1 by omega, List.take_succ_cons] at h
    have e : t.getD a (0, 0, 0) = (q, (a : Int) + 1, (a : Int) + 1 + szB y) := List.cons.inj h |>.1
    have h2 := List.cons.inj h |>.2
    have ea : (a : Int) + 1 = ((a + 1 : Nat) : Int) := by omega
    have eb : (a : Int) + 1 + (szB y : Int) = ((a + 1 + szB y : Nat) : Int) := by omega
    have hl : (enc y ((a : Int) + 1)).length = szB y := enc_len _ _
    have hy2 : (t.drop (a + 1)).take (szB y) = enc y ((a + 1 : Nat) : Int) := by
      have := congrArg (List.take (szB y)) h2
      rw [List.take_take, Nat.min_eq_left (by omega), List.take_left' hl] at this
      rw [this, ea]
    have hz2 : (t.drop (a + 1 + szB y)).take (szB z) = enc z ((a + 1 + szB y : Nat) : Int) := by
      have := congrArg (List.drop (szB y)) h2
      rw [List.drop_take, List.drop_drop, List.drop_left' hl, show szB y + szB z - szB y = szB z by omega] at this
      rw [this, eb]
    have ry := readB_of hy hy2
    have rz := readB_of hz hz2
    have hqb : isQ n q = true := hq
    have hnl : leafB q ((a : Int) + 1) ((a : Int) + 1 + szB y) = false := by
      unfold leafB
      have : ((a : Int) + 1 == -1) = false := by rw [beq_eq_false_iff_ne]; omega
      rw [this]; simp
    have ec : ((a + 1 : Nat) : Int) + (szB y : Int) = ((a + 1 + szB y : Nat) : Int) := by omega
    rw [readB, if_neg (by simp; omega), Int.toNat_natCast, e]
    dsimp only
    rw [if_neg (by rw [hnl]; decide), if_neg (by rw [hqb]; simp), ea, ry]
    dsimp only
    rw [if_neg (by simp), ec, rz, ns]
    refine Prod.ext rfl (Prod.ext ?_ rfl)
    show ((a + 1 + szB y : Nat) : Int) + (szB z : Int) = (a : Int) + ((1 + szB y + szB z : Nat) : Int)
    omega
theorem brM_nd {δ : Type} (y z : Br) (q : Int) (r : Int) (ok : Bool) (k : Br × Int × Bool → Option δ) : (brM y (brM z (k (.nd q .nil .nil, r, ok)) fun a b c => k (.nd q .nil (.nd a b c), r, ok)) fun a b c => brM z (k (.nd q (.nd a b c) .nil, r, ok)) fun a' b' c' => k (.nd q (.nd a b c) (.nd a' b' c'), r, ok)) = k (.nd q y z, r, ok) := by
  cases y <;> cases z <;> rfl
theorem readB_lt {n : Int} {t : List Nd} : ∀ (d : Nat) (a : Int), 0 ≤ (readB n t d a).2.1 ∧ (readB n t d a).2.1 ≤ (t.length : Int)
  | 0, a => ⟨Int.le_refl _, Int.natCast_nonneg _⟩
  | d + 1, a => by
    rw [readB]
    by_cases h1 : (decide (0 ≤ a) && decide (a ≤ (t.length : Int) - 1)) = false
    · rw [if_pos h1]; exact ⟨Int.le_refl _, Int.natCast_nonneg _⟩
    · rw [if_neg h1]
      have h1' : 0 ≤ a ∧ a ≤ (t.length : Int) - 1 := by simpa using h1
      split
      · exact ⟨show 0 ≤ a + 1 by omega, show a + 1 ≤ _ by omega⟩
      · split
        · exact ⟨Int.le_refl _, Int.natCast_nonneg _⟩
        · split
          · exact ⟨Int.le_refl _, Int.natCast_nonneg _⟩
          · exact readB_lt d _
theorem iRead_eq (n : Int) (t : List Nd) (ht : t.length ≤ 1048576) : ∀ (d g : Nat) (a : Int), d ≤ 7 → d < g → -1 ≤ a → a ≤ 2097152 → F_impl_Tree_read g t n a (7 - (d : Int)) = some (readB n t d a) := by
  intro d
  induction d with
  | zero =>
    intro g a h1 h2 h3 h4
    obtain ⟨g, rfl⟩ : ∃ x, g = x + 1 := ⟨g - 1, by omega⟩
    rw [F_impl_Tree_read]
    unfold F_impl_Tree_read_B
    simp only [jn, nam]
    rw [chk_pos (by unfold I64; omega)]
    rw [show decide ((7 : Int) - ((0 : Nat) : Int) > 6) = true from rfl]
    cases decide ((0 : Int) ≤ a) && decide (a ≤ (t.length : Int) - 1) <;> rfl
  | succ d ih =>
    intro g a h1 h2 h3 h4
    obtain ⟨g, rfl⟩ : ∃ x, g = x + 1 := ⟨g - 1, by omega⟩
    rw [F_impl_Tree_read, readB]
    unfold F_impl_Tree_read_B
    simp only [jn, nam]
    rw [chk_pos (by unfold I64; omega), show decide ((7 : Int) - ((d + 1 : Nat) : Int) > 6) = false from decide_eq_false (by omega)]
    rcases Bool.eq_false_or_eq_true (decide (0 ≤ a) && decide (a ≤ (t.length : Int) - 1)) with hA | hA
    · have hA' : 0 ≤ a ∧ a ≤ (t.length : Int) - 1 := by simpa using hA
      rw [if_neg (by rw [hA]; decide), ite_f (by rw [hA]; rfl), ite_f rfl, chk_pos ⟨hA'.1, by omega⟩]
      generalize t.getD a.toNat (0, 0, 0) = x
      rcases Bool.eq_false_or_eq_true (leafB x.1 x.2.1 x.2.2) with hL | hL
      · rw [ite_t hL, if_pos hL, chk_pos (by unfold I64; omega)]
      · rw [ite_f hL, if_neg (by rw [hL]; decide)]
        rcases Bool.eq_false_or_eq_true (isQ n x.1) with hQ | hQ
        · rw [ite_f (by rw [hQ]; rfl), chk_pos (by unfold I64; omega)]
          by_cases hy : x.2.1 = a + 1
          · rw [ite_f (by rw [hy]; exact bne_self_eq_false _), if_neg (by simp [hQ, hy]), chk_pos (by unfold I64; omega), show (7 : Int) - ((d + 1 : Nat) : Int) + 1 = 7 - (d : Int) by omega, chk_pos (by unfold I64; omega)]
            rw [bnd3_eq (ih g (a + 1) (by omega) (by omega) (by omega) (by omega))]
            have hb := readB_lt (n := n) (t := t) d (a + 1)
            generalize readB n t d (a + 1) = Y at hb ⊢
            rcases Bool.eq_false_or_eq_true Y.2.2 with hk | hk
            · rw [ite_f (by rw [hk]; rfl)]
              by_cases hz : x.2.2 = Y.2.1
              · rw [ite_f (by rw [hz]; exact bne_self_eq_false _), if_neg (by simp [hk, hz]), bnd3_eq (ih g Y.2.1 (by omega) (by omega) (by omega) (by omega))]
                generalize readB n t d Y.2.1 = Z
                exact brM_nd Y.1 Z.1 x.1 Z.2.1 Z.2.2 some
              · rw [ite_t (by simpa using hz), if_pos (.inr hz)]
            · rw [ite_t (by rw [hk]; rfl), ite_t rfl, if_pos (.inl hk)]
          · rw [ite_t (by simpa using hy), if_pos (.inr hy)]
        · rw [ite_t (by rw [hQ]; rfl), ite_t rfl, if_pos (.inl hQ)]
    · rw [if_pos hA, ite_t (by rw [hA]; rfl), ite_t rfl]
def rootV (n : Int) (t : List Nd) : Br :=
  if (decide (1 ≤ n) && decide (n ≤ 12)) = false ∨ (decide (1 ≤ (t.length : Int)) && decide ((t.length : Int) ≤ 127)) = false then .nil else (readB n t 7 0).1
theorem iRoot_eq (n : Int) (t : List Nd) (ht : t.length ≤ 1048576) : F_impl_root n t = some (rootV n t, (rootN n t).2) := by
  unfold F_impl_root rootV rootN
  simp only [jn]
  rcases Bool.eq_false_or_eq_true (decide (1 ≤ n) && decide (n ≤ 12)) with h1 | h1
  · rw [ite_f (by rw [h1]; rfl)]
    rcases Bool.eq_false_or_eq_true (decide (1 ≤ (t.length : Int)) && decide ((t.length : Int) ≤ 127)) with h2 | h2
    · rw [ite_f (by rw [h2]; rfl), if_neg (by simp only [h1, h2]; decide), if_neg (by simp only [h1, h2]; decide)]
      have e := iRead_eq n t ht 7 fuel 0 (by omega) (by have := fuel_ge; omega) (by omega) (by omega)
      have e7 : (7 : Int) - ((7 : Nat) : Int) = 0 := rfl
      rw [e7] at e
      rw [readB_N]
      dsimp only
      obtain ⟨Y, hY⟩ : ∃ Y, Y = readB n t 7 0 := ⟨_, rfl⟩
      rw [← hY] at e ⊢
      clear hY
      rw [bnd3_eq (a := Y.1) (b := Y.2.1) (c := Y.2.2) e]
      obtain ⟨y1, y2, y3⟩ := Y
      cases y3 <;> rfl
    · rw [ite_t (by rw [h2]; rfl), if_pos (.inr h2), if_pos (.inr h2)]
  · rw [ite_t (by rw [h1]; rfl), ite_t rfl, if_pos (.inl h1), if_pos (.inl h1)]
/-- A tree is the list of its branch's nodes. -/
theorem root_enc {n : Int} {t : List Nd} (h : (rootN n t).2 = true) : WF n 7 (rootV n t) ∧ t = enc (rootV n t) 0 ∧ t.length = szB (rootV n t) ∧ t.length ≤ 127 ∧ 1 ≤ n ∧ n ≤ 12 ∧ (readB n t 7 0).2.2 = true ∧ rootV n t = (readB n t 7 0).1 ∧ (readB n t 7 0).2.1 = (t.length : Int) := by
  have h0 := h
  unfold rootN at h
  unfold rootV
  by_cases hc : (decide (1 ≤ n) && decide (n ≤ 12)) = false ∨ (decide (1 ≤ (t.length : Int)) && decide ((t.length : Int) ≤ 127)) = false
  · rw [if_pos hc] at h; cases h
  · rw [if_neg hc] at h
    rw [if_neg hc]
    rw [readB_N] at h
    simp only [Bool.and_eq_true, beq_iff_eq] at h
    have hc' : (1 ≤ n ∧ n ≤ 12) ∧ 1 ≤ (t.length : Int) ∧ (t.length : Int) ≤ 127 := by simpa using hc
    have h1 : (readB n t 7 ((0 : Nat) : Int)).2.2 = true := h.1
    obtain ⟨k1, k2, k3, k4⟩ := readB_in h1
    have k2' : (readB n t 7 0).2.1 = ((0 : Nat) : Int) + (szB (readB n t 7 0).1 : Int) := k2
    have k4' : (t.drop 0).take (szB (readB n t 7 0).1) = enc (readB n t 7 0).1 0 := k4
    have hl : t.length = szB (readB n t 7 0).1 := by omega
    refine ⟨k1, ?_, hl, by omega, hc'.1.1, hc'.1.2, h.1, rfl, h.2⟩
    rw [List.drop_zero, ← hl, List.take_length] at k4'
    exact k4'
theorem nd_of_WF {n : Int} {d : Nat} {b : Br} (h : WF n d b) : (∃ e, d = e + 1 ∧ b = .nd 0 .nil .nil) ∨ ∃ e q y z, d = e + 1 ∧ b = .nd q y z ∧ isQ n q = true ∧ WF n e y ∧ WF n e z := by
  cases h with
  | leaf d => exact .inl ⟨d, rfl, rfl⟩
  | node hq hy hz => exact .inr ⟨_, _, _, _, rfl, rfl, hq, hy, hz⟩
theorem set_snoc {α : Type} (xs ys : List α) (l v : α) : List.set ((xs ++ [l]) ++ ys) xs.length v = (xs ++ [v]) ++ ys := by
  rw [List.append_assoc, List.append_assoc, List.set_append_right _ _ (Nat.le_refl _), Nat.sub_self]; rfl
theorem iTree1_eq {n : Int} : ∀ (d g : Nat) (b : Br) (xs : List Nd), WF n d b → d < g → xs.length + szB b ≤ 2097152 → F_p_impl_branch_tree_1 g b xs = some (xs ++ enc b xs.length) := by
  intro d
  induction d with
  | zero => intro g b xs h; cases h
  | succ d ih =>
    intro g b xs h hg hl
    obtain ⟨g, rfl⟩ : ∃ x, g = x + 1 := ⟨g - 1, by omega⟩
    have hp := h.pos
    rw [F_p_impl_branch_tree_1]
    unfold F_p_impl_branch_tree_1_B
    rw [chk_pos ⟨by omega, by simp only [maxLen]; omega⟩]
    rcases nd_of_WF h with ⟨e, he, rfl⟩ | ⟨e, q, y, z, he, rfl, hq, hy, hz⟩
    · rfl
    · obtain rfl : d = e := by omega
      obtain ⟨a, b, c, hyy⟩ := hy.some
      obtain ⟨ne, ns⟩ := hy.node_enc q z (xs.length : Int)
      rw [ns] at hl
      have e0 : (xs ++ [((-1 : Int), (-1 : Int), (-1 : Int))]).length = xs.length + 1 := by simp
      have e1 := ih g y (xs ++ [(-1, -1, -1)]) hy (by omega) (by rw [e0]; omega)
      have el : (xs ++ [((-1 : Int), (-1 : Int), (-1 : Int))] ++ enc y (xs ++ [((-1 : Int), (-1 : Int), (-1 : Int))]).length).length = xs.length + 1 + szB y := by rw [List.length_append, enc_len, e0]
      have e2 := ih g z (xs ++ [(-1, -1, -1)] ++ enc y (xs ++ [((-1 : Int), (-1 : Int), (-1 : Int))]).length) hz (by omega) (by rw [el]; omega)
      subst hyy
      simp only [jn, brM]
      rw [ite_f rfl, bnd1_eq e1, bnd1_eq e2, chk_pos (by unfold I64; omega)]
      simp only [nam]
      have el2 : (xs ++ [((-1 : Int), (-1 : Int), (-1 : Int))] ++ enc (.nd a b c) (xs ++ [((-1 : Int), (-1 : Int), (-1 : Int))]).length ++ enc z (xs ++ [((-1 : Int), (-1 : Int), (-1 : Int))] ++ enc (.nd a b c) (xs ++ [((-1 : Int), (-1 : Int), (-1 : Int))]).length).length).length = xs.length + 1 + szB (.nd a b c) + szB z := by rw [List.length_append, el, enc_len]
      rw [chk_pos ⟨by omega, by rw [el2]; omega⟩, el, e0, Int.toNat_natCast, List.append_assoc, set_snoc, ne]
      congr 1
      rw [List.append_assoc, List.singleton_append]
      congr 2 <;> (try congr 2) <;> omega
theorem iTree_eq {n : Int} {d : Nat} {b : Br} (h : WF n d b) (hd : d ≤ 1000) (hs : szB b ≤ 2097152) : F_p_impl_branch_tree b = some (enc b 0) := by
  unfold F_p_impl_branch_tree
  rw [bnd1_eq (iTree1_eq d fuel b [] h (by have := fuel_ge; omega) (by simpa using hs))]
  rfl
/-- Nodes whose places are so many greater. -/
def movN (k : Int) (x : Nd) : Nd := if 0 ≤ x.2.1 then (x.1, x.2.1 + k, x.2.2 + k) else x
theorem enc_mov (k : Int) : ∀ (b : Br) (o : Int), 0 ≤ o → (enc b o).map (movN k) = enc b (o + k)
  | .nil, o, h => rfl
  | .nd q .nil z, o, h => rfl
  | .nd q (.nd a b c) z, o, h => by
    rw [enc, enc, List.map_cons, List.map_append, enc_mov k _ _ (by omega), enc_mov k z _ (by omega)]
    have hm : movN k (q, o + 1, o + 1 + (szB (.nd a b c) : Int)) = (q, o + 1 + k, o + 1 + (szB (.nd a b c) : Int) + k) := if_pos (show (0 : Int) ≤ o + 1 by omega)
    rw [hm, show o + 1 + k = o + k + 1 by omega, show o + 1 + (szB (.nd a b c) : Int) + k = o + k + 1 + szB (.nd a b c) by omega]
theorem enc_in : ∀ (b : Br) (o : Int), 0 ≤ o → ∀ x ∈ enc b o, -1 ≤ x.2.1 ∧ -1 ≤ x.2.2 ∧ x.2.1 ≤ o + szB b ∧ x.2.2 ≤ o + szB b
  | .nil, o, h, x, hx => by cases hx
  | .nd q .nil z, o, h, x, hx => by
    simp only [enc, List.mem_cons, List.not_mem_nil, or_false] at hx
    subst hx
    simp only [szB]; omega
  | .nd q (.nd a b c) z, o, h, x, hx => by
    rw [enc] at hx
    rw [szB]
    rcases List.mem_cons.1 hx with rfl | hx
    · simp only; omega
    · rcases List.mem_append.1 hx with hx | hx
      · have := enc_in _ _ (by omega) x hx; omega
      · have := enc_in z _ (by omega) x hx; omega
theorem sMoved_eq (xs : List Nd) (k : Int) (hl : xs.length ≤ 2097152) (hx : ∀ x ∈ xs, 0 ≤ x.2.1 → I64 (x.2.1 + k) ∧ I64 (x.2.2 + k)) : F_spec_l9Moved xs k = some (xs.map (movN k)) := by
  unfold F_spec_l9Moved
  simp only [jn]
  refine loop_up (fun m i s => F_spec_l9Moved_L1 xs k (fun o8 => some o8) m s i) (xs.length : Int) (fun i => (xs.take i.toNat).map (movN k)) _ ?_ ?_ (by omega) fuel (by have := fuel_ge; omega)
  · intro m i i0 i1
    try simp only
    have hi : i.toNat < xs.length := by omega
    have ei : (i + 1).toNat = i.toNat + 1 := by omega
    have hg : xs.getD i.toNat (0, 0, 0) = xs[i.toNat] := by rw [List.getD_eq_getElem?_getD, List.getElem?_eq_getElem hi]; rfl
    have hm := hx xs[i.toNat] (List.getElem_mem hi)
    rw [F_spec_l9Moved_L1, ite_t (decide_eq_true i1), chk_pos ⟨i0, i1⟩, hg, ei, List.take_succ_eq_append_getElem hi, List.map_append]
    simp only [jn, nam]
    generalize xs[i.toNat] = x at hm ⊢
    have hl2 : ((xs.take i.toNat).map (movN k)).length ≤ xs.length := by rw [List.length_map, List.length_take]; exact Nat.min_le_right _ _
    by_cases h0 : (0 : Int) ≤ x.2.1
    · rw [ite_t (decide_eq_true h0), chk_pos (hm h0).1, chk_pos (hm h0).2, chk_pos ⟨by omega, by simp only [maxLen]; omega⟩, chk_pos (by unfold I64; omega)]
      rw [List.map_cons, List.map_nil, movN, if_pos h0]
    · rw [ite_f (decide_eq_false h0), chk_pos ⟨by omega, by simp only [maxLen]; omega⟩, chk_pos (by unfold I64; omega)]
      rw [List.map_cons, List.map_nil, movN, if_neg h0]
  · intro m
    try simp only
    rw [F_spec_l9Moved_L1, ite_f (decide_eq_false (by omega)), Int.toNat_natCast, List.take_length]
theorem sMoved_enc (b : Br) (o k : Int) (ho : 0 ≤ o) (h1 : szB b ≤ 2097152) (h2 : o ≤ 2097152) (h3 : -2097152 ≤ k) (h4 : k ≤ 2097152) : F_spec_l9Moved (enc b o) k = some (enc b (o + k)) := by
  rw [sMoved_eq _ _ (by rw [enc_len]; exact h1) fun x hx h0 => by have := enc_in b o ho x hx; unfold I64; omega, enc_mov k b o ho]
/-- A node ahead of two parts. -/
theorem sJoin_eq {y z : Br} (q : Int) (hy : ∃ a b c, y = .nd a b c) (hs : szB y + szB z ≤ 1048576) : F_spec_l9Join q (enc y 0) (enc z 0) = some (enc (.nd q y z) 0) := by
  unfold F_spec_l9Join
  obtain ⟨a, b, c, rfl⟩ := hy
  simp only [nam]
  rw [enc_len, chk_pos (by unfold I64; omega), bnd1_eq (sMoved_enc _ 0 1 (by omega) (by omega) (by omega) (by omega) (by omega)), enc_len, chk_pos ⟨by omega, by simp only [maxLen]; omega⟩,
    bnd1_eq (sMoved_enc z 0 _ (by omega) (by omega) (by omega) (by omega) (by omega)), enc_len, chk_pos ⟨by omega, by simp only [maxLen]; omega⟩]
  rw [enc]
  simp only [List.cons_append, List.nil_append]
  rw [show (0 : Int) + 1 = 1 by rfl, show (0 : Int) + (1 + ((szB (.nd a b c) : Nat) : Int)) = 1 + ((szB (.nd a b c) : Nat) : Int) by omega]
/-- A part, told from 0 on. -/
theorem sSub_eq {n : Int} {t : List Nd} {d : Nat} {s : Br} {a : Nat} (h : WF n d s) (hd : d ≤ 7) (ht : t.length ≤ 1048576) (ha : a + szB s ≤ t.length) (he : (t.drop a).take (szB s) = enc s a) : F_spec_l9Sub n t (a : Int) = some (enc s 0) := by
  have h7 : WF n 7 s := by
    have : ∀ k : Nat, WF n (d + k) s := fun k => by
      induction k with
      | zero => exact h
      | succ k ih => exact ih.up
    have := this (7 - d)
    rwa [show d + (7 - d) = 7 by omega] at this
  have hr := readB_of h7 he
  have hp := h.pos
  unfold F_spec_l9Sub
  rw [chk_pos (by omega), chk_pos (by omega), readB_N, hr]
  dsimp only
  have e1 : (((a : Int) + (szB s : Int)).toNat - (a : Int).toNat) = szB s := by omega
  rw [chk_pos ⟨by omega, by omega, by omega⟩, e1, Int.toNat_natCast, he, enc_len, chk_pos ⟨by omega, by simp only [maxLen]; omega⟩, chk_pos (by unfold I64; omega),
    bnd1_eq (sMoved_enc s a (0 - (a : Int)) (by omega) (by omega) (by omega) (by omega) (by omega)), show (a : Int) + (0 - (a : Int)) = 0 by omega]
theorem szN_not {n : Nat} (h : n ≤ 1048576) : decide (szN (1048576 : Int) n < 0) = false := by
  unfold szN
  rw [if_neg (by omega)]
  exact decide_eq_false (by omega)
theorem szN_pos {n : Nat} (h : ¬ n ≤ 1048576) : decide (szN (1048576 : Int) n < 0) = true := by
  unfold szN
  rw [if_pos (by omega)]
  decide
/-- The branch at the end of a way. -/
def belB : Br → List (Int × Bool) → Option Br
  | b, [] => some b
  | .nil, _ :: _ => none
  | .nd _ y z, a :: w => belB (if a.2 = true then y else z) w
theorem iBelow_eq : ∀ (b s : Br) (w : List (Int × Bool)), w.length ≤ 1000 → belB b w = some s → F_p_impl_branch_below b w = some s := by
  intro b s w hl h
  unfold F_p_impl_branch_below
  simp only [jn]
  have key : ∀ (k g : Nat) (i : Nat) (c : Br), i + k = w.length → k < g → belB c (w.drop i) = some s → F_p_impl_branch_below_L1 w (fun v0 => some v0) g (i : Int) c = some s := by
    intro k
    induction k with
    | zero =>
      intro g i c h1 h2 h3
      obtain ⟨g, rfl⟩ : ∃ x, g = x + 1 := ⟨g - 1, by omega⟩
      rw [List.drop_of_length_le (by omega)] at h3
      rw [F_p_impl_branch_below_L1, ite_f (decide_eq_false (by omega))]
      cases c <;> exact h3
    | succ k ih =>
      intro g i c h1 h2 h3
      obtain ⟨g, rfl⟩ : ∃ x, g = x + 1 := ⟨g - 1, by omega⟩
      have hi : i < w.length := by omega
      rw [List.drop_eq_getElem_cons hi] at h3
      rw [F_p_impl_branch_below_L1, ite_t (decide_eq_true (by omega)), chk_pos ⟨by omega, by omega⟩]
      cases c with
      | nil => cases h3
      | nd q y z =>
        have hg : w.getD ((i : Int).toNat) (0, false) = w[i] := by rw [Int.toNat_natCast, List.getD_eq_getElem?_getD, List.getElem?_eq_getElem hi]; rfl
        rw [belB] at h3
        simp only [brM]
        rw [hg]
        have ei : (i : Int) + 1 = ((i + 1 : Nat) : Int) := by omega
        rcases Bool.eq_false_or_eq_true w[i].2 with hb | hb
        · rw [if_pos hb] at h3
          rw [ite_t hb, chk_pos (by unfold I64; omega), ei, ih g (i + 1) y (by omega) (by omega) h3]
        · rw [if_neg (by rw [hb]; decide)] at h3
          rw [ite_f hb, chk_pos (by unfold I64; omega), ei, ih g (i + 1) z (by omega) (by omega) h3]
  have := key w.length fuel 0 b (by omega) (by have := fuel_ge; omega) (by rw [List.drop_zero]; exact h)
  exact this
/-- The way to a node leads to the branch that begins there. -/
theorem way_bel {n : Int} {t : List Nd} {node : Nat} : ∀ {d : Nat} {b : Br} {a : Nat}, WF n d b → (t.drop a).take (szB b) = enc b a → a ≤ node → node < a + szB b → ∃ e s, e ≤ d ∧ WF n e s ∧ belB b (wayN t (node : Int) d (a : Int)) = some s ∧ (t.drop node).take (szB s) = enc s node ∧ node + szB s ≤ a + szB b ∧ (wayN t (node : Int) d (a : Int)).length ≤ d
  | d, b, a, h, he, h1, h2 => by
    have h0 : a < t.length := by
      rcases Nat.lt_or_ge a t.length with h' | h'
      · exact h'
      · rw [List.drop_of_length_le h', List.take_nil] at he
        have := congrArg List.length he
        rw [enc_len] at this
        have := h.pos
        simp at *; omega
    rcases nd_of_WF h with ⟨e, rfl, rfl⟩ | ⟨e, q, y, z, rfl, rfl, hq, hy, hz⟩
    · have hn : node = a := by simp only [szB] at h2; omega
      subst hn
      rw [way_suc, if_pos rfl]
      exact ⟨e + 1, _, Nat.le_refl _, h, rfl, he, Nat.le_refl _, Nat.zero_le _⟩
    · rw [way_suc]
      by_cases hn : (a : Int) = (node : Int)
      · rw [if_pos hn]
        have hn : a = node := by omega
        subst hn
        exact ⟨e + 1, _, Nat.le_refl _, h, rfl, he, Nat.le_refl _, Nat.zero_le _⟩
      · rw [if_neg hn]
        obtain ⟨ne, ns⟩ := hy.node_enc q z (a : Int)
        have hl : (enc y ((a : Int) + 1)).length = szB y := enc_len _ _
        rw [ns, ne, drop_one h0, show 1 + szB y + szB z = (szB y + szB z) + 1 by omega, List.take_succ_cons] at he
        have hx : t.getD a (0, 0, 0) = (q, (a : Int) + 1, (a : Int) + 1 + szB y) := List.cons.inj he |>.1
        have hr := List.cons.inj he |>.2
        have ea : (a : Int) + 1 = ((a + 1 : Nat) : Int) := by omega
        have eb : (a : Int) + 1 + (szB y : Int) = ((a + 1 + szB y : Nat) : Int) := by omega
        have hy2 : (t.drop (a + 1)).take (szB y) = enc y ((a + 1 : Nat) : Int) := by
          have := congrArg (List.take (szB y)) hr
          rw [List.take_take, Nat.min_eq_left (by omega), List.take_left' hl] at this
          rw [this, ea]
        have hz2 : (t.drop (a + 1 + szB y)).take (szB z) = enc z ((a + 1 + szB y : Nat) : Int) := by
          have := congrArg (List.drop (szB y)) hr
          rw [List.drop_take, List.drop_drop, List.drop_left' hl, show szB y + szB z - szB y = szB z by omega] at this
          rw [this, eb]
        have hxx : ndOf t (a : Int) = (q, (a : Int) + 1, (a : Int) + 1 + szB y) := by unfold ndOf; rw [Int.toNat_natCast]; exact hx
        rw [hxx]
        dsimp only
        rw [ns] at h2 ⊢
        by_cases hb : (node : Int) < (a : Int) + 1 + szB y
        · rw [if_pos hb, decide_eq_true hb, belB, if_pos rfl, ea]
          obtain ⟨f, s, k1, k2, k3, k4, k5, k6⟩ := way_bel (node := node) hy hy2 (by omega) (by omega)
          exact ⟨f, s, by omega, k2, k3, k4, by omega, by rw [List.length_cons]; omega⟩
        · rw [if_neg hb, decide_eq_false hb, belB, if_neg (show ¬ ((false : Bool) = true) by decide), eb]
          obtain ⟨f, s, k1, k2, k3, k4, k5, k6⟩ := way_bel (node := node) hz hz2 (by omega) (by omega)
          exact ⟨f, s, by omega, k2, k3, k4, by omega, by rw [List.length_cons]; omega⟩
theorem root_way {n : Int} {t : List Nd} {node : Int} (h : ndB n t node = true) : ∃ e s a, node = ((a : Nat) : Int) ∧ e ≤ 7 ∧ WF n e s ∧ belB (rootV n t) (wayN t node 7 0) = some s ∧ (t.drop a).take (szB s) = enc s a ∧ a + szB s ≤ t.length ∧ (wayN t node 7 0).length ≤ 7 := by
  obtain ⟨h1, h2, h3⟩ := ndB_ok h
  obtain ⟨k1, k2, k3, k4, _⟩ := root_enc h1
  obtain ⟨a, rfl⟩ : ∃ a : Nat, node = a := ⟨node.toNat, by omega⟩
  obtain ⟨e, s, q1, q2, q3, q4, q5, q6⟩ := way_bel (n := n) (t := t) (node := a) (a := 0) k1 (by rw [List.drop_zero, ← k3, List.take_length]; exact k2) (by omega) (by omega)
  exact ⟨e, s, a, rfl, q1, q2, q3, q4, by omega, q6⟩
theorem cutA_out {c : Nat} : ∀ {x : ABr}, c ∉ blocksA x → cutA c x = x
  | .nil, _ => rfl
  | .nd b q y n, h => by
    simp only [blocksA, List.mem_cons, List.mem_append, not_or] at h
    unfold cutA
    rw [if_neg (fun e => h.1 e.symm), cutA_out h.2.1, cutA_out h.2.2]
theorem belowA {w : List (Int × Bool)} : ∀ (n : Nat) (i : Int) (a : ABr) (r : Br), F_p_impl_branch_below_L1 w some n i (eraseA a) = some r → ∃ a', FA_p_impl_branch_below_L1 w some n i a = some a' ∧ eraseA a' = r
  | 0, i, a, r, h => by rw [F_p_impl_branch_below_L1] at h; cases h
  | n + 1, i, a, r, h => by
    rw [F_p_impl_branch_below_L1] at h
    rw [FA_p_impl_branch_below_L1]
    by_cases hi : i < ((w.length : Nat) : Int)
    · rw [ite_t (decide_eq_true hi)] at h ⊢
      obtain ⟨c0, h⟩ := chk_some h
      rw [chk_pos c0]
      cases a with
      | nil => cases h
      | nd b q y z =>
        simp only [eraseA, brM] at h
        simp only [brAM]
        cases hb : (w.getD i.toNat (0, false)).2 with
        | true =>
          rw [hb, ite_t rfl] at h
          obtain ⟨c1, h⟩ := chk_some h
          rw [ite_t rfl, chk_pos c1]
          exact belowA n _ y r h
        | false =>
          rw [hb, ite_f rfl] at h
          obtain ⟨c1, h⟩ := chk_some h
          rw [ite_f rfl, chk_pos c1]
          exact belowA n _ z r h
    · rw [ite_f (decide_eq_false hi)] at h ⊢
      cases h
      exact ⟨a, rfl, rfl⟩
/-- The branch at a way's end made a leaf: by its block, and by the way. -/
theorem cut_way {w : List (Int × Bool)} : ∀ (n : Nat) (i : Int) (a : ABr) (c : Nat) (q : Int) (y z : ABr), 0 ≤ i → FA_p_impl_branch_below_L1 w some n i a = some (.nd c q y z) → (blocksA a).Nodup → eraseA (cutA c a) = cutW (eraseA a) (w.drop i.toNat) ∧ c ∈ blocksA a
  | 0, i, a, c, q, y, z, _, h, _ => by rw [FA_p_impl_branch_below_L1] at h; cases h
  | n + 1, i, a, c, q, y, z, h0, h, hn => by
    rw [FA_p_impl_branch_below_L1] at h
    by_cases hi : i < ((w.length : Nat) : Int)
    · rw [ite_t (decide_eq_true hi)] at h
      obtain ⟨c0, h⟩ := chk_some h
      cases a with
      | nil => cases h
      | nd b q' y' z' =>
        simp only [brAM] at h
        have hil : i.toNat < w.length := by omega
        have e1 : (i + 1).toNat = i.toNat + 1 := by omega
        have ed : w.drop i.toNat = w.getD i.toNat (0, false) :: w.drop (i + 1).toNat := by
          rw [e1, List.drop_eq_getElem_cons hil, List.getD_eq_getElem?_getD, List.getElem?_eq_getElem hil]; rfl
        simp only [blocksA, List.nodup_cons, List.nodup_append, List.mem_append, not_or] at hn
        obtain ⟨⟨n1, n2⟩, n3, n4, n5⟩ := hn
        rw [ed]
        cases hb : (w.getD i.toNat (0, false)).2 with
        | true =>
          rw [hb, ite_t rfl] at h
          obtain ⟨c1, h⟩ := chk_some h
          obtain ⟨g1, g2⟩ := cut_way n (i + 1) y' c q y z (by omega) h n3
          have hne : b ≠ c := fun e => n1 (e ▸ g2)
          have ho : c ∉ blocksA z' := fun hm => n5 c g2 c hm rfl
          refine ⟨?_, by simp only [blocksA, List.mem_cons, List.mem_append]; exact .inr (.inl g2)⟩
          unfold cutA
          rw [if_neg hne, cutA_out ho]
          simp only [eraseA, cutW]
          rw [hb, if_pos rfl, g1]
        | false =>
          rw [hb, ite_f rfl] at h
          obtain ⟨c1, h⟩ := chk_some h
          obtain ⟨g1, g2⟩ := cut_way n (i + 1) z' c q y z (by omega) h n4
          have hne : b ≠ c := fun e => n2 (e ▸ g2)
          have ho : c ∉ blocksA y' := fun hm => n5 c hm c g2 rfl
          refine ⟨?_, by simp only [blocksA, List.mem_cons, List.mem_append]; exact .inr (.inr g2)⟩
          unfold cutA
          rw [if_neg hne, cutA_out ho]
          simp only [eraseA, cutW]
          rw [hb, if_neg (by simp), g1]
    · rw [ite_f (decide_eq_false hi)] at h
      cases h
      rw [List.drop_eq_nil_of_le (by omega)]
      refine ⟨?_, by simp [blocksA]⟩
      unfold cutA
      rw [if_pos rfl]
      rfl
/-- The way to a node, told by its place in the tree's own list. -/
def wayB : Br → Nat → List (Int × Bool)
  | _, 0 => []
  | .nil, _ + 1 => []
  | .nd q y z, k + 1 => if k < szB y then (q, true) :: wayB y k else (q, false) :: wayB z (k - szB y)
theorem wayB_0 (b : Br) : wayB b 0 = [] := by cases b <;> rfl
/-- The tree with a leaf at a node. -/
def cutV (b : Br) (k : Nat) : Br := cutW b (wayB b k)
theorem cutV_0 (b : Br) : cutV b 0 = .nd 0 .nil .nil := by unfold cutV; rw [wayB_0]; cases b <;> rfl
theorem cutV_y {q : Int} {y z : Br} {k : Nat} (h : k < szB y) : cutV (.nd q y z) (k + 1) = .nd q (cutV y k) z := by
  unfold cutV; rw [wayB, if_pos h, cutW, if_pos rfl]
theorem cutV_z {q : Int} {y z : Br} {k : Nat} (h : ¬ k < szB y) : cutV (.nd q y z) (k + 1) = .nd q y (cutV z (k - szB y)) := by
  unfold cutV; rw [wayB, if_neg h, cutW, if_neg (by simp)]
theorem cut_wf {n : Int} : ∀ {d : Nat} {b : Br} {k : Nat}, WF n d b → k < szB b → WF n d (cutV b k) ∧ szB (cutV b k) ≤ szB b
  | d, b, 0, h, hk => by
    rw [cutV_0]
    obtain ⟨d, rfl⟩ : ∃ e, d = e + 1 := by cases h <;> exact ⟨_, rfl⟩
    exact ⟨.leaf d, h.pos⟩
  | _, _, k + 1, .leaf d, hk => by simp only [szB] at hk; omega
  | _, _, k + 1, .node (d := d) (q := q) (y := y) (z := z) hq hy hz, hk => by
    have e := (hy.node_enc q z 0).2
    by_cases h : k < szB y
    · obtain ⟨g1, g2⟩ := cut_wf hy h
      rw [cutV_y h, (g1.node_enc q z 0).2, e]
      exact ⟨.node hq g1 hz, by omega⟩
    · obtain ⟨g1, g2⟩ := cut_wf (k := k - szB y) hz (by omega)
      rw [cutV_z h, (hy.node_enc q _ 0).2, e]
      exact ⟨.node hq hy g1, by omega⟩
theorem sCut_eq {n : Int} : ∀ (m d : Nat) (b : Br) (k : Nat), WF n d b → d ≤ 7 → d < m → k < szB b → F_spec_l9Cut m n (enc b 0) (k : Int) = some (enc (cutV b k) 0)
  | 0, d, b, k, _, _, h, _ => by omega
  | m + 1, d, b, k, hw, hd, hm, hk => by
    rw [F_spec_l9Cut, F_spec_l9Cut_B]
    cases k with
    | zero => rw [ite_t (by rfl), cutV_0]; rfl
    | succ k =>
      rw [ite_f (beq_eq_false_iff_ne.2 (by omega))]
      cases hw with
      | leaf d => simp only [szB] at hk; omega
      | @node d q y z hq hy hz =>
        obtain ⟨ee, es⟩ := hy.node_enc q z 0
        have hsz := (WF.node hq hy hz).size
        have h128 : (2 : Nat) ^ (d + 1) ≤ 128 := Nat.pow_le_pow_right (by decide) hd
        have hly : (enc y (0 + 1)).length = szB y := enc_len _ _
        have hlz : (enc z (0 + 1 + szB y)).length = szB z := enc_len _ _
        have hlen : (enc (.nd q y z) 0).length = 1 + szB y + szB z := by rw [enc_len, es]
        have hx : (enc (.nd q y z) 0).getD 0 (0, 0, 0) = (q, 0 + 1, 0 + 1 + (szB y : Int)) := by rw [ee]; rfl
        have s1 : F_spec_l9Sub n (enc (.nd q y z) 0) ((1 : Nat) : Int) = some (enc y 0) := sSub_eq hy (by omega) (by omega) (by omega) (by
          rw [ee]; show List.take (szB y) (enc y (0 + 1) ++ enc z _) = _
          rw [List.take_left' hly]; rfl)
        have s2 : F_spec_l9Sub n (enc (.nd q y z) 0) ((1 + szB y : Nat) : Int) = some (enc z 0) := sSub_eq hz (by omega) (by omega) (by omega) (by
          rw [ee, Nat.add_comm 1 (szB y)]; show List.take (szB z) (List.drop (szB y) (enc y (0 + 1) ++ enc z _)) = _
          rw [List.drop_left' hly, List.take_of_length_le (by omega)]
          congr 1; omega)
        rw [chk_pos ⟨by omega, by omega⟩, hx]
        dsimp only
        rw [show (0 : Int) + 1 = ((1 : Nat) : Int) by rfl, bnd1_eq s1, show ((1 : Nat) : Int) + (szB y : Int) = ((1 + szB y : Nat) : Int) by omega, bnd1_eq s2]
        by_cases h : k < szB y
        · obtain ⟨g1, g2⟩ := cut_wf hy h
          rw [ite_t (decide_eq_true (by omega)), chk_pos (by unfold I64; omega), show ((k + 1 : Nat) : Int) - (1 : Int) = (k : Int) by omega, bnd1_eq (sCut_eq m d y k hy (by omega) (by omega) h), bnd1_eq (sJoin_eq q g1.some (by omega)), cutV_y h]
        · rw [ite_f (decide_eq_false (by omega)), chk_pos (by unfold I64; omega), show ((k + 1 : Nat) : Int) - ((1 + szB y : Nat) : Int) = ((k - szB y : Nat) : Int) by omega, bnd1_eq (sCut_eq m d z (k - szB y) hz (by omega) (by omega) (by omega)), bnd1_eq (sJoin_eq q hy.some (by have := (cut_wf (k := k - szB y) hz (by omega)).2; omega)), cutV_z h]
theorem way_wayB {n : Int} {t : List Nd} {node : Nat} : ∀ {d : Nat} {b : Br} {a : Nat}, WF n d b → (t.drop a).take (szB b) = enc b a → a ≤ node → node < a + szB b → wayN t (node : Int) d (a : Int) = wayB b (node - a)
  | d, b, a, h, he, h1, h2 => by
    have h0 : a < t.length := by
      rcases Nat.lt_or_ge a t.length with h' | h'
      · exact h'
      · rw [List.drop_of_length_le h', List.take_nil] at he
        have := congrArg List.length he
        rw [enc_len] at this
        have := h.pos
        simp at *; omega
    rcases nd_of_WF h with ⟨e, rfl, rfl⟩ | ⟨e, q, y, z, rfl, rfl, hq, hy, hz⟩
    · have hn : node = a := by simp only [szB] at h2; omega
      subst hn
      rw [way_suc, if_pos rfl, Nat.sub_self]
      rfl
    · rw [way_suc]
      by_cases hn : (a : Int) = (node : Int)
      · have hn' : a = node := by omega
        subst hn'
        rw [if_pos rfl, Nat.sub_self]
        rfl
      · rw [if_neg hn]
        obtain ⟨ne, ns⟩ := hy.node_enc q z (a : Int)
        have hl : (enc y ((a : Int) + 1)).length = szB y := enc_len _ _
        rw [ns, ne, drop_one h0, show 1 + szB y + szB z = (szB y + szB z) + 1 by omega, List.take_succ_cons] at he
        have hx : t.getD a (0, 0, 0) = (q, (a : Int) + 1, (a : Int) + 1 + szB y) := List.cons.inj he |>.1
        have hr := List.cons.inj he |>.2
        have ea : (a : Int) + 1 = ((a + 1 : Nat) : Int) := by omega
        have eb : (a : Int) + 1 + (szB y : Int) = ((a + 1 + szB y : Nat) : Int) := by omega
        have hy2 : (t.drop (a + 1)).take (szB y) = enc y ((a + 1 : Nat) : Int) := by
          have := congrArg (List.take (szB y)) hr
          rw [List.take_take, Nat.min_eq_left (by omega), List.take_left' hl] at this
          rw [this, ea]
        have hz2 : (t.drop (a + 1 + szB y)).take (szB z) = enc z ((a + 1 + szB y : Nat) : Int) := by
          have := congrArg (List.drop (szB y)) hr
          rw [List.drop_take, List.drop_drop, List.drop_left' hl, show szB y + szB z - szB y = szB z by omega] at this
          rw [this, eb]
        have hxx : ndOf t (a : Int) = (q, (a : Int) + 1, (a : Int) + 1 + szB y) := by unfold ndOf; rw [Int.toNat_natCast]; exact hx
        rw [hxx]
        dsimp only
        rw [ns] at h2
        obtain ⟨k, hk⟩ : ∃ k, node - a = k + 1 := ⟨node - a - 1, by omega⟩
        rw [hk, wayB]
        by_cases hb : (node : Int) < (a : Int) + 1 + szB y
        · rw [if_pos hb, decide_eq_true hb, if_pos (by omega), ea, way_wayB (node := node) hy hy2 (by omega) (by omega)]
          congr 2; omega
        · rw [if_neg hb, decide_eq_false hb, if_neg (by omega), eb, way_wayB (node := node) hz hz2 (by omega) (by omega)]
          congr 2; omega
/-- The cut tree's list. -/
def ctV (n : Int) (t : List Nd) (node : Int) : List Nd := if ndB n t node = true then enc (cutV (rootV n t) node.toNat) 0 else []
theorem iIsNode_eq (n : Int) (t : List Nd) (node : Int) (ht : t.length ≤ 1048576) : F_impl_isNode n t node = some (ndB n t node) := by
  unfold F_impl_isNode F_impl_IsTree ndB
  rw [bnd2_eq (iRoot_eq n t ht), bnd1_eq rfl]
  cases (rootN n t).2 with
  | false => rfl
  | true => rw [ite_t rfl, chk_pos (by unfold I64; omega)]; rfl
theorem iCutTree_eq (n : Int) (t : List Nd) (node : Int) (ht : t.length ≤ 1048576) : F_impl_CutTree n t node = some (ctV n t node, ndB n t node) := by
  unfold F_impl_CutTree ctV
  rw [bnd2_eq (iRoot_eq n t ht)]
  refine jn_is (fun J => J (!(ndB n t node))) (fun J => ?_) ?_
  · rw [bnd1_eq (iIsNode_eq n t node ht)]
    unfold ndB
    cases (rootN n t).2 <;> rfl
  · rcases Bool.eq_false_or_eq_true (ndB n t node) with h | h
    · obtain ⟨h1, h2, h3⟩ := ndB_ok h
      obtain ⟨e, s, a, rfl, k1, k2, k3, k4, k5, k6⟩ := root_way h
      obtain ⟨w1, w2, w3, w4, _⟩ := root_enc h1
      obtain ⟨q, y, z, rfl⟩ := k2.some
      have hway : wayN t (a : Int) 7 0 = wayB (rootV n t) a := by
        have := way_wayB (n := n) (t := t) (node := a) (a := 0) w1 (by rw [List.drop_zero, ← w3, List.take_length]; exact w2) (by omega) (by omega)
        rw [Nat.sub_zero] at this
        exact this
      have hc := cut_wf (k := a) w1 (by omega)
      rw [h, ite_f (show (!true) = false from rfl), if_pos rfl, chk_pos (by omega), chk_pos h1, chk_pos h2, chk_pos h3, bnd1_eq (iBelow_eq _ _ _ (by omega) k3)]
      simp only [brM]
      rw [hway]
      show (bnd1 (F_p_impl_branch_tree (cutV (rootV n t) a)) _) = _
      rw [bnd1_eq (iTree_eq (b := cutV (rootV n t) a) hc.1 (by omega) (by omega)), Int.toNat_natCast]
    · rw [h, ite_t (show (!false) = true from rfl), if_neg (by decide)]
theorem sCutTree_eq (n : Int) (t : List Nd) (node : Int) (ht : t.length ≤ 1048576) : F_spec_CutTree n t node = some (ctV n t node, ndB n t node) := by
  unfold F_spec_CutTree ctV
  rw [chk_pos (by omega)]
  rcases Bool.eq_false_or_eq_true (ndB n t node) with h | h
  · obtain ⟨h1, h2, h3⟩ := ndB_ok h
    obtain ⟨w1, w2, w3, w4, _⟩ := root_enc h1
    obtain ⟨a, rfl⟩ : ∃ a : Nat, node = a := ⟨node.toNat, by omega⟩
    have hs : F_spec_l9Cut fuel n t (a : Int) = some (enc (cutV (rootV n t) a) 0) := by
      conv => lhs; rw [w2]
      exact sCut_eq fuel 7 (rootV n t) a w1 (by omega) (by have := fuel_ge; omega) (by omega)
    rw [h, ite_f (show (!true) = false from rfl), if_pos rfl, bnd1_eq hs, Int.toNat_natCast]
  · rw [h, ite_t (show (!false) = true from rfl), if_neg (by decide)]
theorem ctV_len (n : Int) (t : List Nd) (node : Int) : (ctV n t node).length ≤ 127 := by
  unfold ctV
  rcases Bool.eq_false_or_eq_true (ndB n t node) with h | h
  · obtain ⟨h1, h2, h3⟩ := ndB_ok h
    obtain ⟨w1, w2, w3, w4, _⟩ := root_enc h1
    have := (cut_wf (k := node.toNat) w1 (by omega)).2
    rw [if_pos h, enc_len]; omega
  · rw [if_neg (by rw [h]; decide)]; exact Nat.zero_le _
theorem law_CutTree (n : Int) (t : List Nd) (node : Int) (hl : t.length ≤ maxLen) : F_laws_FnExactCutTree n t node = some true := by
  have hm : maxLen ≤ 9223372036854775807 := by decide
  unfold F_laws_FnExactCutTree
  rw [chk_pos (by omega)]
  by_cases ht : t.length ≤ 1048576
  · have hL := ctV_len n t node
    rw [ite_f (szN_not ht), chk_pos ht, bnd2_eq (sCutTree_eq n t node ht)]
    simp only [bnd2_eq (iCutTree_eq n t node ht)]
    generalize ctV n t node = R at hL ⊢
    simp only [jn]
    simp only [chk_pos (show R.length ≤ 9223372036854775807 by omega), chk_pos (show (1 : Int) + 3 * ((List.length t : Nat) : Int) ≤ 9223372036854775807 by omega), chk_pos (show (1 : Int) + 3 * ((List.length R : Nat) : Int) ≤ 9223372036854775807 by omega),
      beq_self_eq_true, Bool.not_true, cond_false, decide_eq_false (show ¬ ((1 : Int) + 3 * ((List.length t : Nat) : Int) < 0) by omega), decide_eq_false (show ¬ ((1 : Int) + 3 * ((List.length R : Nat) : Int) < 0) by omega)]
  · rw [ite_t (szN_pos ht)]
end Go.Tl
