/-
  Plain laws of the printed functions: no program here.
-/
import Derived.Test.YtfbkhpfhnimnfaaAuLessF
namespace Go.Tl
set_option linter.unusedVariables false
set_option linter.unusedSimpArgs false
/-- A loop, told by what its rounds keep. -/
theorem loop_m {σ R : Type} (L : Nat → σ → Option R) (I : σ → Prop) (μ : σ → Nat) (Q : Option R → Prop)
    (step : ∀ n s, I s → (∃ s', I s' ∧ μ s' < μ s ∧ L (n + 1) s = L n s') ∨ Q (L (n + 1) s)) : ∀ n s, I s → μ s < n → Q (L n s) := by
  intro n
  induction n with
  | zero => intro s _ h; omega
  | succ n ih =>
    intro s hI hm
    rcases step n s hI with ⟨s', h1, h2, h3⟩ | h
    · rw [h3]; exact ih s' h1 (by omega)
    · exact h
/-- A loop that counts up to N; st is its state by the count. -/
theorem loop_up {σ R : Type} (L : Nat → Int → σ → Option R) (N : Int) (st : Int → σ) (r : Option R)
    (step : ∀ n i, 0 ≤ i → i < N → L (n + 1) i (st i) = L n (i + 1) (st (i + 1))) (fin : ∀ n, L (n + 1) N (st N) = r) (h0 : 0 ≤ N) (n : Nat) (hn : N.toNat < n) : L n 0 (st 0) = r := by
  have key : ∀ (k : Nat) (n : Nat) (i : Int), 0 ≤ i → i + k = N → k < n → L n i (st i) = r := by
    intro k
    induction k with
    | zero =>
      intro n i h1 h2 h3; obtain ⟨n, rfl⟩ : ∃ m, n = m + 1 := ⟨n - 1, by omega⟩; have e : i = N := by omega
      subst e; exact fin n
    | succ k ih =>
      intro n i h1 h2 h3
      obtain ⟨n, rfl⟩ : ∃ m, n = m + 1 := ⟨n - 1, by omega⟩
      rw [step n i h1 (by omega)]
      exact ih n (i + 1) (by omega) (by omega) (by omega)
  exact key N.toNat n 0 (Int.le_refl _) (by omega) hn
/-- A loop that counts up to N and may end early: with what p tells. -/
theorem loop_all {R : Type} (L : Nat → Int → Option R) (N : Int) (p : Int → Bool) (no yes : Option R)
    (step : ∀ n i, 0 ≤ i → i < N → p i = true → L (n + 1) i = L n (i + 1)) (stop : ∀ n i, 0 ≤ i → i < N → p i = false → L (n + 1) i = no) (fin : ∀ n, L (n + 1) N = yes) (h0 : 0 ≤ N) (n : Nat) (hn : N.toNat < n) :
    (L n 0 = yes ∧ ∀ i, 0 ≤ i → i < N → p i = true) ∨ (L n 0 = no ∧ ∃ i, 0 ≤ i ∧ i < N ∧ p i = false ∧ ∀ j, 0 ≤ j → j < i → p j = true) := by
  have key : ∀ (k : Nat) (n : Nat) (i : Int), 0 ≤ i → i + k = N → k < n → (∀ j, 0 ≤ j → j < i → p j = true) → (L n i = yes ∧ ∀ i, 0 ≤ i → i < N → p i = true) ∨ (L n i = no ∧ ∃ i, 0 ≤ i ∧ i < N ∧ p i = false ∧ ∀ j, 0 ≤ j → j < i → p j = true) := by
    intro k
    induction k with
    | zero =>
      intro n i h1 h2 h3 h4; obtain ⟨n, rfl⟩ : ∃ m, n = m + 1 := ⟨n - 1, by omega⟩; have e : i = N := by omega
      subst e; exact .inl ⟨fin n, h4⟩
    | succ k ih =>
      intro n i h1 h2 h3 h4
      obtain ⟨n, rfl⟩ : ∃ m, n = m + 1 := ⟨n - 1, by omega⟩
      cases hp : p i with
      | false => exact .inr ⟨stop n i h1 (by omega) hp, i, h1, by omega, hp, h4⟩
      | true =>
        rw [step n i h1 (by omega) hp]
        refine ih n (i + 1) (by omega) (by omega) (by omega) fun j k1 k2 => ?_
        by_cases e : j = i
        · rw [e]; exact hp
        · exact h4 j k1 (by omega)
  exact key N.toNat n 0 (Int.le_refl _) (by omega) hn fun j h1 h2 => by omega
theorem ite_t {α : Type} {c : Bool} (h : c = true) (x y : α) : (bif c then x else y) = x := by rw [h]; rfl
theorem ite_f {α : Type} {c : Bool} (h : c = false) (x y : α) : (bif c then x else y) = y := by rw [h]; rfl
theorem ite_c {α : Type} {P : α → Prop} {c : Bool} {x y : α} (h1 : c = true → P x) (h2 : c = false → P y) : P (bif c then x else y) := by
  cases c
  · exact h2 rfl
  · exact h1 rfl
theorem getD_in {xs : List Int} {i : Nat} {P : Int → Prop} (h : i < xs.length) (hP : ∀ x ∈ xs, P x) : P (xs.getD i 0) := by
  rw [List.getD_eq_getElem?_getD, List.getElem?_eq_getElem h]; exact hP _ (List.getElem_mem h)
theorem maxN_in {a b : Int} : a ≤ maxN a b ∧ b ≤ maxN a b ∧ (maxN a b = a ∨ maxN a b = b) := by unfold maxN; split <;> omega
theorem minN_in {a b : Int} : minN a b ≤ a ∧ minN a b ≤ b ∧ (minN a b = a ∨ minN a b = b) := by unfold minN; split <;> omega
theorem next_ok {bs : List Int} {p s : Int} (hy : okY bs) (h0 : 0 ≤ p) (h1 : p ≤ 1000000000000) : ∃ v s', F_p_spec_l1Cur_next bs p s = some (v, bs, p + 1, s') ∧ 0 ≤ v ∧ v ≤ 255 := by
  unfold F_p_spec_l1Cur_next
  have hb := hy p.toNat
  have fin : ∀ v3 : Int, 0 ≤ v3 → v3 ≤ 255 → ∃ v s', (chk (I64 (p + (1 : Int))) <| nam (IntKind.wrap .u64 (s * (6364136223846793005 : Int))) fun n37 => nam (IntKind.wrap .u64 (n37 + (IntKind.wrap .u64 v3))) fun n40 => (bif (decide ((p + (1 : Int)) ≤ ((List.length bs : Nat) : Int))) then some (v3, bs, (p + (1 : Int)), (IntKind.wrap .u64 (n40 + (462197 : Int)))) else nam (bits .and .u64 ((IntKind.wrap .u64 (n40 + (462197 : Int))) / 2 ^ Int.toNat (40 : Int)) (255 : Int)) fun n60 => chk (I64 n60) <| some (n60, bs, (p + (1 : Int)), (IntKind.wrap .u64 (n40 + (462197 : Int)))))) = some (v, bs, p + 1, s') ∧ 0 ≤ v ∧ v ≤ 255 := by
    intro v3 k0 k1
    rw [chk_pos (by unfold I64; omega)]
    simp only [nam]
    refine ite_c (P := fun o => ∃ v s', o = some (v, bs, p + 1, s') ∧ 0 ≤ v ∧ v ≤ 255) (fun _ => ?_) (fun _ => ?_)
    · exact ⟨_, _, rfl, k0, k1⟩
    · have h2 := and255 ((IntKind.wrap .u64 ((IntKind.wrap .u64 ((IntKind.wrap .u64 (s * (6364136223846793005 : Int))) + (IntKind.wrap .u64 v3))) + (462197 : Int))) / 2 ^ Int.toNat (40 : Int))
      rw [chk_pos (by unfold I64; omega)]
      exact ⟨_, _, rfl, h2.1, h2.2⟩
  simp only [jn]
  refine ite_c (P := fun o => ∃ v s', o = some (v, bs, p + 1, s') ∧ 0 ≤ v ∧ v ≤ 255) (fun h => ?_) (fun _ => ?_)
  · have h := of_decide_eq_true h
    rw [chk_pos (by omega), chk_pos (by unfold I64; omega)]
    exact fin _ hb.1 hb.2
  · exact fin 0 (by omega) (by omega)
theorem tmod_in {a n : Int} (h0 : 0 ≤ a) (h1 : 0 < n) : 0 ≤ Int.tmod a n ∧ Int.tmod a n < n := ⟨Int.tmod_nonneg _ h0, Int.tmod_lt_of_pos _ h1⟩
theorem pick_ok {bs : List Int} {p s n : Int} (hy : okY bs) (h0 : 0 ≤ p) (h1 : p ≤ 900000000000) : ∃ v p' s', F_p_spec_l1Cur_pick bs p s n = some (v, bs, p', s') ∧ p ≤ p' ∧ p' ≤ p + 2 ∧ 0 ≤ v ∧ (1 ≤ n → v < n) := by
  unfold F_p_spec_l1Cur_pick
  rcases Bool.eq_false_or_eq_true (decide (n ≤ (1 : Int))) with h | h
  · have h := of_decide_eq_true h
    rw [ite_t (decide_eq_true h)]
    exact ⟨0, p, s, rfl, by omega, by omega, by omega, fun _ => by omega⟩
  · rw [ite_f h]
    have h := of_decide_eq_false h
    obtain ⟨v, s', e, g0, g1⟩ := next_ok (s := s) hy h0 (by omega)
    rw [bnd4_eq e]
    simp only [jn]
    rcases Bool.eq_false_or_eq_true (decide (n > (200 : Int))) with h4 | h4
    · rw [ite_t h4]
      obtain ⟨v2, s2, e2, k0, k1⟩ := next_ok (s := s') hy (p := p + 1) (by omega) (by omega)
      rw [chk_pos (by unfold I64; omega), bnd4_eq e2, chk_pos (by unfold I64; omega), chk_pos (by omega)]
      have := tmod_in (a := v * 256 + v2) (n := n) (by omega) (by omega)
      exact ⟨_, _, _, rfl, by omega, by omega, this.1, fun _ => this.2⟩
    · rw [ite_f h4]
      rw [chk_pos (by omega)]
      have := tmod_in (a := v) (n := n) (by omega) (by omega)
      exact ⟨_, _, _, rfl, by omega, by omega, this.1, fun _ => this.2⟩
theorem one_ok {bs : List Int} {p s n : Int} (hy : okY bs) (h0 : 0 ≤ p) (h1 : p ≤ 900000000000) : ∃ b p' s', F_p_spec_l1Cur_one bs p s n = some (b, bs, p', s') ∧ p ≤ p' ∧ p' ≤ p + 2 := by
  unfold F_p_spec_l1Cur_one
  obtain ⟨v, p', s', e, g0, g1, g2, g3⟩ := pick_ok (s := s) (n := n) hy h0 h1
  rw [bnd4_eq e]
  exact ⟨_, _, _, rfl, g0, g1⟩
theorem among_ok {bs : List Int} {p s : Int} {xs : List Int} (hy : okY bs) (h0 : 0 ≤ p) (h1 : p ≤ 900000000000) (hx : 0 < xs.length) : ∃ v p' s', F_p_spec_l1Cur_among bs p s xs = some (v, bs, p', s') ∧ p ≤ p' ∧ p' ≤ p + 2 ∧ v ∈ xs := by
  unfold F_p_spec_l1Cur_among
  obtain ⟨v, p', s', e, g0, g1, g2, g3⟩ := pick_ok (s := s) (n := ((List.length xs : Nat) : Int)) hy h0 h1
  rw [bnd4_eq e, chk_pos ⟨g2, g3 (by omega)⟩]
  refine ⟨_, _, _, rfl, g0, g1, ?_⟩
  have := g3 (by omega)
  exact getD_in (P := fun x => x ∈ xs) (by omega) fun x hx => hx
theorem many_ok {bs : List Int} {p s : Int} (hy : okY bs) (h0 : 0 ≤ p) (h1 : p ≤ 900000000000) : ∃ v p' s', F_p_spec_l1Cur_many bs p s = some (v, bs, p', s') ∧ p ≤ p' ∧ p' ≤ p + 2 ∧ 0 ≤ v ∧ v ≤ 13 := by
  unfold F_p_spec_l1Cur_many
  obtain ⟨v, p', s', e, g0, g1, g2⟩ := among_ok (s := s) (xs := [(4 : Int), (6 : Int), (8 : Int), (3 : Int), (5 : Int), (2 : Int), (7 : Int), (12 : Int), (1 : Int), (0 : Int), (13 : Int), (4 : Int), (6 : Int), (8 : Int), (3 : Int), (5 : Int)]) hy h0 h1 (by decide)
  rw [bnd4_eq e]
  refine ⟨_, _, _, rfl, g0, g1, ?_⟩
  simp only [List.mem_cons, List.not_mem_nil, or_false] at g2
  omega
theorem lies_ok {bs : List Int} {p s : Int} (hy : okY bs) (h0 : 0 ≤ p) (h1 : p ≤ 900000000000) : ∃ v p' s', F_p_spec_l1Cur_lies bs p s = some (v, bs, p', s') ∧ p ≤ p' ∧ p' ≤ p + 2 ∧ -1 ≤ v ∧ v ≤ 3 := by
  unfold F_p_spec_l1Cur_lies
  obtain ⟨v, p', s', e, g0, g1, g2⟩ := among_ok (s := s) (xs := [(1 : Int), (1 : Int), (2 : Int), (0 : Int), (1 : Int), (2 : Int), (1 : Int), (3 : Int), (-1 : Int), (1 : Int), (2 : Int), (0 : Int)]) hy h0 h1 (by decide)
  rw [bnd4_eq e]
  refine ⟨_, _, _, rfl, g0, g1, ?_⟩
  simp only [List.mem_cons, List.not_mem_nil, or_false] at g2
  omega
theorem state_ok {bs : List Int} {p s : Int} (hy : okY bs) (h0 : 0 ≤ p) (h1 : p ≤ 700000000000) : ∃ xs m p' s', F_p_spec_l1Cur_state bs p s = some (xs, m, bs, p', s') ∧ p ≤ p' ∧ p' ≤ p + 100 ∧ -1 ≤ m ∧ m ≤ 3 ∧ xs.length ≤ 13 ∧ (∀ x ∈ xs, -1 ≤ x ∧ x ≤ 4) := by
  unfold F_p_spec_l1Cur_state
  obtain ⟨m, p1, s1, e1, g0, g1, g2, g3⟩ := lies_ok (s := s) hy h0 (by omega)
  obtain ⟨k, p2, s2, e2, k0, k1, k2, k3⟩ := many_ok (s := s1) hy (p := p1) (by omega) (by omega)
  rw [bnd4_eq e1, bnd4_eq e2]
  simp only [jn]
  let Q : Option (List Int × Int × List Int × Int × Int) → Prop := fun o => ∃ xs m p' s', o = some (xs, m, bs, p', s') ∧ p ≤ p' ∧ p' ≤ p + 100 ∧ -1 ≤ m ∧ m ≤ 3 ∧ xs.length ≤ 13 ∧ (∀ x ∈ xs, -1 ≤ x ∧ x ≤ 4)
  have fin2 : ∀ (xs : List Int) (pp ss : Int), p ≤ pp → pp ≤ p + 56 → xs.length = k.toNat → (∀ x ∈ xs, -1 ≤ x ∧ x ≤ 4) → Q (F_p_spec_l1Cur_state_L2 m k (fun o500d o500e o500g o12b => some (o12b, m, o500d, o500e, o500g)) fuel bs pp ss xs 0) := by
    intro xs pp ss hp1 hp2 hl hx
    refine loop_m (fun n (z : Int × Int × List Int × Int) => F_p_spec_l1Cur_state_L2 m k (fun o500d o500e o500g o12b => some (o12b, m, o500d, o500e, o500g)) n bs z.1 z.2.1 z.2.2.1 z.2.2.2) (fun z => 0 ≤ z.2.2.2 ∧ z.2.2.2 ≤ k ∧ p ≤ z.1 ∧ z.1 ≤ p + 56 + 2 * z.2.2.2 ∧ z.2.2.1.length = k.toNat ∧ ∀ x ∈ z.2.2.1, -1 ≤ x ∧ x ≤ 4) (fun z => (k - z.2.2.2).toNat) Q ?_ fuel (pp, ss, xs, 0) ⟨by simp only; omega, by simp only; omega, hp1, by simp only; omega, hl, hx⟩ (by have := fuel_ge; simp only; omega)
    rintro n ⟨pp, ss, xs, i⟩ ⟨i0, i1, q0, q1, ql, qx⟩
    simp only at i0 i1 q0 q1 ql qx ⊢
    rw [F_p_spec_l1Cur_state_L2]
    by_cases hi : i < k
    · rw [ite_t (decide_eq_true hi)]
      simp only [jn]
      rw [chk_pos (by omega)]
      have stay : ∀ pp', p ≤ pp' → pp' ≤ p + 56 + 2 * (i + 1) → ∀ ss' (b : Bool), (∃ s' : Int × Int × List Int × Int, (0 ≤ s'.2.2.2 ∧ s'.2.2.2 ≤ k ∧ p ≤ s'.1 ∧ s'.1 ≤ p + 56 + 2 * s'.2.2.2 ∧ s'.2.2.1.length = k.toNat ∧ ∀ x ∈ s'.2.2.1, -1 ≤ x ∧ x ≤ 4) ∧ (k - s'.2.2.2).toNat < (k - i).toNat ∧
          (bif b then chk (0 ≤ i ∧ i < ((List.length xs : Nat) : Int)) <| chk (I64 (i + (1 : Int))) <| F_p_spec_l1Cur_state_L2 m k (fun o500d o500e o500g o12b => some (o12b, m, o500d, o500e, o500g)) n bs pp' ss' (List.set xs (Int.toNat i) (-1 : Int)) (i + (1 : Int)) else chk (I64 (i + (1 : Int))) <| F_p_spec_l1Cur_state_L2 m k (fun o500d o500e o500g o12b => some (o12b, m, o500d, o500e, o500g)) n bs pp' ss' xs (i + (1 : Int))) = F_p_spec_l1Cur_state_L2 m k (fun o500d o500e o500g o12b => some (o12b, m, o500d, o500e, o500g)) n bs s'.1 s'.2.1 s'.2.2.1 s'.2.2.2) := by
        intro pp' r0 r1 ss' b
        cases b
        · rw [ite_f rfl, chk_pos (by unfold I64; omega)]
          exact ⟨(pp', ss', xs, i + 1), ⟨by simp only; omega, by simp only; omega, r0, r1, ql, qx⟩, by simp only; omega, rfl⟩
        · rw [ite_t rfl, chk_pos (by omega), chk_pos (by unfold I64; omega)]
          refine ⟨(pp', ss', List.set xs (Int.toNat i) (-1), i + 1), ⟨by simp only; omega, by simp only; omega, r0, r1, by simp only [List.length_set]; exact ql, fun x hx => ?_⟩, by simp only; omega, rfl⟩
          rcases List.mem_or_eq_of_mem_set hx with h | h
          · exact qx x h
          · subst h; omega
      rcases Bool.eq_false_or_eq_true (decide (List.getD xs (Int.toNat i) 0 > m)) with h4 | h4
      · rw [ite_t h4]
        obtain ⟨b, p4, s4, e4, w0, w1⟩ := one_ok (s := ss) (n := 30) hy (p := pp) (by omega) (by omega)
        rw [bnd4_eq e4]
        exact .inl (stay p4 (by omega) (by omega) s4 (!b))
      · rw [ite_f h4]
        exact .inl (stay pp (by omega) (by omega) ss false)
    · rw [ite_f (decide_eq_false hi)]
      exact .inr ⟨_, _, _, _, rfl, by omega, by omega, g2, g3, by omega, qx⟩
  refine loop_m (fun n (z : Int × Int × List Int × Int) => F_p_spec_l1Cur_state_L1 m k (fun o500 o500b o500c o12 => F_p_spec_l1Cur_state_L2 m k (fun o500d o500e o500g o12b => some (o12b, m, o500d, o500e, o500g)) fuel o500 o500b o500c o12 0) n bs z.1 z.2.1 z.2.2.1 z.2.2.2) (fun z => 0 ≤ z.2.2.2 ∧ z.2.2.2 ≤ k ∧ p ≤ z.1 ∧ z.1 ≤ p + 4 + 4 * z.2.2.2 ∧ z.2.2.1.length = z.2.2.2.toNat ∧ ∀ x ∈ z.2.2.1, -1 ≤ x ∧ x ≤ 4) (fun z => (k - z.2.2.2).toNat) Q ?_ fuel (p2, s2, [], 0) ⟨by simp, by simp only; omega, by simp only; omega, by simp only; omega, rfl, fun x hx => by simp at hx⟩ (by have := fuel_ge; simp only; omega)
  rintro n ⟨pp, ss, xs, i⟩ ⟨i0, i1, q0, q1, ql, qx⟩
  simp only at i0 i1 q0 q1 ql qx ⊢
  rw [F_p_spec_l1Cur_state_L1]
  by_cases hi : i < k
  · rw [ite_t (decide_eq_true hi), chk_pos (by unfold I64; omega)]
    have a2 := maxN_in (a := 1) (b := m + 2)
    obtain ⟨v, p4, s4, e4, w0, w1, w2, w3⟩ := pick_ok (s := ss) (n := maxN 1 (m + 2)) hy (p := pp) (by omega) (by omega)
    obtain ⟨v5, p5, s5, e5, y0, y1, y2, y3⟩ := pick_ok (s := s4) (n := 6) hy (p := p4) (by omega) (by omega)
    have hd := d5_in y2 (y3 (by omega))
    unfold d5 at hd
    have hv := w3 (by omega)
    rw [bnd4_eq e4, bnd4_eq e5, chk_pos (by unfold I64; omega), chk_pos (by unfold I64; omega), chk_pos ⟨by omega, by simp only [maxLen]; omega⟩, chk_pos (by unfold I64; omega)]
    refine .inl ⟨(p5, s5, xs ++ [v - Int.tdiv v5 5], i + 1), ⟨by simp only; omega, by simp only; omega, by simp only; omega, by simp only; omega, by simp only [List.length_append, List.length_cons, List.length_nil]; omega, fun x hx => ?_⟩, by simp only; omega, rfl⟩
    rcases List.mem_append.1 hx with h | h
    · exact qx x h
    · simp only [List.mem_cons, List.not_mem_nil, or_false] at h
      omega
  · rw [ite_f (decide_eq_false hi)]
    exact .inr (fin2 xs pp ss q0 (by omega) (by omega) qx)
theorem jn_is {γ δ : Type} {f : γ} {g : γ → Option δ} {r : Option δ} (k : γ → Option δ) (h : ∀ J, g J = k J) (h2 : k f = r) : jn f g = r := by
  unfold jn; rw [h f]; exact h2
/-- The numbers below k that p tells. -/
def fl (p : Nat → Bool) (k : Nat) : List Int := ((List.range k).filter p).map fun (i : Nat) => (i : Int)
theorem fl_yes {p : Nat → Bool} {k : Nat} (h : p k = true) : fl p (k + 1) = fl p k ++ [(k : Int)] := by
  unfold fl; rw [List.range_succ, List.filter_append, List.map_append, List.filter_cons, if_pos h]; rfl
theorem fl_no {p : Nat → Bool} {k : Nat} (h : p k = false) : fl p (k + 1) = fl p k := by
  unfold fl; rw [List.range_succ, List.filter_append, List.map_append, List.filter_cons, if_neg (by rw [h]; simp)]; simp
theorem fl_len (p : Nat → Bool) (k : Nat) : (fl p k).length ≤ k := by
  unfold fl; rw [List.length_map]; exact Nat.le_trans (List.length_filter_le _ _) (by simp)
theorem mem_fl {p : Nat → Bool} {k : Nat} {x : Int} : x ∈ fl p k ↔ ∃ i : Nat, i < k ∧ p i = true ∧ x = (i : Int) := by
  unfold fl
  simp only [List.mem_map, List.mem_filter, List.mem_range]
  constructor
  · rintro ⟨i, ⟨h1, h2⟩, rfl⟩; exact ⟨i, h1, h2, rfl⟩
  · rintro ⟨i, h1, h2, rfl⟩; exact ⟨i, ⟨h1, h2⟩, rfl⟩
theorem fl_getD {p : Nat → Bool} {k i : Nat} (h : i < (fl p k).length) : ∃ j : Nat, j < k ∧ p j = true ∧ (fl p k).getD i 0 = (j : Int) := by
  have : (fl p k).getD i 0 ∈ fl p k := getD_in (P := fun x => x ∈ fl p k) h fun x hx => hx
  obtain ⟨j, h1, h2, h3⟩ := mem_fl.1 this
  exact ⟨j, h1, h2, h3⟩
theorem openN_fl (xs : List Int) : openN xs = fl (fun i => decide (xs.getD i 0 ≥ 0)) xs.length := rfl
theorem int_nat {i : Int} (h : 0 ≤ i) : ∃ k : Nat, i = (k : Int) := ⟨i.toNat, by omega⟩
theorem bits_nat_or {a b : Nat} (ha : a < 9223372036854775808) (hb : b < 9223372036854775808) : bits .or .i64 (a : Int) (b : Int) = ((a ||| b : Nat) : Int) := by
  have hc : a ||| b < 2 ^ 63 := Nat.or_lt_two_pow (by omega) (by omega)
  unfold bits
  rw [IntKind.wrap_i64]
  show (((BitVec.ofInt 64 (a : Int) ||| BitVec.ofInt 64 (b : Int)).toNat : Int) + 9223372036854775808) % 18446744073709551616 - 9223372036854775808 = _
  rw [BitVec.toNat_or, BitVec.toNat_ofInt, BitVec.toNat_ofInt]
  have e1 : ((a : Int) % ((2 ^ 64 : Nat) : Int)).toNat = a := by omega
  have e2 : ((b : Int) % ((2 ^ 64 : Nat) : Int)).toNat = b := by omega
  rw [e1, e2]
  omega
theorem bits_nat_and {a b : Nat} (ha : a < 9223372036854775808) (hb : b < 9223372036854775808) : bits .and .i64 (a : Int) (b : Int) = ((a &&& b : Nat) : Int) := by
  have hc : a &&& b < 2 ^ 63 := Nat.and_lt_two_pow _ (by omega)
  unfold bits
  rw [IntKind.wrap_i64]
  show (((BitVec.ofInt 64 (a : Int) &&& BitVec.ofInt 64 (b : Int)).toNat : Int) + 9223372036854775808) % 18446744073709551616 - 9223372036854775808 = _
  rw [BitVec.toNat_and, BitVec.toNat_ofInt, BitVec.toNat_ofInt]
  have e1 : ((a : Int) % ((2 ^ 64 : Nat) : Int)).toNat = a := by omega
  have e2 : ((b : Int) % ((2 ^ 64 : Nat) : Int)).toNat = b := by omega
  rw [e1, e2]
  omega
theorem has_nat {q k : Nat} (hk : k ≤ 64) : hasB (q : Int) (k : Int) = q.testBit k := by
  unfold hasB
  rw [and1, Int.toNat_natCast, Nat.min_eq_left hk, Int.fdiv_eq_ediv_of_nonneg _ (Int.le_of_lt (Int.pow_pos (by decide))), Nat.testBit_eq_decide_div_mod_eq]
  have e : (q : Int) / 2 ^ k % 2 = ((q / 2 ^ k % 2 : Nat) : Int) := by norm_cast
  rw [e]
  have : q / 2 ^ k % 2 = 0 ∨ q / 2 ^ k % 2 = 1 := by omega
  rcases this with h | h <;> rw [h] <;> rfl
theorem has_raw {q k : Int} (h0 : 0 ≤ k) (h1 : k < 64) : (bits .and .i64 (q / 2 ^ Int.toNat k) (1 : Int) == (1 : Int)) = hasB q k := by
  unfold hasB
  rw [Nat.min_eq_left (by omega), Int.fdiv_eq_ediv_of_nonneg _ (Int.le_of_lt (Int.pow_pos (by decide)))]
theorem and1_has {q k : Int} (h0 : 0 ≤ k) (h1 : k < 64) : bits .and .i64 (q / 2 ^ Int.toNat k) (1 : Int) = bif hasB q k then 1 else 0 := by
  rw [← has_raw h0 h1, and1]
  have : q / 2 ^ k.toNat % 2 = 0 ∨ q / 2 ^ k.toNat % 2 = 1 := by omega
  rcases this with h | h <;> rw [h] <;> rfl
theorem isQ_nat {n q : Int} (h : isQ n q = true) : ∃ n' q' : Nat, n = n' ∧ q = q' ∧ 1 ≤ n' ∧ n' ≤ 12 ∧ q' < 2 ^ n' := by
  obtain ⟨⟨h0, h1, h2⟩, h3, h4⟩ := isQ_in h
  obtain ⟨n', rfl⟩ := int_nat h0
  obtain ⟨q', rfl⟩ := int_nat h3
  refine ⟨n', q', rfl, rfl, by omega, by omega, ?_⟩
  simp only [Int.toNat_natCast] at h4
  have : ((2 ^ n' : Nat) : Int) = (2 : Int) ^ n' := by norm_cast
  omega
theorem rInts_eq (xs ys : List Int) (hx : xs.length ≤ 1048576) : F_laws_rInts xs ys = some (xs == ys) := by
  unfold F_laws_rInts
  by_cases hl : xs.length = ys.length
  · rw [ite_f (by rw [hl]; simp)]
    simp only [jn]
    refine Or.elim (loop_all (fun m i => F_laws_rInts_L1 xs ys (fun _ => some true) m i) (xs.length : Int) (fun i => xs.getD i.toNat 0 == ys.getD i.toNat 0) (some false) (some true) ?_ ?_ ?_ (by omega) fuel (by have := fuel_ge; omega)) ?_ ?_
    · intro m i i0 i1 hp
      rw [F_laws_rInts_L1, ite_t (decide_eq_true i1), chk_pos ⟨i0, i1⟩, chk_pos ⟨i0, by omega⟩, ite_f (by simpa [bne] using hp), chk_pos (by unfold I64; omega)]
    · intro m i i0 i1 hp
      rw [F_laws_rInts_L1, ite_t (decide_eq_true i1), chk_pos ⟨i0, i1⟩, chk_pos ⟨i0, by omega⟩, ite_t (by simpa [bne] using hp)]
    · intro m
      rw [F_laws_rInts_L1, ite_f (decide_eq_false (by omega))]
    · rintro ⟨e, h⟩
      rw [e]
      have : xs = ys := by
        refine List.ext_getElem hl fun i h1 h2 => ?_
        have := h (i : Int) (by omega) (by omega)
        simp only [Int.toNat_natCast, beq_iff_eq] at this
        simpa [List.getD_eq_getElem?_getD, h1, h2] using this
      rw [this]; simp
    · rintro ⟨e, i, i0, i1, i2, _⟩
      rw [e]
      have : (xs == ys) = false := by
        rw [beq_eq_false_iff_ne]
        intro hh
        subst hh
        simp at i2
      rw [this]
  · rw [ite_t (by simp; omega)]
    have : (xs == ys) = false := by
      rw [beq_eq_false_iff_ne]; intro hh; exact hl (by rw [hh])
    rw [this]
/-- How many of the first i elements are told by p. -/
def cntL (p : Int → Bool) (l : List Int) : Nat → Int
  | 0 => 0
  | i + 1 => cntL p l i + (bif p (l.getD i 0) then 1 else 0)
theorem cntL_in (p : Int → Bool) (l : List Int) : ∀ i : Nat, 0 ≤ cntL p l i ∧ cntL p l i ≤ (i : Int)
  | 0 => by simp [cntL]
  | i + 1 => by
    have := cntL_in p l i
    unfold cntL
    cases p (l.getD i 0) <;> simp only [cond_true, cond_false] <;> omega
theorem cntL_congr {p q : Int → Bool} {l : List Int} : ∀ i : Nat, i ≤ l.length → (∀ x ∈ l, p x = q x) → cntL p l i = cntL q l i
  | 0, _, _ => rfl
  | i + 1, hi, h => by
    unfold cntL
    rw [cntL_congr i (by omega) h, h _ (getD_in (P := fun z => z ∈ l) (by omega) fun z hz => hz)]
def sumP (l : List Int) : Nat → Int
  | 0 => 0
  | i + 1 => sumP l i + l.getD i 0
theorem sumP_set {l : List Int} {v : Nat} {x : Int} (hv : v < l.length) : ∀ n : Nat, sumP (l.set v x) n = sumP l n + (if v < n then x - l.getD v 0 else 0)
  | 0 => by simp [sumP]
  | n + 1 => by
    unfold sumP
    rw [sumP_set hv n]
    by_cases e : n = v
    · subst e
      rw [set_getD _ _ _ _ hv, if_neg (by omega), if_pos (by omega)]; omega
    · have : (l.set v x).getD n 0 = l.getD n 0 := by
        rw [List.getD_eq_getElem?_getD, List.getElem?_set_ne (by omega), ← List.getD_eq_getElem?_getD]
      rw [this]
      by_cases e2 : v < n
      · rw [if_pos e2, if_pos (by omega)]; omega
      · rw [if_neg e2, if_neg (by omega)]; omega
theorem sumP_in {l : List Int} {B : Int} (h : ∀ x ∈ l, 0 ≤ x ∧ x ≤ B) : ∀ i : Nat, i ≤ l.length → 0 ≤ sumP l i ∧ sumP l i ≤ B * i
  | 0, _ => by simp [sumP]
  | i + 1, hi => by
    have := sumP_in h i (by omega)
    have h2 := getD_in (P := fun x => 0 ≤ x ∧ x ≤ B) (i := i) (by omega) h
    unfold sumP
    have e : B * ((i + 1 : Nat) : Int) = B * i + B := by rw [Int.natCast_succ, Int.mul_add, Int.mul_one]
    rw [e]; omega
theorem openN_le (xs : List Int) : (openN xs).length ≤ xs.length := fl_len _ _
theorem state_len {xs : List Int} {m : Int} (h : isStateN xs m = true) : 1 ≤ xs.length ∧ xs.length ≤ 12 ∧ 0 ≤ m ∧ m ≤ 2 := by
  have := isStateN_iff.1 h; omega
theorem sOpenL_eq (xs : List Int) (m : Int) (hx : xs.length ≤ 1048576) : F_spec_l2Open xs m = some (openN xs) := by
  unfold F_spec_l2Open
  simp only [jn]
  rw [openN_fl]
  have hl := fun k => fl_len (fun i => decide (xs.getD i 0 ≥ 0)) k
  refine (loop_up (fun m i (s : List Int) => F_spec_l2Open_L1 xs (fun o5 => some o5) m s i) (xs.length : Int) (fun i => fl (fun i => decide (xs.getD i 0 ≥ 0)) i.toNat) _ ?_ ?_ (by omega) fuel (by have := fuel_ge; omega))
  · intro m i i0 i1
    obtain ⟨k, rfl⟩ := int_nat i0
    have hlk := hl k
    have e1 : ((k : Int) + 1).toNat = k + 1 := by omega
    simp only [Int.toNat_natCast, e1]
    rw [F_spec_l2Open_L1, ite_t (decide_eq_true i1), chk_pos ⟨i0, i1⟩]
    simp only [Int.toNat_natCast]
    by_cases hb : xs.getD k 0 ≥ 0
    · rw [ite_t (decide_eq_true hb), fl_yes (p := fun i => decide (xs.getD i 0 ≥ 0)) (decide_eq_true hb), chk_pos ⟨by omega, by simp only [maxLen]; omega⟩, chk_pos (by unfold I64; omega)]
    · rw [ite_f (decide_eq_false hb), fl_no (p := fun i => decide (xs.getD i 0 ≥ 0)) (decide_eq_false hb), chk_pos (by unfold I64; omega)]
  · intro m
    rw [F_spec_l2Open_L1, ite_f (decide_eq_false (by omega))]
    simp only [Int.toNat_natCast]
def opV (xs : List Int) (m : Int) : List Int := bif isStateN xs m then openN xs else []
theorem iOpenNumbers_eq (xs : List Int) (m : Int) (hx : xs.length ≤ 1048576) : F_impl_OpenNumbers xs m = some (opV xs m, isStateN xs m) := by
  unfold F_impl_OpenNumbers opV
  rw [chk_pos (by omega)]
  cases h : isStateN xs m with
  | false => rfl
  | true => rw [ite_f (by rfl), chk_pos (by omega), ite_t rfl]
theorem opV_len (xs : List Int) (m : Int) : (opV xs m).length ≤ 12 := by
  unfold opV
  refine ite_c (P := fun l : List Int => l.length ≤ 12) (fun h => ?_) (fun _ => ?_)
  · have := state_len h; have := openN_le xs; omega
  · simp
def inN (xs : List Int) (q : Int) : Int := cntL (fun k => hasB q k) (openN xs) (openN xs).length
def vainN (xs : List Int) (q : Int) : Bool := inN xs q == 0 || inN xs q == ((openN xs).length : Int)
def vnB (xs : List Int) (m q : Int) : Bool := isStateN xs m && isQ ((xs.length : Nat) : Int) q
def vnV (xs : List Int) (m q : Int) : Bool := vnB xs m q && vainN xs q
theorem openN_in {xs : List Int} {i : Nat} (h : i < (openN xs).length) : 0 ≤ (openN xs).getD i 0 ∧ (openN xs).getD i 0 < xs.length := by
  obtain ⟨j, h1, _, h3⟩ := fl_getD (p := fun i => decide (xs.getD i 0 ≥ 0)) (k := xs.length) h
  rw [openN_fl]; omega
theorem iIsVain_eq (xs : List Int) (m q : Int) (hx : xs.length ≤ 60) : F_impl_State_isVain xs m q = some (vainN xs q) := by
  unfold F_impl_State_isVain
  rw [chk_pos (by omega)]
  have hol := openN_le xs
  simp only [jn]
  refine (loop_up (fun n i (s : Int) => F_impl_State_isVain_L1 xs q (fun v5 => bif (v5 == (0 : Int)) then some true else some (v5 == ((List.length (openN xs) : Nat) : Int))) n i s) ((openN xs).length : Int) (fun i => cntL (fun k => hasB q k) (openN xs) i.toNat) _ ?_ ?_ (by omega) fuel (by have := fuel_ge; omega))
  · intro n i i0 i1
    obtain ⟨k, rfl⟩ := int_nat i0
    have hc := cntL_in (fun k => hasB q k) (openN xs) k
    have ho := openN_in (xs := xs) (i := k) (by omega)
    have e1 : ((k : Int) + 1).toNat = k + 1 := by omega
    simp only [Int.toNat_natCast, e1]
    rw [F_impl_State_isVain_L1, ite_t (decide_eq_true i1), chk_pos ⟨i0, i1⟩]
    simp only [Int.toNat_natCast]
    rw [chk_pos ho.1, cntL]
    rcases Bool.eq_false_or_eq_true (hasB q ((openN xs).getD k 0)) with hb | hb
    · rw [ite_t hb, chk_pos (by unfold I64; omega), chk_pos (by unfold I64; omega), ite_t hb]
    · rw [ite_f hb, chk_pos (by unfold I64; omega), ite_f hb, Int.add_zero]
  · intro n
    rw [F_impl_State_isVain_L1, ite_f (decide_eq_false (by omega))]
    simp only [Int.toNat_natCast]
    unfold vainN inN
    cases (cntL (fun k => hasB q k) (openN xs) (openN xs).length == (0 : Int)) <;> rfl
theorem sIsVain_eq (xs : List Int) (m q : Int) (hx : xs.length ≤ 60) : F_spec_l2Vain xs m q = some (vainN xs q) := by
  unfold F_spec_l2Vain
  rw [bnd1_eq (sOpenL_eq xs m (by omega))]
  have hol := openN_le xs
  simp only [jn]
  refine (loop_up (fun n i (s : Int) => F_spec_l2Vain_L1 q (openN xs) (fun v5 => bif (v5 == (0 : Int)) then some true else some (v5 == ((List.length (openN xs) : Nat) : Int))) n i s) ((openN xs).length : Int) (fun i => cntL (fun k => hasB q k) (openN xs) i.toNat) _ ?_ ?_ (by omega) fuel (by have := fuel_ge; omega))
  · intro n i i0 i1
    obtain ⟨k, rfl⟩ := int_nat i0
    have hc := cntL_in (fun k => hasB q k) (openN xs) k
    have ho := openN_in (xs := xs) (i := k) (by omega)
    have e1 : ((k : Int) + 1).toNat = k + 1 := by omega
    simp only [e1]
    rw [F_spec_l2Vain_L1, ite_t (decide_eq_true i1), chk_pos ⟨i0, i1⟩]
    simp only [nam]
    rw [Int.toNat_natCast, chk_pos ⟨ho.1, by omega⟩, and1_has ho.1 (by omega), cntL]
    rcases Bool.eq_false_or_eq_true (hasB q ((openN xs).getD k 0)) with hb | hb
    · rw [ite_t hb, chk_pos (by unfold I64; omega), chk_pos (by unfold I64; omega)]
    · rw [ite_f hb, chk_pos (by unfold I64; omega), chk_pos (by unfold I64; omega)]
  · intro n
    rw [F_spec_l2Vain_L1, ite_f (decide_eq_false (by omega))]
    simp only [Int.toNat_natCast]
    unfold vainN inN
    cases (cntL (fun k => hasB q k) (openN xs) (openN xs).length == (0 : Int)) <;> rfl
theorem szN_not {n : Nat} (h : n ≤ 1048576) : decide (szN (1048576 : Int) n < 0) = false := by
  unfold szN
  rw [if_neg (by omega)]
  exact decide_eq_false (by omega)
theorem szN_pos {n : Nat} (h : ¬ n ≤ 1048576) : decide (szN (1048576 : Int) n < 0) = true := by
  unfold szN
  rw [if_pos (by omega)]
  decide
theorem jn_q {γ δ : Type} {Q0 : Option δ → Prop} {f : γ} {g : γ → Option δ} (k : γ → Option δ) (h : ∀ J, g J = k J) (h2 : Q0 (k f)) : Q0 (jn f g) := by
  unfold jn; rw [h f]; exact h2
/-- A loop over 0, 1, .. up to N whose state keeps I. -/
theorem loop_st {σ R : Type} (L : Nat → Int → σ → Option R) (N : Nat) (I : Nat → σ → Prop) (Q : Option R → Prop)
    (step : ∀ m (i : Nat) s, i < N → I i s → (∃ s', I (i + 1) s' ∧ L (m + 1) (i : Int) s = L m ((i + 1 : Nat) : Int) s') ∨ Q (L (m + 1) (i : Int) s)) (fin : ∀ m s, I N s → Q (L (m + 1) (N : Int) s)) (s0 : σ) (h0 : I 0 s0) (n : Nat) (hn : N < n) : Q (L n 0 s0) := by
  have key : ∀ (k : Nat) (n i : Nat) (s : σ), i + k = N → k < n → I i s → Q (L n (i : Int) s) := by
    intro k
    induction k with
    | zero =>
      intro n i s h1 h2 h3
      obtain ⟨n, rfl⟩ : ∃ m, n = m + 1 := ⟨n - 1, by omega⟩
      have e : i = N := by omega
      subst e
      exact fin n s h3
    | succ k ih =>
      intro n i s h1 h2 h3
      obtain ⟨n, rfl⟩ : ∃ m, n = m + 1 := ⟨n - 1, by omega⟩
      rcases step n i s (by omega) h3 with ⟨s', h4, h5⟩ | h4
      · rw [h5]; exact ih n (i + 1) s' (by omega) (by omega) h4
      · exact h4
  exact key N n 0 s0 (by omega) hn h0
theorem fair_len {m q : Int} {xs : List Int} : (fairN m q xs).length ≤ 2 := fairP_len 2
/-- The number whose digits are those of a state. -/
def digP (b : Int) (xs : List Int) : Nat → Int
  | 0 => 0
  | k + 1 => digP b xs k * b + xs.getD k 0 + 1
theorem digP_in {b : Int} {xs : List Int} (hb : b = 2 ∨ b = 3) (hx : ∀ i : Nat, -1 ≤ xs.getD i 0 ∧ xs.getD i 0 ≤ b - 2) : ∀ k : Nat, 0 ≤ digP b xs k ∧ digP b xs k + 1 ≤ b ^ k
  | 0 => by simp [digP]
  | k + 1 => by
    have ih := digP_in hb hx k
    have := hx k
    rw [digP, Int.pow_succ]
    rcases hb with rfl | rfl <;> omega
theorem digP_inj {b : Int} {xs ys : List Int} (hb : b = 2 ∨ b = 3) (hx : ∀ i : Nat, -1 ≤ xs.getD i 0 ∧ xs.getD i 0 ≤ b - 2) (hy : ∀ i : Nat, -1 ≤ ys.getD i 0 ∧ ys.getD i 0 ≤ b - 2) : ∀ k : Nat, digP b xs k = digP b ys k → ∀ i, i < k → xs.getD i 0 = ys.getD i 0
  | 0, _, i, hi => by omega
  | k + 1, h, i, hi => by
    have h1 := hx k
    have h2 := hy k
    rw [digP, digP] at h
    have hk : digP b xs k = digP b ys k ∧ xs.getD k 0 = ys.getD k 0 := by rcases hb with rfl | rfl <;> omega
    by_cases e : i = k
    · rw [e]; exact hk.2
    · exact digP_inj hb hx hy k hk.1 i (by omega)
theorem getD_ext {xs ys : List Int} (hl : xs.length = ys.length) (h : ∀ i, i < xs.length → xs.getD i 0 = ys.getD i 0) : xs = ys := by
  apply List.ext_getElem hl
  intro i h1 h2
  have := h i h1
  simpa [List.getD_eq_getElem?_getD, h1, h2] using this
/-- The bounds of a state in a race. -/
def okR (n : Nat) (m : Int) (xs : List Int) : Prop := xs.length = n ∧ okS xs m
theorem okR_dig {n : Nat} {m b : Int} {xs : List Int} (h : okR n m xs) (hb : m + 2 ≤ b) : ∀ i : Nat, -1 ≤ xs.getD i 0 ∧ xs.getD i 0 ≤ b - 2 := fun i => by have := h.2.2.2.2 i; omega
theorem okR_ans {n : Nat} {m q : Int} {y : Bool} {xs : List Int} (h : okR n m xs) : okR n m (ansN m q y xs) := ⟨by rw [ansN_len]; exact h.1, okS_ans h.2⟩
theorem dig_inj {n : Nat} {m b : Int} {xs ys : List Int} (hb : b = 2 ∨ b = 3) (hm : m + 2 ≤ b) (hx : okR n m xs) (hy : okR n m ys) (h : digP b xs n = digP b ys n) : xs = ys :=
  getD_ext (hx.1.trans hy.1.symm) fun i hi => digP_inj hb (okR_dig hx hm) (okR_dig hy hm) n h i (by rw [← hx.1]; exact hi)
theorem ans_getD {m q : Int} {y : Bool} {xs : List Int} {i : Nat} (h : i < xs.length) : (ansN m q y xs).getD i 0 = lieN m (falseB q y (i : Int)) (xs.getD i 0) := by
  unfold ansN afterN; simp [h]
/-- How many false answers are still to come. -/
def muP (m : Int) (xs : List Int) : Nat → Nat
  | 0 => 0
  | k + 1 => muP m xs k + (if 0 ≤ xs.getD k 0 then (m + 1 - xs.getD k 0).toNat else 0)
theorem muP_ans {m q : Int} {y : Bool} {xs : List Int} (h : okS xs m) : ∀ k, k ≤ xs.length → muP m (ansN m q y xs) k ≤ muP m xs k ∧ ((∃ i : Nat, i < k ∧ 0 ≤ xs.getD i 0 ∧ falseB q y (i : Int) = true) → muP m (ansN m q y xs) k < muP m xs k)
  | 0, _ => ⟨Nat.le_refl _, fun ⟨i, hi, _⟩ => by omega⟩
  | k + 1, hk => by
    obtain ⟨ih1, ih2⟩ := muP_ans (q := q) (y := y) h k (by omega)
    have hb := h.2.2.2 k
    have e := ans_getD (m := m) (q := q) (y := y) (xs := xs) (i := k) (by omega)
    have hm := h.2.1
    rw [muP, muP, e]
    have key : (if 0 ≤ lieN m (falseB q y (k : Int)) (xs.getD k 0) then (m + 1 - lieN m (falseB q y (k : Int)) (xs.getD k 0)).toNat else 0) ≤ (if 0 ≤ xs.getD k 0 then (m + 1 - xs.getD k 0).toNat else 0) ∧
        (0 ≤ xs.getD k 0 ∧ falseB q y (k : Int) = true → (if 0 ≤ lieN m (falseB q y (k : Int)) (xs.getD k 0) then (m + 1 - lieN m (falseB q y (k : Int)) (xs.getD k 0)).toNat else 0) < (if 0 ≤ xs.getD k 0 then (m + 1 - xs.getD k 0).toNat else 0)) := by
      by_cases h0 : 0 ≤ xs.getD k 0
      · rw [if_pos h0]
        cases hf : falseB q y (k : Int) with
        | false => rw [lie_no rfl, if_pos h0]; exact ⟨Nat.le_refl _, fun hh => by cases hh.2⟩
        | true =>
          by_cases h1 : xs.getD k 0 + 1 > m
          · rw [lie_over h0 rfl h1, if_neg (by decide)]; exact ⟨Nat.zero_le _, fun _ => by omega⟩
          · rw [lie_up h0 rfl h1, if_pos (by omega)]; exact ⟨by omega, fun _ => by omega⟩
      · rw [lie_neg h0, if_neg h0]; exact ⟨Nat.le_refl _, fun hh => absurd hh.1 h0⟩
    refine ⟨by omega, fun ⟨i, hi, h1, h2⟩ => ?_⟩
    by_cases e : i = k
    · subst e
      have := key.2 ⟨h1, h2⟩
      omega
    · have := ih2 ⟨i, by omega, h1, h2⟩
      omega
def mu (m : Int) (xs : List Int) : Nat := muP m xs xs.length
theorem mu_le {m : Int} {xs : List Int} (h : okS xs m) (hm : m ≤ 1) : mu m xs ≤ 2 * xs.length := by
  have : ∀ k, muP m xs k ≤ 2 * k := by
    intro k
    induction k with
    | zero => exact Nat.le_refl _
    | succ k ih => rw [muP]; split <;> omega
  exact this _
theorem cntL_none {p : Int → Bool} {l : List Int} (h : ∀ x ∈ l, p x = false) : ∀ i : Nat, i ≤ l.length → cntL p l i = 0
  | 0, _ => rfl
  | i + 1, hi => by rw [cntL, cntL_none h i (by omega), h _ (getD_in (P := fun z => z ∈ l) (by omega) fun z hz => hz)]; rfl
theorem cntL_all {p : Int → Bool} {l : List Int} (h : ∀ x ∈ l, p x = true) : ∀ i : Nat, i ≤ l.length → cntL p l i = (i : Int)
  | 0, _ => rfl
  | i + 1, hi => by rw [cntL, cntL_all h i (by omega), h _ (getD_in (P := fun z => z ∈ l) (by omega) fun z hz => hz)]; simp only [cond_true]; omega
theorem mem_open {xs : List Int} {x : Int} : x ∈ openN xs ↔ ∃ i : Nat, i < xs.length ∧ 0 ≤ xs.getD i 0 ∧ x = (i : Int) := by
  rw [openN_fl, mem_fl]
  constructor
  · rintro ⟨i, h1, h2, h3⟩; exact ⟨i, h1, by simpa using h2, h3⟩
  · rintro ⟨i, h1, h2, h3⟩; exact ⟨i, h1, by simpa using h2, h3⟩
/-- A question that is not vain has open numbers in it and others. -/
theorem not_vain {xs : List Int} {q : Int} (h : vainN xs q = false) : (∃ i : Nat, i < xs.length ∧ 0 ≤ xs.getD i 0 ∧ hasB q (i : Int) = true) ∧ ∃ i : Nat, i < xs.length ∧ 0 ≤ xs.getD i 0 ∧ hasB q (i : Int) = false := by
  unfold vainN at h
  simp only [Bool.or_eq_false_iff, beq_eq_false_iff_ne, ne_eq] at h
  constructor
  · apply Classical.byContradiction
    intro hn
    refine h.1 (cntL_none (fun x hx => ?_) _ (Nat.le_refl _))
    obtain ⟨i, h1, h2, rfl⟩ := mem_open.1 hx
    exact Bool.eq_false_iff.2 fun e => hn ⟨i, h1, h2, e⟩
  · apply Classical.byContradiction
    intro hn
    refine h.2 (cntL_all (fun x hx => ?_) _ (Nat.le_refl _))
    obtain ⟨i, h1, h2, rfl⟩ := mem_open.1 hx
    rcases Bool.eq_false_or_eq_true (hasB q (i : Int)) with e | e
    · exact e
    · exact absurd ⟨i, h1, h2, e⟩ hn
theorem vain_few {xs : List Int} {q : Int} (h : (openN xs).length < 2) : vainN xs q = true := by
  have := cntL_in (fun k => hasB q k) (openN xs) (openN xs).length
  unfold vainN inN
  simp; omega
theorem mu_less {m q : Int} {y : Bool} {xs : List Int} (h : okS xs m) (hv : vainN xs q = false) : mu m (ansN m q y xs) < mu m xs := by
  unfold mu
  rw [ansN_len]
  refine (muP_ans h xs.length (Nat.le_refl _)).2 ?_
  obtain ⟨⟨i, a1, a2, a3⟩, ⟨j, b1, b2, b3⟩⟩ := not_vain hv
  cases y with
  | true => exact ⟨j, b1, b2, by unfold falseB; rw [b3]; rfl⟩
  | false => exact ⟨i, a1, a2, by unfold falseB; rw [a3]; rfl⟩
/-- Both answers to a question that is not vain are fair. -/
theorem fair_both {m q : Int} {xs : List Int} (h : okS xs m) (hv : vainN xs q = false) : fairN m q xs = [false, true] := by
  have key : ∀ y, (∃ i : Nat, i < xs.length ∧ 0 ≤ xs.getD i 0 ∧ hasB q (i : Int) = y) → decide ((((openN (ansN m q y xs)).length : Nat) : Int) > (0 : Int)) = true := by
    rintro y ⟨i, a1, a2, a3⟩
    have : (i : Int) ∈ openN (ansN m q y xs) := mem_open.2 ⟨i, by rw [ansN_len]; exact a1, by rw [ans_getD a1, lie_no (by unfold falseB; rw [a3]; simp)]; exact a2, rfl⟩
    have := List.length_pos_of_mem this
    exact decide_eq_true (by omega)
  obtain ⟨h1, h2⟩ := not_vain hv
  rw [fair_two (key false h2) (key true h1)]; rfl
def chN (qs xs : List Int) : List Int := qs.filter fun q => !vainN xs q
theorem mem_ch {qs xs : List Int} {q : Int} : q ∈ chN qs xs ↔ q ∈ qs ∧ vainN xs q = false := by unfold chN; simp
theorem ch_few {qs xs : List Int} (h : (openN xs).length < 2) : chN qs xs = [] := by
  unfold chN
  rw [List.filter_eq_nil_iff]
  intro q _
  rw [vain_few h]; decide
/-- What there is to know of a state: whether who asks wins, the longest and the shortest race, how many there are. -/
def stp (acc x : Int × Int × Int) : Int × Int × Int := (max acc.1 (x.1 + 1), if acc.2.1 < 0 ∨ x.2.1 + 1 < acc.2.1 then x.2.1 + 1 else acc.2.1, acc.2.2 + x.2.2)
def raW (m : Int) (qs : List Int) (rec : List Int → Bool × Int × Int × Int) (xs : List Int) : Bool :=
  (chN qs xs).any fun q => (fairN m q xs).all fun y => !(decide (2 ≤ (openN (ansN m q y xs)).length) && (rec (ansN m q y xs)).1)
def raI (m : Int) (rec : List Int → Bool × Int × Int × Int) (xs : List Int) (q : Int) (acc : Int × Int × Int) : Int × Int × Int := (fairN m q xs).foldl (fun a y => stp a (rec (ansN m q y xs)).2) acc
def raS (m : Int) (qs : List Int) (rec : List Int → Bool × Int × Int × Int) (xs : List Int) : Int × Int × Int :=
  if chN qs xs = [] then (0, 0, 1) else (chN qs xs).foldl (fun a q => raI m rec xs q a) (0, -1, 0)
def raT (m : Int) (qs : List Int) : Nat → List Int → Bool × Int × Int × Int
  | 0, _ => (false, 0, 0, 1)
  | d + 1, xs => (raW m qs (raT m qs d) xs, raS m qs (raT m qs d) xs)
theorem foldl_congr' {α β : Type} {f g : α → β → α} : ∀ {l : List β} {a : α}, (∀ b ∈ l, ∀ a, f a b = g a b) → l.foldl f a = l.foldl g a
  | [], _, _ => rfl
  | b :: l, a, h => by rw [List.foldl_cons, List.foldl_cons, h b List.mem_cons_self]; exact foldl_congr' fun c hc => h c (List.mem_cons_of_mem _ hc)
theorem ra_congr {m : Int} {qs xs : List Int} {r r' : List Int → Bool × Int × Int × Int} (h : ∀ q ∈ chN qs xs, ∀ y, r (ansN m q y xs) = r' (ansN m q y xs)) : raW m qs r xs = raW m qs r' xs ∧ raS m qs r xs = raS m qs r' xs := by
  constructor
  · unfold raW
    rw [Bool.eq_iff_iff, List.any_eq_true, List.any_eq_true]
    constructor
    · rintro ⟨q, h1, h2⟩; exact ⟨q, h1, by simpa only [h q h1] using h2⟩
    · rintro ⟨q, h1, h2⟩; exact ⟨q, h1, by simpa only [h q h1] using h2⟩
  · unfold raS
    split
    · rfl
    · exact foldl_congr' fun q hq a => by unfold raI; exact foldl_congr' fun y _ b => by rw [h q hq y]
theorem mu_zero_ch {m : Int} {qs xs : List Int} (h : okS xs m) (h0 : mu m xs = 0) : chN qs xs = [] := by
  unfold chN
  rw [List.filter_eq_nil_iff]
  intro q _ hv
  have hv : vainN xs q = false := by simpa using hv
  have := mu_less (y := true) h hv
  omega
theorem ra_stable {n : Nat} {m : Int} {qs : List Int} : ∀ (d d' : Nat) (xs : List Int), okR n m xs → mu m xs ≤ d → mu m xs ≤ d' → raT m qs d xs = raT m qs d' xs := by
  have nil : ∀ (d : Nat) (xs : List Int), okR n m xs → mu m xs = 0 → raT m qs d xs = (false, 0, 0, 1) := by
    intro d xs h h0
    cases d with
    | zero => rfl
    | succ d =>
      have hc := mu_zero_ch (qs := qs) h.2 h0
      rw [raT]; unfold raW raS
      rw [hc]; rfl
  intro d
  induction d with
  | zero => intro d' xs h h1 h2; rw [nil d' xs h (by omega)]; rfl
  | succ d ih =>
    intro d' xs h h1 h2
    cases d' with
    | zero => rw [nil (d + 1) xs h (by omega)]; rfl
    | succ d' =>
      have hc := ra_congr (m := m) (qs := qs) (xs := xs) (r := raT m qs d) (r' := raT m qs d') (fun q hq y => by
        have := mu_less (y := y) h.2 (mem_ch.1 hq).2
        exact ih d' _ (okR_ans h) (by omega) (by omega))
      rw [raT, raT, hc.1, hc.2]
/-- The facts of a state. -/
def raV (m : Int) (qs : List Int) (xs : List Int) : Bool × Int × Int × Int := raT m qs 20 xs
theorem raV_eq {n : Nat} {m : Int} {qs xs : List Int} (hn : n ≤ 5) (hm : m ≤ 1) (h : okR n m xs) : raV m qs xs = (raW m qs (raV m qs) xs, raS m qs (raV m qs) xs) := by
  have hmu := mu_le h.2 hm
  have hl := h.1
  have hc := ra_congr (m := m) (qs := qs) (xs := xs) (r := raT m qs 19) (r' := raV m qs) (fun q hq y => by
    have := mu_less (y := y) h.2 (mem_ch.1 hq).2
    exact ra_stable 19 20 _ (okR_ans h) (by omega) (by omega))
  show raT m qs 20 xs = _
  rw [raT, hc.1, hc.2]
/-- What is kept while the facts of what comes behind are put together. -/
def accP (d : Nat) (B : Int) (j : Nat) (acc : Int × Int × Int) : Prop := (j = 0 ∧ acc = (0, -1, 0)) ∨ (1 ≤ j ∧ 1 ≤ acc.2.1 ∧ acc.2.1 ≤ acc.1 ∧ acc.1 ≤ (d : Int) ∧ 1 ≤ acc.2.2 ∧ acc.2.2 ≤ (j : Int) * B)
theorem accP_step {d j : Nat} {B : Int} {acc x : Int × Int × Int} (h : accP d B j acc) (h1 : 0 ≤ x.2.1) (h2 : x.2.1 ≤ x.1) (h3 : x.1 + 1 ≤ (d : Int)) (h4 : 1 ≤ x.2.2) (h5 : x.2.2 ≤ B) : accP d B (j + 1) (stp acc x) := by
  have e : ((j + 1 : Nat) : Int) * B = (j : Int) * B + B := by rw [Int.natCast_succ, Int.add_mul, Int.one_mul]
  rcases h with ⟨rfl, rfl⟩ | ⟨g1, g2, g3, g4, g5, g6⟩
  · refine .inr ⟨by omega, ?_, ?_, ?_, ?_, ?_⟩ <;> unfold stp <;> simp <;> omega
  · refine .inr ⟨by omega, ?_, ?_, ?_, ?_, ?_⟩
    · unfold stp; dsimp only; split <;> omega
    · unfold stp; dsimp only; split <;> omega
    · unfold stp; dsimp only; omega
    · unfold stp; dsimp only; omega
    · unfold stp; dsimp only; rw [e]; omega
theorem raI_two {m q : Int} {xs : List Int} {rec : List Int → Bool × Int × Int × Int} {acc : Int × Int × Int} (h : okS xs m) (hv : vainN xs q = false) : raI m rec xs q acc = stp (stp acc (rec (ansN m q false xs)).2) (rec (ansN m q true xs)).2 := by
  unfold raI; rw [fair_both h hv]; rfl
def good3 (d : Nat) (x : Int × Int × Int) : Prop := 0 ≤ x.2.1 ∧ x.2.1 ≤ x.1 ∧ x.1 ≤ (d : Int) ∧ 1 ≤ x.2.2 ∧ x.2.2 ≤ 10 ^ d
theorem pow10 (d : Nat) : (1 : Int) ≤ 10 ^ d := Int.pow_pos (by decide)
theorem pow10_le {d : Nat} (h : d ≤ 10) : (10 : Int) ^ d ≤ 10000000000 := by
  match d, h with
  | 0, _ | 1, _ | 2, _ | 3, _ | 4, _ | 5, _ | 6, _ | 7, _ | 8, _ | 9, _ | 10, _ => decide
theorem good3_up {d e : Nat} {x : Int × Int × Int} (h : good3 d x) (hd : d ≤ e) : good3 e x := by
  obtain ⟨h1, h2, h3, h4, h5⟩ := h
  refine ⟨h1, h2, by omega, h4, Int.le_trans h5 ?_⟩
  obtain ⟨k, rfl⟩ : ∃ k, e = d + k := ⟨e - d, by omega⟩
  rw [Int.pow_add]
  have h9 := Int.mul_le_mul_of_nonneg_left (pow10 k) (show (0 : Int) ≤ 10 ^ d by have := pow10 d; omega)
  rwa [Int.mul_one] at h9
/-- The facts' bounds: by what is still to come. -/
theorem ra_good {n : Nat} {m : Int} {qs : List Int} (hn : n ≤ 5) (hm : m ≤ 1) (hq : qs.length ≤ 5) : ∀ (d : Nat) (xs : List Int), okR n m xs → mu m xs ≤ d → good3 d (raV m qs xs).2 ∧ ((raV m qs xs).2.1 = 0 ↔ chN qs xs = []) := by
  intro d
  induction d with
  | zero =>
    intro xs h h0
    have hc := mu_zero_ch (qs := qs) h.2 (by omega)
    rw [raV_eq hn hm h]
    unfold raS
    rw [if_pos hc]
    exact ⟨⟨Int.le_refl 0, Int.le_refl 0, Int.le_refl 0, Int.le_refl 1, Int.le_refl 1⟩, by simp [hc]⟩
  | succ d ih =>
    intro xs h h0
    rw [raV_eq hn hm h]
    unfold raS
    by_cases hc : chN qs xs = []
    · rw [if_pos hc]
      have := pow10 (d + 1)
      exact ⟨⟨Int.le_refl 0, Int.le_refl 0, show (0 : Int) ≤ ((d + 1 : Nat) : Int) by omega, Int.le_refl 1, this⟩, by simp [hc]⟩
    · rw [if_neg hc]
      have key : ∀ (l : List Int) (j : Nat) (acc : Int × Int × Int), (∀ q ∈ l, q ∈ chN qs xs) → accP (d + 1) (10 ^ d) j acc → accP (d + 1) (10 ^ d) (j + 2 * l.length) (l.foldl (fun a q => raI m (raV m qs) xs q a) acc) := by
        intro l
        induction l with
        | nil => intro j acc _ hp; exact hp
        | cons q l ihl =>
          intro j acc hl hp
          have hv := (mem_ch.1 (hl q List.mem_cons_self)).2
          have c1 := (ih _ (okR_ans h) (by have := mu_less (y := false) h.2 hv; omega : mu m (ansN m q false xs) ≤ d)).1
          have c2 := (ih _ (okR_ans h) (by have := mu_less (y := true) h.2 hv; omega : mu m (ansN m q true xs) ≤ d)).1
          rw [List.foldl_cons, raI_two h.2 hv, List.length_cons, show j + 2 * (l.length + 1) = (j + 1 + 1) + 2 * l.length by omega]
          refine ihl (j + 1 + 1) _ (fun q hq => hl q (List.mem_cons_of_mem _ hq)) ?_
          refine accP_step (accP_step hp c1.1 c1.2.1 ?_ c1.2.2.2.1 c1.2.2.2.2) c2.1 c2.2.1 ?_ c2.2.2.2.1 c2.2.2.2.2
          · have := c1.2.2.1; omega
          · have := c2.2.2.1; omega
      have k := key (chN qs xs) 0 (0, -1, 0) (fun q hq => hq) (.inl ⟨rfl, rfl⟩)
      have hl : (chN qs xs).length ≤ 5 := Nat.le_trans (List.length_filter_le _ _) hq
      have hp : 1 ≤ (chN qs xs).length := List.length_pos_iff.2 hc
      generalize (chN qs xs).foldl (fun a q => raI m (raV m qs) xs q a) (0, -1, 0) = R at k
      rcases k with ⟨k1, _⟩ | ⟨_, k2, k3, k4, k5, k6⟩
      · omega
      · have hB := pow10 d
        refine ⟨⟨by dsimp only; omega, by dsimp only; omega, by dsimp only; omega, k5, ?_⟩, ?_⟩
        · have : ((0 + 2 * (chN qs xs).length : Nat) : Int) * 10 ^ d ≤ 10 * 10 ^ d := Int.mul_le_mul_of_nonneg_right (by omega) (by omega)
          rw [Int.pow_succ]; dsimp only; omega
        · constructor
          · intro e; dsimp only at e; omega
          · intro e; exact absurd e hc
/-- The answers with which the other one wins, and the questions with which who asks wins. -/
def loL (m : Int) (qs xs : List Int) (q : Int) : List Bool := (fairN m q xs).filter fun y => decide (2 ≤ (openN (ansN m q y xs)).length) && (raV m qs (ansN m q y xs)).1
def wiL (m : Int) (qs xs : List Int) : List Int := (chN qs xs).filter fun q => (loL m qs xs q).length == 0
theorem wi_win {n : Nat} {m : Int} {qs xs : List Int} (hn : n ≤ 5) (hm : m ≤ 1) (h : okR n m xs) : (raV m qs xs).1 = decide (0 < (wiL m qs xs).length) := by
  rw [raV_eq hn hm h]
  show raW m qs (raV m qs) xs = _
  unfold raW wiL
  rw [Bool.eq_iff_iff, List.any_eq_true, decide_eq_true_iff, List.length_pos_iff_exists_mem]
  constructor
  · rintro ⟨q, h1, h2⟩
    refine ⟨q, List.mem_filter.2 ⟨h1, ?_⟩⟩
    rw [beq_iff_eq, List.length_eq_zero_iff]
    unfold loL
    rw [List.filter_eq_nil_iff]
    intro y hy hh
    have := List.all_eq_true.1 h2 y hy
    rw [hh] at this; cases this
  · rintro ⟨q, hq⟩
    obtain ⟨h1, h2⟩ := List.mem_filter.1 hq
    rw [beq_iff_eq, List.length_eq_zero_iff] at h2
    unfold loL at h2
    rw [List.filter_eq_nil_iff] at h2
    refine ⟨q, h1, List.all_eq_true.2 fun y hy => ?_⟩
    have := h2 y hy
    cases hc : decide (2 ≤ (openN (ansN m q y xs)).length) && (raV m qs (ansN m q y xs)).1 with
    | true => rw [hc] at this; exact absurd rfl this
    | false => rfl
/-! the set of questions -/
def chB (n : Int) (qs : List Int) : Bool := decide (1 ≤ qs.length) && decide (qs.length ≤ 5) && (List.range qs.length).all fun (i : Nat) => isQ n (qs.getD i 0) && (decide (i = 0) || decide (qs.getD (i - 1) 0 < qs.getD i 0))
def rgB (xs : List Int) (m : Int) (qs : List Int) : Bool := raceN xs m && chB ((xs.length : Nat) : Int) qs
theorem chB_in {n : Int} {qs : List Int} (h : chB n qs = true) : 1 ≤ qs.length ∧ qs.length ≤ 5 ∧ ∀ q ∈ qs, isQ n q = true := by
  unfold chB at h
  simp only [Bool.and_eq_true, decide_eq_true_eq] at h
  refine ⟨h.1.1, h.1.2, fun q hq => ?_⟩
  obtain ⟨i, hi, rfl⟩ := List.getElem_of_mem hq
  have := List.all_eq_true.1 h.2 i (List.mem_range.2 hi)
  simp only [Bool.and_eq_true] at this
  simpa [List.getD_eq_getElem?_getD, hi] using this.1
theorem rg_in {xs : List Int} {m : Int} {qs : List Int} (h : rgB xs m qs = true) : okR xs.length m xs ∧ 1 ≤ xs.length ∧ xs.length ≤ 5 ∧ 0 ≤ m ∧ m ≤ 1 ∧ 2 ≤ (openN xs).length ∧ 1 ≤ qs.length ∧ qs.length ≤ 5 ∧ isStateN xs m = true ∧ raceN xs m = true ∧ ∀ q ∈ qs, isQ ((xs.length : Nat) : Int) q = true := by
  unfold rgB at h
  rw [Bool.and_eq_true] at h
  have hc := chB_in h.2
  have hr := h.1
  unfold raceN shortN at hr
  simp only [Bool.and_eq_true, decide_eq_true_eq] at hr
  have hs := state_len hr.1.1.1
  exact ⟨⟨rfl, okS_of hr.1.1.1⟩, hs.1, by omega, hs.2.2.1, hr.1.2, by omega, hc.1, hc.2.1, hr.1.1.1, h.1, hc.2.2⟩
theorem iCode_eq {n : Nat} {m : Int} {xs : List Int} (hn : n ≤ 5) (hm : m ≤ 1) (h : okR n m xs) (M : Int) : F_impl_State_code xs M = some (digP 3 xs n) := by
  unfold F_impl_State_code
  simp only [jn]
  have hd := okR_dig (b := 3) h (by omega)
  refine loop_up (fun k i s => F_impl_State_code_L1 xs (fun v3 => some v3) k i s) (n : Int) (fun i => digP 3 xs i.toNat) _ ?_ ?_ (by omega) fuel (by have := fuel_ge; omega)
  · intro k i i0 i1
    obtain ⟨j, rfl⟩ := int_nat i0
    have e1 : ((j : Int) + 1).toNat = j + 1 := by omega
    have hb := digP_in (.inr rfl) hd j
    have hp : (3 : Int) ^ j ≤ 81 := by
      have : j ≤ 4 := by omega
      match j, this with
      | 0, _ | 1, _ | 2, _ | 3, _ | 4, _ => decide
    have hj := hd j
    have hl := h.1
    simp only [Int.toNat_natCast, e1]
    rw [F_impl_State_code_L1, ite_t (decide_eq_true (by omega)), chk_pos ⟨i0, by omega⟩, chk_pos (by unfold I64; omega)]
    simp only [nam, Int.toNat_natCast]
    rw [chk_pos (by unfold I64; omega), chk_pos (by unfold I64; omega), chk_pos (by unfold I64; omega), digP]
  · intro k
    have hl := h.1
    try simp only [Int.toNat_natCast]
    rw [F_impl_State_code_L1, ite_f (decide_eq_false (by omega))]
theorem b23 {m : Int} (h0 : 0 ≤ m) (hm : m ≤ 1) : m + 2 = 2 ∨ m + 2 = 3 := by omega
theorem pow23 {b : Int} (hb : b = 2 ∨ b = 3) {j : Nat} (h : j ≤ 5) : 1 ≤ b ^ j ∧ b ^ j ≤ 243 := by
  rcases hb with rfl | rfl
  · match j, h with
    | 0, _ | 1, _ | 2, _ | 3, _ | 4, _ | 5, _ => decide
  · match j, h with
    | 0, _ | 1, _ | 2, _ | 3, _ | 4, _ | 5, _ => decide
theorem sKey_eq {n : Nat} {m : Int} {xs : List Int} (hn : n ≤ 5) (hm : m ≤ 1) (h : okR n m xs) : F_spec_l6Key xs m = some (digP (m + 2) xs n) := by
  unfold F_spec_l6Key
  simp only [jn]
  have hd := okR_dig (b := m + 2) h (by omega)
  have hb := b23 h.2.2.1 hm
  refine loop_up (fun k i s => F_spec_l6Key_L1 xs m (fun v3 => some v3) k i s) (n : Int) (fun i => digP (m + 2) xs i.toNat) _ ?_ ?_ (by omega) fuel (by have := fuel_ge; omega)
  · intro k i i0 i1
    obtain ⟨j, rfl⟩ := int_nat i0
    have e1 : ((j : Int) + 1).toNat = j + 1 := by omega
    have hc := digP_in hb hd j
    have hp := pow23 hb (j := j) (by omega)
    have hj := hd j
    have hl := h.1
    have hmul : 0 ≤ digP (m + 2) xs j * (m + 2) ∧ digP (m + 2) xs j * (m + 2) ≤ 729 := by rcases hb with e | e <;> rw [e] at hp hc ⊢ <;> omega
    simp only [Int.toNat_natCast, e1]
    rw [F_spec_l6Key_L1, ite_t (decide_eq_true (by omega)), chk_pos (by unfold I64; omega), chk_pos (by unfold I64; omega), chk_pos ⟨i0, by omega⟩]
    simp only [nam, Int.toNat_natCast]
    rw [chk_pos (by unfold I64; omega), chk_pos (by unfold I64; omega), chk_pos (by unfold I64; omega), digP]
  · intro k
    have hl := h.1
    try simp only [Int.toNat_natCast]
    rw [F_spec_l6Key_L1, ite_f (decide_eq_false (by omega))]
theorem jn_p {γ δ : Type} {Q0 : Option δ → Prop} {f : γ} {g : γ → Option δ} (P : γ → Prop) (hf : P f) (hg : ∀ J, P J → Q0 (g J)) : Q0 (jn f g) := by
  unfold jn; exact hg f hf
theorem shortC_ok {bs : List Int} {p s : Int} (hy : okY bs) (h0 : 0 ≤ p) (h1 : p ≤ 600000000000) : ∃ xs m p' s', F_p_spec_l1Cur_short bs p s = some (xs, m, bs, p', s') ∧ p ≤ p' ∧ p' ≤ p + 110 ∧ -1 ≤ m ∧ m ≤ 3 ∧ xs.length ≤ 13 ∧ (∀ x ∈ xs, -1 ≤ x ∧ x ≤ 4) := by
  unfold F_p_spec_l1Cur_short
  obtain ⟨b, p1, s1, e1, g0, g1⟩ := one_ok (s := s) (n := 12) hy h0 (by omega)
  rw [bnd4_eq e1]
  cases b with
  | true =>
    obtain ⟨xs, m, p2, s2, e2, k0, k1, k2⟩ := state_ok (s := s1) (p := p1) hy (by omega) (by omega)
    rw [ite_t rfl, bnd5_eq e2]
    exact ⟨_, _, _, _, rfl, by omega, by omega, k2⟩
  | false =>
    obtain ⟨m, p2, s2, e2, k0, k1, k2, k3⟩ := pick_ok (s := s1) (n := 2) hy (p := p1) (by omega) (by omega)
    have k3 := k3 (by omega)
    rw [ite_f rfl, bnd4_eq e2]
    let Q : Option (List Int × Int × List Int × Int × Int) → Prop := fun o => ∃ xs m p' s', o = some (xs, m, bs, p', s') ∧ p ≤ p' ∧ p' ≤ p + 110 ∧ -1 ≤ m ∧ m ≤ 3 ∧ xs.length ≤ 13 ∧ (∀ x ∈ xs, -1 ≤ x ∧ x ≤ 4)
    refine jn_p (Q0 := Q) (fun J => ∀ pp ss xs, p ≤ pp → pp ≤ p + 110 → xs.length ≤ 13 → (∀ x ∈ xs, -1 ≤ x ∧ x ≤ 4) → Q (J bs pp ss xs)) (fun pp ss xs a1 a2 a3 a4 => ⟨_, _, _, _, rfl, a1, a2, by omega, by omega, a3, a4⟩) fun J hJ => ?_
    obtain ⟨k, p3, s3, e3, w0, w1, w2⟩ := among_ok (s := s2) (p := p2) (xs := [(4 : Int), (5 : Int), (3 : Int), (3 : Int), (2 : Int), (1 : Int), (4 : Int), (6 : Int)]) hy (by omega) (by omega) (by decide)
    have hk : 1 ≤ k ∧ k ≤ 6 := by
      simp only [List.mem_cons, List.not_mem_nil, or_false] at w2
      omega
    rw [bnd4_eq e3]
    refine loop_m (fun n (z : Int × Int × List Int × Int) => F_p_spec_l1Cur_short_L1 m J n bs z.1 z.2.1 z.2.2.1 z.2.2.2) (fun z => 0 ≤ z.2.2.2 ∧ z.2.2.2 ≤ k ∧ p ≤ z.1 ∧ z.1 ≤ p + 10 + 2 * (k - z.2.2.2) ∧ (z.2.2.1.length : Int) = k - z.2.2.2 ∧ ∀ x ∈ z.2.2.1, -1 ≤ x ∧ x ≤ 4) (fun z => z.2.2.2.toNat) Q ?_ fuel (p3, s3, [], k) ⟨by simp only; omega, by simp only; omega, by simp only; omega, by simp only; omega, by simp, fun x hx => by cases hx⟩ (by have := fuel_ge; simp only; omega)
    rintro n ⟨pp, ss, xs, i⟩ ⟨i0, i1, q0, q1, ql, qx⟩
    simp only at i0 i1 q0 q1 ql qx ⊢
    rw [F_p_spec_l1Cur_short_L1]
    by_cases hi : i > 0
    · obtain ⟨v, p4, s4, e4, y0, y1, y2⟩ := among_ok (s := ss) (p := pp) (xs := [(0 : Int), (0 : Int), m, (-1 : Int), (0 : Int)]) hy (by omega) (by omega) (by simp)
      have hv : -1 ≤ v ∧ v ≤ 4 := by
        simp only [List.mem_cons, List.not_mem_nil, or_false] at y2
        omega
      rw [ite_t (decide_eq_true hi), bnd4_eq e4, chk_pos ⟨by omega, by simp only [maxLen]; omega⟩, chk_pos (by unfold I64; omega)]
      refine .inl ⟨(p4, s4, xs ++ [v], i - 1), ⟨by simp only; omega, by simp only; omega, by simp only; omega, by simp only; omega, by simp only [List.length_append, List.length_singleton]; omega, fun x hx => ?_⟩, by simp only; omega, rfl⟩
      rcases List.mem_append.1 hx with h | h
      · exact qx x h
      · simp only [List.mem_cons, List.not_mem_nil, or_false] at h
        omega
    · rw [ite_f (decide_eq_false hi)]
      exact .inr (hJ pp ss xs q0 (by omega) (by omega) qx)
theorem rAsked_self (xs : List (Int × Bool)) (hx : xs.length ≤ 1048576) : F_laws_rAsked xs xs = some true := by
  unfold F_laws_rAsked
  rw [ite_f (bne_self_eq_false _)]
  simp only [jn]
  refine loop_up (fun k i (_ : Unit) => F_laws_rAsked_L1 xs xs (fun _ => some true) k i) (xs.length : Int) (fun _ => ()) (some true) ?_ ?_ (by omega) fuel (by have := fuel_ge; omega)
  · intro k i i0 i1
    rw [F_laws_rAsked_L1, ite_t (decide_eq_true i1), chk_pos ⟨i0, i1⟩, chk_pos ⟨i0, i1⟩]
    simp only [nam, beq_self_eq_true, Bool.and_self, Bool.not_true, cond_false]
    rw [chk_pos (by unfold I64; omega)]
  · intro k
    rw [F_laws_rAsked_L1, ite_f (decide_eq_false (by omega))]
/-- The question of a comparison. -/
def lqK (k : Nat) : Int := (1 : Int) * 2 ^ k - 1
theorem lqK_in {k : Nat} (h : k ≤ 12) : 0 ≤ lqK k ∧ lqK k ≤ 4095 := by
  unfold lqK
  match k, h with
  | 0, _ | 1, _ | 2, _ | 3, _ | 4, _ | 5, _ | 6, _ | 7, _ | 8, _ | 9, _ | 10, _ | 11, _ | 12, _ => decide
theorem cntL_zero {p : Int → Bool} {l : List Int} : ∀ i : Nat, cntL p l i = 0 → ∀ j, j < i → p (l.getD j 0) = false
  | 0, _, j, hj => by omega
  | i + 1, h, j, hj => by
    rw [cntL] at h
    have := cntL_in p l i
    cases hp : p (l.getD i 0) with
    | true => rw [hp] at h; simp only [cond_true] at h; omega
    | false =>
      rw [hp] at h; simp only [cond_false] at h
      by_cases e : j = i
      · rw [e]; exact hp
      · exact cntL_zero i (by omega) j (by omega)
theorem cntL_full {p : Int → Bool} {l : List Int} : ∀ i : Nat, cntL p l i = (i : Int) → ∀ j, j < i → p (l.getD j 0) = true
  | 0, _, j, hj => by omega
  | i + 1, h, j, hj => by
    rw [cntL] at h
    have := cntL_in p l i
    cases hp : p (l.getD i 0) with
    | false => rw [hp] at h; simp only [cond_false] at h; omega
    | true =>
      rw [hp] at h; simp only [cond_true] at h
      by_cases e : j = i
      · rw [e]; exact hp
      · exact cntL_full i (by omega) j (by omega)
theorem getD_of_mem {l : List Int} {x : Int} (h : x ∈ l) : ∃ i, i < l.length ∧ l.getD i 0 = x := by
  obtain ⟨i, hi, rfl⟩ := List.getElem_of_mem h
  exact ⟨i, hi, by simp [List.getD_eq_getElem?_getD, hi]⟩
/-- A question is vain if one of the answers leads back. -/
theorem vain_back {m q : Int} {xs : List Int} (h : okS xs m) : vainN xs q = true ↔ (ansN m q false xs = xs ∨ ansN m q true xs = xs) := by
  constructor
  · intro hv
    unfold vainN inN at hv
    rw [Bool.or_eq_true, beq_iff_eq, beq_iff_eq] at hv
    rcases hv with hv | hv
    · left
      refine getD_ext ansN_len fun i hi => ?_
      rw [ansN_len] at hi
      rw [ans_getD hi]
      by_cases h0 : xs.getD i 0 ≥ 0
      · obtain ⟨j, hj, e⟩ := getD_of_mem (mem_open.2 ⟨i, hi, h0, rfl⟩)
        have := cntL_zero _ hv j hj
        rw [e] at this
        exact lie_no (by unfold falseB; rw [this]; rfl)
      · exact lie_neg h0
    · right
      refine getD_ext ansN_len fun i hi => ?_
      rw [ansN_len] at hi
      rw [ans_getD hi]
      by_cases h0 : xs.getD i 0 ≥ 0
      · obtain ⟨j, hj, e⟩ := getD_of_mem (mem_open.2 ⟨i, hi, h0, rfl⟩)
        have := cntL_full _ hv j hj
        rw [e] at this
        exact lie_no (by unfold falseB; rw [this]; rfl)
      · exact lie_neg h0
  · intro hh
    cases hv : vainN xs q with
    | true => rfl
    | false =>
      rcases hh with e | e
      · have := mu_less (y := false) h hv; rw [e] at this; omega
      · have := mu_less (y := true) h hv; rw [e] at this; omega
/-- The need of a comparison, where it is not vain. -/
def ndO (rec : List Int → Int) (m : Int) (xs : List Int) (k : Nat) : Int := 1 + max (rec (ansN m (lqK k) false xs)) (rec (ansN m (lqK k) true xs))
def ndS (rec : List Int → Int) (m : Int) (xs : List Int) (b : Int) (k : Nat) : Int := if vainN xs (lqK k) = true then b else if b < 0 ∨ ndO rec m xs k < b then ndO rec m xs k else b
/-- The best of the comparisons 1, .. k. -/
def lsB (rec : List Int → Int) (m : Int) (xs : List Int) : Nat → Int
  | 0 => -1
  | k + 1 => ndS rec m xs (lsB rec m xs k) (k + 1)
def ndT (m : Int) : Nat → List Int → Int
  | 0, _ => 0
  | d + 1, xs => if (openN xs).length < 2 then 0 else lsB (ndT m d) m xs (xs.length - 1)
theorem lsB_congr {m : Int} {xs : List Int} {r r' : List Int → Int} (h : ∀ k y, vainN xs (lqK k) = false → r (ansN m (lqK k) y xs) = r' (ansN m (lqK k) y xs)) : ∀ k, lsB r m xs k = lsB r' m xs k
  | 0 => rfl
  | k + 1 => by
    rw [lsB, lsB, lsB_congr h k]
    unfold ndS
    cases hv : vainN xs (lqK (k + 1)) with
    | true => rw [if_pos rfl, if_pos rfl]
    | false =>
      have : ndO r m xs (k + 1) = ndO r' m xs (k + 1) := by unfold ndO; rw [h _ _ hv, h _ _ hv]
      rw [this]
theorem hasB_lq {k i : Nat} (hk : k ≤ 12) (hi : i ≤ 12) : hasB (lqK k) (i : Int) = decide (i < k) := by
  have key : ∀ k : Fin 13, ∀ i : Fin 13, hasB (lqK k.1) ((i.1 : Nat) : Int) = decide (i.1 < k.1) := by decide +kernel
  exact key ⟨k, by omega⟩ ⟨i, by omega⟩
theorem fl_sorted (p : Nat → Bool) : ∀ k, (fl p k).Pairwise (· < ·)
  | 0 => by simp [fl]
  | k + 1 => by
    cases hp : p k with
    | true =>
      rw [fl_yes hp, List.pairwise_append]
      refine ⟨fl_sorted p k, by simp, fun a ha b hb => ?_⟩
      obtain ⟨i, h1, h2, rfl⟩ := mem_fl.1 ha
      simp only [List.mem_singleton] at hb
      omega
    | false => rw [fl_no hp]; exact fl_sorted p k
/-- Where two numbers are open a comparison parts them. -/
theorem parts_two {n : Nat} {m : Int} {xs : List Int} (hn : n ≤ 5) (h : okR n m xs) (h2 : 2 ≤ (openN xs).length) : ∃ k, 1 ≤ k ∧ k ≤ n - 1 ∧ vainN xs (lqK k) = false := by
  have hl := h.1
  apply Classical.byContradiction
  intro hno
  have hall : ∀ k, 1 ≤ k → k ≤ n - 1 → vainN xs (lqK k) = true := fun k h1 h3 => by
    cases hv : vainN xs (lqK k) with
    | true => rfl
    | false => exact absurd ⟨k, h1, h3, hv⟩ hno
  -- two open numbers
  have hnd : ∃ i j : Nat, i < j ∧ j < xs.length ∧ 0 ≤ xs.getD i 0 ∧ 0 ≤ xs.getD j 0 := by
    apply Classical.byContradiction
    intro hn2
    have hone : ∀ a ∈ openN xs, ∀ b ∈ openN xs, a = b := by
      intro a ha b hb
      obtain ⟨i, i1, i2, rfl⟩ := mem_open.1 ha
      obtain ⟨j, j1, j2, rfl⟩ := mem_open.1 hb
      rcases Nat.lt_trichotomy i j with c | c | c
      · exact absurd ⟨i, j, c, j1, i2, j2⟩ hn2
      · rw [c]
      · exact absurd ⟨j, i, c, i1, j2, i2⟩ hn2
    have hd : (openN xs).Pairwise (· < ·) := by rw [openN_fl]; exact fl_sorted _ _
    match ho : openN xs with
    | [] => rw [ho] at h2; simp at h2
    | [a] => rw [ho] at h2; simp at h2
    | a :: b :: l =>
      rw [ho] at hd hone
      have e := hone a (by simp) b (by simp)
      have := List.rel_of_pairwise_cons hd (show b ∈ b :: l by simp)
      omega
  obtain ⟨i, j, c1, c2, c3, c4⟩ := hnd
  have hv := hall (i + 1) (by omega) (by omega)
  rw [vain_back (m := m) h.2] at hv
  rcases hv with e | e
  · have e1 : (ansN m (lqK (i + 1)) false xs).getD i 0 = xs.getD i 0 := by rw [e]
    rw [ans_getD (by omega)] at e1
    have hf : falseB (lqK (i + 1)) false (i : Int) = true := by unfold falseB; rw [hasB_lq (by omega) (by omega), decide_eq_true (by omega)]; rfl
    by_cases ho : xs.getD i 0 + 1 > m
    · rw [lie_over c3 hf ho] at e1; omega
    · rw [lie_up c3 hf ho] at e1; omega
  · have e1 : (ansN m (lqK (i + 1)) true xs).getD j 0 = xs.getD j 0 := by rw [e]
    rw [ans_getD (by omega)] at e1
    have hf : falseB (lqK (i + 1)) true (j : Int) = true := by unfold falseB; rw [hasB_lq (by omega) (by omega), decide_eq_false (by omega)]; rfl
    by_cases ho : xs.getD j 0 + 1 > m
    · rw [lie_over c4 hf ho] at e1; omega
    · rw [lie_up c4 hf ho] at e1; omega
theorem lsB_fact {rec : List Int → Int} {m : Int} {xs : List Int} (hpos : ∀ k y, vainN xs (lqK k) = false → 0 ≤ rec (ansN m (lqK k) y xs)) : ∀ K : Nat,
    (lsB rec m xs K = -1 ∧ ∀ k, 1 ≤ k → k ≤ K → vainN xs (lqK k) = true) ∨ (1 ≤ lsB rec m xs K ∧ (∀ k, 1 ≤ k → k ≤ K → vainN xs (lqK k) = false → lsB rec m xs K ≤ ndO rec m xs k) ∧ ∃ k, 1 ≤ k ∧ k ≤ K ∧ vainN xs (lqK k) = false ∧ lsB rec m xs K = ndO rec m xs k)
  | 0 => .inl ⟨rfl, fun k h1 h2 => by omega⟩
  | K + 1 => by
    have ih := lsB_fact hpos K
    rw [lsB]
    unfold ndS
    cases hv : vainN xs (lqK (K + 1)) with
    | true =>
      rw [if_pos rfl]
      rcases ih with ⟨h1, h2⟩ | ⟨h1, h2, k, h3, h4, h5, h6⟩
      · refine .inl ⟨h1, fun k k1 k2 => ?_⟩
        by_cases e : k = K + 1
        · rw [e]; exact hv
        · exact h2 k k1 (by omega)
      · refine .inr ⟨h1, fun k k1 k2 k3 => ?_, k, h3, by omega, h5, h6⟩
        by_cases e : k = K + 1
        · rw [e, hv] at k3; cases k3
        · exact h2 k k1 (by omega) k3
    | false =>
      have p0 := hpos (K + 1) false hv
      have hone : 1 ≤ ndO rec m xs (K + 1) := by unfold ndO; omega
      rw [if_neg (by simp)]
      by_cases hc : lsB rec m xs K < 0 ∨ ndO rec m xs (K + 1) < lsB rec m xs K
      · rw [if_pos hc]
        refine .inr ⟨hone, fun k k1 k2 k3 => ?_, K + 1, by omega, Nat.le_refl _, hv, rfl⟩
        by_cases e : k = K + 1
        · rw [e]; exact Int.le_refl _
        · rcases ih with ⟨h1, h2⟩ | ⟨h1, h2, _⟩
          · have := h2 k k1 (by omega); rw [k3] at this; cases this
          · have := h2 k k1 (by omega) k3; omega
      · rw [if_neg hc]
        rcases ih with ⟨h1, h2⟩ | ⟨h1, h2, k, h3, h4, h5, h6⟩
        · omega
        · refine .inr ⟨h1, fun k k1 k2 k3 => ?_, k, h3, by omega, h5, h6⟩
          by_cases e : k = K + 1
          · rw [e]; omega
          · exact h2 k k1 (by omega) k3
theorem nd_stable {n : Nat} {m : Int} (hn : n ≤ 5) : ∀ (d d' : Nat) (xs : List Int), okR n m xs → mu m xs ≤ d → mu m xs ≤ d' → ndT m d xs = ndT m d' xs := by
  have nil : ∀ (d : Nat) (xs : List Int), okR n m xs → mu m xs = 0 → ndT m d xs = 0 := by
    intro d xs h h0
    cases d with
    | zero => rfl
    | succ d =>
      rw [ndT, if_pos]
      apply Classical.byContradiction
      intro hc
      obtain ⟨k, _, _, hv⟩ := parts_two hn h (by omega)
      have := mu_less (y := true) h.2 hv
      omega
  intro d
  induction d with
  | zero => intro d' xs h h1 h2; rw [nil d' xs h (by omega)]; rfl
  | succ d ih =>
    intro d' xs h h1 h2
    cases d' with
    | zero => rw [nil (d + 1) xs h (by omega)]; rfl
    | succ d' =>
      rw [ndT, ndT, lsB_congr (r := ndT m d) (r' := ndT m d') (fun k y hv => by
        have := mu_less (y := y) h.2 hv
        exact ih d' _ (okR_ans h) (by omega) (by omega))]
/-- The less-need of a state. -/
def nd (m : Int) (xs : List Int) : Int := ndT m 20 xs
theorem lnd_eq {n : Nat} {m : Int} {xs : List Int} (hn : n ≤ 5) (hm : m ≤ 1) (h : okR n m xs) : nd m xs = if (openN xs).length < 2 then 0 else lsB (nd m) m xs (xs.length - 1) := by
  have hmu := mu_le h.2 hm
  have hl := h.1
  show ndT m 20 xs = _
  rw [ndT, lsB_congr (r := ndT m 19) (r' := nd m) (fun k y hv => by
    have := mu_less (y := y) h.2 hv
    exact nd_stable hn 19 20 _ (okR_ans h) (by omega) (by omega))]
theorem nd_all {n : Nat} {m : Int} (hn : n ≤ 5) (hm : m ≤ 1) : ∀ (d : Nat) (xs : List Int), okR n m xs → mu m xs ≤ d → 0 ≤ nd m xs ∧ nd m xs ≤ (d : Int) ∧ ((openN xs).length < 2 → nd m xs = 0) ∧ (2 ≤ (openN xs).length → 1 ≤ nd m xs ∧ (∀ k, 1 ≤ k → k ≤ n - 1 → vainN xs (lqK k) = false → nd m xs ≤ ndO (nd m) m xs k) ∧ ∃ k, 1 ≤ k ∧ k ≤ n - 1 ∧ vainN xs (lqK k) = false ∧ nd m xs = ndO (nd m) m xs k) := by
  intro d
  induction d with
  | zero =>
    intro xs h h0
    have hc : (openN xs).length < 2 := by
      apply Classical.byContradiction
      intro hc
      obtain ⟨k, _, _, hv⟩ := parts_two hn h (by omega)
      have := mu_less (y := true) h.2 hv
      omega
    rw [lnd_eq hn hm h, if_pos hc]
    exact ⟨Int.le_refl _, Int.le_refl _, fun _ => rfl, fun h2 => by omega⟩
  | succ d ih =>
    intro xs h h0
    have hl := h.1
    rw [lnd_eq hn hm h]
    by_cases hc : (openN xs).length < 2
    · rw [if_pos hc]
      exact ⟨Int.le_refl _, by omega, fun _ => rfl, fun h2 => by omega⟩
    · rw [if_neg hc, hl]
      have hpos : ∀ k y, vainN xs (lqK k) = false → 0 ≤ nd m (ansN m (lqK k) y xs) ∧ nd m (ansN m (lqK k) y xs) ≤ (d : Int) := fun k y hv => by
        have := mu_less (y := y) h.2 hv
        have := ih _ (okR_ans (q := lqK k) (y := y) h) (by omega)
        exact ⟨this.1, this.2.1⟩
      rcases lsB_fact (rec := nd m) (m := m) (xs := xs) (fun k y hv => (hpos k y hv).1) (n - 1) with ⟨h1, h2⟩ | ⟨h1, h2, k, h3, h4, h5, h6⟩
      · obtain ⟨k, k1, k2, hv⟩ := parts_two hn h (by omega)
        have := h2 k k1 k2; rw [hv] at this; cases this
      · have p1 := hpos k false h5
        have p2 := hpos k true h5
        refine ⟨by omega, ?_, fun hh => absurd hh hc, fun _ => ⟨h1, h2, k, h3, h4, h5, h6⟩⟩
        rw [h6]; unfold ndO; omega
theorem nd_in {n : Nat} {m : Int} {xs : List Int} (hn : n ≤ 5) (hm : m ≤ 1) (h : okR n m xs) : 0 ≤ nd m xs ∧ nd m xs ≤ 10 := by
  have hmu := mu_le h.2 hm
  have hl := h.1
  have := nd_all hn hm 10 xs h (by omega)
  exact ⟨this.1, this.2.1⟩
theorem nd_two {n : Nat} {m : Int} {xs : List Int} (hn : n ≤ 5) (hm : m ≤ 1) (h : okR n m xs) (h2 : 2 ≤ (openN xs).length) : 1 ≤ nd m xs ∧ (∀ k, 1 ≤ k → k ≤ n - 1 → vainN xs (lqK k) = false → nd m xs ≤ ndO (nd m) m xs k) ∧ ∃ k, 1 ≤ k ∧ k ≤ n - 1 ∧ vainN xs (lqK k) = false ∧ nd m xs = ndO (nd m) m xs k := by
  have hmu := mu_le h.2 hm
  have hl := h.1
  exact (nd_all hn hm 10 xs h (by omega)).2.2.2 h2
theorem nd_few {n : Nat} {m : Int} {xs : List Int} (hn : n ≤ 5) (hm : m ≤ 1) (h : okR n m xs) (h2 : (openN xs).length < 2) : nd m xs = 0 := by
  rw [lnd_eq hn hm h, if_pos h2]
theorem iLess_eq {k : Nat} (h : k ≤ 12) : F_impl_less (k : Int) = some (lqK k) := by
  have := lqK_in h
  have hp : (1 : Int) * 2 ^ k = lqK k + 1 := by unfold lqK; omega
  unfold F_impl_less
  simp only [nam, Int.toNat_natCast]
  rw [hp, chk_pos ⟨by omega, by omega, by unfold I64; omega⟩, chk_pos (by unfold I64; omega), show lqK k + 1 - 1 = lqK k by omega]
def NI (n : Nat) (m : Int) (w : List (Int × Int)) : Prop := ∀ ys, okR n m ys → ∀ b, mget w (digP 3 ys n) = some b → b = nd m ys
theorem NI_nil (n : Nat) (m : Int) : NI n m [] := fun ys hy b hb => by cases hb
theorem NI_put {n : Nat} {m : Int} {xs : List Int} {w : List (Int × Int)} (hm : m ≤ 1) (h : NI n m w) (hx : okR n m xs) : NI n m (mput w (digP 3 xs n) (nd m xs)) := by
  intro ys hy b hb
  rw [mget_put] at hb
  split at hb
  · rename_i e
    have := dig_inj (.inr rfl) (by omega) hy hx e
    subst this
    exact (Option.some.inj hb).symm
  · exact h ys hy b hb
abbrev NeedF := List (Int × Int) → List Int → Int → Option (Int × List (Int × Int))
def NeedOk (n : Nat) (m : Int) (self : NeedF) (xs : List Int) : Prop := ∀ w, NI n m w → ∃ w', self w xs m = some (nd m xs, w') ∧ NI n m w'
theorem iEqual_eq {n : Nat} {m : Int} {xs ys : List Int} (hn : n ≤ 5) (hm : m ≤ 1) (h : okR n m xs) (h2 : okR n m ys) : F_impl_State_isEqual ys m xs m = some (decide (ys = xs)) := by
  unfold F_impl_State_isEqual
  rw [bnd1_eq (iCode_eq hn hm h2 m), bnd1_eq (iCode_eq hn hm h m)]
  congr 1
  rw [Bool.eq_iff_iff, beq_iff_eq, decide_eq_true_iff]
  exact ⟨fun e => dig_inj (.inr rfl) (by omega) h2 h e, fun e => by rw [e]⟩
theorem iOfLess_step {n k : Nat} {m : Int} {xs : List Int} {self : NeedF} (hn : n ≤ 5) (hm : m ≤ 1) (h : okR n m xs) (hk : k ≤ 12) (H : vainN xs (lqK k) = false → ∀ y, NeedOk n m self (ansN m (lqK k) y xs)) (w : List (Int × Int)) (hw : NI n m w) :
    ∃ w', F_impl_lesser_ofLess_B self w xs m (k : Int) = some (if vainN xs (lqK k) = true then 0 else ndO (nd m) m xs k, !vainN xs (lqK k), w') ∧ NI n m w' := by
  unfold F_impl_lesser_ofLess_B
  rw [bnd1_eq (iLess_eq hk), chk_pos h.2]
  have e1 := iEqual_eq hn hm h (okR_ans (q := lqK k) (y := false) h)
  have e2 := iEqual_eq hn hm h (okR_ans (q := lqK k) (y := true) h)
  refine jn_q (Q0 := fun o => ∃ w', o = some (if vainN xs (lqK k) = true then 0 else ndO (nd m) m xs k, !vainN xs (lqK k), w') ∧ NI n m w') (fun J : Bool → Option (Int × Bool × List (Int × Int)) => J (vainN xs (lqK k))) (fun J => ?_) ?_
  · rw [bnd1_eq e1]
    have hvb := vain_back (m := m) (q := lqK k) h.2
    by_cases c1 : ansN m (lqK k) false xs = xs
    · rw [decide_eq_true c1, ite_t rfl, hvb.2 (.inl c1)]
    · rw [decide_eq_false c1, ite_f rfl, bnd1_eq e2]
      by_cases c2 : ansN m (lqK k) true xs = xs
      · rw [decide_eq_true c2, hvb.2 (.inr c2)]
      · rw [decide_eq_false c2]
        cases hv : vainN xs (lqK k) with
        | false => rfl
        | true => rcases hvb.1 hv with c | c
                  · exact absurd c c1
                  · exact absurd c c2
  · cases hv : vainN xs (lqK k) with
    | true => exact ⟨w, rfl, hw⟩
    | false =>
      obtain ⟨w1, g1, hw1⟩ := H hv false w hw
      obtain ⟨w2, g2, hw2⟩ := H hv true w1 hw1
      have b1 := nd_in hn hm (okR_ans (q := lqK k) (y := false) h)
      have b2 := nd_in hn hm (okR_ans (q := lqK k) (y := true) h)
      rw [ite_f rfl, bnd2_eq g1, bnd2_eq g2, chk_pos (by unfold I64; omega)]
      exact ⟨w2, rfl, hw2⟩
theorem iNeed_step {n : Nat} {m : Int} {xs : List Int} {self : NeedF} (hn : n ≤ 5) (hm : m ≤ 1) (h : okR n m xs) (H : ∀ k, vainN xs (lqK k) = false → ∀ y, NeedOk n m self (ansN m (lqK k) y xs)) : NeedOk n m (F_impl_lesser_need_B self) xs := by
  intro w hw
  have hl := h.1
  unfold F_impl_lesser_need_B
  rw [chk_pos (by omega)]
  by_cases h2 : (openN xs).length < 2
  · rw [ite_t (decide_eq_true (by omega)), nd_few hn hm h h2]
    exact ⟨w, rfl, hw⟩
  · rw [ite_f (decide_eq_false (by omega)), bnd1_eq (iCode_eq hn hm h m)]
    simp only [nam]
    cases hg : mget w (digP 3 xs n) with
    | some b =>
      rw [ite_t (show (some b).isSome = true from rfl), hw xs h b hg]
      exact ⟨w, rfl, hw⟩
    | none =>
      rw [ite_f (show (none : Option Int).isSome = false from rfl)]
      simp only [jn]
      refine loop_st (fun g i (s : List (Int × Int) × Int) => F_impl_lesser_need_B_L1 xs m self (fun o500 v7 => bnd1 (F_impl_State_code xs m) fun r53 => some (v7, mput o500 r53 v7)) g s.1 (i + 1) s.2) (n - 1)
        (fun i s => s.2 = lsB (nd m) m xs i ∧ NI n m s.1) (fun o => ∃ w', o = some (nd m xs, w') ∧ NI n m w') ?_ ?_ (w, -1) ⟨rfl, hw⟩ fuel (by have := fuel_ge; omega)
      · rintro g i ⟨w1, v⟩ hi ⟨rfl, hw1⟩
        dsimp only at hw1 ⊢
        have ei : (i : Int) + 1 = ((i + 1 : Nat) : Int) := by omega
        obtain ⟨w2, e2, hw2⟩ := iOfLess_step (k := i + 1) hn hm h (by omega) (H (i + 1)) w1 hw1
        left
        refine ⟨(w2, lsB (nd m) m xs (i + 1)), ⟨rfl, hw2⟩, ?_⟩
        rw [ei, F_impl_lesser_need_B_L1, ite_t (decide_eq_true (by omega)), bnd3_eq e2, lsB]
        unfold ndS
        cases hv : vainN xs (lqK (i + 1)) with
        | true =>
          refine jn_is (fun J => J false) (fun J => rfl) ?_
          rw [ite_f rfl, chk_pos (by unfold I64; omega)]; rfl
        | false =>
          by_cases hc : lsB (nd m) m xs i < 0 ∨ ndO (nd m) m xs (i + 1) < lsB (nd m) m xs i
          · refine jn_is (fun J => J true) (fun J => ?_) ?_
            · rw [ite_t (show (!false) = true from rfl)]
              rcases Int.lt_or_le (lsB (nd m) m xs i) 0 with c | c
              · rw [ite_t (decide_eq_true c)]
              · rw [ite_f (decide_eq_false (by omega)), if_neg (by simp), decide_eq_true (by omega)]
            · rw [ite_t rfl, chk_pos (by unfold I64; omega), if_neg (by simp), if_neg (by simp), if_pos hc]
          · refine jn_is (fun J => J false) (fun J => ?_) ?_
            · rw [ite_t (show (!false) = true from rfl), ite_f (decide_eq_false (by omega)), if_neg (by simp), decide_eq_false (by omega)]
            · rw [ite_f rfl, chk_pos (by unfold I64; omega), if_neg (by simp), if_neg hc]
      · rintro g ⟨w1, v⟩ ⟨rfl, hw1⟩
        dsimp only at hw1 ⊢
        have he : lsB (nd m) m xs (n - 1) = nd m xs := by rw [lnd_eq hn hm h, if_neg h2, hl]
        rw [F_impl_lesser_need_B_L1, ite_f (decide_eq_false (by omega)), bnd1_eq (iCode_eq hn hm h m), he]
        exact ⟨_, rfl, NI_put hm hw1 h⟩
theorem iNeed_eq {n : Nat} {m : Int} (hn : n ≤ 5) (hm : m ≤ 1) : ∀ (d g : Nat) (xs : List Int), okR n m xs → mu m xs ≤ d → d < g → NeedOk n m (F_impl_lesser_need g) xs := by
  intro d
  induction d with
  | zero =>
    intro g xs h h0 hg
    obtain ⟨g, rfl⟩ : ∃ x, g = x + 1 := ⟨g - 1, by omega⟩
    intro w hw
    rw [F_impl_lesser_need]
    refine iNeed_step hn hm h (fun k hv => ?_) w hw
    have := mu_less (y := true) h.2 hv
    omega
  | succ d ih =>
    intro g xs h h0 hg
    obtain ⟨g, rfl⟩ : ∃ x, g = x + 1 := ⟨g - 1, by omega⟩
    intro w hw
    rw [F_impl_lesser_need]
    refine iNeed_step hn hm h (fun k hv y => ?_) w hw
    have := mu_less (y := y) h.2 hv
    exact ih g _ (okR_ans h) (by omega) (by omega)
theorem iNeed_top {n : Nat} {m : Int} {xs : List Int} (hn : n ≤ 5) (hm : m ≤ 1) (h : okR n m xs) : NeedOk n m (F_impl_lesser_need fuel) xs :=
  iNeed_eq hn hm (mu m xs) fuel xs h (Nat.le_refl _) (by have := mu_le h.2 hm; have := h.1; have := fuel_ge; omega)
theorem sStart_eq (n : Nat) (m : Int) (h : n ≤ 60) : F_spec_l2Start (n : Int) m = some (List.replicate n 0, m) := by
  unfold F_spec_l2Start
  rw [chk_pos ⟨by omega, by omega, by omega, by simp only [maxLen]; omega⟩, Int.toNat_natCast]
theorem sOfL_eq {n : Nat} {m b : Int} (hn : n ≤ 5) (hm : 0 ≤ m ∧ m ≤ 1) (hb : b = m + 2) : ∀ (i g : Nat) (l : List Int) (key : Int), i ≤ n → i < g → l.length = n → 0 ≤ key → key < b ^ i →
    ∃ ys : List Int, F_spec_l6Of_L1 m (fun o => some (o, m)) g l ((i : Int) - 1) key = some (ys, m) ∧ ys.length = n ∧ (∀ j, i ≤ j → ys.getD j 0 = l.getD j 0) ∧ (∀ j, j < i → -1 ≤ ys.getD j 0 ∧ ys.getD j 0 ≤ m) ∧ digP b ys i = key := by
  intro i
  induction i with
  | zero =>
    intro g l key _ hg hl h0 h1
    obtain ⟨g, rfl⟩ : ∃ x, g = x + 1 := ⟨g - 1, by omega⟩
    rw [F_spec_l6Of_L1, ite_f (decide_eq_false (by omega))]
    simp only [Int.pow_zero] at h1
    exact ⟨l, rfl, hl, fun j _ => rfl, fun j hj => by omega, by simp only [digP]; omega⟩
  | succ i ih =>
    intro g l key hi hg hl h0 h1
    obtain ⟨g, rfl⟩ : ∃ x, g = x + 1 := ⟨g - 1, by omega⟩
    have hb2 : b = 2 ∨ b = 3 := by omega
    have hp := pow23 hb2 (j := i) (by omega)
    have hp1 := pow23 hb2 (j := i + 1) (by omega)
    rw [Int.pow_succ] at h1 hp1
    have et : Int.tmod key b = key % b := Int.tmod_eq_emod_of_nonneg h0
    have ed : Int.tdiv key b = key / b := Int.tdiv_eq_ediv_of_nonneg h0
    have hmod := Int.emod_nonneg key (b := b) (by omega)
    have hmod2 := Int.emod_lt_of_pos key (b := b) (by omega)
    have hdm := Int.emod_add_mul_ediv key b
    have hd0 : 0 ≤ key / b := Int.ediv_nonneg h0 (by omega)
    have hd1 : key / b < b ^ i := Int.ediv_lt_of_lt_mul (by omega) h1
    obtain ⟨ys, e, k1, k2, k3, k4⟩ := ih g (l.set i (key % b - 1)) (key / b) (by omega) (by omega) (by rw [List.length_set]; exact hl) hd0 hd1
    have hyi : ys.getD i 0 = key % b - 1 := by rw [k2 i (Nat.le_refl _), set_getD _ _ _ _ (by omega)]
    have hib : key ≤ 243 := by omega
    rw [F_spec_l6Of_L1, ite_t (decide_eq_true (by omega)), chk_pos (by unfold I64; omega), chk_pos (by omega), ← hb, et, ed, chk_pos (by unfold I64; omega)]
    simp only [nam]
    have hdle : key / b ≤ 243 := by omega
    rw [chk_pos ⟨by omega, by omega⟩, chk_pos (by unfold I64; omega), chk_pos (by unfold I64; omega), show (((i + 1 : Nat) : Int) - 1).toNat = i by omega, show ((i + 1 : Nat) : Int) - 1 - 1 = (i : Int) - 1 by omega]
    refine ⟨ys, e, k1, fun j hj => ?_, fun j hj => ?_, ?_⟩
    · rw [k2 j (by omega), List.getD_eq_getElem?_getD, List.getElem?_set_ne (by omega), ← List.getD_eq_getElem?_getD]
    · by_cases ej : j = i
      · rw [ej, hyi]; omega
      · exact k3 j (by omega)
    · rw [digP, k4, hyi]
      have : key / b * b = b * (key / b) := Int.mul_comm _ _
      omega
theorem sOf_ex {n : Nat} {m key : Int} (hn : n ≤ 5) (hm : 0 ≤ m ∧ m ≤ 1) (h0 : 0 ≤ key) (h1 : key < (m + 2) ^ n) : ∃ ys : List Int, F_spec_l6Of key (n : Int) m = some (ys, m) ∧ okR n m ys ∧ digP (m + 2) ys n = key := by
  obtain ⟨ys, e, k1, k2, k3, k4⟩ := sOfL_eq hn hm rfl n fuel (List.replicate n 0) key (Nat.le_refl _) (by have := fuel_ge; omega) (by rw [List.length_replicate]) h0 h1
  refine ⟨ys, ?_, ⟨k1, by omega, by omega, by omega, fun i => ?_⟩, k4⟩
  · unfold F_spec_l6Of
    rw [bnd2_eq (sStart_eq n m (by omega))]
    simp only [jn]
    rw [chk_pos (by unfold I64; omega), e]
  · by_cases hi : i < n
    · exact k3 i hi
    · rw [List.getD_eq_getElem?_getD, List.getElem?_eq_none (by omega)]
      simp only [Option.getD_none]; omega
/-- The state of a number. -/
noncomputable def stK (n : Nat) (m key : Int) : List Int := Classical.epsilon fun ys => okR n m ys ∧ digP (m + 2) ys n = key
theorem sOf_eq {n : Nat} {m key : Int} (hn : n ≤ 5) (hm : 0 ≤ m ∧ m ≤ 1) (h0 : 0 ≤ key) (h1 : key < (m + 2) ^ n) : F_spec_l6Of key (n : Int) m = some (stK n m key, m) ∧ okR n m (stK n m key) ∧ digP (m + 2) (stK n m key) n = key := by
  obtain ⟨ys, e, h2, h3⟩ := sOf_ex hn hm h0 h1
  have hs := Classical.epsilon_spec (p := fun ys => okR n m ys ∧ digP (m + 2) ys n = key) ⟨ys, h2, h3⟩
  have : stK n m key = ys := dig_inj (b23 hm.1 hm.2) (Int.le_refl _) hs.1 h2 (hs.2.trans h3.symm)
  rw [this]
  exact ⟨e, h2, h3⟩
theorem stK_dig {n : Nat} {m : Int} {xs : List Int} (hm : 0 ≤ m ∧ m ≤ 1) (h : okR n m xs) : stK n m (digP (m + 2) xs n) = xs := by
  have hs := Classical.epsilon_spec (p := fun ys => okR n m ys ∧ digP (m + 2) ys n = digP (m + 2) xs n) ⟨xs, h, rfl⟩
  exact dig_inj (b23 hm.1 hm.2) (Int.le_refl _) hs.1 h hs.2
theorem sAfterK_eq {n k : Nat} {m : Int} {xs : List Int} (h : okR n m xs) (hk : k ≤ 12) (y : Bool) : F_spec_l6After xs m (k : Int) y = some (ansN m (lqK k) y xs, m) := by
  have := lqK_in hk
  have hp : (1 : Int) * 2 ^ k = lqK k + 1 := by unfold lqK; omega
  unfold F_spec_l6After
  simp only [nam, Int.toNat_natCast]
  rw [hp, chk_pos ⟨by omega, by omega, by unfold I64; omega⟩, chk_pos (by unfold I64; omega), chk_pos h.2, show lqK k + 1 - 1 = lqK k by omega]
/-- The need of a state's number. -/
noncomputable def ndK (n : Nat) (m key : Int) : Int := nd m (stK n m key)
/-- The table in round r: what is less than r is known. -/
def NTr (n : Nat) (m : Int) (r : Int) (f : List Int) : Prop := (f.length : Int) = (m + 2) ^ n ∧ ∀ key : Nat, (key : Int) < (m + 2) ^ n → f.getD key 0 = if ndK n m key < r then ndK n m key else -1
/-- What is left in round r. -/
noncomputable def lfR (n : Nat) (m : Int) (r : Int) : List Int := ((List.range ((m + 2) ^ n).toNat).map fun (k : Nat) => (k : Int)).filter fun key => decide (r ≤ ndK n m key)
theorem lfR_mem {n : Nat} {m r key : Int} (h : key ∈ lfR n m r) : 0 ≤ key ∧ key < (m + 2) ^ n ∧ r ≤ ndK n m key := by
  unfold lfR at h
  rw [List.mem_filter, List.mem_map] at h
  obtain ⟨⟨k, h1, rfl⟩, h2⟩ := h
  rw [List.mem_range] at h1
  exact ⟨by omega, by omega, of_decide_eq_true h2⟩
theorem lfR_len {n : Nat} {m r : Int} (hn : n ≤ 5) (hm : 0 ≤ m ∧ m ≤ 1) : (lfR n m r).length ≤ 243 := by
  have := pow23 (b23 hm.1 hm.2) hn
  unfold lfR
  refine Nat.le_trans (List.length_filter_le _ _) ?_
  rw [List.length_map, List.length_range]; omega
theorem ndK_in {n : Nat} {m key : Int} (hn : n ≤ 5) (hm : 0 ≤ m ∧ m ≤ 1) (h0 : 0 ≤ key) (h1 : key < (m + 2) ^ n) : 0 ≤ ndK n m key ∧ ndK n m key ≤ 10 := nd_in hn hm.2 (sOf_eq hn hm h0 h1).2.1
theorem NTr_at {n : Nat} {m r : Int} {f xs : List Int} (hn : n ≤ 5) (hm : 0 ≤ m ∧ m ≤ 1) (hf : NTr n m r f) (h : okR n m xs) : 0 ≤ digP (m + 2) xs n ∧ digP (m + 2) xs n < ((f.length : Nat) : Int) ∧ f.getD (digP (m + 2) xs n).toNat 0 = if nd m xs < r then nd m xs else -1 := by
  have hd := digP_in (b23 hm.1 hm.2) (okR_dig h (Int.le_refl _)) n
  obtain ⟨k, hk⟩ := int_nat hd.1
  have := hf.2 k (by omega)
  refine ⟨hd.1, by rw [hf.1]; omega, ?_⟩
  rw [hk, Int.toNat_natCast, this]
  unfold ndK
  rw [← hk, stK_dig hm h]
/-- Who is found in round r. -/
theorem found_iff {n : Nat} {m r : Int} {xs : List Int} (hn : n ≤ 5) (hm : 0 ≤ m ∧ m ≤ 1) (h : okR n m xs) (h1 : 1 ≤ r) (hr : r ≤ nd m xs) : (∃ k, 1 ≤ k ∧ k ≤ n - 1 ∧ nd m (ansN m (lqK k) true xs) < r ∧ nd m (ansN m (lqK k) false xs) < r) ↔ nd m xs = r := by
  have h2 : 2 ≤ (openN xs).length := by
    apply Classical.byContradiction
    intro hc
    have := nd_few hn hm.2 h (by omega)
    omega
  obtain ⟨g1, g2, k0, g3, g4, g5, g6⟩ := nd_two hn hm.2 h h2
  constructor
  · rintro ⟨k, k1, k2, k3, k4⟩
    have hv : vainN xs (lqK k) = false := by
      cases hv : vainN xs (lqK k) with
      | false => rfl
      | true =>
        rcases (vain_back (m := m) h.2).1 hv with e | e
        · rw [e] at k4; omega
        · rw [e] at k3; omega
    have := g2 k k1 k2 hv
    unfold ndO at this
    omega
  · intro e
    unfold ndO at g6
    exact ⟨k0, g3, g4, by omega, by omega⟩
theorem sL5_eq {n : Nat} {m r : Int} {f xs : List Int} (hn : n ≤ 5) (hm : 0 ≤ m ∧ m ≤ 1) (hf : NTr n m r f) (h : okR n m xs) (h1 : 1 ≤ r) (hr : r ≤ nd m xs) (J : Bool → Option (List Int)) : F_spec_l6Needs_L5 (n : Int) f xs m J fuel 1 false = J (decide (nd m xs = r)) := by
  have hfi := found_iff hn hm h h1 hr
  let gd : Nat → Prop := fun k => nd m (ansN m (lqK k) true xs) < r ∧ nd m (ansN m (lqK k) false xs) < r
  have hbound : ∀ k y, 0 ≤ nd m (ansN m (lqK k) y xs) := fun k y => (nd_in hn hm.2 (okR_ans h)).1
  refine loop_st (fun g i (b : Bool) => F_spec_l6Needs_L5 (n : Int) f xs m J g (i + 1) b) (n - 1) (fun i b => (b = false ∧ ∀ k, 1 ≤ k → k ≤ i → ¬ gd k) ∨ (b = true ∧ nd m xs = r)) (fun o => o = J (decide (nd m xs = r))) ?_ ?_ false (.inl ⟨rfl, fun k a b => by omega⟩) fuel (by have := fuel_ge; omega)
  · rintro g i b hi hb
    have ei : (i : Int) + 1 = ((i + 1 : Nat) : Int) := by omega
    rcases hb with ⟨rfl, hno⟩ | ⟨rfl, hyes⟩
    · have a1 := NTr_at hn hm hf (okR_ans (q := lqK (i + 1)) (y := true) h)
      have a2 := NTr_at hn hm hf (okR_ans (q := lqK (i + 1)) (y := false) h)
      have p1 := hbound (i + 1) true
      have p2 := hbound (i + 1) false
      left
      rw [ei, F_spec_l6Needs_L5]
      simp only [jn]
      rw [ite_t (decide_eq_true (by omega)), ite_t (show (!false) = true from rfl), bnd2_eq (sAfterK_eq h (by omega) true), bnd1_eq (sKey_eq hn hm.2 (okR_ans h)), chk_pos ⟨a1.1, a1.2.1⟩]
      by_cases c1 : nd m (ansN m (lqK (i + 1)) true xs) < r
      · rw [ite_t (decide_eq_true (by rw [a1.2.2, if_pos c1]; exact p1)), bnd2_eq (sAfterK_eq h (by omega) false), bnd1_eq (sKey_eq hn hm.2 (okR_ans h)), chk_pos ⟨a2.1, a2.2.1⟩, chk_pos (by unfold I64; omega)]
        by_cases c2 : nd m (ansN m (lqK (i + 1)) false xs) < r
        · refine ⟨true, .inr ⟨rfl, hfi.1 ⟨i + 1, by omega, by omega, c1, c2⟩⟩, ?_⟩
          rw [decide_eq_true (by rw [a2.2.2, if_pos c2]; exact p2)]
        · refine ⟨false, .inl ⟨rfl, fun k k1 k2 => ?_⟩, ?_⟩
          · by_cases e : k = i + 1
            · rw [e]; exact fun hh => c2 hh.2
            · exact hno k k1 (by omega)
          · rw [decide_eq_false (by rw [a2.2.2, if_neg c2]; omega)]
      · refine ⟨false, .inl ⟨rfl, fun k k1 k2 => ?_⟩, ?_⟩
        · by_cases e : k = i + 1
          · rw [e]; exact fun hh => c1 hh.1
          · exact hno k k1 (by omega)
        · rw [ite_f (decide_eq_false (by rw [a1.2.2, if_neg c1]; omega)), chk_pos (by unfold I64; omega)]
    · right
      rw [F_spec_l6Needs_L5]
      simp only [jn]
      rw [decide_eq_true hyes]
      cases decide ((i : Int) + 1 < (n : Int)) with
      | true => rw [ite_t rfl, ite_f (show (!true) = false from rfl)]
      | false => rw [ite_f rfl, ite_f rfl]
  · rintro g b hb
    rw [F_spec_l6Needs_L5]
    simp only [jn]
    rw [ite_f (decide_eq_false (by omega)), ite_f rfl]
    rcases hb with ⟨rfl, hno⟩ | ⟨rfl, hyes⟩
    · rw [decide_eq_false]
      intro e
      obtain ⟨k, k1, k2, k3, k4⟩ := hfi.2 e
      exact hno k k1 k2 ⟨k3, k4⟩
    · rw [decide_eq_true hyes]
theorem filter_take_suc2 {α : Type} {p : α → Bool} {l : List α} {d : α} {i : Nat} (h : i < l.length) : (l.take (i + 1)).filter p = (l.take i).filter p ++ (if p (l.getD i d) = true then [l.getD i d] else []) := by
  have e : l.take (i + 1) = l.take i ++ [l.getD i d] := by
    rw [List.take_add_one]; simp [List.getD_eq_getElem?_getD, h]
  rw [e, List.filter_append, List.filter_cons]
  split <;> simp
theorem sL4_eq {n : Nat} {m r : Int} {f : List Int} (hn : n ≤ 5) (hm : 0 ≤ m ∧ m ≤ 1) (hf : NTr n m r f) (h1 : 1 ≤ r) (J : List Int → List Int → Option (List Int)) : F_spec_l6Needs_L4 (n : Int) m f (lfR n m r) J fuel [] [] 0 = J ((lfR n m r).filter fun key => decide (ndK n m key = r)) ((lfR n m r).filter fun key => !decide (ndK n m key = r)) := by
  have hll := lfR_len (r := r) hn hm
  refine loop_st (fun g i (s : List Int × List Int) => F_spec_l6Needs_L4 (n : Int) m f (lfR n m r) J g s.1 s.2 i) (lfR n m r).length
    (fun i s => s.1 = ((lfR n m r).take i).filter (fun key => decide (ndK n m key = r)) ∧ s.2 = ((lfR n m r).take i).filter (fun key => !decide (ndK n m key = r)))
    (fun o => o = J ((lfR n m r).filter fun key => decide (ndK n m key = r)) ((lfR n m r).filter fun key => !decide (ndK n m key = r))) ?_ ?_ ([], []) ⟨rfl, rfl⟩ fuel (by have := fuel_ge; omega)
  · rintro g i ⟨a, b⟩ hi ⟨rfl, rfl⟩
    have hmem : (lfR n m r).getD i 0 ∈ lfR n m r := getD_in (P := fun z => z ∈ lfR n m r) hi fun z hz => hz
    have la : (((lfR n m r).take i).filter (fun key => decide (ndK n m key = r))).length ≤ 243 := Nat.le_trans (List.length_filter_le _ _) (by rw [List.length_take]; omega)
    have lb : (((lfR n m r).take i).filter (fun key => !decide (ndK n m key = r))).length ≤ 243 := Nat.le_trans (List.length_filter_le _ _) (by rw [List.length_take]; omega)
    left
    refine ⟨(((lfR n m r).take (i + 1)).filter (fun key => decide (ndK n m key = r)), ((lfR n m r).take (i + 1)).filter (fun key => !decide (ndK n m key = r))), ⟨rfl, rfl⟩, ?_⟩
    rw [filter_take_suc2 (d := 0) hi, filter_take_suc2 (d := 0) hi]
    dsimp only
    rw [F_spec_l6Needs_L4]
    obtain ⟨key, hkey⟩ : ∃ key, (lfR n m r).getD i 0 = key := ⟨_, rfl⟩
    rw [hkey] at hmem
    simp only [Int.toNat_natCast, hkey]
    obtain ⟨q1, q2, q3⟩ := lfR_mem hmem
    obtain ⟨e1, e2, e3⟩ := sOf_eq hn hm q1 q2
    have ei : ((i : Int) + 1) = ((i + 1 : Nat) : Int) := by omega
    simp only [jn]
    rw [ite_t (decide_eq_true (by omega)), chk_pos ⟨by omega, by omega⟩, bnd2_eq e1, sL5_eq hn hm hf e2 h1 q3]
    by_cases c : ndK n m key = r
    · rw [decide_eq_true (show nd m (stK n m key) = r from c), ite_t rfl, chk_pos ⟨by omega, by simp only [maxLen]; omega⟩, chk_pos (by unfold I64; omega), ei, decide_eq_true c, if_pos rfl, if_neg (by simp), List.append_nil]
    · rw [decide_eq_false (show ¬ nd m (stK n m key) = r from c), ite_f rfl, chk_pos ⟨by omega, by simp only [maxLen]; omega⟩, chk_pos (by unfold I64; omega), ei, decide_eq_false c, if_neg (by simp), if_pos (show (!false) = true from rfl), List.append_nil]
  · rintro g ⟨a, b⟩ ⟨rfl, rfl⟩
    dsimp only
    rw [F_spec_l6Needs_L4, ite_f (decide_eq_false (by omega)), List.take_length]
theorem mem_take_suc {l : List Int} {i : Nat} {x : Int} (h : i < l.length) : x ∈ l.take (i + 1) ↔ x ∈ l.take i ∨ x = l.getD i 0 := by
  have e : l.take (i + 1) = l.take i ++ [l.getD i 0] := by
    rw [List.take_add_one]; simp [List.getD_eq_getElem?_getD, h]
  rw [e, List.mem_append, List.mem_singleton]
theorem sL6_eq {r : Int} {f l : List Int} (hf : f.length ≤ 243) (hl : l.length ≤ 243) (hin : ∀ key ∈ l, 0 ≤ key ∧ key < (f.length : Int)) (J : List Int → Option (List Int)) : ∃ f', F_spec_l6Needs_L6 r l J fuel f 0 = J f' ∧ f'.length = f.length ∧ ∀ key : Nat, key < f.length → f'.getD key 0 = if (key : Int) ∈ l then r else f.getD key 0 := by
  refine loop_st (fun g i (s : List Int) => F_spec_l6Needs_L6 r l J g s i) l.length (fun i s => s.length = f.length ∧ ∀ key : Nat, key < f.length → s.getD key 0 = if (key : Int) ∈ l.take i then r else f.getD key 0)
    (fun o => ∃ f', o = J f' ∧ f'.length = f.length ∧ ∀ key : Nat, key < f.length → f'.getD key 0 = if (key : Int) ∈ l then r else f.getD key 0) ?_ ?_ f ⟨rfl, fun key hk => by simp⟩ fuel (by have := fuel_ge; omega)
  · rintro g i s hi ⟨h1, h2⟩
    have hmem : l.getD i 0 ∈ l := getD_in (P := fun z => z ∈ l) hi fun z hz => hz
    obtain ⟨q1, q2⟩ := hin _ hmem
    obtain ⟨k, hk⟩ := int_nat q1
    have ei : ((i : Int) + 1) = ((i + 1 : Nat) : Int) := by omega
    left
    refine ⟨s.set k r, ⟨by rw [List.length_set]; exact h1, fun key hkey => ?_⟩, ?_⟩
    · by_cases e : key = k
      · subst e
        rw [set_getD _ _ _ _ (by omega), if_pos ((mem_take_suc hi).2 (.inr hk.symm))]
      · rw [List.getD_eq_getElem?_getD, List.getElem?_set_ne (by omega), ← List.getD_eq_getElem?_getD, h2 key hkey]
        by_cases hc : (key : Int) ∈ l.take i
        · rw [if_pos hc, if_pos ((mem_take_suc hi).2 (.inl hc))]
        · rw [if_neg hc, if_neg]
          intro hh
          rcases (mem_take_suc hi).1 hh with hh | hh
          · exact hc hh
          · rw [hk] at hh; omega
    · rw [F_spec_l6Needs_L6, ite_t (decide_eq_true (by omega)), chk_pos ⟨by omega, by omega⟩, Int.toNat_natCast, hk, chk_pos ⟨by omega, by omega⟩, chk_pos (by unfold I64; omega), Int.toNat_natCast, ei]
  · rintro g s ⟨h1, h2⟩
    rw [List.take_length] at h2
    rw [F_spec_l6Needs_L6, ite_f (decide_eq_false (by omega))]
    exact ⟨s, rfl, h1, h2⟩
theorem NTr_next {n : Nat} {m r : Int} {f f' : List Int} (hf : NTr n m r f) (h1 : f'.length = f.length) (h2 : ∀ key : Nat, key < f.length → f'.getD key 0 = if (key : Int) ∈ (lfR n m r).filter (fun key => decide (ndK n m key = r)) then r else f.getD key 0) : NTr n m (r + 1) f' := by
  refine ⟨by rw [h1]; exact hf.1, fun key hk => ?_⟩
  rw [h2 key (by have := hf.1; omega), hf.2 key hk]
  by_cases c : ndK n m key = r
  · rw [if_pos, if_pos (by omega), c]
    rw [List.mem_filter]
    refine ⟨?_, decide_eq_true c⟩
    unfold lfR
    rw [List.mem_filter, List.mem_map]
    exact ⟨⟨key, by rw [List.mem_range]; omega, rfl⟩, decide_eq_true (by omega)⟩
  · rw [if_neg]
    · by_cases c2 : ndK n m key < r
      · rw [if_pos c2, if_pos (by omega)]
      · rw [if_neg c2, if_neg (by omega)]
    · intro hh
      exact c (of_decide_eq_true (List.mem_filter.1 hh).2)
theorem lfR_next {n : Nat} {m r : Int} : (lfR n m r).filter (fun key => !decide (ndK n m key = r)) = lfR n m (r + 1) := by
  unfold lfR
  rw [List.filter_filter]
  congr 1
  funext key
  rw [Bool.eq_iff_iff, Bool.and_eq_true, decide_eq_true_iff, decide_eq_true_iff, Bool.not_eq_true', decide_eq_false_iff_not]
  omega
/-- The table of the needs. -/
def NT (n : Nat) (m : Int) (f : List Int) : Prop := NTr n m 11 f
theorem NTr_done {n : Nat} {m r : Int} {f : List Int} (hn : n ≤ 5) (hm : 0 ≤ m ∧ m ≤ 1) (hf : NTr n m r f) (h : lfR n m r = []) : NT n m f := by
  refine ⟨hf.1, fun key hk => ?_⟩
  have h2 := ndK_in hn hm (show (0 : Int) ≤ (key : Int) by omega) hk
  have hlt : ndK n m key < r := by
    apply Classical.byContradiction
    intro hc
    have : (key : Int) ∈ lfR n m r := by
      unfold lfR
      rw [List.mem_filter, List.mem_map]
      exact ⟨⟨key, by rw [List.mem_range]; omega, rfl⟩, decide_eq_true (by omega)⟩
    rw [h] at this; cases this
  rw [hf.2 key hk, if_pos hlt, if_pos (by omega)]
theorem sL3_eq {n : Nat} {m : Int} (hn : n ≤ 5) (hm : 0 ≤ m ∧ m ≤ 1) {f : List Int} (hf : NTr n m 1 f) : ∃ f', F_spec_l6Needs_L3 (n : Int) m (fun o28b => some o28b) fuel f (lfR n m 1) 1 = some f' ∧ NT n m f' := by
  have hb := pow23 (b23 hm.1 hm.2) hn
  refine loop_m (fun g (s : List Int × Int) => F_spec_l6Needs_L3 (n : Int) m (fun o28b => some o28b) g s.1 (lfR n m s.2) s.2) (fun s => 1 ≤ s.2 ∧ s.2 ≤ 11 ∧ NTr n m s.2 s.1) (fun s => (12 - s.2).toNat) (fun o => ∃ f', o = some f' ∧ NT n m f') ?_ fuel (f, 1) ⟨Int.le_refl 1, show (1 : Int) ≤ 11 by decide, hf⟩ (by have := fuel_ge; simp only; omega)
  rintro g ⟨f1, r⟩ ⟨h1, h2, h3⟩
  dsimp only at h1 h2 h3 ⊢
  rw [F_spec_l6Needs_L3]
  by_cases hc : lfR n m r = []
  · right
    rw [hc, ite_f (by rfl)]
    exact ⟨f1, rfl, NTr_done hn hm h3 hc⟩
  · left
    have hpos := List.length_pos_iff.2 hc
    have hll := lfR_len (r := r) hn hm
    have hr : r ≤ 10 := by
      obtain ⟨key, hk⟩ := List.exists_mem_of_length_pos hpos
      obtain ⟨q1, q2, q3⟩ := lfR_mem hk
      have := ndK_in hn hm q1 q2
      omega
    have hfl := h3.1
    obtain ⟨f2, e2, l2, g2⟩ := sL6_eq (r := r) (f := f1) (l := (lfR n m r).filter fun key => decide (ndK n m key = r)) (by omega) (Nat.le_trans (List.length_filter_le _ _) hll) (fun key hk => by
      obtain ⟨q1, q2, q3⟩ := lfR_mem (List.mem_filter.1 hk).1
      exact ⟨q1, by omega⟩) (fun o28c => chk (I64 (r + (1 : Int))) <| F_spec_l6Needs_L3 (n : Int) m (fun o28b => some o28b) g o28c (lfR n m (r + 1)) (r + (1 : Int)))
    refine ⟨(f2, r + 1), ⟨by dsimp only; omega, by dsimp only; omega, NTr_next h3 l2 g2⟩, by dsimp only; omega, ?_⟩
    rw [ite_t (decide_eq_true (by omega))]
    simp only [jn]
    rw [sL4_eq hn hm h3 h1, lfR_next, e2, chk_pos (by unfold I64; omega)]
theorem sNeeds_eq {n : Nat} {m : Int} (hn : n ≤ 5) (hm : 0 ≤ m ∧ m ≤ 1) : ∃ f, F_spec_l6Needs (n : Int) m = some f ∧ NT n m f := by
  unfold F_spec_l6Needs
  have hb := b23 hm.1 hm.2
  have hp := pow23 hb hn
  refine jn_q (Q0 := fun o => ∃ f, o = some f ∧ NT n m f) (fun J => J ((m + 2) ^ n)) (fun J => ?_) ?_
  · rw [show F_spec_l6Needs_L1 (n : Int) m J fuel 0 1 = F_spec_l6Needs_L1 (n : Int) m J fuel 0 ((m + 2) ^ Int.toNat 0) from by rw [show Int.toNat 0 = 0 from rfl, Int.pow_zero]]
    refine loop_up (fun k i s => F_spec_l6Needs_L1 (n : Int) m J k i s) (n : Int) (fun i => (m + 2) ^ i.toNat) _ ?_ ?_ (by omega) fuel (by have := fuel_ge; omega)
    · intro k i i0 i1
      obtain ⟨j, rfl⟩ := int_nat i0
      have e1 : ((j : Int) + 1).toNat = j + 1 := by omega
      have hpj := pow23 hb (j := j) (by omega)
      have hpj1 := pow23 hb (j := j + 1) (by omega)
      simp only [Int.toNat_natCast, e1]
      rw [F_spec_l6Needs_L1, ite_t (decide_eq_true (by omega)), chk_pos (by unfold I64; omega), show (m + 2) ^ j * (m + 2) = (m + 2) ^ (j + 1) from (Int.pow_succ _ _).symm, chk_pos (by unfold I64; omega), chk_pos (by unfold I64; omega)]
    · intro k
      simp only [Int.toNat_natCast]
      rw [F_spec_l6Needs_L1, ite_f (decide_eq_false (by omega))]
  · obtain ⟨T, hT⟩ : ∃ T : Nat, (m + 2) ^ n = (T : Int) := int_nat (by omega)
    rw [hT] at hp
    rw [hT, chk_pos ⟨by omega, by omega, by omega, by simp only [maxLen]; omega⟩]
    simp only [jn, Int.toNat_natCast]
    -- the first table
    have key : ∀ J : List Int → List Int → Option (List Int), ∃ f, F_spec_l6Needs_L2 (n : Int) m (T : Int) J fuel (List.replicate T 0) [] 0 = J f (lfR n m 1) ∧ NTr n m 1 f := by
      intro J
      refine loop_st (fun g i (s : List Int × List Int) => F_spec_l6Needs_L2 (n : Int) m (T : Int) J g s.1 s.2 i) T
        (fun i s => s.1.length = T ∧ (∀ k : Nat, k < i → s.1.getD k 0 = if ndK n m k < 1 then ndK n m k else -1) ∧ s.2 = (((List.range i).map fun (k : Nat) => (k : Int)).filter fun key => decide (1 ≤ ndK n m key)))
        (fun o => ∃ f, o = J f (lfR n m 1) ∧ NTr n m 1 f) ?_ ?_ (List.replicate T 0, []) ⟨by rw [List.length_replicate], fun k hk => by omega, rfl⟩ fuel (by have := fuel_ge; omega)
      · rintro g i ⟨f, l⟩ hi ⟨a1, a2, rfl⟩
        dsimp only at a1 a2 ⊢
        have hll : (((List.range i).map fun (k : Nat) => (k : Int)).filter fun key => decide (1 ≤ ndK n m key)).length ≤ 243 := Nat.le_trans (List.length_filter_le _ _) (by rw [List.length_map, List.length_range]; omega)
        obtain ⟨e1, e2, e3⟩ := sOf_eq hn hm (show (0 : Int) ≤ (i : Int) by omega) (by omega)
        have hl := e2.1
        have ei : ((i : Int) + 1) = ((i + 1 : Nat) : Int) := by omega
        left
        rw [F_spec_l6Needs_L2, ite_t (decide_eq_true (by omega)), chk_pos ⟨by omega, by omega⟩, bnd2_eq e1, chk_pos (by omega), Int.toNat_natCast]
        by_cases c : (openN (stK n m i)).length < 2
        · have hz : ndK n m i = 0 := nd_few hn hm.2 e2 c
          rw [ite_t (decide_eq_true (by omega)), chk_pos (by unfold I64; omega), ei]
          refine ⟨((f.set i (-1)).set i 0, _), ⟨by rw [List.length_set, List.length_set]; exact a1, fun k hk => ?_, rfl⟩, ?_⟩
          · by_cases e : k = i
            · rw [e, set_getD _ _ _ _ (by rw [List.length_set]; omega), hz]; rfl
            · rw [List.getD_eq_getElem?_getD, List.getElem?_set_ne (by omega), List.getElem?_set_ne (by omega), ← List.getD_eq_getElem?_getD]
              exact a2 k (by omega)
          · rw [List.range_succ, List.map_append, List.filter_append]
            simp [hz]
        · have hz := (nd_two hn hm.2 e2 (by omega)).1
          rw [ite_f (decide_eq_false (by omega)), chk_pos ⟨by omega, by simp only [maxLen]; omega⟩, chk_pos (by unfold I64; omega), ei]
          refine ⟨(f.set i (-1), _), ⟨by rw [List.length_set]; exact a1, fun k hk => ?_, rfl⟩, ?_⟩
          · by_cases e : k = i
            · rw [e, set_getD _ _ _ _ (by omega), if_neg (show ¬ ndK n m i < 1 from by unfold ndK; omega)]
            · rw [List.getD_eq_getElem?_getD, List.getElem?_set_ne (by omega), ← List.getD_eq_getElem?_getD]
              exact a2 k (by omega)
          · rw [List.range_succ, List.map_append, List.filter_append]
            have : decide (1 ≤ ndK n m i) = true := decide_eq_true hz
            simp [this]
      · rintro g ⟨f, l⟩ ⟨a1, a2, rfl⟩
        dsimp only at a1 a2 ⊢
        rw [F_spec_l6Needs_L2, ite_f (decide_eq_false (by omega))]
        refine ⟨f, ?_, by omega, fun k hk => a2 k (by omega)⟩
        unfold lfR
        rw [hT, Int.toNat_natCast]
    obtain ⟨f, e, hf⟩ := key _
    rw [e]
    exact sL3_eq hn hm hf
theorem sSame_eq (xs ys : List Int) (hl : xs.length = ys.length) (hx : xs.length ≤ 1000) : F_spec_l1Same xs ys = some (decide (xs = ys)) := by
  unfold F_spec_l1Same
  rw [ite_f (by rw [hl]; simp)]
  simp only [jn]
  refine Or.elim (loop_all (fun g i => F_spec_l1Same_L1 xs ys (fun _ => some true) g i) (xs.length : Int) (fun i => xs.getD i.toNat 0 == ys.getD i.toNat 0) (some false) (some true) ?_ ?_ ?_ (by omega) fuel (by have := fuel_ge; omega)) ?_ ?_
  · intro g i i0 i1 hp
    rw [F_spec_l1Same_L1, ite_t (decide_eq_true i1), chk_pos ⟨i0, i1⟩, chk_pos ⟨i0, by omega⟩, ite_f (by simpa [bne] using hp), chk_pos (by unfold I64; omega)]
  · intro g i i0 i1 hp
    rw [F_spec_l1Same_L1, ite_t (decide_eq_true i1), chk_pos ⟨i0, i1⟩, chk_pos ⟨i0, by omega⟩, ite_t (by simpa [bne] using hp)]
  · intro g
    rw [F_spec_l1Same_L1, ite_f (decide_eq_false (by omega))]
  · rintro ⟨e, h⟩
    rw [e, decide_eq_true]
    refine getD_ext hl fun i hi => ?_
    have := h (i : Int) (by omega) (by omega)
    simpa using this
  · rintro ⟨e, i, i0, i1, i2, _⟩
    rw [e, decide_eq_false]
    intro hh
    rw [hh] at i2
    simp at i2
theorem maxN_mx (a b : Int) : maxN a b = max a b := by
  unfold maxN; split <;> omega
theorem sNeedOf_eq {n k : Nat} {m : Int} {xs f : List Int} (hn : n ≤ 5) (hm : 0 ≤ m ∧ m ≤ 1) (h : okR n m xs) (hk : k ≤ 12) (hf : NT n m f) : F_spec_l6NeedOf xs m (k : Int) f = some (if vainN xs (lqK k) = true then -1 else ndO (nd m) m xs k) := by
  unfold F_spec_l6NeedOf
  have hl := h.1
  have a1 := NTr_at hn hm hf (okR_ans (q := lqK k) (y := true) h)
  have a2 := NTr_at hn hm hf (okR_ans (q := lqK k) (y := false) h)
  have b1 := nd_in hn hm.2 (okR_ans (q := lqK k) (y := true) h)
  have b2 := nd_in hn hm.2 (okR_ans (q := lqK k) (y := false) h)
  have hvb := vain_back (m := m) (q := lqK k) h.2
  rw [bnd2_eq (sAfterK_eq h hk true), bnd2_eq (sAfterK_eq h hk false)]
  refine jn_is (fun J => J (vainN xs (lqK k))) (fun J => ?_) ?_
  · rw [bnd1_eq (sSame_eq _ xs (by rw [ansN_len]) (by rw [ansN_len]; omega))]
    by_cases c1 : ansN m (lqK k) true xs = xs
    · rw [decide_eq_true c1, ite_t rfl, hvb.2 (.inr c1)]
    · rw [decide_eq_false c1, ite_f rfl, bnd1_eq (sSame_eq _ xs (by rw [ansN_len]) (by rw [ansN_len]; omega))]
      by_cases c2 : ansN m (lqK k) false xs = xs
      · rw [decide_eq_true c2, hvb.2 (.inl c2)]
      · rw [decide_eq_false c2]
        cases hv : vainN xs (lqK k) with
        | false => rfl
        | true =>
          rcases hvb.1 hv with c | c
          · exact absurd c c2
          · exact absurd c c1
  · cases hv : vainN xs (lqK k) with
    | true => rfl
    | false =>
      rw [ite_f rfl, bnd1_eq (sKey_eq hn hm.2 (okR_ans h)), chk_pos ⟨a1.1, a1.2.1⟩, bnd1_eq (sKey_eq hn hm.2 (okR_ans h)), chk_pos ⟨a2.1, a2.2.1⟩, a1.2.2, a2.2.2, if_pos (by omega), if_pos (by omega), maxN_mx, chk_pos (by unfold I64; omega), if_neg (by simp)]
      simp only [nam]
      unfold ndO
      rw [Int.max_comm]
def gdB (m : Int) (xs : List Int) (k : Nat) : Prop := vainN xs (lqK k) = false ∧ ndO (nd m) m xs k = nd m xs
def isB (n : Nat) (m : Int) (xs : List Int) (k : Nat) : Prop := 1 ≤ k ∧ k ≤ n - 1 ∧ gdB m xs k ∧ ∀ j, 1 ≤ j → j < k → ¬ gdB m xs j
/-- The comparison that the plan asks. -/
noncomputable def bk (n : Nat) (m : Int) (xs : List Int) : Nat := Classical.epsilon (isB n m xs)
theorem least_ex {p : Nat → Prop} : ∀ k, p k → ∃ j, j ≤ k ∧ p j ∧ ∀ i, i < j → ¬ p i := by
  intro k
  induction k using Nat.strongRecOn with
  | _ k ih =>
    intro hk
    by_cases hc : ∃ i, i < k ∧ p i
    · obtain ⟨i, h1, h2⟩ := hc
      obtain ⟨j, j1, j2, j3⟩ := ih i h1 h2
      exact ⟨j, by omega, j2, j3⟩
    · exact ⟨k, Nat.le_refl _, hk, fun i hi hp => hc ⟨i, hi, hp⟩⟩
theorem bk_ex {n : Nat} {m : Int} {xs : List Int} (hn : n ≤ 5) (hm : m ≤ 1) (h : okR n m xs) (h2 : 2 ≤ (openN xs).length) : isB n m xs (bk n m xs) := by
  obtain ⟨_, _, k, k1, k2, k3, k4⟩ := nd_two hn hm h h2
  obtain ⟨j, j1, ⟨j2, j3⟩, j4⟩ := least_ex (p := fun k => 1 ≤ k ∧ gdB m xs k) k ⟨k1, k3, k4.symm⟩
  exact Classical.epsilon_spec (p := isB n m xs) ⟨j, j2, by omega, j3, fun i i1 i2 hg => j4 i i2 ⟨i1, hg⟩⟩
theorem bk_is {n k : Nat} {m : Int} {xs : List Int} (h : isB n m xs k) : bk n m xs = k := by
  have hs := Classical.epsilon_spec (p := isB n m xs) ⟨k, h⟩
  have hs : isB n m xs (bk n m xs) := hs
  rcases Nat.lt_trichotomy (bk n m xs) k with c | c | c
  · exact absurd hs.2.2.1 (h.2.2.2 _ hs.1 c)
  · exact c
  · exact absurd h.2.2.1 (hs.2.2.2 _ h.1 c)
theorem iBest_eq {n : Nat} {m : Int} {xs : List Int} (hn : n ≤ 5) (hm : m ≤ 1) (h : okR n m xs) (h2 : 2 ≤ (openN xs).length) (w : List (Int × Int)) (hw : NI n m w) : ∃ w', F_impl_lesser_best w xs m = some (((bk n m xs : Nat) : Int), w') ∧ NI n m w' := by
  have hB := bk_ex hn hm h h2
  have hl := h.1
  unfold F_impl_lesser_best
  simp only [jn]
  refine loop_st (fun g i (s : List (Int × Int)) => F_impl_lesser_best_L1 xs m (fun o500 => some (0, o500)) g s (i + 1)) (n - 1) (fun i s => NI n m s ∧ ∀ j, 1 ≤ j → j ≤ i → ¬ gdB m xs j) (fun o => ∃ w', o = some (((bk n m xs : Nat) : Int), w') ∧ NI n m w') ?_ ?_ w ⟨hw, fun j h1 h2 => by omega⟩ fuel (by have := fuel_ge; omega)
  · rintro g i w1 hi ⟨hw1, hno⟩
    have ei : (i : Int) + 1 = ((i + 1 : Nat) : Int) := by omega
    obtain ⟨w2, e2, hw2⟩ := iOfLess_step (k := i + 1) (self := F_impl_lesser_need fuel) hn hm h (by omega) (fun hv y => iNeed_top hn hm (okR_ans h)) w1 hw1
    rw [ei, F_impl_lesser_best_L1, ite_t (decide_eq_true (by omega)), bnd3_eq e2]
    simp only [jn]
    cases hv : vainN xs (lqK (i + 1)) with
    | true =>
      left
      rw [ite_f (show (!true) = false from rfl), ite_f rfl, chk_pos (by unfold I64; omega)]
      refine ⟨w2, ⟨hw2, fun j h1 h3 => ?_⟩, rfl⟩
      by_cases e : j = i + 1
      · rw [e]; intro hg; rw [hg.1] at hv; cases hv
      · exact hno j h1 (by omega)
    | false =>
      obtain ⟨w3, e3, hw3⟩ := iNeed_top hn hm h w2 hw2
      rw [ite_t (show (!false) = true from rfl), bnd2_eq e3, if_neg (by simp)]
      by_cases c : ndO (nd m) m xs (i + 1) = nd m xs
      · right
        have hb : isB n m xs (i + 1) := ⟨by omega, by omega, ⟨hv, c⟩, fun j h1 h3 => hno j h1 (by omega)⟩
        rw [ite_t (by rw [c]; exact beq_self_eq_true _), bk_is hb]
        exact ⟨w3, rfl, hw3⟩
      · left
        rw [ite_f (beq_eq_false_iff_ne.2 c), chk_pos (by unfold I64; omega)]
        refine ⟨w3, ⟨hw3, fun j h1 h3 => ?_⟩, rfl⟩
        by_cases e : j = i + 1
        · rw [e]; intro hg; exact c hg.2
        · exact hno j h1 (by omega)
  · rintro g w1 ⟨hw1, hno⟩
    exact absurd hB.2.2.1 (hno _ hB.1 hB.2.1)
theorem sBest_eq {n : Nat} {m : Int} {xs f : List Int} (hn : n ≤ 5) (hm : 0 ≤ m ∧ m ≤ 1) (h : okR n m xs) (h2 : 2 ≤ (openN xs).length) (hf : NT n m f) : F_spec_l6Best xs m f = some ((bk n m xs : Nat) : Int) := by
  have hB := bk_ex hn hm.2 h h2
  have hl := h.1
  have a0 := NTr_at hn hm hf h
  have b0 := nd_in hn hm.2 h
  have hone := (nd_two hn hm.2 h h2).1
  unfold F_spec_l6Best
  simp only [jn]
  refine loop_st (fun g i (_ : Unit) => F_spec_l6Best_L1 xs m f (fun v5 => some v5) g (i + 1)) (n - 1) (fun i _ => ∀ j, 1 ≤ j → j ≤ i → ¬ gdB m xs j) (fun o => o = some ((bk n m xs : Nat) : Int)) ?_ ?_ () (fun j h1 h2 => by omega) fuel (by have := fuel_ge; omega)
  · rintro g i ⟨⟩ hi hno
    have ei : (i : Int) + 1 = ((i + 1 : Nat) : Int) := by omega
    rw [ei, F_spec_l6Best_L1, bnd1_eq (sNeedOf_eq hn hm h (by omega) hf), bnd1_eq (sKey_eq hn hm.2 h), chk_pos ⟨a0.1, a0.2.1⟩, a0.2.2, if_pos (show nd m xs < 11 by omega)]
    cases hv : vainN xs (lqK (i + 1)) with
    | true =>
      left
      rw [if_pos rfl, ite_t (by rw [bne_iff_ne]; omega), chk_pos (by unfold I64; omega)]
      refine ⟨(), fun j h1 h3 => ?_, rfl⟩
      by_cases e : j = i + 1
      · rw [e]; intro hg; rw [hg.1] at hv; cases hv
      · exact hno j h1 (by omega)
    | false =>
      rw [if_neg (by simp)]
      by_cases c : ndO (nd m) m xs (i + 1) = nd m xs
      · right
        have hb : isB n m xs (i + 1) := ⟨by omega, by omega, ⟨hv, c⟩, fun j h1 h3 => hno j h1 (by omega)⟩
        rw [c, ite_f (bne_self_eq_false _), bk_is hb]
      · left
        rw [ite_t (by rw [bne_iff_ne]; exact c), chk_pos (by unfold I64; omega)]
        refine ⟨(), fun j h1 h3 => ?_, rfl⟩
        by_cases e : j = i + 1
        · rw [e]; intro hg; exact c hg.2
        · exact hno j h1 (by omega)
  · rintro g ⟨⟩ hno
    exact absurd hB.2.2.1 (hno _ hB.1 hB.2.1)
/-- The answer in a play: the truth, but for the one at which who answers lies. -/
def lyB (q : Int) (s at' : Int) (len : Nat) : Bool := !(hasB q s == (((len : Nat) : Int) == at'))
noncomputable def lpR (n : Nat) (m s at' : Int) : Nat → List Int → List (Int × Bool) → List (Int × Bool)
  | 0, _, as => as
  | d + 1, xs, as => if (openN xs).length < 2 then as else lpR n m s at' d (ansN m (lqK (bk n m xs)) (lyB (lqK (bk n m xs)) s at' as.length) xs) (as ++ [(lqK (bk n m xs), lyB (lqK (bk n m xs)) s at' as.length)])
theorem ly_no {q s at' : Int} {len : Nat} (h : (len : Int) ≠ at') : falseB q (lyB q s at' len) s = false := by
  unfold falseB lyB
  rw [beq_eq_false_iff_ne.2 h]
  cases hasB q s <;> rfl
theorem ly_yes {q s at' : Int} {len : Nat} (h : (len : Int) = at') : falseB q (lyB q s at' len) s = true := by
  unfold falseB lyB
  rw [h, beq_self_eq_true]
  cases hasB q s <;> rfl
theorem op_iff {xs : List Int} {s : Nat} : opB xs (s : Int) = true ↔ s < xs.length ∧ 0 ≤ xs.getD s 0 := by
  unfold opB
  rw [Bool.and_eq_true, Bool.and_eq_true, decide_eq_true_iff, decide_eq_true_iff, decide_eq_true_iff, Int.toNat_natCast]
  constructor
  · rintro ⟨⟨h1, h2⟩, h3⟩; exact ⟨by omega, h3⟩
  · rintro ⟨h1, h3⟩; exact ⟨⟨by omega, by omega⟩, h3⟩
/-- What is kept of the secret: it is open, and may still take its false answer. -/
def okP (m : Int) (s : Nat) (at' : Int) (xs : List Int) (len : Nat) : Prop := s < xs.length ∧ 0 ≤ xs.getD s 0 ∧ (((len : Nat) : Int) ≤ at' → xs.getD s 0 < m)
theorem okP_next {n : Nat} {m : Int} {s : Nat} {at' q : Int} {xs : List Int} {len : Nat} (h : okP m s at' xs len) : okP m s at' (ansN m q (lyB q (s : Int) at' len) xs) (len + 1) := by
  obtain ⟨h1, h2, h3⟩ := h
  refine ⟨by rw [ansN_len]; exact h1, ?_, fun hh => ?_⟩
  · rw [ans_getD h1]
    by_cases c : (len : Int) = at'
    · rw [lie_up h2 (ly_yes c) (by have := h3 (by omega); omega)]; omega
    · rw [lie_no (ly_no c)]; exact h2
  · rw [ans_getD h1, lie_no (ly_no (by omega))]
    exact h3 (by omega)
theorem iPlayL_eq {n s : Nat} {m at' : Int} (hn : n ≤ 5) (hm : m ≤ 1) (J : List (Int × Bool) → Option (List (Int × Bool) × Bool)) : ∀ (d g : Nat) (xs : List Int) (as : List (Int × Bool)) (w : List (Int × Int)), okR n m xs → mu m xs ≤ d → d < g → okP m s at' xs as.length → as.length + d ≤ 50 → NI n m w → F_impl_LessPlay_L1 m (s : Int) at' J g xs as w = J (lpR n m (s : Int) at' (d + 1) xs as) := by
  intro d
  induction d with
  | zero =>
    intro g xs as w h h0 hg hp ha hw
    obtain ⟨g, rfl⟩ : ∃ x, g = x + 1 := ⟨g - 1, by omega⟩
    have hl := h.1
    have hc : (openN xs).length < 2 := by
      apply Classical.byContradiction
      intro hc
      obtain ⟨k, _, _, hv⟩ := parts_two hn h (by omega)
      have := mu_less (y := true) h.2 hv
      omega
    rw [F_impl_LessPlay_L1, lpR, if_pos hc, chk_pos (by omega), ite_f (decide_eq_false (by omega))]
  | succ d ih =>
    intro g xs as w h h0 hg hp ha hw
    obtain ⟨g, rfl⟩ : ∃ x, g = x + 1 := ⟨g - 1, by omega⟩
    have hl := h.1
    rw [F_impl_LessPlay_L1, lpR, chk_pos (by omega)]
    by_cases hc : (openN xs).length < 2
    · rw [if_pos hc, ite_f (decide_eq_false (by omega))]
    · have hB := bk_ex hn hm h (by omega)
      obtain ⟨w1, e1, hw1⟩ := iBest_eq hn hm h (by omega) w hw
      have hk := hB.2.1
      have hmu := mu_less (y := lyB (lqK (bk n m xs)) (s : Int) at' as.length) h.2 hB.2.2.1.1
      have hn2 := okP_next (n := n) (q := lqK (bk n m xs)) hp
      rw [if_neg hc, ite_t (decide_eq_true (by omega)), bnd2_eq e1, bnd1_eq (iLess_eq (by omega)), chk_pos (by omega), chk_pos h.2]
      simp only [show (!(hasB (lqK (bk n m xs)) (s : Int) == (((as.length : Nat) : Int) == at'))) = lyB (lqK (bk n m xs)) (s : Int) at' as.length from rfl]
      rw [chk_pos (by rw [ansN_len]; omega), op_iff.2 ⟨hn2.1, hn2.2.1⟩, ite_f (show (!true) = false from rfl), chk_pos ⟨by omega, by simp only [maxLen]; omega⟩]
      exact ih g _ _ _ (okR_ans h) (by omega) (by omega) (by rw [List.length_append, List.length_singleton]; exact hn2) (by rw [List.length_append, List.length_singleton]; omega) hw1
/-- A secret that has no lie left, and is to lie: there is no play. -/
theorem iPlayL_bad {n s : Nat} {m at' : Int} (hn : n ≤ 5) (hm : m ≤ 1) (J : List (Int × Bool) → Option (List (Int × Bool) × Bool)) (hJ : ∀ l : List (Int × Bool), (l.length : Int) ≤ at' → J l = some ([], false)) : ∀ (d g : Nat) (xs : List Int) (as : List (Int × Bool)) (w : List (Int × Int)), okR n m xs → mu m xs ≤ d → d < g → s < xs.length → xs.getD s 0 ≥ m → xs.getD s 0 ≥ 0 → (as.length : Int) ≤ at' → as.length + d ≤ 50 → NI n m w → F_impl_LessPlay_L1 m (s : Int) at' J g xs as w = some ([], false) := by
  intro d
  induction d with
  | zero =>
    intro g xs as w h h0 hg hs hx hx0 hat ha hw
    obtain ⟨g, rfl⟩ : ∃ x, g = x + 1 := ⟨g - 1, by omega⟩
    have hl := h.1
    have hc : (openN xs).length < 2 := by
      apply Classical.byContradiction
      intro hc
      obtain ⟨k, _, _, hv⟩ := parts_two hn h (by omega)
      have := mu_less (y := true) h.2 hv
      omega
    rw [F_impl_LessPlay_L1, chk_pos (by omega), ite_f (decide_eq_false (by omega)), hJ as hat]
  | succ d ih =>
    intro g xs as w h h0 hg hs hx hx0 hat ha hw
    obtain ⟨g, rfl⟩ : ∃ x, g = x + 1 := ⟨g - 1, by omega⟩
    have hl := h.1
    rw [F_impl_LessPlay_L1, chk_pos (by omega)]
    by_cases hc : (openN xs).length < 2
    · rw [ite_f (decide_eq_false (by omega)), hJ as hat]
    · have hB := bk_ex hn hm h (by omega)
      obtain ⟨w1, e1, hw1⟩ := iBest_eq hn hm h (by omega) w hw
      have hk := hB.2.1
      have hmu := mu_less (y := lyB (lqK (bk n m xs)) (s : Int) at' as.length) h.2 hB.2.2.1.1
      rw [ite_t (decide_eq_true (by omega)), bnd2_eq e1, bnd1_eq (iLess_eq (by omega)), chk_pos (by omega), chk_pos h.2]
      simp only [show (!(hasB (lqK (bk n m xs)) (s : Int) == (((as.length : Nat) : Int) == at'))) = lyB (lqK (bk n m xs)) (s : Int) at' as.length from rfl]
      rw [chk_pos (by rw [ansN_len]; omega)]
      by_cases c : (as.length : Int) = at'
      · have : opB (ansN m (lqK (bk n m xs)) (lyB (lqK (bk n m xs)) (s : Int) at' as.length) xs) (s : Int) = false := by
          rw [Bool.eq_false_iff]
          intro hh
          have := (op_iff.1 hh).2
          rw [ans_getD hs, lie_over hx0 (ly_yes c) (by omega)] at this
          omega
        rw [this, ite_t (show (!false) = true from rfl)]
      · have e : (ansN m (lqK (bk n m xs)) (lyB (lqK (bk n m xs)) (s : Int) at' as.length) xs).getD s 0 = xs.getD s 0 := by rw [ans_getD hs, lie_no (ly_no c)]
        rw [op_iff.2 ⟨by rw [ansN_len]; exact hs, by rw [e]; exact hx0⟩, ite_f (show (!true) = false from rfl), chk_pos ⟨by omega, by simp only [maxLen]; omega⟩]
        exact ih g _ _ _ (okR_ans h) (by omega) (by omega) (by rw [ansN_len]; exact hs) (by rw [e]; exact hx) (by rw [e]; exact hx0) (by rw [List.length_append, List.length_singleton]; omega) (by rw [List.length_append, List.length_singleton]; omega) hw1
theorem sPlayL_eq {n s : Nat} {m at' : Int} {f : List Int} (hn : n ≤ 5) (hm : 0 ≤ m ∧ m ≤ 1) (hs : s ≤ 12) (hf : NT n m f) (J : List (Int × Bool) → Option (List (Int × Bool) × Bool)) : ∀ (d g : Nat) (xs : List Int) (as : List (Int × Bool)), okR n m xs → mu m xs ≤ d → d < g → as.length + d ≤ 50 → F_spec_LessPlay_L1 (s : Int) at' f J g xs m as = J (lpR n m (s : Int) at' (d + 1) xs as) := by
  intro d
  induction d with
  | zero =>
    intro g xs as h h0 hg ha
    obtain ⟨g, rfl⟩ : ∃ x, g = x + 1 := ⟨g - 1, by omega⟩
    have hl := h.1
    have hc : (openN xs).length < 2 := by
      apply Classical.byContradiction
      intro hc
      obtain ⟨k, _, _, hv⟩ := parts_two hn h (by omega)
      have := mu_less (y := true) h.2 hv
      omega
    rw [F_spec_LessPlay_L1, lpR, if_pos hc, chk_pos (by omega), decide_eq_true (by omega), ite_f (show (!true) = false from rfl)]
  | succ d ih =>
    intro g xs as h h0 hg ha
    obtain ⟨g, rfl⟩ : ∃ x, g = x + 1 := ⟨g - 1, by omega⟩
    have hl := h.1
    rw [F_spec_LessPlay_L1, lpR, chk_pos (by omega)]
    by_cases hc : (openN xs).length < 2
    · rw [if_pos hc, decide_eq_true (by omega), ite_f (show (!true) = false from rfl)]
    · have hB := bk_ex hn hm.2 h (by omega)
      have hk := hB.2.1
      have hmu := mu_less (y := lyB (lqK (bk n m xs)) (s : Int) at' as.length) h.2 hB.2.2.1.1
      have hq := lqK_in (k := bk n m xs) (by omega)
      have hp : (1 : Int) * 2 ^ (bk n m xs) = lqK (bk n m xs) + 1 := by unfold lqK; omega
      have hy : (!((decide ((s : Int) < ((bk n m xs : Nat) : Int))) == (((as.length : Nat) : Int) == at'))) = lyB (lqK (bk n m xs)) (s : Int) at' as.length := by
        unfold lyB
        rw [hasB_lq (by omega) hs]
        congr 2
        exact decide_eq_decide.2 (by omega)
      rw [if_neg hc, decide_eq_false (by omega), ite_t (show (!false) = true from rfl), bnd1_eq (sBest_eq hn hm h (by omega) hf)]
      simp only [nam, Int.toNat_natCast, hp, hy, show lqK (bk n m xs) + 1 - 1 = lqK (bk n m xs) by omega]
      rw [chk_pos ⟨by omega, by omega, by unfold I64; omega⟩, chk_pos (by unfold I64; omega), chk_pos ⟨by omega, by simp only [maxLen]; omega⟩, bnd2_eq (sAfterK_eq h (by omega) _)]
      exact ih g _ _ (okR_ans h) (by omega) (by omega) (by rw [List.length_append, List.length_singleton]; omega)
theorem shortN_in {xs : List Int} {m : Int} (h : shortN xs m = true) : okR xs.length m xs ∧ 1 ≤ xs.length ∧ xs.length ≤ 5 ∧ 0 ≤ m ∧ m ≤ 1 ∧ isStateN xs m = true := by
  have h2 := h
  unfold shortN at h2
  simp only [Bool.and_eq_true, decide_eq_true_eq] at h2
  have hs := state_len h2.1.1
  exact ⟨⟨rfl, okS_of h2.1.1⟩, hs.1, by omega, hs.2.2.1, h2.2, h2.1.1⟩
def lpC (xs : List Int) (m s at' : Int) : Bool := shortN xs m && opB xs s && decide (-1 ≤ at') && !(decide (at' ≥ 0) && decide (xs.getD s.toNat 0 ≥ m))
noncomputable def lpQ (xs : List Int) (m s at' : Int) : List (Int × Bool) := lpR xs.length m s at' 11 xs []
noncomputable def lpV (xs : List Int) (m s at' : Int) : List (Int × Bool) × Bool := if lpC xs m s at' = true ∧ at' < ((lpQ xs m s at').length : Int) then (lpQ xs m s at', true) else ([], false)
theorem iLP_eq (xs : List Int) (m s at' : Int) (hx : xs.length ≤ 1048576) : F_impl_LessPlay xs m s at' = some ((lpV xs m s at').1, (lpV xs m s at').2) := by
  unfold F_impl_LessPlay lpV
  cases hs : shortN xs m with
  | false =>
    refine jn_is (fun J => J true) (fun J => by rw [chk_pos (by omega), ite_t (show (!false) = true from rfl)]) ?_
    rw [ite_t rfl, if_neg]
    rintro ⟨h1, _⟩
    unfold lpC at h1; rw [hs] at h1; cases h1
  | true =>
    obtain ⟨g1, g2, g3, g4, g5, g6⟩ := shortN_in hs
    cases ho : opB xs s with
    | false =>
      refine jn_is (fun J => J true) (fun J => by rw [chk_pos (by omega), ite_f (show (!true) = false from rfl), chk_pos (by omega), ite_t (show (!false) = true from rfl)]) ?_
      rw [ite_t rfl, if_neg]
      rintro ⟨h1, _⟩
      unfold lpC at h1; rw [hs, ho] at h1; cases h1
    | true =>
      refine jn_is (fun J => J (decide (at' < -1))) (fun J => by rw [chk_pos (by omega), ite_f (show (!true) = false from rfl), chk_pos (by omega), ite_f (show (!true) = false from rfl)]) ?_
      by_cases ha : at' < -1
      · rw [decide_eq_true ha, ite_t rfl, if_neg]
        rintro ⟨h1, _⟩
        unfold lpC at h1; rw [hs, ho, decide_eq_false (by omega)] at h1; cases h1
      · obtain ⟨k, rfl⟩ : ∃ k : Nat, s = (k : Int) := by
          unfold opB at ho
          simp only [Bool.and_eq_true, decide_eq_true_eq] at ho
          exact int_nat ho.1.1
        have ho2 := op_iff.1 ho
        have hmu := mu_le g1.2 g5
        rw [decide_eq_false ha, ite_f rfl, show F_impl_newLesser = some [] from rfl, bnd1_eq rfl]
        simp only [jn]
        by_cases hb : at' ≥ 0 ∧ xs.getD k 0 ≥ m
        · rw [iPlayL_bad g3 g5 _ (fun l hl => by rw [ite_t (decide_eq_true hl)]) 10 fuel xs [] [] g1 (by omega) (by have := fuel_ge; omega) ho2.1 hb.2 ho2.2 (by simpa using hb.1) (by simp) (NI_nil _ _), if_neg]
          rintro ⟨h1, _⟩
          unfold lpC at h1
          rw [hs, ho, Int.toNat_natCast, decide_eq_true hb.1, decide_eq_true hb.2, decide_eq_true (by omega)] at h1; cases h1
        · have hc : lpC xs m (k : Int) at' = true := by
            unfold lpC
            rw [hs, ho, Int.toNat_natCast, decide_eq_true (show -1 ≤ at' by omega)]
            have : (decide (at' ≥ 0) && decide (xs.getD k 0 ≥ m)) = false := by
              rw [Bool.and_eq_false_iff]
              by_cases c : at' ≥ 0
              · exact .inr (decide_eq_false fun hh => hb ⟨c, hh⟩)
              · exact .inl (decide_eq_false c)
            rw [this]; rfl
          rw [iPlayL_eq g3 g5 _ 10 fuel xs [] [] g1 (by omega) (by have := fuel_ge; omega) ⟨ho2.1, ho2.2, fun hh => by
            have : at' ≥ 0 := by simpa using hh
            omega⟩ (by simp) (NI_nil _ _), hc]
          show (bif decide (at' ≥ ((List.length (lpQ xs m (k : Int) at') : Nat) : Int)) then some ([], false) else some (lpQ xs m (k : Int) at', true)) = _
          by_cases c : at' < ((lpQ xs m (k : Int) at').length : Int)
          · rw [ite_f (decide_eq_false (by omega)), if_pos ⟨rfl, c⟩]
          · rw [ite_t (decide_eq_true (by omega)), if_neg fun hh => c hh.2]
theorem sLP_eq (xs : List Int) (m s at' : Int) (hx : xs.length ≤ 1048576) : F_spec_LessPlay xs m s at' = some ((lpV xs m s at').1, (lpV xs m s at').2) := by
  unfold F_spec_LessPlay lpV
  cases hs : shortN xs m with
  | false =>
    refine jn_is (fun J => J true) (fun J => by rw [chk_pos (by omega), ite_t (show (!false) = true from rfl)]) ?_
    rw [ite_t rfl, if_neg]
    rintro ⟨h1, _⟩
    unfold lpC at h1; rw [hs] at h1; cases h1
  | true =>
    obtain ⟨g1, g2, g3, g4, g5, g6⟩ := shortN_in hs
    have hmu := mu_le g1.2 g5
    refine jn_is (fun J => J (!lpC xs m s at')) (fun J => ?_) ?_
    · rw [chk_pos (by omega), ite_f (show (!true) = false from rfl), chk_pos (by unfold I64; omega)]
      simp only [nam]
      unfold lpC opB
      rw [hs]
      by_cases c1 : 0 ≤ s ∧ s ≤ ((xs.length : Nat) : Int) - 1
      · obtain ⟨k, rfl⟩ := int_nat c1.1
        rw [decide_eq_true (show (k : Int) ≥ 0 by omega), decide_eq_true c1.2, ite_f (show (!(true && true)) = false from rfl), chk_pos ⟨by omega, by omega⟩, Int.toNat_natCast]
        by_cases c2 : xs.getD k 0 < 0
        · rw [ite_t (decide_eq_true c2), decide_eq_false (show ¬ xs.getD k 0 ≥ 0 by omega)]; rfl
        · rw [ite_f (decide_eq_false c2), decide_eq_true (show xs.getD k 0 ≥ 0 by omega)]
          by_cases c3 : at' < -1
          · rw [ite_t (decide_eq_true c3), decide_eq_false (show ¬ -1 ≤ at' by omega)]; rfl
          · rw [ite_f (decide_eq_false c3), decide_eq_true (show -1 ≤ at' by omega)]
            by_cases c4 : at' ≥ 0
            · rw [ite_t (decide_eq_true c4), decide_eq_true c4]
              cases decide (xs.getD k 0 ≥ m) <;> rfl
            · rw [ite_f (decide_eq_false c4), decide_eq_false c4]; rfl
      · have : (decide (s ≥ 0) && decide (s ≤ ((xs.length : Nat) : Int) - 1)) = false := by
          rw [Bool.and_eq_false_iff]
          by_cases c : s ≥ 0
          · exact .inr (decide_eq_false fun hh => c1 ⟨c, hh⟩)
          · exact .inl (decide_eq_false c)
        rw [this, ite_t (show (!false) = true from rfl)]; rfl
    · cases hc : lpC xs m s at' with
      | false =>
        rw [ite_t (show (!false) = true from rfl), if_neg]
        rintro ⟨h1, _⟩
        cases h1
      | true =>
        have hop : opB xs s = true := by
          unfold lpC at hc
          simp only [Bool.and_eq_true] at hc
          exact hc.1.1.2
        obtain ⟨k, rfl⟩ : ∃ k : Nat, s = (k : Int) := by
          unfold opB at hop
          simp only [Bool.and_eq_true, decide_eq_true_eq] at hop
          exact int_nat hop.1.1
        have ho2 := op_iff.1 hop
        obtain ⟨f, e, hf⟩ := sNeeds_eq g3 ⟨g4, g5⟩
        rw [ite_f (show (!true) = false from rfl), bnd1_eq e]
        simp only [jn]
        rw [sPlayL_eq g3 ⟨g4, g5⟩ (by omega) hf _ 10 fuel xs [] g1 (by omega) (by have := fuel_ge; omega) (by simp)]
        show (bif decide (at' ≥ ((List.length (lpQ xs m (k : Int) at') : Nat) : Int)) then some ([], false) else some (lpQ xs m (k : Int) at', true)) = _
        by_cases c : at' < ((lpQ xs m (k : Int) at').length : Int)
        · rw [ite_f (decide_eq_false (by omega)), if_pos ⟨by trivial, c⟩]
        · rw [ite_t (decide_eq_true (by omega)), if_neg fun hh => c hh.2]
theorem sht_len {xs : List Int} {m : Int} (h : shortN xs m = true) : 1 ≤ xs.length ∧ xs.length ≤ 5 := by
  unfold shortN at h
  simp only [Bool.and_eq_true, decide_eq_true_eq] at h
  have hs := state_len h.1.1
  exact ⟨hs.1, by omega⟩
def usL (xs : List Int) : Nat → List Int
  | 0 => []
  | k + 1 => usL xs k ++ (if vainN xs (lqK (k + 1)) = true then [] else [((k + 1 : Nat) : Int)])
theorem usL_len (xs : List Int) : ∀ k, (usL xs k).length ≤ k
  | 0 => Nat.le_refl _
  | k + 1 => by
    rw [usL, List.length_append]
    have := usL_len xs k
    split <;> simp <;> omega
def usV (xs : List Int) (m : Int) : List Int := bif shortN xs m then usL xs (xs.length - 1) else []
theorem sUse_eq (xs : List Int) (m : Int) (hx : xs.length ≤ 1048576) : F_spec_UsefulLess xs m = some (usV xs m, shortN xs m) := by
  unfold F_spec_UsefulLess usV
  rw [chk_pos (by omega)]
  cases hs : shortN xs m with
  | false => rfl
  | true =>
    have hl := sht_len hs
    rw [ite_f (show (!true) = false from rfl)]
    simp only [jn]
    refine loop_st (fun g i (o : List Int) => F_spec_UsefulLess_L1 xs m (fun o6 => some (o6, true)) g o (i + 1)) (xs.length - 1) (fun i o => o = usL xs i) (fun o => o = some (usL xs (xs.length - 1), true)) ?_ ?_ [] rfl fuel (by have := fuel_ge; omega)
    · rintro g i o hi rfl
      have ei : (i : Int) + 1 = ((i + 1 : Nat) : Int) := by omega
      have hq := lqK_in (k := i + 1) (by omega)
      have hp : (1 : Int) * 2 ^ (i + 1) = lqK (i + 1) + 1 := by unfold lqK; omega
      have hul := usL_len xs i
      left
      refine ⟨_, rfl, ?_⟩
      rw [ei, F_spec_UsefulLess_L1, ite_t (decide_eq_true (by omega))]
      simp only [nam, Int.toNat_natCast, hp, show lqK (i + 1) + 1 - 1 = lqK (i + 1) by omega]
      rw [chk_pos ⟨by omega, by omega, by unfold I64; omega⟩, chk_pos (by unfold I64; omega), bnd1_eq (sIsVain_eq xs m _ (by omega)), usL]
      cases hv : vainN xs (lqK (i + 1)) with
      | true => rw [ite_f (show (!true) = false from rfl), chk_pos (by unfold I64; omega), if_pos rfl, List.append_nil]
      | false => rw [ite_t (show (!false) = true from rfl), chk_pos ⟨by omega, by simp only [maxLen]; omega⟩, chk_pos (by unfold I64; omega), if_neg (by simp)]
    · rintro g o rfl
      rw [F_spec_UsefulLess_L1, ite_f (decide_eq_false (by omega))]
theorem iLess_eq' {k : Nat} (h : k ≤ 12) : F_impl_less (k : Int) = some (lqK k) := by
  have := lqK_in h
  have hp : (1 : Int) * 2 ^ k = lqK k + 1 := by unfold lqK; omega
  unfold F_impl_less
  simp only [nam, Int.toNat_natCast]
  rw [hp, chk_pos ⟨by omega, by omega, by unfold I64; omega⟩, chk_pos (by unfold I64; omega), show lqK k + 1 - 1 = lqK k by omega]
theorem iUse_eq (xs : List Int) (m : Int) (hx : xs.length ≤ 1048576) : F_impl_UsefulLess xs m = some (usV xs m, shortN xs m) := by
  unfold F_impl_UsefulLess usV
  rw [chk_pos (by omega)]
  cases hs : shortN xs m with
  | false => rfl
  | true =>
    have hl := sht_len hs
    rw [ite_f (show (!true) = false from rfl)]
    simp only [jn]
    refine loop_st (fun g i (o : List Int) => F_impl_UsefulLess_L1 xs m (fun o6 => some (o6, true)) g o (i + 1)) (xs.length - 1) (fun i o => o = usL xs i) (fun o => o = some (usL xs (xs.length - 1), true)) ?_ ?_ [] rfl fuel (by have := fuel_ge; omega)
    · rintro g i o hi rfl
      have ei : (i : Int) + 1 = ((i + 1 : Nat) : Int) := by omega
      have hul := usL_len xs i
      left
      refine ⟨_, rfl, ?_⟩
      rw [ei, F_impl_UsefulLess_L1, ite_t (decide_eq_true (by omega)), bnd1_eq (iLess_eq' (by omega)), bnd1_eq (iIsVain_eq xs m _ (by omega)), usL]
      cases hv : vainN xs (lqK (i + 1)) with
      | true => rw [ite_f (show (!true) = false from rfl), chk_pos (by unfold I64; omega), if_pos rfl, List.append_nil]
      | false => rw [ite_t (show (!false) = true from rfl), chk_pos ⟨by omega, by simp only [maxLen]; omega⟩, chk_pos (by unfold I64; omega), if_neg (by simp)]
    · rintro g o rfl
      rw [F_impl_UsefulLess_L1, ite_f (decide_eq_false (by omega))]
def osB (xs : List Int) (m : Int) : Bool := shortN xs m && !(((List.length (openN xs) : Nat) : Int) == 0)
def osV (xs : List Int) (m : Int) : Int × Int := bif osB xs m then ((openN xs).getD 0 0, (openN xs).getD ((openN xs).length - 1) 0) else (0, 0)
theorem iSpan0_eq (xs : List Int) (m : Int) (hx : xs.length ≤ 1048576) : F_impl_OpenSpan xs m = some ((osV xs m).1, (osV xs m).2, osB xs m) := by
  unfold F_impl_OpenSpan
  rw [chk_pos hx]
  refine jn_is (fun J => J (!osB xs m)) (fun J => ?_) ?_
  · rw [chk_pos (by omega)]
    unfold osB
    cases shortN xs m with
    | false => rfl
    | true => rw [ite_f (show (!true) = false from rfl), Bool.true_and, Bool.not_not]
  · unfold osV
    have hol := openN_le xs
    cases hb : osB xs m with
    | false => rfl
    | true =>
      have hp : (openN xs).length ≠ 0 := by
        unfold osB at hb
        rw [Bool.and_eq_true, Bool.not_eq_true', beq_eq_false_iff_ne] at hb
        omega
      rw [ite_f (show (!true) = false from rfl), chk_pos ⟨by omega, by omega⟩, chk_pos (by unfold I64; omega)]
      simp only [nam]
      rw [chk_pos ⟨by omega, by omega⟩, show (((List.length (openN xs) : Nat) : Int) - 1).toNat = (openN xs).length - 1 by omega]; rfl
theorem sSpan0_eq (xs : List Int) (m : Int) (hx : xs.length ≤ 1048576) : F_spec_OpenSpan xs m = some ((osV xs m).1, (osV xs m).2, osB xs m) := by
  unfold F_spec_OpenSpan
  cases hs : shortN xs m with
  | false =>
    have hb : osB xs m = false := by unfold osB; rw [hs]; rfl
    refine jn_is (fun J => J true) (fun J => by rw [chk_pos (by omega), ite_t (show (!false) = true from rfl)]) ?_
    unfold osV; rw [hb]; rfl
  | true =>
    have hl := sht_len hs
    have hol := openN_le xs
    refine jn_is (fun J => J (!osB xs m)) (fun J => ?_) ?_
    · rw [chk_pos (by omega), ite_f (show (!true) = false from rfl), bnd1_eq (sOpenL_eq xs m (by omega))]
      unfold osB
      rw [hs, Bool.true_and, Bool.not_not]
    · unfold osV
      cases hb : osB xs m with
      | false => rfl
      | true =>
        have hp : (openN xs).length ≠ 0 := by
          unfold osB at hb
          rw [Bool.and_eq_true, Bool.not_eq_true', beq_eq_false_iff_ne] at hb
          omega
        rw [ite_f (show (!true) = false from rfl), bnd1_eq (sOpenL_eq xs m (by omega)), chk_pos ⟨by omega, by omega⟩, chk_pos (by unfold I64; omega)]
        simp only [nam]
        rw [chk_pos ⟨by omega, by omega⟩, show (((List.length (openN xs) : Nat) : Int) - 1).toNat = (openN xs).length - 1 by omega]; rfl
theorem lpR_len (n : Nat) (m s at' : Int) : ∀ (k : Nat) (xs : List Int) (as : List (Int × Bool)), (lpR n m s at' k xs as).length ≤ as.length + k
  | 0, _, _ => Nat.le_refl _
  | k + 1, xs, as => by
    rw [lpR]
    split
    · omega
    · have := lpR_len n m s at' k (ansN m (lqK (bk n m xs)) (lyB (lqK (bk n m xs)) s at' as.length) xs) (as ++ [(lqK (bk n m xs), lyB (lqK (bk n m xs)) s at' as.length)])
      rw [List.length_append, List.length_singleton] at this; omega
theorem lpQ_len (xs : List Int) (m s at' : Int) : (lpQ xs m s at').length ≤ 11 := by
  have := lpR_len xs.length m s at' 11 xs []
  unfold lpQ; simpa using this
def ltr (n : Nat) (m : Int) (s : Nat) (at' : Int) : Nat → List Int → List (Int × Bool) → Prop
  | _, xs, [] => openN xs = [(s : Int)]
  | i, xs, a :: l => (∃ k, 1 ≤ k ∧ k ≤ n - 1 ∧ a.1 = lqK k) ∧ a.2 = lyB a.1 (s : Int) at' i ∧ ltr n m s at' (i + 1) (ansN m a.1 a.2 xs) l
theorem open_one {xs : List Int} {s : Nat} (h1 : s < xs.length) (h2 : 0 ≤ xs.getD s 0) (h3 : (openN xs).length < 2) : openN xs = [(s : Int)] := by
  have hm := mem_open.2 ⟨s, h1, h2, rfl⟩
  match ho : openN xs with
  | [] => rw [ho] at hm; cases hm
  | [a] =>
    rw [ho, List.mem_singleton] at hm
    rw [hm]
  | a :: b :: l => rw [ho, List.length_cons, List.length_cons] at h3; omega
theorem lpR_ok {n s : Nat} {m at' : Int} (hn : n ≤ 5) (hm : m ≤ 1) : ∀ (d : Nat) (xs : List Int) (as : List (Int × Bool)), okR n m xs → mu m xs ≤ d → okP m s at' xs as.length → ∃ l, lpR n m (s : Int) at' (d + 1) xs as = as ++ l ∧ ltr n m s at' as.length xs l ∧ (l.length : Int) ≤ nd m xs := by
  intro d
  induction d with
  | zero =>
    intro xs as h h0 hp
    have hc : (openN xs).length < 2 := by
      apply Classical.byContradiction
      intro hc
      obtain ⟨k, _, _, hv⟩ := parts_two hn h (by omega)
      have := mu_less (y := true) h.2 hv
      omega
    rw [lpR, if_pos hc]
    exact ⟨[], by rw [List.append_nil], open_one hp.1 hp.2.1 hc, (nd_in hn hm h).1⟩
  | succ d ih =>
    intro xs as h h0 hp
    rw [lpR]
    by_cases hc : (openN xs).length < 2
    · rw [if_pos hc]
      exact ⟨[], by rw [List.append_nil], open_one hp.1 hp.2.1 hc, (nd_in hn hm h).1⟩
    · have hB := bk_ex hn hm h (by omega)
      have hmu := mu_less (y := lyB (lqK (bk n m xs)) (s : Int) at' as.length) h.2 hB.2.2.1.1
      have hn2 := okP_next (n := n) (q := lqK (bk n m xs)) hp
      rw [if_neg hc]
      obtain ⟨l, e, t1, t2⟩ := ih (ansN m (lqK (bk n m xs)) (lyB (lqK (bk n m xs)) (s : Int) at' as.length) xs) (as ++ [(lqK (bk n m xs), lyB (lqK (bk n m xs)) (s : Int) at' as.length)]) (okR_ans h) (by omega) (by rw [List.length_append, List.length_singleton]; exact hn2)
      rw [List.length_append, List.length_singleton] at t1
      have hg := hB.2.2.1.2
      unfold ndO at hg
      refine ⟨(lqK (bk n m xs), lyB (lqK (bk n m xs)) (s : Int) at' as.length) :: l, by rw [e, List.append_assoc]; rfl, ⟨⟨bk n m xs, hB.1, hB.2.1, rfl⟩, rfl, t1⟩, ?_⟩
      rw [List.length_cons]
      cases hy : lyB (lqK (bk n m xs)) (s : Int) at' as.length with
      | true => rw [hy] at t2; omega
      | false => rw [hy] at t2; omega
theorem isQ_lq {n k : Nat} (hn : n ≤ 5) (h1 : 1 ≤ k) (h2 : k ≤ n - 1) : isQ (n : Int) (lqK k) = true := by
  have key : ∀ n : Fin 6, ∀ k : Fin 6, 1 ≤ k.1 → k.1 ≤ n.1 - 1 → isQ ((n.1 : Nat) : Int) (lqK k.1) = true := by decide +kernel
  exact key ⟨n, by omega⟩ ⟨k, by omega⟩ h1 h2
theorem bit_lq {k s : Nat} (hk : k ≤ 12) (hs : s ≤ 12) : (bits .and .i64 (lqK k / 2 ^ s) (1 : Int) == (1 : Int)) = decide (s < k) := by
  have key : ∀ k : Fin 13, ∀ s : Fin 13, (bits .and .i64 (lqK k.1 / 2 ^ s.1) (1 : Int) == (1 : Int)) = decide (s.1 < k.1) := by decide +kernel
  exact key ⟨k, by omega⟩ ⟨s, by omega⟩
theorem vain_lq {n k : Nat} {m : Int} {xs : List Int} (hn : n ≤ 5) (h : okR n m xs) (hk : k ≤ 12) : vainN xs (lqK k) = false ↔ (∃ i : Nat, i < xs.length ∧ 0 ≤ xs.getD i 0 ∧ i < k) ∧ ∃ j : Nat, j < xs.length ∧ 0 ≤ xs.getD j 0 ∧ k ≤ j := by
  have hl := h.1
  constructor
  · intro hv
    obtain ⟨⟨i, a1, a2, a3⟩, ⟨j, b1, b2, b3⟩⟩ := not_vain hv
    rw [hasB_lq hk (by omega), decide_eq_true_iff] at a3
    rw [hasB_lq hk (by omega), decide_eq_false_iff_not] at b3
    exact ⟨⟨i, a1, a2, a3⟩, ⟨j, b1, b2, by omega⟩⟩
  · rintro ⟨⟨i, a1, a2, a3⟩, ⟨j, b1, b2, b3⟩⟩
    cases hv : vainN xs (lqK k) with
    | false => rfl
    | true =>
      rcases (vain_back (m := m) h.2).1 hv with e | e
      · have e1 : (ansN m (lqK k) false xs).getD i 0 = xs.getD i 0 := by rw [e]
        rw [ans_getD (by omega)] at e1
        have hf : falseB (lqK k) false (i : Int) = true := by unfold falseB; rw [hasB_lq hk (by omega), decide_eq_true (by omega)]; rfl
        by_cases ho : xs.getD i 0 + 1 > m
        · rw [lie_over a2 hf ho] at e1; omega
        · rw [lie_up a2 hf ho] at e1; omega
      · have e1 : (ansN m (lqK k) true xs).getD j 0 = xs.getD j 0 := by rw [e]
        rw [ans_getD (by omega)] at e1
        have hf : falseB (lqK k) true (j : Int) = true := by unfold falseB; rw [hasB_lq hk (by omega), decide_eq_false (by omega)]; rfl
        by_cases ho : xs.getD j 0 + 1 > m
        · rw [lie_over b2 hf ho] at e1; omega
        · rw [lie_up b2 hf ho] at e1; omega
theorem sorted_ends {l : List Int} (h : l.Pairwise (· < ·)) : ∀ x ∈ l, l.getD 0 0 ≤ x ∧ x ≤ l.getD (l.length - 1) 0 := by
  intro x hx
  obtain ⟨i, hi, rfl⟩ := List.getElem_of_mem hx
  have hp := List.pairwise_iff_getElem.1 h
  constructor
  · by_cases e : i = 0
    · subst e; simp [List.getD_eq_getElem?_getD, hi]
    · have := hp 0 i (by omega) hi (by omega)
      rw [List.getD_eq_getElem?_getD, List.getElem?_eq_getElem (by omega)]
      simp only [Option.getD_some]; omega
  · by_cases e : i = l.length - 1
    · rw [List.getD_eq_getElem?_getD, List.getElem?_eq_getElem (by omega)]
      simp only [Option.getD_some, e]; exact Int.le_refl _
    · have := hp i (l.length - 1) hi (by omega) (by omega)
      rw [List.getD_eq_getElem?_getD, List.getElem?_eq_getElem (by omega)]
      simp only [Option.getD_some]; omega
theorem usL_count {n lo hi : Nat} {m : Int} {xs : List Int} (hn : n ≤ 5) (h : okR n m xs) (h1 : lo < xs.length ∧ 0 ≤ xs.getD lo 0) (h2 : hi < xs.length ∧ 0 ≤ xs.getD hi 0) (h3 : ∀ i : Nat, i < xs.length → 0 ≤ xs.getD i 0 → lo ≤ i ∧ i ≤ hi) : ∀ K, K ≤ 12 → (usL xs K).length = min K hi - lo
  | 0, _ => by simp [usL]
  | K + 1, hK => by
    rw [usL, List.length_append, usL_count hn h h1 h2 h3 K (by omega)]
    have hv := vain_lq hn h hK
    by_cases c : lo < K + 1 ∧ K + 1 ≤ hi
    · rw [hv.2 ⟨⟨lo, h1.1, h1.2, c.1⟩, ⟨hi, h2.1, h2.2, c.2⟩⟩, if_neg (by simp), List.length_singleton]
      omega
    · have hf : vainN xs (lqK (K + 1)) = true := by
        cases hvv : vainN xs (lqK (K + 1)) with
        | true => rfl
        | false =>
          obtain ⟨⟨i, a1, a2, a3⟩, ⟨j, b1, b2, b3⟩⟩ := hv.1 hvv
          have := h3 i a1 a2
          have := h3 j b1 b2
          omega
      have := h3 lo h1.1 h1.2
      rw [hf, if_pos rfl, List.length_nil]
      omega
theorem span_count {xs : List Int} {m : Int} (hs : shortN xs m = true) (ho : osB xs m = true) : (((usV xs m).length : Nat) : Int) = (osV xs m).2 - (osV xs m).1 ∧ 0 ≤ (osV xs m).1 ∧ (osV xs m).2 ≤ 12 := by
  have hs2 := hs
  unfold shortN at hs2
  simp only [Bool.and_eq_true, decide_eq_true_eq] at hs2
  have hst := state_len hs2.1.1
  have hok : okR xs.length m xs := ⟨rfl, okS_of hs2.1.1⟩
  have hne : openN xs ≠ [] := by
    intro e
    unfold osB at ho
    rw [e] at ho
    simp at ho
  have hpos := List.length_pos_iff.2 hne
  have hends := sorted_ends (l := openN xs) (by rw [openN_fl]; exact fl_sorted _ _)
  have m0 : (openN xs).getD 0 0 ∈ openN xs := getD_in (P := fun z => z ∈ openN xs) hpos fun z hz => hz
  have m1 : (openN xs).getD ((openN xs).length - 1) 0 ∈ openN xs := getD_in (P := fun z => z ∈ openN xs) (by omega) fun z hz => hz
  unfold usV osV
  rw [hs, ho, cond_true, cond_true]
  obtain ⟨lo, l1, l2, l3⟩ := mem_open.1 m0
  obtain ⟨hi, i1, i2, i3⟩ := mem_open.1 m1
  have hc := usL_count (lo := lo) (hi := hi) (by omega) hok ⟨l1, l2⟩ ⟨i1, i2⟩ (fun i h1 h2 => by
    have := hends _ (mem_open.2 ⟨i, h1, h2, rfl⟩)
    rw [l3, i3] at this
    omega) (xs.length - 1) (by omega)
  have hlh := hends _ m1
  rw [l3, i3] at hlh
  dsimp only
  rw [l3, i3, hc]
  omega
theorem drawLess_ok {bs : List Int} (hy : okY bs) : ∃ xs m s a, F_spec_DrawLessPlay bs = some (xs, m, s, a) ∧ xs.length ≤ 13 := by
  unfold F_spec_DrawLessPlay
  obtain ⟨a, p1, s1, e1, g0, g1, g2⟩ := among_ok (s := 0) (p := 0) (xs := [(-1 : Int), (0 : Int), (1 : Int), (2 : Int), (-1 : Int), (3 : Int), (-2 : Int), (20 : Int), (4 : Int)]) hy (by omega) (by omega) (by decide)
  obtain ⟨xs, m, p2, s2, e2, k0, k1, k2, k3, k4, k5⟩ := shortC_ok (s := s1) (p := p1) hy (by omega) (by omega)
  have a1 := maxN_in (a := 1) (b := ((List.length xs : Nat) : Int))
  obtain ⟨u, p3, s3, e3, w0, w1, w2, w3⟩ := pick_ok (s := s2) (p := p2) (n := maxN 1 ((List.length xs : Nat) : Int)) hy (by omega) (by omega)
  obtain ⟨v, p4, s4, e4, y0, y1, y2, y3⟩ := pick_ok (s := s3) (p := p3) (n := 24) hy (by omega) (by omega)
  have w3 := w3 (by omega)
  have y3 := y3 (by omega)
  have hd : 0 ≤ Int.tdiv v 23 ∧ Int.tdiv v 23 ≤ 1 := by rw [Int.tdiv_eq_ediv_of_nonneg (by omega)]; omega
  rw [bnd4_eq e1, bnd5_eq e2, bnd4_eq e3, bnd4_eq e4, chk_pos (by unfold I64; omega), chk_pos (by unfold I64; omega)]
  exact ⟨_, _, _, _, rfl, k4⟩
theorem drawUse_ok {bs : List Int} (hy : okY bs) : ∃ xs m, F_spec_DrawUsefulLess bs = some (xs, m) ∧ xs.length ≤ 13 := by
  unfold F_spec_DrawUsefulLess F_spec_DrawLessNeed
  obtain ⟨xs, m, p2, s2, e2, k0, k1, k2, k3, k4, k5⟩ := shortC_ok (s := 0) (p := 0) hy (by omega) (by omega)
  rw [bnd5_eq e2, bnd2_eq rfl]
  exact ⟨_, _, rfl, k4⟩
theorem iLN_eq (xs : List Int) (m : Int) (hs : shortN xs m = true) : F_impl_LessNeed xs m = some (nd m xs, true) := by
  obtain ⟨g1, g2, g3, g4, g5, g6⟩ := shortN_in hs
  obtain ⟨w, e, _⟩ := iNeed_top g3 g5 g1 [] (NI_nil _ _)
  unfold F_impl_LessNeed
  rw [chk_pos (by omega), hs, ite_f (show (!true) = false from rfl), show F_impl_newLesser = some [] from rfl, bnd1_eq rfl, bnd2_eq e]
theorem law_lessplays {bs : List Int} (hy : okY bs) (hl : bs.length ≤ 9223372036854775807) : F_laws_FnLessPlays bs = some true := by
  unfold F_laws_FnLessPlays
  rw [chk_pos hl]
  by_cases h : ((bs.length : Nat) : Int) > 65536
  · rw [ite_t (decide_eq_true h)]
  rw [ite_f (decide_eq_false h)]
  obtain ⟨xs, m, s, a, e1, hx⟩ := drawLess_ok hy
  have X : xs.length ≤ 1048576 := by omega
  have hlen : (lpV xs m s a).1.length ≤ 1048576 := by
    unfold lpV
    split
    · rename_i hc
      have hcc := hc.1
      unfold lpC at hcc
      simp only [Bool.and_eq_true] at hcc
      have := lpQ_len xs m s a
      dsimp only; omega
    · simp
  rw [bnd4_eq e1, bnd2_eq (iLP_eq xs m s a X), bnd2_eq (sLP_eq xs m s a X)]
  refine jn_is (fun J => J false) (fun J => ?_) ?_
  · rw [beq_self_eq_true, ite_f (show (!true) = false from rfl), bnd1_eq (rAsked_self _ hlen)]; rfl
  rw [ite_f rfl]
  obtain ⟨ts, k, e2, ht⟩ := drawUse_ok hy
  have T : ts.length ≤ 1048576 := by omega
  have hul : (usV ts k).length ≤ 1048576 := by
    unfold usV
    cases shortN ts k with
    | true => have := usL_len ts (ts.length - 1); simp only [cond_true]; omega
    | false => simp
  rw [bnd2_eq e2, bnd2_eq (iUse_eq ts k T), bnd2_eq (sUse_eq ts k T)]
  refine jn_is (fun J => J false) (fun J => ?_) ?_
  · rw [beq_self_eq_true, ite_f (show (!true) = false from rfl), bnd1_eq (rInts_eq _ _ hul), beq_self_eq_true]; rfl
  rw [ite_f rfl, bnd3_eq (iSpan0_eq ts k T), bnd3_eq (sSpan0_eq ts k T)]
  refine jn_is (fun J => J false) (fun J => ?_) ?_
  · rw [ite_f (bne_self_eq_false _), ite_f (bne_self_eq_false _), beq_self_eq_true]; rfl
  rw [ite_f rfl]
  refine jn_is (fun J => J ()) (fun J => ?_) ?_
  · cases hs : shortN ts k with
    | false => rfl
    | true =>
      have hs2 := hs
      unfold shortN at hs2
      simp only [Bool.and_eq_true, decide_eq_true_eq] at hs2
      have hop : opV ts k = openN ts := by unfold opV; rw [hs2.1.1]; rfl
      have hol := openN_le ts
      rw [ite_t rfl, bnd2_eq (iOpenNumbers_eq ts k T), hs2.1.1, hop]
      refine jn_is (fun K => K false) (fun K => ?_) ?_
      · rw [ite_f (show (!true) = false from rfl)]
        have : osB ts k = decide ((((openN ts).length : Nat) : Int) > 0) := by
          unfold osB
          rw [hs, Bool.true_and, Bool.eq_iff_iff, Bool.not_eq_true', beq_eq_false_iff_ne, decide_eq_true_iff]
          omega
        rw [this, beq_self_eq_true]; rfl
      rw [ite_f rfl]
      refine jn_is (fun K => K false) (fun K => ?_) ?_
      · cases ho : osB ts k with
        | false => rfl
        | true =>
          have hsc := span_count hs ho
          have hpos : 0 < (openN ts).length := by
            have ho2 := ho
            unfold osB at ho2
            rw [Bool.and_eq_true, Bool.not_eq_true', beq_eq_false_iff_ne] at ho2
            omega
          have hv : osV ts k = ((openN ts).getD 0 0, (openN ts).getD ((openN ts).length - 1) 0) := by unfold osV; rw [ho]; rfl
          rw [hv] at hsc ⊢
          dsimp only at hsc ⊢
          have hends := sorted_ends (l := openN ts) (by rw [openN_fl]; exact fl_sorted _ _) _ (getD_in (P := fun z => z ∈ openN ts) (i := (openN ts).length - 1) (by omega) fun z hz => hz)
          rw [ite_t rfl, chk_pos ⟨by omega, by omega⟩, ite_f (bne_self_eq_false _), chk_pos (by unfold I64; omega)]
          simp only [nam]
          rw [chk_pos ⟨by omega, by omega⟩, show (((List.length (openN ts) : Nat) : Int) - 1).toNat = (openN ts).length - 1 by omega, ite_f (bne_self_eq_false _), chk_pos (by unfold I64; omega), hsc.1, bne_self_eq_false]
      rw [ite_f rfl]
  -- the play
  by_cases hc : lpC xs m s a = true ∧ a < ((lpQ xs m s a).length : Int)
  · have hv : lpV xs m s a = (lpQ xs m s a, true) := by unfold lpV; rw [if_pos hc]
    rw [hv]
    dsimp only
    have hcc := hc.1
    unfold lpC at hcc
    simp only [Bool.and_eq_true, Bool.not_eq_true', decide_eq_true_eq] at hcc
    obtain ⟨⟨⟨c1, c2⟩, c3⟩, c4⟩ := hcc
    obtain ⟨g1, g2, g3, g4, g5, g6⟩ := shortN_in c1
    obtain ⟨k', rfl⟩ : ∃ k : Nat, s = (k : Int) := by
      unfold opB at c2
      simp only [Bool.and_eq_true, decide_eq_true_eq] at c2
      exact int_nat c2.1.1
    have ho2 := op_iff.1 c2
    have hmu := mu_le g1.2 g5
    obtain ⟨l, el, t1, t2⟩ := lpR_ok (s := k') (at' := a) g3 g5 10 xs [] g1 (by omega) ⟨ho2.1, ho2.2, fun hh => by
      have ha : a ≥ 0 := by simpa using hh
      rw [decide_eq_true ha, Bool.true_and, decide_eq_false_iff_not, Int.toNat_natCast] at c4
      omega⟩
    have hq : lpQ xs m (k' : Int) a = l := el
    have hnd := nd_in g3 g5 g1
    rw [hq] at hc ⊢
    rw [ite_f (show (!true) = false from rfl), bnd2_eq (iLN_eq xs m c1)]
    refine jn_is (fun J => J false) (fun J => ?_) ?_
    · rw [ite_f (show (!true) = false from rfl), decide_eq_false (by omega)]
    rw [ite_f rfl]
    simp only [jn]
    refine loop_st (fun g i (st : List Int × Int) => F_laws_FnLessPlays_L1 (k' : Int) a l (fun o25 o25b => bnd2 (F_impl_OpenNumbers o25 o25b) fun r208 r208b => (bif r208b then bnd1 (F_laws_rInts r208 [(k' : Int)]) fun r216 => some r216 else some false)) g st.1 st.2 i) l.length (fun i st => st.2 = m ∧ okR xs.length m st.1 ∧ ltr xs.length m k' a i st.1 (l.drop i)) (fun o => o = some true) ?_ ?_ (xs, m) ⟨rfl, g1, t1⟩ fuel (by have := fuel_ge; omega)
    · rintro g i ⟨ys, m'⟩ hi ⟨rfl, ho, ht⟩
      dsimp only at ho ht ⊢
      left
      have hdrop : l.drop i = l.getD i (0, false) :: l.drop (i + 1) := by
        rw [List.drop_eq_getElem_cons hi]; simp [List.getD_eq_getElem?_getD, hi]
      rw [hdrop] at ht
      rw [F_laws_FnLessPlays_L1, ite_t (decide_eq_true (by omega)), chk_pos ⟨by omega, by omega⟩, Int.toNat_natCast]
      generalize l.getD i (0, false) = b at ht
      obtain ⟨⟨kk, k1, k2, k3⟩, k4, k5⟩ := ht
      have hol := ho.1
      have hst : isStateN ys m' = true := isState_ok ho.2 (by omega)
      have has : asB ys m' b.1 = true := by unfold asB; rw [hst, hol, k3, isQ_lq g3 k1 k2]; rfl
      have ea : asL ys m' b.1 b.2 = ansN m' b.1 b.2 ys := by unfold asL; rw [if_pos has]
      have em : asM ys m' b.1 b.2 = m' := by unfold asM; rw [if_pos has]
      refine ⟨(ansN m' b.1 b.2 ys, m'), ⟨rfl, okR_ans ho, k5⟩, ?_⟩
      rw [chk_pos (by omega), chk_pos ⟨by omega, by omega⟩, ea, em, has]
      simp only [nam, Int.toNat_natCast]
      refine jn_is (fun K => K false) (fun K => ?_) ?_
      · rw [ite_f (show (!true) = false from rfl), k4, k3, bit_lq (by omega) (by omega)]
        unfold lyB
        rw [hasB_lq (by omega) (by omega)]
        cases decide (k' < kk) <;> cases (((i : Nat) : Int) == a) <;> rfl
      · rw [ite_f rfl, chk_pos (by unfold I64; omega)]; rfl
    · rintro g ⟨ys, m'⟩ ⟨rfl, ho, ht⟩
      dsimp only at ho ht ⊢
      rw [List.drop_length] at ht
      have hol := ho.1
      have hst : isStateN ys m' = true := isState_ok ho.2 (by omega)
      have hop : opV ys m' = [(k' : Int)] := by unfold opV; rw [hst]; exact ht
      rw [F_laws_FnLessPlays_L1, ite_f (decide_eq_false (by omega)), bnd2_eq (iOpenNumbers_eq ys m' (by omega)), hst, hop, ite_t rfl, bnd1_eq (rInts_eq _ _ (by simp)), beq_self_eq_true]
  · have hv : lpV xs m s a = ([], false) := by unfold lpV; rw [if_neg hc]
    rw [hv]; rfl
end Go.Tl
