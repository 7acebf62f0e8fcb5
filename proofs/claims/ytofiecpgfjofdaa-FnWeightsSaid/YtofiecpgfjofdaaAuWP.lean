/-
  Plain laws of the printed functions: no program here.
-/
import Derived.Test.YtofiecpgfjofdaaAuWF
namespace Go.Tl
set_option linter.unusedVariables false
set_option linter.unusedSimpArgs false
/-- A loop, told by what its rounds keep. -/
theorem loop_m {σ R : Type} (L : Nat → σ → Option R) (I : σ → Prop) (μ : σ → Nat) (Q : Option R → Prop)
    (step : ∀ n s, I s → (∃ s', I s' ∧ μ s' < μ s ∧ L (n + 1) s = L n s') ∨ Q (L (n + 1) s)) : ∀ n s, I s → μ s < n → Q (L n s) := by
  intro n
  induction n with
  | zero => intro s _ h; omega
  | succ n ih =>
    intro s hI hm
    rcases step n s hI with ⟨s', h1, h2, h3⟩ | h
    · rw [h3]; exact ih s' h1 (by omega)
    · exact h
/-- A loop that counts up to N; st is its state by the count. -/
theorem loop_up {σ R : Type} (L : Nat → Int → σ → Option R) (N : Int) (st : Int → σ) (r : Option R)
    (step : ∀ n i, 0 ≤ i → i < N → L (n + 1) i (st i) = L n (i + 1) (st (i + 1))) (fin : ∀ n, L (n + 1) N (st N) = r) (h0 : 0 ≤ N) (n : Nat) (hn : N.toNat < n) : L n 0 (st 0) = r := by
  have key : ∀ (k : Nat) (n : Nat) (i : Int), 0 ≤ i → i + k = N → k < n → L n i (st i) = r := by
    intro k
    induction k with
    | zero => intro n i h1 h2 h3; obtain ⟨n, rfl⟩ : ∃ m, n = m + 1 := ⟨n - 1, by omega⟩; have e : i = N := by omega
              subst e; exact fin n
    | succ k ih =>
      intro n i h1 h2 h3
      obtain ⟨n, rfl⟩ : ∃ m, n = m + 1 := ⟨n - 1, by omega⟩
      rw [step n i h1 (by omega)]
      exact ih n (i + 1) (by omega) (by omega) (by omega)
  exact key N.toNat n 0 (Int.le_refl _) (by omega) hn
/-- A loop that counts up to N and may end early: with what p tells. -/
theorem loop_all {R : Type} (L : Nat → Int → Option R) (N : Int) (p : Int → Bool) (no yes : Option R)
    (step : ∀ n i, 0 ≤ i → i < N → p i = true → L (n + 1) i = L n (i + 1)) (stop : ∀ n i, 0 ≤ i → i < N → p i = false → L (n + 1) i = no) (fin : ∀ n, L (n + 1) N = yes) (h0 : 0 ≤ N) (n : Nat) (hn : N.toNat < n) :
    (L n 0 = yes ∧ ∀ i, 0 ≤ i → i < N → p i = true) ∨ (L n 0 = no ∧ ∃ i, 0 ≤ i ∧ i < N ∧ p i = false ∧ ∀ j, 0 ≤ j → j < i → p j = true) := by
  have key : ∀ (k : Nat) (n : Nat) (i : Int), 0 ≤ i → i + k = N → k < n → (∀ j, 0 ≤ j → j < i → p j = true) → (L n i = yes ∧ ∀ i, 0 ≤ i → i < N → p i = true) ∨ (L n i = no ∧ ∃ i, 0 ≤ i ∧ i < N ∧ p i = false ∧ ∀ j, 0 ≤ j → j < i → p j = true) := by
    intro k
    induction k with
    | zero => intro n i h1 h2 h3 h4; obtain ⟨n, rfl⟩ : ∃ m, n = m + 1 := ⟨n - 1, by omega⟩; have e : i = N := by omega
              subst e; exact .inl ⟨fin n, h4⟩
    | succ k ih =>
      intro n i h1 h2 h3 h4
      obtain ⟨n, rfl⟩ : ∃ m, n = m + 1 := ⟨n - 1, by omega⟩
      cases hp : p i with
      | false => exact .inr ⟨stop n i h1 (by omega) hp, i, h1, by omega, hp, h4⟩
      | true =>
        rw [step n i h1 (by omega) hp]
        refine ih n (i + 1) (by omega) (by omega) (by omega) fun j k1 k2 => ?_
        by_cases e : j = i
        · rw [e]; exact hp
        · exact h4 j k1 (by omega)
  exact key N.toNat n 0 (Int.le_refl _) (by omega) hn fun j h1 h2 => by omega
theorem ite_t {α : Type} {c : Bool} (h : c = true) (x y : α) : (bif c then x else y) = x := by rw [h]; rfl
theorem ite_f {α : Type} {c : Bool} (h : c = false) (x y : α) : (bif c then x else y) = y := by rw [h]; rfl
theorem ite_c {α : Type} {P : α → Prop} {c : Bool} {x y : α} (h1 : c = true → P x) (h2 : c = false → P y) : P (bif c then x else y) := by
  cases c
  · exact h2 rfl
  · exact h1 rfl
theorem getD_in {xs : List Int} {i : Nat} {P : Int → Prop} (h : i < xs.length) (hP : ∀ x ∈ xs, P x) : P (xs.getD i 0) := by
  rw [List.getD_eq_getElem?_getD, List.getElem?_eq_getElem h]; exact hP _ (List.getElem_mem h)
theorem maxN_in {a b : Int} : a ≤ maxN a b ∧ b ≤ maxN a b ∧ (maxN a b = a ∨ maxN a b = b) := by unfold maxN; split <;> omega
theorem minN_in {a b : Int} : minN a b ≤ a ∧ minN a b ≤ b ∧ (minN a b = a ∨ minN a b = b) := by unfold minN; split <;> omega
theorem next_ok {bs : List Int} {p s : Int} (hy : okY bs) (h0 : 0 ≤ p) (h1 : p ≤ 1000000000000) : ∃ v s', F_p_spec_l1Cur_next bs p s = some (v, bs, p + 1, s') ∧ 0 ≤ v ∧ v ≤ 255 := by
  unfold F_p_spec_l1Cur_next
  have hb := hy p.toNat
  have fin : ∀ v3 : Int, 0 ≤ v3 → v3 ≤ 255 → ∃ v s', (chk (I64 (p + (1 : Int))) <| nam (IntKind.wrap .u64 (s * (6364136223846793005 : Int))) fun n37 => nam (IntKind.wrap .u64 (n37 + (IntKind.wrap .u64 v3))) fun n40 => (bif (decide ((p + (1 : Int)) ≤ ((List.length bs : Nat) : Int))) then some (v3, bs, (p + (1 : Int)), (IntKind.wrap .u64 (n40 + (462197 : Int)))) else nam (bits .and .u64 ((IntKind.wrap .u64 (n40 + (462197 : Int))) / 2 ^ Int.toNat (40 : Int)) (255 : Int)) fun n60 => chk (I64 n60) <| some (n60, bs, (p + (1 : Int)), (IntKind.wrap .u64 (n40 + (462197 : Int)))))) = some (v, bs, p + 1, s') ∧ 0 ≤ v ∧ v ≤ 255 := by
    intro v3 k0 k1
    rw [chk_pos (by unfold I64; omega)]
    simp only [nam]
    refine ite_c (P := fun o => ∃ v s', o = some (v, bs, p + 1, s') ∧ 0 ≤ v ∧ v ≤ 255) (fun _ => ?_) (fun _ => ?_)
    · exact ⟨_, _, rfl, k0, k1⟩
    · have h2 := and255 ((IntKind.wrap .u64 ((IntKind.wrap .u64 ((IntKind.wrap .u64 (s * (6364136223846793005 : Int))) + (IntKind.wrap .u64 v3))) + (462197 : Int))) / 2 ^ Int.toNat (40 : Int))
      rw [chk_pos (by unfold I64; omega)]
      exact ⟨_, _, rfl, h2.1, h2.2⟩
  simp only [jn]
  refine ite_c (P := fun o => ∃ v s', o = some (v, bs, p + 1, s') ∧ 0 ≤ v ∧ v ≤ 255) (fun h => ?_) (fun _ => ?_)
  · have h := of_decide_eq_true h
    rw [chk_pos (by omega), chk_pos (by unfold I64; omega)]
    exact fin _ hb.1 hb.2
  · exact fin 0 (by omega) (by omega)
theorem tmod_in {a n : Int} (h0 : 0 ≤ a) (h1 : 0 < n) : 0 ≤ Int.tmod a n ∧ Int.tmod a n < n := ⟨Int.tmod_nonneg _ h0, Int.tmod_lt_of_pos _ h1⟩
theorem pick_ok {bs : List Int} {p s n : Int} (hy : okY bs) (h0 : 0 ≤ p) (h1 : p ≤ 900000000000) : ∃ v p' s', F_p_spec_l1Cur_pick bs p s n = some (v, bs, p', s') ∧ p ≤ p' ∧ p' ≤ p + 2 ∧ 0 ≤ v ∧ (1 ≤ n → v < n) := by
  unfold F_p_spec_l1Cur_pick
  rcases Bool.eq_false_or_eq_true (decide (n ≤ (1 : Int))) with h | h
  · have h := of_decide_eq_true h
    rw [ite_t (decide_eq_true h)]
    exact ⟨0, p, s, rfl, by omega, by omega, by omega, fun _ => by omega⟩
  · rw [ite_f h]
    have h := of_decide_eq_false h
    obtain ⟨v, s', e, g0, g1⟩ := next_ok (s := s) hy h0 (by omega)
    rw [bnd4_eq e]
    simp only [jn]
    rcases Bool.eq_false_or_eq_true (decide (n > (200 : Int))) with h4 | h4
    · rw [ite_t h4]
      obtain ⟨v2, s2, e2, k0, k1⟩ := next_ok (s := s') hy (p := p + 1) (by omega) (by omega)
      rw [chk_pos (by unfold I64; omega), bnd4_eq e2, chk_pos (by unfold I64; omega), chk_pos (by omega)]
      have := tmod_in (a := v * 256 + v2) (n := n) (by omega) (by omega)
      exact ⟨_, _, _, rfl, by omega, by omega, this.1, fun _ => this.2⟩
    · rw [ite_f h4]
      rw [chk_pos (by omega)]
      have := tmod_in (a := v) (n := n) (by omega) (by omega)
      exact ⟨_, _, _, rfl, by omega, by omega, this.1, fun _ => this.2⟩
theorem one_ok {bs : List Int} {p s n : Int} (hy : okY bs) (h0 : 0 ≤ p) (h1 : p ≤ 900000000000) : ∃ b p' s', F_p_spec_l1Cur_one bs p s n = some (b, bs, p', s') ∧ p ≤ p' ∧ p' ≤ p + 2 := by
  unfold F_p_spec_l1Cur_one
  obtain ⟨v, p', s', e, g0, g1, g2, g3⟩ := pick_ok (s := s) (n := n) hy h0 h1
  rw [bnd4_eq e]
  exact ⟨_, _, _, rfl, g0, g1⟩
theorem among_ok {bs : List Int} {p s : Int} {xs : List Int} (hy : okY bs) (h0 : 0 ≤ p) (h1 : p ≤ 900000000000) (hx : 0 < xs.length) : ∃ v p' s', F_p_spec_l1Cur_among bs p s xs = some (v, bs, p', s') ∧ p ≤ p' ∧ p' ≤ p + 2 ∧ v ∈ xs := by
  unfold F_p_spec_l1Cur_among
  obtain ⟨v, p', s', e, g0, g1, g2, g3⟩ := pick_ok (s := s) (n := ((List.length xs : Nat) : Int)) hy h0 h1
  rw [bnd4_eq e, chk_pos ⟨g2, g3 (by omega)⟩]
  refine ⟨_, _, _, rfl, g0, g1, ?_⟩
  have := g3 (by omega)
  exact getD_in (P := fun x => x ∈ xs) (by omega) fun x hx => hx
theorem many_ok {bs : List Int} {p s : Int} (hy : okY bs) (h0 : 0 ≤ p) (h1 : p ≤ 900000000000) : ∃ v p' s', F_p_spec_l1Cur_many bs p s = some (v, bs, p', s') ∧ p ≤ p' ∧ p' ≤ p + 2 ∧ 0 ≤ v ∧ v ≤ 13 := by
  unfold F_p_spec_l1Cur_many
  obtain ⟨v, p', s', e, g0, g1, g2⟩ := among_ok (s := s) (xs := [(4 : Int), (6 : Int), (8 : Int), (3 : Int), (5 : Int), (2 : Int), (7 : Int), (12 : Int), (1 : Int), (0 : Int), (13 : Int), (4 : Int), (6 : Int), (8 : Int), (3 : Int), (5 : Int)]) hy h0 h1 (by decide)
  rw [bnd4_eq e]
  refine ⟨_, _, _, rfl, g0, g1, ?_⟩
  simp only [List.mem_cons, List.not_mem_nil, or_false] at g2
  omega
theorem lies_ok {bs : List Int} {p s : Int} (hy : okY bs) (h0 : 0 ≤ p) (h1 : p ≤ 900000000000) : ∃ v p' s', F_p_spec_l1Cur_lies bs p s = some (v, bs, p', s') ∧ p ≤ p' ∧ p' ≤ p + 2 ∧ -1 ≤ v ∧ v ≤ 3 := by
  unfold F_p_spec_l1Cur_lies
  obtain ⟨v, p', s', e, g0, g1, g2⟩ := among_ok (s := s) (xs := [(1 : Int), (1 : Int), (2 : Int), (0 : Int), (1 : Int), (2 : Int), (1 : Int), (3 : Int), (-1 : Int), (1 : Int), (2 : Int), (0 : Int)]) hy h0 h1 (by decide)
  rw [bnd4_eq e]
  refine ⟨_, _, _, rfl, g0, g1, ?_⟩
  simp only [List.mem_cons, List.not_mem_nil, or_false] at g2
  omega
theorem state_ok {bs : List Int} {p s : Int} (hy : okY bs) (h0 : 0 ≤ p) (h1 : p ≤ 700000000000) : ∃ xs m p' s', F_p_spec_l1Cur_state bs p s = some (xs, m, bs, p', s') ∧ p ≤ p' ∧ p' ≤ p + 100 ∧ -1 ≤ m ∧ m ≤ 3 ∧ xs.length ≤ 13 ∧ (∀ x ∈ xs, -1 ≤ x ∧ x ≤ 4) := by
  unfold F_p_spec_l1Cur_state
  obtain ⟨m, p1, s1, e1, g0, g1, g2, g3⟩ := lies_ok (s := s) hy h0 (by omega)
  obtain ⟨k, p2, s2, e2, k0, k1, k2, k3⟩ := many_ok (s := s1) hy (p := p1) (by omega) (by omega)
  rw [bnd4_eq e1, bnd4_eq e2]
  simp only [jn]
  let Q : Option (List Int × Int × List Int × Int × Int) → Prop := fun o => ∃ xs m p' s', o = some (xs, m, bs, p', s') ∧ p ≤ p' ∧ p' ≤ p + 100 ∧ -1 ≤ m ∧ m ≤ 3 ∧ xs.length ≤ 13 ∧ (∀ x ∈ xs, -1 ≤ x ∧ x ≤ 4)
  have fin2 : ∀ (xs : List Int) (pp ss : Int), p ≤ pp → pp ≤ p + 56 → xs.length = k.toNat → (∀ x ∈ xs, -1 ≤ x ∧ x ≤ 4) → Q (F_p_spec_l1Cur_state_L2 m k (fun o500d o500e o500g o12b => some (o12b, m, o500d, o500e, o500g)) fuel bs pp ss xs 0) := by
    intro xs pp ss hp1 hp2 hl hx
    refine loop_m (fun n (z : Int × Int × List Int × Int) => F_p_spec_l1Cur_state_L2 m k (fun o500d o500e o500g o12b => some (o12b, m, o500d, o500e, o500g)) n bs z.1 z.2.1 z.2.2.1 z.2.2.2) (fun z => 0 ≤ z.2.2.2 ∧ z.2.2.2 ≤ k ∧ p ≤ z.1 ∧ z.1 ≤ p + 56 + 2 * z.2.2.2 ∧ z.2.2.1.length = k.toNat ∧ ∀ x ∈ z.2.2.1, -1 ≤ x ∧ x ≤ 4) (fun z => (k - z.2.2.2).toNat) Q ?_ fuel (pp, ss, xs, 0) ⟨by simp only; omega, by simp only; omega, hp1, by simp only; omega, hl, hx⟩ (by have := fuel_ge; simp only; omega)
    rintro n ⟨pp, ss, xs, i⟩ ⟨i0, i1, q0, q1, ql, qx⟩
    simp only at i0 i1 q0 q1 ql qx ⊢
    rw [F_p_spec_l1Cur_state_L2]
    by_cases hi : i < k
    · rw [ite_t (decide_eq_true hi)]
      simp only [jn]
      rw [chk_pos (by omega)]
      have stay : ∀ pp', p ≤ pp' → pp' ≤ p + 56 + 2 * (i + 1) → ∀ ss' (b : Bool), (∃ s' : Int × Int × List Int × Int, (0 ≤ s'.2.2.2 ∧ s'.2.2.2 ≤ k ∧ p ≤ s'.1 ∧ s'.1 ≤ p + 56 + 2 * s'.2.2.2 ∧ s'.2.2.1.length = k.toNat ∧ ∀ x ∈ s'.2.2.1, -1 ≤ x ∧ x ≤ 4) ∧ (k - s'.2.2.2).toNat < (k - i).toNat ∧
          (bif b then chk (0 ≤ i ∧ i < ((List.length xs : Nat) : Int)) <| chk (I64 (i + (1 : Int))) <| F_p_spec_l1Cur_state_L2 m k (fun o500d o500e o500g o12b => some (o12b, m, o500d, o500e, o500g)) n bs pp' ss' (List.set xs (Int.toNat i) (-1 : Int)) (i + (1 : Int)) else chk (I64 (i + (1 : Int))) <| F_p_spec_l1Cur_state_L2 m k (fun o500d o500e o500g o12b => some (o12b, m, o500d, o500e, o500g)) n bs pp' ss' xs (i + (1 : Int))) = F_p_spec_l1Cur_state_L2 m k (fun o500d o500e o500g o12b => some (o12b, m, o500d, o500e, o500g)) n bs s'.1 s'.2.1 s'.2.2.1 s'.2.2.2) := by
        intro pp' r0 r1 ss' b
        cases b
        · rw [ite_f rfl, chk_pos (by unfold I64; omega)]
          exact ⟨(pp', ss', xs, i + 1), ⟨by simp only; omega, by simp only; omega, r0, r1, ql, qx⟩, by simp only; omega, rfl⟩
        · rw [ite_t rfl, chk_pos (by omega), chk_pos (by unfold I64; omega)]
          refine ⟨(pp', ss', List.set xs (Int.toNat i) (-1), i + 1), ⟨by simp only; omega, by simp only; omega, r0, r1, by simp only [List.length_set]; exact ql, fun x hx => ?_⟩, by simp only; omega, rfl⟩
          rcases List.mem_or_eq_of_mem_set hx with h | h
          · exact qx x h
          · subst h; omega
      rcases Bool.eq_false_or_eq_true (decide (List.getD xs (Int.toNat i) 0 > m)) with h4 | h4
      · rw [ite_t h4]
        obtain ⟨b, p4, s4, e4, w0, w1⟩ := one_ok (s := ss) (n := 30) hy (p := pp) (by omega) (by omega)
        rw [bnd4_eq e4]
        exact .inl (stay p4 (by omega) (by omega) s4 (!b))
      · rw [ite_f h4]
        exact .inl (stay pp (by omega) (by omega) ss false)
    · rw [ite_f (decide_eq_false hi)]
      exact .inr ⟨_, _, _, _, rfl, by omega, by omega, g2, g3, by omega, qx⟩
  refine loop_m (fun n (z : Int × Int × List Int × Int) => F_p_spec_l1Cur_state_L1 m k (fun o500 o500b o500c o12 => F_p_spec_l1Cur_state_L2 m k (fun o500d o500e o500g o12b => some (o12b, m, o500d, o500e, o500g)) fuel o500 o500b o500c o12 0) n bs z.1 z.2.1 z.2.2.1 z.2.2.2) (fun z => 0 ≤ z.2.2.2 ∧ z.2.2.2 ≤ k ∧ p ≤ z.1 ∧ z.1 ≤ p + 4 + 4 * z.2.2.2 ∧ z.2.2.1.length = z.2.2.2.toNat ∧ ∀ x ∈ z.2.2.1, -1 ≤ x ∧ x ≤ 4) (fun z => (k - z.2.2.2).toNat) Q ?_ fuel (p2, s2, [], 0) ⟨by simp, by simp only; omega, by simp only; omega, by simp only; omega, rfl, fun x hx => by simp at hx⟩ (by have := fuel_ge; simp only; omega)
  rintro n ⟨pp, ss, xs, i⟩ ⟨i0, i1, q0, q1, ql, qx⟩
  simp only at i0 i1 q0 q1 ql qx ⊢
  rw [F_p_spec_l1Cur_state_L1]
  by_cases hi : i < k
  · rw [ite_t (decide_eq_true hi), chk_pos (by unfold I64; omega)]
    have a2 := maxN_in (a := 1) (b := m + 2)
    obtain ⟨v, p4, s4, e4, w0, w1, w2, w3⟩ := pick_ok (s := ss) (n := maxN 1 (m + 2)) hy (p := pp) (by omega) (by omega)
    obtain ⟨v5, p5, s5, e5, y0, y1, y2, y3⟩ := pick_ok (s := s4) (n := 6) hy (p := p4) (by omega) (by omega)
    have hd := d5_in y2 (y3 (by omega))
    unfold d5 at hd
    have hv := w3 (by omega)
    rw [bnd4_eq e4, bnd4_eq e5, chk_pos (by unfold I64; omega), chk_pos (by unfold I64; omega), chk_pos ⟨by omega, by simp only [maxLen]; omega⟩, chk_pos (by unfold I64; omega)]
    refine .inl ⟨(p5, s5, xs ++ [v - Int.tdiv v5 5], i + 1), ⟨by simp only; omega, by simp only; omega, by simp only; omega, by simp only; omega, by simp only [List.length_append, List.length_cons, List.length_nil]; omega, fun x hx => ?_⟩, by simp only; omega, rfl⟩
    rcases List.mem_append.1 hx with h | h
    · exact qx x h
    · simp only [List.mem_cons, List.not_mem_nil, or_false] at h
      omega
  · rw [ite_f (decide_eq_false hi)]
    exact .inr (fin2 xs pp ss q0 (by omega) (by omega) qx)
theorem jn_is {γ δ : Type} {f : γ} {g : γ → Option δ} {r : Option δ} (k : γ → Option δ) (h : ∀ J, g J = k J) (h2 : k f = r) : jn f g = r := by
  unfold jn; rw [h f]; exact h2
/-- The numbers below k that p tells. -/
def fl (p : Nat → Bool) (k : Nat) : List Int := ((List.range k).filter p).map fun (i : Nat) => (i : Int)
theorem fl_yes {p : Nat → Bool} {k : Nat} (h : p k = true) : fl p (k + 1) = fl p k ++ [(k : Int)] := by
  unfold fl; rw [List.range_succ, List.filter_append, List.map_append, List.filter_cons, if_pos h]; rfl
theorem fl_no {p : Nat → Bool} {k : Nat} (h : p k = false) : fl p (k + 1) = fl p k := by
  unfold fl; rw [List.range_succ, List.filter_append, List.map_append, List.filter_cons, if_neg (by rw [h]; simp)]; simp
theorem fl_len (p : Nat → Bool) (k : Nat) : (fl p k).length ≤ k := by
  unfold fl; rw [List.length_map]; exact Nat.le_trans (List.length_filter_le _ _) (by simp)
theorem mem_fl {p : Nat → Bool} {k : Nat} {x : Int} : x ∈ fl p k ↔ ∃ i : Nat, i < k ∧ p i = true ∧ x = (i : Int) := by
  unfold fl
  simp only [List.mem_map, List.mem_filter, List.mem_range]
  constructor
  · rintro ⟨i, ⟨h1, h2⟩, rfl⟩; exact ⟨i, h1, h2, rfl⟩
  · rintro ⟨i, h1, h2, rfl⟩; exact ⟨i, ⟨h1, h2⟩, rfl⟩
theorem fl_getD {p : Nat → Bool} {k i : Nat} (h : i < (fl p k).length) : ∃ j : Nat, j < k ∧ p j = true ∧ (fl p k).getD i 0 = (j : Int) := by
  have : (fl p k).getD i 0 ∈ fl p k := getD_in (P := fun x => x ∈ fl p k) h fun x hx => hx
  obtain ⟨j, h1, h2, h3⟩ := mem_fl.1 this
  exact ⟨j, h1, h2, h3⟩
theorem openN_fl (xs : List Int) : openN xs = fl (fun i => decide (xs.getD i 0 ≥ 0)) xs.length := rfl
theorem int_nat {i : Int} (h : 0 ≤ i) : ∃ k : Nat, i = (k : Int) := ⟨i.toNat, by omega⟩
/-- How many of the first i elements are told by p. -/
def cntL (p : Int → Bool) (l : List Int) : Nat → Int
  | 0 => 0
  | i + 1 => cntL p l i + (bif p (l.getD i 0) then 1 else 0)
theorem cntL_in (p : Int → Bool) (l : List Int) : ∀ i : Nat, 0 ≤ cntL p l i ∧ cntL p l i ≤ (i : Int)
  | 0 => by simp [cntL]
  | i + 1 => by
    have := cntL_in p l i
    unfold cntL
    cases p (l.getD i 0) <;> simp only [cond_true, cond_false] <;> omega
theorem cntL_congr {p q : Int → Bool} {l : List Int} : ∀ i : Nat, i ≤ l.length → (∀ x ∈ l, p x = q x) → cntL p l i = cntL q l i
  | 0, _, _ => rfl
  | i + 1, hi, h => by
    unfold cntL
    rw [cntL_congr i (by omega) h, h _ (getD_in (P := fun z => z ∈ l) (by omega) fun z hz => hz)]
def sumP (l : List Int) : Nat → Int
  | 0 => 0
  | i + 1 => sumP l i + l.getD i 0
theorem sumP_set {l : List Int} {v : Nat} {x : Int} (hv : v < l.length) : ∀ n : Nat, sumP (l.set v x) n = sumP l n + (if v < n then x - l.getD v 0 else 0)
  | 0 => by simp [sumP]
  | n + 1 => by
    unfold sumP
    rw [sumP_set hv n]
    by_cases e : n = v
    · subst e
      rw [set_getD _ _ _ _ hv, if_neg (by omega), if_pos (by omega)]; omega
    · have : (l.set v x).getD n 0 = l.getD n 0 := by
        rw [List.getD_eq_getElem?_getD, List.getElem?_set_ne (by omega), ← List.getD_eq_getElem?_getD]
      rw [this]
      by_cases e2 : v < n
      · rw [if_pos e2, if_pos (by omega)]; omega
      · rw [if_neg e2, if_neg (by omega)]; omega
theorem sumP_in {l : List Int} {B : Int} (h : ∀ x ∈ l, 0 ≤ x ∧ x ≤ B) : ∀ i : Nat, i ≤ l.length → 0 ≤ sumP l i ∧ sumP l i ≤ B * i
  | 0, _ => by simp [sumP]
  | i + 1, hi => by
    have := sumP_in h i (by omega)
    have h2 := getD_in (P := fun x => 0 ≤ x ∧ x ≤ B) (i := i) (by omega) h
    unfold sumP
    have e : B * ((i + 1 : Nat) : Int) = B * i + B := by rw [Int.natCast_succ, Int.mul_add, Int.mul_one]
    rw [e]; omega
theorem openN_le (xs : List Int) : (openN xs).length ≤ xs.length := fl_len _ _
theorem state_len {xs : List Int} {m : Int} (h : isStateN xs m = true) : 1 ≤ xs.length ∧ xs.length ≤ 12 ∧ 0 ≤ m ∧ m ≤ 2 := by
  have := isStateN_iff.1 h; omega
def ch : Nat → Nat → Nat
  | _, 0 => 1
  | 0, _ + 1 => 0
  | n + 1, k + 1 => ch n k + ch n (k + 1)
theorem ch_zero (n : Nat) : ch n 0 = 1 := by cases n <;> rfl
theorem ch_zs (k : Nat) : ch 0 (k + 1) = 0 := rfl
theorem ch_ss (n k : Nat) : ch (n + 1) (k + 1) = ch n k + ch n (k + 1) := rfl
theorem ch_over : ∀ n k : Nat, n < k → ch n k = 0
  | 0, k + 1, _ => rfl
  | n + 1, k + 1, h => by rw [ch_ss, ch_over n k (by omega), ch_over n (k + 1) (by omega)]
theorem ch_abs : ∀ n k : Nat, (k + 1) * ch (n + 1) (k + 1) = (n + 1) * ch n k
  | 0, 0 => rfl
  | 0, k + 1 => by rw [ch_ss, ch_zs, ch_zs]; simp
  | n + 1, 0 => by
    have h := ch_abs n 0
    rw [ch_ss, ch_zero] at h ⊢
    have e := ch_ss n 0
    rw [ch_zero] at e
    omega
  | n + 1, k + 1 => by
    have h1 := ch_abs n k
    have h2 := ch_abs n (k + 1)
    rw [ch_ss (n + 1) (k + 1), Nat.mul_add, h2]
    have e : (k + 1 + 1) * ch (n + 1) (k + 1) = (k + 1) * ch (n + 1) (k + 1) + ch (n + 1) (k + 1) := by rw [Nat.succ_mul]
    rw [e, h1]
    have e2 : (n + 1 + 1) * ch (n + 1) (k + 1) = (n + 1) * ch (n + 1) (k + 1) + ch (n + 1) (k + 1) := by rw [Nat.succ_mul]
    rw [e2, ch_ss n k, Nat.mul_add]
    omega
theorem ch_next (n k : Nat) (h : k ≤ n) : (k + 1) * ch n (k + 1) = (n - k) * ch n k := by
  have h1 := ch_abs n k
  rw [ch_ss, Nat.mul_add] at h1
  obtain ⟨d, rfl⟩ : ∃ d, n = k + d := ⟨n - k, by omega⟩
  have e : (k + d + 1) * ch (k + d) k = (k + 1) * ch (k + d) k + d * ch (k + d) k := by rw [← Nat.add_mul]; congr 1; omega
  rw [e] at h1
  have : k + d - k = d := by omega
  rw [this]; omega
theorem ch_le : ∀ n k : Nat, ch n k ≤ 2 ^ n
  | 0, 0 => by decide
  | 0, k + 1 => by rw [ch_zs]; exact Nat.zero_le _
  | n + 1, 0 => by rw [ch_zero]; exact Nat.one_le_two_pow
  | n + 1, k + 1 => by
    have h1 := ch_le n k
    have h2 := ch_le n (k + 1)
    rw [ch_ss, Nat.pow_succ]; omega
/-- How many ways for at most k. -/
def ba (n : Nat) : Nat → Nat
  | 0 => ch n 0
  | k + 1 => ba n k + ch n (k + 1)
theorem ba_pascal (n : Nat) : ∀ k, ba (n + 1) (k + 1) = ba n (k + 1) + ba n k
  | 0 => by simp only [ba, ch_zero, ch_ss]; omega
  | k + 1 => by
    have h := ba_pascal n k
    have e1 : ba (n + 1) (k + 1 + 1) = ba (n + 1) (k + 1) + ch (n + 1) (k + 1 + 1) := rfl
    have e2 : ba n (k + 1 + 1) = ba n (k + 1) + ch n (k + 1 + 1) := rfl
    have e3 : ba n (k + 1) = ba n k + ch n (k + 1) := rfl
    rw [e1, h, e2, ch_ss]; omega
theorem ba_le : ∀ n k : Nat, ba n k ≤ 2 ^ n
  | 0, k => by
    have : ba 0 k = 1 := by
      induction k with
      | zero => rfl
      | succ k ih => simp only [ba, ih, ch_zs]
    rw [this]; decide
  | n + 1, 0 => by simp only [ba, ch_zero]; exact Nat.one_le_two_pow
  | n + 1, k + 1 => by
    rw [ba_pascal, Nat.pow_succ]
    have h1 := ba_le n (k + 1)
    have h2 := ba_le n k
    omega
theorem ba_pos (n : Nat) : ∀ k, 1 ≤ ba n k
  | 0 => by simp only [ba, ch_zero]; exact Nat.le_refl _
  | k + 1 => by have := ba_pos n k; simp only [ba]; omega
theorem ba_mono (n : Nat) : ∀ {k j : Nat}, k ≤ j → ba n k ≤ ba n j
  | k, 0, h => by have : k = 0 := by omega
                  subst this; exact Nat.le_refl _
  | k, j + 1, h => by
    by_cases e : k = j + 1
    · subst e; exact Nat.le_refl _
    · have := ba_mono n (k := k) (j := j) (by omega); simp only [ba]; omega
theorem ba_over (n : Nat) : ∀ {k : Nat}, n ≤ k → ba n k = ba n n
  | k, h => by
    induction k with
    | zero => have : n = 0 := by omega
              subst this; rfl
    | succ k ih =>
      by_cases e : n = k + 1
      · subst e; rfl
      · simp only [ba]; rw [ih (by omega), ch_over n (k + 1) (by omega)]; rfl
theorem pow30 {n : Nat} (h : n ≤ 30) : (2 : Nat) ^ n ≤ 1073741824 := by
  have : (2 : Nat) ^ n ≤ 2 ^ 30 := Nat.pow_le_pow_right (by decide) h
  omega
theorem pow_cast (n : Nat) : ((2 ^ n : Nat) : Int) = (2 : Int) ^ n := by norm_cast
theorem tdiv_exact {a b : Nat} {x : Nat} (hb : 0 < b) (h : b * x = a) : Int.tdiv (a : Int) (b : Int) = (x : Int) := by
  rw [← h, Int.natCast_mul, Int.mul_comm, Int.mul_tdiv_cancel _ (by omega)]
theorem ways_step {n k : Nat} (hn : n ≤ 30) (hk : k < n) : I64 ((n : Int) - k) ∧ I64 ((ch n k : Int) * ((n : Int) - k)) ∧ Int.tdiv ((ch n k : Int) * ((n : Int) - k)) ((k : Int) + 1) = (ch n (k + 1) : Int) ∧ I64 (ch n (k + 1) : Int) := by
  have h1 := ch_le n k
  have h2 := ch_le n (k + 1)
  have h3 := pow30 hn
  have h4 := ch_next n k (by omega)
  have e : (n : Int) - k = ((n - k : Nat) : Int) := by omega
  have e2 : (k : Int) + 1 = ((k + 1 : Nat) : Int) := by omega
  have hm : ch n k * (n - k) ≤ 1073741824 * 30 := Nat.mul_le_mul (by omega) (by omega)
  rw [e, ← Int.natCast_mul, e2]
  refine ⟨by unfold I64; omega, by unfold I64; omega, ?_, by unfold I64; omega⟩
  exact tdiv_exact (by omega) (by rw [h4, Nat.mul_comm])
theorem ways_core {L : Nat → Int → Int → Option Int} {n k : Nat} (hn : n ≤ 30) (hk : k ≤ n)
    (step : ∀ (m : Nat) (i s : Int), i < (k : Int) → L (m + 1) i s = (chk (I64 ((n : Int) - i)) <| chk (I64 (s * ((n : Int) - i))) <| chk (I64 (i + (1 : Int))) <| chk (I64 (Int.tdiv (s * ((n : Int) - i)) (i + (1 : Int)))) <| chk ((i + (1 : Int)) ≠ 0) <| L m (i + (1 : Int)) (Int.tdiv (s * ((n : Int) - i)) (i + (1 : Int)))))
    (fin : ∀ (m : Nat) (s : Int), L (m + 1) k s = some s) : L fuel 0 1 = some (ch n k : Int) := by
  have e0 : (1 : Int) = (fun i : Int => (ch n i.toNat : Int)) 0 := by simp [ch_zero]
  rw [e0]
  refine loop_up (fun m i s => L m i s) (k : Int) (fun i => (ch n i.toNat : Int)) _ ?_ ?_ (by omega) fuel (by have := fuel_ge; omega)
  · intro m i i0 i1
    obtain ⟨j, rfl⟩ := int_nat i0
    obtain ⟨w1, w2, w3, w4⟩ := ways_step hn (k := j) (by omega)
    have e1 : ((j : Int) + 1).toNat = j + 1 := by omega
    simp only [Int.toNat_natCast, e1]
    rw [step m _ _ i1, chk_pos w1, chk_pos w2, chk_pos (by unfold I64; omega), w3, chk_pos w4, chk_pos (by omega)]
  · intro m
    simp only [Int.toNat_natCast]
    exact fin m _
theorem iWays_eq {n k : Nat} (hn : n ≤ 30) (hk : k ≤ n) : F_impl_ways n k = some (ch n k : Int) := by
  unfold F_impl_ways
  simp only [jn]
  refine ways_core (L := fun m i s => F_impl_ways_L1 n k (fun v5 => some v5) m i s) hn hk ?_ ?_
  · intro m i s hi
    rw [F_impl_ways_L1, ite_t (decide_eq_true hi)]
  · intro m s
    rw [F_impl_ways_L1, ite_f (decide_eq_false (by omega))]
theorem sWays_eq {n k : Nat} (hn : n ≤ 30) (hk : k ≤ n) : F_spec_l3Ways n k = some (ch n k : Int) := by
  unfold F_spec_l3Ways
  simp only [jn]
  refine ways_core (L := fun m i s => F_spec_l3Ways_L1 n k (fun v5 => some v5) m i s) hn hk ?_ ?_
  · intro m i s hi
    rw [F_spec_l3Ways_L1, ite_t (decide_eq_true hi)]
  · intro m s
    rw [F_spec_l3Ways_L1, ite_f (decide_eq_false (by omega))]
/-- Of the first i. -/
def baP (n : Nat) : Nat → Nat
  | 0 => 0
  | i + 1 => baP n i + ch n i
theorem baP_ba (n : Nat) : ∀ k, baP n (k + 1) = ba n k
  | 0 => by simp [baP, ba]
  | k + 1 => by rw [baP, baP_ba n k]; rfl
theorem baP_le (n k : Nat) : baP n k ≤ 2 ^ n := by
  cases k with
  | zero => exact Nat.zero_le _
  | succ k => rw [baP_ba]; exact ba_le n k
theorem iBall_eq {n k : Nat} (hn : n ≤ 30) (hk : k ≤ 100) : F_impl_ball n k = some (ba n k : Int) := by
  unfold F_impl_ball
  simp only [jn]
  have hmin : min (n : Int) (k : Int) = ((min n k : Nat) : Int) := by omega
  have e : (ba n k : Int) = (baP n (min n k + 1) : Int) := by
    rw [baP_ba]
    by_cases h : k ≤ n
    · rw [Nat.min_eq_right h]
    · rw [Nat.min_eq_left (by omega), ba_over n (by omega)]
  have h3 := pow30 hn
  rw [hmin, chk_pos (by unfold I64; omega), e]
  refine (loop_up (fun m i s => F_impl_ball_L1 n k (fun v5 => some v5) m i s) (((min n k : Nat) : Int) + 1) (fun i => (baP n i.toNat : Int)) _ ?_ ?_ (by omega) fuel (by have := fuel_ge; omega))
  · intro m i i0 i1
    obtain ⟨j, rfl⟩ := int_nat i0
    have e1 : ((j : Int) + 1).toNat = j + 1 := by omega
    have h4 := baP_le n j
    have h5 := ch_le n j
    simp only [Int.toNat_natCast, e1]
    rw [F_impl_ball_L1, hmin, ite_t (decide_eq_true i1), bnd1_eq (iWays_eq hn (by omega)), chk_pos (by unfold I64; omega), chk_pos (by unfold I64; omega), baP, Int.natCast_add]
  · intro m
    have e1 : (((min n k : Nat) : Int) + 1).toNat = min n k + 1 := by omega
    rw [F_impl_ball_L1, hmin, ite_f (decide_eq_false (by omega)), e1]
theorem sBall_eq {n k : Nat} (hn : n ≤ 30) (hk : k ≤ 100) : F_spec_l3Ball n k = some (ba n k : Int) := by
  unfold F_spec_l3Ball
  simp only [jn]
  have hmin : min (n : Int) (k : Int) = ((min n k : Nat) : Int) := by omega
  have e : (ba n k : Int) = (baP n (min n k + 1) : Int) := by
    rw [baP_ba]
    by_cases h : k ≤ n
    · rw [Nat.min_eq_right h]
    · rw [Nat.min_eq_left (by omega), ba_over n (by omega)]
  have h3 := pow30 hn
  rw [e]
  refine (loop_up (fun m i s => F_spec_l3Ball_L1 n k (fun v5 => some v5) m i s) (((min n k : Nat) : Int) + 1) (fun i => (baP n i.toNat : Int)) _ ?_ ?_ (by omega) fuel (by have := fuel_ge; omega))
  · intro m i i0 i1
    obtain ⟨j, rfl⟩ := int_nat i0
    have e1 : ((j : Int) + 1).toNat = j + 1 := by omega
    have h4 := baP_le n j
    have h5 := ch_le n j
    simp only [Int.toNat_natCast, e1]
    rw [F_spec_l3Ball_L1]
    refine jn_is (fun J => J true) (fun J => by rw [ite_t (decide_eq_true (by omega)), decide_eq_true (by omega)]) ?_
    rw [ite_t rfl, bnd1_eq (sWays_eq hn (by omega)), chk_pos (by unfold I64; omega), chk_pos (by unfold I64; omega), baP, Int.natCast_add]
  · intro m
    have e1 : (((min n k : Nat) : Int) + 1).toNat = min n k + 1 := by omega
    rw [F_spec_l3Ball_L1]
    refine jn_is (fun J => J false) (fun J => ?_) ?_
    · by_cases h : ((min n k : Nat) : Int) + 1 ≤ (k : Int)
      · rw [ite_t (decide_eq_true h), decide_eq_false (by omega)]
      · rw [ite_f (decide_eq_false h)]
    · rw [ite_f rfl, e1]
/-- The weight of a number. -/
def wtN (m q x : Int) : Int := if x < 0 then 0 else (ba q.toNat (m - x).toNat : Int)
def wtP (xs : List Int) (m q : Int) : Nat → Int
  | 0 => 0
  | i + 1 => wtP xs m q i + wtN m q (xs.getD i 0)
def wtA (xs : List Int) (m q : Int) : Int := wtP xs m q xs.length
theorem wtN_in {m q x : Int} (hq : q ≤ 30) : 0 ≤ wtN m q x ∧ wtN m q x ≤ 1073741824 := by
  unfold wtN; split
  · omega
  · have h1 := ba_le q.toNat (m - x).toNat
    have h2 := pow30 (n := q.toNat) (by omega)
    omega
theorem wtP_in {xs : List Int} {m q : Int} (hq : q ≤ 30) : ∀ i : Nat, 0 ≤ wtP xs m q i ∧ wtP xs m q i ≤ 1073741824 * i
  | 0 => by simp [wtP]
  | i + 1 => by
    have h1 := wtP_in (xs := xs) (m := m) hq i
    have h2 := wtN_in (m := m) (q := q) (x := xs.getD i 0) hq
    unfold wtP
    omega
theorem iWeight_eq {xs : List Int} {m q : Int} (hs : okS xs m) (hq0 : 0 ≤ q) (hq : q ≤ 30) {k : Nat} (hk : k < xs.length) : F_impl_State_weight xs m k q = some (wtN m q (xs.getD k 0)) := by
  unfold F_impl_State_weight wtN
  obtain ⟨h1, h2, h3, h4⟩ := hs
  have hx := h4 k
  rw [chk_pos (by omega), Int.toNat_natCast]
  by_cases h : xs.getD k 0 < 0
  · rw [ite_t (decide_eq_true h), if_pos h]
  · obtain ⟨q', rfl⟩ := int_nat hq0
    obtain ⟨d, hd⟩ := int_nat (i := m - xs.getD k 0) (by omega)
    rw [ite_f (decide_eq_false h), if_neg h, hd, chk_pos (by unfold I64; omega), bnd1_eq (iBall_eq (by omega) (by omega)), Int.toNat_natCast, Int.toNat_natCast]
theorem sWeight_eq {xs : List Int} {m q : Int} (hs : okS xs m) (hq0 : 0 ≤ q) (hq : q ≤ 30) {k : Nat} (hk : k < xs.length) : F_spec_l3Number xs m k q = some (wtN m q (xs.getD k 0)) := by
  unfold F_spec_l3Number wtN
  obtain ⟨h1, h2, h3, h4⟩ := hs
  have hx := h4 k
  rw [chk_pos (by omega), Int.toNat_natCast]
  by_cases h : xs.getD k 0 < 0
  · rw [ite_t (decide_eq_true h), if_pos h]
  · obtain ⟨q', rfl⟩ := int_nat hq0
    obtain ⟨d, hd⟩ := int_nat (i := m - xs.getD k 0) (by omega)
    rw [ite_f (decide_eq_false h), if_neg h, hd, chk_pos (by unfold I64; omega), bnd1_eq (sBall_eq (by omega) (by omega)), Int.toNat_natCast, Int.toNat_natCast]
theorem iAllWeight_eq {xs : List Int} {m q : Int} (hs : okS xs m) (hq0 : 0 ≤ q) (hq : q ≤ 30) : F_impl_State_allWeight xs m q = some (wtA xs m q) := by
  unfold F_impl_State_allWeight wtA
  have hl := hs.1
  simp only [jn]
  refine (loop_up (fun n i s => F_impl_State_allWeight_L1 xs m q (fun v5 => some v5) n i s) (xs.length : Int) (fun i => wtP xs m q i.toNat) _ ?_ ?_ (by omega) fuel (by have := fuel_ge; omega))
  · intro n i i0 i1
    obtain ⟨j, rfl⟩ := int_nat i0
    have e1 : ((j : Int) + 1).toNat = j + 1 := by omega
    have h4 := wtP_in (xs := xs) (m := m) hq j
    have h5 := wtN_in (m := m) (q := q) (x := xs.getD j 0) hq
    simp only [Int.toNat_natCast, e1]
    rw [F_impl_State_allWeight_L1, ite_t (decide_eq_true i1), bnd1_eq (iWeight_eq hs hq0 hq (by omega)), chk_pos (by unfold I64; omega), chk_pos (by unfold I64; omega), wtP]
  · intro n
    rw [F_impl_State_allWeight_L1, ite_f (decide_eq_false (by omega)), Int.toNat_natCast]
theorem sAllWeight_eq {xs : List Int} {m q : Int} (hs : okS xs m) (hq0 : 0 ≤ q) (hq : q ≤ 30) : F_spec_l3Weight xs m q = some (wtA xs m q) := by
  unfold F_spec_l3Weight wtA
  have hl := hs.1
  simp only [jn]
  refine (loop_up (fun n i s => F_spec_l3Weight_L1 xs m q (fun v5 => some v5) n i s) (xs.length : Int) (fun i => wtP xs m q i.toNat) _ ?_ ?_ (by omega) fuel (by have := fuel_ge; omega))
  · intro n i i0 i1
    obtain ⟨j, rfl⟩ := int_nat i0
    have e1 : ((j : Int) + 1).toNat = j + 1 := by omega
    have h4 := wtP_in (xs := xs) (m := m) hq j
    have h5 := wtN_in (m := m) (q := q) (x := xs.getD j 0) hq
    simp only [Int.toNat_natCast, e1]
    rw [F_spec_l3Weight_L1, ite_t (decide_eq_true i1), bnd1_eq (sWeight_eq hs hq0 hq (by omega)), chk_pos (by unfold I64; omega), chk_pos (by unfold I64; omega), wtP]
  · intro n
    rw [F_spec_l3Weight_L1, ite_f (decide_eq_false (by omega)), Int.toNat_natCast]
theorem wtA_in {xs : List Int} {m q : Int} (hs : okS xs m) (hq : q ≤ 30) : 0 ≤ wtA xs m q ∧ wtA xs m q ≤ 12884901888 := by
  have := wtP_in (xs := xs) (m := m) hq xs.length
  have := hs.1
  unfold wtA; omega
/-- Both answers have the weight together. -/
theorem wt_after {m q x : Int} {b : Bool} (hx : -1 ≤ x ∧ x ≤ m) (hq : 1 ≤ q) : wtN m (q - 1) (lieN m b x) + wtN m (q - 1) (lieN m (!b) x) = wtN m q x := by
  obtain ⟨q', rfl⟩ : ∃ k : Nat, q = (k : Int) + 1 := ⟨(q - 1).toNat, by omega⟩
  have e0 : (q' : Int) + 1 - 1 = q' := by omega
  have key : ∀ x, -1 ≤ x → x ≤ m → wtN m (q' : Int) (lieN m true x) + wtN m (q' : Int) (lieN m false x) = wtN m ((q' : Int) + 1) x := by
    intro x h1 h2
    have el : lieN m false x = x := by unfold lieN; rw [if_neg (by simp)]
    rw [el]
    by_cases h : x ≥ 0
    · have e1 : ((q' : Int) + 1).toNat = q' + 1 := by omega
      unfold lieN
      rw [if_pos ⟨h, rfl⟩]
      by_cases h3 : x + 1 > m
      · have : x = m := by omega
        subst this
        rw [if_pos h3]
        unfold wtN
        rw [if_pos (by omega), if_neg (by omega), if_neg (by omega), e1, Int.sub_self]
        simp [ba, ch_zero]
      · rw [if_neg h3]
        unfold wtN
        obtain ⟨d, hd⟩ := int_nat (i := m - x - 1) (by omega)
        have e2 : (m - (x + 1)).toNat = d := by omega
        have e3 : (m - x).toNat = d + 1 := by omega
        rw [if_neg (by omega), if_neg (by omega), if_neg (by omega), e1, e2, e3, ba_pascal, Int.toNat_natCast]
        omega
    · have : x = -1 := by omega
      subst this
      unfold lieN
      rw [if_neg (by omega)]
      unfold wtN
      rw [if_pos (by omega), if_pos (by omega)]; rfl
  rw [e0]
  cases b with
  | true => exact key x hx.1 hx.2
  | false => rw [Int.add_comm]; exact key x hx.1 hx.2
theorem ansN_at {m q : Int} {y : Bool} {xs : List Int} {i : Nat} (h : i < xs.length) : (ansN m q y xs).getD i 0 = lieN m (falseB q y i) (xs.getD i 0) := by
  unfold ansN afterN
  rw [List.getD_eq_getElem?_getD, List.getElem?_map, List.getElem?_range h]; rfl
theorem wt_both {xs : List Int} {m q k : Int} (hs : okS xs m) (hq : 1 ≤ k) : wtA (ansN m q true xs) m (k - 1) + wtA (ansN m q false xs) m (k - 1) = wtA xs m k := by
  have key : ∀ i, i ≤ xs.length → wtP (ansN m q true xs) m (k - 1) i + wtP (ansN m q false xs) m (k - 1) i = wtP xs m k i := by
    intro i
    induction i with
    | zero => intro _; rfl
    | succ i ih =>
      intro hi
      have hx := hs.2.2.2 i
      have e : falseB q false (i : Int) = !falseB q true (i : Int) := by unfold falseB; cases hasB q (i : Int) <;> rfl
      have hw := wt_after (m := m) (q := k) (x := xs.getD i 0) (b := falseB q true (i : Int)) hx hq
      unfold wtP
      rw [ansN_at (by omega), ansN_at (by omega), e, ← ih (by omega), ← hw]
      omega
  unfold wtA
  rw [ansN_len, ansN_len]
  exact key _ (Nat.le_refl _)
theorem ahead3_ok {bs : List Int} {p s : Int} (hy : okY bs) (h0 : 0 ≤ p) (h1 : p ≤ 800000000000) : ∃ v p' s', F_p_spec_l1Cur_ahead3 bs p s = some (v, bs, p', s') ∧ p ≤ p' ∧ p' ≤ p + 4 ∧ -1 ≤ v ∧ v ≤ 31 := by
  unfold F_p_spec_l1Cur_ahead3
  obtain ⟨v, p1, s1, e, g0, g1, g2, g3⟩ := pick_ok (s := s) (n := 24) hy h0 (by omega)
  have hv := g3 (by omega)
  obtain ⟨k, rfl⟩ := int_nat g2
  have hd : Int.tdiv (k : Int) 11 = ((k / 11 : Nat) : Int) := by rw [Int.tdiv_eq_ediv_of_nonneg (by omega)]; norm_cast
  rw [bnd4_eq e, hd, chk_pos (by unfold I64; omega), chk_pos (by unfold I64; omega), chk_pos (by omega)]
  have e2 : (((10 : Int) + ((k / 11 : Nat) : Int)).toNat - 0) = 10 + k / 11 := by omega
  rw [e2]
  obtain ⟨w, p2, s2, e3, k0, k1, k2⟩ := among_ok (s := s1) (p := p1) (xs := List.take (10 + k / 11) [(4 : Int), (5 : Int), (3 : Int), (6 : Int), (2 : Int), (8 : Int), (1 : Int), (30 : Int), (12 : Int), (0 : Int), (31 : Int), (-1 : Int)]) hy (by omega) (by omega) (by simp; omega)
  rw [bnd4_eq e3]
  refine ⟨_, _, _, rfl, by omega, by omega, ?_⟩
  have k3 := List.mem_of_mem_take k2
  simp only [List.mem_cons, List.not_mem_nil, or_false] at k3
  omega
def swB (xs : List Int) (m k : Int) : Bool := isStateN xs m && (decide (0 ≤ k) && decide (k ≤ 30))
def swV (xs : List Int) (m k : Int) : Int := bif swB xs m k then wtA xs m k else 0
theorem iStateWeight_eq (xs : List Int) (m k : Int) (hx : xs.length ≤ 1048576) : F_impl_StateWeight xs m k = some (swV xs m k, swB xs m k) := by
  unfold F_impl_StateWeight swV swB F_impl_isAhead
  cases h : isStateN xs m with
  | false => refine jn_is (fun J => J true) (fun J => by rw [chk_pos (by omega), ite_t (by rfl)]) rfl
  | true =>
    cases h2 : (decide ((0 : Int) ≤ k) && decide (k ≤ (30 : Int))) with
    | false => refine jn_is (fun J => J true) (fun J => by rw [chk_pos (by omega), ite_f (by rfl), bnd1_eq rfl]; rfl) rfl
    | true =>
      refine jn_is (fun J => J false) (fun J => by rw [chk_pos (by omega), ite_f (by rfl), bnd1_eq rfl]; rfl) ?_
      simp only [Bool.and_eq_true, decide_eq_true_eq] at h2
      rw [ite_f rfl, bnd1_eq (iAllWeight_eq (okS_of h) h2.1 h2.2)]; rfl
theorem tdiv_nat {a b : Nat} : Int.tdiv (a : Int) (b : Int) = ((a / b : Nat) : Int) := by
  rw [Int.tdiv_eq_ediv_of_nonneg (by omega)]; norm_cast
theorem drawNumberWeight_ok {bs : List Int} (hy : okY bs) : ∃ xs m i k, F_spec_DrawNumberWeight bs = some (xs, m, i, k) ∧ (-1 ≤ m ∧ m ≤ 3) ∧ xs.length ≤ 13 ∧ (-2 ≤ i ∧ i ≤ 20) ∧ -1 ≤ k ∧ k ≤ 31 := by
  unfold F_spec_DrawNumberWeight
  obtain ⟨xs, m, p1, s1, e1, h1, h2, h3, h4, h5, h6⟩ := state_ok (s := 0) (p := 0) hy (by omega) (by omega)
  have a2 := maxN_in (a := 1) (b := ((List.length xs : Nat) : Int))
  obtain ⟨v, p2, s2, e2, w0, w1, w2, w3⟩ := pick_ok (s := s1) (p := p1) (n := maxN 1 ((List.length xs : Nat) : Int)) hy (by omega) (by omega)
  obtain ⟨b, p3, s3, e3, b0, b1, b2, b3⟩ := pick_ok (s := s2) (p := p2) (n := 24) hy (by omega) (by omega)
  obtain ⟨c, p4, s4, e4, c0, c1, c2, c3⟩ := pick_ok (s := s3) (p := p3) (n := 24) hy (by omega) (by omega)
  obtain ⟨k, p5, s5, e5, k0, k1, k2, k3⟩ := ahead3_ok (s := s4) (p := p4) hy (by omega) (by omega)
  have w4 := w3 (by omega)
  have b4 := b3 (by omega)
  have c4 := c3 (by omega)
  obtain ⟨b', rfl⟩ := int_nat b2
  obtain ⟨c', rfl⟩ := int_nat c2
  have t1 := tdiv_nat (a := b') (b := 23)
  have t2 := tdiv_nat (a := c') (b := 23)
  simp only [Int.cast_ofNat_Int] at t1 t2
  rw [bnd5_eq e1, bnd4_eq e2, bnd4_eq e3, t1, chk_pos (by unfold I64; omega), chk_pos (by unfold I64; omega), bnd4_eq e4, t2, chk_pos (by unfold I64; omega), chk_pos (by unfold I64; omega)]
  simp only [nam]
  rw [bnd4_eq e5]
  exact ⟨_, _, _, _, rfl, ⟨h3, h4⟩, h5, by omega, k2, k3⟩
theorem drawWaysOf_ok {bs : List Int} (hy : okY bs) : ∃ a b, F_spec_DrawWaysOf bs = some (a, b) ∧ -1 ≤ a ∧ a ≤ 31 ∧ -1 ≤ b ∧ b ≤ 32 := by
  unfold F_spec_DrawWaysOf
  obtain ⟨a, p1, s1, e1, k0, k1, k2, k3⟩ := ahead3_ok (s := 0) (p := 0) hy (by omega) (by omega)
  have a2 := maxN_in (a := 1) (b := a + 1)
  obtain ⟨v, p2, s2, e2, w0, w1, w2, w3⟩ := pick_ok (s := s1) (p := p1) (n := maxN 1 (a + 1)) hy (by omega) (by omega)
  obtain ⟨b, p3, s3, e3, b0, b1, b2, b3⟩ := pick_ok (s := s2) (p := p2) (n := 24) hy (by omega) (by omega)
  have w4 := w3 (by omega)
  have b4 := b3 (by omega)
  obtain ⟨b', rfl⟩ := int_nat b2
  have t1 := tdiv_nat (a := b') (b := 11)
  simp only [Int.cast_ofNat_Int] at t1
  rw [bnd4_eq e1, chk_pos (by unfold I64; omega), bnd4_eq e2, bnd4_eq e3, t1, chk_pos (by unfold I64; omega), chk_pos (by unfold I64; omega), chk_pos (by omega)]
  have e5 : (((5 : Int) + ((b' / 11 : Nat) : Int)).toNat - 0) = 5 + b' / 11 := by omega
  rw [e5]
  obtain ⟨w, p4, s4, e4, g0, g1, g2⟩ := among_ok (s := s3) (p := p3) (xs := List.take (5 + b' / 11) [(1 : Int), (2 : Int), (0 : Int), a, v, (a + (1 : Int)), (-1 : Int)]) hy (by omega) (by omega) (by simp; omega)
  rw [bnd4_eq e4]
  refine ⟨_, _, rfl, k2, k3, ?_⟩
  have g3 := List.mem_of_mem_take g2
  simp only [List.mem_cons, List.not_mem_nil, or_false] at g3
  omega
theorem drawWeightTable_ok {bs : List Int} (hy : okY bs) : ∃ m q, F_spec_DrawWeightTable bs = some (m, q) ∧ -1 ≤ m ∧ m ≤ 3 ∧ -1 ≤ q ∧ q ≤ 31 := by
  unfold F_spec_DrawWeightTable
  obtain ⟨m, p1, s1, e1, g0, g1, g2, g3⟩ := lies_ok (s := 0) (p := 0) hy (by omega) (by omega)
  obtain ⟨q, p2, s2, e2, k0, k1, k2, k3⟩ := ahead3_ok (s := s1) (p := p1) hy (by omega) (by omega)
  rw [bnd4_eq e1, bnd4_eq e2]
  exact ⟨_, _, rfl, g2, g3, k2, k3⟩
theorem drawMost_ok {bs : List Int} (hy : okY bs) : ∃ x y, F_spec_DrawMostByWeight bs = some (x, y) ∧ -1 ≤ x ∧ x ≤ 31 ∧ -1 ≤ y ∧ y ≤ 3 := by
  unfold F_spec_DrawMostByWeight
  obtain ⟨q, p2, s2, e2, k0, k1, k2, k3⟩ := ahead3_ok (s := 0) (p := 0) hy (by omega) (by omega)
  obtain ⟨m, p1, s1, e1, g0, g1, g2, g3⟩ := lies_ok (s := s2) (p := p2) hy (by omega) (by omega)
  rw [bnd4_eq e2, bnd4_eq e1]
  exact ⟨_, _, rfl, k2, k3, g2, g3⟩
def ahB (k : Int) : Bool := decide (0 ≤ k) && decide (k ≤ 30)
theorem ahB_in {k : Int} (h : ahB k = true) : 0 ≤ k ∧ k ≤ 30 := by unfold ahB at h; simpa using h
theorem iAhead_eq (k : Int) : F_impl_isAhead k = some (ahB k) := rfl
theorem sAhead_eq (k : Int) : F_spec_l3Ahead k = some (ahB k) := rfl
def nwB (xs : List Int) (m i k : Int) : Bool := isStateN xs m && (numB ((xs.length : Nat) : Int) i && ahB k)
def nwV (xs : List Int) (m i k : Int) : Int := bif nwB xs m i k then wtN m k (xs.getD i.toNat 0) else 0
theorem iNumberWeight_eq (xs : List Int) (m i k : Int) (hx : xs.length ≤ 1048576) : F_impl_NumberWeight xs m i k = some (nwV xs m i k, nwB xs m i k) := by
  unfold F_impl_NumberWeight nwV nwB
  cases h : isStateN xs m with
  | false => refine jn_is (fun J => J true) (fun J => by rw [chk_pos (by omega), ite_t (by rfl)]) rfl
  | true =>
    cases h2 : numB ((xs.length : Nat) : Int) i with
    | false => refine jn_is (fun J => J true) (fun J => by rw [chk_pos (by omega), ite_f (by rfl), ite_t (by rfl)]) rfl
    | true =>
      refine jn_is (fun J => J (!ahB k)) (fun J => by rw [chk_pos (by omega), ite_f (by rfl), ite_f (by rfl), bnd1_eq (iAhead_eq k)]) ?_
      cases h3 : ahB k with
      | false => rfl
      | true =>
        have ha := ahB_in h3
        have hn := numB_in h2
        obtain ⟨j, rfl⟩ := int_nat hn.1
        rw [ite_f (by rfl), bnd1_eq (iWeight_eq (okS_of h) ha.1 ha.2 (by omega))]; rfl
theorem sNumberWeight_eq (xs : List Int) (m i k : Int) (hx : xs.length ≤ 1048576) : F_spec_NumberWeight xs m i k = some (nwV xs m i k, nwB xs m i k) := by
  unfold F_spec_NumberWeight nwV nwB
  cases h : isStateN xs m with
  | false => refine jn_is (fun J => J true) (fun J => by rw [chk_pos (by omega), ite_t (by rfl)]) rfl
  | true =>
    have hs := state_len h
    have e : (decide (i ≥ (0 : Int)) && decide (i ≤ ((xs.length : Nat) : Int) - 1)) = numB ((xs.length : Nat) : Int) i := by
      rw [numB_eq (by simp; omega)]
    cases h2 : numB ((xs.length : Nat) : Int) i with
    | false =>
      refine jn_is (fun J => J true) (fun J => ?_) rfl
      rw [chk_pos (by omega), ite_f (by rfl), chk_pos (by unfold I64; omega)]
      simp only [nam]
      rw [e, h2, ite_t (by rfl)]
    | true =>
      refine jn_is (fun J => J (!ahB k)) (fun J => ?_) ?_
      · rw [chk_pos (by omega), ite_f (by rfl), chk_pos (by unfold I64; omega)]
        simp only [nam]
        rw [e, h2, ite_f (by rfl), bnd1_eq (sAhead_eq k)]
      · cases h3 : ahB k with
        | false => rfl
        | true =>
          have ha := ahB_in h3
          have hn := numB_in h2
          obtain ⟨j, rfl⟩ := int_nat hn.1
          rw [ite_f (by rfl), bnd1_eq (sWeight_eq (okS_of h) ha.1 ha.2 (by omega))]; rfl
theorem sStateWeight_eq (xs : List Int) (m k : Int) (hx : xs.length ≤ 1048576) : F_spec_StateWeight xs m k = some (swV xs m k, swB xs m k) := by
  unfold F_spec_StateWeight swV swB
  cases h : isStateN xs m with
  | false => refine jn_is (fun J => J true) (fun J => by rw [chk_pos (by omega), ite_t (by rfl)]) rfl
  | true =>
    cases h2 : (decide ((0 : Int) ≤ k) && decide (k ≤ (30 : Int))) with
    | false => refine jn_is (fun J => J true) (fun J => by rw [chk_pos (by omega), ite_f (by rfl), bnd1_eq (sAhead_eq k)]; unfold ahB; rw [h2]; rfl) rfl
    | true =>
      refine jn_is (fun J => J false) (fun J => by rw [chk_pos (by omega), ite_f (by rfl), bnd1_eq (sAhead_eq k)]; unfold ahB; rw [h2]; rfl) ?_
      simp only [Bool.and_eq_true, decide_eq_true_eq] at h2
      rw [ite_f rfl, bnd1_eq (sAllWeight_eq (okS_of h) h2.1 h2.2)]; rfl
theorem swB_in {xs : List Int} {m k : Int} (h : swB xs m k = true) : isStateN xs m = true ∧ okS xs m ∧ 0 ≤ k ∧ k ≤ 30 := by
  unfold swB at h
  simp only [Bool.and_eq_true, decide_eq_true_eq] at h
  exact ⟨h.1, okS_of h.1, h.2.1, h.2.2⟩
theorem pow_q {k : Int} (h0 : 0 ≤ k) (h1 : k ≤ 30) : ((0 : Int) ≤ k ∧ k < 64 ∧ I64 ((1 : Int) * 2 ^ Int.toNat k)) ∧ 1 ≤ (2 : Int) ^ k.toNat ∧ (2 : Int) ^ k.toNat ≤ 1073741824 := by
  have := pow30 (n := k.toNat) (by omega)
  have h2 := Nat.two_pow_pos k.toNat
  rw [Int.one_mul, ← pow_cast]
  exact ⟨⟨by omega, by omega, by unfold I64; omega⟩, by omega, by omega⟩
def rmV (xs : List Int) (m k : Int) : Int := bif swB xs m k then 2 ^ k.toNat - wtA xs m k else 0
theorem iRoomOf_eq (xs : List Int) (m k : Int) (hx : xs.length ≤ 1048576) : F_impl_RoomOf xs m k = some (rmV xs m k, swB xs m k) := by
  unfold F_impl_RoomOf rmV
  rw [bnd2_eq (iStateWeight_eq xs m k hx)]
  cases h : swB xs m k with
  | false => rfl
  | true =>
    obtain ⟨h1, h2, h3, h4⟩ := swB_in h
    obtain ⟨g1, g2, g3⟩ := pow_q h3 h4
    have hw := wtA_in (xs := xs) (m := m) h2 h4
    have e : swV xs m k = wtA xs m k := by unfold swV; rw [ite_t h]
    rw [ite_f (by rfl), chk_pos g1, e, Int.one_mul, chk_pos (by unfold I64; omega)]; rfl
theorem sRoomOf_eq (xs : List Int) (m k : Int) (hx : xs.length ≤ 1048576) : F_spec_RoomOf xs m k = some (rmV xs m k, swB xs m k) := by
  unfold F_spec_RoomOf rmV
  cases h : isStateN xs m with
  | false => refine jn_is (fun J => J true) (fun J => by rw [chk_pos (by omega), ite_t (by rfl)]) (by unfold swB; rw [h]; rfl)
  | true =>
    refine jn_is (fun J => J (!ahB k)) (fun J => by rw [chk_pos (by omega), ite_f (by rfl), bnd1_eq (sAhead_eq k)]) ?_
    have e0 : swB xs m k = ahB k := by unfold swB ahB; rw [h]; rfl
    rw [e0]
    cases h2 : ahB k with
    | false => rfl
    | true =>
      obtain ⟨h3, h4⟩ := ahB_in h2
      obtain ⟨g1, g2, g3⟩ := pow_q h3 h4
      have hw := wtA_in (q := k) (okS_of h) h4
      rw [ite_f (by rfl), chk_pos g1, bnd1_eq (sAllWeight_eq (okS_of h) h3 h4), Int.one_mul, chk_pos (by unfold I64; omega)]; rfl
def leF (p : Nat → Bool) : Nat → Nat → Nat
  | k, 0 => k
  | k, n + 1 => bif p k then k else leF p (k + 1) n
theorem leF_in (p : Nat → Bool) : ∀ n k : Nat, p (k + n) = true → k ≤ leF p k n ∧ leF p k n ≤ k + n ∧ p (leF p k n) = true ∧ ∀ i, k ≤ i → i < leF p k n → p i = false
  | 0, k, h => ⟨Nat.le_refl _, Nat.le_refl _, h, fun i h1 h2 => by simp only [leF] at h2; omega⟩
  | n + 1, k, h => by
    unfold leF
    by_cases hp : p k = true
    · rw [ite_t hp]; exact ⟨Nat.le_refl _, by omega, hp, fun i h1 h2 => by omega⟩
    · rw [ite_f (by simpa using hp)]
      obtain ⟨h1, h2, h3, h4⟩ := leF_in p n (k + 1) (by rw [show k + 1 + n = k + (n + 1) by omega]; exact h)
      refine ⟨by omega, by omega, h3, fun i g1 g2 => ?_⟩
      by_cases e : i = k
      · subst e; simpa using hp
      · exact h4 i (by omega) g2
def bdP (xs : List Int) (m : Int) (q : Nat) : Bool := decide (wtA xs m (q : Int) ≤ 2 ^ q)
def bdN (xs : List Int) (m : Int) : Nat := leF (bdP xs m) 0 10
def bdV (xs : List Int) (m : Int) : Int := bif isStateN xs m then (bdN xs m : Int) else 0
theorem bd_ten {xs : List Int} {m : Int} (hs : okS xs m) : bdP xs m 10 = true := by
  have key : ∀ i, i ≤ xs.length → wtP xs m 10 i ≤ 56 * (i : Int) := by
    intro i
    induction i with
    | zero => intro _; simp [wtP]
    | succ i ih =>
      intro hi
      have hx := hs.2.2.2 i
      have hm := hs.2.2.1
      have : wtN m 10 (xs.getD i 0) ≤ 56 := by
        unfold wtN; split
        · omega
        · have h1 := ba_mono 10 (k := (m - xs.getD i 0).toNat) (j := 2) (by omega)
          have h2 : ba 10 2 = 56 := by decide
          have e : (10 : Int).toNat = 10 := rfl
          rw [e]; omega
      have := ih (by omega)
      unfold wtP; omega
  have h1 := key xs.length (Nat.le_refl _)
  have h2 := hs.1
  unfold bdP wtA
  refine decide_eq_true ?_
  have e : (2 : Int) ^ 10 = 1024 := by decide
  have e2 : ((10 : Nat) : Int) = 10 := rfl
  rw [e, e2]; omega
theorem bd_in {xs : List Int} {m : Int} (hs : okS xs m) : bdN xs m ≤ 10 ∧ wtA xs m (bdN xs m : Int) ≤ 2 ^ bdN xs m ∧ ∀ i, i < bdN xs m → wtA xs m (i : Int) > 2 ^ i := by
  obtain ⟨h1, h2, h3, h4⟩ := leF_in (bdP xs m) 10 0 (bd_ten hs)
  refine ⟨by unfold bdN; omega, of_decide_eq_true h3, fun i hi => ?_⟩
  have := of_decide_eq_false (h4 i (Nat.zero_le _) hi)
  omega
theorem ba_double (n : Nat) : ∀ k, ba (n + 1) k ≤ 2 * ba n k
  | 0 => by simp only [ba, ch_zero]; omega
  | k + 1 => by rw [ba_pascal]; have := ba_mono n (k := k) (j := k + 1) (by omega); omega
theorem wt_double {xs : List Int} {m : Int} (q : Nat) : ∀ i, wtP xs m ((q + 1 : Nat) : Int) i ≤ 2 * wtP xs m (q : Int) i
  | 0 => by simp [wtP]
  | i + 1 => by
    have := wt_double (xs := xs) (m := m) q i
    have h2 : wtN m ((q + 1 : Nat) : Int) (xs.getD i 0) ≤ 2 * wtN m (q : Int) (xs.getD i 0) := by
      unfold wtN; split
      · omega
      · have := ba_double q (m - xs.getD i 0).toNat
        rw [Int.toNat_natCast, Int.toNat_natCast]; omega
    unfold wtP; omega
theorem bd_above {xs : List Int} {m : Int} (hs : okS xs m) : ∀ d : Nat, wtA xs m ((bdN xs m + d : Nat) : Int) ≤ 2 ^ (bdN xs m + d)
  | 0 => (bd_in hs).2.1
  | d + 1 => by
    have h1 := bd_above hs d
    have h2 := wt_double (xs := xs) (m := m) (bdN xs m + d) xs.length
    unfold wtA at *
    rw [← Nat.add_assoc, Int.pow_succ]
    omega
theorem bd_core {L : Nat → Int → Option (Int × Bool)} {xs : List Int} {m : Int} (h : isStateN xs m = true)
    (step : ∀ (n : Nat) (q : Int), 0 ≤ q → q ≤ 30 → L (n + 1) q = (chk (0 ≤ q ∧ q < 64 ∧ I64 ((1 : Int) * 2 ^ Int.toNat q)) <| (bif (decide (wtA xs m q > ((1 : Int) * 2 ^ Int.toNat q))) then chk (I64 (q + (1 : Int))) <| L n (q + (1 : Int)) else some (q, true)))) : L fuel 0 = some (bdV xs m, true) := by
  obtain ⟨h1, h2, h3⟩ := bd_in (okS_of h)
  refine loop_m (fun n (z : Int) => L n z) (fun z => 0 ≤ z ∧ z ≤ (bdN xs m : Int)) (fun z => ((bdN xs m : Int) - z).toNat) (fun o => o = some (bdV xs m, true)) ?_ fuel 0 ⟨by omega, by omega⟩ (by have := fuel_ge; omega)
  rintro n z ⟨z0, z1⟩
  obtain ⟨j, rfl⟩ := int_nat z0
  obtain ⟨g1, _⟩ := pow_q (k := (j : Int)) z0 (by omega)
  rw [step n _ z0 (by omega), chk_pos g1, Int.one_mul, Int.toNat_natCast]
  by_cases e : j = bdN xs m
  · subst e
    rw [ite_f (decide_eq_false (by omega))]
    exact .inr (by unfold bdV; rw [ite_t h])
  · have := h3 j (by omega)
    rw [ite_t (decide_eq_true this), chk_pos (by unfold I64; omega)]
    exact .inl ⟨(j : Int) + 1, ⟨by omega, by omega⟩, by omega, rfl⟩
theorem iBoundOf_eq (xs : List Int) (m : Int) (hx : xs.length ≤ 1048576) : F_impl_BoundOf xs m = some (bdV xs m, isStateN xs m) := by
  unfold F_impl_BoundOf
  rw [chk_pos (by omega)]
  cases h : isStateN xs m with
  | false => unfold bdV; rw [h]; rfl
  | true =>
    rw [ite_f (by rfl)]
    simp only [jn]
    refine bd_core (L := fun n q => F_impl_BoundOf_L1 xs m (fun v4 => some (v4, true)) n q) h fun n q h0 h1 => ?_
    rw [F_impl_BoundOf_L1, bnd1_eq (iAllWeight_eq (okS_of h) h0 h1)]
theorem sBoundOf_eq (xs : List Int) (m : Int) (hx : xs.length ≤ 1048576) : F_spec_BoundOf xs m = some (bdV xs m, isStateN xs m) := by
  unfold F_spec_BoundOf
  rw [chk_pos (by omega)]
  cases h : isStateN xs m with
  | false => unfold bdV; rw [h]; rfl
  | true =>
    rw [ite_f (by rfl)]
    simp only [jn]
    refine bd_core (L := fun n q => F_spec_BoundOf_L1 xs m (fun v4 => some (v4, true)) n q) h fun n q h0 h1 => ?_
    rw [F_spec_BoundOf_L1, bnd1_eq (sAllWeight_eq (okS_of h) h0 h1)]
def wyB (a b : Int) : Bool := ahB a && (decide (0 ≤ b) && decide (b ≤ a))
def wyV (a b : Int) : Int := bif wyB a b then (ch a.toNat b.toNat : Int) else 0
def blV (a b : Int) : Int := bif wyB a b then (ba a.toNat b.toNat : Int) else 0
theorem wyB_nat {a b : Int} (h : wyB a b = true) : ∃ n k : Nat, a = n ∧ b = k ∧ n ≤ 30 ∧ k ≤ n := by
  unfold wyB ahB at h
  simp only [Bool.and_eq_true, decide_eq_true_eq] at h
  exact ⟨a.toNat, b.toNat, by omega, by omega, by omega, by omega⟩
theorem iWaysOf_eq (a b : Int) : F_impl_WaysOf a b = some (wyV a b, wyB a b) := by
  unfold F_impl_WaysOf wyV
  refine jn_is (fun J => J (!wyB a b)) (fun J => ?_) ?_
  · rw [bnd1_eq (iAhead_eq a)]; unfold wyB; cases ahB a <;> rfl
  · cases h : wyB a b with
    | false => rfl
    | true =>
      obtain ⟨n, k, rfl, rfl, h1, h2⟩ := wyB_nat h
      rw [ite_f (by rfl), bnd1_eq (iWays_eq h1 h2)]; rfl
theorem sWaysOf_eq (a b : Int) : F_spec_WaysOf a b = some (wyV a b, wyB a b) := by
  unfold F_spec_WaysOf wyV
  refine jn_is (fun J => J (!wyB a b)) (fun J => ?_) ?_
  · rw [bnd1_eq (sAhead_eq a)]; unfold wyB; cases ahB a <;> rfl
  · cases h : wyB a b with
    | false => rfl
    | true =>
      obtain ⟨n, k, rfl, rfl, h1, h2⟩ := wyB_nat h
      rw [ite_f (by rfl), bnd1_eq (sWays_eq h1 h2)]; rfl
theorem iBallOf_eq (a b : Int) : F_impl_BallOf a b = some (blV a b, wyB a b) := by
  unfold F_impl_BallOf blV
  refine jn_is (fun J => J (!wyB a b)) (fun J => ?_) ?_
  · rw [bnd1_eq (iAhead_eq a)]; unfold wyB; cases ahB a <;> rfl
  · cases h : wyB a b with
    | false => rfl
    | true =>
      obtain ⟨n, k, rfl, rfl, h1, h2⟩ := wyB_nat h
      rw [ite_f (by rfl), bnd1_eq (iBall_eq h1 (by omega))]; rfl
theorem sBallOf_eq (a b : Int) : F_spec_BallOf a b = some (blV a b, wyB a b) := by
  unfold F_spec_BallOf blV
  refine jn_is (fun J => J (!wyB a b)) (fun J => ?_) ?_
  · rw [bnd1_eq (sAhead_eq a)]; unfold wyB; cases ahB a <;> rfl
  · cases h : wyB a b with
    | false => rfl
    | true =>
      obtain ⟨n, k, rfl, rfl, h1, h2⟩ := wyB_nat h
      rw [ite_f (by rfl), bnd1_eq (sBall_eq h1 (by omega))]; rfl
theorem ba_full : ∀ n, ba n n = 2 ^ n
  | 0 => rfl
  | n + 1 => by rw [ba_pascal, ba_over n (k := n + 1) (by omega), ba_full n, Nat.pow_succ]; omega
def tbP (m q : Nat) (i : Nat) : List Int := (List.range i).map fun (a : Nat) => (ba q (m - a) : Int)
def tbB (m q : Int) : Bool := ahB q && (decide (0 ≤ m) && decide (m ≤ 2))
def tbV (m q : Int) : List Int := bif tbB m q then tbP m.toNat q.toNat (m.toNat + 1) else []
theorem tbP_len {m q i : Nat} : (tbP m q i).length = i := by simp [tbP]
theorem tbP_succ {m q i : Nat} : tbP m q (i + 1) = tbP m q i ++ [(ba q (m - i) : Int)] := by unfold tbP; rw [List.range_succ, List.map_append]; rfl
theorem tbP_at {m q i j : Nat} (h : j < i) : (tbP m q i).getD j 0 = (ba q (m - j) : Int) := by
  unfold tbP; rw [List.getD_eq_getElem?_getD, List.getElem?_map, List.getElem?_range h]; rfl
theorem tbB_nat {m q : Int} (h : tbB m q = true) : ∃ a b : Nat, m = a ∧ q = b ∧ a ≤ 2 ∧ b ≤ 30 := by
  unfold tbB ahB at h
  simp only [Bool.and_eq_true, decide_eq_true_eq] at h
  exact ⟨m.toNat, q.toNat, by omega, by omega, by omega, by omega⟩
theorem tb_core {L : Nat → List Int → Int → Option (List Int × Bool)} {a b : Nat} (ha : a ≤ 2) (hb : b ≤ 30)
    (step : ∀ (n i : Nat) (s : List Int), i ≤ a → L (n + 1) s (i : Int) = (chk (I64 ((a : Int) - i)) <| chk (((List.length s) + 1) * 8 ≤ 140737488355328 ∧ (List.length s) + 1 ≤ maxLen) <| chk (I64 ((i : Int) + (1 : Int))) <| L n (s ++ [(ba b (a - i) : Int)]) ((i : Int) + (1 : Int))))
    (fin : ∀ (n : Nat) (s : List Int), L (n + 1) s ((a : Int) + 1) = some (s, true)) : L fuel [] 0 = some (tbP a b (a + 1), true) := by
  refine (loop_up (fun n i (s : List Int) => L n s i) ((a : Int) + 1) (fun i => tbP a b i.toNat) _ ?_ ?_ (by omega) fuel (by have := fuel_ge; omega))
  · intro n i i0 i1
    obtain ⟨j, rfl⟩ := int_nat i0
    have e1 : ((j : Int) + 1).toNat = j + 1 := by omega
    have hl := tbP_len (m := a) (q := b) (i := j)
    simp only [Int.toNat_natCast, e1]
    rw [step n j _ (by omega), chk_pos (by unfold I64; omega), chk_pos ⟨by omega, by simp only [maxLen]; omega⟩, chk_pos (by unfold I64; omega), tbP_succ]
  · intro n
    have e1 : ((a : Int) + 1).toNat = a + 1 := by omega
    simp only [e1]
    rw [fin]
theorem iWeightTable_eq (m q : Int) : F_impl_WeightTable m q = some (tbV m q, tbB m q) := by
  unfold F_impl_WeightTable tbV
  refine jn_is (fun J => J (!tbB m q)) (fun J => ?_) ?_
  · rw [bnd1_eq (iAhead_eq q)]; unfold tbB; cases ahB q <;> rfl
  · cases h : tbB m q with
    | false => rfl
    | true =>
      obtain ⟨a, b, rfl, rfl, h1, h2⟩ := tbB_nat h
      rw [ite_f (by rfl), ite_t rfl]
      simp only [jn]
      rw [chk_pos (by unfold I64; omega)]
      refine tb_core (L := fun n s i => F_impl_WeightTable_L1 a b (fun o16 => some (o16, true)) n s i) (a := a) (b := b) h1 h2 ?_ ?_
      · intro n i s hi
        have e : (a : Int) - (i : Int) = ((a - i : Nat) : Int) := by omega
        rw [F_impl_WeightTable_L1, ite_t (decide_eq_true (by omega)), e, bnd1_eq (iBall_eq h2 (by omega))]
      · intro n s
        rw [F_impl_WeightTable_L1, ite_f (decide_eq_false (by omega))]
theorem sWeightTable_eq (m q : Int) : F_spec_WeightTable m q = some (tbV m q, tbB m q) := by
  unfold F_spec_WeightTable tbV
  refine jn_is (fun J => J (!tbB m q)) (fun J => ?_) ?_
  · rw [bnd1_eq (sAhead_eq q)]; unfold tbB; cases ahB q <;> rfl
  · cases h : tbB m q with
    | false => rfl
    | true =>
      obtain ⟨a, b, rfl, rfl, h1, h2⟩ := tbB_nat h
      rw [ite_f (by rfl), ite_t rfl]
      simp only [jn]
      refine tb_core (L := fun n s i => F_spec_WeightTable_L1 a b (fun o16 => some (o16, true)) n s i) (a := a) (b := b) h1 h2 ?_ ?_
      · intro n i s hi
        have e : (a : Int) - (i : Int) = ((a - i : Nat) : Int) := by omega
        rw [F_spec_WeightTable_L1, ite_t (decide_eq_true (by omega)), e, bnd1_eq (sBall_eq h2 (by omega))]
      · intro n s
        rw [F_spec_WeightTable_L1, ite_f (decide_eq_false (by omega))]
def mwB (x y : Int) : Bool := ahB x && ((decide (0 ≤ y) && decide (y ≤ 2)) && decide (y ≤ x))
def mwV (x y : Int) : Int := bif mwB x y then ((2 ^ x.toNat / ba x.toNat y.toNat : Nat) : Int) else 0
theorem mwB_nat {x y : Int} (h : mwB x y = true) : ∃ n k : Nat, x = n ∧ y = k ∧ n ≤ 30 ∧ k ≤ 2 ∧ k ≤ n := by
  unfold mwB ahB at h
  simp only [Bool.and_eq_true, decide_eq_true_eq] at h
  exact ⟨x.toNat, y.toNat, by omega, by omega, by omega, by omega, by omega⟩
theorem mw_div {n k : Nat} (hn : n ≤ 30) : Int.tdiv ((1 : Int) * 2 ^ Int.toNat (n : Int)) (ba n k : Int) = ((2 ^ n / ba n k : Nat) : Int) ∧ I64 ((2 ^ n / ba n k : Nat) : Int) ∧ (ba n k : Int) ≠ 0 := by
  have h1 := ba_pos n k
  have h2 := pow30 hn
  have h3 := Nat.div_le_self (2 ^ n) (ba n k)
  refine ⟨?_, ?_, by omega⟩
  · rw [Int.one_mul, Int.toNat_natCast, ← pow_cast]
    exact tdiv_nat
  · generalize 2 ^ n / ba n k = d at *
    generalize 2 ^ n = z at *
    unfold I64; omega
theorem iMostByWeight_eq (x y : Int) : F_impl_MostByWeight x y = some (mwV x y, mwB x y) := by
  unfold F_impl_MostByWeight mwV
  refine jn_is (fun J => J (!mwB x y)) (fun J => ?_) ?_
  · have e : decide (y > x) = !decide (y ≤ x) := by by_cases h : y ≤ x <;> simp [h] <;> omega
    rw [bnd1_eq (iAhead_eq x), e]; unfold mwB; cases ahB x <;> cases (decide (0 ≤ y) && decide (y ≤ 2)) <;> rfl
  · cases h : mwB x y with
    | false => rfl
    | true =>
      obtain ⟨n, k, rfl, rfl, h1, h2, h3⟩ := mwB_nat h
      obtain ⟨d1, d2, d3⟩ := mw_div (k := k) h1
      rw [ite_f (by rfl), ite_t rfl, chk_pos (pow_q (by omega) (by omega)).1, bnd1_eq (iBall_eq h1 (by omega)), d1, chk_pos d2, chk_pos d3]; rfl
theorem sMostByWeight_eq (x y : Int) : F_spec_MostByWeight x y = some (mwV x y, mwB x y) := by
  unfold F_spec_MostByWeight mwV
  refine jn_is (fun J => J (!mwB x y)) (fun J => ?_) ?_
  · have e : (decide (y ≥ (0 : Int)) && decide (y ≤ (minN (2 : Int) x))) = ((decide (0 ≤ y) && decide (y ≤ 2)) && decide (y ≤ x)) := by
      have := minN_in (a := 2) (b := x)
      rw [← Bool.decide_and, ← Bool.decide_and, ← Bool.decide_and, decide_eq_decide]; omega
    rw [bnd1_eq (sAhead_eq x), e]; unfold mwB; cases ahB x <;> rfl
  · cases h : mwB x y with
    | false => rfl
    | true =>
      obtain ⟨n, k, rfl, rfl, h1, h2, h3⟩ := mwB_nat h
      obtain ⟨d1, d2, d3⟩ := mw_div (k := k) h1
      rw [ite_f (by rfl), ite_t rfl, chk_pos (pow_q (by omega) (by omega)).1, bnd1_eq (sBall_eq h1 (by omega)), d1, chk_pos d2, chk_pos d3]; rfl
theorem nw_loop {xs : List Int} {m k : Int} (h : swB xs m k = true) (J : Int → Option Bool) : F_laws_FnWeights_L1 xs m k J fuel 0 0 = J (wtA xs m k) := by
  obtain ⟨h1, h2, h3, h4⟩ := swB_in h
  have hs := state_len h1
  unfold wtA
  refine (loop_up (fun n i (s : Int) => F_laws_FnWeights_L1 xs m k J n i s) (xs.length : Int) (fun i => wtP xs m k i.toNat) _ ?_ ?_ (by omega) fuel (by have := fuel_ge; omega))
  · intro n i i0 i1
    obtain ⟨j, rfl⟩ := int_nat i0
    have e1 : ((j : Int) + 1).toNat = j + 1 := by omega
    have hp := wtP_in (xs := xs) (m := m) h4 j
    have hw := wtN_in (m := m) (q := k) (x := xs.getD j 0) h4
    have hjl : j < 12 := by omega
    have hb : nwB xs m (j : Int) k = true := by
      unfold nwB
      rw [h1, numB_eq (by simp; omega), decide_eq_true i0, decide_eq_true (by omega)]
      unfold ahB; rw [decide_eq_true h3, decide_eq_true h4]; rfl
    have hv : nwV xs m (j : Int) k = wtN m k (xs.getD j 0) := by unfold nwV; rw [ite_t hb, Int.toNat_natCast]
    simp only [Int.toNat_natCast, e1]
    rw [F_laws_FnWeights_L1, ite_t (decide_eq_true i1), bnd2_eq (iNumberWeight_eq xs m _ k (by omega)), hb, hv]
    refine jn_is (fun J3 => J3 false) (fun J3 => ?_) ?_
    · rw [ite_f (by rfl), chk_pos (by omega), Int.toNat_natCast]
      congr 1
      unfold wtN
      by_cases hx : xs.getD j 0 < 0
      · rw [if_pos hx, decide_eq_true hx]; rfl
      · have := ba_pos k.toNat (m - xs.getD j 0).toNat
        have hne : ((ba k.toNat (m - xs.getD j 0).toNat : Int) == 0) = false := by rw [beq_eq_false_iff_ne]; omega
        rw [if_neg hx, decide_eq_false hx, hne]; rfl
    · rw [ite_f rfl, chk_pos (by unfold I64; omega), chk_pos (by unfold I64; omega), wtP]
  · intro n
    rw [F_laws_FnWeights_L1, ite_f (decide_eq_false (by omega)), Int.toNat_natCast]
theorem tb_loop {a b : Nat} (ha : a ≤ 2) (J : Unit → Option Bool) : F_laws_FnWeights_L2 (tbP a b (a + 1)) J fuel 1 = J () := by
  have hl := tbP_len (m := a) (q := b) (i := a + 1)
  refine loop_m (fun n (z : Int) => F_laws_FnWeights_L2 (tbP a b (a + 1)) J n z) (fun z => 1 ≤ z ∧ z ≤ (a : Int) + 1) (fun z => ((a : Int) + 1 - z).toNat) (fun o => o = J ()) ?_ fuel 1 ⟨by omega, by omega⟩ (by have := fuel_ge; omega)
  rintro n z ⟨z0, z1⟩
  rw [F_laws_FnWeights_L2, hl]
  by_cases hz : z < ((a + 1 : Nat) : Int)
  · obtain ⟨j, rfl⟩ : ∃ j : Nat, z = (j : Int) + 1 := ⟨(z - 1).toNat, by omega⟩
    have e1 : ((j : Int) + 1).toNat = j + 1 := by omega
    have e2 : (j : Int) + 1 - 1 = (j : Int) := by omega
    have hm := ba_mono b (k := a - (j + 1)) (j := a - j) (by omega)
    rw [ite_t (decide_eq_true hz), chk_pos (by omega), chk_pos (by unfold I64; omega), chk_pos (by omega), e1, e2, Int.toNat_natCast, tbP_at (by omega), tbP_at (by omega), ite_f (decide_eq_false (by omega)), chk_pos (by unfold I64; omega)]
    exact .inl ⟨(j : Int) + 1 + 1, ⟨by omega, by omega⟩, by omega, rfl⟩
  · rw [ite_f (decide_eq_false hz)]
    exact .inr rfl
theorem start_wt {n k : Nat} {q : Nat} (hk : k ≤ 2) : wtA (List.replicate n (0 : Int)) (k : Int) (q : Int) = (n : Int) * (ba q k : Int) := by
  have key : ∀ i, i ≤ n → wtP (List.replicate n (0 : Int)) (k : Int) (q : Int) i = (i : Int) * (ba q k : Int) := by
    intro i
    induction i with
    | zero => intro _; simp [wtP]
    | succ i ih =>
      intro hi
      have e : (List.replicate n (0 : Int)).getD i 0 = 0 := by rw [List.getD_eq_getElem?_getD, List.getElem?_replicate, if_pos (by omega)]; rfl
      unfold wtP wtN
      rw [ih (by omega), e, if_neg (by omega), Int.sub_zero, Int.toNat_natCast, Int.toNat_natCast, Int.natCast_succ, Int.add_mul, Int.one_mul]
  unfold wtA
  rw [List.length_replicate]; exact key n (Nat.le_refl _)
theorem law_weights {bs : List Int} (hy : okY bs) (hb : bs.length ≤ 9223372036854775807) : F_laws_FnWeights bs = some true := by
  unfold F_laws_FnWeights
  rw [chk_pos hb]
  rcases Bool.eq_false_or_eq_true (decide (((List.length bs : Nat) : Int) > (65536 : Int))) with hB | hB
  · rw [ite_t hB]
  rw [ite_f hB]
  have hB := of_decide_eq_false hB
  have hy1 := okY_cut (k := 1) hy (by omega) (by omega)
  have hy2 := okY_cut (k := 2) hy (by omega) (by omega)
  obtain ⟨xs, m, i, k, e1, hm, hx, hi, hk0, hk1⟩ := drawNumberWeight_ok hy
  obtain ⟨a, b, e2, ha0, ha1, hb0, hb1⟩ := drawWaysOf_ok hy1
  obtain ⟨u, v, e3, hu0, hu1, hv0, hv1⟩ := drawWeightTable_ok hy2
  obtain ⟨x, y, e4, hx0, hx1, hy0, hy1'⟩ := drawMost_ok hy
  have htl : (tbV u v).length ≤ 9223372036854775807 := by
    unfold tbV
    refine ite_c (P := fun l : List Int => l.length ≤ 9223372036854775807) (fun h => ?_) (fun _ => ?_)
    · obtain ⟨_, _, rfl, rfl, h1, h2⟩ := tbB_nat h; rw [tbP_len]; omega
    · simp
  have hswnw : nwB xs m i k = true → swB xs m k = true := by
    intro h
    unfold nwB ahB at h; unfold swB
    simp only [Bool.and_eq_true] at h ⊢
    exact ⟨h.1, h.2.2⟩
  rw [bnd4_eq e1, bnd2_eq (iNumberWeight_eq xs m i k (by omega)), bnd2_eq (sNumberWeight_eq xs m i k (by omega)), bnd2_eq (iStateWeight_eq xs m k (by omega)), bnd2_eq (sStateWeight_eq xs m k (by omega)), bnd2_eq (iRoomOf_eq xs m k (by omega)), bnd2_eq (sRoomOf_eq xs m k (by omega)),
    bnd2_eq (iBoundOf_eq xs m (by omega)), bnd2_eq (sBoundOf_eq xs m (by omega)), chk_pos (by omega), bnd2_eq e2, bnd2_eq (iWaysOf_eq a b), bnd2_eq (sWaysOf_eq a b), bnd2_eq (iBallOf_eq a b), bnd2_eq (sBallOf_eq a b), bnd2_eq e3, bnd2_eq (iWeightTable_eq u v), bnd2_eq (sWeightTable_eq u v), bnd2_eq e4, bnd2_eq (iMostByWeight_eq x y), bnd2_eq (sMostByWeight_eq x y)]
  refine jn_is (fun J => J false) (fun J => ?_) ?_
  · rw [chk_pos htl, chk_pos htl]
    simp only [bne_self_eq_false, beq_self_eq_true, Bool.not_true, cond_false, cond_true]
    rcases Bool.eq_false_or_eq_true (nwB xs m i k) with h | h
    · rw [ite_t h, hswnw h]; rfl
    · rw [ite_f h]
  rw [ite_f rfl]
  refine jn_is (fun J => J ()) (fun J => ?_) ?_
  · rcases Bool.eq_false_or_eq_true (swB xs m k) with h | h
    · obtain ⟨h1, h2, h3, h4⟩ := swB_in h
      obtain ⟨g1, g2, g3⟩ := pow_q h3 h4
      have hw := wtA_in (xs := xs) (m := m) h2 h4
      have esv : swV xs m k = wtA xs m k := by unfold swV; rw [ite_t h]
      have erm : rmV xs m k = 2 ^ k.toNat - wtA xs m k := by unfold rmV; rw [ite_t h]
      have ebd : bdV xs m = (bdN xs m : Int) := by unfold bdV; rw [ite_t h1]
      obtain ⟨b1, b2, b3⟩ := bd_in h2
      obtain ⟨kk, rfl⟩ := int_nat h3
      rw [ite_t h]
      refine jn_is (fun J => J (wtA xs m (kk : Int))) (fun J => nw_loop h J) ?_
      refine jn_is (fun J => J false) (fun J => ?_) (ite_f rfl _ _)
      simp only [Int.toNat_natCast] at g1 g2 g3 erm ⊢
      rw [esv, ite_f (by simp), chk_pos g1, Int.one_mul, chk_pos (by unfold I64; omega), erm, ite_f (by simp), ebd]
      have lo : (kk : Int) ≥ (bdN xs m : Int) → ¬ (2 : Int) ^ kk - wtA xs m (kk : Int) < 0 := by
        intro hge
        have := bd_above h2 (kk - bdN xs m)
        rw [show bdN xs m + (kk - bdN xs m) = kk by omega] at this
        omega
      have hi2 : (kk : Int) = (bdN xs m : Int) - 1 → ¬ ((2 : Int) ^ kk - wtA xs m (kk : Int) ≥ 0) := by
        intro he
        have := b3 kk (by omega)
        omega
      have tail : (bif decide ((bdN xs m : Int) > 0) then chk (I64 ((bdN xs m : Int) - (1 : Int))) <| (bif ((kk : Int) == ((bdN xs m : Int) - (1 : Int))) then J (decide ((2 : Int) ^ kk - wtA xs m (kk : Int) ≥ (0 : Int))) else J false) else J false) = J false := by
        by_cases c1 : (bdN xs m : Int) > 0
        · rw [ite_t (decide_eq_true c1), chk_pos (by unfold I64; omega)]
          by_cases c2 : (kk : Int) = (bdN xs m : Int) - 1
          · rw [ite_t (by simpa using c2), decide_eq_false (hi2 c2)]
          · rw [ite_f (by simpa using c2)]
        · rw [ite_f (decide_eq_false c1)]
      by_cases c : (kk : Int) ≥ (bdN xs m : Int)
      · rw [ite_t (decide_eq_true c), ite_f (decide_eq_false (lo c))]; exact tail
      · rw [ite_f (decide_eq_false c)]; exact tail
    · rw [ite_f h]
  refine jn_is (fun J => J ()) (fun J => ?_) ?_
  · rcases Bool.eq_false_or_eq_true (wyB a b) with h | h
    · obtain ⟨n, d, rfl, rfl, h1, h2⟩ := wyB_nat h
      have ew : wyV (n : Int) (d : Int) = (ch n d : Int) := by unfold wyV; rw [ite_t h]; rfl
      have eb : blV (n : Int) (d : Int) = (ba n d : Int) := by unfold blV; rw [ite_t h]; rfl
      rw [ite_t h, ew, eb]
      refine jn_is (fun J => J false) (fun J => ?_) ?_
      · by_cases c : d = 0
        · subst c
          rw [ite_t (by rfl), ite_f (by simp [ba, ch_zero])]; simp [ch_zero]
        · rw [ite_f (by simp; omega)]
      rw [ite_f rfl]
      refine jn_is (fun J => J ()) (fun J => ?_) ?_
      · by_cases c : d = 0
        · subst c; rw [ite_f (by rfl)]
        · obtain ⟨d', rfl⟩ : ∃ d', d = d' + 1 := ⟨d - 1, by omega⟩
          have e5 : ((d' + 1 : Nat) : Int) - 1 = (d' : Int) := by omega
          have hwb : wyB (n : Int) (d' : Int) = true := by unfold wyB ahB; simp; omega
          have eb2 : blV (n : Int) (d' : Int) = (ba n d' : Int) := by unfold blV; rw [ite_t hwb]; rfl
          have l1 := ba_le n d'
          have l2 := ch_le n (d' + 1)
          have l3 := pow30 h1
          rw [ite_t (decide_eq_true (by omega)), chk_pos (by unfold I64; omega), e5, bnd2_eq (iBallOf_eq _ _), hwb, eb2]
          refine jn_is (fun J => J false) (fun J => ?_) (ite_f rfl _ _)
          rw [ite_f (by rfl), chk_pos (by unfold I64; omega)]
          simp [ba]
      · refine jn_is (fun J => J false) (fun J => ?_) (ite_f rfl _ _)
        by_cases c : d = n
        · subst c
          rw [ite_t (by simp), chk_pos (pow_q (by omega) (by omega)).1, Int.one_mul, Int.toNat_natCast, ba_full, pow_cast]; simp
        · rw [ite_f (by simp; omega)]
    · rw [ite_f h]
  refine jn_is (fun J => J ()) (fun J => ?_) ?_
  · rcases Bool.eq_false_or_eq_true (tbB u v) with h | h
    · obtain ⟨n, d, rfl, rfl, h1, h2⟩ := tbB_nat h
      have et : tbV (n : Int) (d : Int) = tbP n d (n + 1) := by unfold tbV; rw [ite_t h]; rfl
      have hl := tbP_len (m := n) (q := d) (i := n + 1)
      rw [ite_t h, et]
      refine jn_is (fun J => J ()) (fun J => tb_loop h1 J) ?_
      refine jn_is (fun J => J false) (fun J => ?_) (ite_f rfl _ _)
      rw [chk_pos (by unfold I64; omega), hl, ite_f (by simp), chk_pos (by omega), Int.toNat_natCast, tbP_at (by omega), Nat.sub_self]
      simp [ba, ch_zero]
    · rw [ite_f h]
  rcases Bool.eq_false_or_eq_true (mwB x y) with h | h
  · obtain ⟨n, d, rfl, rfl, h1, h2, h3⟩ := mwB_nat h
    have hwb : wyB (n : Int) (d : Int) = true := by unfold wyB ahB; simp; omega
    have eb : blV (n : Int) (d : Int) = (ba n d : Int) := by unfold blV; rw [ite_t hwb]; rfl
    have em : mwV (n : Int) (d : Int) = ((2 ^ n / ba n d : Nat) : Int) := by unfold mwV; rw [ite_t h]; rfl
    have l1 := ba_le n d
    have l2 := ba_pos n d
    have l3 := pow30 h1
    obtain ⟨z, hz⟩ : ∃ z, z = 2 ^ n / ba n d := ⟨_, rfl⟩
    have d1 : z * ba n d ≤ 2 ^ n := by rw [hz]; exact Nat.div_mul_le_self _ _
    have d2 : 2 ^ n < (z + 1) * ba n d := by rw [hz, Nat.mul_comm]; exact Nat.lt_mul_div_succ _ l2
    have d3 : (z + 1) * ba n d = z * ba n d + ba n d := Nat.succ_mul _ _
    have d4 : z ≤ 2 ^ n := by rw [hz]; exact Nat.div_le_self _ _
    rw [ite_t h, bnd2_eq (iBallOf_eq _ _), hwb, eb, em, ← hz]
    have c1 : (z : Int) * (ba n d : Int) = ((z * ba n d : Nat) : Int) := by norm_cast
    have c2 : ((z : Int) + 1) * (ba n d : Int) = (((z + 1) * ba n d : Nat) : Int) := by norm_cast
    have c3 := pow_cast n
    refine jn_is (fun J => J false) (fun J => ?_) ?_
    · rw [ite_f (by rfl), c1, chk_pos (by unfold I64; omega), chk_pos (pow_q (by omega) (by omega)).1, Int.one_mul, Int.toNat_natCast, ite_f (decide_eq_false (by omega)), chk_pos (by unfold I64; omega), c2, chk_pos (by unfold I64; omega), decide_eq_false (by omega)]
    rw [ite_f rfl]
    refine jn_is (fun J => J (decide ((z : Int) > 0) && decide ((z : Int) ≤ 12))) (fun J => by cases decide ((z : Int) > 0) <;> rfl) ?_
    rcases Bool.eq_false_or_eq_true (decide ((z : Int) > 0) && decide ((z : Int) ≤ 12)) with g | g
    · have ⟨g1, g2⟩ : (z : Int) > 0 ∧ (z : Int) ≤ 12 := by simpa using g
      have hss : ssB (z : Int) (d : Int) = true := by unfold ssB mostB; simp; omega
      have esl : ssL (z : Int) (d : Int) = List.replicate z 0 := by unfold ssL; rw [if_pos hss]; rfl
      have esm : ssM (z : Int) (d : Int) = (d : Int) := by unfold ssM; rw [if_pos hss]
      have hst : isStateN (List.replicate z (0 : Int)) (d : Int) = true := by
        refine isStateN_iff.2 ⟨by rw [List.length_replicate]; omega, by omega, fun j hj => ?_⟩
        rw [List.length_replicate] at hj
        rw [List.getD_eq_getElem?_getD, List.getElem?_replicate, if_pos hj]; simp
      obtain ⟨b1, b2, b3⟩ := bd_in (okS_of hst)
      have ebd : bdV (List.replicate z (0 : Int)) (d : Int) = (bdN (List.replicate z (0 : Int)) (d : Int) : Int) := by unfold bdV; rw [ite_t hst]
      rw [ite_t g, esl, esm, bnd2_eq (iBoundOf_eq _ _ (by rw [List.length_replicate]; omega)), hss, hst, ebd, ite_t rfl, ite_t rfl]
      have : bdN (List.replicate z (0 : Int)) (d : Int) ≤ n := by
        refine Nat.le_of_not_lt fun hlt => ?_
        have := b3 n hlt
        rw [start_wt h2, c1] at this
        omega
      rw [decide_eq_true (by omega)]
    · rw [ite_f g]
  · rw [ite_f h]
end Go.Tl
