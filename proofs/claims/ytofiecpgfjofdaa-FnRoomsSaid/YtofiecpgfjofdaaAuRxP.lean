/-
  Plain laws of the printed functions: no program here.
-/
import Derived.Test.YtofiecpgfjofdaaAuRxF
namespace Go.Tl
set_option linter.unusedVariables false
set_option linter.unusedSimpArgs false
/-- A loop, told by what its rounds keep. -/
theorem loop_m {σ R : Type} (L : Nat → σ → Option R) (I : σ → Prop) (μ : σ → Nat) (Q : Option R → Prop)
    (step : ∀ n s, I s → (∃ s', I s' ∧ μ s' < μ s ∧ L (n + 1) s = L n s') ∨ Q (L (n + 1) s)) : ∀ n s, I s → μ s < n → Q (L n s) := by
  intro n
  induction n with
  | zero => intro s _ h; omega
  | succ n ih =>
    intro s hI hm
    rcases step n s hI with ⟨s', h1, h2, h3⟩ | h
    · rw [h3]; exact ih s' h1 (by omega)
    · exact h
/-- A loop that counts up to N; st is its state by the count. -/
theorem loop_up {σ R : Type} (L : Nat → Int → σ → Option R) (N : Int) (st : Int → σ) (r : Option R)
    (step : ∀ n i, 0 ≤ i → i < N → L (n + 1) i (st i) = L n (i + 1) (st (i + 1))) (fin : ∀ n, L (n + 1) N (st N) = r) (h0 : 0 ≤ N) (n : Nat) (hn : N.toNat < n) : L n 0 (st 0) = r := by
  have key : ∀ (k : Nat) (n : Nat) (i : Int), 0 ≤ i → i + k = N → k < n → L n i (st i) = r := by
    intro k
    induction k with
    | zero => intro n i h1 h2 h3; obtain ⟨n, rfl⟩ : ∃ m, n = m + 1 := ⟨n - 1, by omega⟩; have e : i = N := by omega
              subst e; exact fin n
    | succ k ih =>
      intro n i h1 h2 h3
      obtain ⟨n, rfl⟩ : ∃ m, n = m + 1 := ⟨n - 1, by omega⟩
      rw [step n i h1 (by omega)]
      exact ih n (i + 1) (by omega) (by omega) (by omega)
  exact key N.toNat n 0 (Int.le_refl _) (by omega) hn
/-- A loop that counts up to N and may end early: with what p tells. -/
theorem loop_all {R : Type} (L : Nat → Int → Option R) (N : Int) (p : Int → Bool) (no yes : Option R)
    (step : ∀ n i, 0 ≤ i → i < N → p i = true → L (n + 1) i = L n (i + 1)) (stop : ∀ n i, 0 ≤ i → i < N → p i = false → L (n + 1) i = no) (fin : ∀ n, L (n + 1) N = yes) (h0 : 0 ≤ N) (n : Nat) (hn : N.toNat < n) :
    (L n 0 = yes ∧ ∀ i, 0 ≤ i → i < N → p i = true) ∨ (L n 0 = no ∧ ∃ i, 0 ≤ i ∧ i < N ∧ p i = false ∧ ∀ j, 0 ≤ j → j < i → p j = true) := by
  have key : ∀ (k : Nat) (n : Nat) (i : Int), 0 ≤ i → i + k = N → k < n → (∀ j, 0 ≤ j → j < i → p j = true) → (L n i = yes ∧ ∀ i, 0 ≤ i → i < N → p i = true) ∨ (L n i = no ∧ ∃ i, 0 ≤ i ∧ i < N ∧ p i = false ∧ ∀ j, 0 ≤ j → j < i → p j = true) := by
    intro k
    induction k with
    | zero => intro n i h1 h2 h3 h4; obtain ⟨n, rfl⟩ : ∃ m, n = m + 1 := ⟨n - 1, by omega⟩; have e : i = N := by omega
              subst e; exact .inl ⟨fin n, h4⟩
    | succ k ih =>
      intro n i h1 h2 h3 h4
      obtain ⟨n, rfl⟩ : ∃ m, n = m + 1 := ⟨n - 1, by omega⟩
      cases hp : p i with
      | false => exact .inr ⟨stop n i h1 (by omega) hp, i, h1, by omega, hp, h4⟩
      | true =>
        rw [step n i h1 (by omega) hp]
        refine ih n (i + 1) (by omega) (by omega) (by omega) fun j k1 k2 => ?_
        by_cases e : j = i
        · rw [e]; exact hp
        · exact h4 j k1 (by omega)
  exact key N.toNat n 0 (Int.le_refl _) (by omega) hn fun j h1 h2 => by omega
theorem ite_t {α : Type} {c : Bool} (h : c = true) (x y : α) : (bif c then x else y) = x := by rw [h]; rfl
theorem ite_f {α : Type} {c : Bool} (h : c = false) (x y : α) : (bif c then x else y) = y := by rw [h]; rfl
theorem ite_c {α : Type} {P : α → Prop} {c : Bool} {x y : α} (h1 : c = true → P x) (h2 : c = false → P y) : P (bif c then x else y) := by
  cases c
  · exact h2 rfl
  · exact h1 rfl
theorem getD_in {xs : List Int} {i : Nat} {P : Int → Prop} (h : i < xs.length) (hP : ∀ x ∈ xs, P x) : P (xs.getD i 0) := by
  rw [List.getD_eq_getElem?_getD, List.getElem?_eq_getElem h]; exact hP _ (List.getElem_mem h)
theorem maxN_in {a b : Int} : a ≤ maxN a b ∧ b ≤ maxN a b ∧ (maxN a b = a ∨ maxN a b = b) := by unfold maxN; split <;> omega
theorem minN_in {a b : Int} : minN a b ≤ a ∧ minN a b ≤ b ∧ (minN a b = a ∨ minN a b = b) := by unfold minN; split <;> omega
theorem next_ok {bs : List Int} {p s : Int} (hy : okY bs) (h0 : 0 ≤ p) (h1 : p ≤ 1000000000000) : ∃ v s', F_p_spec_l1Cur_next bs p s = some (v, bs, p + 1, s') ∧ 0 ≤ v ∧ v ≤ 255 := by
  unfold F_p_spec_l1Cur_next
  have hb := hy p.toNat
  have fin : ∀ v3 : Int, 0 ≤ v3 → v3 ≤ 255 → ∃ v s', (chk (I64 (p + (1 : Int))) <| nam (IntKind.wrap .u64 (s * (6364136223846793005 : Int))) fun n37 => nam (IntKind.wrap .u64 (n37 + (IntKind.wrap .u64 v3))) fun n40 => (bif (decide ((p + (1 : Int)) ≤ ((List.length bs : Nat) : Int))) then some (v3, bs, (p + (1 : Int)), (IntKind.wrap .u64 (n40 + (462197 : Int)))) else nam (bits .and .u64 ((IntKind.wrap .u64 (n40 + (462197 : Int))) / 2 ^ Int.toNat (40 : Int)) (255 : Int)) fun n60 => chk (I64 n60) <| some (n60, bs, (p + (1 : Int)), (IntKind.wrap .u64 (n40 + (462197 : Int)))))) = some (v, bs, p + 1, s') ∧ 0 ≤ v ∧ v ≤ 255 := by
    intro v3 k0 k1
    rw [chk_pos (by unfold I64; omega)]
    simp only [nam]
    refine ite_c (P := fun o => ∃ v s', o = some (v, bs, p + 1, s') ∧ 0 ≤ v ∧ v ≤ 255) (fun _ => ?_) (fun _ => ?_)
    · exact ⟨_, _, rfl, k0, k1⟩
    · have h2 := and255 ((IntKind.wrap .u64 ((IntKind.wrap .u64 ((IntKind.wrap .u64 (s * (6364136223846793005 : Int))) + (IntKind.wrap .u64 v3))) + (462197 : Int))) / 2 ^ Int.toNat (40 : Int))
      rw [chk_pos (by unfold I64; omega)]
      exact ⟨_, _, rfl, h2.1, h2.2⟩
  simp only [jn]
  refine ite_c (P := fun o => ∃ v s', o = some (v, bs, p + 1, s') ∧ 0 ≤ v ∧ v ≤ 255) (fun h => ?_) (fun _ => ?_)
  · have h := of_decide_eq_true h
    rw [chk_pos (by omega), chk_pos (by unfold I64; omega)]
    exact fin _ hb.1 hb.2
  · exact fin 0 (by omega) (by omega)
theorem tmod_in {a n : Int} (h0 : 0 ≤ a) (h1 : 0 < n) : 0 ≤ Int.tmod a n ∧ Int.tmod a n < n := ⟨Int.tmod_nonneg _ h0, Int.tmod_lt_of_pos _ h1⟩
theorem pick_ok {bs : List Int} {p s n : Int} (hy : okY bs) (h0 : 0 ≤ p) (h1 : p ≤ 900000000000) : ∃ v p' s', F_p_spec_l1Cur_pick bs p s n = some (v, bs, p', s') ∧ p ≤ p' ∧ p' ≤ p + 2 ∧ 0 ≤ v ∧ (1 ≤ n → v < n) := by
  unfold F_p_spec_l1Cur_pick
  rcases Bool.eq_false_or_eq_true (decide (n ≤ (1 : Int))) with h | h
  · have h := of_decide_eq_true h
    rw [ite_t (decide_eq_true h)]
    exact ⟨0, p, s, rfl, by omega, by omega, by omega, fun _ => by omega⟩
  · rw [ite_f h]
    have h := of_decide_eq_false h
    obtain ⟨v, s', e, g0, g1⟩ := next_ok (s := s) hy h0 (by omega)
    rw [bnd4_eq e]
    simp only [jn]
    rcases Bool.eq_false_or_eq_true (decide (n > (200 : Int))) with h4 | h4
    · rw [ite_t h4]
      obtain ⟨v2, s2, e2, k0, k1⟩ := next_ok (s := s') hy (p := p + 1) (by omega) (by omega)
      rw [chk_pos (by unfold I64; omega), bnd4_eq e2, chk_pos (by unfold I64; omega), chk_pos (by omega)]
      have := tmod_in (a := v * 256 + v2) (n := n) (by omega) (by omega)
      exact ⟨_, _, _, rfl, by omega, by omega, this.1, fun _ => this.2⟩
    · rw [ite_f h4]
      rw [chk_pos (by omega)]
      have := tmod_in (a := v) (n := n) (by omega) (by omega)
      exact ⟨_, _, _, rfl, by omega, by omega, this.1, fun _ => this.2⟩
theorem one_ok {bs : List Int} {p s n : Int} (hy : okY bs) (h0 : 0 ≤ p) (h1 : p ≤ 900000000000) : ∃ b p' s', F_p_spec_l1Cur_one bs p s n = some (b, bs, p', s') ∧ p ≤ p' ∧ p' ≤ p + 2 := by
  unfold F_p_spec_l1Cur_one
  obtain ⟨v, p', s', e, g0, g1, g2, g3⟩ := pick_ok (s := s) (n := n) hy h0 h1
  rw [bnd4_eq e]
  exact ⟨_, _, _, rfl, g0, g1⟩
theorem among_ok {bs : List Int} {p s : Int} {xs : List Int} (hy : okY bs) (h0 : 0 ≤ p) (h1 : p ≤ 900000000000) (hx : 0 < xs.length) : ∃ v p' s', F_p_spec_l1Cur_among bs p s xs = some (v, bs, p', s') ∧ p ≤ p' ∧ p' ≤ p + 2 ∧ v ∈ xs := by
  unfold F_p_spec_l1Cur_among
  obtain ⟨v, p', s', e, g0, g1, g2, g3⟩ := pick_ok (s := s) (n := ((List.length xs : Nat) : Int)) hy h0 h1
  rw [bnd4_eq e, chk_pos ⟨g2, g3 (by omega)⟩]
  refine ⟨_, _, _, rfl, g0, g1, ?_⟩
  have := g3 (by omega)
  exact getD_in (P := fun x => x ∈ xs) (by omega) fun x hx => hx
theorem many_ok {bs : List Int} {p s : Int} (hy : okY bs) (h0 : 0 ≤ p) (h1 : p ≤ 900000000000) : ∃ v p' s', F_p_spec_l1Cur_many bs p s = some (v, bs, p', s') ∧ p ≤ p' ∧ p' ≤ p + 2 ∧ 0 ≤ v ∧ v ≤ 13 := by
  unfold F_p_spec_l1Cur_many
  obtain ⟨v, p', s', e, g0, g1, g2⟩ := among_ok (s := s) (xs := [(4 : Int), (6 : Int), (8 : Int), (3 : Int), (5 : Int), (2 : Int), (7 : Int), (12 : Int), (1 : Int), (0 : Int), (13 : Int), (4 : Int), (6 : Int), (8 : Int), (3 : Int), (5 : Int)]) hy h0 h1 (by decide)
  rw [bnd4_eq e]
  refine ⟨_, _, _, rfl, g0, g1, ?_⟩
  simp only [List.mem_cons, List.not_mem_nil, or_false] at g2
  omega
theorem lies_ok {bs : List Int} {p s : Int} (hy : okY bs) (h0 : 0 ≤ p) (h1 : p ≤ 900000000000) : ∃ v p' s', F_p_spec_l1Cur_lies bs p s = some (v, bs, p', s') ∧ p ≤ p' ∧ p' ≤ p + 2 ∧ -1 ≤ v ∧ v ≤ 3 := by
  unfold F_p_spec_l1Cur_lies
  obtain ⟨v, p', s', e, g0, g1, g2⟩ := among_ok (s := s) (xs := [(1 : Int), (1 : Int), (2 : Int), (0 : Int), (1 : Int), (2 : Int), (1 : Int), (3 : Int), (-1 : Int), (1 : Int), (2 : Int), (0 : Int)]) hy h0 h1 (by decide)
  rw [bnd4_eq e]
  refine ⟨_, _, _, rfl, g0, g1, ?_⟩
  simp only [List.mem_cons, List.not_mem_nil, or_false] at g2
  omega
theorem pow13 {n : Int} (h0 : 0 ≤ n) (h1 : n ≤ 13) : 1 ≤ (2 : Int) ^ n.toNat ∧ (2 : Int) ^ n.toNat ≤ 8192 := by
  obtain ⟨k, rfl⟩ : ∃ k : Nat, n = k := ⟨n.toNat, by omega⟩
  have : k ≤ 13 := by omega
  simp only [Int.toNat_natCast]
  match k, this with
  | 0, _ | 1, _ | 2, _ | 3, _ | 4, _ | 5, _ | 6, _ | 7, _ | 8, _ | 9, _ | 10, _ | 11, _ | 12, _ | 13, _ => decide
theorem question_ok {bs : List Int} {p s n : Int} (hy : okY bs) (h0 : 0 ≤ p) (h1 : p ≤ 800000000000) : ∃ v p' s', F_p_spec_l1Cur_question bs p s n = some (v, bs, p', s') ∧ p ≤ p' ∧ p' ≤ p + 4 ∧ -1 ≤ v ∧ v ≤ 4611686018427387904 := by
  unfold F_p_spec_l1Cur_question
  obtain ⟨v, p', s', e, g0, g1⟩ := one_ok (s := s) (n := 24) hy h0 (by omega)
  rw [bnd4_eq e]
  have a1 := minN_in (a := n) (b := 13)
  have a2 := maxN_in (a := 0) (b := minN n 13)
  have a3 := minN_in (a := n) (b := 12)
  have a4 := maxN_in (a := 0) (b := minN n 12)
  have b1 := pow13 (n := maxN 0 (minN n 13)) (by omega) (by omega)
  have b2 := pow13 (n := maxN 0 (minN n 12)) (by omega) (by omega)
  rcases Bool.eq_false_or_eq_true v with h4 | h4
  · rw [ite_t h4]
    rw [chk_pos ⟨by omega, by omega, by unfold I64; omega⟩]
    obtain ⟨v2, p2, s2, e2, k0, k1, k2⟩ := among_ok (s := s') (xs := [(-1 : Int), ((1 : Int) * 2 ^ Int.toNat (maxN (0 : Int) (minN n (13 : Int)))), (4611686018427387904 : Int)]) hy (p := p') (by omega) (by omega) (by simp)
    rw [bnd4_eq e2]
    refine ⟨_, _, _, rfl, by omega, by omega, ?_⟩
    simp only [List.mem_cons, List.not_mem_nil, or_false] at k2
    omega
  · rw [ite_f h4]
    rw [chk_pos ⟨by omega, by omega, by unfold I64; omega⟩]
    obtain ⟨v2, p2, s2, e2, k0, k1, k2, k3⟩ := pick_ok (s := s') (n := (1 : Int) * 2 ^ Int.toNat (maxN (0 : Int) (minN n (12 : Int)))) hy (p := p') (by omega) (by omega)
    rw [bnd4_eq e2]
    have := k3 (by omega)
    exact ⟨_, _, _, rfl, by omega, by omega, by omega, by omega⟩
theorem state_ok {bs : List Int} {p s : Int} (hy : okY bs) (h0 : 0 ≤ p) (h1 : p ≤ 700000000000) : ∃ xs m p' s', F_p_spec_l1Cur_state bs p s = some (xs, m, bs, p', s') ∧ p ≤ p' ∧ p' ≤ p + 100 ∧ -1 ≤ m ∧ m ≤ 3 ∧ xs.length ≤ 13 ∧ (∀ x ∈ xs, -1 ≤ x ∧ x ≤ 4) := by
  unfold F_p_spec_l1Cur_state
  obtain ⟨m, p1, s1, e1, g0, g1, g2, g3⟩ := lies_ok (s := s) hy h0 (by omega)
  obtain ⟨k, p2, s2, e2, k0, k1, k2, k3⟩ := many_ok (s := s1) hy (p := p1) (by omega) (by omega)
  rw [bnd4_eq e1, bnd4_eq e2]
  simp only [jn]
  let Q : Option (List Int × Int × List Int × Int × Int) → Prop := fun o => ∃ xs m p' s', o = some (xs, m, bs, p', s') ∧ p ≤ p' ∧ p' ≤ p + 100 ∧ -1 ≤ m ∧ m ≤ 3 ∧ xs.length ≤ 13 ∧ (∀ x ∈ xs, -1 ≤ x ∧ x ≤ 4)
  have fin2 : ∀ (xs : List Int) (pp ss : Int), p ≤ pp → pp ≤ p + 56 → xs.length = k.toNat → (∀ x ∈ xs, -1 ≤ x ∧ x ≤ 4) → Q (F_p_spec_l1Cur_state_L2 m k (fun o500d o500e o500g o12b => some (o12b, m, o500d, o500e, o500g)) fuel bs pp ss xs 0) := by
    intro xs pp ss hp1 hp2 hl hx
    refine loop_m (fun n (z : Int × Int × List Int × Int) => F_p_spec_l1Cur_state_L2 m k (fun o500d o500e o500g o12b => some (o12b, m, o500d, o500e, o500g)) n bs z.1 z.2.1 z.2.2.1 z.2.2.2) (fun z => 0 ≤ z.2.2.2 ∧ z.2.2.2 ≤ k ∧ p ≤ z.1 ∧ z.1 ≤ p + 56 + 2 * z.2.2.2 ∧ z.2.2.1.length = k.toNat ∧ ∀ x ∈ z.2.2.1, -1 ≤ x ∧ x ≤ 4) (fun z => (k - z.2.2.2).toNat) Q ?_ fuel (pp, ss, xs, 0) ⟨by simp only; omega, by simp only; omega, hp1, by simp only; omega, hl, hx⟩ (by have := fuel_ge; simp only; omega)
    rintro n ⟨pp, ss, xs, i⟩ ⟨i0, i1, q0, q1, ql, qx⟩
    simp only at i0 i1 q0 q1 ql qx ⊢
    rw [F_p_spec_l1Cur_state_L2]
    by_cases hi : i < k
    · rw [ite_t (decide_eq_true hi)]
      simp only [jn]
      rw [chk_pos (by omega)]
      have stay : ∀ pp', p ≤ pp' → pp' ≤ p + 56 + 2 * (i + 1) → ∀ ss' (b : Bool), (∃ s' : Int × Int × List Int × Int, (0 ≤ s'.2.2.2 ∧ s'.2.2.2 ≤ k ∧ p ≤ s'.1 ∧ s'.1 ≤ p + 56 + 2 * s'.2.2.2 ∧ s'.2.2.1.length = k.toNat ∧ ∀ x ∈ s'.2.2.1, -1 ≤ x ∧ x ≤ 4) ∧ (k - s'.2.2.2).toNat < (k - i).toNat ∧
          (bif b then chk (0 ≤ i ∧ i < ((List.length xs : Nat) : Int)) <| chk (I64 (i + (1 : Int))) <| F_p_spec_l1Cur_state_L2 m k (fun o500d o500e o500g o12b => some (o12b, m, o500d, o500e, o500g)) n bs pp' ss' (List.set xs (Int.toNat i) (-1 : Int)) (i + (1 : Int)) else chk (I64 (i + (1 : Int))) <| F_p_spec_l1Cur_state_L2 m k (fun o500d o500e o500g o12b => some (o12b, m, o500d, o500e, o500g)) n bs pp' ss' xs (i + (1 : Int))) = F_p_spec_l1Cur_state_L2 m k (fun o500d o500e o500g o12b => some (o12b, m, o500d, o500e, o500g)) n bs s'.1 s'.2.1 s'.2.2.1 s'.2.2.2) := by
        intro pp' r0 r1 ss' b
        cases b
        · rw [ite_f rfl, chk_pos (by unfold I64; omega)]
          exact ⟨(pp', ss', xs, i + 1), ⟨by simp only; omega, by simp only; omega, r0, r1, ql, qx⟩, by simp only; omega, rfl⟩
        · rw [ite_t rfl, chk_pos (by omega), chk_pos (by unfold I64; omega)]
          refine ⟨(pp', ss', List.set xs (Int.toNat i) (-1), i + 1), ⟨by simp only; omega, by simp only; omega, r0, r1, by simp only [List.length_set]; exact ql, fun x hx => ?_⟩, by simp only; omega, rfl⟩
          rcases List.mem_or_eq_of_mem_set hx with h | h
          · exact qx x h
          · subst h; omega
      rcases Bool.eq_false_or_eq_true (decide (List.getD xs (Int.toNat i) 0 > m)) with h4 | h4
      · rw [ite_t h4]
        obtain ⟨b, p4, s4, e4, w0, w1⟩ := one_ok (s := ss) (n := 30) hy (p := pp) (by omega) (by omega)
        rw [bnd4_eq e4]
        exact .inl (stay p4 (by omega) (by omega) s4 (!b))
      · rw [ite_f h4]
        exact .inl (stay pp (by omega) (by omega) ss false)
    · rw [ite_f (decide_eq_false hi)]
      exact .inr ⟨_, _, _, _, rfl, by omega, by omega, g2, g3, by omega, qx⟩
  refine loop_m (fun n (z : Int × Int × List Int × Int) => F_p_spec_l1Cur_state_L1 m k (fun o500 o500b o500c o12 => F_p_spec_l1Cur_state_L2 m k (fun o500d o500e o500g o12b => some (o12b, m, o500d, o500e, o500g)) fuel o500 o500b o500c o12 0) n bs z.1 z.2.1 z.2.2.1 z.2.2.2) (fun z => 0 ≤ z.2.2.2 ∧ z.2.2.2 ≤ k ∧ p ≤ z.1 ∧ z.1 ≤ p + 4 + 4 * z.2.2.2 ∧ z.2.2.1.length = z.2.2.2.toNat ∧ ∀ x ∈ z.2.2.1, -1 ≤ x ∧ x ≤ 4) (fun z => (k - z.2.2.2).toNat) Q ?_ fuel (p2, s2, [], 0) ⟨by simp, by simp only; omega, by simp only; omega, by simp only; omega, rfl, fun x hx => by simp at hx⟩ (by have := fuel_ge; simp only; omega)
  rintro n ⟨pp, ss, xs, i⟩ ⟨i0, i1, q0, q1, ql, qx⟩
  simp only at i0 i1 q0 q1 ql qx ⊢
  rw [F_p_spec_l1Cur_state_L1]
  by_cases hi : i < k
  · rw [ite_t (decide_eq_true hi), chk_pos (by unfold I64; omega)]
    have a2 := maxN_in (a := 1) (b := m + 2)
    obtain ⟨v, p4, s4, e4, w0, w1, w2, w3⟩ := pick_ok (s := ss) (n := maxN 1 (m + 2)) hy (p := pp) (by omega) (by omega)
    obtain ⟨v5, p5, s5, e5, y0, y1, y2, y3⟩ := pick_ok (s := s4) (n := 6) hy (p := p4) (by omega) (by omega)
    have hd := d5_in y2 (y3 (by omega))
    unfold d5 at hd
    have hv := w3 (by omega)
    rw [bnd4_eq e4, bnd4_eq e5, chk_pos (by unfold I64; omega), chk_pos (by unfold I64; omega), chk_pos ⟨by omega, by simp only [maxLen]; omega⟩, chk_pos (by unfold I64; omega)]
    refine .inl ⟨(p5, s5, xs ++ [v - Int.tdiv v5 5], i + 1), ⟨by simp only; omega, by simp only; omega, by simp only; omega, by simp only; omega, by simp only [List.length_append, List.length_cons, List.length_nil]; omega, fun x hx => ?_⟩, by simp only; omega, rfl⟩
    rcases List.mem_append.1 hx with h | h
    · exact qx x h
    · simp only [List.mem_cons, List.not_mem_nil, or_false] at h
      omega
  · rw [ite_f (decide_eq_false hi)]
    exact .inr (fin2 xs pp ss q0 (by omega) (by omega) qx)
theorem jn_is {γ δ : Type} {f : γ} {g : γ → Option δ} {r : Option δ} (k : γ → Option δ) (h : ∀ J, g J = k J) (h2 : k f = r) : jn f g = r := by
  unfold jn; rw [h f]; exact h2
/-- The numbers below k that p tells. -/
def fl (p : Nat → Bool) (k : Nat) : List Int := ((List.range k).filter p).map fun (i : Nat) => (i : Int)
theorem fl_yes {p : Nat → Bool} {k : Nat} (h : p k = true) : fl p (k + 1) = fl p k ++ [(k : Int)] := by
  unfold fl; rw [List.range_succ, List.filter_append, List.map_append, List.filter_cons, if_pos h]; rfl
theorem fl_no {p : Nat → Bool} {k : Nat} (h : p k = false) : fl p (k + 1) = fl p k := by
  unfold fl; rw [List.range_succ, List.filter_append, List.map_append, List.filter_cons, if_neg (by rw [h]; simp)]; simp
theorem fl_len (p : Nat → Bool) (k : Nat) : (fl p k).length ≤ k := by
  unfold fl; rw [List.length_map]; exact Nat.le_trans (List.length_filter_le _ _) (by simp)
theorem mem_fl {p : Nat → Bool} {k : Nat} {x : Int} : x ∈ fl p k ↔ ∃ i : Nat, i < k ∧ p i = true ∧ x = (i : Int) := by
  unfold fl
  simp only [List.mem_map, List.mem_filter, List.mem_range]
  constructor
  · rintro ⟨i, ⟨h1, h2⟩, rfl⟩; exact ⟨i, h1, h2, rfl⟩
  · rintro ⟨i, h1, h2, rfl⟩; exact ⟨i, ⟨h1, h2⟩, rfl⟩
theorem fl_getD {p : Nat → Bool} {k i : Nat} (h : i < (fl p k).length) : ∃ j : Nat, j < k ∧ p j = true ∧ (fl p k).getD i 0 = (j : Int) := by
  have : (fl p k).getD i 0 ∈ fl p k := getD_in (P := fun x => x ∈ fl p k) h fun x hx => hx
  obtain ⟨j, h1, h2, h3⟩ := mem_fl.1 this
  exact ⟨j, h1, h2, h3⟩
theorem openN_fl (xs : List Int) : openN xs = fl (fun i => decide (xs.getD i 0 ≥ 0)) xs.length := rfl
theorem int_nat {i : Int} (h : 0 ≤ i) : ∃ k : Nat, i = (k : Int) := ⟨i.toNat, by omega⟩
theorem sNewRoom_eq (xs : List Int) (m : Int) (hx : xs.length ≤ 1000) : F_spec_NewRoom xs m = some (nrL xs m, nrN xs m, nrM xs m, 0, isStateN xs m) := by
  unfold F_spec_NewRoom nrL nrN nrM
  rw [chk_pos (by omega)]
  rcases Bool.eq_false_or_eq_true (isStateN xs m) with h | h
  · have hl := (isStateN_len h).1
    rw [h, ite_f (by rfl), chk_pos hl, chk_pos (pad12_len hl), if_pos rfl, if_pos rfl, if_pos rfl]
  · rw [h]; rfl
theorem sDoTurn_eq {l : List Int} (hl : l.length = 12) (n m k c a b : Int) : F_spec_DoTurn l n m k c a b = some (dtL l n m k c a b, dtN l n m k c a b, dtM l n m k c a b, dtK l n m k c a b, dtB l n m k c a b) := by
  unfold F_spec_DoTurn
  rw [chk_pos hl, chk_pos hl]
  rcases Bool.eq_false_or_eq_true (isRoomN l n m k) with h | h
  · rw [h, ite_f (by rfl), chk_pos rfl, chk_pos dtL_len]
  · have hb : dtB l n m k c a b = false := by unfold dtB; rw [h]; rfl
    have hb' : ¬ dtB l n m k c a b = true := by rw [hb]; decide
    rw [h, ite_t (by rfl), hb]
    unfold dtL dtN dtM dtK
    rw [if_neg hb', if_neg hb', if_neg hb', if_neg hb']
    rfl
theorem sDoTurns_eq {l : List Int} (hl : l.length = 12) (n m k : Int) (ts : List Nd) (ht : ts.length ≤ 1000) : F_spec_DoTurns l n m k ts = some (dsL l n m k ts, dsN l n m k ts, dsM l n m k ts, dsK l n m k ts, ((dsC l n m k ts : Nat) : Int), dsB l n m k) := by
  unfold F_spec_DoTurns
  rw [chk_pos hl, chk_pos hl]
  rcases Bool.eq_false_or_eq_true (isRoomN l n m k) with h | h
  · have hb : dsB l n m k = true := h
    rw [h, ite_f (by rfl)]
    simp only [jn]
    unfold dsL dsN dsM dsK dsC
    rw [hb, if_pos rfl, if_pos rfl, if_pos rfl, if_pos rfl, if_pos rfl]
    let J : List Int → Int → Int → Int → Option (List Int × Int × Int × Int × Int × Bool) := fun o7 o7b o7c o7d => chk (List.length o7 = 12) <| some (o7, o7b, o7c, o7d, ((List.length ts : Nat) : Int), true)
    have key : ∀ (f : Nat) (g i : Nat), f < g → i + f = ts.length → (∀ j, j < i → rB l n m k ts j = true) → F_spec_DoTurns_L1 ts J g (rL l n m k ts i) (rN l n m k ts i) (rM l n m k ts i) (rK l n m k ts i) (i : Int) = some (rL l n m k ts (cntR (rB l n m k ts) f i), rN l n m k ts (cntR (rB l n m k ts) f i), rM l n m k ts (cntR (rB l n m k ts) f i), rK l n m k ts (cntR (rB l n m k ts) f i), ((cntR (rB l n m k ts) f i : Nat) : Int), true) := by
      intro f
      induction f with
      | zero =>
        intro g i hg hi hall
        obtain ⟨g, rfl⟩ : ∃ x, g = x + 1 := ⟨g - 1, by omega⟩
        have hli := rL_len (n := n) (m := m) (k := k) (ts := ts) hl i
        rw [F_spec_DoTurns_L1, chk_pos hli, ite_f (decide_eq_false (by omega))]
        show chk _ _ = _
        rw [chk_pos hli]
        have : ((ts.length : Nat) : Int) = (i : Int) := by omega
        rw [this]; rfl
      | succ f ih =>
        intro g i hg hi hall
        obtain ⟨g, rfl⟩ : ∃ x, g = x + 1 := ⟨g - 1, by omega⟩
        have hli := rL_len (n := n) (m := m) (k := k) (ts := ts) hl i
        rw [F_spec_DoTurns_L1, chk_pos hli, ite_t (decide_eq_true (by omega)), chk_pos ⟨by omega, by omega⟩, chk_pos hli, chk_pos (r_rooms h i hall), chk_pos dtL_len, Int.toNat_natCast]
        simp only [nam]
        show (bif !(rB l n m k ts i) then _ else _) = _
        rcases Bool.eq_false_or_eq_true (rB l n m k ts i) with hb | hb
        · rw [hb, ite_f (by rfl), chk_pos (by unfold I64; omega)]
          have e : cntR (rB l n m k ts) (f + 1) i = cntR (rB l n m k ts) f (i + 1) := by rw [cntR, if_pos hb]
          rw [e, ← ih g (i + 1) (by omega) (by omega) (fun j hj => by
            by_cases e2 : j = i
            · rw [e2]; exact hb
            · exact hall j (by omega))]
          rfl
        · have e : cntR (rB l n m k ts) (f + 1) i = i := by rw [cntR, if_neg (by rw [hb]; decide)]
          rw [hb, ite_t (by rfl), e]
    exact key ts.length fuel 0 (by have := fuel_ge; omega) (by omega) fun j hj => by omega
  · have hb : ¬ dsB l n m k = true := by show ¬ isRoomN l n m k = true; rw [h]; decide
    have hb2 : dsB l n m k = false := h
    rw [h, ite_t (by rfl)]
    unfold dsL dsN dsM dsK dsC
    rw [if_neg hb, if_neg hb, if_neg hb, if_neg hb, if_neg hb, hb2]
    rfl
theorem turn12_ok {bs : List Int} {p s n : Int} (hy : okY bs) (h0 : 0 ≤ p) (h1 : p ≤ 700000000000) : ∃ c a b p' s', F_p_spec_l1Cur_turn12 bs p s n = some (c, a, b, bs, p', s') ∧ p ≤ p' ∧ p' ≤ p + 20 := by
  unfold F_p_spec_l1Cur_turn12
  obtain ⟨r, p1, s1, e1, g0, g1, g2⟩ := among_ok (s := s) (p := p) (xs := [(1 : Int), (2 : Int), (1 : Int), (2 : Int), (3 : Int), (4 : Int), (5 : Int)]) hy h0 (by omega) (by decide)
  rw [bnd4_eq e1]
  simp only [jn]
  have fin : ∀ (pp ss x y : Int), p ≤ pp → pp ≤ p + 12 → ∃ c a b p' s', (bnd4 (F_p_spec_l1Cur_pick bs pp ss (40 : Int)) fun r35 r35b r35c r35d => (bif r35 == (0 : Int) then bnd4 (F_p_spec_l1Cur_among r35b r35c r35d [(-1 : Int), (1 : Int), (3 : Int)]) fun r40 r40b r40c r40d => some (r, x, r40, r40b, r40c, r40d) else (bif r35 == (1 : Int) then bnd4 (F_p_spec_l1Cur_among r35b r35c r35d [(0 : Int), (6 : Int), (-1 : Int)]) fun r46 r46b r46c r46d => some (r46, x, y, r46b, r46c, r46d) else some (r, x, y, r35b, r35c, r35d)))) = some (c, a, b, bs, p', s') ∧ p ≤ p' ∧ p' ≤ p + 20 := by
    intro pp ss x y q0 q1
    obtain ⟨w, p4, s4, e4, n0, n1, _⟩ := pick_ok (s := ss) (n := 40) hy (p := pp) (by omega) (by omega)
    rw [bnd4_eq e4]
    rcases Bool.eq_false_or_eq_true (w == (0 : Int)) with h | h
    · rw [ite_t h]
      obtain ⟨c, p5, s5, e5, k0, k1, _⟩ := among_ok (s := s4) (p := p4) (xs := [(-1 : Int), (1 : Int), (3 : Int)]) hy (by omega) (by omega) (by simp)
      rw [bnd4_eq e5]; exact ⟨_, _, _, _, _, rfl, by omega, by omega⟩
    · rw [ite_f h]
      rcases Bool.eq_false_or_eq_true (w == (1 : Int)) with h2 | h2
      · rw [ite_t h2]
        obtain ⟨c, p5, s5, e5, k0, k1, _⟩ := among_ok (s := s4) (p := p4) (xs := [(0 : Int), (6 : Int), (-1 : Int)]) hy (by omega) (by omega) (by simp)
        rw [bnd4_eq e5]; exact ⟨_, _, _, _, _, rfl, by omega, by omega⟩
      · rw [ite_f h2]; exact ⟨_, _, _, _, _, rfl, by omega, by omega⟩
  have ask : ∃ c a b p' s', (bnd4 (F_p_spec_l1Cur_question bs p1 s1 n) fun r17 r17b r17c r17d => bnd4 (F_p_spec_l1Cur_pick r17b r17c r17d (40 : Int)) fun r35 r35b r35c r35d => (bif r35 == (0 : Int) then bnd4 (F_p_spec_l1Cur_among r35b r35c r35d [(-1 : Int), (1 : Int), (3 : Int)]) fun r40 r40b r40c r40d => some (r, r17, r40, r40b, r40c, r40d) else (bif r35 == (1 : Int) then bnd4 (F_p_spec_l1Cur_among r35b r35c r35d [(0 : Int), (6 : Int), (-1 : Int)]) fun r46 r46b r46c r46d => some (r46, r17, (0 : Int), r46b, r46c, r46d) else some (r, r17, (0 : Int), r35b, r35c, r35d)))) = some (c, a, b, bs, p', s') ∧ p ≤ p' ∧ p' ≤ p + 20 := by
    obtain ⟨q, p2, s2, e2, k0, k1, _⟩ := question_ok (s := s1) (n := n) hy (p := p1) (by omega) (by omega)
    rw [bnd4_eq e2]
    exact fin _ _ _ _ (by omega) (by omega)
  rcases Bool.eq_false_or_eq_true (r == (1 : Int)) with h | h
  · rw [ite_t h, ite_t h]; exact ask
  · rw [ite_f h]
    rcases Bool.eq_false_or_eq_true (r == (2 : Int)) with h2 | h2
    · rw [ite_t h2]; exact ask
    · rw [ite_f h2]
      rcases Bool.eq_false_or_eq_true (r == (3 : Int)) with h3 | h3
      · rw [ite_t h3]
        obtain ⟨q, p2, s2, e2, k0, k1, _⟩ := pick_ok (s := s1) (n := maxN 1 n) hy (p := p1) (by omega) (by omega)
        rw [bnd4_eq e2]
        exact fin _ _ _ _ (by omega) (by omega)
      · rw [ite_f h3]
        rcases Bool.eq_false_or_eq_true (r == (5 : Int)) with h5 | h5
        · rw [ite_t h5]
          obtain ⟨q, p2, s2, e2, k0, k1, _⟩ := many_ok (s := s1) hy (p := p1) (by omega) (by omega)
          obtain ⟨v, p3, s3, e3, m0, m1, _⟩ := lies_ok (s := s2) hy (p := p2) (by omega) (by omega)
          rw [bnd4_eq e2, bnd4_eq e3]
          exact fin _ _ _ _ (by omega) (by omega)
        · rw [ite_f h5]
          exact fin _ _ _ _ (by omega) (by omega)
theorem room_ok {bs : List Int} {p s : Int} (hy : okY bs) (h0 : 0 ≤ p) (h1 : p ≤ 600000000000) : ∃ l n m k p' s', F_p_spec_l1Cur_room bs p s = some (l, n, m, k, bs, p', s') ∧ p ≤ p' ∧ p' ≤ p + 1000 ∧ l.length = 12 := by
  unfold F_p_spec_l1Cur_room
  obtain ⟨xs, m, p1, s1, e1, g0, g1, g2, g3, g4, g5⟩ := state_ok (s := s) (p := p) hy h0 (by omega)
  rw [bnd5_eq e1, bnd5_eq (sNewRoom_eq xs m (by omega)), chk_pos (nrL_len xs m)]
  simp only [jn]
  obtain ⟨k, p2, s2, e2, k0, k1, k2, k3⟩ := pick_ok (s := s1) (n := 5) hy (p := p1) (by omega) (by omega)
  have k3 := k3 (by omega)
  rw [bnd4_eq e2]
  let Q : Option (List Int × Int × Int × Int × List Int × Int × Int) → Prop := fun o => ∃ l n m k p' s', o = some (l, n, m, k, bs, p', s') ∧ p ≤ p' ∧ p' ≤ p + 1000 ∧ l.length = 12
  have key : ∀ J : List Int → Int → Int → List Int → Int → Int → Int → Option (List Int × Int × Int × Int × List Int × Int × Int), (∀ pp ss l n m k, p ≤ pp → pp ≤ p + 300 → l.length = 12 → Q (J bs pp ss l n m k)) → Q (F_p_spec_l1Cur_room_L1 (isStateN xs m) J fuel bs p2 s2 (nrL xs m) (nrN xs m) (nrM xs m) 0 k) := by
    intro J hJ
    refine loop_m (fun g (z : Int × Int × List Int × Int × Int × Int × Int) => F_p_spec_l1Cur_room_L1 (isStateN xs m) J g bs z.1 z.2.1 z.2.2.1 z.2.2.2.1 z.2.2.2.2.1 z.2.2.2.2.2.1 z.2.2.2.2.2.2) (fun z => z.2.2.2.2.2.2 ≤ k ∧ 0 ≤ z.2.2.2.2.2.2 ∧ p ≤ z.1 ∧ z.1 ≤ p + 120 + 20 * (k - z.2.2.2.2.2.2) ∧ z.2.2.1.length = 12 ∧ (isStateN xs m = true → isRoomN z.2.2.1 z.2.2.2.1 z.2.2.2.2.1 z.2.2.2.2.2.1 = true)) (fun z => z.2.2.2.2.2.2.toNat) Q ?_ fuel (p2, s2, nrL xs m, nrN xs m, nrM xs m, 0, k) ⟨by simp only; omega, by simp only; omega, by simp only; omega, by simp only; omega, nrL_len xs m, fun h => nr_room h⟩ (by have := fuel_ge; simp only; omega)
    rintro g ⟨pp, ss, l, n, m', k', i⟩ ⟨i0, i1, q0, q1, ql, hr⟩
    simp only at i0 i1 q0 q1 ql hr ⊢
    rw [F_p_spec_l1Cur_room_L1, chk_pos ql]
    simp only [jn]
    by_cases hi : i > 0
    · rw [ite_t (decide_eq_true hi)]
      rcases Bool.eq_false_or_eq_true (isStateN xs m) with h | h
      · obtain ⟨c, a, b, p4, s4, e4, w0, w1⟩ := turn12_ok (s := ss) (n := n) hy (p := pp) (by omega) (by omega)
        have hr := hr h
        rw [ite_t h, bnd6_eq e4, chk_pos ql, chk_pos hr, chk_pos dtL_len]
        left
        rcases Bool.eq_false_or_eq_true (dtB l n m' k' c a b) with hb | hb
        · rw [ite_t hb, chk_pos (by unfold I64; omega)]
          exact ⟨(p4, s4, dtL l n m' k' c a b, dtN l n m' k' c a b, dtM l n m' k' c a b, dtK l n m' k' c a b, i - 1), ⟨by simp only; omega, by simp only; omega, by simp only; omega, by simp only; omega, dtL_len, fun _ => dt_room hb⟩, by simp only; omega, rfl⟩
        · rw [ite_f hb, chk_pos (by unfold I64; omega)]
          exact ⟨(p4, s4, l, n, m', k', i - 1), ⟨by simp only; omega, by simp only; omega, by simp only; omega, by simp only; omega, ql, fun _ => hr⟩, by simp only; omega, rfl⟩
      · rw [ite_f h]
        exact .inr (hJ pp ss l n m' k' q0 (by omega) ql)
    · rw [ite_f (decide_eq_false hi), ite_f rfl]
      exact .inr (hJ pp ss l n m' k' q0 (by omega) ql)
  refine key _ fun pp ss l n m' k' q0 q1 ql => ?_
  obtain ⟨w, p4, s4, e4, n0, n1, _⟩ := pick_ok (s := ss) (n := 48) hy (p := pp) (by omega) (by omega)
  rw [chk_pos ql, bnd4_eq e4]
  rcases Bool.eq_false_or_eq_true (w == (0 : Int)) with h | h
  · rw [ite_t h]
    obtain ⟨c, p5, s5, e5, k0, k1, _⟩ := among_ok (s := s4) (p := p4) (xs := [(-1 : Int), (1000 : Int), (1001 : Int)]) hy (by omega) (by omega) (by simp)
    rw [bnd4_eq e5, chk_pos ql]; exact ⟨_, _, _, _, _, _, rfl, by omega, by omega, ql⟩
  · rw [ite_f h]
    rcases Bool.eq_false_or_eq_true (w == (1 : Int)) with h2 | h2
    · rw [ite_t h2]
      obtain ⟨c, p5, s5, e5, k0, k1, _⟩ := among_ok (s := s4) (p := p4) (xs := [(1 : Int), (-1 : Int), (0 : Int)]) hy (by omega) (by omega) (by simp)
      have ql2 : (List.set l 11 c).length = 12 := by rw [List.length_set]; exact ql
      rw [bnd4_eq e5, chk_pos ql2]; exact ⟨_, _, _, _, _, _, rfl, by omega, by omega, ql2⟩
    · rw [ite_f h2]
      rcases Bool.eq_false_or_eq_true (w == (2 : Int)) with h3 | h3
      · rw [ite_t h3]
        obtain ⟨c, p5, s5, e5, k0, k1, _⟩ := among_ok (s := s4) (p := p4) (xs := [(0 : Int), (13 : Int), (12 : Int), (1 : Int)]) hy (by omega) (by omega) (by simp)
        rw [bnd4_eq e5, chk_pos ql]; exact ⟨_, _, _, _, _, _, rfl, by omega, by omega, ql⟩
      · rw [ite_f h3, chk_pos ql]; exact ⟨_, _, _, _, _, _, rfl, by omega, by omega, ql⟩
theorem drawNewRoom_ok {bs : List Int} (hy : okY bs) : ∃ xs m, F_spec_DrawNewRoom bs = some (xs, m) ∧ xs.length ≤ 13 := by
  unfold F_spec_DrawNewRoom F_spec_DrawBoundOf
  obtain ⟨xs, m, p', s', e, h1, h2, h3, h4, h5, h6⟩ := state_ok (s := 0) (p := 0) hy (by omega) (by omega)
  rw [bnd5_eq e]
  exact ⟨_, _, rfl, h5⟩
theorem drawDoTurn_ok {bs : List Int} (hy : okY bs) : ∃ l n m k c a b, F_spec_DrawDoTurn bs = some (l, n, m, k, c, a, b) ∧ l.length = 12 := by
  unfold F_spec_DrawDoTurn
  obtain ⟨l, n, m, k, p1, s1, e1, g0, g1, g2⟩ := room_ok (s := 0) (p := 0) hy (by omega) (by omega)
  obtain ⟨c, a, b, p4, s4, e4, w0, w1⟩ := turn12_ok (s := s1) (n := n) hy (p := p1) (by omega) (by omega)
  rw [bnd7_eq e1, chk_pos g2, bnd6_eq e4]
  exact ⟨_, _, _, _, _, _, _, rfl, g2⟩
theorem drawDoTurns_ok {bs : List Int} (hy : okY bs) : ∃ l n m k ts, F_spec_DrawDoTurns bs = some (l, n, m, k, ts) ∧ l.length = 12 ∧ ts.length ≤ 100 := by
  unfold F_spec_DrawDoTurns
  obtain ⟨l, n, m, k, p1, s1, e1, g0, g1, g2⟩ := room_ok (s := 0) (p := 0) hy (by omega) (by omega)
  obtain ⟨c, p2, s2, e2, k0, k1, k2, k3⟩ := pick_ok (s := s1) (n := 6) hy (p := p1) (by omega) (by omega)
  have k3 := k3 (by omega)
  rw [bnd7_eq e1, chk_pos g2]
  simp only [jn]
  rw [bnd4_eq e2]
  refine loop_m (fun g (z : Int × Int × List Nd × Int) => F_spec_DrawDoTurns_L1 n (fun o13 => some (l, n, m, k, o13)) g bs z.1 z.2.1 z.2.2.1 z.2.2.2) (fun z => 0 ≤ z.2.2.2 ∧ z.2.2.2 ≤ c ∧ 0 ≤ z.1 ∧ z.1 ≤ 2000 + 20 * (c - z.2.2.2) ∧ (z.2.2.1.length : Int) = c - z.2.2.2) (fun z => z.2.2.2.toNat) (fun o => ∃ l n m k ts, o = some (l, n, m, k, ts) ∧ l.length = 12 ∧ ts.length ≤ 100) ?_ fuel (p2, s2, [], c) ⟨by simp only; omega, by simp only; omega, by simp only; omega, by simp only; omega, by simp⟩ (by have := fuel_ge; simp only; omega)
  rintro g ⟨pp, ss, zs, i⟩ ⟨i0, i1, q0, q1, ql⟩
  simp only at i0 i1 q0 q1 ql ⊢
  rw [F_spec_DrawDoTurns_L1]
  by_cases hi : i > 0
  · obtain ⟨c', a, b, p4, s4, e4, w0, w1⟩ := turn12_ok (s := ss) (n := n) hy (p := pp) (by omega) (by omega)
    rw [ite_t (decide_eq_true hi), bnd6_eq e4, chk_pos ⟨by omega, by unfold maxLen; omega⟩, chk_pos (by unfold I64; omega)]
    exact .inl ⟨(p4, s4, zs ++ [(c', a, b)], i - 1), ⟨by simp only; omega, by simp only; omega, by simp only; omega, by simp only; omega, by simp only [List.length_append, List.length_cons, List.length_nil]; omega⟩, by simp only; omega, rfl⟩
  · rw [ite_f (decide_eq_false hi)]
    exact .inr ⟨_, _, _, _, _, rfl, g2, by omega⟩
theorem law_rooms {bs : List Int} (hy : okY bs) (hb : bs.length ≤ 9223372036854775807) : F_laws_FnRooms bs = some true := by
  unfold F_laws_FnRooms
  rw [chk_pos hb]
  rcases Bool.eq_false_or_eq_true (decide (((List.length bs : Nat) : Int) > (65536 : Int))) with hB | hB
  · rw [ite_t hB]
  rw [ite_f hB]
  have hB := of_decide_eq_false hB
  have hy1 := okY_cut (k := 1) hy (by omega) (by omega)
  have hy2 := okY_cut (k := 2) hy (by omega) (by omega)
  obtain ⟨xs, m0, e1, hx⟩ := drawNewRoom_ok hy
  obtain ⟨l, n, m, k, c, a, b, e2, hl⟩ := drawDoTurn_ok hy1
  obtain ⟨l3, n3, m3, k3, ts, e3, hl3, ht⟩ := drawDoTurns_ok hy2
  have hds : (dsL l3 n3 m3 k3 ts).length = 12 := by
    unfold dsL
    by_cases h : dsB l3 n3 m3 k3 = true
    · rw [if_pos h]; exact rL_len hl3 _
    · rw [if_neg h]; simp
  have hsl : (sorL l n m k).length ≤ 12 := by
    unfold sorL
    by_cases h : isRoomN l n m k = true
    · rw [if_pos h, List.length_take]; omega
    · rw [if_neg h]; exact Nat.zero_le _
  rw [bnd2_eq e1, chk_pos (by omega), chk_pos (nrL_len _ _), bnd5_eq (sNewRoom_eq xs m0 (by omega)), chk_pos (nrL_len _ _), chk_pos (by omega), bnd7_eq e2, chk_pos hl, chk_pos hl, chk_pos dtL_len, bnd5_eq (sDoTurn_eq hl n m k c a b), chk_pos dtL_len,
    bnd5_eq e3, chk_pos hl3, chk_pos hl3, chk_pos (by omega), chk_pos hds, bnd6_eq (sDoTurns_eq hl3 n3 m3 k3 ts (by omega)), chk_pos hds]
  refine jn_is (fun J => J false) (fun J => ?_) ?_
  · rw [chk_pos rfl, ite_f (by simp), chk_pos rfl, ite_f (by simp), chk_pos rfl, ite_f (by simp), ite_f (by simp), chk_pos (by omega)]
  rw [ite_f rfl]
  refine jn_is (fun J => J ()) (fun J => ?_) ?_
  · rcases Bool.eq_false_or_eq_true (isStateN xs m0) with h | h
    · rw [ite_t h, chk_pos (nrL_len _ _)]
      refine jn_is (fun J => J false) (fun J => ?_) (ite_f rfl _ _)
      obtain ⟨s1, s2⟩ := sor_nr h
      rw [nr_room h, ite_f (by rfl), s1, s2, chk_pos (by omega)]
      simp only [nam, beq_self_eq_true, Bool.and_self, Bool.not_true, cond_false]
    · rw [ite_f h]
  · refine jn_is (fun J => J false) (fun J => ?_) ?_
    · rcases Bool.eq_false_or_eq_true (dsB l3 n3 m3 k3) with h | h
      · rw [ite_t h, chk_pos hds, ds_room h]; rfl
      · rw [ite_f h]
    · rw [ite_f rfl]
      rcases Bool.eq_false_or_eq_true (dtB l n m k c a b) with h | h
      · rw [h, ite_f (by rfl), chk_pos dtL_len]
        obtain ⟨b1, b2⟩ := dt_bounds h
        refine jn_is (fun J => J false) (fun J => ?_) ?_
        · rw [dt_room h, (dt_told h).2.2.2]
          simp only [nam]
          rw [ite_f (by rfl), chk_pos (by unfold I64; omega), bne_self_eq_false]
        · rw [ite_f rfl]
          rcases Bool.eq_false_or_eq_true (c == (5 : Int)) with h5 | h5
          · rw [ite_t h5]
          · rw [ite_f h5]
            have hc5 : ¬ c = 5 := by rw [beq_eq_false_iff_ne] at h5; exact h5
            refine jn_is (fun J => J ()) (fun J => ?_) ?_
            · have hlen := dt_len2 h hc5
              refine loop_up (fun g i (s : Unit) => F_laws_FnRooms_L1 l n m k c a b J g i) ((List.length (sorL (dtL l n m k c a b) (dtN l n m k c a b) (dtM l n m k c a b) (dtK l n m k c a b)) : Nat) : Int) (fun _ => ()) (J ()) ?_ ?_ (by omega) fuel (by have := fuel_ge; omega)
              · intro g i i0 i1
                obtain ⟨j, rfl⟩ := int_nat i0
                rw [F_laws_FnRooms_L1]
                simp only [nam]
                rw [ite_t (decide_eq_true i1)]
                refine jn_is (fun J => J false) (fun J => ?_) (by rw [ite_f rfl, chk_pos (by unfold I64; omega)])
                rw [chk_pos ⟨i0, i1⟩, Int.toNat_natCast]
                by_cases h0 : (sorL (dtL l n m k c a b) (dtN l n m k c a b) (dtM l n m k c a b) (dtK l n m k c a b)).getD j 0 ≥ 0
                · rw [ite_t (decide_eq_true h0), chk_pos ⟨i0, by omega⟩, decide_eq_false (dt_out h hc5 (by omega) h0)]
                · rw [ite_f (decide_eq_false h0)]
              · intro g
                rw [F_laws_FnRooms_L1]
                simp only [nam]
                rw [ite_f (decide_eq_false (by omega))]
            · by_cases hc : c = 1 ∨ c = 2
              · obtain ⟨g1, g2, g3, g4, g5, g6⟩ := dt_mirror h hc
                refine jn_is (fun J => J false) (fun J => ?_) ?_
                · rcases hc with hc | hc
                  · rw [hc]; rfl
                  · rw [hc]; rfl
                · rw [ite_f rfl, chk_pos (by unfold I64; omega), chk_pos dtL_len, ite_t g1, ite_t g2, g3, g4, g5, g6, chk_pos rfl]
              · refine jn_is (fun J => J true) (fun J => ?_) (ite_t rfl _ _)
                rw [ite_t (by rw [bne_iff_ne]; omega), bne_iff_ne.2 (show c ≠ 2 by omega)]
      · rw [h]; rfl
end Go.Tl
