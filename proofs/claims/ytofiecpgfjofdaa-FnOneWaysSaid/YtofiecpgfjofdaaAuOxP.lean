/-
  Plain laws of the printed functions: no program here.
-/
import Derived.Test.YtofiecpgfjofdaaAuOxF
namespace Go.Tl
set_option linter.unusedVariables false
set_option linter.unusedSimpArgs false
/-- A loop, told by what its rounds keep. -/
theorem loop_m {σ R : Type} (L : Nat → σ → Option R) (I : σ → Prop) (μ : σ → Nat) (Q : Option R → Prop)
    (step : ∀ n s, I s → (∃ s', I s' ∧ μ s' < μ s ∧ L (n + 1) s = L n s') ∨ Q (L (n + 1) s)) : ∀ n s, I s → μ s < n → Q (L n s) := by
  intro n
  induction n with
  | zero => intro s _ h; omega
  | succ n ih =>
    intro s hI hm
    rcases step n s hI with ⟨s', h1, h2, h3⟩ | h
    · rw [h3]; exact ih s' h1 (by omega)
    · exact h
/-- A loop that counts up to N; st is its state by the count. -/
theorem loop_up {σ R : Type} (L : Nat → Int → σ → Option R) (N : Int) (st : Int → σ) (r : Option R)
    (step : ∀ n i, 0 ≤ i → i < N → L (n + 1) i (st i) = L n (i + 1) (st (i + 1))) (fin : ∀ n, L (n + 1) N (st N) = r) (h0 : 0 ≤ N) (n : Nat) (hn : N.toNat < n) : L n 0 (st 0) = r := by
  have key : ∀ (k : Nat) (n : Nat) (i : Int), 0 ≤ i → i + k = N → k < n → L n i (st i) = r := by
    intro k
    induction k with
    | zero => intro n i h1 h2 h3; obtain ⟨n, rfl⟩ : ∃ m, n = m + 1 := ⟨n - 1, by omega⟩; have e : i = N := by omega
              subst e; exact fin n
    | succ k ih =>
      intro n i h1 h2 h3
      obtain ⟨n, rfl⟩ : ∃ m, n = m + 1 := ⟨n - 1, by omega⟩
      rw [step n i h1 (by omega)]
      exact ih n (i + 1) (by omega) (by omega) (by omega)
  exact key N.toNat n 0 (Int.le_refl _) (by omega) hn
/-- A loop that counts up to N and may end early: with what p tells. -/
theorem loop_all {R : Type} (L : Nat → Int → Option R) (N : Int) (p : Int → Bool) (no yes : Option R)
    (step : ∀ n i, 0 ≤ i → i < N → p i = true → L (n + 1) i = L n (i + 1)) (stop : ∀ n i, 0 ≤ i → i < N → p i = false → L (n + 1) i = no) (fin : ∀ n, L (n + 1) N = yes) (h0 : 0 ≤ N) (n : Nat) (hn : N.toNat < n) :
    (L n 0 = yes ∧ ∀ i, 0 ≤ i → i < N → p i = true) ∨ (L n 0 = no ∧ ∃ i, 0 ≤ i ∧ i < N ∧ p i = false ∧ ∀ j, 0 ≤ j → j < i → p j = true) := by
  have key : ∀ (k : Nat) (n : Nat) (i : Int), 0 ≤ i → i + k = N → k < n → (∀ j, 0 ≤ j → j < i → p j = true) → (L n i = yes ∧ ∀ i, 0 ≤ i → i < N → p i = true) ∨ (L n i = no ∧ ∃ i, 0 ≤ i ∧ i < N ∧ p i = false ∧ ∀ j, 0 ≤ j → j < i → p j = true) := by
    intro k
    induction k with
    | zero => intro n i h1 h2 h3 h4; obtain ⟨n, rfl⟩ : ∃ m, n = m + 1 := ⟨n - 1, by omega⟩; have e : i = N := by omega
              subst e; exact .inl ⟨fin n, h4⟩
    | succ k ih =>
      intro n i h1 h2 h3 h4
      obtain ⟨n, rfl⟩ : ∃ m, n = m + 1 := ⟨n - 1, by omega⟩
      cases hp : p i with
      | false => exact .inr ⟨stop n i h1 (by omega) hp, i, h1, by omega, hp, h4⟩
      | true =>
        rw [step n i h1 (by omega) hp]
        refine ih n (i + 1) (by omega) (by omega) (by omega) fun j k1 k2 => ?_
        by_cases e : j = i
        · rw [e]; exact hp
        · exact h4 j k1 (by omega)
  exact key N.toNat n 0 (Int.le_refl _) (by omega) hn fun j h1 h2 => by omega
theorem ite_t {α : Type} {c : Bool} (h : c = true) (x y : α) : (bif c then x else y) = x := by rw [h]; rfl
theorem ite_f {α : Type} {c : Bool} (h : c = false) (x y : α) : (bif c then x else y) = y := by rw [h]; rfl
theorem ite_c {α : Type} {P : α → Prop} {c : Bool} {x y : α} (h1 : c = true → P x) (h2 : c = false → P y) : P (bif c then x else y) := by
  cases c
  · exact h2 rfl
  · exact h1 rfl
theorem getD_in {xs : List Int} {i : Nat} {P : Int → Prop} (h : i < xs.length) (hP : ∀ x ∈ xs, P x) : P (xs.getD i 0) := by
  rw [List.getD_eq_getElem?_getD, List.getElem?_eq_getElem h]; exact hP _ (List.getElem_mem h)
theorem maxN_in {a b : Int} : a ≤ maxN a b ∧ b ≤ maxN a b ∧ (maxN a b = a ∨ maxN a b = b) := by unfold maxN; split <;> omega
theorem minN_in {a b : Int} : minN a b ≤ a ∧ minN a b ≤ b ∧ (minN a b = a ∨ minN a b = b) := by unfold minN; split <;> omega
theorem next_ok {bs : List Int} {p s : Int} (hy : okY bs) (h0 : 0 ≤ p) (h1 : p ≤ 1000000000000) : ∃ v s', F_p_spec_l1Cur_next bs p s = some (v, bs, p + 1, s') ∧ 0 ≤ v ∧ v ≤ 255 := by
  unfold F_p_spec_l1Cur_next
  have hb := hy p.toNat
  have fin : ∀ v3 : Int, 0 ≤ v3 → v3 ≤ 255 → ∃ v s', (chk (I64 (p + (1 : Int))) <| nam (IntKind.wrap .u64 (s * (6364136223846793005 : Int))) fun n37 => nam (IntKind.wrap .u64 (n37 + (IntKind.wrap .u64 v3))) fun n40 => (bif (decide ((p + (1 : Int)) ≤ ((List.length bs : Nat) : Int))) then some (v3, bs, (p + (1 : Int)), (IntKind.wrap .u64 (n40 + (462197 : Int)))) else nam (bits .and .u64 ((IntKind.wrap .u64 (n40 + (462197 : Int))) / 2 ^ Int.toNat (40 : Int)) (255 : Int)) fun n60 => chk (I64 n60) <| some (n60, bs, (p + (1 : Int)), (IntKind.wrap .u64 (n40 + (462197 : Int)))))) = some (v, bs, p + 1, s') ∧ 0 ≤ v ∧ v ≤ 255 := by
    intro v3 k0 k1
    rw [chk_pos (by unfold I64; omega)]
    simp only [nam]
    refine ite_c (P := fun o => ∃ v s', o = some (v, bs, p + 1, s') ∧ 0 ≤ v ∧ v ≤ 255) (fun _ => ?_) (fun _ => ?_)
    · exact ⟨_, _, rfl, k0, k1⟩
    · have h2 := and255 ((IntKind.wrap .u64 ((IntKind.wrap .u64 ((IntKind.wrap .u64 (s * (6364136223846793005 : Int))) + (IntKind.wrap .u64 v3))) + (462197 : Int))) / 2 ^ Int.toNat (40 : Int))
      rw [chk_pos (by unfold I64; omega)]
      exact ⟨_, _, rfl, h2.1, h2.2⟩
  simp only [jn]
  refine ite_c (P := fun o => ∃ v s', o = some (v, bs, p + 1, s') ∧ 0 ≤ v ∧ v ≤ 255) (fun h => ?_) (fun _ => ?_)
  · have h := of_decide_eq_true h
    rw [chk_pos (by omega), chk_pos (by unfold I64; omega)]
    exact fin _ hb.1 hb.2
  · exact fin 0 (by omega) (by omega)
theorem tmod_in {a n : Int} (h0 : 0 ≤ a) (h1 : 0 < n) : 0 ≤ Int.tmod a n ∧ Int.tmod a n < n := ⟨Int.tmod_nonneg _ h0, Int.tmod_lt_of_pos _ h1⟩
theorem pick_ok {bs : List Int} {p s n : Int} (hy : okY bs) (h0 : 0 ≤ p) (h1 : p ≤ 900000000000) : ∃ v p' s', F_p_spec_l1Cur_pick bs p s n = some (v, bs, p', s') ∧ p ≤ p' ∧ p' ≤ p + 2 ∧ 0 ≤ v ∧ (1 ≤ n → v < n) := by
  unfold F_p_spec_l1Cur_pick
  rcases Bool.eq_false_or_eq_true (decide (n ≤ (1 : Int))) with h | h
  · have h := of_decide_eq_true h
    rw [ite_t (decide_eq_true h)]
    exact ⟨0, p, s, rfl, by omega, by omega, by omega, fun _ => by omega⟩
  · rw [ite_f h]
    have h := of_decide_eq_false h
    obtain ⟨v, s', e, g0, g1⟩ := next_ok (s := s) hy h0 (by omega)
    rw [bnd4_eq e]
    simp only [jn]
    rcases Bool.eq_false_or_eq_true (decide (n > (200 : Int))) with h4 | h4
    · rw [ite_t h4]
      obtain ⟨v2, s2, e2, k0, k1⟩ := next_ok (s := s') hy (p := p + 1) (by omega) (by omega)
      rw [chk_pos (by unfold I64; omega), bnd4_eq e2, chk_pos (by unfold I64; omega), chk_pos (by omega)]
      have := tmod_in (a := v * 256 + v2) (n := n) (by omega) (by omega)
      exact ⟨_, _, _, rfl, by omega, by omega, this.1, fun _ => this.2⟩
    · rw [ite_f h4]
      rw [chk_pos (by omega)]
      have := tmod_in (a := v) (n := n) (by omega) (by omega)
      exact ⟨_, _, _, rfl, by omega, by omega, this.1, fun _ => this.2⟩
theorem one_ok {bs : List Int} {p s n : Int} (hy : okY bs) (h0 : 0 ≤ p) (h1 : p ≤ 900000000000) : ∃ b p' s', F_p_spec_l1Cur_one bs p s n = some (b, bs, p', s') ∧ p ≤ p' ∧ p' ≤ p + 2 := by
  unfold F_p_spec_l1Cur_one
  obtain ⟨v, p', s', e, g0, g1, g2, g3⟩ := pick_ok (s := s) (n := n) hy h0 h1
  rw [bnd4_eq e]
  exact ⟨_, _, _, rfl, g0, g1⟩
theorem among_ok {bs : List Int} {p s : Int} {xs : List Int} (hy : okY bs) (h0 : 0 ≤ p) (h1 : p ≤ 900000000000) (hx : 0 < xs.length) : ∃ v p' s', F_p_spec_l1Cur_among bs p s xs = some (v, bs, p', s') ∧ p ≤ p' ∧ p' ≤ p + 2 ∧ v ∈ xs := by
  unfold F_p_spec_l1Cur_among
  obtain ⟨v, p', s', e, g0, g1, g2, g3⟩ := pick_ok (s := s) (n := ((List.length xs : Nat) : Int)) hy h0 h1
  rw [bnd4_eq e, chk_pos ⟨g2, g3 (by omega)⟩]
  refine ⟨_, _, _, rfl, g0, g1, ?_⟩
  have := g3 (by omega)
  exact getD_in (P := fun x => x ∈ xs) (by omega) fun x hx => hx
theorem many_ok {bs : List Int} {p s : Int} (hy : okY bs) (h0 : 0 ≤ p) (h1 : p ≤ 900000000000) : ∃ v p' s', F_p_spec_l1Cur_many bs p s = some (v, bs, p', s') ∧ p ≤ p' ∧ p' ≤ p + 2 ∧ 0 ≤ v ∧ v ≤ 13 := by
  unfold F_p_spec_l1Cur_many
  obtain ⟨v, p', s', e, g0, g1, g2⟩ := among_ok (s := s) (xs := [(4 : Int), (6 : Int), (8 : Int), (3 : Int), (5 : Int), (2 : Int), (7 : Int), (12 : Int), (1 : Int), (0 : Int), (13 : Int), (4 : Int), (6 : Int), (8 : Int), (3 : Int), (5 : Int)]) hy h0 h1 (by decide)
  rw [bnd4_eq e]
  refine ⟨_, _, _, rfl, g0, g1, ?_⟩
  simp only [List.mem_cons, List.not_mem_nil, or_false] at g2
  omega
theorem lies_ok {bs : List Int} {p s : Int} (hy : okY bs) (h0 : 0 ≤ p) (h1 : p ≤ 900000000000) : ∃ v p' s', F_p_spec_l1Cur_lies bs p s = some (v, bs, p', s') ∧ p ≤ p' ∧ p' ≤ p + 2 ∧ -1 ≤ v ∧ v ≤ 3 := by
  unfold F_p_spec_l1Cur_lies
  obtain ⟨v, p', s', e, g0, g1, g2⟩ := among_ok (s := s) (xs := [(1 : Int), (1 : Int), (2 : Int), (0 : Int), (1 : Int), (2 : Int), (1 : Int), (3 : Int), (-1 : Int), (1 : Int), (2 : Int), (0 : Int)]) hy h0 h1 (by decide)
  rw [bnd4_eq e]
  refine ⟨_, _, _, rfl, g0, g1, ?_⟩
  simp only [List.mem_cons, List.not_mem_nil, or_false] at g2
  omega
theorem pow13 {n : Int} (h0 : 0 ≤ n) (h1 : n ≤ 13) : 1 ≤ (2 : Int) ^ n.toNat ∧ (2 : Int) ^ n.toNat ≤ 8192 := by
  obtain ⟨k, rfl⟩ : ∃ k : Nat, n = k := ⟨n.toNat, by omega⟩
  have : k ≤ 13 := by omega
  simp only [Int.toNat_natCast]
  match k, this with
  | 0, _ | 1, _ | 2, _ | 3, _ | 4, _ | 5, _ | 6, _ | 7, _ | 8, _ | 9, _ | 10, _ | 11, _ | 12, _ | 13, _ => decide
theorem question_ok {bs : List Int} {p s n : Int} (hy : okY bs) (h0 : 0 ≤ p) (h1 : p ≤ 800000000000) : ∃ v p' s', F_p_spec_l1Cur_question bs p s n = some (v, bs, p', s') ∧ p ≤ p' ∧ p' ≤ p + 4 ∧ -1 ≤ v ∧ v ≤ 4611686018427387904 := by
  unfold F_p_spec_l1Cur_question
  obtain ⟨v, p', s', e, g0, g1⟩ := one_ok (s := s) (n := 24) hy h0 (by omega)
  rw [bnd4_eq e]
  have a1 := minN_in (a := n) (b := 13)
  have a2 := maxN_in (a := 0) (b := minN n 13)
  have a3 := minN_in (a := n) (b := 12)
  have a4 := maxN_in (a := 0) (b := minN n 12)
  have b1 := pow13 (n := maxN 0 (minN n 13)) (by omega) (by omega)
  have b2 := pow13 (n := maxN 0 (minN n 12)) (by omega) (by omega)
  rcases Bool.eq_false_or_eq_true v with h4 | h4
  · rw [ite_t h4]
    rw [chk_pos ⟨by omega, by omega, by unfold I64; omega⟩]
    obtain ⟨v2, p2, s2, e2, k0, k1, k2⟩ := among_ok (s := s') (xs := [(-1 : Int), ((1 : Int) * 2 ^ Int.toNat (maxN (0 : Int) (minN n (13 : Int)))), (4611686018427387904 : Int)]) hy (p := p') (by omega) (by omega) (by simp)
    rw [bnd4_eq e2]
    refine ⟨_, _, _, rfl, by omega, by omega, ?_⟩
    simp only [List.mem_cons, List.not_mem_nil, or_false] at k2
    omega
  · rw [ite_f h4]
    rw [chk_pos ⟨by omega, by omega, by unfold I64; omega⟩]
    obtain ⟨v2, p2, s2, e2, k0, k1, k2, k3⟩ := pick_ok (s := s') (n := (1 : Int) * 2 ^ Int.toNat (maxN (0 : Int) (minN n (12 : Int)))) hy (p := p') (by omega) (by omega)
    rw [bnd4_eq e2]
    have := k3 (by omega)
    exact ⟨_, _, _, rfl, by omega, by omega, by omega, by omega⟩
theorem state_ok {bs : List Int} {p s : Int} (hy : okY bs) (h0 : 0 ≤ p) (h1 : p ≤ 700000000000) : ∃ xs m p' s', F_p_spec_l1Cur_state bs p s = some (xs, m, bs, p', s') ∧ p ≤ p' ∧ p' ≤ p + 100 ∧ -1 ≤ m ∧ m ≤ 3 ∧ xs.length ≤ 13 ∧ (∀ x ∈ xs, -1 ≤ x ∧ x ≤ 4) := by
  unfold F_p_spec_l1Cur_state
  obtain ⟨m, p1, s1, e1, g0, g1, g2, g3⟩ := lies_ok (s := s) hy h0 (by omega)
  obtain ⟨k, p2, s2, e2, k0, k1, k2, k3⟩ := many_ok (s := s1) hy (p := p1) (by omega) (by omega)
  rw [bnd4_eq e1, bnd4_eq e2]
  simp only [jn]
  let Q : Option (List Int × Int × List Int × Int × Int) → Prop := fun o => ∃ xs m p' s', o = some (xs, m, bs, p', s') ∧ p ≤ p' ∧ p' ≤ p + 100 ∧ -1 ≤ m ∧ m ≤ 3 ∧ xs.length ≤ 13 ∧ (∀ x ∈ xs, -1 ≤ x ∧ x ≤ 4)
  have fin2 : ∀ (xs : List Int) (pp ss : Int), p ≤ pp → pp ≤ p + 56 → xs.length = k.toNat → (∀ x ∈ xs, -1 ≤ x ∧ x ≤ 4) → Q (F_p_spec_l1Cur_state_L2 m k (fun o500d o500e o500g o12b => some (o12b, m, o500d, o500e, o500g)) fuel bs pp ss xs 0) := by
    intro xs pp ss hp1 hp2 hl hx
    refine loop_m (fun n (z : Int × Int × List Int × Int) => F_p_spec_l1Cur_state_L2 m k (fun o500d o500e o500g o12b => some (o12b, m, o500d, o500e, o500g)) n bs z.1 z.2.1 z.2.2.1 z.2.2.2) (fun z => 0 ≤ z.2.2.2 ∧ z.2.2.2 ≤ k ∧ p ≤ z.1 ∧ z.1 ≤ p + 56 + 2 * z.2.2.2 ∧ z.2.2.1.length = k.toNat ∧ ∀ x ∈ z.2.2.1, -1 ≤ x ∧ x ≤ 4) (fun z => (k - z.2.2.2).toNat) Q ?_ fuel (pp, ss, xs, 0) ⟨by simp only; omega, by simp only; omega, hp1, by simp only; omega, hl, hx⟩ (by have := fuel_ge; simp only; omega)
    rintro n ⟨pp, ss, xs, i⟩ ⟨i0, i1, q0, q1, ql, qx⟩
    simp only at i0 i1 q0 q1 ql qx ⊢
    rw [F_p_spec_l1Cur_state_L2]
    by_cases hi : i < k
    · rw [ite_t (decide_eq_true hi)]
      simp only [jn]
      rw [chk_pos (by omega)]
      have stay : ∀ pp', p ≤ pp' → pp' ≤ p + 56 + 2 * (i + 1) → ∀ ss' (b : Bool), (∃ s' : Int × Int × List Int × Int, (0 ≤ s'.2.2.2 ∧ s'.2.2.2 ≤ k ∧ p ≤ s'.1 ∧ s'.1 ≤ p + 56 + 2 * s'.2.2.2 ∧ s'.2.2.1.length = k.toNat ∧ ∀ x ∈ s'.2.2.1, -1 ≤ x ∧ x ≤ 4) ∧ (k - s'.2.2.2).toNat < (k - i).toNat ∧
          (bif b then chk (0 ≤ i ∧ i < ((List.length xs : Nat) : Int)) <| chk (I64 (i + (1 : Int))) <| F_p_spec_l1Cur_state_L2 m k (fun o500d o500e o500g o12b => some (o12b, m, o500d, o500e, o500g)) n bs pp' ss' (List.set xs (Int.toNat i) (-1 : Int)) (i + (1 : Int)) else chk (I64 (i + (1 : Int))) <| F_p_spec_l1Cur_state_L2 m k (fun o500d o500e o500g o12b => some (o12b, m, o500d, o500e, o500g)) n bs pp' ss' xs (i + (1 : Int))) = F_p_spec_l1Cur_state_L2 m k (fun o500d o500e o500g o12b => some (o12b, m, o500d, o500e, o500g)) n bs s'.1 s'.2.1 s'.2.2.1 s'.2.2.2) := by
        intro pp' r0 r1 ss' b
        cases b
        · rw [ite_f rfl, chk_pos (by unfold I64; omega)]
          exact ⟨(pp', ss', xs, i + 1), ⟨by simp only; omega, by simp only; omega, r0, r1, ql, qx⟩, by simp only; omega, rfl⟩
        · rw [ite_t rfl, chk_pos (by omega), chk_pos (by unfold I64; omega)]
          refine ⟨(pp', ss', List.set xs (Int.toNat i) (-1), i + 1), ⟨by simp only; omega, by simp only; omega, r0, r1, by simp only [List.length_set]; exact ql, fun x hx => ?_⟩, by simp only; omega, rfl⟩
          rcases List.mem_or_eq_of_mem_set hx with h | h
          · exact qx x h
          · subst h; omega
      rcases Bool.eq_false_or_eq_true (decide (List.getD xs (Int.toNat i) 0 > m)) with h4 | h4
      · rw [ite_t h4]
        obtain ⟨b, p4, s4, e4, w0, w1⟩ := one_ok (s := ss) (n := 30) hy (p := pp) (by omega) (by omega)
        rw [bnd4_eq e4]
        exact .inl (stay p4 (by omega) (by omega) s4 (!b))
      · rw [ite_f h4]
        exact .inl (stay pp (by omega) (by omega) ss false)
    · rw [ite_f (decide_eq_false hi)]
      exact .inr ⟨_, _, _, _, rfl, by omega, by omega, g2, g3, by omega, qx⟩
  refine loop_m (fun n (z : Int × Int × List Int × Int) => F_p_spec_l1Cur_state_L1 m k (fun o500 o500b o500c o12 => F_p_spec_l1Cur_state_L2 m k (fun o500d o500e o500g o12b => some (o12b, m, o500d, o500e, o500g)) fuel o500 o500b o500c o12 0) n bs z.1 z.2.1 z.2.2.1 z.2.2.2) (fun z => 0 ≤ z.2.2.2 ∧ z.2.2.2 ≤ k ∧ p ≤ z.1 ∧ z.1 ≤ p + 4 + 4 * z.2.2.2 ∧ z.2.2.1.length = z.2.2.2.toNat ∧ ∀ x ∈ z.2.2.1, -1 ≤ x ∧ x ≤ 4) (fun z => (k - z.2.2.2).toNat) Q ?_ fuel (p2, s2, [], 0) ⟨by simp, by simp only; omega, by simp only; omega, by simp only; omega, rfl, fun x hx => by simp at hx⟩ (by have := fuel_ge; simp only; omega)
  rintro n ⟨pp, ss, xs, i⟩ ⟨i0, i1, q0, q1, ql, qx⟩
  simp only at i0 i1 q0 q1 ql qx ⊢
  rw [F_p_spec_l1Cur_state_L1]
  by_cases hi : i < k
  · rw [ite_t (decide_eq_true hi), chk_pos (by unfold I64; omega)]
    have a2 := maxN_in (a := 1) (b := m + 2)
    obtain ⟨v, p4, s4, e4, w0, w1, w2, w3⟩ := pick_ok (s := ss) (n := maxN 1 (m + 2)) hy (p := pp) (by omega) (by omega)
    obtain ⟨v5, p5, s5, e5, y0, y1, y2, y3⟩ := pick_ok (s := s4) (n := 6) hy (p := p4) (by omega) (by omega)
    have hd := d5_in y2 (y3 (by omega))
    unfold d5 at hd
    have hv := w3 (by omega)
    rw [bnd4_eq e4, bnd4_eq e5, chk_pos (by unfold I64; omega), chk_pos (by unfold I64; omega), chk_pos ⟨by omega, by simp only [maxLen]; omega⟩, chk_pos (by unfold I64; omega)]
    refine .inl ⟨(p5, s5, xs ++ [v - Int.tdiv v5 5], i + 1), ⟨by simp only; omega, by simp only; omega, by simp only; omega, by simp only; omega, by simp only [List.length_append, List.length_cons, List.length_nil]; omega, fun x hx => ?_⟩, by simp only; omega, rfl⟩
    rcases List.mem_append.1 hx with h | h
    · exact qx x h
    · simp only [List.mem_cons, List.not_mem_nil, or_false] at h
      omega
  · rw [ite_f (decide_eq_false hi)]
    exact .inr (fin2 xs pp ss q0 (by omega) (by omega) qx)
theorem jn_is {γ δ : Type} {f : γ} {g : γ → Option δ} {r : Option δ} (k : γ → Option δ) (h : ∀ J, g J = k J) (h2 : k f = r) : jn f g = r := by
  unfold jn; rw [h f]; exact h2
/-- The numbers below k that p tells. -/
def fl (p : Nat → Bool) (k : Nat) : List Int := ((List.range k).filter p).map fun (i : Nat) => (i : Int)
theorem fl_yes {p : Nat → Bool} {k : Nat} (h : p k = true) : fl p (k + 1) = fl p k ++ [(k : Int)] := by
  unfold fl; rw [List.range_succ, List.filter_append, List.map_append, List.filter_cons, if_pos h]; rfl
theorem fl_no {p : Nat → Bool} {k : Nat} (h : p k = false) : fl p (k + 1) = fl p k := by
  unfold fl; rw [List.range_succ, List.filter_append, List.map_append, List.filter_cons, if_neg (by rw [h]; simp)]; simp
theorem fl_len (p : Nat → Bool) (k : Nat) : (fl p k).length ≤ k := by
  unfold fl; rw [List.length_map]; exact Nat.le_trans (List.length_filter_le _ _) (by simp)
theorem mem_fl {p : Nat → Bool} {k : Nat} {x : Int} : x ∈ fl p k ↔ ∃ i : Nat, i < k ∧ p i = true ∧ x = (i : Int) := by
  unfold fl
  simp only [List.mem_map, List.mem_filter, List.mem_range]
  constructor
  · rintro ⟨i, ⟨h1, h2⟩, rfl⟩; exact ⟨i, h1, h2, rfl⟩
  · rintro ⟨i, h1, h2, rfl⟩; exact ⟨i, ⟨h1, h2⟩, rfl⟩
theorem fl_getD {p : Nat → Bool} {k i : Nat} (h : i < (fl p k).length) : ∃ j : Nat, j < k ∧ p j = true ∧ (fl p k).getD i 0 = (j : Int) := by
  have : (fl p k).getD i 0 ∈ fl p k := getD_in (P := fun x => x ∈ fl p k) h fun x hx => hx
  obtain ⟨j, h1, h2, h3⟩ := mem_fl.1 this
  exact ⟨j, h1, h2, h3⟩
theorem openN_fl (xs : List Int) : openN xs = fl (fun i => decide (xs.getD i 0 ≥ 0)) xs.length := rfl
theorem int_nat {i : Int} (h : 0 ≤ i) : ∃ k : Nat, i = (k : Int) := ⟨i.toNat, by omega⟩
theorem bits_nat_or {a b : Nat} (ha : a < 9223372036854775808) (hb : b < 9223372036854775808) : bits .or .i64 (a : Int) (b : Int) = ((a ||| b : Nat) : Int) := by
  have hc : a ||| b < 2 ^ 63 := Nat.or_lt_two_pow (by omega) (by omega)
  unfold bits
  rw [IntKind.wrap_i64]
  show (((BitVec.ofInt 64 (a : Int) ||| BitVec.ofInt 64 (b : Int)).toNat : Int) + 9223372036854775808) % 18446744073709551616 - 9223372036854775808 = _
  rw [BitVec.toNat_or, BitVec.toNat_ofInt, BitVec.toNat_ofInt]
  have e1 : ((a : Int) % ((2 ^ 64 : Nat) : Int)).toNat = a := by omega
  have e2 : ((b : Int) % ((2 ^ 64 : Nat) : Int)).toNat = b := by omega
  rw [e1, e2]
  omega
theorem bits_nat_and {a b : Nat} (ha : a < 9223372036854775808) (hb : b < 9223372036854775808) : bits .and .i64 (a : Int) (b : Int) = ((a &&& b : Nat) : Int) := by
  have hc : a &&& b < 2 ^ 63 := Nat.and_lt_two_pow _ (by omega)
  unfold bits
  rw [IntKind.wrap_i64]
  show (((BitVec.ofInt 64 (a : Int) &&& BitVec.ofInt 64 (b : Int)).toNat : Int) + 9223372036854775808) % 18446744073709551616 - 9223372036854775808 = _
  rw [BitVec.toNat_and, BitVec.toNat_ofInt, BitVec.toNat_ofInt]
  have e1 : ((a : Int) % ((2 ^ 64 : Nat) : Int)).toNat = a := by omega
  have e2 : ((b : Int) % ((2 ^ 64 : Nat) : Int)).toNat = b := by omega
  rw [e1, e2]
  omega
theorem has_nat {q k : Nat} (hk : k ≤ 64) : hasB (q : Int) (k : Int) = q.testBit k := by
  unfold hasB
  rw [and1, Int.toNat_natCast, Nat.min_eq_left hk, Int.fdiv_eq_ediv_of_nonneg _ (Int.le_of_lt (Int.pow_pos (by decide))), Nat.testBit_eq_decide_div_mod_eq]
  have e : (q : Int) / 2 ^ k % 2 = ((q / 2 ^ k % 2 : Nat) : Int) := by norm_cast
  rw [e]
  have : q / 2 ^ k % 2 = 0 ∨ q / 2 ^ k % 2 = 1 := by omega
  rcases this with h | h <;> rw [h] <;> rfl
theorem has_raw {q k : Int} (h0 : 0 ≤ k) (h1 : k < 64) : (bits .and .i64 (q / 2 ^ Int.toNat k) (1 : Int) == (1 : Int)) = hasB q k := by
  unfold hasB
  rw [Nat.min_eq_left (by omega), Int.fdiv_eq_ediv_of_nonneg _ (Int.le_of_lt (Int.pow_pos (by decide)))]
theorem and1_has {q k : Int} (h0 : 0 ≤ k) (h1 : k < 64) : bits .and .i64 (q / 2 ^ Int.toNat k) (1 : Int) = bif hasB q k then 1 else 0 := by
  rw [← has_raw h0 h1, and1]
  have : q / 2 ^ k.toNat % 2 = 0 ∨ q / 2 ^ k.toNat % 2 = 1 := by omega
  rcases this with h | h <;> rw [h] <;> rfl
theorem isQ_nat {n q : Int} (h : isQ n q = true) : ∃ n' q' : Nat, n = n' ∧ q = q' ∧ 1 ≤ n' ∧ n' ≤ 12 ∧ q' < 2 ^ n' := by
  obtain ⟨⟨h0, h1, h2⟩, h3, h4⟩ := isQ_in h
  obtain ⟨n', rfl⟩ := int_nat h0
  obtain ⟨q', rfl⟩ := int_nat h3
  refine ⟨n', q', rfl, rfl, by omega, by omega, ?_⟩
  simp only [Int.toNat_natCast] at h4
  have : ((2 ^ n' : Nat) : Int) = (2 : Int) ^ n' := by norm_cast
  omega
theorem rInts_eq (xs ys : List Int) (hx : xs.length ≤ 1048576) : F_laws_rInts xs ys = some (xs == ys) := by
  unfold F_laws_rInts
  by_cases hl : xs.length = ys.length
  · rw [ite_f (by rw [hl]; simp)]
    simp only [jn]
    refine Or.elim (loop_all (fun m i => F_laws_rInts_L1 xs ys (fun _ => some true) m i) (xs.length : Int) (fun i => xs.getD i.toNat 0 == ys.getD i.toNat 0) (some false) (some true) ?_ ?_ ?_ (by omega) fuel (by have := fuel_ge; omega)) ?_ ?_
    · intro m i i0 i1 hp
      rw [F_laws_rInts_L1, ite_t (decide_eq_true i1), chk_pos ⟨i0, i1⟩, chk_pos ⟨i0, by omega⟩, ite_f (by simpa [bne] using hp), chk_pos (by unfold I64; omega)]
    · intro m i i0 i1 hp
      rw [F_laws_rInts_L1, ite_t (decide_eq_true i1), chk_pos ⟨i0, i1⟩, chk_pos ⟨i0, by omega⟩, ite_t (by simpa [bne] using hp)]
    · intro m
      rw [F_laws_rInts_L1, ite_f (decide_eq_false (by omega))]
    · rintro ⟨e, h⟩
      rw [e]
      have : xs = ys := by
        refine List.ext_getElem hl fun i h1 h2 => ?_
        have := h (i : Int) (by omega) (by omega)
        simp only [Int.toNat_natCast, beq_iff_eq] at this
        simpa [List.getD_eq_getElem?_getD, h1, h2] using this
      rw [this]; simp
    · rintro ⟨e, i, i0, i1, i2, _⟩
      rw [e]
      have : (xs == ys) = false := by
        rw [beq_eq_false_iff_ne]
        intro hh
        subst hh
        simp at i2
      rw [this]
  · rw [ite_t (by simp; omega)]
    have : (xs == ys) = false := by
      rw [beq_eq_false_iff_ne]; intro hh; exact hl (by rw [hh])
    rw [this]
theorem drawAnswer_ok {bs : List Int} (hy : okY bs) : ∃ xs m q y, F_spec_DrawAnswerState bs = some (xs, m, q, y) ∧ (-1 ≤ m ∧ m ≤ 3 ∧ xs.length ≤ 13 ∧ (∀ x ∈ xs, -1 ≤ x ∧ x ≤ 4)) ∧ -1 ≤ q ∧ q ≤ 4611686018427387904 := by
  unfold F_spec_DrawAnswerState
  obtain ⟨xs, m, p', s', e, h1, h2, h3, h4, h5, h6⟩ := state_ok (s := 0) (p := 0) hy (by omega) (by omega)
  obtain ⟨b, p2, s2, e2, g0, g1⟩ := one_ok (s := s') (p := p') (n := 2) hy (by omega) (by omega)
  obtain ⟨q, p3, s3, e3, k0, k1, k2, k3⟩ := question_ok (s := s2) (p := p2) (n := ((List.length xs : Nat) : Int)) hy (by omega) (by omega)
  rw [bnd5_eq e, bnd4_eq e2, bnd4_eq e3]
  exact ⟨_, _, _, _, rfl, ⟨h3, h4, h5, h6⟩, k2, k3⟩
def aqsB (X : Int) (xs : List (Int × Bool)) : Bool := (decide (1 ≤ X) && decide (X ≤ 12)) && xs.all fun a => isQ X a.1
theorem as_all {X : Int} {xs : List (Int × Bool)} {i : Nat} (h : xs.all (fun a => isQ X a.1) = true) (hi : i < xs.length) : isQ X (xs.getD i (0, false)).1 = true := by
  rw [List.getD_eq_getElem?_getD, List.getElem?_eq_getElem hi]
  exact List.all_eq_true.1 h _ (List.getElem_mem hi)
theorem all_as {X : Int} {xs : List (Int × Bool)} (h : ∀ i : Int, 0 ≤ i → i < (xs.length : Int) → isQ X (xs.getD i.toNat (0, false)).1 = true) : xs.all (fun a => isQ X a.1) = true := by
  rw [List.all_eq_true]
  intro a ha
  obtain ⟨i, hi, rfl⟩ := List.getElem_of_mem ha
  have := h (i : Int) (by omega) (by omega)
  rw [Int.toNat_natCast, List.getD_eq_getElem?_getD, List.getElem?_eq_getElem hi] at this
  exact this
theorem not_all {X : Int} {xs : List (Int × Bool)} {i : Int} (h0 : 0 ≤ i) (h1 : i < (xs.length : Int)) (h : isQ X (xs.getD i.toNat (0, false)).1 = false) : xs.all (fun a => isQ X a.1) = false := by
  rcases Bool.eq_false_or_eq_true (xs.all fun a => isQ X a.1) with h2 | h2
  · have := as_all (i := i.toNat) h2 (by omega)
    rw [this] at h; cases h
  · exact h2
theorem iAreAsked_eq (X : Int) (xs : List (Int × Bool)) (k : Int) (hl : xs.length ≤ 1000) : F_impl_areAsked X xs k = some (aqsB X xs && decide ((xs.length : Int) ≤ k)) := by
  unfold F_impl_areAsked aqsB
  rcases Bool.eq_false_or_eq_true (decide (1 ≤ X) && decide (X ≤ 12)) with h | h
  · rw [ite_t h, h]
    rcases Bool.eq_false_or_eq_true (decide ((xs.length : Int) ≤ k)) with h2 | h2
    · rw [ite_t h2, h2]
      unfold F_slices_ContainsFunc___impl_Asked_impl_Asked_ F_slices_IndexFunc___impl_Asked_impl_Asked_
      have key : ∀ (J : Unit → Option Int), J () = some (-1) → ∃ v, F_slices_IndexFunc___impl_Asked_impl_Asked__L1 xs (fun u0 u1 => F_impl_areAsked_1 u0 u1 X) J fuel 0 = some v ∧ decide (v ≥ 0) = !(xs.all fun a => isQ X a.1) := by
        intro J hJ
        have st : ∀ n i, 0 ≤ i → i < ((xs.length : Nat) : Int) → F_slices_IndexFunc___impl_Asked_impl_Asked__L1 xs (fun u0 u1 => F_impl_areAsked_1 u0 u1 X) J (n + 1) i = (bif !(isQ X (xs.getD i.toNat (0, false)).1) then some i else F_slices_IndexFunc___impl_Asked_impl_Asked__L1 xs (fun u0 u1 => F_impl_areAsked_1 u0 u1 X) J n (i + 1)) := fun n i i0 i1 => by
          rw [F_slices_IndexFunc___impl_Asked_impl_Asked__L1, ite_t (decide_eq_true i1), chk_pos ⟨i0, i1⟩]
          unfold F_impl_areAsked_1
          rw [bnd1_eq rfl, chk_pos (by unfold I64; omega)]
        refine loop_m (fun n (i : Int) => F_slices_IndexFunc___impl_Asked_impl_Asked__L1 xs (fun u0 u1 => F_impl_areAsked_1 u0 u1 X) J n i) (fun i => 0 ≤ i ∧ i ≤ (xs.length : Int) ∧ ∀ j, 0 ≤ j → j < i → isQ X (xs.getD j.toNat (0, false)).1 = true) (fun i => ((xs.length : Int) - i).toNat) (fun o => ∃ v, o = some v ∧ decide (v ≥ 0) = !(xs.all fun a => isQ X a.1)) ?_ fuel 0 ⟨by omega, by omega, fun j h1 h2 => by omega⟩ (by have := fuel_ge; omega)
        rintro n i ⟨i0, i1, hall⟩
        by_cases e : i < (xs.length : Int)
        · simp only [st n i i0 e]
          rcases Bool.eq_false_or_eq_true (isQ X (xs.getD i.toNat (0, false)).1) with h5 | h5
          · refine .inl ⟨i + 1, ⟨by omega, by omega, fun j h6 h7 => ?_⟩, by omega, ?_⟩
            · by_cases e2 : j = i
              · subst e2; exact h5
              · exact hall j h6 (by omega)
            · rw [ite_f (by rw [h5]; rfl)]
          · refine .inr ⟨i, ?_, ?_⟩
            · rw [ite_t (by rw [h5]; rfl)]
            · rw [not_all i0 e h5, decide_eq_true i0]; rfl
        · refine .inr ⟨-1, ?_, ?_⟩
          · rw [F_slices_IndexFunc___impl_Asked_impl_Asked__L1, ite_f (decide_eq_false e), hJ]
          · rw [all_as (X := X) (fun j h6 h7 => hall j h6 (by omega))]; rfl
      obtain ⟨v, e1, e2⟩ := key (fun _ => some (-1)) rfl
      simp only [jn]
      rw [bnd1_eq e1, bnd1_eq rfl, e2]; simp
    · rw [ite_f h2, h2, Bool.and_false]
  · rw [ite_f h, h]; rfl
theorem sAnswers_eq (X : Int) (xs : List (Int × Bool)) (hl : xs.length ≤ 1000) : F_spec_l2Answers X xs = some (aqsB X xs && decide ((xs.length : Int) ≤ 20)) := by
  unfold F_spec_l2Answers
  have fin : (bif decide (X ≥ 1) && decide (X ≤ 12) then some (decide (((List.length xs : Nat) : Int) ≤ (20 : Int))) else some false) = some ((decide (1 ≤ X) && decide (X ≤ 12)) && decide ((xs.length : Int) ≤ 20)) := by
    show (bif decide (1 ≤ X) && decide (X ≤ 12) then _ else _) = _
    cases decide (1 ≤ X) && decide (X ≤ 12) <;> rfl
  simp only [jn]
  rw [fin]
  have st : ∀ n i, 0 ≤ i → i < ((xs.length : Nat) : Int) → i ≤ 20 → ∀ r, F_spec_l2Answers_L1 X xs (fun _ => r) (n + 1) i = (bif !(isQ X (xs.getD i.toNat (0, false)).1) then some false else F_spec_l2Answers_L1 X xs (fun _ => r) n (i + 1)) := fun n i i0 i1 i2 r => by
    rw [F_spec_l2Answers_L1]
    refine jn_is (fun J => J true) (fun J => by rw [ite_t (decide_eq_true i1), decide_eq_true i2]) ?_
    rw [ite_t rfl, chk_pos ⟨i0, i1⟩, chk_pos (by unfold I64; omega)]
  have en : ∀ n i, 0 ≤ i → ¬ (i < ((xs.length : Nat) : Int) ∧ i ≤ 20) → ∀ r, F_spec_l2Answers_L1 X xs (fun _ => r) (n + 1) i = r := fun n i i0 i1 r => by
    rw [F_spec_l2Answers_L1]
    refine jn_is (fun J => J false) (fun J => ?_) (ite_f rfl _ _)
    rcases Bool.eq_false_or_eq_true (decide (i < ((xs.length : Nat) : Int))) with h | h
    · have h' := of_decide_eq_true h
      rw [ite_t h, decide_eq_false (by omega)]
    · rw [ite_f h]
  by_cases h20 : (xs.length : Int) ≤ 20
  · have := loop_all (F_spec_l2Answers_L1 X xs (fun _ => some ((decide (1 ≤ X) && decide (X ≤ 12)) && decide ((xs.length : Int) ≤ 20)))) ((xs.length : Nat) : Int) (fun i => isQ X (xs.getD i.toNat (0, false)).1) (some false) (some ((decide (1 ≤ X) && decide (X ≤ 12)) && decide ((xs.length : Int) ≤ 20))) (fun n i i0 i1 hp => by rw [st n i i0 i1 (by omega), ite_f (by rw [hp]; rfl)]) (fun n i i0 i1 hp => by rw [st n i i0 i1 (by omega), ite_t (by rw [hp]; rfl)]) (fun n => en n _ (by omega) (by omega) _) (by omega) fuel (by have := fuel_ge; omega)
    unfold aqsB
    rcases this with ⟨h1, h2⟩ | ⟨h1, i, i0, i1, h2, _⟩
    · rw [h1, all_as h2, Bool.and_true]
    · rw [h1, not_all i0 i1 h2, Bool.and_false]; rfl
  · have := loop_all (F_spec_l2Answers_L1 X xs (fun _ => some ((decide (1 ≤ X) && decide (X ≤ 12)) && decide ((xs.length : Int) ≤ 20)))) 21 (fun i => isQ X (xs.getD i.toNat (0, false)).1) (some false) (some ((decide (1 ≤ X) && decide (X ≤ 12)) && decide ((xs.length : Int) ≤ 20))) (fun n i i0 i1 hp => by rw [st n i i0 (by omega) (by omega), ite_f (by rw [hp]; rfl)]) (fun n i i0 i1 hp => by rw [st n i i0 (by omega) (by omega), ite_t (by rw [hp]; rfl)]) (fun n => en n _ (by omega) (by omega) _) (by omega) fuel (by have := fuel_ge; omega)
    rcases this with ⟨h1, h2⟩ | ⟨h1, _⟩
    · rw [h1, decide_eq_false h20, Bool.and_false, Bool.and_false]
    · rw [h1, decide_eq_false h20, Bool.and_false]
theorem asked_ok {bs : List Int} {p s X : Int} (hy : okY bs) (h0 : 0 ≤ p) (h1 : p ≤ 700000000000) (hX : 0 ≤ X) (hX2 : X ≤ 13) : ∃ xs p' s', F_p_spec_l1Cur_asked bs p s X = some (xs, bs, p', s') ∧ p ≤ p' ∧ p' ≤ p + 200 ∧ xs.length ≤ 100 := by
  unfold F_p_spec_l1Cur_asked
  have a1 := maxN_in (a := 1) (b := X)
  obtain ⟨r, p1, s1, e1, g0, g1, g2, g3⟩ := pick_ok (s := s) (n := maxN 1 X) hy h0 (by omega)
  have g3 := g3 (by omega)
  rw [bnd4_eq e1]
  simp only [jn]
  obtain ⟨k, p2, s2, e2, k0, k1, k2⟩ := among_ok (s := s1) (p := p1) (xs := [(3 : Int), (4 : Int), (2 : Int), (5 : Int), (1 : Int), (0 : Int), (7 : Int), (10 : Int)]) hy (by omega) (by omega) (by decide)
  have hk : 0 ≤ k ∧ k ≤ 10 := by
    simp only [List.mem_cons, List.not_mem_nil, or_false] at k2
    omega
  rw [bnd4_eq e2]
  let Q : Option (List (Int × Bool) × List Int × Int × Int) → Prop := fun o => ∃ xs p' s', o = some (xs, bs, p', s') ∧ p ≤ p' ∧ p' ≤ p + 200 ∧ xs.length ≤ 100
  have key : ∀ J : List Int → Int → Int → List (Int × Bool) → Option (List (Int × Bool) × List Int × Int × Int), (∀ pp ss xs, p ≤ pp → pp ≤ p + 100 → xs.length ≤ 12 → Q (J bs pp ss xs)) → Q (F_p_spec_l1Cur_asked_L1 X r J fuel bs p2 s2 [] k) := by
    intro J hJ
    refine loop_m (fun m (z : Int × Int × List (Int × Bool) × Int) => F_p_spec_l1Cur_asked_L1 X r J m bs z.1 z.2.1 z.2.2.1 z.2.2.2) (fun z => 0 ≤ z.2.2.2 ∧ z.2.2.2 ≤ k ∧ p ≤ z.1 ∧ z.1 ≤ p + 4 + 6 * (k - z.2.2.2) ∧ (z.2.2.1.length : Int) = k - z.2.2.2) (fun z => z.2.2.2.toNat) Q ?_ fuel (p2, s2, [], k) ⟨hk.1, Int.le_refl _, by simp only; omega, by simp only; omega, by simp⟩ (by have := fuel_ge; simp only; omega)
    rintro m ⟨pp, ss, xs, i⟩ ⟨i0, i1, q0, q1, ql⟩
    simp only at i0 i1 q0 q1 ql ⊢
    rw [F_p_spec_l1Cur_asked_L1]
    by_cases hi : i > 0
    · obtain ⟨v, p4, s4, e4, w0, w1, w2, w3⟩ := question_ok (s := ss) (n := X) hy (p := pp) (by omega) (by omega)
      obtain ⟨b, p5, s5, e5, y0, y1⟩ := one_ok (s := s4) (p := p4) (n := 4) hy (by omega) (by omega)
      rw [ite_t (decide_eq_true hi), bnd4_eq e4]
      have fin : ∀ o9 : Bool, ∃ c : Bool, (bif b then (chk (((List.length xs) + 1) * 16 ≤ 140737488355328 ∧ (List.length xs) + 1 ≤ maxLen) <| chk (I64 (i - (1 : Int))) <| F_p_spec_l1Cur_asked_L1 X r J m bs p5 s5 (xs ++ [(v, !o9)]) (i - (1 : Int))) else (chk (((List.length xs) + 1) * 16 ≤ 140737488355328 ∧ (List.length xs) + 1 ≤ maxLen) <| chk (I64 (i - (1 : Int))) <| F_p_spec_l1Cur_asked_L1 X r J m bs p5 s5 (xs ++ [(v, o9)]) (i - (1 : Int)))) = F_p_spec_l1Cur_asked_L1 X r J m bs p5 s5 (xs ++ [(v, c)]) (i - 1) := fun o9 => by
        cases b with
        | true => exact ⟨!o9, by rw [ite_t rfl, chk_pos ⟨by omega, by unfold maxLen; omega⟩, chk_pos (by unfold I64; omega)]⟩
        | false => exact ⟨o9, by rw [ite_f rfl, chk_pos ⟨by omega, by unfold maxLen; omega⟩, chk_pos (by unfold I64; omega)]⟩
      have go : ∀ c : Bool, ∃ s' : Int × Int × List (Int × Bool) × Int, (0 ≤ s'.2.2.2 ∧ s'.2.2.2 ≤ k ∧ p ≤ s'.1 ∧ s'.1 ≤ p + 4 + 6 * (k - s'.2.2.2) ∧ (s'.2.2.1.length : Int) = k - s'.2.2.2) ∧ s'.2.2.2.toNat < i.toNat ∧ F_p_spec_l1Cur_asked_L1 X r J m bs p5 s5 (xs ++ [(v, c)]) (i - 1) = F_p_spec_l1Cur_asked_L1 X r J m bs s'.1 s'.2.1 s'.2.2.1 s'.2.2.2 := fun c =>
        ⟨(p5, s5, xs ++ [(v, c)], i - 1), ⟨by simp only; omega, by simp only; omega, by simp only; omega, by simp only; omega, by simp only [List.length_append, List.length_cons, List.length_nil]; omega⟩, by simp only; omega, rfl⟩
      left
      simp only [jn, nam]
      rw [bnd4_eq e5, bnd4_eq e5, chk_pos ⟨g2, by omega⟩]
      rcases Bool.eq_false_or_eq_true (decide (v ≥ (0 : Int)) && decide (v ≤ (4095 : Int))) with h7 | h7
      · rw [ite_t h7]
        obtain ⟨c, hc⟩ := fin (bits .and .i64 (v / 2 ^ Int.toNat r) (1 : Int) == (1 : Int))
        rw [hc]; exact go c
      · rw [ite_f h7]
        obtain ⟨c, hc⟩ := fin false
        rw [hc]; exact go c
    · rw [ite_f (decide_eq_false hi)]
      exact .inr (hJ pp ss xs q0 (by omega) (by omega))
  refine key _ fun pp ss xs q0 q1 ql => ?_
  obtain ⟨b, p5, s5, e5, y0, y1⟩ := one_ok (s := ss) (n := 40) hy (p := pp) (by omega) (by omega)
  rw [bnd4_eq e5]
  cases b with
  | true =>
    rw [ite_t rfl]
    refine loop_m (fun m (zs : List (Int × Bool)) => F_p_spec_l1Cur_asked_L2 (fun o500d o500e o500g o10b => some (o10b, o500d, o500e, o500g)) bs p5 s5 m zs) (fun zs => zs.length ≤ 21) (fun zs => 21 - zs.length) Q ?_ fuel xs (by omega) (by have := fuel_ge; omega)
    intro m zs hz
    rw [F_p_spec_l1Cur_asked_L2]
    by_cases hi : ((zs.length : Nat) : Int) < 21
    · rw [ite_t (decide_eq_true hi), chk_pos ⟨by omega, by unfold maxLen; omega⟩]
      exact .inl ⟨zs ++ [(1, false)], by simp only [List.length_append, List.length_cons, List.length_nil]; omega, by simp only [List.length_append, List.length_cons, List.length_nil]; omega, rfl⟩
    · rw [ite_f (decide_eq_false hi)]
      exact .inr ⟨zs, p5, s5, rfl, by omega, by omega, by omega⟩
  | false => exact ⟨xs, p5, s5, rfl, by omega, by omega, by omega⟩
/-- A loop that compares two lists. -/
theorem eq_loop {R : Type} (L : Nat → Int → Option R) (xs ys : List Int) (hl : xs.length = ys.length) (hx : xs.length ≤ 1048576) (no yes : Option R)
    (step : ∀ n i, 0 ≤ i → i < (xs.length : Int) → xs.getD i.toNat 0 = ys.getD i.toNat 0 → L (n + 1) i = L n (i + 1)) (stop : ∀ n i, 0 ≤ i → i < (xs.length : Int) → xs.getD i.toNat 0 ≠ ys.getD i.toNat 0 → L (n + 1) i = no)
    (fin : ∀ n, L (n + 1) (xs.length : Int) = yes) : L fuel 0 = bif xs == ys then yes else no := by
  refine Or.elim (loop_all L (xs.length : Int) (fun i => xs.getD i.toNat 0 == ys.getD i.toNat 0) no yes ?_ ?_ fin (by omega) fuel (by have := fuel_ge; omega)) ?_ ?_
  · intro m i i0 i1 hp; exact step m i i0 i1 (by simpa using hp)
  · intro m i i0 i1 hp; exact stop m i i0 i1 (by simpa using hp)
  · rintro ⟨e, h⟩
    rw [e]
    have : xs = ys := by
      refine List.ext_getElem hl fun i h1 h2 => ?_
      have := h (i : Int) (by omega) (by omega)
      simp only [Int.toNat_natCast, beq_iff_eq] at this
      simpa [List.getD_eq_getElem?_getD, h1, h2] using this
    rw [this]; simp
  · rintro ⟨e, i, i0, i1, i2, _⟩
    rw [e]
    have : (xs == ys) = false := by
      rw [beq_eq_false_iff_ne]
      intro hh
      subst hh
      simp at i2
    rw [this]; rfl
/-- A state behind an answer whose lies lean one way. -/
def clN (q : Int) (xs : List Int) : List Int := (List.range xs.length).map fun (j : Nat) => bif hasB q (j : Int) then xs.getD j 0 else -1
def clP (q : Int) (xs : List Int) (i : Nat) : List Int := ((List.range i).map fun (j : Nat) => bif hasB q (j : Int) then xs.getD j 0 else -1) ++ xs.drop i
def owN (m q : Int) (y : Bool) (xs : List Int) : List Int := bif y then clN q xs else ansN m q false xs
theorem clP_len {q : Int} {xs : List Int} {i : Nat} (h : i ≤ xs.length) : (clP q xs i).length = xs.length := by simp [clP]; omega
theorem clP_end (q : Int) (xs : List Int) : clP q xs xs.length = clN q xs := by simp [clP, clN]
theorem clP_no {q : Int} {xs : List Int} {i : Nat} (h : i < xs.length) (hq : hasB q (i : Int) = false) : List.set (clP q xs i) i (-1) = clP q xs (i + 1) := by
  unfold clP
  rw [drop_cons h, set_app _ _ _ _ (by simp), List.range_succ, List.map_append]
  simp [hq]
theorem clP_yes {q : Int} {xs : List Int} {i : Nat} (h : i < xs.length) (hq : hasB q (i : Int) = true) : clP q xs i = clP q xs (i + 1) := by
  unfold clP
  rw [drop_cons h, List.range_succ, List.map_append, List.map_cons, List.map_nil, hq, List.append_assoc]
  have e : xs.getD i 0 = xs[i] := by rw [List.getD_eq_getElem?_getD, List.getElem?_eq_getElem h]; rfl
  rw [cond_true, e]
  rfl
theorem clN_len (q : Int) (xs : List Int) : (clN q xs).length = xs.length := by simp [clN]
theorem owN_len (m q : Int) (y : Bool) (xs : List Int) : (owN m q y xs).length = xs.length := by unfold owN; cases y <;> simp [clN_len]
theorem clN_get {q : Int} {xs : List Int} {i : Nat} (h : i < xs.length) : (clN q xs).getD i 0 = bif hasB q (i : Int) then xs.getD i 0 else -1 := by
  unfold clN; rw [List.getD_eq_getElem?_getD, List.getElem?_map, List.getElem?_range h]; rfl
theorem afterN_get {m : Int} {p : Nat → Bool} {xs : List Int} {i : Nat} (h : i < xs.length) : (afterN m p xs).getD i 0 = lieN m (p i) (xs.getD i 0) := by
  unfold afterN; rw [List.getD_eq_getElem?_getD, List.getElem?_map, List.getElem?_range h]; rfl
theorem okS_ow {m q : Int} {y : Bool} {xs : List Int} (h : okS xs m) : okS (owN m q y xs) m := by
  cases y with
  | false => exact okS_ans h
  | true =>
    obtain ⟨h1, h2, h3, h4⟩ := h
    refine ⟨by rw [owN_len]; exact h1, h2, h3, fun i => ?_⟩
    show -1 ≤ (clN q xs).getD i 0 ∧ (clN q xs).getD i 0 ≤ m
    by_cases hi : i < xs.length
    · rw [clN_get hi]
      have := h4 i
      cases hasB q (i : Int) <;> simp only [cond_true, cond_false] <;> omega
    · rw [getD_out (by rw [clN_len]; omega)]; omega
theorem after_false (m : Int) (xs : List Int) : afterN m (fun _ => false) xs = xs := by
  refine List.ext_getElem (by simp) fun i h1 h2 => ?_
  have := afterN_get (m := m) (p := fun _ => false) (xs := xs) h2
  rw [lie_no rfl] at this
  simpa [List.getD_eq_getElem?_getD, h1, h2] using this
theorem iOneWay_eq {xs : List Int} {m q : Int} {y : Bool} (h : okS xs m) : F_impl_State_answeredOneWay xs m q y = some (owN m q y xs, m) := by
  unfold F_impl_State_answeredOneWay
  cases y with
  | false => rw [ite_t (by rfl), chk_pos h]; rfl
  | true =>
    rw [ite_f (by rfl), chk_pos h, after_false]
    have hl := h.1
    refine jn_is (fun J => J (clN q xs)) (fun J => ?_) rfl
    have key := loop_up (fun n i (s : List Int) => F_impl_State_answeredOneWay_L1 xs m q J n s i) ((xs.length : Nat) : Int) (fun i => clP q xs i.toNat) (J (clN q xs)) ?_ ?_ (by omega) fuel (by have := fuel_ge; omega)
    · simpa [clP] using key
    · intro n i i0 i1
      obtain ⟨j, rfl⟩ := int_nat i0
      have hj : j < xs.length := by omega
      have e1 : ((j : Int) + 1).toNat = j + 1 := by omega
      simp only [Int.toNat_natCast, e1]
      rw [F_impl_State_answeredOneWay_L1, after_false, ite_t (decide_eq_true i1), chk_pos i0]
      rcases Bool.eq_false_or_eq_true (hasB q (j : Int)) with hb | hb
      · rw [hb, ite_f (by rfl), chk_pos (by unfold I64; omega), clP_yes hj hb]
      · rw [hb, ite_t (by rfl), clP_len (by omega), chk_pos ⟨i0, i1⟩, chk_pos (by unfold I64; omega), Int.toNat_natCast, clP_no hj hb]
    · intro n
      simp only [Int.toNat_natCast]
      rw [F_impl_State_answeredOneWay_L1, after_false, ite_f (decide_eq_false (by omega)), clP_end]
theorem sOneWay_eq {xs : List Int} {m q : Int} {y : Bool} (h : okS xs m) : F_spec_l10After xs m q y = some (owN m q y xs, m) := by
  unfold F_spec_l10After
  have hl := h.1
  cases y with
  | false => rw [ite_t (by rfl), chk_pos h]; rfl
  | true =>
    rw [ite_f (by rfl), chk_pos (by omega)]
    refine jn_is (fun J => J (clN q xs)) (fun J => ?_) rfl
    have key := loop_up (fun n i (s : List Int) => F_spec_l10After_L1 q J n s i) ((xs.length : Nat) : Int) (fun i => clP q xs i.toNat) (J (clN q xs)) ?_ ?_ (by omega) fuel (by have := fuel_ge; omega)
    · simpa [clP] using key
    · intro n i i0 i1
      obtain ⟨j, rfl⟩ := int_nat i0
      have hj : j < xs.length := by omega
      have e1 : ((j : Int) + 1).toNat = j + 1 := by omega
      have h64 : (j : Int) < 64 := by omega
      simp only [Int.toNat_natCast, e1]
      rw [F_spec_l10After_L1, clP_len (by omega), ite_t (decide_eq_true i1), chk_pos ⟨i0, h64⟩]
      simp only [nam]
      rw [and1_has i0 h64]
      rcases Bool.eq_false_or_eq_true (hasB q (j : Int)) with hb | hb
      · rw [hb, ite_f (by rfl), chk_pos (by unfold I64; omega), clP_yes hj hb]
      · rw [hb, ite_t (by rfl), chk_pos ⟨i0, i1⟩, chk_pos (by unfold I64; omega), Int.toNat_natCast, clP_no hj hb]
    · intro n
      simp only [Int.toNat_natCast]
      rw [F_spec_l10After_L1, clP_len (Nat.le_refl _), ite_f (decide_eq_false (by omega)), clP_end]
def owP (n m : Int) (qa : List (Int × Bool)) : Nat → List Int
  | 0 => List.replicate n.toNat 0
  | k + 1 => owN m (qa.getD k (0, false)).1 (qa.getD k (0, false)).2 (owP n m qa k)
theorem owP_len (n m : Int) (qa : List (Int × Bool)) : ∀ k, (owP n m qa k).length = n.toNat
  | 0 => by simp [owP]
  | k + 1 => by rw [owP, owN_len, owP_len n m qa k]
theorem okS_owP {n m : Int} {qa : List (Int × Bool)} (h1 : n ≤ 12) (h2 : 0 ≤ m) (h3 : m ≤ 2) : ∀ k, okS (owP n m qa k) m
  | 0 => by simpa [owP] using okS_start (k := n.toNat) (m := m) (by omega) h2 h3
  | k + 1 => by rw [owP]; exact okS_ow (okS_owP h1 h2 h3 k)
def aaB (n m : Int) (qa : List (Int × Bool)) : Bool := (aqsB n qa && decide ((qa.length : Int) ≤ 20)) && (decide (0 ≤ m) && decide (m ≤ 2))
def owL (n m : Int) (qa : List (Int × Bool)) : List Int := bif aaB n m qa then owP n m qa qa.length else []
def anL (n m : Int) (qa : List (Int × Bool)) : List Int := bif aaB n m qa then allP n m qa qa.length else []
def aaM (n m : Int) (qa : List (Int × Bool)) : Int := bif aaB n m qa then m else 0
theorem aaB_in {n m : Int} {qa : List (Int × Bool)} (h : aaB n m qa = true) : 1 ≤ n ∧ n ≤ 12 ∧ qa.length ≤ 20 ∧ 0 ≤ m ∧ m ≤ 2 := by
  unfold aaB aqsB at h
  simp only [Bool.and_eq_true, decide_eq_true_eq] at h
  omega
/-- Both conditions, as the program asks them. -/
theorem aa_if {n m : Int} {qa : List (Int × Bool)} {R : Type} (hl : qa.length ≤ 1000) (J : Bool → Option R) : (bnd1 (F_impl_areAsked n qa (20 : Int)) fun r13 => (bif !r13 then J true else J (!(decide (0 ≤ m) && decide (m ≤ 2))))) = J (!(aaB n m qa)) := by
  rw [bnd1_eq (iAreAsked_eq n qa 20 hl)]
  unfold aaB
  cases aqsB n qa && decide ((qa.length : Int) ≤ 20) <;> rfl
theorem aa_if2 {n m : Int} {qa : List (Int × Bool)} {R : Type} (hl : qa.length ≤ 1000) (J : Bool → Option R) : (bnd1 (F_spec_l2Answers n qa) fun r13 => (bif !r13 then J true else J (!(decide (m ≥ (0 : Int)) && decide (m ≤ (2 : Int)))))) = J (!(aaB n m qa)) := by
  rw [bnd1_eq (sAnswers_eq n qa hl)]
  unfold aaB
  cases aqsB n qa && decide ((qa.length : Int) ≤ 20) <;> rfl
theorem iOneWayAll_eq (n m : Int) (qa : List (Int × Bool)) (hl : qa.length ≤ 1000) : F_impl_OneWayAll n m qa = some (owL n m qa, aaM n m qa, aaB n m qa) := by
  unfold F_impl_OneWayAll owL aaM
  refine jn_is (fun J => J (!(aaB n m qa))) (fun J => aa_if hl J) ?_
  rcases Bool.eq_false_or_eq_true (aaB n m qa) with h | h
  · obtain ⟨h1, h2, h3, h4, h5⟩ := aaB_in h
    rw [h, ite_f (by rfl), chk_pos (by omega), chk_pos h2]
    refine jn_is (fun J => J (owP n m qa qa.length) m) (fun J => ?_) rfl
    refine loop_up (fun k i (s : List Int) => F_impl_OneWayAll_L1 qa J k s m i) ((qa.length : Nat) : Int) (fun i => owP n m qa i.toNat) _ ?_ ?_ (by omega) fuel (by have := fuel_ge; omega)
    · intro k i i0 i1
      obtain ⟨j, rfl⟩ := int_nat i0
      have e1 : ((j : Int) + 1).toNat = j + 1 := by omega
      simp only [Int.toNat_natCast, e1]
      rw [F_impl_OneWayAll_L1, ite_t (decide_eq_true i1), chk_pos ⟨i0, i1⟩, bnd2_eq (iOneWay_eq (okS_owP h2 h4 h5 j)), chk_pos (by unfold I64; omega), Int.toNat_natCast]
      rfl
    · intro k
      simp only [Int.toNat_natCast]
      rw [F_impl_OneWayAll_L1, ite_f (decide_eq_false (by omega))]
  · rw [h]; rfl
theorem sStart_eq {n : Int} (m : Int) (h1 : 1 ≤ n) (h2 : n ≤ 12) : F_spec_l2Start n m = some (List.replicate n.toNat 0, m) := by
  unfold F_spec_l2Start
  rw [chk_pos ⟨by omega, by omega, by omega, by simp only [maxLen]; omega⟩]
theorem sl10All_eq {n m : Int} {qa : List (Int × Bool)} (h : aaB n m qa = true) : F_spec_l10All n m qa = some (owP n m qa qa.length, m) := by
  obtain ⟨h1, h2, h3, h4, h5⟩ := aaB_in h
  unfold F_spec_l10All
  rw [bnd2_eq (sStart_eq m h1 h2)]
  refine jn_is (fun J => J (owP n m qa qa.length) m) (fun J => ?_) rfl
  refine loop_up (fun k i (s : List Int) => F_spec_l10All_L1 qa J k s m i) ((qa.length : Nat) : Int) (fun i => owP n m qa i.toNat) _ ?_ ?_ (by omega) fuel (by have := fuel_ge; omega)
  · intro k i i0 i1
    obtain ⟨j, rfl⟩ := int_nat i0
    have e1 : ((j : Int) + 1).toNat = j + 1 := by omega
    simp only [Int.toNat_natCast, e1]
    rw [F_spec_l10All_L1, ite_t (decide_eq_true i1), chk_pos ⟨i0, i1⟩, bnd2_eq (sOneWay_eq (okS_owP h2 h4 h5 j)), chk_pos (by unfold I64; omega), Int.toNat_natCast]
    rfl
  · intro k
    simp only [Int.toNat_natCast]
    rw [F_spec_l10All_L1, ite_f (decide_eq_false (by omega))]
theorem sl2All_eq {n m : Int} {qa : List (Int × Bool)} (h : aaB n m qa = true) : F_spec_l2All n m qa = some (allP n m qa qa.length, m) := by
  obtain ⟨h1, h2, h3, h4, h5⟩ := aaB_in h
  unfold F_spec_l2All
  rw [bnd2_eq (sStart_eq m h1 h2)]
  refine jn_is (fun J => J (allP n m qa qa.length)) (fun J => ?_) rfl
  refine loop_up (fun k i (s : List Int) => F_spec_l2All_L1 qa m J k s i) ((qa.length : Nat) : Int) (fun i => allP n m qa i.toNat) _ ?_ ?_ (by omega) fuel (by have := fuel_ge; omega)
  · intro k i i0 i1
    obtain ⟨j, rfl⟩ := int_nat i0
    have e1 : ((j : Int) + 1).toNat = j + 1 := by omega
    simp only [Int.toNat_natCast, e1]
    rw [F_spec_l2All_L1, ite_t (decide_eq_true i1), chk_pos ⟨i0, i1⟩, chk_pos (okS_allP h2 h4 h5 j), chk_pos (by unfold I64; omega), Int.toNat_natCast]
    rfl
  · intro k
    simp only [Int.toNat_natCast]
    rw [F_spec_l2All_L1, ite_f (decide_eq_false (by omega))]
theorem iAnswerAll_eq (n m : Int) (qa : List (Int × Bool)) (hl : qa.length ≤ 1000) : F_impl_AnswerAll n m qa = some (anL n m qa, aaM n m qa, aaB n m qa) := by
  unfold F_impl_AnswerAll anL aaM
  refine jn_is (fun J => J (!(aaB n m qa))) (fun J => aa_if hl J) ?_
  rcases Bool.eq_false_or_eq_true (aaB n m qa) with h | h
  · obtain ⟨h1, h2, h3, h4, h5⟩ := aaB_in h
    rw [h, ite_f (by rfl), chk_pos (by omega), chk_pos h2]
    refine jn_is (fun J => J (allP n m qa qa.length)) (fun J => ?_) rfl
    refine loop_up (fun k i (s : List Int) => F_impl_AnswerAll_L1 m qa J k s i) ((qa.length : Nat) : Int) (fun i => allP n m qa i.toNat) _ ?_ ?_ (by omega) fuel (by have := fuel_ge; omega)
    · intro k i i0 i1
      obtain ⟨j, rfl⟩ := int_nat i0
      have e1 : ((j : Int) + 1).toNat = j + 1 := by omega
      simp only [Int.toNat_natCast, e1]
      rw [F_impl_AnswerAll_L1, ite_t (decide_eq_true i1), chk_pos ⟨i0, i1⟩, chk_pos (okS_allP h2 h4 h5 j), chk_pos (by unfold I64; omega), Int.toNat_natCast]
      rfl
    · intro k
      simp only [Int.toNat_natCast]
      rw [F_impl_AnswerAll_L1, ite_f (decide_eq_false (by omega))]
  · rw [h]; rfl
theorem sOneWayAll_eq (n m : Int) (qa : List (Int × Bool)) (hl : qa.length ≤ 1000) : F_spec_OneWayAll n m qa = some (owL n m qa, aaM n m qa, aaB n m qa) := by
  unfold F_spec_OneWayAll owL aaM
  refine jn_is (fun J => J (!(aaB n m qa))) (fun J => aa_if2 hl J) ?_
  rcases Bool.eq_false_or_eq_true (aaB n m qa) with h | h
  · rw [h, ite_f (by rfl), bnd2_eq (sl10All_eq h)]; rfl
  · rw [h]; rfl
def osB (xs : List Int) (m q : Int) : Bool := isStateN xs m && isQ ((xs.length : Nat) : Int) q
def osL (xs : List Int) (m q : Int) (y : Bool) : List Int := bif osB xs m q then owN m q y xs else []
def osM (xs : List Int) (m q : Int) : Int := bif osB xs m q then m else 0
theorem iOneWayState_eq (xs : List Int) (m q : Int) (y : Bool) (hx : xs.length ≤ 1000) : F_impl_OneWayState xs m q y = some (osL xs m q y, osM xs m q, osB xs m q) := by
  unfold F_impl_OneWayState osL osM
  refine jn_is (fun J => J (!(osB xs m q))) (fun J => ?_) ?_
  · rw [chk_pos (by omega)]
    unfold osB
    cases isStateN xs m <;> rfl
  · rcases Bool.eq_false_or_eq_true (osB xs m q) with h | h
    · have ⟨h1, _⟩ := Bool.and_eq_true_iff.1 h
      rw [h, ite_f (by rfl), bnd2_eq (iOneWay_eq (okS_of h1))]; rfl
    · rw [h]; rfl
theorem sOneWayState_eq (xs : List Int) (m q : Int) (y : Bool) (hx : xs.length ≤ 1000) : F_spec_OneWayState xs m q y = some (osL xs m q y, osM xs m q, osB xs m q) := by
  unfold F_spec_OneWayState osL osM
  refine jn_is (fun J => J (!(osB xs m q))) (fun J => ?_) ?_
  · rw [chk_pos (by omega)]
    unfold osB
    cases isStateN xs m <;> rfl
  · rcases Bool.eq_false_or_eq_true (osB xs m q) with h | h
    · have ⟨h1, _⟩ := Bool.and_eq_true_iff.1 h
      rw [h, ite_f (by rfl), bnd2_eq (sOneWay_eq (okS_of h1))]; rfl
    · rw [h]; rfl
def smB (n m : Int) (qa : List (Int × Bool)) : Bool := aaB n m qa && (owP n m qa qa.length == allP n m qa qa.length)
theorem iSame_eq (n m : Int) (qa : List (Int × Bool)) (hl : qa.length ≤ 1000) : F_impl_SameOneWay n m qa = some (smB n m qa, aaB n m qa) := by
  unfold F_impl_SameOneWay smB
  rw [bnd3_eq (iOneWayAll_eq n m qa hl), bnd3_eq (iAnswerAll_eq n m qa hl)]
  unfold owL anL
  rcases Bool.eq_false_or_eq_true (aaB n m qa) with h | h
  · obtain ⟨h1, h2, h3, h4, h5⟩ := aaB_in h
    rw [h, ite_f (by rfl), ite_t rfl, ite_t rfl, Bool.true_and]
    simp only [jn]
    have l1 := owP_len n m qa qa.length
    have l2 := allP_len (n := n) (m := m) (qa := qa) qa.length
    generalize owP n m qa qa.length = xs at *
    generalize allP n m qa qa.length = ys at *
    rw [eq_loop (fun k i => F_impl_SameOneWay_L1 xs ys (fun _ => some (true, true)) k i) xs ys (by omega) (by omega) (some (false, true)) (some (true, true)) (fun k i i0 i1 e => ?_) (fun k i i0 i1 e => ?_) (fun k => ?_)]
    · cases xs == ys <;> rfl
    · rw [F_impl_SameOneWay_L1, ite_t (decide_eq_true i1), chk_pos ⟨i0, i1⟩, chk_pos ⟨i0, by omega⟩, ite_f (by rw [e]; exact bne_self_eq_false _), chk_pos (by unfold I64; omega)]
    · rw [F_impl_SameOneWay_L1, ite_t (decide_eq_true i1), chk_pos ⟨i0, i1⟩, chk_pos ⟨i0, by omega⟩, ite_t (by rw [bne_iff_ne]; exact fun hh => e hh.symm)]
    · rw [F_impl_SameOneWay_L1, ite_f (decide_eq_false (by omega))]
  · rw [h]; rfl
theorem sSame_eq (n m : Int) (qa : List (Int × Bool)) (hl : qa.length ≤ 1000) : F_spec_SameOneWay n m qa = some (smB n m qa, aaB n m qa) := by
  unfold F_spec_SameOneWay smB
  refine jn_is (fun J => J (!(aaB n m qa))) (fun J => aa_if2 hl J) ?_
  rcases Bool.eq_false_or_eq_true (aaB n m qa) with h | h
  · obtain ⟨h1, h2, h3, h4, h5⟩ := aaB_in h
    rw [h, ite_f (by rfl), bnd2_eq (sl10All_eq h), bnd2_eq (sl2All_eq h), Bool.true_and]
    have l1 := owP_len n m qa qa.length
    have l2 := allP_len (n := n) (m := m) (qa := qa) qa.length
    generalize owP n m qa qa.length = xs at *
    generalize allP n m qa qa.length = ys at *
    have e : F_spec_l1Same xs ys = some (xs == ys) := by
      unfold F_spec_l1Same
      rw [ite_f (by rw [l1, l2]; exact bne_self_eq_false _)]
      simp only [jn]
      rw [eq_loop (fun k i => F_spec_l1Same_L1 xs ys (fun _ => some true) k i) xs ys (by omega) (by omega) (some false) (some true) (fun k i i0 i1 e => ?_) (fun k i i0 i1 e => ?_) (fun k => ?_)]
      · cases xs == ys <;> rfl
      · rw [F_spec_l1Same_L1, ite_t (decide_eq_true i1), chk_pos ⟨i0, i1⟩, chk_pos ⟨i0, by omega⟩, ite_f (by rw [e]; exact bne_self_eq_false _), chk_pos (by unfold I64; omega)]
      · rw [F_spec_l1Same_L1, ite_t (decide_eq_true i1), chk_pos ⟨i0, i1⟩, chk_pos ⟨i0, by omega⟩, ite_t (by rw [bne_iff_ne]; exact e)]
      · rw [F_spec_l1Same_L1, ite_f (decide_eq_false (by omega))]
    rw [bnd1_eq e]
  · rw [h]; rfl
theorem drawAll_ok {bs : List Int} (hy : okY bs) : ∃ n m qa, F_spec_DrawAnswerAll bs = some (n, m, qa) ∧ qa.length ≤ 100 ∧ 0 ≤ n ∧ n ≤ 13 := by
  unfold F_spec_DrawAnswerAll
  obtain ⟨n, p1, s1, e1, g0, g1, g2, g3⟩ := many_ok (s := 0) (p := 0) hy (by omega) (by omega)
  obtain ⟨m, p3, s3, e3, l0, l1, _⟩ := lies_ok (s := s1) (p := p1) hy (by omega) (by omega)
  obtain ⟨xs, p2, s2, e2, k0, k1, k2⟩ := asked_ok (s := s3) (p := p3) hy (by omega) (by omega) g2 g3
  rw [bnd4_eq e1, bnd4_eq e3, bnd4_eq e2]
  exact ⟨_, _, _, rfl, k2, g2, g3⟩
theorem drawSame_ok {bs : List Int} (hy : okY bs) : ∃ n m qa, F_spec_DrawSameOneWay bs = some (n, m, qa) ∧ qa.length ≤ 100 := by
  unfold F_spec_DrawSameOneWay
  obtain ⟨n, p1, s1, e1, g0, g1, g2, g3⟩ := many_ok (s := 0) (p := 0) hy (by omega) (by omega)
  obtain ⟨m, p3, s3, e3, l0, l1, _⟩ := lies_ok (s := s1) (p := p1) hy (by omega) (by omega)
  obtain ⟨xs, p2, s2, e2, k0, k1, k2⟩ := asked_ok (s := s3) (p := p3) hy (by omega) (by omega) g2 g3
  obtain ⟨b, p5, s5, e5, y0, y1⟩ := one_ok (s := s2) (n := 3) hy (p := p2) (by omega) (by omega)
  rw [bnd4_eq e1, bnd4_eq e3, bnd4_eq e2]
  simp only [jn]
  rw [bnd4_eq e5]
  cases b with
  | false => exact ⟨_, _, _, rfl, k2⟩
  | true =>
    rw [ite_t rfl]
    refine loop_m (fun k (z : List (Int × Bool) × Int) => F_spec_DrawSameOneWay_L1 (fun o => some (n, m, o)) k z.1 z.2) (fun z => 0 ≤ z.2 ∧ z.2 ≤ xs.length ∧ z.1.length = xs.length) (fun z => (xs.length - z.2).toNat) (fun o => ∃ n m qa, o = some (n, m, qa) ∧ qa.length ≤ 100) ?_ fuel (xs, 0) ⟨by simp, by simp, rfl⟩ (by have := fuel_ge; simp only; omega)
    rintro k ⟨zs, i⟩ ⟨i0, i1, il⟩
    simp only at i0 i1 il ⊢
    rw [F_spec_DrawSameOneWay_L1]
    by_cases hi : i < ((zs.length : Nat) : Int)
    · rw [ite_t (decide_eq_true hi), chk_pos ⟨i0, hi⟩, chk_pos (by unfold I64; omega)]
      exact .inl ⟨(_, i + 1), ⟨by simp only; omega, by simp only; omega, by simp only [List.length_set]; exact il⟩, by simp only; omega, rfl⟩
    · rw [ite_f (decide_eq_false hi)]
      exact .inr ⟨_, _, _, rfl, by omega⟩
theorem rState_same (xs : List Int) (m : Int) (hx : xs.length ≤ 1000) : F_laws_rState xs m xs m = some true := by
  unfold F_laws_rState
  rw [ite_t (beq_self_eq_true _), bnd1_eq (rInts_eq xs xs (by omega)), beq_self_eq_true]
/-- One way and both ways are alike where all answers are no. -/
theorem ow_no {n m : Int} {qa : List (Int × Bool)} : ∀ k, (∀ i, i < k → (qa.getD i (0, false)).2 = false) → owP n m qa k = allP n m qa k
  | 0, _ => rfl
  | k + 1, h => by rw [owP, allP_succ, ow_no k (fun i hi => h i (by omega)), h k (by omega)]; rfl
/-- And where there are no lies. -/
theorem ow_zero {n : Int} {qa : List (Int × Bool)} (hn : n ≤ 12) : ∀ k, owP n 0 qa k = allP n 0 qa k
  | 0 => rfl
  | k + 1 => by
    rw [owP, allP_succ, ow_zero hn k]
    have ho := okS_allP (n := n) (m := 0) (qa := qa) hn (Int.le_refl _) (by decide) k
    generalize allP n 0 qa k = xs at *
    generalize (qa.getD k (0, false)).1 = q
    cases (qa.getD k (0, false)).2 with
    | false => rfl
    | true =>
      refine List.ext_getElem (by rw [owN_len, ansN_len]) fun i h1 h2 => ?_
      rw [owN_len] at h1
      have g1 := clN_get (q := q) h1
      have g2 : (ansN 0 q true xs).getD i 0 = lieN 0 (falseB q true (i : Int)) (xs.getD i 0) := afterN_get h1
      have hb := ho.2.2.2 i
      have : (clN q xs).getD i 0 = (ansN 0 q true xs).getD i 0 := by
        rw [g1, g2]
        unfold falseB
        cases hasB q (i : Int) with
        | true => rw [lie_no (by rfl)]; rfl
        | false =>
          show (-1 : Int) = _
          by_cases h0 : xs.getD i 0 ≥ 0
          · rw [lie_over h0 (by rfl) (by omega)]
          · rw [lie_neg h0]; omega
      have hc : i < (clN q xs).length := by rw [clN_len]; exact h1
      have ha : i < (ansN 0 q true xs).length := h2
      rw [List.getD_eq_getElem?_getD, List.getD_eq_getElem?_getD, List.getElem?_eq_getElem hc, List.getElem?_eq_getElem ha] at this
      exact this
/-- What is open one way is as it is both ways. -/
theorem ow_open {n m : Int} {qa : List (Int × Bool)} (hm : 0 ≤ m) : ∀ k i, i < n.toNat → 0 ≤ (owP n m qa k).getD i 0 → (allP n m qa k).getD i 0 = (owP n m qa k).getD i 0
  | 0, i, _, _ => rfl
  | k + 1, i, hi, h => by
    have l1 := owP_len n m qa k
    have l2 := allP_len (n := n) (m := m) (qa := qa) k
    have ih := ow_open (n := n) (qa := qa) hm k i hi
    rw [owP] at h ⊢
    rw [allP_succ]
    generalize owP n m qa k = xs at *
    generalize allP n m qa k = ys at *
    generalize (qa.getD k (0, false)).1 = q at *
    have g2 : ∀ y, (ansN m q y ys).getD i 0 = lieN m (falseB q y (i : Int)) (ys.getD i 0) := fun y => afterN_get (by omega)
    generalize (qa.getD k (0, false)).2 = y at *
    cases y with
    | false =>
      have g1 : (ansN m q false xs).getD i 0 = lieN m (falseB q false (i : Int)) (xs.getD i 0) := afterN_get (by omega)
      show (ansN m q false ys).getD i 0 = (ansN m q false xs).getD i 0
      have h : 0 ≤ (ansN m q false xs).getD i 0 := h
      rw [g2, g1]
      by_cases h0 : 0 ≤ xs.getD i 0
      · rw [ih h0]
      · rw [g1, lie_neg (by omega)] at h
        exact absurd h h0
    | true =>
      have h : 0 ≤ (clN q xs).getD i 0 := h
      show (ansN m q true ys).getD i 0 = (clN q xs).getD i 0
      rw [clN_get (by omega)] at h ⊢
      rw [g2]
      unfold falseB
      cases hb : hasB q (i : Int) with
      | true =>
        rw [hb] at h
        have h : 0 ≤ xs.getD i 0 := h
        rw [lie_no (by rfl), ih h]; rfl
      | false =>
        rw [hb] at h
        have h : (0 : Int) ≤ -1 := h
        omega
/-- The loop that asks whether all answers are no. -/
theorem no_loop {qa : List (Int × Bool)} (hl : qa.length ≤ 1000) (J : Bool → Option Bool) : F_laws_FnOneWays_L2 qa J fuel 0 true = J (qa.all fun a => !a.2) := by
  have key := loop_up (fun n i (s : Bool) => F_laws_FnOneWays_L2 qa J n i s) ((qa.length : Nat) : Int) (fun i => (qa.take i.toNat).all fun a => !a.2) (J (qa.all fun a => !a.2)) ?_ ?_ (by omega) fuel (by have := fuel_ge; omega)
  · exact key
  · intro n i i0 i1
    obtain ⟨j, rfl⟩ := int_nat i0
    have hj : j < qa.length := by omega
    have e1 : ((j : Int) + 1).toNat = j + 1 := by omega
    have e2 : qa.getD j (0, false) = qa[j] := by rw [List.getD_eq_getElem?_getD, List.getElem?_eq_getElem hj]; rfl
    simp only [Int.toNat_natCast, e1]
    rw [F_laws_FnOneWays_L2, ite_t (decide_eq_true i1), chk_pos ⟨i0, i1⟩, Int.toNat_natCast, e2, ← List.take_append_getElem hj, List.all_append]
    cases (qa.take j).all fun a => !a.2 with
    | true => rw [ite_t rfl, chk_pos (by unfold I64; omega)]; simp
    | false => rw [ite_f rfl, chk_pos (by unfold I64; omega)]; rfl
  · intro n
    simp only [Int.toNat_natCast, List.take_length]
    rw [F_laws_FnOneWays_L2, ite_f (decide_eq_false (by omega))]
theorem law_oneways {bs : List Int} (hy : okY bs) (hb : bs.length ≤ 9223372036854775807) : F_laws_FnOneWays bs = some true := by
  unfold F_laws_FnOneWays
  rw [chk_pos hb]
  rcases Bool.eq_false_or_eq_true (decide (((List.length bs : Nat) : Int) > (65536 : Int))) with hB | hB
  · rw [ite_t hB]
  rw [ite_f hB]
  obtain ⟨n, m, qa, e1, hl, hn0, hn1⟩ := drawAll_ok hy
  obtain ⟨xs, m2, q, y, e2, ⟨hm1, hm2, hx, hx2⟩, _⟩ := drawAnswer_ok hy
  obtain ⟨n3, m3, qa3, e3, hl3⟩ := drawSame_ok hy
  have e1' : F_spec_DrawOneWayAll bs = some (n, m, qa) := by unfold F_spec_DrawOneWayAll; rw [bnd3_eq e1]
  have e2' : F_spec_DrawOneWayState bs = some (xs, m2, q, y) := by unfold F_spec_DrawOneWayState; rw [bnd4_eq e2]
  rw [bnd3_eq e1', bnd3_eq (iOneWayAll_eq n m qa (by omega)), bnd3_eq (sOneWayAll_eq n m qa (by omega))]
  have ol : (owL n m qa).length ≤ 1000 := by
    unfold owL
    cases aaB n m qa
    · exact Nat.zero_le _
    · rw [ite_t rfl, owP_len]; omega
  have sl : (osL xs m2 q y).length ≤ 1000 := by
    unfold osL
    cases osB xs m2 q
    · exact Nat.zero_le _
    · rw [ite_t rfl, owN_len]; omega
  refine jn_is (fun J => J false) (fun J => by simp only [bnd1_eq (rState_same _ _ ol), beq_self_eq_true, Bool.not_true, cond_false]) ?_
  rw [ite_f rfl, bnd4_eq e2', bnd3_eq (iOneWayState_eq xs m2 q y (by omega)), bnd3_eq (sOneWayState_eq xs m2 q y (by omega))]
  refine jn_is (fun J => J false) (fun J => by simp only [bnd1_eq (rState_same _ _ sl), beq_self_eq_true, Bool.not_true, cond_false]) ?_
  rw [ite_f rfl, bnd3_eq e3, bnd2_eq (iSame_eq n3 m3 qa3 (by omega)), bnd2_eq (sSame_eq n3 m3 qa3 (by omega))]
  refine jn_is (fun J => J false) (fun J => by simp only [beq_self_eq_true, Bool.not_true, cond_false]) ?_
  rw [ite_f rfl]
  refine jn_is (fun J => J ()) (fun J => ?_) ?_
  · rcases Bool.eq_false_or_eq_true (osB xs m2 q) with h | h
    · rw [ite_t h]
      unfold osL
      rw [ite_t h]
      refine loop_up (fun k i (s : Unit) => F_laws_FnOneWays_L1 xs q y (owN m2 q y xs) J k i) ((xs.length : Nat) : Int) (fun _ => ()) (J ()) ?_ ?_ (by omega) fuel (by have := fuel_ge; omega)
      · intro k i i0 i1
        obtain ⟨j, rfl⟩ := int_nat i0
        have hj : j < xs.length := by omega
        have h64 : (j : Int) < 64 := by omega
        have hlen := owN_len m2 q y xs
        rw [F_laws_FnOneWays_L1, ite_t (decide_eq_true i1), chk_pos ⟨i0, h64⟩]
        simp only [nam]
        rw [and1_has i0 h64, Int.toNat_natCast]
        have hi1 : 0 ≤ (j : Int) ∧ (j : Int) < ((List.length (owN m2 q y xs) : Nat) : Int) := by rw [hlen]; exact ⟨i0, i1⟩
        refine jn_is (fun J2 => J2 false) (fun J2 => ?_) (by rw [ite_f rfl, chk_pos (by unfold I64; omega)])
        cases y with
        | true =>
          have g1 : (owN m2 q true xs).getD j 0 = bif hasB q (j : Int) then xs.getD j 0 else -1 := clN_get hj
          rw [g1, chk_pos hi1, chk_pos ⟨i0, i1⟩]
          cases hasB q (j : Int) with
          | true => simp
          | false => simp; rw [chk_pos (by omega)]
        | false =>
          rw [chk_pos hi1, chk_pos ⟨i0, i1⟩]
          have g1 : (owN m2 q false xs).getD j 0 = lieN m2 (falseB q false (j : Int)) (xs.getD j 0) := afterN_get hj
          cases hb : hasB q (j : Int) with
          | true => simp
          | false =>
            have : falseB q false (j : Int) = false := by unfold falseB; rw [hb]; rfl
            rw [this, lie_no rfl] at g1
            rw [g1]; simp
            repeat rw [chk_pos (by omega)]
      · intro k
        rw [F_laws_FnOneWays_L1, ite_f (decide_eq_false (by omega))]
    · rw [ite_f h]
  · refine jn_is (fun J => J ()) (fun J => ?_) ?_
    · rcases Bool.eq_false_or_eq_true (aaB n3 m3 qa3) with h | h
      · rw [ite_t h]
        obtain ⟨h1, h2, h3, h4, h5⟩ := aaB_in h
        refine jn_is (fun J2 => J2 (qa3.all fun a => !a.2)) (fun J2 => no_loop (by omega) J2) ?_
        refine jn_is (fun J2 => J2 false) (fun J2 => ?_) (ite_f rfl _ _)
        unfold smB
        rw [h, Bool.true_and]
        rcases Bool.eq_false_or_eq_true (qa3.all fun a => !a.2) with ha | ha
        · have : owP n3 m3 qa3 qa3.length = allP n3 m3 qa3 qa3.length := ow_no _ fun i hi => by
            rw [List.getD_eq_getElem?_getD, List.getElem?_eq_getElem hi]
            have := List.all_eq_true.1 ha _ (List.getElem_mem hi)
            simpa using this
          rw [ha, this, beq_self_eq_true]; rfl
        · rw [ha, ite_f rfl]
          rcases Bool.eq_false_or_eq_true (m3 == (0 : Int)) with hz | hz
          · have hm0 : m3 = 0 := beq_iff_eq.1 hz
            subst hm0
            rw [ow_zero h2]; simp only [beq_self_eq_true, cond_true, Bool.not_true]
          · rw [ite_f hz]
      · rw [ite_f h]
    · rcases Bool.eq_false_or_eq_true (aaB n m qa) with h | h
      · obtain ⟨h1, h2, h3, h4, h5⟩ := aaB_in h
        rw [h, ite_f (by rfl), bnd3_eq (iAnswerAll_eq n m qa (by omega)), h, ite_f (by rfl)]
        simp only [jn]
        unfold owL anL
        rw [ite_t h, ite_t h]
        have l1 := owP_len n m qa qa.length
        have l2 := allP_len (n := n) (m := m) (qa := qa) qa.length
        have hop := ow_open (n := n) (qa := qa) h4 qa.length
        generalize owP n m qa qa.length = us at *
        generalize allP n m qa qa.length = vs at *
        refine loop_up (fun k i (s : Unit) => F_laws_FnOneWays_L3 n us vs (fun _ => some true) k i) n (fun _ => ()) (some true) ?_ ?_ (by omega) fuel (by have := fuel_ge; omega)
        · intro k i i0 i1
          rw [F_laws_FnOneWays_L3, ite_t (decide_eq_true i1)]
          refine jn_is (fun J2 => J2 false) (fun J2 => ?_) (by rw [ite_f rfl, chk_pos (by unfold I64; omega)])
          rw [chk_pos ⟨i0, by omega⟩, chk_pos ⟨i0, by omega⟩]
          rcases Bool.eq_false_or_eq_true (decide (us.getD i.toNat 0 ≥ 0)) with h7 | h7
          · rw [ite_t h7, hop i.toNat (by omega) (of_decide_eq_true h7), bne_self_eq_false]
          · rw [ite_f h7]
        · intro k
          rw [F_laws_FnOneWays_L3, ite_f (decide_eq_false (by omega))]
      · rw [h]; rfl
end Go.Tl
