/-
  Plain laws of the printed functions: no program here.
-/
import Derived.Test.YtbaooedhbihkjaaAuBF
namespace Go.Tl
set_option linter.unusedVariables false
set_option linter.unusedSimpArgs false
/-- A loop, told by what its rounds keep. -/
theorem loop_m {σ R : Type} (L : Nat → σ → Option R) (I : σ → Prop) (μ : σ → Nat) (Q : Option R → Prop)
    (step : ∀ n s, I s → (∃ s', I s' ∧ μ s' < μ s ∧ L (n + 1) s = L n s') ∨ Q (L (n + 1) s)) : ∀ n s, I s → μ s < n → Q (L n s) := by
  intro n
  induction n with
  | zero => intro s _ h; omega
  | succ n ih =>
    intro s hI hm
    rcases step n s hI with ⟨s', h1, h2, h3⟩ | h
    · rw [h3]; exact ih s' h1 (by omega)
    · exact h
/-- A loop that counts up to N; st is its state by the count. -/
theorem loop_up {σ R : Type} (L : Nat → Int → σ → Option R) (N : Int) (st : Int → σ) (r : Option R)
    (step : ∀ n i, 0 ≤ i → i < N → L (n + 1) i (st i) = L n (i + 1) (st (i + 1))) (fin : ∀ n, L (n + 1) N (st N) = r) (h0 : 0 ≤ N) (n : Nat) (hn : N.toNat < n) : L n 0 (st 0) = r := by
  have key : ∀ (k : Nat) (n : Nat) (i : Int), 0 ≤ i → i + k = N → k < n → L n i (st i) = r := by
    intro k
    induction k with
    | zero => intro n i h1 h2 h3; obtain ⟨n, rfl⟩ : ∃ m, n = m + 1 := ⟨n - 1, by omega⟩; have e : i = N := by omega
              subst e; exact fin n
    | succ k ih =>
      intro n i h1 h2 h3
      obtain ⟨n, rfl⟩ : ∃ m, n = m + 1 := ⟨n - 1, by omega⟩
      rw [step n i h1 (by omega)]
      exact ih n (i + 1) (by omega) (by omega) (by omega)
  exact key N.toNat n 0 (Int.le_refl _) (by omega) hn
/-- A loop that counts up to N and may end early: with what p tells. -/
theorem loop_all {R : Type} (L : Nat → Int → Option R) (N : Int) (p : Int → Bool) (no yes : Option R)
    (step : ∀ n i, 0 ≤ i → i < N → p i = true → L (n + 1) i = L n (i + 1)) (stop : ∀ n i, 0 ≤ i → i < N → p i = false → L (n + 1) i = no) (fin : ∀ n, L (n + 1) N = yes) (h0 : 0 ≤ N) (n : Nat) (hn : N.toNat < n) :
    (L n 0 = yes ∧ ∀ i, 0 ≤ i → i < N → p i = true) ∨ (L n 0 = no ∧ ∃ i, 0 ≤ i ∧ i < N ∧ p i = false ∧ ∀ j, 0 ≤ j → j < i → p j = true) := by
  have key : ∀ (k : Nat) (n : Nat) (i : Int), 0 ≤ i → i + k = N → k < n → (∀ j, 0 ≤ j → j < i → p j = true) → (L n i = yes ∧ ∀ i, 0 ≤ i → i < N → p i = true) ∨ (L n i = no ∧ ∃ i, 0 ≤ i ∧ i < N ∧ p i = false ∧ ∀ j, 0 ≤ j → j < i → p j = true) := by
    intro k
    induction k with
    | zero => intro n i h1 h2 h3 h4; obtain ⟨n, rfl⟩ : ∃ m, n = m + 1 := ⟨n - 1, by omega⟩; have e : i = N := by omega
              subst e; exact .inl ⟨fin n, h4⟩
    | succ k ih =>
      intro n i h1 h2 h3 h4
      obtain ⟨n, rfl⟩ : ∃ m, n = m + 1 := ⟨n - 1, by omega⟩
      cases hp : p i with
      | false => exact .inr ⟨stop n i h1 (by omega) hp, i, h1, by omega, hp, h4⟩
      | true =>
        rw [step n i h1 (by omega) hp]
        refine ih n (i + 1) (by omega) (by omega) (by omega) fun j k1 k2 => ?_
        by_cases e : j = i
        · rw [e]; exact hp
        · exact h4 j k1 (by omega)
  exact key N.toNat n 0 (Int.le_refl _) (by omega) hn fun j h1 h2 => by omega
theorem ite_t {α : Type} {c : Bool} (h : c = true) (x y : α) : (bif c then x else y) = x := by rw [h]; rfl
theorem ite_f {α : Type} {c : Bool} (h : c = false) (x y : α) : (bif c then x else y) = y := by rw [h]; rfl
theorem ite_c {α : Type} {P : α → Prop} {c : Bool} {x y : α} (h1 : c = true → P x) (h2 : c = false → P y) : P (bif c then x else y) := by
  cases c
  · exact h2 rfl
  · exact h1 rfl
theorem getD_in {xs : List Int} {i : Nat} {P : Int → Prop} (h : i < xs.length) (hP : ∀ x ∈ xs, P x) : P (xs.getD i 0) := by
  rw [List.getD_eq_getElem?_getD, List.getElem?_eq_getElem h]; exact hP _ (List.getElem_mem h)
theorem maxN_in {a b : Int} : a ≤ maxN a b ∧ b ≤ maxN a b ∧ (maxN a b = a ∨ maxN a b = b) := by unfold maxN; split <;> omega
theorem minN_in {a b : Int} : minN a b ≤ a ∧ minN a b ≤ b ∧ (minN a b = a ∨ minN a b = b) := by unfold minN; split <;> omega
theorem next_ok {bs : List Int} {p s : Int} (hy : okY bs) (h0 : 0 ≤ p) (h1 : p ≤ 1000000000000) : ∃ v s', F_p_spec_l1Cur_next bs p s = some (v, bs, p + 1, s') ∧ 0 ≤ v ∧ v ≤ 255 := by
  unfold F_p_spec_l1Cur_next
  have hb := hy p.toNat
  have fin : ∀ v3 : Int, 0 ≤ v3 → v3 ≤ 255 → ∃ v s', (chk (I64 (p + (1 : Int))) <| nam (IntKind.wrap .u64 (s * (6364136223846793005 : Int))) fun n37 => nam (IntKind.wrap .u64 (n37 + (IntKind.wrap .u64 v3))) fun n40 => (bif (decide ((p + (1 : Int)) ≤ ((List.length bs : Nat) : Int))) then some (v3, bs, (p + (1 : Int)), (IntKind.wrap .u64 (n40 + (462197 : Int)))) else nam (bits .and .u64 ((IntKind.wrap .u64 (n40 + (462197 : Int))) / 2 ^ Int.toNat (40 : Int)) (255 : Int)) fun n60 => chk (I64 n60) <| some (n60, bs, (p + (1 : Int)), (IntKind.wrap .u64 (n40 + (462197 : Int)))))) = some (v, bs, p + 1, s') ∧ 0 ≤ v ∧ v ≤ 255 := by
    intro v3 k0 k1
    rw [chk_pos (by unfold I64; omega)]
    simp only [nam]
    refine ite_c (P := fun o => ∃ v s', o = some (v, bs, p + 1, s') ∧ 0 ≤ v ∧ v ≤ 255) (fun _ => ?_) (fun _ => ?_)
    · exact ⟨_, _, rfl, k0, k1⟩
    · have h2 := and255 ((IntKind.wrap .u64 ((IntKind.wrap .u64 ((IntKind.wrap .u64 (s * (6364136223846793005 : Int))) + (IntKind.wrap .u64 v3))) + (462197 : Int))) / 2 ^ Int.toNat (40 : Int))
      rw [chk_pos (by unfold I64; omega)]
      exact ⟨_, _, rfl, h2.1, h2.2⟩
  simp only [jn]
  refine ite_c (P := fun o => ∃ v s', o = some (v, bs, p + 1, s') ∧ 0 ≤ v ∧ v ≤ 255) (fun h => ?_) (fun _ => ?_)
  · have h := of_decide_eq_true h
    rw [chk_pos (by omega), chk_pos (by unfold I64; omega)]
    exact fin _ hb.1 hb.2
  · exact fin 0 (by omega) (by omega)
theorem tmod_in {a n : Int} (h0 : 0 ≤ a) (h1 : 0 < n) : 0 ≤ Int.tmod a n ∧ Int.tmod a n < n := ⟨Int.tmod_nonneg _ h0, Int.tmod_lt_of_pos _ h1⟩
theorem pick_ok {bs : List Int} {p s n : Int} (hy : okY bs) (h0 : 0 ≤ p) (h1 : p ≤ 900000000000) : ∃ v p' s', F_p_spec_l1Cur_pick bs p s n = some (v, bs, p', s') ∧ p ≤ p' ∧ p' ≤ p + 2 ∧ 0 ≤ v ∧ (1 ≤ n → v < n) := by
  unfold F_p_spec_l1Cur_pick
  rcases Bool.eq_false_or_eq_true (decide (n ≤ (1 : Int))) with h | h
  · have h := of_decide_eq_true h
    rw [ite_t (decide_eq_true h)]
    exact ⟨0, p, s, rfl, by omega, by omega, by omega, fun _ => by omega⟩
  · rw [ite_f h]
    have h := of_decide_eq_false h
    obtain ⟨v, s', e, g0, g1⟩ := next_ok (s := s) hy h0 (by omega)
    rw [bnd4_eq e]
    simp only [jn]
    rcases Bool.eq_false_or_eq_true (decide (n > (200 : Int))) with h4 | h4
    · rw [ite_t h4]
      obtain ⟨v2, s2, e2, k0, k1⟩ := next_ok (s := s') hy (p := p + 1) (by omega) (by omega)
      rw [chk_pos (by unfold I64; omega), bnd4_eq e2, chk_pos (by unfold I64; omega), chk_pos (by omega)]
      have := tmod_in (a := v * 256 + v2) (n := n) (by omega) (by omega)
      exact ⟨_, _, _, rfl, by omega, by omega, this.1, fun _ => this.2⟩
    · rw [ite_f h4]
      rw [chk_pos (by omega)]
      have := tmod_in (a := v) (n := n) (by omega) (by omega)
      exact ⟨_, _, _, rfl, by omega, by omega, this.1, fun _ => this.2⟩
theorem one_ok {bs : List Int} {p s n : Int} (hy : okY bs) (h0 : 0 ≤ p) (h1 : p ≤ 900000000000) : ∃ b p' s', F_p_spec_l1Cur_one bs p s n = some (b, bs, p', s') ∧ p ≤ p' ∧ p' ≤ p + 2 := by
  unfold F_p_spec_l1Cur_one
  obtain ⟨v, p', s', e, g0, g1, g2, g3⟩ := pick_ok (s := s) (n := n) hy h0 h1
  rw [bnd4_eq e]
  exact ⟨_, _, _, rfl, g0, g1⟩
theorem among_ok {bs : List Int} {p s : Int} {xs : List Int} (hy : okY bs) (h0 : 0 ≤ p) (h1 : p ≤ 900000000000) (hx : 0 < xs.length) : ∃ v p' s', F_p_spec_l1Cur_among bs p s xs = some (v, bs, p', s') ∧ p ≤ p' ∧ p' ≤ p + 2 ∧ v ∈ xs := by
  unfold F_p_spec_l1Cur_among
  obtain ⟨v, p', s', e, g0, g1, g2, g3⟩ := pick_ok (s := s) (n := ((List.length xs : Nat) : Int)) hy h0 h1
  rw [bnd4_eq e, chk_pos ⟨g2, g3 (by omega)⟩]
  refine ⟨_, _, _, rfl, g0, g1, ?_⟩
  have := g3 (by omega)
  exact getD_in (P := fun x => x ∈ xs) (by omega) fun x hx => hx
theorem many_ok {bs : List Int} {p s : Int} (hy : okY bs) (h0 : 0 ≤ p) (h1 : p ≤ 900000000000) : ∃ v p' s', F_p_spec_l1Cur_many bs p s = some (v, bs, p', s') ∧ p ≤ p' ∧ p' ≤ p + 2 ∧ 0 ≤ v ∧ v ≤ 13 := by
  unfold F_p_spec_l1Cur_many
  obtain ⟨v, p', s', e, g0, g1, g2⟩ := among_ok (s := s) (xs := [(4 : Int), (6 : Int), (8 : Int), (3 : Int), (5 : Int), (2 : Int), (7 : Int), (12 : Int), (1 : Int), (0 : Int), (13 : Int), (4 : Int), (6 : Int), (8 : Int), (3 : Int), (5 : Int)]) hy h0 h1 (by decide)
  rw [bnd4_eq e]
  refine ⟨_, _, _, rfl, g0, g1, ?_⟩
  simp only [List.mem_cons, List.not_mem_nil, or_false] at g2
  omega
theorem lies_ok {bs : List Int} {p s : Int} (hy : okY bs) (h0 : 0 ≤ p) (h1 : p ≤ 900000000000) : ∃ v p' s', F_p_spec_l1Cur_lies bs p s = some (v, bs, p', s') ∧ p ≤ p' ∧ p' ≤ p + 2 ∧ -1 ≤ v ∧ v ≤ 3 := by
  unfold F_p_spec_l1Cur_lies
  obtain ⟨v, p', s', e, g0, g1, g2⟩ := among_ok (s := s) (xs := [(1 : Int), (1 : Int), (2 : Int), (0 : Int), (1 : Int), (2 : Int), (1 : Int), (3 : Int), (-1 : Int), (1 : Int), (2 : Int), (0 : Int)]) hy h0 h1 (by decide)
  rw [bnd4_eq e]
  refine ⟨_, _, _, rfl, g0, g1, ?_⟩
  simp only [List.mem_cons, List.not_mem_nil, or_false] at g2
  omega
theorem pow13 {n : Int} (h0 : 0 ≤ n) (h1 : n ≤ 13) : 1 ≤ (2 : Int) ^ n.toNat ∧ (2 : Int) ^ n.toNat ≤ 8192 := by
  obtain ⟨k, rfl⟩ : ∃ k : Nat, n = k := ⟨n.toNat, by omega⟩
  have : k ≤ 13 := by omega
  simp only [Int.toNat_natCast]
  match k, this with
  | 0, _ | 1, _ | 2, _ | 3, _ | 4, _ | 5, _ | 6, _ | 7, _ | 8, _ | 9, _ | 10, _ | 11, _ | 12, _ | 13, _ => decide
theorem question_ok {bs : List Int} {p s n : Int} (hy : okY bs) (h0 : 0 ≤ p) (h1 : p ≤ 800000000000) : ∃ v p' s', F_p_spec_l1Cur_question bs p s n = some (v, bs, p', s') ∧ p ≤ p' ∧ p' ≤ p + 4 ∧ -1 ≤ v ∧ v ≤ 4611686018427387904 := by
  unfold F_p_spec_l1Cur_question
  obtain ⟨v, p', s', e, g0, g1⟩ := one_ok (s := s) (n := 24) hy h0 (by omega)
  rw [bnd4_eq e]
  have a1 := minN_in (a := n) (b := 13)
  have a2 := maxN_in (a := 0) (b := minN n 13)
  have a3 := minN_in (a := n) (b := 12)
  have a4 := maxN_in (a := 0) (b := minN n 12)
  have b1 := pow13 (n := maxN 0 (minN n 13)) (by omega) (by omega)
  have b2 := pow13 (n := maxN 0 (minN n 12)) (by omega) (by omega)
  rcases Bool.eq_false_or_eq_true v with h4 | h4
  · rw [ite_t h4]
    rw [chk_pos ⟨by omega, by omega, by unfold I64; omega⟩]
    obtain ⟨v2, p2, s2, e2, k0, k1, k2⟩ := among_ok (s := s') (xs := [(-1 : Int), ((1 : Int) * 2 ^ Int.toNat (maxN (0 : Int) (minN n (13 : Int)))), (4611686018427387904 : Int)]) hy (p := p') (by omega) (by omega) (by simp)
    rw [bnd4_eq e2]
    refine ⟨_, _, _, rfl, by omega, by omega, ?_⟩
    simp only [List.mem_cons, List.not_mem_nil, or_false] at k2
    omega
  · rw [ite_f h4]
    rw [chk_pos ⟨by omega, by omega, by unfold I64; omega⟩]
    obtain ⟨v2, p2, s2, e2, k0, k1, k2, k3⟩ := pick_ok (s := s') (n := (1 : Int) * 2 ^ Int.toNat (maxN (0 : Int) (minN n (12 : Int)))) hy (p := p') (by omega) (by omega)
    rw [bnd4_eq e2]
    have := k3 (by omega)
    exact ⟨_, _, _, rfl, by omega, by omega, by omega, by omega⟩
theorem state_ok {bs : List Int} {p s : Int} (hy : okY bs) (h0 : 0 ≤ p) (h1 : p ≤ 700000000000) : ∃ xs m p' s', F_p_spec_l1Cur_state bs p s = some (xs, m, bs, p', s') ∧ p ≤ p' ∧ p' ≤ p + 100 ∧ -1 ≤ m ∧ m ≤ 3 ∧ xs.length ≤ 13 ∧ (∀ x ∈ xs, -1 ≤ x ∧ x ≤ 4) := by
  unfold F_p_spec_l1Cur_state
  obtain ⟨m, p1, s1, e1, g0, g1, g2, g3⟩ := lies_ok (s := s) hy h0 (by omega)
  obtain ⟨k, p2, s2, e2, k0, k1, k2, k3⟩ := many_ok (s := s1) hy (p := p1) (by omega) (by omega)
  rw [bnd4_eq e1, bnd4_eq e2]
  simp only [jn]
  let Q : Option (List Int × Int × List Int × Int × Int) → Prop := fun o => ∃ xs m p' s', o = some (xs, m, bs, p', s') ∧ p ≤ p' ∧ p' ≤ p + 100 ∧ -1 ≤ m ∧ m ≤ 3 ∧ xs.length ≤ 13 ∧ (∀ x ∈ xs, -1 ≤ x ∧ x ≤ 4)
  have fin2 : ∀ (xs : List Int) (pp ss : Int), p ≤ pp → pp ≤ p + 56 → xs.length = k.toNat → (∀ x ∈ xs, -1 ≤ x ∧ x ≤ 4) → Q (F_p_spec_l1Cur_state_L2 m k (fun o500d o500e o500g o12b => some (o12b, m, o500d, o500e, o500g)) fuel bs pp ss xs 0) := by
    intro xs pp ss hp1 hp2 hl hx
    refine loop_m (fun n (z : Int × Int × List Int × Int) => F_p_spec_l1Cur_state_L2 m k (fun o500d o500e o500g o12b => some (o12b, m, o500d, o500e, o500g)) n bs z.1 z.2.1 z.2.2.1 z.2.2.2) (fun z => 0 ≤ z.2.2.2 ∧ z.2.2.2 ≤ k ∧ p ≤ z.1 ∧ z.1 ≤ p + 56 + 2 * z.2.2.2 ∧ z.2.2.1.length = k.toNat ∧ ∀ x ∈ z.2.2.1, -1 ≤ x ∧ x ≤ 4) (fun z => (k - z.2.2.2).toNat) Q ?_ fuel (pp, ss, xs, 0) ⟨by simp only; omega, by simp only; omega, hp1, by simp only; omega, hl, hx⟩ (by have := fuel_ge; simp only; omega)
    rintro n ⟨pp, ss, xs, i⟩ ⟨i0, i1, q0, q1, ql, qx⟩
    simp only at i0 i1 q0 q1 ql qx ⊢
    rw [F_p_spec_l1Cur_state_L2]
    by_cases hi : i < k
    · rw [ite_t (decide_eq_true hi)]
      simp only [jn]
      rw [chk_pos (by omega)]
      have stay : ∀ pp', p ≤ pp' → pp' ≤ p + 56 + 2 * (i + 1) → ∀ ss' (b : Bool), (∃ s' : Int × Int × List Int × Int, (0 ≤ s'.2.2.2 ∧ s'.2.2.2 ≤ k ∧ p ≤ s'.1 ∧ s'.1 ≤ p + 56 + 2 * s'.2.2.2 ∧ s'.2.2.1.length = k.toNat ∧ ∀ x ∈ s'.2.2.1, -1 ≤ x ∧ x ≤ 4) ∧ (k - s'.2.2.2).toNat < (k - i).toNat ∧
          (bif b then chk (0 ≤ i ∧ i < ((List.length xs : Nat) : Int)) <| chk (I64 (i + (1 : Int))) <| F_p_spec_l1Cur_state_L2 m k (fun o500d o500e o500g o12b => some (o12b, m, o500d, o500e, o500g)) n bs pp' ss' (List.set xs (Int.toNat i) (-1 : Int)) (i + (1 : Int)) else chk (I64 (i + (1 : Int))) <| F_p_spec_l1Cur_state_L2 m k (fun o500d o500e o500g o12b => some (o12b, m, o500d, o500e, o500g)) n bs pp' ss' xs (i + (1 : Int))) = F_p_spec_l1Cur_state_L2 m k (fun o500d o500e o500g o12b => some (o12b, m, o500d, o500e, o500g)) n bs s'.1 s'.2.1 s'.2.2.1 s'.2.2.2) := by
        intro pp' r0 r1 ss' b
        cases b
        · rw [ite_f rfl, chk_pos (by unfold I64; omega)]
          exact ⟨(pp', ss', xs, i + 1), ⟨by simp only; omega, by simp only; omega, r0, r1, ql, qx⟩, by simp only; omega, rfl⟩
        · rw [ite_t rfl, chk_pos (by omega), chk_pos (by unfold I64; omega)]
          refine ⟨(pp', ss', List.set xs (Int.toNat i) (-1), i + 1), ⟨by simp only; omega, by simp only; omega, r0, r1, by simp only [List.length_set]; exact ql, fun x hx => ?_⟩, by simp only; omega, rfl⟩
          rcases List.mem_or_eq_of_mem_set hx with h | h
          · exact qx x h
          · subst h; omega
      rcases Bool.eq_false_or_eq_true (decide (List.getD xs (Int.toNat i) 0 > m)) with h4 | h4
      · rw [ite_t h4]
        obtain ⟨b, p4, s4, e4, w0, w1⟩ := one_ok (s := ss) (n := 30) hy (p := pp) (by omega) (by omega)
        rw [bnd4_eq e4]
        exact .inl (stay p4 (by omega) (by omega) s4 (!b))
      · rw [ite_f h4]
        exact .inl (stay pp (by omega) (by omega) ss false)
    · rw [ite_f (decide_eq_false hi)]
      exact .inr ⟨_, _, _, _, rfl, by omega, by omega, g2, g3, by omega, qx⟩
  refine loop_m (fun n (z : Int × Int × List Int × Int) => F_p_spec_l1Cur_state_L1 m k (fun o500 o500b o500c o12 => F_p_spec_l1Cur_state_L2 m k (fun o500d o500e o500g o12b => some (o12b, m, o500d, o500e, o500g)) fuel o500 o500b o500c o12 0) n bs z.1 z.2.1 z.2.2.1 z.2.2.2) (fun z => 0 ≤ z.2.2.2 ∧ z.2.2.2 ≤ k ∧ p ≤ z.1 ∧ z.1 ≤ p + 4 + 4 * z.2.2.2 ∧ z.2.2.1.length = z.2.2.2.toNat ∧ ∀ x ∈ z.2.2.1, -1 ≤ x ∧ x ≤ 4) (fun z => (k - z.2.2.2).toNat) Q ?_ fuel (p2, s2, [], 0) ⟨by simp, by simp only; omega, by simp only; omega, by simp only; omega, rfl, fun x hx => by simp at hx⟩ (by have := fuel_ge; simp only; omega)
  rintro n ⟨pp, ss, xs, i⟩ ⟨i0, i1, q0, q1, ql, qx⟩
  simp only at i0 i1 q0 q1 ql qx ⊢
  rw [F_p_spec_l1Cur_state_L1]
  by_cases hi : i < k
  · rw [ite_t (decide_eq_true hi), chk_pos (by unfold I64; omega)]
    have a2 := maxN_in (a := 1) (b := m + 2)
    obtain ⟨v, p4, s4, e4, w0, w1, w2, w3⟩ := pick_ok (s := ss) (n := maxN 1 (m + 2)) hy (p := pp) (by omega) (by omega)
    obtain ⟨v5, p5, s5, e5, y0, y1, y2, y3⟩ := pick_ok (s := s4) (n := 6) hy (p := p4) (by omega) (by omega)
    have hd := d5_in y2 (y3 (by omega))
    unfold d5 at hd
    have hv := w3 (by omega)
    rw [bnd4_eq e4, bnd4_eq e5, chk_pos (by unfold I64; omega), chk_pos (by unfold I64; omega), chk_pos ⟨by omega, by simp only [maxLen]; omega⟩, chk_pos (by unfold I64; omega)]
    refine .inl ⟨(p5, s5, xs ++ [v - Int.tdiv v5 5], i + 1), ⟨by simp only; omega, by simp only; omega, by simp only; omega, by simp only; omega, by simp only [List.length_append, List.length_cons, List.length_nil]; omega, fun x hx => ?_⟩, by simp only; omega, rfl⟩
    rcases List.mem_append.1 hx with h | h
    · exact qx x h
    · simp only [List.mem_cons, List.not_mem_nil, or_false] at h
      omega
  · rw [ite_f (decide_eq_false hi)]
    exact .inr (fin2 xs pp ss q0 (by omega) (by omega) qx)
theorem jn_is {γ δ : Type} {f : γ} {g : γ → Option δ} {r : Option δ} (k : γ → Option δ) (h : ∀ J, g J = k J) (h2 : k f = r) : jn f g = r := by
  unfold jn; rw [h f]; exact h2
/-- The numbers below k that p tells. -/
def fl (p : Nat → Bool) (k : Nat) : List Int := ((List.range k).filter p).map fun (i : Nat) => (i : Int)
theorem fl_yes {p : Nat → Bool} {k : Nat} (h : p k = true) : fl p (k + 1) = fl p k ++ [(k : Int)] := by
  unfold fl; rw [List.range_succ, List.filter_append, List.map_append, List.filter_cons, if_pos h]; rfl
theorem fl_no {p : Nat → Bool} {k : Nat} (h : p k = false) : fl p (k + 1) = fl p k := by
  unfold fl; rw [List.range_succ, List.filter_append, List.map_append, List.filter_cons, if_neg (by rw [h]; simp)]; simp
theorem fl_len (p : Nat → Bool) (k : Nat) : (fl p k).length ≤ k := by
  unfold fl; rw [List.length_map]; exact Nat.le_trans (List.length_filter_le _ _) (by simp)
theorem mem_fl {p : Nat → Bool} {k : Nat} {x : Int} : x ∈ fl p k ↔ ∃ i : Nat, i < k ∧ p i = true ∧ x = (i : Int) := by
  unfold fl
  simp only [List.mem_map, List.mem_filter, List.mem_range]
  constructor
  · rintro ⟨i, ⟨h1, h2⟩, rfl⟩; exact ⟨i, h1, h2, rfl⟩
  · rintro ⟨i, h1, h2, rfl⟩; exact ⟨i, ⟨h1, h2⟩, rfl⟩
theorem fl_getD {p : Nat → Bool} {k i : Nat} (h : i < (fl p k).length) : ∃ j : Nat, j < k ∧ p j = true ∧ (fl p k).getD i 0 = (j : Int) := by
  have : (fl p k).getD i 0 ∈ fl p k := getD_in (P := fun x => x ∈ fl p k) h fun x hx => hx
  obtain ⟨j, h1, h2, h3⟩ := mem_fl.1 this
  exact ⟨j, h1, h2, h3⟩
theorem openN_fl (xs : List Int) : openN xs = fl (fun i => decide (xs.getD i 0 ≥ 0)) xs.length := rfl
theorem int_nat {i : Int} (h : 0 ≤ i) : ∃ k : Nat, i = (k : Int) := ⟨i.toNat, by omega⟩
/-- How many of the first i elements are told by p. -/
def cntL (p : Int → Bool) (l : List Int) : Nat → Int
  | 0 => 0
  | i + 1 => cntL p l i + (bif p (l.getD i 0) then 1 else 0)
theorem cntL_in (p : Int → Bool) (l : List Int) : ∀ i : Nat, 0 ≤ cntL p l i ∧ cntL p l i ≤ (i : Int)
  | 0 => by simp [cntL]
  | i + 1 => by
    have := cntL_in p l i
    unfold cntL
    cases p (l.getD i 0) <;> simp only [cond_true, cond_false] <;> omega
theorem cntL_congr {p q : Int → Bool} {l : List Int} : ∀ i : Nat, i ≤ l.length → (∀ x ∈ l, p x = q x) → cntL p l i = cntL q l i
  | 0, _, _ => rfl
  | i + 1, hi, h => by
    unfold cntL
    rw [cntL_congr i (by omega) h, h _ (getD_in (P := fun z => z ∈ l) (by omega) fun z hz => hz)]
def sumP (l : List Int) : Nat → Int
  | 0 => 0
  | i + 1 => sumP l i + l.getD i 0
theorem sumP_set {l : List Int} {v : Nat} {x : Int} (hv : v < l.length) : ∀ n : Nat, sumP (l.set v x) n = sumP l n + (if v < n then x - l.getD v 0 else 0)
  | 0 => by simp [sumP]
  | n + 1 => by
    unfold sumP
    rw [sumP_set hv n]
    by_cases e : n = v
    · subst e
      rw [set_getD _ _ _ _ hv, if_neg (by omega), if_pos (by omega)]; omega
    · have : (l.set v x).getD n 0 = l.getD n 0 := by
        rw [List.getD_eq_getElem?_getD, List.getElem?_set_ne (by omega), ← List.getD_eq_getElem?_getD]
      rw [this]
      by_cases e2 : v < n
      · rw [if_pos e2, if_pos (by omega)]; omega
      · rw [if_neg e2, if_neg (by omega)]; omega
theorem sumP_in {l : List Int} {B : Int} (h : ∀ x ∈ l, 0 ≤ x ∧ x ≤ B) : ∀ i : Nat, i ≤ l.length → 0 ≤ sumP l i ∧ sumP l i ≤ B * i
  | 0, _ => by simp [sumP]
  | i + 1, hi => by
    have := sumP_in h i (by omega)
    have h2 := getD_in (P := fun x => 0 ≤ x ∧ x ≤ B) (i := i) (by omega) h
    unfold sumP
    have e : B * ((i + 1 : Nat) : Int) = B * i + B := by rw [Int.natCast_succ, Int.mul_add, Int.mul_one]
    rw [e]; omega
theorem openN_le (xs : List Int) : (openN xs).length ≤ xs.length := fl_len _ _
theorem state_len {xs : List Int} {m : Int} (h : isStateN xs m = true) : 1 ≤ xs.length ∧ xs.length ≤ 12 ∧ 0 ≤ m ∧ m ≤ 2 := by
  have := isStateN_iff.1 h; omega
def ch : Nat → Nat → Nat
  | _, 0 => 1
  | 0, _ + 1 => 0
  | n + 1, k + 1 => ch n k + ch n (k + 1)
theorem ch_zero (n : Nat) : ch n 0 = 1 := by cases n <;> rfl
theorem ch_zs (k : Nat) : ch 0 (k + 1) = 0 := rfl
theorem ch_ss (n k : Nat) : ch (n + 1) (k + 1) = ch n k + ch n (k + 1) := rfl
theorem ch_over : ∀ n k : Nat, n < k → ch n k = 0
  | 0, k + 1, _ => rfl
  | n + 1, k + 1, h => by rw [ch_ss, ch_over n k (by omega), ch_over n (k + 1) (by omega)]
theorem ch_abs : ∀ n k : Nat, (k + 1) * ch (n + 1) (k + 1) = (n + 1) * ch n k
  | 0, 0 => rfl
  | 0, k + 1 => by rw [ch_ss, ch_zs, ch_zs]; simp
  | n + 1, 0 => by
    have h := ch_abs n 0
    rw [ch_ss, ch_zero] at h ⊢
    have e := ch_ss n 0
    rw [ch_zero] at e
    omega
  | n + 1, k + 1 => by
    have h1 := ch_abs n k
    have h2 := ch_abs n (k + 1)
    rw [ch_ss (n + 1) (k + 1), Nat.mul_add, h2]
    have e : (k + 1 + 1) * ch (n + 1) (k + 1) = (k + 1) * ch (n + 1) (k + 1) + ch (n + 1) (k + 1) := by rw [Nat.succ_mul]
    rw [e, h1]
    have e2 : (n + 1 + 1) * ch (n + 1) (k + 1) = (n + 1) * ch (n + 1) (k + 1) + ch (n + 1) (k + 1) := by rw [Nat.succ_mul]
    rw [e2, ch_ss n k, Nat.mul_add]
    omega
theorem ch_next (n k : Nat) (h : k ≤ n) : (k + 1) * ch n (k + 1) = (n - k) * ch n k := by
  have h1 := ch_abs n k
  rw [ch_ss, Nat.mul_add] at h1
  obtain ⟨d, rfl⟩ : ∃ d, n = k + d := ⟨n - k, by omega⟩
  have e : (k + d + 1) * ch (k + d) k = (k + 1) * ch (k + d) k + d * ch (k + d) k := by rw [← Nat.add_mul]; congr 1; omega
  rw [e] at h1
  have : k + d - k = d := by omega
  rw [this]; omega
theorem ch_le : ∀ n k : Nat, ch n k ≤ 2 ^ n
  | 0, 0 => by decide
  | 0, k + 1 => by rw [ch_zs]; exact Nat.zero_le _
  | n + 1, 0 => by rw [ch_zero]; exact Nat.one_le_two_pow
  | n + 1, k + 1 => by
    have h1 := ch_le n k
    have h2 := ch_le n (k + 1)
    rw [ch_ss, Nat.pow_succ]; omega
/-- How many ways for at most k. -/
def ba (n : Nat) : Nat → Nat
  | 0 => ch n 0
  | k + 1 => ba n k + ch n (k + 1)
theorem ba_pascal (n : Nat) : ∀ k, ba (n + 1) (k + 1) = ba n (k + 1) + ba n k
  | 0 => by simp only [ba, ch_zero, ch_ss]; omega
  | k + 1 => by
    have h := ba_pascal n k
    have e1 : ba (n + 1) (k + 1 + 1) = ba (n + 1) (k + 1) + ch (n + 1) (k + 1 + 1) := rfl
    have e2 : ba n (k + 1 + 1) = ba n (k + 1) + ch n (k + 1 + 1) := rfl
    have e3 : ba n (k + 1) = ba n k + ch n (k + 1) := rfl
    rw [e1, h, e2, ch_ss]; omega
theorem ba_le : ∀ n k : Nat, ba n k ≤ 2 ^ n
  | 0, k => by
    have : ba 0 k = 1 := by
      induction k with
      | zero => rfl
      | succ k ih => simp only [ba, ih, ch_zs]
    rw [this]; decide
  | n + 1, 0 => by simp only [ba, ch_zero]; exact Nat.one_le_two_pow
  | n + 1, k + 1 => by
    rw [ba_pascal, Nat.pow_succ]
    have h1 := ba_le n (k + 1)
    have h2 := ba_le n k
    omega
theorem ba_pos (n : Nat) : ∀ k, 1 ≤ ba n k
  | 0 => by simp only [ba, ch_zero]; exact Nat.le_refl _
  | k + 1 => by have := ba_pos n k; simp only [ba]; omega
theorem ba_mono (n : Nat) : ∀ {k j : Nat}, k ≤ j → ba n k ≤ ba n j
  | k, 0, h => by have : k = 0 := by omega
                  subst this; exact Nat.le_refl _
  | k, j + 1, h => by
    by_cases e : k = j + 1
    · subst e; exact Nat.le_refl _
    · have := ba_mono n (k := k) (j := j) (by omega); simp only [ba]; omega
theorem ba_over (n : Nat) : ∀ {k : Nat}, n ≤ k → ba n k = ba n n
  | k, h => by
    induction k with
    | zero => have : n = 0 := by omega
              subst this; rfl
    | succ k ih =>
      by_cases e : n = k + 1
      · subst e; rfl
      · simp only [ba]; rw [ih (by omega), ch_over n (k + 1) (by omega)]; rfl
theorem pow30 {n : Nat} (h : n ≤ 30) : (2 : Nat) ^ n ≤ 1073741824 := by
  have : (2 : Nat) ^ n ≤ 2 ^ 30 := Nat.pow_le_pow_right (by decide) h
  omega
theorem pow_cast (n : Nat) : ((2 ^ n : Nat) : Int) = (2 : Int) ^ n := by norm_cast
theorem tdiv_exact {a b : Nat} {x : Nat} (hb : 0 < b) (h : b * x = a) : Int.tdiv (a : Int) (b : Int) = (x : Int) := by
  rw [← h, Int.natCast_mul, Int.mul_comm, Int.mul_tdiv_cancel _ (by omega)]
theorem ways_step {n k : Nat} (hn : n ≤ 30) (hk : k < n) : I64 ((n : Int) - k) ∧ I64 ((ch n k : Int) * ((n : Int) - k)) ∧ Int.tdiv ((ch n k : Int) * ((n : Int) - k)) ((k : Int) + 1) = (ch n (k + 1) : Int) ∧ I64 (ch n (k + 1) : Int) := by
  have h1 := ch_le n k
  have h2 := ch_le n (k + 1)
  have h3 := pow30 hn
  have h4 := ch_next n k (by omega)
  have e : (n : Int) - k = ((n - k : Nat) : Int) := by omega
  have e2 : (k : Int) + 1 = ((k + 1 : Nat) : Int) := by omega
  have hm : ch n k * (n - k) ≤ 1073741824 * 30 := Nat.mul_le_mul (by omega) (by omega)
  rw [e, ← Int.natCast_mul, e2]
  refine ⟨by unfold I64; omega, by unfold I64; omega, ?_, by unfold I64; omega⟩
  exact tdiv_exact (by omega) (by rw [h4, Nat.mul_comm])
theorem ways_core {L : Nat → Int → Int → Option Int} {n k : Nat} (hn : n ≤ 30) (hk : k ≤ n)
    (step : ∀ (m : Nat) (i s : Int), i < (k : Int) → L (m + 1) i s = (chk (I64 ((n : Int) - i)) <| chk (I64 (s * ((n : Int) - i))) <| chk (I64 (i + (1 : Int))) <| chk (I64 (Int.tdiv (s * ((n : Int) - i)) (i + (1 : Int)))) <| chk ((i + (1 : Int)) ≠ 0) <| L m (i + (1 : Int)) (Int.tdiv (s * ((n : Int) - i)) (i + (1 : Int)))))
    (fin : ∀ (m : Nat) (s : Int), L (m + 1) k s = some s) : L fuel 0 1 = some (ch n k : Int) := by
  have e0 : (1 : Int) = (fun i : Int => (ch n i.toNat : Int)) 0 := by simp [ch_zero]
  rw [e0]
  refine loop_up (fun m i s => L m i s) (k : Int) (fun i => (ch n i.toNat : Int)) _ ?_ ?_ (by omega) fuel (by have := fuel_ge; omega)
  · intro m i i0 i1
    obtain ⟨j, rfl⟩ := int_nat i0
    obtain ⟨w1, w2, w3, w4⟩ := ways_step hn (k := j) (by omega)
    have e1 : ((j : Int) + 1).toNat = j + 1 := by omega
    simp only [Int.toNat_natCast, e1]
    rw [step m _ _ i1, chk_pos w1, chk_pos w2, chk_pos (by unfold I64; omega), w3, chk_pos w4, chk_pos (by omega)]
  · intro m
    simp only [Int.toNat_natCast]
    exact fin m _
theorem iWays_eq {n k : Nat} (hn : n ≤ 30) (hk : k ≤ n) : F_impl_ways n k = some (ch n k : Int) := by
  unfold F_impl_ways
  simp only [jn]
  refine ways_core (L := fun m i s => F_impl_ways_L1 n k (fun v5 => some v5) m i s) hn hk ?_ ?_
  · intro m i s hi
    rw [F_impl_ways_L1, ite_t (decide_eq_true hi)]
  · intro m s
    rw [F_impl_ways_L1, ite_f (decide_eq_false (by omega))]
theorem sWays_eq {n k : Nat} (hn : n ≤ 30) (hk : k ≤ n) : F_spec_l3Ways n k = some (ch n k : Int) := by
  unfold F_spec_l3Ways
  simp only [jn]
  refine ways_core (L := fun m i s => F_spec_l3Ways_L1 n k (fun v5 => some v5) m i s) hn hk ?_ ?_
  · intro m i s hi
    rw [F_spec_l3Ways_L1, ite_t (decide_eq_true hi)]
  · intro m s
    rw [F_spec_l3Ways_L1, ite_f (decide_eq_false (by omega))]
/-- Of the first i. -/
def baP (n : Nat) : Nat → Nat
  | 0 => 0
  | i + 1 => baP n i + ch n i
theorem baP_ba (n : Nat) : ∀ k, baP n (k + 1) = ba n k
  | 0 => by simp [baP, ba]
  | k + 1 => by rw [baP, baP_ba n k]; rfl
theorem baP_le (n k : Nat) : baP n k ≤ 2 ^ n := by
  cases k with
  | zero => exact Nat.zero_le _
  | succ k => rw [baP_ba]; exact ba_le n k
theorem iBall_eq {n k : Nat} (hn : n ≤ 30) (hk : k ≤ 100) : F_impl_ball n k = some (ba n k : Int) := by
  unfold F_impl_ball
  simp only [jn]
  have hmin : min (n : Int) (k : Int) = ((min n k : Nat) : Int) := by omega
  have e : (ba n k : Int) = (baP n (min n k + 1) : Int) := by
    rw [baP_ba]
    by_cases h : k ≤ n
    · rw [Nat.min_eq_right h]
    · rw [Nat.min_eq_left (by omega), ba_over n (by omega)]
  have h3 := pow30 hn
  rw [hmin, chk_pos (by unfold I64; omega), e]
  refine (loop_up (fun m i s => F_impl_ball_L1 n k (fun v5 => some v5) m i s) (((min n k : Nat) : Int) + 1) (fun i => (baP n i.toNat : Int)) _ ?_ ?_ (by omega) fuel (by have := fuel_ge; omega))
  · intro m i i0 i1
    obtain ⟨j, rfl⟩ := int_nat i0
    have e1 : ((j : Int) + 1).toNat = j + 1 := by omega
    have h4 := baP_le n j
    have h5 := ch_le n j
    simp only [Int.toNat_natCast, e1]
    rw [F_impl_ball_L1, hmin, ite_t (decide_eq_true i1), bnd1_eq (iWays_eq hn (by omega)), chk_pos (by unfold I64; omega), chk_pos (by unfold I64; omega), baP, Int.natCast_add]
  · intro m
    have e1 : (((min n k : Nat) : Int) + 1).toNat = min n k + 1 := by omega
    rw [F_impl_ball_L1, hmin, ite_f (decide_eq_false (by omega)), e1]
theorem sBall_eq {n k : Nat} (hn : n ≤ 30) (hk : k ≤ 100) : F_spec_l3Ball n k = some (ba n k : Int) := by
  unfold F_spec_l3Ball
  simp only [jn]
  have hmin : min (n : Int) (k : Int) = ((min n k : Nat) : Int) := by omega
  have e : (ba n k : Int) = (baP n (min n k + 1) : Int) := by
    rw [baP_ba]
    by_cases h : k ≤ n
    · rw [Nat.min_eq_right h]
    · rw [Nat.min_eq_left (by omega), ba_over n (by omega)]
  have h3 := pow30 hn
  rw [e]
  refine (loop_up (fun m i s => F_spec_l3Ball_L1 n k (fun v5 => some v5) m i s) (((min n k : Nat) : Int) + 1) (fun i => (baP n i.toNat : Int)) _ ?_ ?_ (by omega) fuel (by have := fuel_ge; omega))
  · intro m i i0 i1
    obtain ⟨j, rfl⟩ := int_nat i0
    have e1 : ((j : Int) + 1).toNat = j + 1 := by omega
    have h4 := baP_le n j
    have h5 := ch_le n j
    simp only [Int.toNat_natCast, e1]
    rw [F_spec_l3Ball_L1]
    refine jn_is (fun J => J true) (fun J => by rw [ite_t (decide_eq_true (by omega)), decide_eq_true (by omega)]) ?_
    rw [ite_t rfl, bnd1_eq (sWays_eq hn (by omega)), chk_pos (by unfold I64; omega), chk_pos (by unfold I64; omega), baP, Int.natCast_add]
  · intro m
    have e1 : (((min n k : Nat) : Int) + 1).toNat = min n k + 1 := by omega
    rw [F_spec_l3Ball_L1]
    refine jn_is (fun J => J false) (fun J => ?_) ?_
    · by_cases h : ((min n k : Nat) : Int) + 1 ≤ (k : Int)
      · rw [ite_t (decide_eq_true h), decide_eq_false (by omega)]
      · rw [ite_f (decide_eq_false h)]
    · rw [ite_f rfl, e1]
/-- The weight of a number. -/
def wtN (m q x : Int) : Int := if x < 0 then 0 else (ba q.toNat (m - x).toNat : Int)
def wtP (xs : List Int) (m q : Int) : Nat → Int
  | 0 => 0
  | i + 1 => wtP xs m q i + wtN m q (xs.getD i 0)
def wtA (xs : List Int) (m q : Int) : Int := wtP xs m q xs.length
theorem wtN_in {m q x : Int} (hq : q ≤ 30) : 0 ≤ wtN m q x ∧ wtN m q x ≤ 1073741824 := by
  unfold wtN; split
  · omega
  · have h1 := ba_le q.toNat (m - x).toNat
    have h2 := pow30 (n := q.toNat) (by omega)
    omega
theorem wtP_in {xs : List Int} {m q : Int} (hq : q ≤ 30) : ∀ i : Nat, 0 ≤ wtP xs m q i ∧ wtP xs m q i ≤ 1073741824 * i
  | 0 => by simp [wtP]
  | i + 1 => by
    have h1 := wtP_in (xs := xs) (m := m) hq i
    have h2 := wtN_in (m := m) (q := q) (x := xs.getD i 0) hq
    unfold wtP
    omega
theorem iWeight_eq {xs : List Int} {m q : Int} (hs : okS xs m) (hq0 : 0 ≤ q) (hq : q ≤ 30) {k : Nat} (hk : k < xs.length) : F_impl_State_weight xs m k q = some (wtN m q (xs.getD k 0)) := by
  unfold F_impl_State_weight wtN
  obtain ⟨h1, h2, h3, h4⟩ := hs
  have hx := h4 k
  rw [chk_pos (by omega), Int.toNat_natCast]
  by_cases h : xs.getD k 0 < 0
  · rw [ite_t (decide_eq_true h), if_pos h]
  · obtain ⟨q', rfl⟩ := int_nat hq0
    obtain ⟨d, hd⟩ := int_nat (i := m - xs.getD k 0) (by omega)
    rw [ite_f (decide_eq_false h), if_neg h, hd, chk_pos (by unfold I64; omega), bnd1_eq (iBall_eq (by omega) (by omega)), Int.toNat_natCast, Int.toNat_natCast]
theorem sWeight_eq {xs : List Int} {m q : Int} (hs : okS xs m) (hq0 : 0 ≤ q) (hq : q ≤ 30) {k : Nat} (hk : k < xs.length) : F_spec_l3Number xs m k q = some (wtN m q (xs.getD k 0)) := by
  unfold F_spec_l3Number wtN
  obtain ⟨h1, h2, h3, h4⟩ := hs
  have hx := h4 k
  rw [chk_pos (by omega), Int.toNat_natCast]
  by_cases h : xs.getD k 0 < 0
  · rw [ite_t (decide_eq_true h), if_pos h]
  · obtain ⟨q', rfl⟩ := int_nat hq0
    obtain ⟨d, hd⟩ := int_nat (i := m - xs.getD k 0) (by omega)
    rw [ite_f (decide_eq_false h), if_neg h, hd, chk_pos (by unfold I64; omega), bnd1_eq (sBall_eq (by omega) (by omega)), Int.toNat_natCast, Int.toNat_natCast]
theorem iAllWeight_eq {xs : List Int} {m q : Int} (hs : okS xs m) (hq0 : 0 ≤ q) (hq : q ≤ 30) : F_impl_State_allWeight xs m q = some (wtA xs m q) := by
  unfold F_impl_State_allWeight wtA
  have hl := hs.1
  simp only [jn]
  refine (loop_up (fun n i s => F_impl_State_allWeight_L1 xs m q (fun v5 => some v5) n i s) (xs.length : Int) (fun i => wtP xs m q i.toNat) _ ?_ ?_ (by omega) fuel (by have := fuel_ge; omega))
  · intro n i i0 i1
    obtain ⟨j, rfl⟩ := int_nat i0
    have e1 : ((j : Int) + 1).toNat = j + 1 := by omega
    have h4 := wtP_in (xs := xs) (m := m) hq j
    have h5 := wtN_in (m := m) (q := q) (x := xs.getD j 0) hq
    simp only [Int.toNat_natCast, e1]
    rw [F_impl_State_allWeight_L1, ite_t (decide_eq_true i1), bnd1_eq (iWeight_eq hs hq0 hq (by omega)), chk_pos (by unfold I64; omega), chk_pos (by unfold I64; omega), wtP]
  · intro n
    rw [F_impl_State_allWeight_L1, ite_f (decide_eq_false (by omega)), Int.toNat_natCast]
theorem sAllWeight_eq {xs : List Int} {m q : Int} (hs : okS xs m) (hq0 : 0 ≤ q) (hq : q ≤ 30) : F_spec_l3Weight xs m q = some (wtA xs m q) := by
  unfold F_spec_l3Weight wtA
  have hl := hs.1
  simp only [jn]
  refine (loop_up (fun n i s => F_spec_l3Weight_L1 xs m q (fun v5 => some v5) n i s) (xs.length : Int) (fun i => wtP xs m q i.toNat) _ ?_ ?_ (by omega) fuel (by have := fuel_ge; omega))
  · intro n i i0 i1
    obtain ⟨j, rfl⟩ := int_nat i0
    have e1 : ((j : Int) + 1).toNat = j + 1 := by omega
    have h4 := wtP_in (xs := xs) (m := m) hq j
    have h5 := wtN_in (m := m) (q := q) (x := xs.getD j 0) hq
    simp only [Int.toNat_natCast, e1]
    rw [F_spec_l3Weight_L1, ite_t (decide_eq_true i1), bnd1_eq (sWeight_eq hs hq0 hq (by omega)), chk_pos (by unfold I64; omega), chk_pos (by unfold I64; omega), wtP]
  · intro n
    rw [F_spec_l3Weight_L1, ite_f (decide_eq_false (by omega)), Int.toNat_natCast]
theorem wtA_in {xs : List Int} {m q : Int} (hs : okS xs m) (hq : q ≤ 30) : 0 ≤ wtA xs m q ∧ wtA xs m q ≤ 12884901888 := by
  have := wtP_in (xs := xs) (m := m) hq xs.length
  have := hs.1
  unfold wtA; omega
/-- Both answers have the weight together. -/
theorem wt_after {m q x : Int} {b : Bool} (hx : -1 ≤ x ∧ x ≤ m) (hq : 1 ≤ q) : wtN m (q - 1) (lieN m b x) + wtN m (q - 1) (lieN m (!b) x) = wtN m q x := by
  obtain ⟨q', rfl⟩ : ∃ k : Nat, q = (k : Int) + 1 := ⟨(q - 1).toNat, by omega⟩
  have e0 : (q' : Int) + 1 - 1 = q' := by omega
  have key : ∀ x, -1 ≤ x → x ≤ m → wtN m (q' : Int) (lieN m true x) + wtN m (q' : Int) (lieN m false x) = wtN m ((q' : Int) + 1) x := by
    intro x h1 h2
    have el : lieN m false x = x := by unfold lieN; rw [if_neg (by simp)]
    rw [el]
    by_cases h : x ≥ 0
    · have e1 : ((q' : Int) + 1).toNat = q' + 1 := by omega
      unfold lieN
      rw [if_pos ⟨h, rfl⟩]
      by_cases h3 : x + 1 > m
      · have : x = m := by omega
        subst this
        rw [if_pos h3]
        unfold wtN
        rw [if_pos (by omega), if_neg (by omega), if_neg (by omega), e1, Int.sub_self]
        simp [ba, ch_zero]
      · rw [if_neg h3]
        unfold wtN
        obtain ⟨d, hd⟩ := int_nat (i := m - x - 1) (by omega)
        have e2 : (m - (x + 1)).toNat = d := by omega
        have e3 : (m - x).toNat = d + 1 := by omega
        rw [if_neg (by omega), if_neg (by omega), if_neg (by omega), e1, e2, e3, ba_pascal, Int.toNat_natCast]
        omega
    · have : x = -1 := by omega
      subst this
      unfold lieN
      rw [if_neg (by omega)]
      unfold wtN
      rw [if_pos (by omega), if_pos (by omega)]; rfl
  rw [e0]
  cases b with
  | true => exact key x hx.1 hx.2
  | false => rw [Int.add_comm]; exact key x hx.1 hx.2
theorem ansN_at {m q : Int} {y : Bool} {xs : List Int} {i : Nat} (h : i < xs.length) : (ansN m q y xs).getD i 0 = lieN m (falseB q y i) (xs.getD i 0) := by
  unfold ansN afterN
  rw [List.getD_eq_getElem?_getD, List.getElem?_map, List.getElem?_range h]; rfl
theorem wt_both {xs : List Int} {m q k : Int} (hs : okS xs m) (hq : 1 ≤ k) : wtA (ansN m q true xs) m (k - 1) + wtA (ansN m q false xs) m (k - 1) = wtA xs m k := by
  have key : ∀ i, i ≤ xs.length → wtP (ansN m q true xs) m (k - 1) i + wtP (ansN m q false xs) m (k - 1) i = wtP xs m k i := by
    intro i
    induction i with
    | zero => intro _; rfl
    | succ i ih =>
      intro hi
      have hx := hs.2.2.2 i
      have e : falseB q false (i : Int) = !falseB q true (i : Int) := by unfold falseB; cases hasB q (i : Int) <;> rfl
      have hw := wt_after (m := m) (q := k) (x := xs.getD i 0) (b := falseB q true (i : Int)) hx hq
      unfold wtP
      rw [ansN_at (by omega), ansN_at (by omega), e, ← ih (by omega), ← hw]
      omega
  unfold wtA
  rw [ansN_len, ansN_len]
  exact key _ (Nat.le_refl _)
theorem ahead3_ok {bs : List Int} {p s : Int} (hy : okY bs) (h0 : 0 ≤ p) (h1 : p ≤ 800000000000) : ∃ v p' s', F_p_spec_l1Cur_ahead3 bs p s = some (v, bs, p', s') ∧ p ≤ p' ∧ p' ≤ p + 4 ∧ -1 ≤ v ∧ v ≤ 31 := by
  unfold F_p_spec_l1Cur_ahead3
  obtain ⟨v, p1, s1, e, g0, g1, g2, g3⟩ := pick_ok (s := s) (n := 24) hy h0 (by omega)
  have hv := g3 (by omega)
  obtain ⟨k, rfl⟩ := int_nat g2
  have hd : Int.tdiv (k : Int) 11 = ((k / 11 : Nat) : Int) := by rw [Int.tdiv_eq_ediv_of_nonneg (by omega)]; norm_cast
  rw [bnd4_eq e, hd, chk_pos (by unfold I64; omega), chk_pos (by unfold I64; omega), chk_pos (by omega)]
  have e2 : (((10 : Int) + ((k / 11 : Nat) : Int)).toNat - 0) = 10 + k / 11 := by omega
  rw [e2]
  obtain ⟨w, p2, s2, e3, k0, k1, k2⟩ := among_ok (s := s1) (p := p1) (xs := List.take (10 + k / 11) [(4 : Int), (5 : Int), (3 : Int), (6 : Int), (2 : Int), (8 : Int), (1 : Int), (30 : Int), (12 : Int), (0 : Int), (31 : Int), (-1 : Int)]) hy (by omega) (by omega) (by simp; omega)
  rw [bnd4_eq e3]
  refine ⟨_, _, _, rfl, by omega, by omega, ?_⟩
  have k3 := List.mem_of_mem_take k2
  simp only [List.mem_cons, List.not_mem_nil, or_false] at k3
  omega
theorem drawAnswerWeights_ok {bs : List Int} (hy : okY bs) : ∃ xs m q k, F_spec_DrawAnswerWeights bs = some (xs, m, q, k) ∧ (-1 ≤ m ∧ m ≤ 3) ∧ xs.length ≤ 13 ∧ (-1 ≤ q ∧ q ≤ 4611686018427387904) ∧ -1 ≤ k ∧ k ≤ 31 := by
  unfold F_spec_DrawAnswerWeights
  obtain ⟨xs, m, p', s', e, h1, h2, h3, h4, h5, h6⟩ := state_ok (s := 0) (p := 0) hy (by omega) (by omega)
  obtain ⟨q, p3, s3, e3, k0, k1, k2, k3⟩ := question_ok (s := s') (p := p') (n := ((List.length xs : Nat) : Int)) hy (by omega) (by omega)
  obtain ⟨k, p4, s4, e4, g0, g1, g2, g3⟩ := ahead3_ok (s := s3) (p := p3) hy (by omega) (by omega)
  rw [bnd5_eq e, bnd4_eq e3, bnd4_eq e4]
  exact ⟨_, _, _, _, rfl, ⟨h3, h4⟩, h5, ⟨k2, k3⟩, g2, g3⟩
theorem drawStateWeight_ok {bs : List Int} (hy : okY bs) : ∃ xs m k, F_spec_DrawStateWeight bs = some (xs, m, k) ∧ (-1 ≤ m ∧ m ≤ 3) ∧ xs.length ≤ 13 ∧ -1 ≤ k ∧ k ≤ 31 := by
  unfold F_spec_DrawStateWeight
  obtain ⟨xs, m, p', s', e, h1, h2, h3, h4, h5, h6⟩ := state_ok (s := 0) (p := 0) hy (by omega) (by omega)
  obtain ⟨k, p4, s4, e4, g0, g1, g2, g3⟩ := ahead3_ok (s := s') (p := p') hy (by omega) (by omega)
  rw [bnd5_eq e, bnd4_eq e4]
  exact ⟨_, _, _, rfl, ⟨h3, h4⟩, h5, g2, g3⟩
def awB (xs : List Int) (m k : Int) : Bool := isStateN xs m && (decide (1 ≤ k) && decide (k ≤ 30))
def aqB (xs : List Int) (m q k : Int) : Bool := awB xs m k && isQ ((xs.length : Nat) : Int) q
def wgN (xs : List Int) (m q k : Int) (y : Bool) : Int := wtA (ansN m q y xs) m (k - 1)
def awV (xs : List Int) (m q k : Int) (y : Bool) : Int := bif aqB xs m q k then wgN xs m q k y else 0
theorem wgN_in {xs : List Int} {m q k : Int} {y : Bool} (hs : okS xs m) (hk : k ≤ 30) : 0 ≤ wgN xs m q k y ∧ wgN xs m q k y ≤ 12884901888 := wtA_in (okS_ans hs) (by omega)
theorem awB_in {xs : List Int} {m k : Int} (h : awB xs m k = true) : isStateN xs m = true ∧ okS xs m ∧ 1 ≤ k ∧ k ≤ 30 ∧ 1 ≤ xs.length ∧ xs.length ≤ 12 := by
  unfold awB at h
  simp only [Bool.and_eq_true, decide_eq_true_eq] at h
  have := state_len h.1
  exact ⟨h.1, okS_of h.1, h.2.1, h.2.2, this.1, this.2.1⟩
theorem iAreWeights_eq (xs : List Int) (m k : Int) (hx : xs.length ≤ 1048576) : F_impl_areWeights xs m k = some (awB xs m k) := by
  unfold F_impl_areWeights awB
  rw [chk_pos (by omega)]
  cases isStateN xs m <;> rfl
theorem sAsks_eq (xs : List Int) (m k : Int) (hx : xs.length ≤ 1048576) : F_spec_l3Asks xs m k = some (awB xs m k) := by
  unfold F_spec_l3Asks awB
  rw [chk_pos (by omega)]
  cases isStateN xs m <;> rfl
theorem iWeights_eq {xs : List Int} {m q k : Int} (hs : okS xs m) (h0 : 1 ≤ k) (h1 : k ≤ 30) : F_impl_State_weights xs m q k = some (wgN xs m q k true, wgN xs m q k false) := by
  unfold F_impl_State_weights wgN
  rw [chk_pos hs, chk_pos (by unfold I64; omega), bnd1_eq (iAllWeight_eq (okS_ans hs) (by omega) (by omega)), bnd1_eq (iAllWeight_eq (okS_ans hs) (by omega) (by omega))]
theorem sAnswers_eq {xs : List Int} {m q k : Int} (hs : okS xs m) (h0 : 1 ≤ k) (h1 : k ≤ 30) : F_spec_l3Answers xs m q k = some (wgN xs m q k true, wgN xs m q k false) := by
  unfold F_spec_l3Answers wgN
  rw [chk_pos hs, chk_pos (by unfold I64; omega), bnd1_eq (sAllWeight_eq (okS_ans hs) (by omega) (by omega)), bnd1_eq (sAllWeight_eq (okS_ans hs) (by omega) (by omega))]
theorem iAnswerWeights_eq (xs : List Int) (m q k : Int) (hx : xs.length ≤ 1048576) : F_impl_AnswerWeights xs m q k = some (awV xs m q k true, awV xs m q k false, aqB xs m q k) := by
  unfold F_impl_AnswerWeights awV aqB
  cases h : awB xs m k with
  | false => refine jn_is (fun J => J true) (fun J => by rw [bnd1_eq (iAreWeights_eq xs m k hx), h, ite_t (by rfl)]) rfl
  | true =>
    obtain ⟨h1, h2, h3, h4, _⟩ := awB_in h
    cases h5 : isQ ((xs.length : Nat) : Int) q with
    | false => refine jn_is (fun J => J true) (fun J => by rw [bnd1_eq (iAreWeights_eq xs m k hx), h, ite_f (by rfl)]; rfl) rfl
    | true =>
      refine jn_is (fun J => J false) (fun J => by rw [bnd1_eq (iAreWeights_eq xs m k hx), h, ite_f (by rfl)]; rfl) ?_
      rw [ite_f rfl, bnd2_eq (iWeights_eq h2 h3 h4)]; rfl
theorem sAnswerWeights_eq (xs : List Int) (m q k : Int) (hx : xs.length ≤ 1048576) : F_spec_AnswerWeights xs m q k = some (awV xs m q k true, awV xs m q k false, aqB xs m q k) := by
  unfold F_spec_AnswerWeights awV aqB
  cases h : awB xs m k with
  | false => refine jn_is (fun J => J true) (fun J => by rw [bnd1_eq (sAsks_eq xs m k hx), h, ite_t (by rfl)]) rfl
  | true =>
    obtain ⟨h1, h2, h3, h4, _⟩ := awB_in h
    cases h5 : isQ ((xs.length : Nat) : Int) q with
    | false => refine jn_is (fun J => J true) (fun J => by rw [bnd1_eq (sAsks_eq xs m k hx), h, ite_f (by rfl), chk_pos (by omega)]; rfl) rfl
    | true =>
      refine jn_is (fun J => J false) (fun J => by rw [bnd1_eq (sAsks_eq xs m k hx), h, ite_f (by rfl), chk_pos (by omega)]; rfl) ?_
      rw [ite_f rfl, bnd2_eq (sAnswers_eq h2 h3 h4)]; rfl
theorem maxN_max (a b : Int) : maxN a b = max a b := by unfold maxN; split <;> omega
/-- The greater weight. -/
def grN (xs : List Int) (m k q : Int) : Int := max (wgN xs m q k true) (wgN xs m q k false)
def ibV (xs : List Int) (m q k : Int) : Bool := aqB xs m q k && decide (grN xs m k q ≤ 2 ^ (k - 1).toNat)
theorem pow_k {k : Int} (h0 : 1 ≤ k) (h1 : k ≤ 30) : (0 : Int) ≤ k - 1 ∧ k - 1 < 64 ∧ I64 ((1 : Int) * 2 ^ Int.toNat (k - 1)) := by
  have := pow30 (n := (k - 1).toNat) (by omega)
  have h2 := Nat.two_pow_pos (k - 1).toNat
  rw [Int.one_mul, ← pow_cast]
  exact ⟨by omega, by omega, by unfold I64; omega⟩
theorem iIsBalanced_eq (xs : List Int) (m q k : Int) (hx : xs.length ≤ 1048576) : F_impl_IsBalanced xs m q k = some (ibV xs m q k, aqB xs m q k) := by
  unfold F_impl_IsBalanced ibV
  rw [bnd3_eq (iAnswerWeights_eq xs m q k hx)]
  cases h : aqB xs m q k with
  | false => rfl
  | true =>
    have h2 : awB xs m k = true := by unfold aqB at h; simp only [Bool.and_eq_true] at h; exact h.1
    obtain ⟨_, h3, h4, h5, _⟩ := awB_in h2
    unfold F_impl_greater awV grN
    rw [ite_t rfl, bnd1_eq rfl, chk_pos (by unfold I64; omega), chk_pos (pow_k h4 h5), ite_t h, ite_t h, Int.one_mul]
    rfl
theorem sMost_eq {xs : List Int} {m q k : Int} (hs : okS xs m) (h0 : 1 ≤ k) (h1 : k ≤ 30) : F_spec_l3Most xs m q k = some (grN xs m k q) := by
  unfold F_spec_l3Most grN
  rw [bnd2_eq (sAnswers_eq hs h0 h1), maxN_max]
theorem sIsBalanced_eq (xs : List Int) (m q k : Int) (hx : xs.length ≤ 1048576) : F_spec_IsBalanced xs m q k = some (ibV xs m q k, aqB xs m q k) := by
  unfold F_spec_IsBalanced ibV aqB
  cases h : awB xs m k with
  | false => refine jn_is (fun J => J true) (fun J => by rw [bnd1_eq (sAsks_eq xs m k hx), h, ite_t (by rfl)]) rfl
  | true =>
    obtain ⟨h1, h2, h3, h4, _⟩ := awB_in h
    cases h5 : isQ ((xs.length : Nat) : Int) q with
    | false => refine jn_is (fun J => J true) (fun J => by rw [bnd1_eq (sAsks_eq xs m k hx), h, ite_f (by rfl), chk_pos (by omega)]; rfl) rfl
    | true =>
      refine jn_is (fun J => J false) (fun J => by rw [bnd1_eq (sAsks_eq xs m k hx), h, ite_f (by rfl), chk_pos (by omega)]; rfl) ?_
      rw [ite_f rfl, bnd1_eq (sMost_eq h2 h3 h4), chk_pos (by unfold I64; omega), chk_pos (pow_k h3 h4), Int.one_mul]
      rfl
def swB (xs : List Int) (m k : Int) : Bool := isStateN xs m && (decide (0 ≤ k) && decide (k ≤ 30))
def swV (xs : List Int) (m k : Int) : Int := bif swB xs m k then wtA xs m k else 0
theorem iStateWeight_eq (xs : List Int) (m k : Int) (hx : xs.length ≤ 1048576) : F_impl_StateWeight xs m k = some (swV xs m k, swB xs m k) := by
  unfold F_impl_StateWeight swV swB F_impl_isAhead
  cases h : isStateN xs m with
  | false => refine jn_is (fun J => J true) (fun J => by rw [chk_pos (by omega), ite_t (by rfl)]) rfl
  | true =>
    cases h2 : (decide ((0 : Int) ≤ k) && decide (k ≤ (30 : Int))) with
    | false => refine jn_is (fun J => J true) (fun J => by rw [chk_pos (by omega), ite_f (by rfl), bnd1_eq rfl]; rfl) rfl
    | true =>
      refine jn_is (fun J => J false) (fun J => by rw [chk_pos (by omega), ite_f (by rfl), bnd1_eq rfl]; rfl) ?_
      simp only [Bool.and_eq_true, decide_eq_true_eq] at h2
      rw [ite_f rfl, bnd1_eq (iAllWeight_eq (okS_of h) h2.1 h2.2)]; rfl
theorem pow_len {n : Nat} (h : n ≤ 12) : (0 : Int) ≤ (n : Int) ∧ (n : Int) < 64 ∧ I64 ((1 : Int) * 2 ^ Int.toNat (n : Int)) := by
  have := pow30 (n := n) (by omega)
  have h2 := Nat.two_pow_pos n
  rw [Int.one_mul, Int.toNat_natCast, ← pow_cast]
  exact ⟨by omega, by omega, by unfold I64; omega⟩
theorem pow12 {n : Nat} (h : n ≤ 12) : (2 : Nat) ^ n ≤ 4096 := by
  have : (2 : Nat) ^ n ≤ 2 ^ 12 := Nat.pow_le_pow_right (by decide) h
  omega
/-- The least of the first i, and where it stands first. -/
def lsP (f : Int → Int) : Nat → Int × Int
  | 0 => (f 0, 0)
  | i + 1 => if f (i : Int) < (lsP f i).1 then (f (i : Int), (i : Int)) else lsP f i
theorem lsP_in (f : Int → Int) : ∀ i : Nat, (∃ j : Nat, (lsP f i).2 = (j : Int) ∧ (j < i ∨ j = 0) ∧ (lsP f i).1 = f (j : Int)) ∧ ∀ j : Nat, j < i → (lsP f i).1 ≤ f (j : Int)
  | 0 => ⟨⟨0, rfl, .inr rfl, rfl⟩, fun j h => by omega⟩
  | i + 1 => by
    obtain ⟨⟨j, h1, h2, h3⟩, h4⟩ := lsP_in f i
    unfold lsP
    split
    · rename_i h
      refine ⟨⟨i, rfl, .inl (by omega), rfl⟩, fun k hk => ?_⟩
      simp only
      by_cases e : k = i
      · subst e; omega
      · have := h4 k (by omega); omega
    · rename_i h
      refine ⟨⟨j, h1, by omega, h3⟩, fun k hk => ?_⟩
      by_cases e : k = i
      · subst e; omega
      · exact h4 k (by omega)
theorem lsP_one (f : Int → Int) : lsP f 1 = lsP f 0 := by
  unfold lsP; rw [if_neg (by simp [lsP])]; rfl
def evV (xs : List Int) (m k : Int) : Int := bif awB xs m k then (lsP (grN xs m k) (2 ^ xs.length)).2 else 0
theorem iEvenQuestion_eq (xs : List Int) (m k : Int) (hx : xs.length ≤ 1048576) : F_impl_EvenQuestion xs m k = some (evV xs m k, awB xs m k) := by
  unfold F_impl_EvenQuestion evV
  rw [bnd1_eq (iAreWeights_eq xs m k hx)]
  cases h : awB xs m k with
  | false => rfl
  | true =>
    obtain ⟨h1, h2, h3, h4, h5, h6⟩ := awB_in h
    have hp := pow12 h6
    rw [ite_f (by rfl), ite_t rfl, bnd2_eq (iWeights_eq h2 h3 h4)]
    unfold F_impl_greater
    rw [bnd1_eq rfl]
    simp only [jn]
    rw [chk_pos (pow_len h6)]
    have hN : (1 : Int) * 2 ^ Int.toNat ((List.length xs : Nat) : Int) = ((2 ^ xs.length : Nat) : Int) := by rw [Int.one_mul, Int.toNat_natCast, pow_cast]
    refine (loop_up (fun n i (s : Int × Int) => F_impl_EvenQuestion_L1 xs m k (fun v6 => some (v6, true)) n i s.1 s.2) ((2 ^ xs.length : Nat) : Int) (fun i => lsP (grN xs m k) i.toNat) _ ?_ ?_ (Int.natCast_nonneg _) fuel (by have := fuel_ge; rw [Int.toNat_natCast]; omega))
    · intro n i i0 i1
      obtain ⟨j, rfl⟩ := int_nat i0
      have e1 : ((j : Int) + 1).toNat = j + 1 := by omega
      simp only [Int.toNat_natCast, e1]
      rw [F_impl_EvenQuestion_L1, hN, ite_t (decide_eq_true i1), bnd2_eq (iWeights_eq h2 h3 h4)]
      unfold F_impl_greater
      rw [bnd1_eq rfl, lsP]
      show (bif (decide (grN xs m k (j : Int) < _)) then _ else _) = _
      by_cases hc : grN xs m k (j : Int) < (lsP (grN xs m k) j).1
      · rw [ite_t (decide_eq_true hc), if_pos hc, chk_pos (by unfold I64; omega)]; rfl
      · rw [ite_f (decide_eq_false hc), if_neg hc, chk_pos (by unfold I64; omega)]
    · intro n
      rw [F_impl_EvenQuestion_L1, hN, ite_f (decide_eq_false (by omega)), Int.toNat_natCast]
theorem sEvenQuestion_eq (xs : List Int) (m k : Int) (hx : xs.length ≤ 1048576) : F_spec_EvenQuestion xs m k = some (evV xs m k, awB xs m k) := by
  unfold F_spec_EvenQuestion evV
  rw [bnd1_eq (sAsks_eq xs m k hx)]
  cases h : awB xs m k with
  | false => rfl
  | true =>
    obtain ⟨h1, h2, h3, h4, h5, h6⟩ := awB_in h
    have hp := pow12 h6
    have hp0 := Nat.two_pow_pos xs.length
    rw [ite_f (by rfl), ite_t rfl, bnd1_eq (sMost_eq h2 h3 h4)]
    simp only [jn]
    have hN : (1 : Int) * 2 ^ Int.toNat ((List.length xs : Nat) : Int) = ((2 ^ xs.length : Nat) : Int) := by rw [Int.one_mul, Int.toNat_natCast, pow_cast]
    refine loop_m (fun n (z : Int × Int × Int) => F_spec_EvenQuestion_L1 xs m k (fun v6 => some (v6, true)) n z.1 z.2.1 z.2.2) (fun z => 1 ≤ z.1 ∧ z.1 ≤ ((2 ^ xs.length : Nat) : Int) ∧ z.2 = lsP (grN xs m k) z.1.toNat) (fun z => (((2 ^ xs.length : Nat) : Int) - z.1).toNat) (fun o => o = some ((lsP (grN xs m k) (2 ^ xs.length)).2, true)) ?_ fuel (1, grN xs m k 0, 0) ⟨by simp, by simp only; omega, by simp only; exact (lsP_one _).symm⟩ (by have := fuel_ge; simp only; omega)
    rintro n ⟨i, a, b⟩ ⟨i0, i1, i2⟩
    simp only at i0 i1 i2 ⊢
    obtain ⟨j, rfl⟩ := int_nat (i := i) (by omega)
    rw [Int.toNat_natCast] at i2
    have ea : a = (lsP (grN xs m k) j).1 := congrArg Prod.fst i2
    have eb : b = (lsP (grN xs m k) j).2 := congrArg Prod.snd i2
    have e1 : ((j : Int) + 1).toNat = j + 1 := by omega
    rw [F_spec_EvenQuestion_L1, chk_pos (pow_len h6), hN]
    by_cases hi : (j : Int) < ((2 ^ xs.length : Nat) : Int)
    · rw [ite_t (decide_eq_true hi), bnd1_eq (sMost_eq h2 h3 h4), ea, eb]
      by_cases hc : grN xs m k (j : Int) < (lsP (grN xs m k) j).1
      · rw [ite_t (decide_eq_true hc), chk_pos (by unfold I64; omega)]
        exact .inl ⟨((j : Int) + 1, grN xs m k (j : Int), (j : Int)), ⟨by simp only; omega, by simp only; omega, by simp only [e1]; rw [lsP, if_pos hc]⟩, by simp only; omega, rfl⟩
      · rw [ite_f (decide_eq_false hc), chk_pos (by unfold I64; omega)]
        exact .inl ⟨((j : Int) + 1, (lsP (grN xs m k) j).1, (lsP (grN xs m k) j).2), ⟨by simp only; omega, by simp only; omega, by simp only [e1]; rw [lsP, if_neg hc]⟩, by simp only; omega, rfl⟩
    · have e2 : j = 2 ^ xs.length := by omega
      rw [ite_f (decide_eq_false hi), eb, e2]
      exact .inr rfl
/-- How many of the first i are told by p. -/
def cnP (p : Int → Bool) : Nat → Int
  | 0 => 0
  | i + 1 => cnP p i + (bif p (i : Int) then 1 else 0)
theorem cnP_in (p : Int → Bool) : ∀ i : Nat, 0 ≤ cnP p i ∧ cnP p i ≤ (i : Int)
  | 0 => by simp [cnP]
  | i + 1 => by
    have := cnP_in p i
    unfold cnP; cases p (i : Int) <;> simp only [cond_true, cond_false] <;> omega
theorem cnP_add (p : Int → Bool) (a : Nat) : ∀ b : Nat, cnP p (a + b) = cnP p a + cnP (fun i => p ((a : Int) + i)) b
  | 0 => by simp [cnP]
  | b + 1 => by
    have := cnP_add p a b
    show cnP p (a + b + 1) = _
    rw [cnP, this, cnP]
    have e : ((a + b : Nat) : Int) = (a : Int) + (b : Int) := by omega
    rw [e]; omega
theorem cnP_front (p : Int → Bool) (n : Nat) : cnP p (n + 1) = (bif p 0 then 1 else 0) + cnP (fun i => p (1 + i)) n := by
  have := cnP_add p 1 n
  rw [Nat.add_comm] at this
  rw [this]; simp [cnP]
theorem cnP_congr {p q : Int → Bool} : ∀ n : Nat, (∀ i : Nat, i < n → p (i : Int) = q (i : Int)) → cnP p n = cnP q n
  | 0, _ => rfl
  | n + 1, h => by unfold cnP; rw [cnP_congr n (fun i hi => h i (by omega)), h n (by omega)]
theorem cnP_rev : ∀ (n : Nat) (p : Int → Bool), cnP p n = cnP (fun i => p ((n : Int) - 1 - i)) n
  | 0, _ => rfl
  | n + 1, p => by
    rw [cnP, cnP_front, cnP_rev n p]
    have e0 : ((n + 1 : Nat) : Int) - 1 - 0 = (n : Int) := by omega
    rw [e0, Int.add_comm]
    congr 1
    refine cnP_congr n fun i hi => ?_
    congr 1; omega
theorem cnP_even {p : Int → Bool} {M : Nat} (h : ∀ i : Nat, i < 2 * M → p (i : Int) = p ((2 * M : Nat) - 1 - (i : Int))) : cnP p (2 * M) = 2 * cnP p M := by
  have e : 2 * M = M + M := by omega
  rw [e, cnP_add, cnP_rev M (fun i => p ((M : Int) + i))]
  have : cnP (fun i => p ((M : Int) + ((M : Int) - 1 - i))) M = cnP p M := by
    refine cnP_congr M fun i hi => ?_
    rw [h i (by omega)]
    congr 1; omega
  rw [this]; omega
theorem cnP_pos {p : Int → Bool} : ∀ n : Nat, 0 < cnP p n ↔ ∃ i : Nat, i < n ∧ p (i : Int) = true
  | 0 => by simp [cnP]
  | n + 1 => by
    have h1 := cnP_in p n
    have h2 := cnP_pos (p := p) n
    unfold cnP
    constructor
    · intro h
      by_cases hp : p (n : Int) = true
      · exact ⟨n, by omega, hp⟩
      · rw [ite_f (by simpa using hp)] at h
        obtain ⟨i, h3, h4⟩ := h2.1 (by omega)
        exact ⟨i, by omega, h4⟩
    · rintro ⟨i, h3, h4⟩
      by_cases e : i = n
      · subst e; rw [ite_t h4]; omega
      · have := h2.2 ⟨i, by omega, h4⟩
        cases p (n : Int) <;> simp only [cond_true, cond_false] <;> omega
def blB (xs : List Int) (m k q : Int) : Bool := decide (grN xs m k q ≤ 2 ^ (k - 1).toNat)
def cbV (xs : List Int) (m k : Int) : Int := bif awB xs m k then cnP (blB xs m k) (2 ^ xs.length) else 0
theorem iCountBalanced_eq (xs : List Int) (m k : Int) (hx : xs.length ≤ 1048576) : F_impl_CountBalanced xs m k = some (cbV xs m k, awB xs m k) := by
  unfold F_impl_CountBalanced cbV
  rw [bnd1_eq (iAreWeights_eq xs m k hx)]
  cases h : awB xs m k with
  | false => rfl
  | true =>
    obtain ⟨h1, h2, h3, h4, h5, h6⟩ := awB_in h
    have hp := pow12 h6
    rw [ite_f (by rfl), ite_t rfl]
    simp only [jn]
    rw [chk_pos (pow_len h6)]
    have hN : (1 : Int) * 2 ^ Int.toNat ((List.length xs : Nat) : Int) = ((2 ^ xs.length : Nat) : Int) := by rw [Int.one_mul, Int.toNat_natCast, pow_cast]
    refine (loop_up (fun n i (s : Int) => F_impl_CountBalanced_L1 xs m k (fun v6 => some (v6, true)) n i s) ((2 ^ xs.length : Nat) : Int) (fun i => cnP (blB xs m k) i.toNat) _ ?_ ?_ (Int.natCast_nonneg _) fuel (by have := fuel_ge; rw [Int.toNat_natCast]; omega))
    · intro n i i0 i1
      obtain ⟨j, rfl⟩ := int_nat i0
      have e1 : ((j : Int) + 1).toNat = j + 1 := by omega
      have hc := cnP_in (blB xs m k) j
      simp only [Int.toNat_natCast, e1]
      rw [F_impl_CountBalanced_L1, hN, ite_t (decide_eq_true i1), bnd2_eq (iWeights_eq h2 h3 h4)]
      unfold F_impl_greater
      rw [bnd1_eq rfl, chk_pos (by unfold I64; omega), chk_pos (pow_k h3 h4), Int.one_mul, cnP]
      show (bif blB xs m k (j : Int) then _ else _) = _
      rcases Bool.eq_false_or_eq_true (blB xs m k (j : Int)) with hb | hb
      · rw [ite_t hb, ite_t hb, chk_pos (by unfold I64; omega), chk_pos (by unfold I64; omega)]
      · rw [ite_f hb, ite_f hb, chk_pos (by unfold I64; omega), Int.add_zero]
    · intro n
      rw [F_impl_CountBalanced_L1, hN, ite_f (decide_eq_false (by omega)), Int.toNat_natCast]
theorem sCountBalanced_eq (xs : List Int) (m k : Int) (hx : xs.length ≤ 1048576) : F_spec_CountBalanced xs m k = some (cbV xs m k, awB xs m k) := by
  unfold F_spec_CountBalanced cbV
  rw [bnd1_eq (sAsks_eq xs m k hx)]
  cases h : awB xs m k with
  | false => rfl
  | true =>
    obtain ⟨h1, h2, h3, h4, h5, h6⟩ := awB_in h
    have hp := pow12 h6
    rw [ite_f (by rfl), ite_t rfl]
    simp only [jn]
    have hN : (1 : Int) * 2 ^ Int.toNat ((List.length xs : Nat) : Int) = ((2 ^ xs.length : Nat) : Int) := by rw [Int.one_mul, Int.toNat_natCast, pow_cast]
    refine (loop_up (fun n i (s : Int) => F_spec_CountBalanced_L1 xs m k (fun v6 => some (v6, true)) n i s) ((2 ^ xs.length : Nat) : Int) (fun i => cnP (blB xs m k) i.toNat) _ ?_ ?_ (Int.natCast_nonneg _) fuel (by have := fuel_ge; rw [Int.toNat_natCast]; omega))
    · intro n i i0 i1
      obtain ⟨j, rfl⟩ := int_nat i0
      have e1 : ((j : Int) + 1).toNat = j + 1 := by omega
      have hc := cnP_in (blB xs m k) j
      simp only [Int.toNat_natCast, e1]
      rw [F_spec_CountBalanced_L1, chk_pos (pow_len h6), hN, ite_t (decide_eq_true i1), bnd1_eq (sMost_eq h2 h3 h4), chk_pos (by unfold I64; omega), chk_pos (pow_k h3 h4), Int.one_mul, cnP]
      show (bif blB xs m k (j : Int) then _ else _) = _
      rcases Bool.eq_false_or_eq_true (blB xs m k (j : Int)) with hb | hb
      · rw [ite_t hb, ite_t hb, chk_pos (by unfold I64; omega), chk_pos (by unfold I64; omega)]
      · rw [ite_f hb, ite_f hb, chk_pos (by unfold I64; omega), Int.add_zero]
    · intro n
      rw [F_spec_CountBalanced_L1, chk_pos (pow_len h6), hN, ite_f (decide_eq_false (by omega)), Int.toNat_natCast]
theorem gr_other {xs : List Int} {m k q : Int} (h : isQ ((xs.length : Nat) : Int) q = true) : grN xs m k (othN ((xs.length : Nat) : Int) q) = grN xs m k q ∧ wgN xs m (othN ((xs.length : Nat) : Int) q) k true = wgN xs m q k false ∧ wgN xs m (othN ((xs.length : Nat) : Int) q) k false = wgN xs m q k true := by
  have e1 := ans_other (m := m) (y := false) h
  have e2 := ans_other (m := m) (y := true) h
  simp only [Bool.not_false, Bool.not_true] at e1 e2
  have h1 : wgN xs m (othN ((xs.length : Nat) : Int) q) k true = wgN xs m q k false := by unfold wgN; rw [e1]
  have h2 : wgN xs m (othN ((xs.length : Nat) : Int) q) k false = wgN xs m q k true := by unfold wgN; rw [e2]
  refine ⟨?_, h1, h2⟩
  unfold grN; rw [h1, h2, Int.max_comm]
theorem isQ_of {n q : Nat} (h1 : 1 ≤ n) (h2 : n ≤ 12) (h3 : q < 2 ^ n) : isQ (n : Int) (q : Int) = true := by
  unfold isQ
  simp only [Bool.and_eq_true, decide_eq_true_eq, Int.toNat_natCast]
  have := pow_cast n
  omega
theorem bal_even {xs : List Int} {m k : Int} (h : awB xs m k = true) : Int.tmod (cbV xs m k) 2 = 0 := by
  obtain ⟨h1, h2, h3, h4, h5, h6⟩ := awB_in h
  unfold cbV
  rw [ite_t h]
  obtain ⟨l, hl⟩ : ∃ l, xs.length = l + 1 := ⟨xs.length - 1, by omega⟩
  have e : 2 ^ xs.length = 2 * 2 ^ l := by rw [hl, Nat.pow_succ, Nat.mul_comm]
  rw [e, cnP_even]
  · have := cnP_in (blB xs m k) (2 ^ l)
    rw [Int.tmod_eq_emod_of_nonneg (by omega)]; omega
  · intro i hi
    have hq := isQ_of (n := xs.length) (q := i) h5 h6 (by omega)
    have h7 := (gr_other (m := m) (k := k) hq).1
    unfold blB
    have e2 : ((2 * 2 ^ l : Nat) : Int) - 1 - (i : Int) = othN ((xs.length : Nat) : Int) (i : Int) := by
      unfold othN; rw [Int.toNat_natCast, ← e, pow_cast]
    rw [e2, h7]
theorem bal_some {xs : List Int} {m k : Int} (h : awB xs m k = true) : aqB xs m (evV xs m k) k = true ∧ ibV xs m (evV xs m k) k = decide (cbV xs m k > 0) := by
  obtain ⟨h1, h2, h3, h4, h5, h6⟩ := awB_in h
  obtain ⟨⟨j, j1, j2, j3⟩, j4⟩ := lsP_in (grN xs m k) (2 ^ xs.length)
  have hp := Nat.two_pow_pos xs.length
  have hj : j < 2 ^ xs.length := by omega
  have ev : evV xs m k = (j : Int) := by unfold evV; rw [ite_t h, j1]
  have hq := isQ_of (n := xs.length) (q := j) h5 h6 hj
  have ha : aqB xs m (j : Int) k = true := by unfold aqB; rw [h, hq]; rfl
  rw [ev]
  refine ⟨ha, ?_⟩
  unfold ibV cbV
  rw [ha, ite_t h, Bool.true_and, decide_eq_decide]
  constructor
  · intro hle
    exact (cnP_pos _).2 ⟨j, hj, decide_eq_true hle⟩
  · intro hc
    obtain ⟨i, i1, i2⟩ := (cnP_pos _).1 hc
    have h7 := of_decide_eq_true i2
    have h8 := j4 i i1
    rw [j3] at h8
    exact Int.le_trans h8 h7
theorem law_balanced {bs : List Int} (hy : okY bs) (hb : bs.length ≤ 9223372036854775807) : F_laws_FnBalanced bs = some true := by
  unfold F_laws_FnBalanced
  rw [chk_pos hb]
  rcases Bool.eq_false_or_eq_true (decide (((List.length bs : Nat) : Int) > (65536 : Int))) with hB | hB
  · rw [ite_t hB]
  rw [ite_f hB]
  have hB := of_decide_eq_false hB
  have hy1 := okY_cut (k := 1) hy (by omega) (by omega)
  obtain ⟨xs, m, q, k, e1, hm, hx, hq, hk0, hk1⟩ := drawAnswerWeights_ok hy
  obtain ⟨us, um, v, e2, hum, hux, hv0, hv1⟩ := drawStateWeight_ok hy1
  have e3 : F_spec_DrawEvenQuestion (cutY bs 1) = some (us, um, v) := by unfold F_spec_DrawEvenQuestion; rw [bnd3_eq e2]
  rw [bnd4_eq e1, bnd3_eq (iAnswerWeights_eq xs m q k (by omega)), bnd3_eq (sAnswerWeights_eq xs m q k (by omega)), bnd2_eq (iIsBalanced_eq xs m q k (by omega)), bnd2_eq (sIsBalanced_eq xs m q k (by omega)), chk_pos (by omega),
    bnd3_eq e3, bnd2_eq (iEvenQuestion_eq us um v (by omega)), bnd2_eq (sEvenQuestion_eq us um v (by omega)), bnd2_eq (iCountBalanced_eq us um v (by omega)), bnd2_eq (sCountBalanced_eq us um v (by omega))]
  refine jn_is (fun J => J false) (fun J => by simp only [bne_self_eq_false, beq_self_eq_true, Bool.not_true, cond_false, cond_true, Bool.and_self]) ?_
  rw [ite_f rfl]
  refine jn_is (fun J => J ()) (fun J => ?_) ?_
  · rcases Bool.eq_false_or_eq_true (aqB xs m q k) with h | h
    · have ⟨h1, h2⟩ : awB xs m k = true ∧ isQ ((xs.length : Nat) : Int) q = true := by unfold aqB at h; simpa using h
      obtain ⟨h3, h4, h5, h6, h7, h8⟩ := awB_in h1
      have hq2 := isQ_other h2
      have eo : oqV ((xs.length : Nat) : Int) q = othN ((xs.length : Nat) : Int) q := by unfold oqV; rw [if_pos h2]
      have hw : ∀ y, awV xs m q k y = wgN xs m q k y := fun y => by unfold awV; rw [ite_t h]
      have ha2 : aqB xs m (othN ((xs.length : Nat) : Int) q) k = true := by unfold aqB; rw [h1, hq2]; rfl
      have hw2 : ∀ y, awV xs m (othN ((xs.length : Nat) : Int) q) k y = wgN xs m (othN ((xs.length : Nat) : Int) q) k y := fun y => by unfold awV; rw [ite_t ha2]
      obtain ⟨_, g1, g2⟩ := gr_other (m := m) (k := k) h2
      have hsw : swB xs m k = true := by unfold swB; rw [h3, decide_eq_true (by omega), decide_eq_true h6]; rfl
      have hsv : swV xs m k = wtA xs m k := by unfold swV; rw [ite_t hsw]
      have b1 := wgN_in (q := q) (y := true) h4 h6
      have b2 := wgN_in (q := q) (y := false) h4 h6
      have hsum : wgN xs m q k true + wgN xs m q k false = wtA xs m k := wt_both h4 h5
      rw [ite_t h, bnd2_eq (iStateWeight_eq xs m k (by omega)), eo, bnd3_eq (iAnswerWeights_eq xs m _ k (by omega)), hw, hw, hw2, hw2, g1, g2, hsw, h2, ha2, hsv]
      refine jn_is (fun J => J false) (fun J => ?_) ?_
      · have hib : ibV xs m q k = (decide (wgN xs m q k true ≤ (1 : Int) * 2 ^ Int.toNat (k - (1 : Int))) && decide (wgN xs m q k false ≤ (1 : Int) * 2 ^ Int.toNat (k - (1 : Int)))) := by
          unfold ibV grN
          rw [h, Bool.true_and, Int.one_mul, ← Bool.decide_and, decide_eq_decide]
          omega
        rw [ite_f (by rfl), ite_f (by rfl), ite_f (by rfl), chk_pos (by unfold I64; omega), hsum, ite_f (by simp), ite_f (by simp), ite_f (by simp), chk_pos (by unfold I64; omega), chk_pos (pow_k h5 h6), hib]
        rcases Bool.eq_false_or_eq_true (decide (wgN xs m q k true ≤ (1 : Int) * 2 ^ Int.toNat (k - (1 : Int)))) with c1 | c1
        · rw [ite_t c1, c1]; simp
        · rw [ite_f c1, c1]; simp
      · obtain ⟨a1, a2, a3⟩ := as_yes (y := true) h3 h2
        have hs2 : isStateN (ansN m q true xs) m = true := by
          have ho := okS_ans (q := q) (y := true) h4
          exact isStateN_iff.2 ⟨by rw [ansN_len]; omega, ⟨ho.2.1, ho.2.2.1⟩, fun i _ => ho.2.2.2 i⟩
        rw [ite_f rfl, chk_pos (by omega), chk_pos (by unfold I64; omega), a2, a3, bnd2_eq (iStateWeight_eq _ _ _ (by rw [ansN_len]; omega))]
        refine jn_is (fun J => J false) (fun J => ?_) (ite_f rfl _ _)
        have hsw2 : swB (ansN m q true xs) m (k - 1) = true := by unfold swB; rw [hs2, decide_eq_true (by omega), decide_eq_true (by omega)]; rfl
        have hsv2 : swV (ansN m q true xs) m (k - 1) = wgN xs m q k true := by unfold swV wgN; rw [ite_t hsw2]
        rw [a1, hsw2, hsv2, ite_f (by rfl), ite_f (by rfl)]; simp
    · rw [ite_f h]
  rcases Bool.eq_false_or_eq_true (awB us um v) with h | h
  · obtain ⟨h1, h2⟩ := bal_some h
    rw [ite_t h, bnd2_eq (iIsBalanced_eq us um _ v (by omega)), h1, h2, ite_t rfl, ite_t (by simp), bal_even h]; rfl
  · rw [ite_f h]
end Go.Tl
