/-
  Plain laws of the printed functions: no program here.
-/
import Derived.Test.YtopodonemnnjdaaAuHoF
namespace Go.Tl
set_option linter.unusedVariables false
set_option linter.unusedSimpArgs false
/-- A loop, told by what its rounds keep. -/
theorem loop_m {σ R : Type} (L : Nat → σ → Option R) (I : σ → Prop) (μ : σ → Nat) (Q : Option R → Prop)
    (step : ∀ n s, I s → (∃ s', I s' ∧ μ s' < μ s ∧ L (n + 1) s = L n s') ∨ Q (L (n + 1) s)) : ∀ n s, I s → μ s < n → Q (L n s) := by
  intro n
  induction n with
  | zero => intro s _ h; omega
  | succ n ih =>
    intro s hI hm
    rcases step n s hI with ⟨s', h1, h2, h3⟩ | h
    · rw [h3]; exact ih s' h1 (by omega)
    · exact h
/-- A loop that counts up to N; st is its state by the count. -/
theorem loop_up {σ R : Type} (L : Nat → Int → σ → Option R) (N : Int) (st : Int → σ) (r : Option R)
    (step : ∀ n i, 0 ≤ i → i < N → L (n + 1) i (st i) = L n (i + 1) (st (i + 1))) (fin : ∀ n, L (n + 1) N (st N) = r) (h0 : 0 ≤ N) (n : Nat) (hn : N.toNat < n) : L n 0 (st 0) = r := by
  have key : ∀ (k : Nat) (n : Nat) (i : Int), 0 ≤ i → i + k = N → k < n → L n i (st i) = r := by
    intro k
    induction k with
    | zero =>
      intro n i h1 h2 h3; obtain ⟨n, rfl⟩ : ∃ m, n = m + 1 := ⟨n - 1, by omega⟩; have e : i = N := by omega
      subst e; exact fin n
    | succ k ih =>
      intro n i h1 h2 h3
      obtain ⟨n, rfl⟩ : ∃ m, n = m + 1 := ⟨n - 1, by omega⟩
      rw [step n i h1 (by omega)]
      exact ih n (i + 1) (by omega) (by omega) (by omega)
  exact key N.toNat n 0 (Int.le_refl _) (by omega) hn
/-- A loop that counts up to N and may end early: with what p tells. -/
theorem loop_all {R : Type} (L : Nat → Int → Option R) (N : Int) (p : Int → Bool) (no yes : Option R)
    (step : ∀ n i, 0 ≤ i → i < N → p i = true → L (n + 1) i = L n (i + 1)) (stop : ∀ n i, 0 ≤ i → i < N → p i = false → L (n + 1) i = no) (fin : ∀ n, L (n + 1) N = yes) (h0 : 0 ≤ N) (n : Nat) (hn : N.toNat < n) :
    (L n 0 = yes ∧ ∀ i, 0 ≤ i → i < N → p i = true) ∨ (L n 0 = no ∧ ∃ i, 0 ≤ i ∧ i < N ∧ p i = false ∧ ∀ j, 0 ≤ j → j < i → p j = true) := by
  have key : ∀ (k : Nat) (n : Nat) (i : Int), 0 ≤ i → i + k = N → k < n → (∀ j, 0 ≤ j → j < i → p j = true) → (L n i = yes ∧ ∀ i, 0 ≤ i → i < N → p i = true) ∨ (L n i = no ∧ ∃ i, 0 ≤ i ∧ i < N ∧ p i = false ∧ ∀ j, 0 ≤ j → j < i → p j = true) := by
    intro k
    induction k with
    | zero =>
      intro n i h1 h2 h3 h4; obtain ⟨n, rfl⟩ : ∃ m, n = m + 1 := ⟨n - 1, by omega⟩; have e : i = N := by omega
      subst e; exact .inl ⟨fin n, h4⟩
    | succ k ih =>
      intro n i h1 h2 h3 h4
      obtain ⟨n, rfl⟩ : ∃ m, n = m + 1 := ⟨n - 1, by omega⟩
      cases hp : p i with
      | false => exact .inr ⟨stop n i h1 (by omega) hp, i, h1, by omega, hp, h4⟩
      | true =>
        rw [step n i h1 (by omega) hp]
        refine ih n (i + 1) (by omega) (by omega) (by omega) fun j k1 k2 => ?_
        by_cases e : j = i
        · rw [e]; exact hp
        · exact h4 j k1 (by omega)
  exact key N.toNat n 0 (Int.le_refl _) (by omega) hn fun j h1 h2 => by omega
theorem ite_t {α : Type} {c : Bool} (h : c = true) (x y : α) : (bif c then x else y) = x := by rw [h]; rfl
theorem ite_f {α : Type} {c : Bool} (h : c = false) (x y : α) : (bif c then x else y) = y := by rw [h]; rfl
theorem ite_c {α : Type} {P : α → Prop} {c : Bool} {x y : α} (h1 : c = true → P x) (h2 : c = false → P y) : P (bif c then x else y) := by
  cases c
  · exact h2 rfl
  · exact h1 rfl
theorem getD_in {xs : List Int} {i : Nat} {P : Int → Prop} (h : i < xs.length) (hP : ∀ x ∈ xs, P x) : P (xs.getD i 0) := by
  rw [List.getD_eq_getElem?_getD, List.getElem?_eq_getElem h]; exact hP _ (List.getElem_mem h)
theorem maxN_in {a b : Int} : a ≤ maxN a b ∧ b ≤ maxN a b ∧ (maxN a b = a ∨ maxN a b = b) := by unfold maxN; split <;> omega
theorem minN_in {a b : Int} : minN a b ≤ a ∧ minN a b ≤ b ∧ (minN a b = a ∨ minN a b = b) := by unfold minN; split <;> omega
theorem next_ok {bs : List Int} {p s : Int} (hy : okY bs) (h0 : 0 ≤ p) (h1 : p ≤ 1000000000000) : ∃ v s', F_p_spec_l1Cur_next bs p s = some (v, bs, p + 1, s') ∧ 0 ≤ v ∧ v ≤ 255 := by
  unfold F_p_spec_l1Cur_next
  have hb := hy p.toNat
  have fin : ∀ v3 : Int, 0 ≤ v3 → v3 ≤ 255 → ∃ v s', (chk (I64 (p + (1 : Int))) <| nam (IntKind.wrap .u64 (s * (6364136223846793005 : Int))) fun n37 => nam (IntKind.wrap .u64 (n37 + (IntKind.wrap .u64 v3))) fun n40 => (bif (decide ((p + (1 : Int)) ≤ ((List.length bs : Nat) : Int))) then some (v3, bs, (p + (1 : Int)), (IntKind.wrap .u64 (n40 + (462197 : Int)))) else nam (bits .and .u64 ((IntKind.wrap .u64 (n40 + (462197 : Int))) / 2 ^ Int.toNat (40 : Int)) (255 : Int)) fun n60 => chk (I64 n60) <| some (n60, bs, (p + (1 : Int)), (IntKind.wrap .u64 (n40 + (462197 : Int)))))) = some (v, bs, p + 1, s') ∧ 0 ≤ v ∧ v ≤ 255 := by
    intro v3 k0 k1
    rw [chk_pos (by unfold I64; omega)]
    simp only [nam]
    refine ite_c (P := fun o => ∃ v s', o = some (v, bs, p + 1, s') ∧ 0 ≤ v ∧ v ≤ 255) (fun _ => ?_) (fun _ => ?_)
    · exact ⟨_, _, rfl, k0, k1⟩
    · have h2 := and255 ((IntKind.wrap .u64 ((IntKind.wrap .u64 ((IntKind.wrap .u64 (s * (6364136223846793005 : Int))) + (IntKind.wrap .u64 v3))) + (462197 : Int))) / 2 ^ Int.toNat (40 : Int))
      rw [chk_pos (by unfold I64; omega)]
      exact ⟨_, _, rfl, h2.1, h2.2⟩
  simp only [jn]
  refine ite_c (P := fun o => ∃ v s', o = some (v, bs, p + 1, s') ∧ 0 ≤ v ∧ v ≤ 255) (fun h => ?_) (fun _ => ?_)
  · have h := of_decide_eq_true h
    rw [chk_pos (by omega), chk_pos (by unfold I64; omega)]
    exact fin _ hb.1 hb.2
  · exact fin 0 (by omega) (by omega)
theorem tmod_in {a n : Int} (h0 : 0 ≤ a) (h1 : 0 < n) : 0 ≤ Int.tmod a n ∧ Int.tmod a n < n := ⟨Int.tmod_nonneg _ h0, Int.tmod_lt_of_pos _ h1⟩
theorem pick_ok {bs : List Int} {p s n : Int} (hy : okY bs) (h0 : 0 ≤ p) (h1 : p ≤ 900000000000) : ∃ v p' s', F_p_spec_l1Cur_pick bs p s n = some (v, bs, p', s') ∧ p ≤ p' ∧ p' ≤ p + 2 ∧ 0 ≤ v ∧ (1 ≤ n → v < n) := by
  unfold F_p_spec_l1Cur_pick
  rcases Bool.eq_false_or_eq_true (decide (n ≤ (1 : Int))) with h | h
  · have h := of_decide_eq_true h
    rw [ite_t (decide_eq_true h)]
    exact ⟨0, p, s, rfl, by omega, by omega, by omega, fun _ => by omega⟩
  · rw [ite_f h]
    have h := of_decide_eq_false h
    obtain ⟨v, s', e, g0, g1⟩ := next_ok (s := s) hy h0 (by omega)
    rw [bnd4_eq e]
    simp only [jn]
    rcases Bool.eq_false_or_eq_true (decide (n > (200 : Int))) with h4 | h4
    · rw [ite_t h4]
      obtain ⟨v2, s2, e2, k0, k1⟩ := next_ok (s := s') hy (p := p + 1) (by omega) (by omega)
      rw [chk_pos (by unfold I64; omega), bnd4_eq e2, chk_pos (by unfold I64; omega), chk_pos (by omega)]
      have := tmod_in (a := v * 256 + v2) (n := n) (by omega) (by omega)
      exact ⟨_, _, _, rfl, by omega, by omega, this.1, fun _ => this.2⟩
    · rw [ite_f h4]
      rw [chk_pos (by omega)]
      have := tmod_in (a := v) (n := n) (by omega) (by omega)
      exact ⟨_, _, _, rfl, by omega, by omega, this.1, fun _ => this.2⟩
theorem one_ok {bs : List Int} {p s n : Int} (hy : okY bs) (h0 : 0 ≤ p) (h1 : p ≤ 900000000000) : ∃ b p' s', F_p_spec_l1Cur_one bs p s n = some (b, bs, p', s') ∧ p ≤ p' ∧ p' ≤ p + 2 := by
  unfold F_p_spec_l1Cur_one
  obtain ⟨v, p', s', e, g0, g1, g2, g3⟩ := pick_ok (s := s) (n := n) hy h0 h1
  rw [bnd4_eq e]
  exact ⟨_, _, _, rfl, g0, g1⟩
theorem among_ok {bs : List Int} {p s : Int} {xs : List Int} (hy : okY bs) (h0 : 0 ≤ p) (h1 : p ≤ 900000000000) (hx : 0 < xs.length) : ∃ v p' s', F_p_spec_l1Cur_among bs p s xs = some (v, bs, p', s') ∧ p ≤ p' ∧ p' ≤ p + 2 ∧ v ∈ xs := by
  unfold F_p_spec_l1Cur_among
  obtain ⟨v, p', s', e, g0, g1, g2, g3⟩ := pick_ok (s := s) (n := ((List.length xs : Nat) : Int)) hy h0 h1
  rw [bnd4_eq e, chk_pos ⟨g2, g3 (by omega)⟩]
  refine ⟨_, _, _, rfl, g0, g1, ?_⟩
  have := g3 (by omega)
  exact getD_in (P := fun x => x ∈ xs) (by omega) fun x hx => hx
theorem many_ok {bs : List Int} {p s : Int} (hy : okY bs) (h0 : 0 ≤ p) (h1 : p ≤ 900000000000) : ∃ v p' s', F_p_spec_l1Cur_many bs p s = some (v, bs, p', s') ∧ p ≤ p' ∧ p' ≤ p + 2 ∧ 0 ≤ v ∧ v ≤ 13 := by
  unfold F_p_spec_l1Cur_many
  obtain ⟨v, p', s', e, g0, g1, g2⟩ := among_ok (s := s) (xs := [(4 : Int), (6 : Int), (8 : Int), (3 : Int), (5 : Int), (2 : Int), (7 : Int), (12 : Int), (1 : Int), (0 : Int), (13 : Int), (4 : Int), (6 : Int), (8 : Int), (3 : Int), (5 : Int)]) hy h0 h1 (by decide)
  rw [bnd4_eq e]
  refine ⟨_, _, _, rfl, g0, g1, ?_⟩
  simp only [List.mem_cons, List.not_mem_nil, or_false] at g2
  omega
theorem lies_ok {bs : List Int} {p s : Int} (hy : okY bs) (h0 : 0 ≤ p) (h1 : p ≤ 900000000000) : ∃ v p' s', F_p_spec_l1Cur_lies bs p s = some (v, bs, p', s') ∧ p ≤ p' ∧ p' ≤ p + 2 ∧ -1 ≤ v ∧ v ≤ 3 := by
  unfold F_p_spec_l1Cur_lies
  obtain ⟨v, p', s', e, g0, g1, g2⟩ := among_ok (s := s) (xs := [(1 : Int), (1 : Int), (2 : Int), (0 : Int), (1 : Int), (2 : Int), (1 : Int), (3 : Int), (-1 : Int), (1 : Int), (2 : Int), (0 : Int)]) hy h0 h1 (by decide)
  rw [bnd4_eq e]
  refine ⟨_, _, _, rfl, g0, g1, ?_⟩
  simp only [List.mem_cons, List.not_mem_nil, or_false] at g2
  omega
theorem pow13 {n : Int} (h0 : 0 ≤ n) (h1 : n ≤ 13) : 1 ≤ (2 : Int) ^ n.toNat ∧ (2 : Int) ^ n.toNat ≤ 8192 := by
  obtain ⟨k, rfl⟩ : ∃ k : Nat, n = k := ⟨n.toNat, by omega⟩
  have : k ≤ 13 := by omega
  simp only [Int.toNat_natCast]
  match k, this with
  | 0, _ | 1, _ | 2, _ | 3, _ | 4, _ | 5, _ | 6, _ | 7, _ | 8, _ | 9, _ | 10, _ | 11, _ | 12, _ | 13, _ => decide
theorem question_ok {bs : List Int} {p s n : Int} (hy : okY bs) (h0 : 0 ≤ p) (h1 : p ≤ 800000000000) : ∃ v p' s', F_p_spec_l1Cur_question bs p s n = some (v, bs, p', s') ∧ p ≤ p' ∧ p' ≤ p + 4 ∧ -1 ≤ v ∧ v ≤ 4611686018427387904 := by
  unfold F_p_spec_l1Cur_question
  obtain ⟨v, p', s', e, g0, g1⟩ := one_ok (s := s) (n := 24) hy h0 (by omega)
  rw [bnd4_eq e]
  have a1 := minN_in (a := n) (b := 13)
  have a2 := maxN_in (a := 0) (b := minN n 13)
  have a3 := minN_in (a := n) (b := 12)
  have a4 := maxN_in (a := 0) (b := minN n 12)
  have b1 := pow13 (n := maxN 0 (minN n 13)) (by omega) (by omega)
  have b2 := pow13 (n := maxN 0 (minN n 12)) (by omega) (by omega)
  rcases Bool.eq_false_or_eq_true v with h4 | h4
  · rw [ite_t h4]
    rw [chk_pos ⟨by omega, by omega, by unfold I64; omega⟩]
    obtain ⟨v2, p2, s2, e2, k0, k1, k2⟩ := among_ok (s := s') (xs := [(-1 : Int), ((1 : Int) * 2 ^ Int.toNat (maxN (0 : Int) (minN n (13 : Int)))), (4611686018427387904 : Int)]) hy (p := p') (by omega) (by omega) (by simp)
    rw [bnd4_eq e2]
    refine ⟨_, _, _, rfl, by omega, by omega, ?_⟩
    simp only [List.mem_cons, List.not_mem_nil, or_false] at k2
    omega
  · rw [ite_f h4]
    rw [chk_pos ⟨by omega, by omega, by unfold I64; omega⟩]
    obtain ⟨v2, p2, s2, e2, k0, k1, k2, k3⟩ := pick_ok (s := s') (n := (1 : Int) * 2 ^ Int.toNat (maxN (0 : Int) (minN n (12 : Int)))) hy (p := p') (by omega) (by omega)
    rw [bnd4_eq e2]
    have := k3 (by omega)
    exact ⟨_, _, _, rfl, by omega, by omega, by omega, by omega⟩
theorem state_ok {bs : List Int} {p s : Int} (hy : okY bs) (h0 : 0 ≤ p) (h1 : p ≤ 700000000000) : ∃ xs m p' s', F_p_spec_l1Cur_state bs p s = some (xs, m, bs, p', s') ∧ p ≤ p' ∧ p' ≤ p + 100 ∧ -1 ≤ m ∧ m ≤ 3 ∧ xs.length ≤ 13 ∧ (∀ x ∈ xs, -1 ≤ x ∧ x ≤ 4) := by
  unfold F_p_spec_l1Cur_state
  obtain ⟨m, p1, s1, e1, g0, g1, g2, g3⟩ := lies_ok (s := s) hy h0 (by omega)
  obtain ⟨k, p2, s2, e2, k0, k1, k2, k3⟩ := many_ok (s := s1) hy (p := p1) (by omega) (by omega)
  rw [bnd4_eq e1, bnd4_eq e2]
  simp only [jn]
  let Q : Option (List Int × Int × List Int × Int × Int) → Prop := fun o => ∃ xs m p' s', o = some (xs, m, bs, p', s') ∧ p ≤ p' ∧ p' ≤ p + 100 ∧ -1 ≤ m ∧ m ≤ 3 ∧ xs.length ≤ 13 ∧ (∀ x ∈ xs, -1 ≤ x ∧ x ≤ 4)
  have fin2 : ∀ (xs : List Int) (pp ss : Int), p ≤ pp → pp ≤ p + 56 → xs.length = k.toNat → (∀ x ∈ xs, -1 ≤ x ∧ x ≤ 4) → Q (F_p_spec_l1Cur_state_L2 m k (fun o500d o500e o500g o12b => some (o12b, m, o500d, o500e, o500g)) fuel bs pp ss xs 0) := by
    intro xs pp ss hp1 hp2 hl hx
    refine loop_m (fun n (z : Int × Int × List Int × Int) => F_p_spec_l1Cur_state_L2 m k (fun o500d o500e o500g o12b => some (o12b, m, o500d, o500e, o500g)) n bs z.1 z.2.1 z.2.2.1 z.2.2.2) (fun z => 0 ≤ z.2.2.2 ∧ z.2.2.2 ≤ k ∧ p ≤ z.1 ∧ z.1 ≤ p + 56 + 2 * z.2.2.2 ∧ z.2.2.1.length = k.toNat ∧ ∀ x ∈ z.2.2.1, -1 ≤ x ∧ x ≤ 4) (fun z => (k - z.2.2.2).toNat) Q ?_ fuel (pp, ss, xs, 0) ⟨by simp only; omega, by simp only; omega, hp1, by simp only; omega, hl, hx⟩ (by have := fuel_ge; simp only; omega)
    rintro n ⟨pp, ss, xs, i⟩ ⟨i0, i1, q0, q1, ql, qx⟩
    simp only at i0 i1 q0 q1 ql qx ⊢
    rw [F_p_spec_l1Cur_state_L2]
    by_cases hi : i < k
    · rw [ite_t (decide_eq_true hi)]
      simp only [jn]
      rw [chk_pos (by omega)]
      have stay : ∀ pp', p ≤ pp' → pp' ≤ p + 56 + 2 * (i + 1) → ∀ ss' (b : Bool), (∃ s' : Int × Int × List Int × Int, (0 ≤ s'.2.2.2 ∧ s'.2.2.2 ≤ k ∧ p ≤ s'.1 ∧ s'.1 ≤ p + 56 + 2 * s'.2.2.2 ∧ s'.2.2.1.length = k.toNat ∧ ∀ x ∈ s'.2.2.1, -1 ≤ x ∧ x ≤ 4) ∧ (k - s'.2.2.2).toNat < (k - i).toNat ∧
          (bif b then chk (0 ≤ i ∧ i < ((List.length xs : Nat) : Int)) <| chk (I64 (i + (1 : Int))) <| F_p_spec_l1Cur_state_L2 m k (fun o500d o500e o500g o12b => some (o12b, m, o500d, o500e, o500g)) n bs pp' ss' (List.set xs (Int.toNat i) (-1 : Int)) (i + (1 : Int)) else chk (I64 (i + (1 : Int))) <| F_p_spec_l1Cur_state_L2 m k (fun o500d o500e o500g o12b => some (o12b, m, o500d, o500e, o500g)) n bs pp' ss' xs (i + (1 : Int))) = F_p_spec_l1Cur_state_L2 m k (fun o500d o500e o500g o12b => some (o12b, m, o500d, o500e, o500g)) n bs s'.1 s'.2.1 s'.2.2.1 s'.2.2.2) := by
        intro pp' r0 r1 ss' b
        cases b
        · rw [ite_f rfl, chk_pos (by unfold I64; omega)]
          exact ⟨(pp', ss', xs, i + 1), ⟨by simp only; omega, by simp only; omega, r0, r1, ql, qx⟩, by simp only; omega, rfl⟩
        · rw [ite_t rfl, chk_pos (by omega), chk_pos (by unfold I64; omega)]
          refine ⟨(pp', ss', List.set xs (Int.toNat i) (-1), i + 1), ⟨by simp only; omega, by simp only; omega, r0, r1, by simp only [List.length_set]; exact ql, fun x hx => ?_⟩, by simp only; omega, rfl⟩
          rcases List.mem_or_eq_of_mem_set hx with h | h
          · exact qx x h
          · subst h; omega
      rcases Bool.eq_false_or_eq_true (decide (List.getD xs (Int.toNat i) 0 > m)) with h4 | h4
      · rw [ite_t h4]
        obtain ⟨b, p4, s4, e4, w0, w1⟩ := one_ok (s := ss) (n := 30) hy (p := pp) (by omega) (by omega)
        rw [bnd4_eq e4]
        exact .inl (stay p4 (by omega) (by omega) s4 (!b))
      · rw [ite_f h4]
        exact .inl (stay pp (by omega) (by omega) ss false)
    · rw [ite_f (decide_eq_false hi)]
      exact .inr ⟨_, _, _, _, rfl, by omega, by omega, g2, g3, by omega, qx⟩
  refine loop_m (fun n (z : Int × Int × List Int × Int) => F_p_spec_l1Cur_state_L1 m k (fun o500 o500b o500c o12 => F_p_spec_l1Cur_state_L2 m k (fun o500d o500e o500g o12b => some (o12b, m, o500d, o500e, o500g)) fuel o500 o500b o500c o12 0) n bs z.1 z.2.1 z.2.2.1 z.2.2.2) (fun z => 0 ≤ z.2.2.2 ∧ z.2.2.2 ≤ k ∧ p ≤ z.1 ∧ z.1 ≤ p + 4 + 4 * z.2.2.2 ∧ z.2.2.1.length = z.2.2.2.toNat ∧ ∀ x ∈ z.2.2.1, -1 ≤ x ∧ x ≤ 4) (fun z => (k - z.2.2.2).toNat) Q ?_ fuel (p2, s2, [], 0) ⟨by simp, by simp only; omega, by simp only; omega, by simp only; omega, rfl, fun x hx => by simp at hx⟩ (by have := fuel_ge; simp only; omega)
  rintro n ⟨pp, ss, xs, i⟩ ⟨i0, i1, q0, q1, ql, qx⟩
  simp only at i0 i1 q0 q1 ql qx ⊢
  rw [F_p_spec_l1Cur_state_L1]
  by_cases hi : i < k
  · rw [ite_t (decide_eq_true hi), chk_pos (by unfold I64; omega)]
    have a2 := maxN_in (a := 1) (b := m + 2)
    obtain ⟨v, p4, s4, e4, w0, w1, w2, w3⟩ := pick_ok (s := ss) (n := maxN 1 (m + 2)) hy (p := pp) (by omega) (by omega)
    obtain ⟨v5, p5, s5, e5, y0, y1, y2, y3⟩ := pick_ok (s := s4) (n := 6) hy (p := p4) (by omega) (by omega)
    have hd := d5_in y2 (y3 (by omega))
    unfold d5 at hd
    have hv := w3 (by omega)
    rw [bnd4_eq e4, bnd4_eq e5, chk_pos (by unfold I64; omega), chk_pos (by unfold I64; omega), chk_pos ⟨by omega, by simp only [maxLen]; omega⟩, chk_pos (by unfold I64; omega)]
    refine .inl ⟨(p5, s5, xs ++ [v - Int.tdiv v5 5], i + 1), ⟨by simp only; omega, by simp only; omega, by simp only; omega, by simp only; omega, by simp only [List.length_append, List.length_cons, List.length_nil]; omega, fun x hx => ?_⟩, by simp only; omega, rfl⟩
    rcases List.mem_append.1 hx with h | h
    · exact qx x h
    · simp only [List.mem_cons, List.not_mem_nil, or_false] at h
      omega
  · rw [ite_f (decide_eq_false hi)]
    exact .inr (fin2 xs pp ss q0 (by omega) (by omega) qx)
theorem jn_is {γ δ : Type} {f : γ} {g : γ → Option δ} {r : Option δ} (k : γ → Option δ) (h : ∀ J, g J = k J) (h2 : k f = r) : jn f g = r := by
  unfold jn; rw [h f]; exact h2
/-- The numbers below k that p tells. -/
def fl (p : Nat → Bool) (k : Nat) : List Int := ((List.range k).filter p).map fun (i : Nat) => (i : Int)
theorem fl_yes {p : Nat → Bool} {k : Nat} (h : p k = true) : fl p (k + 1) = fl p k ++ [(k : Int)] := by
  unfold fl; rw [List.range_succ, List.filter_append, List.map_append, List.filter_cons, if_pos h]; rfl
theorem fl_no {p : Nat → Bool} {k : Nat} (h : p k = false) : fl p (k + 1) = fl p k := by
  unfold fl; rw [List.range_succ, List.filter_append, List.map_append, List.filter_cons, if_neg (by rw [h]; simp)]; simp
theorem fl_len (p : Nat → Bool) (k : Nat) : (fl p k).length ≤ k := by
  unfold fl; rw [List.length_map]; exact Nat.le_trans (List.length_filter_le _ _) (by simp)
theorem mem_fl {p : Nat → Bool} {k : Nat} {x : Int} : x ∈ fl p k ↔ ∃ i : Nat, i < k ∧ p i = true ∧ x = (i : Int) := by
  unfold fl
  simp only [List.mem_map, List.mem_filter, List.mem_range]
  constructor
  · rintro ⟨i, ⟨h1, h2⟩, rfl⟩; exact ⟨i, h1, h2, rfl⟩
  · rintro ⟨i, h1, h2, rfl⟩; exact ⟨i, ⟨h1, h2⟩, rfl⟩
theorem fl_getD {p : Nat → Bool} {k i : Nat} (h : i < (fl p k).length) : ∃ j : Nat, j < k ∧ p j = true ∧ (fl p k).getD i 0 = (j : Int) := by
  have : (fl p k).getD i 0 ∈ fl p k := getD_in (P := fun x => x ∈ fl p k) h fun x hx => hx
  obtain ⟨j, h1, h2, h3⟩ := mem_fl.1 this
  exact ⟨j, h1, h2, h3⟩
theorem openN_fl (xs : List Int) : openN xs = fl (fun i => decide (xs.getD i 0 ≥ 0)) xs.length := rfl
theorem int_nat {i : Int} (h : 0 ≤ i) : ∃ k : Nat, i = (k : Int) := ⟨i.toNat, by omega⟩
theorem bits_nat_or {a b : Nat} (ha : a < 9223372036854775808) (hb : b < 9223372036854775808) : bits .or .i64 (a : Int) (b : Int) = ((a ||| b : Nat) : Int) := by
  have hc : a ||| b < 2 ^ 63 := Nat.or_lt_two_pow (by omega) (by omega)
  unfold bits
  rw [IntKind.wrap_i64]
  show (((BitVec.ofInt 64 (a : Int) ||| BitVec.ofInt 64 (b : Int)).toNat : Int) + 9223372036854775808) % 18446744073709551616 - 9223372036854775808 = _
  rw [BitVec.toNat_or, BitVec.toNat_ofInt, BitVec.toNat_ofInt]
  have e1 : ((a : Int) % ((2 ^ 64 : Nat) : Int)).toNat = a := by omega
  have e2 : ((b : Int) % ((2 ^ 64 : Nat) : Int)).toNat = b := by omega
  rw [e1, e2]
  omega
theorem bits_nat_and {a b : Nat} (ha : a < 9223372036854775808) (hb : b < 9223372036854775808) : bits .and .i64 (a : Int) (b : Int) = ((a &&& b : Nat) : Int) := by
  have hc : a &&& b < 2 ^ 63 := Nat.and_lt_two_pow _ (by omega)
  unfold bits
  rw [IntKind.wrap_i64]
  show (((BitVec.ofInt 64 (a : Int) &&& BitVec.ofInt 64 (b : Int)).toNat : Int) + 9223372036854775808) % 18446744073709551616 - 9223372036854775808 = _
  rw [BitVec.toNat_and, BitVec.toNat_ofInt, BitVec.toNat_ofInt]
  have e1 : ((a : Int) % ((2 ^ 64 : Nat) : Int)).toNat = a := by omega
  have e2 : ((b : Int) % ((2 ^ 64 : Nat) : Int)).toNat = b := by omega
  rw [e1, e2]
  omega
theorem has_nat {q k : Nat} (hk : k ≤ 64) : hasB (q : Int) (k : Int) = q.testBit k := by
  unfold hasB
  rw [and1, Int.toNat_natCast, Nat.min_eq_left hk, Int.fdiv_eq_ediv_of_nonneg _ (Int.le_of_lt (Int.pow_pos (by decide))), Nat.testBit_eq_decide_div_mod_eq]
  have e : (q : Int) / 2 ^ k % 2 = ((q / 2 ^ k % 2 : Nat) : Int) := by norm_cast
  rw [e]
  have : q / 2 ^ k % 2 = 0 ∨ q / 2 ^ k % 2 = 1 := by omega
  rcases this with h | h <;> rw [h] <;> rfl
theorem has_raw {q k : Int} (h0 : 0 ≤ k) (h1 : k < 64) : (bits .and .i64 (q / 2 ^ Int.toNat k) (1 : Int) == (1 : Int)) = hasB q k := by
  unfold hasB
  rw [Nat.min_eq_left (by omega), Int.fdiv_eq_ediv_of_nonneg _ (Int.le_of_lt (Int.pow_pos (by decide)))]
theorem and1_has {q k : Int} (h0 : 0 ≤ k) (h1 : k < 64) : bits .and .i64 (q / 2 ^ Int.toNat k) (1 : Int) = bif hasB q k then 1 else 0 := by
  rw [← has_raw h0 h1, and1]
  have : q / 2 ^ k.toNat % 2 = 0 ∨ q / 2 ^ k.toNat % 2 = 1 := by omega
  rcases this with h | h <;> rw [h] <;> rfl
theorem isQ_nat {n q : Int} (h : isQ n q = true) : ∃ n' q' : Nat, n = n' ∧ q = q' ∧ 1 ≤ n' ∧ n' ≤ 12 ∧ q' < 2 ^ n' := by
  obtain ⟨⟨h0, h1, h2⟩, h3, h4⟩ := isQ_in h
  obtain ⟨n', rfl⟩ := int_nat h0
  obtain ⟨q', rfl⟩ := int_nat h3
  refine ⟨n', q', rfl, rfl, by omega, by omega, ?_⟩
  simp only [Int.toNat_natCast] at h4
  have : ((2 ^ n' : Nat) : Int) = (2 : Int) ^ n' := by norm_cast
  omega
theorem rInts_eq (xs ys : List Int) (hx : xs.length ≤ 1048576) : F_laws_rInts xs ys = some (xs == ys) := by
  unfold F_laws_rInts
  by_cases hl : xs.length = ys.length
  · rw [ite_f (by rw [hl]; simp)]
    simp only [jn]
    refine Or.elim (loop_all (fun m i => F_laws_rInts_L1 xs ys (fun _ => some true) m i) (xs.length : Int) (fun i => xs.getD i.toNat 0 == ys.getD i.toNat 0) (some false) (some true) ?_ ?_ ?_ (by omega) fuel (by have := fuel_ge; omega)) ?_ ?_
    · intro m i i0 i1 hp
      rw [F_laws_rInts_L1, ite_t (decide_eq_true i1), chk_pos ⟨i0, i1⟩, chk_pos ⟨i0, by omega⟩, ite_f (by simpa [bne] using hp), chk_pos (by unfold I64; omega)]
    · intro m i i0 i1 hp
      rw [F_laws_rInts_L1, ite_t (decide_eq_true i1), chk_pos ⟨i0, i1⟩, chk_pos ⟨i0, by omega⟩, ite_t (by simpa [bne] using hp)]
    · intro m
      rw [F_laws_rInts_L1, ite_f (decide_eq_false (by omega))]
    · rintro ⟨e, h⟩
      rw [e]
      have : xs = ys := by
        refine List.ext_getElem hl fun i h1 h2 => ?_
        have := h (i : Int) (by omega) (by omega)
        simp only [Int.toNat_natCast, beq_iff_eq] at this
        simpa [List.getD_eq_getElem?_getD, h1, h2] using this
      rw [this]; simp
    · rintro ⟨e, i, i0, i1, i2, _⟩
      rw [e]
      have : (xs == ys) = false := by
        rw [beq_eq_false_iff_ne]
        intro hh
        subst hh
        simp at i2
      rw [this]
  · rw [ite_t (by simp; omega)]
    have : (xs == ys) = false := by
      rw [beq_eq_false_iff_ne]; intro hh; exact hl (by rw [hh])
    rw [this]
theorem openN_le (xs : List Int) : (openN xs).length ≤ xs.length := fl_len _ _
theorem state_len {xs : List Int} {m : Int} (h : isStateN xs m = true) : 1 ≤ xs.length ∧ xs.length ≤ 12 ∧ 0 ≤ m ∧ m ≤ 2 := by
  have := isStateN_iff.1 h; omega
theorem sOpenL_eq (xs : List Int) (m : Int) (hx : xs.length ≤ 1048576) : F_spec_l2Open xs m = some (openN xs) := by
  unfold F_spec_l2Open
  simp only [jn]
  rw [openN_fl]
  have hl := fun k => fl_len (fun i => decide (xs.getD i 0 ≥ 0)) k
  refine (loop_up (fun m i (s : List Int) => F_spec_l2Open_L1 xs (fun o5 => some o5) m s i) (xs.length : Int) (fun i => fl (fun i => decide (xs.getD i 0 ≥ 0)) i.toNat) _ ?_ ?_ (by omega) fuel (by have := fuel_ge; omega))
  · intro m i i0 i1
    obtain ⟨k, rfl⟩ := int_nat i0
    have hlk := hl k
    have e1 : ((k : Int) + 1).toNat = k + 1 := by omega
    simp only [Int.toNat_natCast, e1]
    rw [F_spec_l2Open_L1, ite_t (decide_eq_true i1), chk_pos ⟨i0, i1⟩]
    simp only [Int.toNat_natCast]
    by_cases hb : xs.getD k 0 ≥ 0
    · rw [ite_t (decide_eq_true hb), fl_yes (p := fun i => decide (xs.getD i 0 ≥ 0)) (decide_eq_true hb), chk_pos ⟨by omega, by simp only [maxLen]; omega⟩, chk_pos (by unfold I64; omega)]
    · rw [ite_f (decide_eq_false hb), fl_no (p := fun i => decide (xs.getD i 0 ≥ 0)) (decide_eq_false hb), chk_pos (by unfold I64; omega)]
  · intro m
    rw [F_spec_l2Open_L1, ite_f (decide_eq_false (by omega))]
    simp only [Int.toNat_natCast]
def opV (xs : List Int) (m : Int) : List Int := bif isStateN xs m then openN xs else []
theorem iOpenNumbers_eq (xs : List Int) (m : Int) (hx : xs.length ≤ 1048576) : F_impl_OpenNumbers xs m = some (opV xs m, isStateN xs m) := by
  unfold F_impl_OpenNumbers opV
  rw [chk_pos (by omega)]
  cases h : isStateN xs m with
  | false => rfl
  | true => rw [ite_f (by rfl), chk_pos (by omega), ite_t rfl]
theorem opV_len (xs : List Int) (m : Int) : (opV xs m).length ≤ 12 := by
  unfold opV
  refine ite_c (P := fun l : List Int => l.length ≤ 12) (fun h => ?_) (fun _ => ?_)
  · have := state_len h; have := openN_le xs; omega
  · simp
theorem rBools_self (xs : List Bool) (hx : xs.length ≤ 1048576) : F_laws_rBools xs xs = some true := by
  unfold F_laws_rBools
  rw [ite_f (bne_self_eq_false _)]
  simp only [jn]
  refine loop_up (fun k i (_ : Unit) => F_laws_rBools_L1 xs xs (fun _ => some true) k i) (xs.length : Int) (fun _ => ()) (some true) ?_ ?_ (by omega) fuel (by have := fuel_ge; omega)
  · intro k i i0 i1
    rw [F_laws_rBools_L1, ite_t (decide_eq_true i1), chk_pos ⟨i0, i1⟩, chk_pos ⟨i0, i1⟩, ite_f (by rw [beq_self_eq_true]; rfl), chk_pos (by unfold I64; omega)]
  · intro k
    rw [F_laws_rBools_L1, ite_f (decide_eq_false (by omega))]
/-- The answers that a number tells, the first one in its highest bit. -/
def anP (c : Int) (n k : Nat) : List Bool := (List.range k).map fun (i : Nat) => hasB c ((n : Int) - 1 - (i : Int))
def anw (c : Int) (n : Nat) : List Bool := anP c n n
theorem anP_len (c : Int) (n k : Nat) : (anP c n k).length = k := by simp [anP]
theorem anw_len (c : Int) (n : Nat) : (anw c n).length = n := anP_len c n n
theorem anP_succ (c : Int) (n k : Nat) : anP c n (k + 1) = anP c n k ++ [hasB c ((n : Int) - 1 - (k : Int))] := by
  unfold anP; rw [List.range_succ, List.map_append]; rfl
/-- A state behind questions and answers. -/
def eP (m : Int) (qs : List Int) (av : List Bool) (xs : List Int) : Nat → List Int
  | 0 => xs
  | k + 1 => ansN m (qs.getD k 0) (av.getD k false) (eP m qs av xs k)
theorem eP_len (m : Int) (qs : List Int) (av : List Bool) (xs : List Int) : ∀ k, (eP m qs av xs k).length = xs.length
  | 0 => rfl
  | k + 1 => by rw [eP, ansN_len, eP_len m qs av xs k]
theorem okS_eP {m : Int} {qs : List Int} {av : List Bool} {xs : List Int} (h : okS xs m) : ∀ k, okS (eP m qs av xs k) m
  | 0 => h
  | k + 1 => by rw [eP]; exact okS_ans (okS_eP h k)
def endL (m : Int) (qs : List Int) (av : List Bool) (xs : List Int) : List Int := eP m qs av xs qs.length
theorem iTold_eq {xs : List Int} {m : Int} {qs : List Int} {av : List Bool} (h : okS xs m) (hl : av.length = qs.length) (hq : qs.length ≤ 1000) : F_impl_State_told xs m qs av = some (endL m qs av xs, m) := by
  unfold F_impl_State_told
  refine jn_is (fun J => J (endL m qs av xs)) (fun J => ?_) rfl
  refine loop_up (fun k i (s : List Int) => F_impl_State_told_L1 m qs av J k s i) ((qs.length : Nat) : Int) (fun i => eP m qs av xs i.toNat) _ ?_ ?_ (by omega) fuel (by have := fuel_ge; omega)
  · intro k i i0 i1
    obtain ⟨j, rfl⟩ := int_nat i0
    have e1 : ((j : Int) + 1).toNat = j + 1 := by omega
    simp only [Int.toNat_natCast, e1]
    rw [F_impl_State_told_L1, ite_t (decide_eq_true i1), chk_pos ⟨i0, i1⟩, chk_pos ⟨i0, by omega⟩, chk_pos (okS_eP h j), chk_pos (by unfold I64; omega), Int.toNat_natCast]
    rfl
  · intro k
    simp only [Int.toNat_natCast]
    rw [F_impl_State_told_L1, ite_f (decide_eq_false (by omega))]
    rfl
theorem sEnd_eq {xs : List Int} {m : Int} {qs : List Int} {av : List Bool} (h : okS xs m) (hl : av.length = qs.length) (hq : qs.length ≤ 1000) : F_spec_l8End xs m qs av = some (endL m qs av xs, m) := by
  unfold F_spec_l8End
  refine jn_is (fun J => J (endL m qs av xs)) (fun J => ?_) rfl
  refine loop_up (fun k i (s : List Int) => F_spec_l8End_L1 m qs av J k s i) ((qs.length : Nat) : Int) (fun i => eP m qs av xs i.toNat) _ ?_ ?_ (by omega) fuel (by have := fuel_ge; omega)
  · intro k i i0 i1
    obtain ⟨j, rfl⟩ := int_nat i0
    have e1 : ((j : Int) + 1).toNat = j + 1 := by omega
    simp only [Int.toNat_natCast, e1]
    rw [F_spec_l8End_L1, ite_t (decide_eq_true i1), chk_pos ⟨i0, i1⟩, chk_pos ⟨i0, by omega⟩, chk_pos (okS_eP h j), chk_pos (by unfold I64; omega), Int.toNat_natCast]
    rfl
  · intro k
    simp only [Int.toNat_natCast]
    rw [F_spec_l8End_L1, ite_f (decide_eq_false (by omega))]
    rfl
theorem sAnsw_eq (c : Int) {n : Nat} (hn : n ≤ 63) : F_spec_l8Answers c (n : Int) = some (anw c n) := by
  unfold F_spec_l8Answers
  refine jn_is (fun J => J (anw c n)) (fun J => ?_) rfl
  rw [chk_pos (by unfold I64; omega)]
  have key := loop_up (fun k i (s : List Bool) => F_spec_l8Answers_L1 c J k s ((n : Int) - 1 - i)) (n : Int) (fun i => anP c n i.toNat) (J (anw c n)) ?_ ?_ (by omega) fuel (by have := fuel_ge; omega)
  · simpa [anP] using key
  · intro k i i0 i1
    obtain ⟨j, rfl⟩ := int_nat i0
    have e1 : ((j : Int) + 1).toNat = j + 1 := by omega
    have e2 : (n : Int) - 1 - (j : Int) - 1 = (n : Int) - 1 - ((j : Int) + 1) := by omega
    have hl := anP_len c n j
    simp only [Int.toNat_natCast, e1]
    rw [F_spec_l8Answers_L1, ite_t (decide_eq_true (by omega)), chk_pos ⟨by omega, by omega⟩]
    simp only [nam]
    rw [hl, chk_pos ⟨by omega, by simp only [maxLen]; omega⟩, chk_pos (by unfold I64; omega), has_raw (by omega) (by omega), e2, anP_succ]
  · intro k
    simp only [Int.toNat_natCast]
    rw [F_spec_l8Answers_L1, ite_f (decide_eq_false (by omega))]
    rfl
/-- How many numbers a list of answers leaves open. -/
def lfN (xs : List Int) (m : Int) (qs : List Int) (c : Int) : Nat := (openN (endL m qs (anw c qs.length) xs)).length
theorem lfN_le {xs : List Int} {m : Int} {qs : List Int} {c : Int} : lfN xs m qs c ≤ xs.length := by
  have := openN_le (endL m qs (anw c qs.length) xs)
  unfold lfN endL at *
  rw [eP_len] at this
  exact this
theorem sLeft_eq {xs : List Int} {m : Int} {qs : List Int} (c : Int) (h : okS xs m) (hq : qs.length ≤ 63) : F_spec_l8Left xs m qs c = some ((lfN xs m qs c : Nat) : Int) := by
  have hl := h.1
  unfold F_spec_l8Left
  rw [bnd1_eq (sAnsw_eq c hq), bnd2_eq (sEnd_eq h (anw_len _ _) (by omega)), bnd1_eq (sOpenL_eq _ m (by unfold endL; rw [eP_len]; omega))]
  rfl
/-- How many of the first codes p tells. -/
def cP (p : Nat → Bool) : Nat → Nat
  | 0 => 0
  | k + 1 => cP p k + (bif p k then 1 else 0)
theorem cP_le (p : Nat → Bool) : ∀ k, cP p k ≤ k
  | 0 => Nat.le_refl _
  | k + 1 => by
    have := cP_le p k
    unfold cP
    cases p k <;> simp only [cond_true, cond_false] <;> omega
theorem cP_mono {p q : Nat → Bool} (h : ∀ i, p i = true → q i = true) : ∀ k, cP p k ≤ cP q k
  | 0 => Nat.le_refl _
  | k + 1 => by
    have := cP_mono h k
    unfold cP
    cases hp : p k with
    | false => cases q k <;> simp only [cond_true, cond_false] <;> omega
    | true => rw [h k hp]; simp only [cond_true]; omega
theorem cP_zero {p : Nat → Bool} : ∀ {k}, cP p k = 0 → ∀ i, i < k → p i = false
  | 0, _, i, hi => by omega
  | k + 1, h, i, hi => by
    unfold cP at h
    cases hp : p k with
    | true => rw [hp] at h; simp only [cond_true] at h; omega
    | false =>
      by_cases e : i = k
      · subst e; exact hp
      · exact cP_zero (k := k) (by omega) i (by omega)
theorem cP_pos {p : Nat → Bool} {i : Nat} (hp : p i = true) : ∀ {k}, i < k → 0 < cP p k
  | 0, h => by omega
  | k + 1, h => by
    unfold cP
    by_cases e : i = k
    · subst e; rw [hp]; simp only [cond_true]; omega
    · have := cP_pos hp (k := k) (by omega); omega
theorem pow8 {n : Nat} (h : n ≤ 8) : ((1 : Int) * 2 ^ Int.toNat ((n : Nat) : Int)) = ((2 ^ n : Nat) : Int) ∧ 1 ≤ 2 ^ n ∧ 2 ^ n ≤ 256 := by
  refine ⟨by rw [Int.toNat_natCast, Int.one_mul]; norm_cast, Nat.one_le_two_pow, ?_⟩
  exact Nat.pow_le_pow_right (by decide) h
theorem lists92_in (qs : List Int) (c : Int) (J : List Bool → Option Int) (hq : qs.length ≤ 63) : F_impl_State_lists_92_L2 qs c J fuel [] 0 = J (anw c qs.length) := by
  have key := loop_up (fun k i (o : List Bool) => F_impl_State_lists_92_L2 qs c J k o i) ((qs.length : Nat) : Int) (fun i => anP c qs.length i.toNat) (J (anw c qs.length)) ?_ ?_ (by omega) fuel (by have := fuel_ge; omega)
  · exact key
  · intro k i i0 i1
    obtain ⟨j, rfl⟩ := int_nat i0
    have e1 : ((j : Int) + 1).toNat = j + 1 := by omega
    have hl := anP_len c qs.length j
    simp only [Int.toNat_natCast, e1]
    rw [F_impl_State_lists_92_L2, ite_t (decide_eq_true i1), chk_pos (by unfold I64; omega)]
    simp only [nam]
    rw [chk_pos (by unfold I64; omega), chk_pos (by omega), hl, chk_pos ⟨by omega, by simp only [maxLen]; omega⟩, chk_pos (by unfold I64; omega), anP_succ]
  · intro k
    simp only [Int.toNat_natCast]
    rw [F_impl_State_lists_92_L2, ite_f (decide_eq_false (by omega))]
    rfl

def lgP (xs : List Int) (m : Int) (qs : List Int) (least : Nat) (c : Nat) : Bool := decide (least ≤ lfN xs m qs (c : Int))
def cntH (xs : List Int) (m : Int) (qs : List Int) (least : Nat) : Nat := cP (lgP xs m qs least) (2 ^ qs.length)
theorem cntH_le (xs : List Int) (m : Int) {qs : List Int} (least : Nat) (hq : qs.length ≤ 8) : cntH xs m qs least ≤ 256 := by
  have := cP_le (lgP xs m qs least) (2 ^ qs.length)
  have := (pow8 hq).2.2
  unfold cntH; omega
theorem iCount_eq {xs : List Int} {m : Int} {qs : List Int} {least : Nat} (h : okS xs m) (hq : qs.length ≤ 8) (hb : least ≤ 100) : F_impl_State_count xs m qs (least : Int) = some ((cntH xs m qs least : Nat) : Int) := by
  unfold F_impl_State_count F_impl_State_lists_92
  obtain ⟨p1, p2, p3⟩ := pow8 hq
  have hl := h.1
  rw [p1, chk_pos ⟨by omega, by omega, by unfold I64; omega⟩]
  have key := loop_up (fun k i (s : Int) => F_impl_State_lists_92_L1 xs m qs (least : Int) k s i) ((2 ^ qs.length : Nat) : Int) (fun i => ((cP (lgP xs m qs least) i.toNat : Nat) : Int)) (some ((cntH xs m qs least : Nat) : Int)) ?_ ?_ (by omega) fuel (by have := fuel_ge; omega)
  · have key' : F_impl_State_lists_92_L1 xs m qs (least : Int) fuel 0 0 = some ((cntH xs m qs least : Nat) : Int) := key
    rw [bnd1_eq key']
  · intro k i i0 i1
    obtain ⟨j, rfl⟩ := int_nat i0
    have e1 : ((j : Int) + 1).toNat = j + 1 := by omega
    have hc := cP_le (lgP xs m qs least) j
    simp only [Int.toNat_natCast, e1]
    rw [F_impl_State_lists_92_L1, p1, ite_t (decide_eq_true i1)]
    refine jn_is (fun J => J ((cP (lgP xs m qs least) (j + 1) : Nat) : Int)) (fun J => ?_) (by rw [chk_pos (by unfold I64; omega)])
    refine jn_is (fun J2 => J2 (anw (j : Int) qs.length)) (fun J2 => lists92_in qs (j : Int) J2 (by omega)) ?_
    rw [bnd2_eq (iTold_eq h (anw_len _ _) (by omega)), chk_pos (by unfold endL; rw [eP_len]; omega)]
    have e : F_impl_State_count_1 (anw (j : Int) qs.length) ((List.length (openN (endL m qs (anw (j : Int) qs.length) xs)) : Nat) : Int) (least : Int) ((cP (lgP xs m qs least) j : Nat) : Int) = some ((cP (lgP xs m qs least) (j + 1) : Nat) : Int) := by
      unfold F_impl_State_count_1
      show (bif decide (((lfN xs m qs (j : Int) : Nat) : Int) ≥ (least : Int)) then _ else _) = _
      rw [cP]
      by_cases hg : least ≤ lfN xs m qs (j : Int)
      · rw [ite_t (decide_eq_true (by omega)), chk_pos (by unfold I64; omega), show lgP xs m qs least j = true from decide_eq_true hg]; rfl
      · rw [ite_f (decide_eq_false (by omega)), show lgP xs m qs least j = false from decide_eq_false hg]; rfl
    rw [bnd1_eq e]
  · intro k
    simp only [Int.toNat_natCast]
    rw [F_impl_State_lists_92_L1, p1, ite_f (decide_eq_false (by omega))]
    rfl
theorem sCount_eq {xs : List Int} {m : Int} {qs : List Int} {least : Nat} (h : okS xs m) (hq : qs.length ≤ 8) (hb : least ≤ 100) : F_spec_l8Count xs m qs (least : Int) = some ((cntH xs m qs least : Nat) : Int) := by
  unfold F_spec_l8Count
  obtain ⟨p1, p2, p3⟩ := pow8 hq
  refine jn_is (fun J => J ((cntH xs m qs least : Nat) : Int)) (fun J => ?_) rfl
  have key := loop_up (fun k i (s : Int) => F_spec_l8Count_L1 xs m qs (least : Int) J k i s) ((2 ^ qs.length : Nat) : Int) (fun i => ((cP (lgP xs m qs least) i.toNat : Nat) : Int)) (J ((cntH xs m qs least : Nat) : Int)) ?_ ?_ (by omega) fuel (by have := fuel_ge; omega)
  · exact key
  · intro k i i0 i1
    obtain ⟨j, rfl⟩ := int_nat i0
    have e1 : ((j : Int) + 1).toNat = j + 1 := by omega
    have hc := cP_le (lgP xs m qs least) j
    simp only [Int.toNat_natCast, e1]
    rw [F_spec_l8Count_L1, p1, chk_pos ⟨by omega, by omega, by unfold I64; omega⟩, ite_t (decide_eq_true i1), bnd1_eq (sLeft_eq _ h (by omega)), cP]
    by_cases hg : least ≤ lfN xs m qs (j : Int)
    · rw [ite_t (decide_eq_true (by omega)), chk_pos (by unfold I64; omega), chk_pos (by unfold I64; omega), show lgP xs m qs least j = true from decide_eq_true hg]; rfl
    · rw [ite_f (decide_eq_false (by omega)), chk_pos (by unfold I64; omega), show lgP xs m qs least j = false from decide_eq_false hg]; rfl
  · intro k
    simp only [Int.toNat_natCast]
    rw [F_spec_l8Count_L1, p1, chk_pos ⟨by omega, by omega, by unfold I64; omega⟩, ite_f (decide_eq_false (by omega))]
    rfl
theorem iCount1 {xs : List Int} {m : Int} {qs : List Int} (h : okS xs m) (hq : qs.length ≤ 8) : F_impl_State_count xs m qs 1 = some ((cntH xs m qs 1 : Nat) : Int) := iCount_eq (least := 1) h hq (by omega)
theorem iCount2 {xs : List Int} {m : Int} {qs : List Int} (h : okS xs m) (hq : qs.length ≤ 8) : F_impl_State_count xs m qs 2 = some ((cntH xs m qs 2 : Nat) : Int) := iCount_eq (least := 2) h hq (by omega)
theorem sCount1 {xs : List Int} {m : Int} {qs : List Int} (h : okS xs m) (hq : qs.length ≤ 8) : F_spec_l8Count xs m qs 1 = some ((cntH xs m qs 1 : Nat) : Int) := sCount_eq (least := 1) h hq (by omega)
theorem sCount2 {xs : List Int} {m : Int} {qs : List Int} (h : okS xs m) (hq : qs.length ≤ 8) : F_spec_l8Count xs m qs 2 = some ((cntH xs m qs 2 : Nat) : Int) := sCount_eq (least := 2) h hq (by omega)
def gdH (xs : List Int) (m : Int) (qs : List Int) : Bool := isStateN xs m && (decide (qs.length ≤ 8) && !(qs.any fun x => !(isQ ((xs.length : Nat) : Int) x)))
theorem gdH_in {xs : List Int} {m : Int} {qs : List Int} (h : gdH xs m qs = true) : isStateN xs m = true ∧ okS xs m ∧ qs.length ≤ 8 ∧ ∀ q ∈ qs, isQ ((xs.length : Nat) : Int) q = true := by
  unfold gdH at h
  simp only [Bool.and_eq_true, decide_eq_true_eq, Bool.not_eq_true', List.any_eq_false, Bool.not_eq_true] at h
  refine ⟨h.1, okS_of h.1, h.2.1, fun q hq => ?_⟩
  have := h.2.2 q hq
  simpa using this
theorem gdH_of {xs : List Int} {m : Int} {qs : List Int} (h1 : isStateN xs m = true) (h2 : qs.length ≤ 8) (h3 : ∀ q ∈ qs, isQ ((xs.length : Nat) : Int) q = true) : gdH xs m qs = true := by
  unfold gdH
  simp only [Bool.and_eq_true, decide_eq_true_eq, Bool.not_eq_true', List.any_eq_false, Bool.not_eq_true]
  exact ⟨h1, h2, fun q hq => by rw [h3 q hq]; simp⟩
theorem iListed_eq (xs : List Int) (m : Int) (qs : List Int) (hx : xs.length ≤ 1000) : F_impl_areListed xs m qs = some (gdH xs m qs) := by
  unfold F_impl_areListed gdH
  rw [chk_pos (by omega)]
  cases isStateN xs m with
  | false => rfl
  | true =>
    rw [ite_t rfl]
    by_cases h : qs.length ≤ 8
    · rw [ite_t (decide_eq_true (by omega)), decide_eq_true h]; rfl
    · rw [ite_f (decide_eq_false (by omega)), decide_eq_false h]; rfl
theorem sGood_eq (xs : List Int) (m : Int) (qs : List Int) (hx : xs.length ≤ 1000) (hq : qs.length ≤ 1000) : F_spec_l8Good xs m qs = some (gdH xs m qs) := by
  unfold F_spec_l8Good gdH
  refine jn_is (fun J => J (!(isStateN xs m && decide (qs.length ≤ 8)))) (fun J => ?_) ?_
  · rw [chk_pos (by omega)]
    cases isStateN xs m with
    | false => rfl
    | true =>
      rw [Bool.not_true, ite_f rfl]
      by_cases h : qs.length ≤ 8
      · rw [decide_eq_true h, decide_eq_false (by omega)]; rfl
      · rw [decide_eq_false h, decide_eq_true (by omega)]; rfl
  · cases hs : isStateN xs m with
    | false => rfl
    | true =>
      by_cases h : qs.length ≤ 8
      · rw [decide_eq_true h, ite_f (by rfl)]
        refine jn_is (fun J => bif qs.any (fun x => !(isQ ((xs.length : Nat) : Int) x)) then some false else J ()) (fun J => ?_) ?_
        · rcases loop_all (F_spec_l8Good_L1 xs qs J) ((qs.length : Nat) : Int) (fun i => isQ ((xs.length : Nat) : Int) (qs.getD i.toNat 0)) (some false) (J ()) (fun n i i0 i1 hp => by rw [F_spec_l8Good_L1, ite_t (decide_eq_true i1), chk_pos ⟨i0, i1⟩, chk_pos (by omega), ite_f (by rw [hp]; rfl), chk_pos (by unfold I64; omega)])
              (fun n i i0 i1 hp => by rw [F_spec_l8Good_L1, ite_t (decide_eq_true i1), chk_pos ⟨i0, i1⟩, chk_pos (by omega), ite_t (by rw [hp]; rfl)]) (fun n => by rw [F_spec_l8Good_L1, ite_f (decide_eq_false (by omega))]) (by omega) fuel (by have := fuel_ge; omega) with ⟨h1, h2⟩ | ⟨h1, i, i0, i1, h2, _⟩
          · rw [h1, ite_f ?_]
            rw [List.any_eq_false]
            intro x hx
            obtain ⟨i, hi, rfl⟩ := List.getElem_of_mem hx
            have := h2 (i : Int) (by omega) (by omega)
            rw [Int.toNat_natCast, List.getD_eq_getElem?_getD, List.getElem?_eq_getElem hi] at this
            have this : isQ ((xs.length : Nat) : Int) qs[i] = true := this
            rw [this]; simp
          · rw [h1, ite_t ?_]
            rw [List.any_eq_true]
            have hi : i.toNat < qs.length := by omega
            refine ⟨qs[i.toNat], List.getElem_mem hi, ?_⟩
            rw [List.getD_eq_getElem?_getD, List.getElem?_eq_getElem hi] at h2
            have h2 : isQ ((xs.length : Nat) : Int) qs[i.toNat] = false := h2
            rw [h2]; rfl
        · cases qs.any (fun x => !(isQ ((xs.length : Nat) : Int) x)) <;> rfl
      · rw [decide_eq_false h]; rfl
def cgV (xs : List Int) (m : Int) (qs : List Int) (least : Nat) : Int := bif gdH xs m qs then ((cntH xs m qs least : Nat) : Int) else 0
theorem iFair_eq (xs : List Int) (m : Int) (qs : List Int) (hx : xs.length ≤ 1000) : F_impl_CountFair xs m qs = some (cgV xs m qs 1, gdH xs m qs) := by
  unfold F_impl_CountFair cgV
  rw [bnd1_eq (iListed_eq xs m qs hx)]
  cases h : gdH xs m qs with
  | false => rfl
  | true => obtain ⟨_, h2, h3, _⟩ := gdH_in h; rw [Bool.not_true, ite_f rfl, bnd1_eq (iCount1 h2 h3)]; rfl
theorem sFair_eq (xs : List Int) (m : Int) (qs : List Int) (hx : xs.length ≤ 1000) (hq : qs.length ≤ 1000) : F_spec_CountFair xs m qs = some (cgV xs m qs 1, gdH xs m qs) := by
  unfold F_spec_CountFair cgV
  rw [bnd1_eq (sGood_eq xs m qs hx hq)]
  cases h : gdH xs m qs with
  | false => rfl
  | true => obtain ⟨_, h2, h3, _⟩ := gdH_in h; rw [Bool.not_true, ite_f rfl, bnd1_eq (sCount1 h2 h3)]; rfl
theorem iHold_eq (xs : List Int) (m : Int) (qs : List Int) (hx : xs.length ≤ 1000) : F_impl_CountHolding xs m qs = some (cgV xs m qs 2, gdH xs m qs) := by
  unfold F_impl_CountHolding cgV
  rw [bnd1_eq (iListed_eq xs m qs hx)]
  cases h : gdH xs m qs with
  | false => rfl
  | true => obtain ⟨_, h2, h3, _⟩ := gdH_in h; rw [Bool.not_true, ite_f rfl, bnd1_eq (iCount2 h2 h3)]; rfl
theorem sHold_eq (xs : List Int) (m : Int) (qs : List Int) (hx : xs.length ≤ 1000) (hq : qs.length ≤ 1000) : F_spec_CountHolding xs m qs = some (cgV xs m qs 2, gdH xs m qs) := by
  unfold F_spec_CountHolding cgV
  rw [bnd1_eq (sGood_eq xs m qs hx hq)]
  cases h : gdH xs m qs with
  | false => rfl
  | true => obtain ⟨_, h2, h3, _⟩ := gdH_in h; rw [Bool.not_true, ite_f rfl, bnd1_eq (sCount2 h2 h3)]; rfl
def tlB8 (xs : List Int) (m : Int) (qs : List Int) : Bool := cntH xs m qs 2 == 0
theorem sTell_eq {xs : List Int} {m : Int} {qs : List Int} (h : okS xs m) (hq : qs.length ≤ 8) : F_spec_l8Tell xs m qs = some (tlB8 xs m qs) := by
  unfold F_spec_l8Tell tlB8
  rw [bnd1_eq (sCount2 h hq)]
  congr 1
  rw [Bool.eq_iff_iff, beq_iff_eq, beq_iff_eq]
  omega
def dtV (xs : List Int) (m : Int) (qs : List Int) : Bool := gdH xs m qs && tlB8 xs m qs
theorem iDoTell_eq (xs : List Int) (m : Int) (qs : List Int) (hx : xs.length ≤ 1000) : F_impl_DoTell xs m qs = some (dtV xs m qs, gdH xs m qs) := by
  unfold F_impl_DoTell dtV tlB8
  rw [bnd1_eq (iListed_eq xs m qs hx)]
  cases h : gdH xs m qs with
  | false => rfl
  | true =>
    obtain ⟨_, h2, h3, _⟩ := gdH_in h
    rw [Bool.not_true, ite_f rfl, bnd1_eq (iCount2 h2 h3)]
    congr 2
    rw [Bool.true_and, Bool.eq_iff_iff, beq_iff_eq, beq_iff_eq]
    omega
theorem sDoTell_eq (xs : List Int) (m : Int) (qs : List Int) (hx : xs.length ≤ 1000) (hq : qs.length ≤ 1000) : F_spec_DoTell xs m qs = some (dtV xs m qs, gdH xs m qs) := by
  unfold F_spec_DoTell dtV
  rw [bnd1_eq (sGood_eq xs m qs hx hq)]
  cases h : gdH xs m qs with
  | false => rfl
  | true => obtain ⟨_, h2, h3, _⟩ := gdH_in h; rw [Bool.not_true, ite_f rfl, bnd1_eq (sTell_eq h2 h3)]; rfl
theorem lists42_in (qs : List Int) (c : Int) (J : List Bool → Option (Bool × List Bool)) (hq : qs.length ≤ 63) : F_impl_State_lists_42_L2 qs c J fuel [] 0 = J (anw c qs.length) := by
  have key := loop_up (fun k i (o : List Bool) => F_impl_State_lists_42_L2 qs c J k o i) ((qs.length : Nat) : Int) (fun i => anP c qs.length i.toNat) (J (anw c qs.length)) ?_ ?_ (by omega) fuel (by have := fuel_ge; omega)
  · exact key
  · intro k i i0 i1
    obtain ⟨j, rfl⟩ := int_nat i0
    have e1 : ((j : Int) + 1).toNat = j + 1 := by omega
    have hl := anP_len c qs.length j
    simp only [Int.toNat_natCast, e1]
    rw [F_impl_State_lists_42_L2, ite_t (decide_eq_true i1), chk_pos (by unfold I64; omega)]
    simp only [nam]
    rw [chk_pos (by unfold I64; omega), chk_pos (by omega), hl, chk_pos ⟨by omega, by simp only [maxLen]; omega⟩, chk_pos (by unfold I64; omega), anP_succ]
  · intro k
    simp only [Int.toNat_natCast]
    rw [F_impl_State_lists_42_L2, ite_f (decide_eq_false (by omega))]
    rfl

/-- The first code that p tells. -/
def fstP (p : Nat → Bool) : Nat → Option Nat
  | 0 => none
  | k + 1 => match fstP p k with
    | some i => some i
    | none => bif p k then some k else none
theorem fstP_more {p : Nat → Bool} {i : Nat} : ∀ {k l : Nat}, fstP p k = some i → k ≤ l → fstP p l = some i
  | k, 0, h, hl => by have : k = 0 := by omega
                      subst this; exact h
  | k, l + 1, h, hl => by
    by_cases e : k = l + 1
    · subst e; exact h
    · rw [fstP, fstP_more (l := l) h (by omega)]
theorem fstP_some {p : Nat → Bool} {i : Nat} : ∀ {k : Nat}, fstP p k = some i → i < k ∧ p i = true
  | 0, h => by simp [fstP] at h
  | k + 1, h => by
    rw [fstP] at h
    cases hk : fstP p k with
    | some j =>
      rw [hk] at h
      simp only [Option.some.injEq] at h
      subst h
      have := fstP_some hk
      exact ⟨by omega, this.2⟩
    | none =>
      rw [hk] at h
      cases hp : p k with
      | true => rw [hp] at h; simp only [cond_true, Option.some.injEq] at h; subst h; exact ⟨by omega, hp⟩
      | false => rw [hp] at h; simp at h
theorem fstP_none {p : Nat → Bool} : ∀ {k : Nat}, fstP p k = none → ∀ i, i < k → p i = false
  | 0, _, i, hi => by omega
  | k + 1, h, i, hi => by
    rw [fstP] at h
    cases hk : fstP p k with
    | some j => rw [hk] at h; simp at h
    | none =>
      rw [hk] at h
      cases hp : p k with
      | true => rw [hp] at h; simp at h
      | false =>
        by_cases e : i = k
        · subst e; exact hp
        · exact fstP_none hk i (by omega)
def l2P (xs : List Int) (m : Int) (qs : List Int) (c : Nat) : Bool := decide (2 ≤ lfN xs m qs (c : Int))
def fhO (xs : List Int) (m : Int) (qs : List Int) (k : Nat) : List Bool := match fstP (l2P xs m qs) k with
  | some i => anw (i : Int) qs.length
  | none => []
def fhB (xs : List Int) (m : Int) (qs : List Int) : Bool := gdH xs m qs && (fstP (l2P xs m qs) (2 ^ qs.length)).isSome
def fhV (xs : List Int) (m : Int) (qs : List Int) : List Bool := bif gdH xs m qs then fhO xs m qs (2 ^ qs.length) else []
theorem fhO_len (xs : List Int) (m : Int) (qs : List Int) (k : Nat) : (fhO xs m qs k).length ≤ qs.length := by
  unfold fhO
  cases fstP (l2P xs m qs) k with
  | some i => simp only [anw_len]; exact Nat.le_refl _
  | none => exact Nat.zero_le _
theorem iFirst_eq (xs : List Int) (m : Int) (qs : List Int) (hx : xs.length ≤ 1000) : F_impl_FirstHolding xs m qs = some (fhV xs m qs, fhB xs m qs) := by
  unfold F_impl_FirstHolding fhV fhB
  rw [bnd1_eq (iListed_eq xs m qs hx)]
  cases hg : gdH xs m qs with
  | false => rfl
  | true =>
    obtain ⟨_, h, hq, _⟩ := gdH_in hg
    obtain ⟨p1, p2, p3⟩ := pow8 hq
    have hl := h.1
    rw [Bool.not_true, ite_f rfl, ite_t rfl, Bool.true_and]
    have key : F_impl_State_lists_42 xs m qs false = some ((fstP (l2P xs m qs) (2 ^ qs.length)).isSome, fhO xs m qs (2 ^ qs.length)) := by
      unfold F_impl_State_lists_42
      rw [p1, chk_pos ⟨by omega, by omega, by unfold I64; omega⟩]
      have key := loop_up (fun k i (s : Bool × List Bool) => F_impl_State_lists_42_L1 xs m qs k s.1 s.2 i) ((2 ^ qs.length : Nat) : Int) (fun i => ((fstP (l2P xs m qs) i.toNat).isSome, fhO xs m qs i.toNat)) (some ((fstP (l2P xs m qs) (2 ^ qs.length)).isSome, fhO xs m qs (2 ^ qs.length))) ?_ ?_ (by omega) fuel (by have := fuel_ge; omega)
      · exact key
      · intro k i i0 i1
        obtain ⟨j, rfl⟩ := int_nat i0
        have e1 : ((j : Int) + 1).toNat = j + 1 := by omega
        simp only [Int.toNat_natCast, e1]
        rw [F_impl_State_lists_42_L1, p1, ite_t (decide_eq_true i1)]
        refine jn_is (fun J => J (fstP (l2P xs m qs) (j + 1)).isSome (fhO xs m qs (j + 1))) (fun J => ?_) (by rw [chk_pos (by unfold I64; omega)])
        refine jn_is (fun J2 => J2 (anw (j : Int) qs.length)) (fun J2 => lists42_in qs (j : Int) J2 (by omega)) ?_
        rw [bnd2_eq (iTold_eq h (anw_len _ _) (by omega)), chk_pos (by unfold endL; rw [eP_len]; omega)]
        have e : F_impl_FirstHolding_1 (anw (j : Int) qs.length) ((List.length (openN (endL m qs (anw (j : Int) qs.length) xs)) : Nat) : Int) (fstP (l2P xs m qs) j).isSome (fhO xs m qs j) = some ((fstP (l2P xs m qs) (j + 1)).isSome, fhO xs m qs (j + 1)) := by
          unfold F_impl_FirstHolding_1
          refine jn_is (fun J => J (l2P xs m qs j && !(fstP (l2P xs m qs) j).isSome)) (fun J => ?_) ?_
          · show (bif decide (((lfN xs m qs (j : Int) : Nat) : Int) ≥ 2) then _ else _) = _
            by_cases hg : 2 ≤ lfN xs m qs (j : Int)
            · rw [ite_t (decide_eq_true (by omega)), show l2P xs m qs j = true from decide_eq_true hg, Bool.true_and]
            · rw [ite_f (decide_eq_false (by omega)), show l2P xs m qs j = false from decide_eq_false hg, Bool.false_and]
          · unfold fhO
            rw [fstP]
            cases fstP (l2P xs m qs) j with
            | some i => simp
            | none => cases l2P xs m qs j <;> simp
        rw [bnd2_eq e]
      · intro k
        simp only [Int.toNat_natCast]
        rw [F_impl_State_lists_42_L1, p1, ite_f (decide_eq_false (by omega))]
    rw [bnd2_eq key]
theorem sFirst_eq (xs : List Int) (m : Int) (qs : List Int) (hx : xs.length ≤ 1000) (hq0 : qs.length ≤ 1000) : F_spec_FirstHolding xs m qs = some (fhV xs m qs, fhB xs m qs) := by
  unfold F_spec_FirstHolding fhV fhB
  rw [bnd1_eq (sGood_eq xs m qs hx hq0)]
  cases hg : gdH xs m qs with
  | false => rfl
  | true =>
    obtain ⟨_, h, hq, _⟩ := gdH_in hg
    obtain ⟨p1, p2, p3⟩ := pow8 hq
    rw [Bool.not_true, ite_f rfl, ite_t rfl, Bool.true_and]
    simp only [jn]
    refine loop_m (fun k (i : Int) => F_spec_FirstHolding_L1 xs m qs (fun _ => some ([], false)) k i) (fun i => 0 ≤ i ∧ i ≤ ((2 ^ qs.length : Nat) : Int) ∧ fstP (l2P xs m qs) i.toNat = none) (fun i => (((2 ^ qs.length : Nat) : Int) - i).toNat) (fun o => o = some (fhO xs m qs (2 ^ qs.length), (fstP (l2P xs m qs) (2 ^ qs.length)).isSome)) ?_ fuel 0 ⟨by omega, by omega, rfl⟩ (by have := fuel_ge; omega)
    rintro k i ⟨i0, i1, i2⟩
    obtain ⟨j, rfl⟩ := int_nat i0
    rw [Int.toNat_natCast] at i2
    rw [F_spec_FirstHolding_L1, p1, chk_pos ⟨by omega, by omega, by unfold I64; omega⟩]
    by_cases hi : j < 2 ^ qs.length
    · have e1 : ((j : Int) + 1).toNat = j + 1 := by omega
      rw [ite_t (decide_eq_true (by omega)), bnd1_eq (sLeft_eq _ h (by omega))]
      by_cases hg : 2 ≤ lfN xs m qs (j : Int)
      · rw [ite_t (decide_eq_true (by omega)), bnd1_eq (sAnsw_eq _ (by omega))]
        have e : fstP (l2P xs m qs) (j + 1) = some j := by rw [fstP, i2]; simp only; rw [show l2P xs m qs j = true from decide_eq_true hg]; rfl
        have e' := fstP_more (l := 2 ^ qs.length) e (by omega)
        right
        unfold fhO
        rw [e']
        rfl
      · rw [ite_f (decide_eq_false (by omega)), chk_pos (by unfold I64; omega)]
        refine .inl ⟨(j : Int) + 1, ⟨by omega, by omega, ?_⟩, by omega, rfl⟩
        rw [e1, fstP, i2]
        simp only
        rw [show l2P xs m qs j = false from decide_eq_false hg]; rfl
    · have e : j = 2 ^ qs.length := by omega
      rw [ite_f (decide_eq_false (by omega)), ← e]
      right
      unfold fhO
      rw [i2]
      rfl
def lhP (p : Nat → Bool) : Nat → Int
  | 0 => -1
  | k + 1 => bif p k then (k : Int) else lhP p k
theorem lhP_in (p : Nat → Bool) : ∀ k, -1 ≤ lhP p k ∧ lhP p k < k
  | 0 => by simp [lhP]
  | k + 1 => by
    have := lhP_in p k
    unfold lhP
    cases p k <;> simp only [cond_true, cond_false] <;> omega
def hoP (xs : List Int) (m : Int) (qs : List Int) (i : Nat) : Bool := !(tlB8 xs m (qs.take i))
def lhV (xs : List Int) (m : Int) (qs : List Int) : Int := bif gdH xs m qs then lhP (hoP xs m qs) (qs.length + 1) else 0
theorem tk0 (x : Int) (l : List Int) : List.take (Int.toNat x - Int.toNat (0 : Int)) (List.drop (Int.toNat (0 : Int)) l) = List.take x.toNat l := rfl
theorem iLongest_eq (xs : List Int) (m : Int) (qs : List Int) (hx : xs.length ≤ 1000) : F_impl_LongestHold xs m qs = some (lhV xs m qs, gdH xs m qs) := by
  unfold F_impl_LongestHold lhV
  rw [bnd1_eq (iListed_eq xs m qs hx)]
  cases hg : gdH xs m qs with
  | false => rfl
  | true =>
    obtain ⟨_, h, hq, _⟩ := gdH_in hg
    rw [Bool.not_true, ite_f rfl, ite_t rfl]
    refine jn_is (fun J => J (lhP (hoP xs m qs) (qs.length + 1))) (fun J => ?_) rfl
    rw [chk_pos (by unfold I64; omega)]
    simp only [nam]
    have key := loop_up (fun k i (s : Int) => F_impl_LongestHold_L1 xs m qs J ((qs.length : Nat) + 1 : Int) k i s) ((qs.length : Nat) + 1 : Int) (fun i => lhP (hoP xs m qs) i.toNat) (J (lhP (hoP xs m qs) (qs.length + 1))) ?_ ?_ (by omega) fuel (by have := fuel_ge; omega)
    · exact key
    · intro k i i0 i1
      obtain ⟨j, rfl⟩ := int_nat i0
      have e1 : ((j : Int) + 1).toNat = j + 1 := by omega
      simp only [Int.toNat_natCast, e1]
      rw [F_impl_LongestHold_L1, ite_t (decide_eq_true i1), chk_pos ⟨by omega, by omega, by omega⟩, tk0, Int.toNat_natCast, bnd1_eq (iCount2 h (by rw [List.length_take]; omega)), lhP]
      by_cases hc : cntH xs m (qs.take j) 2 = 0
      · rw [ite_f (decide_eq_false (by omega)), chk_pos (by unfold I64; omega), show hoP xs m qs j = false by unfold hoP tlB8; rw [hc]; rfl]; rfl
      · rw [ite_t (decide_eq_true (by omega)), chk_pos (by unfold I64; omega), show hoP xs m qs j = true by unfold hoP tlB8; simpa using hc]; rfl
    · intro k
      have e2 : ((qs.length : Nat) + 1 : Int).toNat = qs.length + 1 := by omega
      simp only [e2]
      rw [F_impl_LongestHold_L1, ite_f (decide_eq_false (by omega))]
theorem sLongest_eq (xs : List Int) (m : Int) (qs : List Int) (hx : xs.length ≤ 1000) (hq0 : qs.length ≤ 1000) : F_spec_LongestHold xs m qs = some (lhV xs m qs, gdH xs m qs) := by
  unfold F_spec_LongestHold lhV
  rw [bnd1_eq (sGood_eq xs m qs hx hq0)]
  cases hg : gdH xs m qs with
  | false => rfl
  | true =>
    obtain ⟨_, h, hq, _⟩ := gdH_in hg
    rw [Bool.not_true, ite_f rfl, ite_t rfl]
    refine jn_is (fun J => J (lhP (hoP xs m qs) (qs.length + 1))) (fun J => ?_) rfl
    refine loop_m (fun k (i : Int) => F_spec_LongestHold_L1 xs m qs J k i) (fun i => -1 ≤ i ∧ i ≤ (qs.length : Int) ∧ lhP (hoP xs m qs) (i + 1).toNat = lhP (hoP xs m qs) (qs.length + 1)) (fun i => (i + 1).toNat) (fun o => o = J (lhP (hoP xs m qs) (qs.length + 1))) ?_ fuel (qs.length : Int) ⟨by omega, by omega, by congr 1⟩ (by have := fuel_ge; omega)
    rintro k i ⟨i0, i1, i2⟩
    rw [F_spec_LongestHold_L1]
    by_cases hi : i ≥ 0
    · obtain ⟨j, rfl⟩ := int_nat hi
      have e1 : ((j : Int) + 1).toNat = j + 1 := by omega
      have e2 : ((j : Int) - 1 + 1).toNat = j := by omega
      rw [e1, lhP] at i2
      cases ht : tlB8 xs m (qs.take j) with
      | true =>
        have hp : hoP xs m qs j = false := by unfold hoP; rw [ht]; rfl
        rw [hp] at i2
        refine .inl ⟨(j : Int) - 1, ⟨by omega, by omega, by rw [e2]; exact i2⟩, by omega, ?_⟩
        refine jn_is (fun J2 => J2 true) (fun J2 => ?_) (by rw [ite_t rfl, chk_pos (by unfold I64; omega)])
        rw [ite_t (decide_eq_true hi), chk_pos ⟨by omega, by omega, by omega⟩, tk0, Int.toNat_natCast, bnd1_eq (sTell_eq h (by rw [List.length_take]; omega)), ht]
      | false =>
        have hp : hoP xs m qs j = true := by unfold hoP; rw [ht]; rfl
        rw [hp] at i2
        refine .inr ?_
        refine jn_is (fun J2 => J2 false) (fun J2 => ?_) (by rw [ite_f rfl, ← i2]; rfl)
        rw [ite_t (decide_eq_true hi), chk_pos ⟨by omega, by omega, by omega⟩, tk0, Int.toNat_natCast, bnd1_eq (sTell_eq h (by rw [List.length_take]; omega)), ht]
    · have e : i = -1 := by omega
      subst e
      refine .inr ?_
      refine jn_is (fun J2 => J2 false) (fun J2 => by rw [ite_f (decide_eq_false hi)]) (by rw [ite_f rfl, ← i2]; rfl)
theorem lists49_in (qs : List Int) (c : Int) (J : List Bool → Option (Int × List Bool)) (hq : qs.length ≤ 63) : F_impl_State_lists_49_L2 qs c J fuel [] 0 = J (anw c qs.length) := by
  have key := loop_up (fun k i (o : List Bool) => F_impl_State_lists_49_L2 qs c J k o i) ((qs.length : Nat) : Int) (fun i => anP c qs.length i.toNat) (J (anw c qs.length)) ?_ ?_ (by omega) fuel (by have := fuel_ge; omega)
  · exact key
  · intro k i i0 i1
    obtain ⟨j, rfl⟩ := int_nat i0
    have e1 : ((j : Int) + 1).toNat = j + 1 := by omega
    have hl := anP_len c qs.length j
    simp only [Int.toNat_natCast, e1]
    rw [F_impl_State_lists_49_L2, ite_t (decide_eq_true i1), chk_pos (by unfold I64; omega)]
    simp only [nam]
    rw [chk_pos (by unfold I64; omega), chk_pos (by omega), hl, chk_pos ⟨by omega, by simp only [maxLen]; omega⟩, chk_pos (by unfold I64; omega), anP_succ]
  · intro k
    simp only [Int.toNat_natCast]
    rw [F_impl_State_lists_49_L2, ite_f (decide_eq_false (by omega))]
    rfl

/-- The greatest value, and where it is first. -/
def bsP (f : Nat → Int) : Nat → Int × Nat
  | 0 => (-1, 0)
  | k + 1 => if f k > (bsP f k).1 then (f k, k) else bsP f k
theorem bsP_at {f : Nat → Int} (h : ∀ i, 0 ≤ f i) : ∀ k, 1 ≤ k → (bsP f k).1 = f (bsP f k).2 ∧ (bsP f k).2 < k
  | 0, h => by omega
  | 1, _ => by
    have := h 0
    unfold bsP bsP
    rw [if_pos (by simp only; omega)]
    exact ⟨rfl, by simp⟩
  | k + 2, _ => by
    have := bsP_at h (k + 1) (by omega)
    rw [bsP]
    split
    · exact ⟨rfl, by simp⟩
    · exact ⟨this.1, by omega⟩
theorem bsP_ge (f : Nat → Int) : ∀ k i, i < k → f i ≤ (bsP f k).1
  | 0, i, h => by omega
  | k + 1, i, h => by
    rw [bsP]
    by_cases e : i = k
    · subst e; split <;> (try simp only) <;> omega
    · have := bsP_ge f k i (by omega)
      split <;> (try simp only) <;> omega
def lfZ (xs : List Int) (m : Int) (qs : List Int) (c : Nat) : Int := ((lfN xs m qs (c : Int) : Nat) : Int)
def mkP (xs : List Int) (m : Int) (qs : List Int) : Int × Nat := bsP (lfZ xs m qs) (2 ^ qs.length)
def mkV (xs : List Int) (m : Int) (qs : List Int) : Int := bif gdH xs m qs then (mkP xs m qs).1 else 0
def mkA (xs : List Int) (m : Int) (qs : List Int) : List Bool := bif gdH xs m qs then anw ((mkP xs m qs).2 : Int) qs.length else []
theorem mkA_len (xs : List Int) (m : Int) (qs : List Int) : (mkA xs m qs).length ≤ qs.length := by
  unfold mkA
  cases gdH xs m qs with
  | true => rw [ite_t rfl, anw_len]; exact Nat.le_refl _
  | false => exact Nat.zero_le _
theorem iMost_eq (xs : List Int) (m : Int) (qs : List Int) (hx : xs.length ≤ 1000) : F_impl_MostKept xs m qs = some (mkV xs m qs, mkA xs m qs, gdH xs m qs) := by
  unfold F_impl_MostKept mkV mkA mkP
  rw [bnd1_eq (iListed_eq xs m qs hx)]
  cases hg : gdH xs m qs with
  | false => rfl
  | true =>
    obtain ⟨_, h, hq, _⟩ := gdH_in hg
    obtain ⟨p1, p2, p3⟩ := pow8 hq
    have hl := h.1
    rw [Bool.not_true, ite_f rfl, ite_t rfl, ite_t rfl]
    have key : F_impl_State_lists_49 xs m qs (-1) = some ((bsP (lfZ xs m qs) (2 ^ qs.length)).1, anw ((bsP (lfZ xs m qs) (2 ^ qs.length)).2 : Int) qs.length) := by
      unfold F_impl_State_lists_49
      rw [p1, chk_pos ⟨by omega, by omega, by unfold I64; omega⟩]
      have key := loop_up (fun k i (s : Int × List Bool) => F_impl_State_lists_49_L1 xs m qs k s.1 s.2 i) ((2 ^ qs.length : Nat) : Int) (fun i => ((bsP (lfZ xs m qs) i.toNat).1, if i = 0 then [] else anw ((bsP (lfZ xs m qs) i.toNat).2 : Int) qs.length)) (some ((bsP (lfZ xs m qs) (2 ^ qs.length)).1, anw ((bsP (lfZ xs m qs) (2 ^ qs.length)).2 : Int) qs.length)) ?_ ?_ (by omega) fuel (by have := fuel_ge; omega)
      · exact key
      · intro k i i0 i1
        obtain ⟨j, rfl⟩ := int_nat i0
        have e1 : ((j : Int) + 1).toNat = j + 1 := by omega
        simp only [Int.toNat_natCast, e1]
        rw [if_neg (by omega : ¬ ((j : Int) + 1 = 0)), F_impl_State_lists_49_L1, p1, ite_t (decide_eq_true i1)]
        refine jn_is (fun J => J (bsP (lfZ xs m qs) (j + 1)).1 (anw ((bsP (lfZ xs m qs) (j + 1)).2 : Int) qs.length)) (fun J => ?_) (by rw [chk_pos (by unfold I64; omega)])
        refine jn_is (fun J2 => J2 (anw (j : Int) qs.length)) (fun J2 => lists49_in qs (j : Int) J2 (by omega)) ?_
        rw [bnd2_eq (iTold_eq h (anw_len _ _) (by omega)), chk_pos (by unfold endL; rw [eP_len]; omega)]
        have hz : 0 ≤ lfZ xs m qs j := by unfold lfZ; omega
        have e : F_impl_MostKept_1 (anw (j : Int) qs.length) ((List.length (openN (endL m qs (anw (j : Int) qs.length) xs)) : Nat) : Int) (bsP (lfZ xs m qs) j).1 (if (j : Int) = 0 then [] else anw ((bsP (lfZ xs m qs) j).2 : Int) qs.length) = some ((bsP (lfZ xs m qs) (j + 1)).1, anw ((bsP (lfZ xs m qs) (j + 1)).2 : Int) qs.length) := by
          unfold F_impl_MostKept_1
          show (bif decide (lfZ xs m qs j > _) then some (lfZ xs m qs j, _) else _) = _
          rw [bsP]
          by_cases hg : lfZ xs m qs j > (bsP (lfZ xs m qs) j).1
          · rw [ite_t (decide_eq_true hg), if_pos hg]
          · rw [ite_f (decide_eq_false hg), if_neg hg, if_neg ?_]
            intro h0
            have : j = 0 := by omega
            subst this
            apply hg
            show lfZ xs m qs 0 > -1
            omega
        rw [bnd2_eq e]
      · intro k
        simp only [Int.toNat_natCast]
        rw [if_neg (by omega), F_impl_State_lists_49_L1, p1, ite_f (decide_eq_false (by omega))]
    rw [bnd2_eq key]
theorem sMost_eq (xs : List Int) (m : Int) (qs : List Int) (hx : xs.length ≤ 1000) (hq0 : qs.length ≤ 1000) : F_spec_MostKept xs m qs = some (mkV xs m qs, mkA xs m qs, gdH xs m qs) := by
  unfold F_spec_MostKept mkV mkA mkP
  rw [bnd1_eq (sGood_eq xs m qs hx hq0)]
  cases hg : gdH xs m qs with
  | false => rfl
  | true =>
    obtain ⟨_, h, hq, _⟩ := gdH_in hg
    obtain ⟨p1, p2, p3⟩ := pow8 hq
    rw [Bool.not_true, ite_f rfl, ite_t rfl, ite_t rfl]
    refine jn_is (fun J => J (bsP (lfZ xs m qs) (2 ^ qs.length)).1 ((bsP (lfZ xs m qs) (2 ^ qs.length)).2 : Int)) (fun J => ?_) (by rw [bnd1_eq (sAnsw_eq _ (by omega))])
    have key := loop_up (fun k i (s : Int × Nat) => F_spec_MostKept_L1 xs m qs J k i s.1 (s.2 : Int)) ((2 ^ qs.length : Nat) : Int) (fun i => bsP (lfZ xs m qs) i.toNat) (J (bsP (lfZ xs m qs) (2 ^ qs.length)).1 ((bsP (lfZ xs m qs) (2 ^ qs.length)).2 : Int)) ?_ ?_ (by omega) fuel (by have := fuel_ge; omega)
    · exact key
    · intro k i i0 i1
      obtain ⟨j, rfl⟩ := int_nat i0
      have e1 : ((j : Int) + 1).toNat = j + 1 := by omega
      simp only [Int.toNat_natCast, e1]
      rw [F_spec_MostKept_L1, p1, chk_pos ⟨by omega, by omega, by unfold I64; omega⟩, ite_t (decide_eq_true i1), bnd1_eq (sLeft_eq _ h (by omega))]
      show (bif decide (lfZ xs m qs j > _) then (chk (I64 ((j : Int) + 1)) <| F_spec_MostKept_L1 xs m qs J k ((j : Int) + 1) (lfZ xs m qs j) (j : Int)) else _) = _
      by_cases hg : lfZ xs m qs j > (bsP (lfZ xs m qs) j).1
      · rw [ite_t (decide_eq_true hg), bsP, if_pos hg, chk_pos (by unfold I64; omega)]
      · rw [ite_f (decide_eq_false hg), bsP, if_neg hg, chk_pos (by unfold I64; omega)]
    · intro k
      simp only [Int.toNat_natCast]
      rw [F_spec_MostKept_L1, p1, chk_pos ⟨by omega, by omega, by unfold I64; omega⟩, ite_f (decide_eq_false (by omega))]
def woL (qs : List Int) (i : Nat) : List Int := qs.take i ++ qs.drop (i + 1)
theorem woL_len {qs : List Int} {i : Nat} (h : i < qs.length) : (woL qs i).length + 1 = qs.length := by
  unfold woL; rw [List.length_append, List.length_take, List.length_drop]; omega
def nlP (xs : List Int) (m : Int) (qs : List Int) (i : Nat) : Bool := tlB8 xs m (woL qs i)
def nlV (xs : List Int) (m : Int) (qs : List Int) : List Int := bif dtV xs m qs then fl (nlP xs m qs) qs.length else []
theorem iWithout_eq {qs : List Int} {j : Nat} (h : j < qs.length) (hq : qs.length ≤ 1000) : F_impl_without qs (j : Int) = some (woL qs j) := by
  unfold F_impl_without woL
  rw [chk_pos (by omega), chk_pos (by unfold I64; omega), chk_pos ⟨by omega, by omega, by omega⟩]
  rfl
theorem iNeedless_eq (xs : List Int) (m : Int) (qs : List Int) (hx : xs.length ≤ 1000) : F_impl_NeedlessQuestions xs m qs = some (nlV xs m qs, dtV xs m qs) := by
  unfold F_impl_NeedlessQuestions nlV
  rw [bnd2_eq (iDoTell_eq xs m qs hx)]
  refine jn_is (fun J => J (!(dtV xs m qs))) (fun J => ?_) ?_
  · unfold dtV
    cases gdH xs m qs <;> rfl
  · cases hd : dtV xs m qs with
    | false => rfl
    | true =>
      obtain ⟨_, h, hq, _⟩ := gdH_in (Bool.and_eq_true_iff.1 hd).1
      rw [Bool.not_true, ite_f rfl, ite_t rfl]
      refine jn_is (fun J => J (fl (nlP xs m qs) qs.length)) (fun J => ?_) rfl
      refine loop_up (fun k i (s : List Int) => F_impl_NeedlessQuestions_L1 xs m qs J k s i) ((qs.length : Nat) : Int) (fun i => fl (nlP xs m qs) i.toNat) _ ?_ ?_ (by omega) fuel (by have := fuel_ge; omega)
      · intro k i i0 i1
        obtain ⟨j, rfl⟩ := int_nat i0
        have hj : j < qs.length := by omega
        have e1 : ((j : Int) + 1).toNat = j + 1 := by omega
        have hfl := fl_len (nlP xs m qs) j
        have hwl := woL_len hj
        simp only [Int.toNat_natCast, e1]
        rw [F_impl_NeedlessQuestions_L1, ite_t (decide_eq_true i1), bnd1_eq (iWithout_eq hj (by omega)), bnd1_eq (iCount2 h (by omega))]
        by_cases hc : cntH xs m (woL qs j) 2 = 0
        · have hp : nlP xs m qs j = true := by unfold nlP tlB8; rw [hc]; rfl
          rw [ite_t (by rw [hc]; rfl), chk_pos ⟨by omega, by simp only [maxLen]; omega⟩, chk_pos (by unfold I64; omega), fl_yes hp]
        · have hp : nlP xs m qs j = false := by unfold nlP tlB8; simpa using hc
          rw [ite_f (beq_eq_false_iff_ne.2 (by omega)), chk_pos (by unfold I64; omega), fl_no hp]
      · intro k
        simp only [Int.toNat_natCast]
        rw [F_impl_NeedlessQuestions_L1, ite_f (decide_eq_false (by omega))]
theorem wo_raw {qs : List Int} {j : Nat} : (List.take (Int.toNat (j : Int) - Int.toNat (0 : Int)) (List.drop (Int.toNat (0 : Int)) qs)) ++ (List.take (Int.toNat ((List.length qs : Nat) : Int) - Int.toNat ((j : Int) + (1 : Int))) (List.drop (Int.toNat ((j : Int) + (1 : Int))) qs)) = woL qs j := by
  have e1 : ((j : Int) + 1).toNat = j + 1 := by omega
  have e2 : List.take (qs.length - (j + 1)) (List.drop (j + 1) qs) = List.drop (j + 1) qs := List.take_of_length_le (by rw [List.length_drop]; exact Nat.le_refl _)
  rw [tk0, e1, Int.toNat_natCast, Int.toNat_natCast, e2]
  rfl
theorem sNeedless_eq (xs : List Int) (m : Int) (qs : List Int) (hx : xs.length ≤ 1000) (hq0 : qs.length ≤ 1000) : F_spec_NeedlessQuestions xs m qs = some (nlV xs m qs, dtV xs m qs) := by
  unfold F_spec_NeedlessQuestions nlV
  refine jn_is (fun J => J (!(dtV xs m qs))) (fun J => ?_) ?_
  · rw [bnd1_eq (sGood_eq xs m qs hx hq0)]
    unfold dtV
    cases hg : gdH xs m qs with
    | false => rfl
    | true => obtain ⟨_, h, hq, _⟩ := gdH_in hg; rw [Bool.not_true, ite_f rfl, bnd1_eq (sTell_eq h hq)]; rfl
  · cases hd : dtV xs m qs with
    | false => rfl
    | true =>
      obtain ⟨_, h, hq, _⟩ := gdH_in (Bool.and_eq_true_iff.1 hd).1
      rw [Bool.not_true, ite_f rfl, ite_t rfl]
      refine jn_is (fun J => J (fl (nlP xs m qs) qs.length)) (fun J => ?_) rfl
      refine loop_up (fun k i (s : List Int) => F_spec_NeedlessQuestions_L1 xs m qs J k s i) ((qs.length : Nat) : Int) (fun i => fl (nlP xs m qs) i.toNat) _ ?_ ?_ (by omega) fuel (by have := fuel_ge; omega)
      · intro k i i0 i1
        obtain ⟨j, rfl⟩ := int_nat i0
        have hj : j < qs.length := by omega
        have e1 : ((j : Int) + 1).toNat = j + 1 := by omega
        have hfl := fl_len (nlP xs m qs) j
        have hwl := woL_len hj
        have q1 : (List.take (Int.toNat (j : Int) - Int.toNat (0 : Int)) (List.drop (Int.toNat (0 : Int)) qs)).length ≤ qs.length := by rw [tk0, List.length_take]; omega
        have q2 : (List.take (Int.toNat ((List.length qs : Nat) : Int) - Int.toNat ((j : Int) + (1 : Int))) (List.drop (Int.toNat ((j : Int) + (1 : Int))) qs)).length ≤ qs.length := by rw [List.length_take, List.length_drop]; omega
        simp only [Int.toNat_natCast (n := j), e1]
        rw [F_spec_NeedlessQuestions_L1, ite_t (decide_eq_true i1), chk_pos ⟨by omega, by omega, by omega⟩, chk_pos (by omega), chk_pos (by unfold I64; omega), chk_pos ⟨by omega, by omega, by omega⟩, chk_pos ⟨by omega, by simp only [maxLen]; omega⟩, wo_raw, bnd1_eq (sTell_eq h (by omega))]
        cases hp : nlP xs m qs j with
        | true => rw [show tlB8 xs m (woL qs j) = true from hp, ite_t rfl, chk_pos ⟨by omega, by simp only [maxLen]; omega⟩, fl_yes hp]
        | false => rw [show tlB8 xs m (woL qs j) = false from hp, ite_f rfl, fl_no hp]
      · intro k
        simp only [Int.toNat_natCast]
        rw [F_spec_NeedlessQuestions_L1, ite_f (decide_eq_false (by omega))]
theorem after_no (m : Int) (xs : List Int) : afterN m (fun _ => false) xs = xs := by
  refine List.ext_getElem (by simp) fun i h1 h2 => ?_
  have : (afterN m (fun _ => false) xs).getD i 0 = lieN m false (xs.getD i 0) := by
    unfold afterN; rw [List.getD_eq_getElem?_getD, List.getElem?_map, List.getElem?_range h2]; rfl
  rw [lie_no rfl] at this
  simpa [List.getD_eq_getElem?_getD, h1, h2] using this
theorem iAnswerList_eq {xs : List Int} {m : Int} {qs : List Int} {av : List Bool} (hg : gdH xs m qs = true) (hl : av.length = qs.length) : F_impl_AnswerList xs m qs av = some (endL m qs av xs, m, true) := by
  unfold F_impl_AnswerList
  obtain ⟨_, h, hq, _⟩ := gdH_in hg
  have hx := h.1
  refine jn_is (fun J => J false) (fun J => ?_) ?_
  · rw [bnd1_eq (iListed_eq xs m qs (by omega)), hg, Bool.not_true, ite_f rfl, hl, bne_self_eq_false]
  · rw [ite_f rfl, chk_pos (by omega), bnd2_eq (iTold_eq h hl (by omega)), chk_pos (show okS (endL m qs av xs) m from okS_eP h _)]
    show some (afterN m (fun _ => false) _, _, _) = _
    rw [after_no]
theorem fixed_ok {bs : List Int} {p s : Int} (hy : okY bs) (h0 : 0 ≤ p) (h1 : p ≤ 600000000000) : ∃ xs m qs p' s', F_p_spec_l1Cur_fixed bs p s = some (xs, m, qs, bs, p', s') ∧ xs.length ≤ 13 ∧ qs.length ≤ 20 := by
  unfold F_p_spec_l1Cur_fixed
  obtain ⟨xs0, m0, p1, s1, e1, a1, a2, a3, a4, a5, a6⟩ := state_ok (s := s) hy h0 (by omega)
  rw [bnd5_eq e1]
  let Q : Option (List Int × Int × List Int × List Int × Int × Int) → Prop := fun o => ∃ xs m qs p' s', o = some (xs, m, qs, bs, p', s') ∧ xs.length ≤ 13 ∧ qs.length ≤ 20
  show Q _
  have part1 : ∀ J : List Int → Int → Int → List Int → Int → Option (List Int × Int × List Int × List Int × Int × Int), (∀ pp ss xs m, p ≤ pp → pp ≤ p + 110 → xs.length ≤ 13 → Q (J bs pp ss xs m)) → Q (bnd4 (F_p_spec_l1Cur_one bs p1 s1 (2 : Int)) fun r14 r14b r14c r14d => (bif r14 then bnd4 (F_p_spec_l1Cur_pick r14b r14c r14d (6 : Int)) fun r16 r16b r16c r16d => chk (I64 ((2 : Int) + r16)) <| bnd4 (F_p_spec_l1Cur_pick r16b r16c r16d (3 : Int)) fun r19 r19b r19c r19d => bnd2 (F_spec_l2Start ((2 : Int) + r16) r19) fun r20 r20b => J r19b r19c r19d r20 r20b else J r14b r14c r14d xs0 m0)) := by
    intro J hJ
    obtain ⟨b, p2, s2, e2, b1, b2⟩ := one_ok (s := s1) (n := 2) hy (p := p1) (by omega) (by omega)
    rw [bnd4_eq e2]
    cases b with
    | false => rw [ite_f rfl]; exact hJ _ _ _ _ (by omega) (by omega) a5
    | true =>
      obtain ⟨v, p3, s3, e3, c1, c2, c3, c4⟩ := pick_ok (s := s2) (n := 6) hy (p := p2) (by omega) (by omega)
      have c5 := c4 (by omega)
      obtain ⟨u, p4, s4, e4, d1, d2, d3, d4⟩ := pick_ok (s := s3) (n := 3) hy (p := p3) (by omega) (by omega)
      have es : F_spec_l2Start (2 + v) u = some (List.replicate (2 + v).toNat 0, u) := by
        unfold F_spec_l2Start
        rw [chk_pos ⟨by omega, by omega, by omega, by simp only [maxLen]; omega⟩]
      rw [ite_t rfl, bnd4_eq e3, chk_pos (by unfold I64; omega), bnd4_eq e4, bnd2_eq es]
      exact hJ _ _ _ _ (by omega) (by omega) (by rw [List.length_replicate]; omega)
  unfold jn
  refine part1 _ fun pp ss xs m q1 q2 q3 => ?_
  try dsimp only
  -- the questions
  obtain ⟨k, p2, s2, e2, b1, b2, b3⟩ := among_ok (s := ss) (p := pp) (xs := [(3 : Int), (4 : Int), (2 : Int), (5 : Int), (1 : Int), (0 : Int), (6 : Int), (8 : Int)]) hy (by omega) (by omega) (by decide)
  have hk : 0 ≤ k ∧ k ≤ 8 := by
    simp only [List.mem_cons, List.not_mem_nil, or_false] at b3
    omega
  rw [bnd4_eq e2]
  have part2 : ∀ J : List Int → Int → Int → List Int → Option (List Int × Int × List Int × List Int × Int × Int), (∀ pp ss qs, p ≤ pp → pp ≤ p + 200 → qs.length ≤ 8 → Q (J bs pp ss qs)) → Q (F_p_spec_l1Cur_fixed_L1 xs J fuel bs p2 s2 [] k) := by
    intro J hJ
    refine loop_m (fun n (z : Int × Int × List Int × Int) => F_p_spec_l1Cur_fixed_L1 xs J n bs z.1 z.2.1 z.2.2.1 z.2.2.2) (fun z => 0 ≤ z.2.2.2 ∧ z.2.2.2 ≤ k ∧ p ≤ z.1 ∧ z.1 ≤ p + 112 + 4 * (k - z.2.2.2) ∧ (z.2.2.1.length : Int) = k - z.2.2.2) (fun z => z.2.2.2.toNat) Q ?_ fuel (p2, s2, [], k) ⟨hk.1, Int.le_refl _, by simp only; omega, by simp only; omega, by simp⟩ (by have := fuel_ge; simp only; omega)
    rintro n ⟨pq, sq, qs, i⟩ ⟨g1, g2, g3, g4, g5⟩
    simp only at g1 g2 g3 g4 g5 ⊢
    rw [F_p_spec_l1Cur_fixed_L1]
    by_cases hi : i > 0
    · obtain ⟨v, p4, s4, e4, w0, w1, w2, w3⟩ := question_ok (s := sq) (n := ((List.length xs : Nat) : Int)) hy (p := pq) (by omega) (by omega)
      rw [ite_t (decide_eq_true hi), bnd4_eq e4, chk_pos ⟨by omega, by simp only [maxLen]; omega⟩, chk_pos (by unfold I64; omega)]
      exact .inl ⟨(p4, s4, qs ++ [v], i - 1), ⟨by simp only; omega, by simp only; omega, by simp only; omega, by simp only; omega, by simp only [List.length_append, List.length_cons, List.length_nil]; omega⟩, by simp only; omega, rfl⟩
    · rw [ite_f (decide_eq_false hi)]
      exact .inr (hJ _ _ _ g3 (by omega) (by omega))
  refine part2 _ fun pp ss qs q1 q2 q4 => ?_
  try dsimp only
  have fin : ∀ (pp ss : Int) (qs : List Int), p ≤ pp → pp ≤ p + 300 → qs.length ≤ 20 → Q (bnd4 (F_p_spec_l1Cur_one bs pp ss (40 : Int)) fun r77 r77b r77c r77d => (bif r77 then (fun (o500l : List Int) (o500m : Int) (o500n : Int) (v5b : List Int) => some (xs, m, v5b, o500l, o500m, o500n)) r77b r77c r77d [(0 : Int), (0 : Int), (0 : Int), (0 : Int), (0 : Int), (0 : Int), (0 : Int), (0 : Int), (0 : Int)] else (fun (o500l : List Int) (o500m : Int) (o500n : Int) (v5b : List Int) => some (xs, m, v5b, o500l, o500m, o500n)) r77b r77c r77d qs)) := by
    intro pp ss qs k1 k2 k3
    obtain ⟨b, p3, s3, e3, c1, c2⟩ := one_ok (s := ss) (n := 40) hy (p := pp) (by omega) (by omega)
    rw [bnd4_eq e3]
    cases b with
    | true => exact ⟨_, _, _, _, _, rfl, q3, by simp⟩
    | false => exact ⟨_, _, _, _, _, rfl, q3, k3⟩
  obtain ⟨b, p3, s3, e3, c1, c2⟩ := one_ok (s := ss) (n := 3) hy (p := pp) (by omega) (by omega)
  rw [bnd4_eq e3]
  have mid : ∀ b : Bool, (b = true → xs.length ≤ 8) → Q (bif b then F_p_spec_l1Cur_fixed_L2 xs (fun (o44 : List Int) => bnd4 (F_p_spec_l1Cur_pick bs p3 s3 (9 : Int)) fun r74 r74b r74c r74d => chk (0 ≤ (0 : Int) ∧ (0 : Int) ≤ r74 ∧ r74 ≤ ((List.length o44 : Nat) : Int)) <| (fun (o500i : List Int) (o500j : Int) (o500k : Int) (v5 : List Int) => bnd4 (F_p_spec_l1Cur_one o500i o500j o500k (40 : Int)) fun r77 r77b r77c r77d => (bif r77 then (fun (o500l : List Int) (o500m : Int) (o500n : Int) (v5b : List Int) => some (xs, m, v5b, o500l, o500m, o500n)) r77b r77c r77d [(0 : Int), (0 : Int), (0 : Int), (0 : Int), (0 : Int), (0 : Int), (0 : Int), (0 : Int), (0 : Int)] else (fun (o500l : List Int) (o500m : Int) (o500n : Int) (v5b : List Int) => some (xs, m, v5b, o500l, o500m, o500n)) r77b r77c r77d v5)) r74b r74c r74d (List.take ((Int.toNat r74) - 0) o44)) fuel ([] : List Int) (0 : Int) else (fun (o500i : List Int) (o500j : Int) (o500k : Int) (v5 : List Int) => bnd4 (F_p_spec_l1Cur_one o500i o500j o500k (40 : Int)) fun r77 r77b r77c r77d => (bif r77 then (fun (o500l : List Int) (o500m : Int) (o500n : Int) (v5b : List Int) => some (xs, m, v5b, o500l, o500m, o500n)) r77b r77c r77d [(0 : Int), (0 : Int), (0 : Int), (0 : Int), (0 : Int), (0 : Int), (0 : Int), (0 : Int), (0 : Int)] else (fun (o500l : List Int) (o500m : Int) (o500n : Int) (v5b : List Int) => some (xs, m, v5b, o500l, o500m, o500n)) r77b r77c r77d v5)) bs p3 s3 qs) := by
    intro b hb
    cases b with
    | false => rw [ite_f rfl]; exact fin p3 s3 qs (by omega) (by omega) (by omega)
    | true =>
      have hx := hb rfl
      rw [ite_t rfl]
      refine loop_m (fun n (z : List Int × Int) => F_p_spec_l1Cur_fixed_L2 xs _ n z.1 z.2) (fun z => 0 ≤ z.2 ∧ z.2 ≤ 8 ∧ (z.1.length : Int) = z.2) (fun z => (8 - z.2).toNat) Q ?_ fuel ([], 0) ⟨by simp, by simp, by simp⟩ (by have := fuel_ge; simp only; omega)
      rintro n ⟨o, i⟩ ⟨g1, g2, g3⟩
      simp only at g1 g2 g3 ⊢
      rw [F_p_spec_l1Cur_fixed_L2]
      by_cases hi : i < 8
      · left
        have inner : ∃ v : Int, ∀ (J : List Int → Option (List Int × Int × List Int × List Int × Int × Int)), (jn (fun (v9 : Int) => chk (((List.length o) + 1) * 8 ≤ 140737488355328 ∧ (List.length o) + 1 ≤ maxLen) <| J (o ++ [v9])) (fun J4 => F_p_spec_l1Cur_fixed_L3 xs i J4 fuel (0 : Int) (0 : Int))) = J (o ++ [v]) := by
          have ht : 0 ≤ Int.tmod i 3 ∧ Int.tmod i 3 < 3 := tmod_in g1 (by omega)
          have deep : ∀ (n : Nat) (v10 v9 : Int), 0 ≤ v10 → v10 ≤ (xs.length : Int) → (xs.length : Int) - v10 < (n : Int) → ∃ v, ∀ J4, F_p_spec_l1Cur_fixed_L3 xs i J4 n v10 v9 = J4 v := by
            intro n
            induction n with
            | zero => intro v10 v9 _ _ h; omega
            | succ n ih =>
              intro v10 v9 k1 k2 k3
              by_cases hv : v10 < (xs.length : Int)
              · obtain ⟨v, hv2⟩ := ih (v10 + 1) (bits .or .i64 v9 ((bits .and .i64 (v10 / 2 ^ Int.toNat (Int.tmod i (3 : Int))) (1 : Int)) * 2 ^ Int.toNat v10)) (by omega) (by omega) (by omega)
                refine ⟨v, fun J4 => ?_⟩
                have hp := pow13 (n := v10) k1 (by omega)
                have hb : bits .and .i64 (v10 / 2 ^ Int.toNat (Int.tmod i (3 : Int))) (1 : Int) = 0 ∨ bits .and .i64 (v10 / 2 ^ Int.toNat (Int.tmod i (3 : Int))) (1 : Int) = 1 := by rw [and1]; omega
                rw [F_p_spec_l1Cur_fixed_L3, ite_t (decide_eq_true hv), chk_pos ⟨by omega, by omega⟩]
                simp only [nam]
                rw [chk_pos ⟨by omega, by omega, by rcases hb with hb | hb <;> rw [hb] <;> unfold I64 <;> omega⟩, chk_pos (by unfold I64; omega), hv2]
              · exact ⟨v9, fun J4 => by rw [F_p_spec_l1Cur_fixed_L3, ite_f (decide_eq_false hv)]⟩
          obtain ⟨v, hv⟩ := deep fuel 0 0 (by omega) (by omega) (by have := fuel_ge; omega)
          exact ⟨v, fun J => jn_is (fun J4 => J4 v) (fun J4 => hv J4) (by rw [chk_pos ⟨by omega, by simp only [maxLen]; omega⟩])⟩
        obtain ⟨v, hv⟩ := inner
        refine ⟨(o ++ [v], i + 1), ⟨by simp only; omega, by simp only; omega, by simp only [List.length_append, List.length_cons, List.length_nil]; omega⟩, by simp only; omega, ?_⟩
        refine jn_is (fun J3 => J3 true) (fun J3 => by rw [ite_t (decide_eq_true hi), decide_eq_true (by omega)]) ?_
        rw [ite_t rfl]
        exact jn_is (fun J3 => J3 (o ++ [v])) (fun J3 => hv J3) (by rw [chk_pos (by unfold I64; omega)])
      · right
        unfold jn
        dsimp only
        rw [ite_f (decide_eq_false hi), ite_f rfl]
        obtain ⟨w, p4, s4, e4, d1, d2, d3, d4⟩ := pick_ok (s := s3) (n := 9) hy (p := p3) (by omega) (by omega)
        have d5 := d4 (by omega)
        rw [bnd4_eq e4, chk_pos ⟨by omega, by omega, by omega⟩]
        exact fin p4 s4 _ (by omega) (by omega) (by rw [List.length_take]; omega)
  cases b with
  | false => rw [ite_f rfl]; exact mid false (by simp)
  | true =>
    rw [ite_t rfl]
    refine mid _ fun hb => ?_
    simp only [Bool.and_eq_true, decide_eq_true_eq] at hb
    omega
theorem drawHold_ok {bs : List Int} (hy : okY bs) : ∃ xs m qs, F_spec_DrawFirstHolding bs = some (xs, m, qs) ∧ xs.length ≤ 13 ∧ qs.length ≤ 20 := by
  unfold F_spec_DrawFirstHolding F_spec_DrawCountFair
  obtain ⟨xs, m, qs, p', s', e, h1, h2⟩ := fixed_ok (p := 0) (s := 0) hy (by omega) (by omega)
  rw [bnd6_eq e, bnd3_eq rfl]
  exact ⟨_, _, _, rfl, h1, h2⟩
theorem fst_iff {xs : List Int} {m : Int} {qs : List Int} : (fstP (l2P xs m qs) (2 ^ qs.length)).isSome = decide (0 < cntH xs m qs 2) := by
  unfold cntH
  show _ = decide (0 < cP (l2P xs m qs) (2 ^ qs.length))
  cases h : fstP (l2P xs m qs) (2 ^ qs.length) with
  | some i =>
    obtain ⟨h1, h2⟩ := fstP_some h
    have := cP_pos h2 h1
    rw [decide_eq_true this]; rfl
  | none =>
    have hn := fstP_none h
    rw [decide_eq_false ?_]; rfl
    intro hc
    have key : ∀ k, (∀ i, i < k → l2P xs m qs i = false) → cP (l2P xs m qs) k = 0 := by
      intro k
      induction k with
      | zero => intro _; rfl
      | succ k ih => intro hk; rw [cP, ih (fun i hi => hk i (by omega)), hk k (by omega)]; rfl
    rw [key _ hn] at hc
    omega
theorem tk_all (qs : List Int) : qs.take qs.length = qs := List.take_length
/-- The longest begin that holds is all of them where some list of answers holds. -/
theorem lh_all {xs : List Int} {m : Int} {qs : List Int} : (lhP (hoP xs m qs) (qs.length + 1) == (qs.length : Int)) = decide (0 < cntH xs m qs 2) := by
  rw [lhP]
  have hin := lhP_in (hoP xs m qs) qs.length
  by_cases hc : cntH xs m qs 2 = 0
  · rw [show hoP xs m qs qs.length = false by unfold hoP tlB8; rw [tk_all, hc]; rfl, cond_false, decide_eq_false (by omega)]
    exact beq_eq_false_iff_ne.2 (by omega)
  · rw [show hoP xs m qs qs.length = true by unfold hoP tlB8; rw [tk_all]; simpa using hc, cond_true, decide_eq_true (by omega)]
    exact beq_self_eq_true _
theorem most_iff {xs : List Int} {m : Int} {qs : List Int} : decide ((mkP xs m qs).1 > 1) = decide (0 < cntH xs m qs 2) := by
  unfold mkP cntH
  show _ = decide (0 < cP (l2P xs m qs) (2 ^ qs.length))
  have hp : 1 ≤ 2 ^ qs.length := Nat.one_le_two_pow
  have hz : ∀ i, 0 ≤ lfZ xs m qs i := fun i => by unfold lfZ; omega
  obtain ⟨h1, h2⟩ := bsP_at hz _ hp
  apply decide_eq_decide.2
  constructor
  · intro h
    rw [h1] at h
    refine cP_pos (i := (bsP (lfZ xs m qs) (2 ^ qs.length)).2) ?_ h2
    have h' : (1 : Int) < ((lfN xs m qs ((bsP (lfZ xs m qs) (2 ^ qs.length)).2 : Int) : Nat) : Int) := h
    exact decide_eq_true (by omega)
  · intro h
    by_cases hc : (bsP (lfZ xs m qs) (2 ^ qs.length)).1 > 1
    · exact hc
    · exfalso
      have key : ∀ k, k ≤ 2 ^ qs.length → cP (l2P xs m qs) k = 0 := by
        intro k
        induction k with
        | zero => intro _; rfl
        | succ k ih =>
          intro hk
          have hg := bsP_ge (lfZ xs m qs) (2 ^ qs.length) k (by omega)
          have : l2P xs m qs k = false := by
            unfold l2P
            unfold lfZ at hg
            exact decide_eq_false (by unfold lfZ at hc; omega)
          rw [cP, ih (by omega), this]; rfl
      rw [key _ (Nat.le_refl _)] at h
      omega
theorem end_state {xs : List Int} {m : Int} {qs : List Int} {av : List Bool} (h : isStateN xs m = true) : isStateN (endL m qs av xs) m = true :=
  isState_ok (okS_eP (okS_of h) _) (by unfold endL; rw [eP_len]; exact (isStateN_iff.1 h).1.1)
theorem hold_loop {xs : List Int} {m : Int} {qs : List Int} (hx : xs.length ≤ 13) (hg : gdH xs m qs = true) (ns : List Int) (hns : ns.length ≤ 1000) (hn : ∀ x ∈ ns, ∃ i : Nat, i < qs.length ∧ nlP xs m qs i = true ∧ x = (i : Int)) (J : Unit → Option Bool) : F_laws_FnHolding_L1 xs m qs ns J fuel 0 = J () := by
  obtain ⟨h0, h, hq, hQ⟩ := gdH_in hg
  refine loop_up (fun k i (_ : Unit) => F_laws_FnHolding_L1 xs m qs ns J k i) ((ns.length : Nat) : Int) (fun _ => ()) (J ()) ?_ ?_ (by omega) fuel (by have := fuel_ge; omega)
  · intro k i i0 i1
    obtain ⟨j, rfl⟩ : ∃ j : Nat, i = (j : Int) := ⟨i.toNat, by omega⟩
    have hj : j < ns.length := by omega
    obtain ⟨v, hv, hp, hx2⟩ := getD_in (P := fun x => ∃ i : Nat, i < qs.length ∧ nlP xs m qs i = true ∧ x = (i : Int)) hj hn
    have hwl := woL_len hv
    have q1 : (List.take (Int.toNat (v : Int) - Int.toNat (0 : Int)) (List.drop (Int.toNat (0 : Int)) qs)).length ≤ qs.length := by rw [tk0, List.length_take]; omega
    have q2 : (List.take (Int.toNat ((List.length qs : Nat) : Int) - Int.toNat ((v : Int) + (1 : Int))) (List.drop (Int.toNat ((v : Int) + (1 : Int))) qs)).length ≤ qs.length := by rw [List.length_take, List.length_drop]; omega
    have hgw : gdH xs m (woL qs v) = true := gdH_of h0 (by omega) fun q hm => by
      unfold woL at hm
      rcases List.mem_append.1 hm with hm | hm
      · exact hQ q (List.mem_of_mem_take hm)
      · exact hQ q (List.mem_of_mem_drop hm)
    rw [F_laws_FnHolding_L1, ite_t (decide_eq_true i1), chk_pos ⟨i0, i1⟩, Int.toNat_natCast, hx2, chk_pos ⟨by omega, by omega, by omega⟩, chk_pos ⟨by omega, by simp only [maxLen]; omega⟩, chk_pos (by unfold I64; omega)]
    simp only [nam]
    rw [chk_pos ⟨by omega, by omega, by omega⟩, chk_pos ⟨by omega, by simp only [maxLen]; omega⟩, wo_raw, bnd2_eq (iDoTell_eq _ _ _ (by omega))]
    refine jn_is (fun J => J false) (fun J => ?_) ?_
    · rw [hgw, Bool.not_true, ite_f rfl]
      unfold dtV
      rw [hgw, show tlB8 xs m (woL qs v) = true from hp]; rfl
    · rw [ite_f rfl, chk_pos (by unfold I64; omega)]
  · intro k
    rw [F_laws_FnHolding_L1, ite_f (decide_eq_false (by omega))]
theorem law_holding {bs : List Int} (hy : okY bs) (hl : bs.length ≤ 9223372036854775807) : F_laws_FnHolding bs = some true := by
  unfold F_laws_FnHolding
  rw [chk_pos hl]
  by_cases hbig : ((bs.length : Nat) : Int) > 65536
  · rw [ite_t (decide_eq_true hbig)]
  rw [ite_f (decide_eq_false hbig)]
  obtain ⟨xs, m, qs, d1, hx, hq⟩ := drawHold_ok hy
  have fl1 : (fhV xs m qs).length ≤ 20 := by
    unfold fhV
    cases gdH xs m qs with
    | true => rw [ite_t rfl]; have := fhO_len xs m qs (2 ^ qs.length); omega
    | false => exact Nat.zero_le _
  have ml1 := mkA_len xs m qs
  have nl1 : (nlV xs m qs).length ≤ 20 := by
    unfold nlV
    cases dtV xs m qs with
    | true => rw [ite_t rfl]; have := fl_len (nlP xs m qs) qs.length; omega
    | false => exact Nat.zero_le _
  rw [bnd3_eq d1, bnd2_eq (iFirst_eq xs m qs (by omega)), bnd2_eq (sFirst_eq xs m qs (by omega) (by omega))]
  refine jn_is (fun J => J false) (fun J => by rw [beq_self_eq_true, Bool.not_true, ite_f rfl, bnd1_eq (rBools_self _ (by omega))]; rfl) ?_
  rw [ite_f rfl, bnd2_eq (iFair_eq xs m qs (by omega)), bnd2_eq (sFair_eq xs m qs (by omega) (by omega))]
  refine jn_is (fun J => J false) (fun J => by rw [ite_f (by simp), beq_self_eq_true]; rfl) ?_
  rw [ite_f rfl, bnd2_eq (iHold_eq xs m qs (by omega)), bnd2_eq (sHold_eq xs m qs (by omega) (by omega))]
  refine jn_is (fun J => J false) (fun J => ?_) ?_
  · rw [ite_f (by simp), beq_self_eq_true, Bool.not_true, ite_f rfl, ite_f rfl]
    have hle : cntH xs m qs 2 ≤ cntH xs m qs 1 := cP_mono (fun i hi => by
      unfold lgP at hi ⊢
      have := of_decide_eq_true hi
      exact decide_eq_true (by omega)) _
    unfold cgV fhB
    rw [fst_iff]
    cases gdH xs m qs with
    | false => rw [ite_f (by simp), ite_f rfl]
    | true =>
      rw [ite_f (decide_eq_false (by rw [ite_t rfl, ite_t rfl]; omega)), ite_t rfl, Bool.true_and, ite_t rfl]
      congr 1
      rw [show (decide (((cntH xs m qs 2 : Nat) : Int) > 0)) = decide (0 < cntH xs m qs 2) from decide_eq_decide.2 ⟨fun h => by omega, fun h => by omega⟩, beq_self_eq_true]
      rfl
  rw [ite_f rfl, bnd2_eq (iDoTell_eq xs m qs (by omega)), bnd2_eq (sDoTell_eq xs m qs (by omega) (by omega))]
  refine jn_is (fun J => J false) (fun J => ?_) ?_
  · rw [beq_self_eq_true, Bool.not_true, ite_f rfl, beq_self_eq_true, Bool.not_true, ite_f rfl, ite_f rfl]
    unfold dtV cgV tlB8
    cases gdH xs m qs with
    | false => rfl
    | true =>
      rw [ite_t rfl, ite_t rfl, Bool.true_and]
      congr 1
      rw [show (((cntH xs m qs 2 : Nat) : Int) == 0) = (cntH xs m qs 2 == 0) by rw [Bool.eq_iff_iff, beq_iff_eq, beq_iff_eq]; omega, beq_self_eq_true]
      rfl
  rw [ite_f rfl, bnd2_eq (iLongest_eq xs m qs (by omega)), bnd2_eq (sLongest_eq xs m qs (by omega) (by omega))]
  refine jn_is (fun J => J false) (fun J => ?_) ?_
  · rw [ite_f (by simp), beq_self_eq_true, Bool.not_true, ite_f rfl, ite_f rfl]
    unfold lhV fhB
    rw [fst_iff]
    cases gdH xs m qs with
    | false => rfl
    | true =>
      rw [ite_t rfl, ite_t rfl, Bool.true_and, lh_all, beq_self_eq_true]
      rfl
  rw [ite_f rfl, bnd3_eq (iMost_eq xs m qs (by omega)), bnd3_eq (sMost_eq xs m qs (by omega) (by omega))]
  refine jn_is (fun J => J false) (fun J => by rw [ite_f (by simp), beq_self_eq_true, Bool.not_true, ite_f rfl, ite_f rfl, bnd1_eq (rBools_self _ (by omega))]; rfl) ?_
  rw [ite_f rfl, bnd2_eq (iNeedless_eq xs m qs (by omega)), bnd2_eq (sNeedless_eq xs m qs (by omega) (by omega))]
  refine jn_is (fun J => J false) (fun J => ?_) ?_
  · rw [beq_self_eq_true, Bool.not_true, ite_f rfl]
    unfold dtV
    cases hg : gdH xs m qs with
    | false => rw [ite_f rfl, ite_f (by rfl), bnd1_eq (rInts_eq _ _ (by omega)), beq_self_eq_true]; rfl
    | true => rw [ite_t rfl, ite_f rfl, bnd1_eq (rInts_eq _ _ (by omega)), beq_self_eq_true]; rfl
  rw [ite_f rfl]
  cases hg : gdH xs m qs with
  | false =>
    have e1 : nlV xs m qs = [] := by unfold nlV dtV; rw [hg]; rfl
    have e2 : fhB xs m qs = false := by unfold fhB; rw [hg]; rfl
    rw [e1, e2]
    refine jn_is (fun J => J ()) (fun J => ?_) ?_
    · have := fuel_ge
      obtain ⟨f, hf⟩ : ∃ f, fuel = f + 1 := ⟨fuel - 1, by omega⟩
      rw [hf, F_laws_FnHolding_L1]
      rfl
    · refine jn_is (fun J => J ()) (fun J => ?_) ?_
      · rw [ite_f rfl]
      · rw [Bool.not_false, ite_t rfl]
  | true =>
    obtain ⟨h0, h, hq8, hQ⟩ := gdH_in hg
    refine jn_is (fun J => J ()) (fun J => ?_) ?_
    · refine hold_loop hx hg _ (by omega) (fun x hm => ?_) J
      unfold nlV at hm
      cases hd : dtV xs m qs with
      | false => rw [hd] at hm; cases hm
      | true => rw [hd, ite_t rfl] at hm; exact mem_fl.1 hm
    have hfb : fhB xs m qs = decide (0 < cntH xs m qs 2) := by unfold fhB; rw [hg, Bool.true_and, fst_iff]
    have hmv : mkV xs m qs = (mkP xs m qs).1 := by unfold mkV; rw [hg]; rfl
    have hma : mkA xs m qs = anw ((mkP xs m qs).2 : Int) qs.length := by unfold mkA; rw [hg]; rfl
    have hat := bsP_at (f := lfZ xs m qs) (fun i => by unfold lfZ; omega) (2 ^ qs.length) Nat.one_le_two_pow
    refine jn_is (fun J => J ()) (fun J => ?_) ?_
    · rw [ite_t rfl, hma, bnd3_eq (iAnswerList_eq hg (anw_len _ _)), bnd2_eq (iOpenNumbers_eq _ _ (by unfold endL; rw [eP_len]; omega))]
      refine jn_is (fun J => J false) (fun J => ?_) rfl
      rw [Bool.not_true, ite_f rfl, end_state h0, Bool.not_true, ite_f rfl]
      have e : ((List.length (opV (endL m qs (anw ((mkP xs m qs).2 : Int) qs.length) xs) m) : Nat) : Int) = mkV xs m qs := by
        unfold opV
        rw [end_state h0, ite_t rfl, hmv]
        show lfZ xs m qs (mkP xs m qs).2 = _
        exact hat.1.symm
      rw [e, ite_f (by simp), hmv, most_iff, hfb, beq_self_eq_true]
      rfl
    · rw [hfb]
      by_cases hc : 0 < cntH xs m qs 2
      · rw [decide_eq_true hc, Bool.not_true, ite_f rfl]
        have hfs : (fstP (l2P xs m qs) (2 ^ qs.length)).isSome = true := by rw [fst_iff, decide_eq_true hc]
        obtain ⟨i, hi⟩ := Option.isSome_iff_exists.1 hfs
        obtain ⟨_, hp⟩ := fstP_some hi
        have hv : fhV xs m qs = anw (i : Int) qs.length := by
          unfold fhV fhO
          rw [hg, ite_t rfl, hi]
        rw [hv, bnd3_eq (iAnswerList_eq hg (anw_len _ _)), bnd2_eq (iOpenNumbers_eq _ _ (by unfold endL; rw [eP_len]; omega)), ite_t rfl, end_state h0, ite_t rfl]
        congr 1
        unfold opV
        rw [end_state h0, ite_t rfl]
        have hp := of_decide_eq_true hp
        unfold lfN at hp
        exact decide_eq_true (by omega)
      · rw [decide_eq_false hc, Bool.not_false, ite_t rfl]
end Go.Tl
