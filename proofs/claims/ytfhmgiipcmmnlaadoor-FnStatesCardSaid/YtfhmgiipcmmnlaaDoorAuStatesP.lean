/-
  Plain laws of the printed functions: no program here.
-/
import Derived.Test.YtfhmgiipcmmnlaaDoorAuStatesF
namespace Go.Tl
set_option linter.unusedVariables false
set_option linter.unusedSimpArgs false
/-- A loop, told by what its rounds keep. -/
theorem loop_m {σ R : Type} (L : Nat → σ → Option R) (I : σ → Prop) (μ : σ → Nat) (Q : Option R → Prop)
    (step : ∀ n s, I s → (∃ s', I s' ∧ μ s' < μ s ∧ L (n + 1) s = L n s') ∨ Q (L (n + 1) s)) : ∀ n s, I s → μ s < n → Q (L n s) := by
  intro n
  induction n with
  | zero => intro s _ h; omega
  | succ n ih =>
    intro s hI hm
    rcases step n s hI with ⟨s', h1, h2, h3⟩ | h
    · rw [h3]; exact ih s' h1 (by omega)
    · exact h
/-- A loop that counts up to N; st is its state by the count. -/
theorem loop_up {σ R : Type} (L : Nat → Int → σ → Option R) (N : Int) (st : Int → σ) (r : Option R)
    (step : ∀ n i, 0 ≤ i → i < N → L (n + 1) i (st i) = L n (i + 1) (st (i + 1))) (fin : ∀ n, L (n + 1) N (st N) = r) (h0 : 0 ≤ N) (n : Nat) (hn : N.toNat < n) : L n 0 (st 0) = r := by
  have key : ∀ (k : Nat) (n : Nat) (i : Int), 0 ≤ i → i + k = N → k < n → L n i (st i) = r := by
    intro k
    induction k with
    | zero =>
      intro n i h1 h2 h3; obtain ⟨n, rfl⟩ : ∃ m, n = m + 1 := ⟨n - 1, by omega⟩; have e : i = N := by omega
      subst e; exact fin n
    | succ k ih =>
      intro n i h1 h2 h3
      obtain ⟨n, rfl⟩ : ∃ m, n = m + 1 := ⟨n - 1, by omega⟩
      rw [step n i h1 (by omega)]
      exact ih n (i + 1) (by omega) (by omega) (by omega)
  exact key N.toNat n 0 (Int.le_refl _) (by omega) hn
/-- A loop that counts up to N and may end early: with what p tells. -/
theorem loop_all {R : Type} (L : Nat → Int → Option R) (N : Int) (p : Int → Bool) (no yes : Option R)
    (step : ∀ n i, 0 ≤ i → i < N → p i = true → L (n + 1) i = L n (i + 1)) (stop : ∀ n i, 0 ≤ i → i < N → p i = false → L (n + 1) i = no) (fin : ∀ n, L (n + 1) N = yes) (h0 : 0 ≤ N) (n : Nat) (hn : N.toNat < n) :
    (L n 0 = yes ∧ ∀ i, 0 ≤ i → i < N → p i = true) ∨ (L n 0 = no ∧ ∃ i, 0 ≤ i ∧ i < N ∧ p i = false ∧ ∀ j, 0 ≤ j → j < i → p j = true) := by
  have key : ∀ (k : Nat) (n : Nat) (i : Int), 0 ≤ i → i + k = N → k < n → (∀ j, 0 ≤ j → j < i → p j = true) → (L n i = yes ∧ ∀ i, 0 ≤ i → i < N → p i = true) ∨ (L n i = no ∧ ∃ i, 0 ≤ i ∧ i < N ∧ p i = false ∧ ∀ j, 0 ≤ j → j < i → p j = true) := by
    intro k
    induction k with
    | zero =>
      intro n i h1 h2 h3 h4; obtain ⟨n, rfl⟩ : ∃ m, n = m + 1 := ⟨n - 1, by omega⟩; have e : i = N := by omega
      subst e; exact .inl ⟨fin n, h4⟩
    | succ k ih =>
      intro n i h1 h2 h3 h4
      obtain ⟨n, rfl⟩ : ∃ m, n = m + 1 := ⟨n - 1, by omega⟩
      cases hp : p i with
      | false => exact .inr ⟨stop n i h1 (by omega) hp, i, h1, by omega, hp, h4⟩
      | true =>
        rw [step n i h1 (by omega) hp]
        refine ih n (i + 1) (by omega) (by omega) (by omega) fun j k1 k2 => ?_
        by_cases e : j = i
        · rw [e]; exact hp
        · exact h4 j k1 (by omega)
  exact key N.toNat n 0 (Int.le_refl _) (by omega) hn fun j h1 h2 => by omega
theorem ite_t {α : Type} {c : Bool} (h : c = true) (x y : α) : (bif c then x else y) = x := by rw [h]; rfl
theorem ite_f {α : Type} {c : Bool} (h : c = false) (x y : α) : (bif c then x else y) = y := by rw [h]; rfl
theorem ite_c {α : Type} {P : α → Prop} {c : Bool} {x y : α} (h1 : c = true → P x) (h2 : c = false → P y) : P (bif c then x else y) := by
  cases c
  · exact h2 rfl
  · exact h1 rfl
theorem getD_in {xs : List Int} {i : Nat} {P : Int → Prop} (h : i < xs.length) (hP : ∀ x ∈ xs, P x) : P (xs.getD i 0) := by
  rw [List.getD_eq_getElem?_getD, List.getElem?_eq_getElem h]; exact hP _ (List.getElem_mem h)
theorem maxN_in {a b : Int} : a ≤ maxN a b ∧ b ≤ maxN a b ∧ (maxN a b = a ∨ maxN a b = b) := by unfold maxN; split <;> omega
theorem minN_in {a b : Int} : minN a b ≤ a ∧ minN a b ≤ b ∧ (minN a b = a ∨ minN a b = b) := by unfold minN; split <;> omega
theorem next_ok {bs : List Int} {p s : Int} (hy : okY bs) (h0 : 0 ≤ p) (h1 : p ≤ 1000000000000) : ∃ v s', F_p_spec_l1Cur_next bs p s = some (v, bs, p + 1, s') ∧ 0 ≤ v ∧ v ≤ 255 := by
  unfold F_p_spec_l1Cur_next
  have hb := hy p.toNat
  have fin : ∀ v3 : Int, 0 ≤ v3 → v3 ≤ 255 → ∃ v s', (chk (I64 (p + (1 : Int))) <| nam (IntKind.wrap .u64 (s * (6364136223846793005 : Int))) fun n37 => nam (IntKind.wrap .u64 (n37 + (IntKind.wrap .u64 v3))) fun n40 => (bif (decide ((p + (1 : Int)) ≤ ((List.length bs : Nat) : Int))) then some (v3, bs, (p + (1 : Int)), (IntKind.wrap .u64 (n40 + (462197 : Int)))) else nam (bits .and .u64 ((IntKind.wrap .u64 (n40 + (462197 : Int))) / 2 ^ Int.toNat (40 : Int)) (255 : Int)) fun n60 => chk (I64 n60) <| some (n60, bs, (p + (1 : Int)), (IntKind.wrap .u64 (n40 + (462197 : Int)))))) = some (v, bs, p + 1, s') ∧ 0 ≤ v ∧ v ≤ 255 := by
    intro v3 k0 k1
    rw [chk_pos (by unfold I64; omega)]
    simp only [nam]
    refine ite_c (P := fun o => ∃ v s', o = some (v, bs, p + 1, s') ∧ 0 ≤ v ∧ v ≤ 255) (fun _ => ?_) (fun _ => ?_)
    · exact ⟨_, _, rfl, k0, k1⟩
    · have h2 := and255 ((IntKind.wrap .u64 ((IntKind.wrap .u64 ((IntKind.wrap .u64 (s * (6364136223846793005 : Int))) + (IntKind.wrap .u64 v3))) + (462197 : Int))) / 2 ^ Int.toNat (40 : Int))
      rw [chk_pos (by unfold I64; omega)]
      exact ⟨_, _, rfl, h2.1, h2.2⟩
  simp only [jn]
  refine ite_c (P := fun o => ∃ v s', o = some (v, bs, p + 1, s') ∧ 0 ≤ v ∧ v ≤ 255) (fun h => ?_) (fun _ => ?_)
  · have h := of_decide_eq_true h
    rw [chk_pos (by omega), chk_pos (by unfold I64; omega)]
    exact fin _ hb.1 hb.2
  · exact fin 0 (by omega) (by omega)
theorem tmod_in {a n : Int} (h0 : 0 ≤ a) (h1 : 0 < n) : 0 ≤ Int.tmod a n ∧ Int.tmod a n < n := ⟨Int.tmod_nonneg _ h0, Int.tmod_lt_of_pos _ h1⟩
theorem pick_ok {bs : List Int} {p s n : Int} (hy : okY bs) (h0 : 0 ≤ p) (h1 : p ≤ 900000000000) : ∃ v p' s', F_p_spec_l1Cur_pick bs p s n = some (v, bs, p', s') ∧ p ≤ p' ∧ p' ≤ p + 2 ∧ 0 ≤ v ∧ (1 ≤ n → v < n) := by
  unfold F_p_spec_l1Cur_pick
  rcases Bool.eq_false_or_eq_true (decide (n ≤ (1 : Int))) with h | h
  · have h := of_decide_eq_true h
    rw [ite_t (decide_eq_true h)]
    exact ⟨0, p, s, rfl, by omega, by omega, by omega, fun _ => by omega⟩
  · rw [ite_f h]
    have h := of_decide_eq_false h
    obtain ⟨v, s', e, g0, g1⟩ := next_ok (s := s) hy h0 (by omega)
    rw [bnd4_eq e]
    simp only [jn]
    rcases Bool.eq_false_or_eq_true (decide (n > (200 : Int))) with h4 | h4
    · rw [ite_t h4]
      obtain ⟨v2, s2, e2, k0, k1⟩ := next_ok (s := s') hy (p := p + 1) (by omega) (by omega)
      rw [chk_pos (by unfold I64; omega), bnd4_eq e2, chk_pos (by unfold I64; omega), chk_pos (by omega)]
      have := tmod_in (a := v * 256 + v2) (n := n) (by omega) (by omega)
      exact ⟨_, _, _, rfl, by omega, by omega, this.1, fun _ => this.2⟩
    · rw [ite_f h4]
      rw [chk_pos (by omega)]
      have := tmod_in (a := v) (n := n) (by omega) (by omega)
      exact ⟨_, _, _, rfl, by omega, by omega, this.1, fun _ => this.2⟩
theorem one_ok {bs : List Int} {p s n : Int} (hy : okY bs) (h0 : 0 ≤ p) (h1 : p ≤ 900000000000) : ∃ b p' s', F_p_spec_l1Cur_one bs p s n = some (b, bs, p', s') ∧ p ≤ p' ∧ p' ≤ p + 2 := by
  unfold F_p_spec_l1Cur_one
  obtain ⟨v, p', s', e, g0, g1, g2, g3⟩ := pick_ok (s := s) (n := n) hy h0 h1
  rw [bnd4_eq e]
  exact ⟨_, _, _, rfl, g0, g1⟩
theorem among_ok {bs : List Int} {p s : Int} {xs : List Int} (hy : okY bs) (h0 : 0 ≤ p) (h1 : p ≤ 900000000000) (hx : 0 < xs.length) : ∃ v p' s', F_p_spec_l1Cur_among bs p s xs = some (v, bs, p', s') ∧ p ≤ p' ∧ p' ≤ p + 2 ∧ v ∈ xs := by
  unfold F_p_spec_l1Cur_among
  obtain ⟨v, p', s', e, g0, g1, g2, g3⟩ := pick_ok (s := s) (n := ((List.length xs : Nat) : Int)) hy h0 h1
  rw [bnd4_eq e, chk_pos ⟨g2, g3 (by omega)⟩]
  refine ⟨_, _, _, rfl, g0, g1, ?_⟩
  have := g3 (by omega)
  exact getD_in (P := fun x => x ∈ xs) (by omega) fun x hx => hx
theorem many_ok {bs : List Int} {p s : Int} (hy : okY bs) (h0 : 0 ≤ p) (h1 : p ≤ 900000000000) : ∃ v p' s', F_p_spec_l1Cur_many bs p s = some (v, bs, p', s') ∧ p ≤ p' ∧ p' ≤ p + 2 ∧ 0 ≤ v ∧ v ≤ 13 := by
  unfold F_p_spec_l1Cur_many
  obtain ⟨v, p', s', e, g0, g1, g2⟩ := among_ok (s := s) (xs := [(4 : Int), (6 : Int), (8 : Int), (3 : Int), (5 : Int), (2 : Int), (7 : Int), (12 : Int), (1 : Int), (0 : Int), (13 : Int), (4 : Int), (6 : Int), (8 : Int), (3 : Int), (5 : Int)]) hy h0 h1 (by decide)
  rw [bnd4_eq e]
  refine ⟨_, _, _, rfl, g0, g1, ?_⟩
  simp only [List.mem_cons, List.not_mem_nil, or_false] at g2
  omega
theorem lies_ok {bs : List Int} {p s : Int} (hy : okY bs) (h0 : 0 ≤ p) (h1 : p ≤ 900000000000) : ∃ v p' s', F_p_spec_l1Cur_lies bs p s = some (v, bs, p', s') ∧ p ≤ p' ∧ p' ≤ p + 2 ∧ -1 ≤ v ∧ v ≤ 3 := by
  unfold F_p_spec_l1Cur_lies
  obtain ⟨v, p', s', e, g0, g1, g2⟩ := among_ok (s := s) (xs := [(1 : Int), (1 : Int), (2 : Int), (0 : Int), (1 : Int), (2 : Int), (1 : Int), (3 : Int), (-1 : Int), (1 : Int), (2 : Int), (0 : Int)]) hy h0 h1 (by decide)
  rw [bnd4_eq e]
  refine ⟨_, _, _, rfl, g0, g1, ?_⟩
  simp only [List.mem_cons, List.not_mem_nil, or_false] at g2
  omega
theorem pow13 {n : Int} (h0 : 0 ≤ n) (h1 : n ≤ 13) : 1 ≤ (2 : Int) ^ n.toNat ∧ (2 : Int) ^ n.toNat ≤ 8192 := by
  obtain ⟨k, rfl⟩ : ∃ k : Nat, n = k := ⟨n.toNat, by omega⟩
  have : k ≤ 13 := by omega
  simp only [Int.toNat_natCast]
  match k, this with
  | 0, _ | 1, _ | 2, _ | 3, _ | 4, _ | 5, _ | 6, _ | 7, _ | 8, _ | 9, _ | 10, _ | 11, _ | 12, _ | 13, _ => decide
theorem question_ok {bs : List Int} {p s n : Int} (hy : okY bs) (h0 : 0 ≤ p) (h1 : p ≤ 800000000000) : ∃ v p' s', F_p_spec_l1Cur_question bs p s n = some (v, bs, p', s') ∧ p ≤ p' ∧ p' ≤ p + 4 ∧ -1 ≤ v ∧ v ≤ 4611686018427387904 := by
  unfold F_p_spec_l1Cur_question
  obtain ⟨v, p', s', e, g0, g1⟩ := one_ok (s := s) (n := 24) hy h0 (by omega)
  rw [bnd4_eq e]
  have a1 := minN_in (a := n) (b := 13)
  have a2 := maxN_in (a := 0) (b := minN n 13)
  have a3 := minN_in (a := n) (b := 12)
  have a4 := maxN_in (a := 0) (b := minN n 12)
  have b1 := pow13 (n := maxN 0 (minN n 13)) (by omega) (by omega)
  have b2 := pow13 (n := maxN 0 (minN n 12)) (by omega) (by omega)
  rcases Bool.eq_false_or_eq_true v with h4 | h4
  · rw [ite_t h4]
    rw [chk_pos ⟨by omega, by omega, by unfold I64; omega⟩]
    obtain ⟨v2, p2, s2, e2, k0, k1, k2⟩ := among_ok (s := s') (xs := [(-1 : Int), ((1 : Int) * 2 ^ Int.toNat (maxN (0 : Int) (minN n (13 : Int)))), (4611686018427387904 : Int)]) hy (p := p') (by omega) (by omega) (by simp)
    rw [bnd4_eq e2]
    refine ⟨_, _, _, rfl, by omega, by omega, ?_⟩
    simp only [List.mem_cons, List.not_mem_nil, or_false] at k2
    omega
  · rw [ite_f h4]
    rw [chk_pos ⟨by omega, by omega, by unfold I64; omega⟩]
    obtain ⟨v2, p2, s2, e2, k0, k1, k2, k3⟩ := pick_ok (s := s') (n := (1 : Int) * 2 ^ Int.toNat (maxN (0 : Int) (minN n (12 : Int)))) hy (p := p') (by omega) (by omega)
    rw [bnd4_eq e2]
    have := k3 (by omega)
    exact ⟨_, _, _, rfl, by omega, by omega, by omega, by omega⟩
theorem state_ok {bs : List Int} {p s : Int} (hy : okY bs) (h0 : 0 ≤ p) (h1 : p ≤ 700000000000) : ∃ xs m p' s', F_p_spec_l1Cur_state bs p s = some (xs, m, bs, p', s') ∧ p ≤ p' ∧ p' ≤ p + 100 ∧ -1 ≤ m ∧ m ≤ 3 ∧ xs.length ≤ 13 ∧ (∀ x ∈ xs, -1 ≤ x ∧ x ≤ 4) := by
  unfold F_p_spec_l1Cur_state
  obtain ⟨m, p1, s1, e1, g0, g1, g2, g3⟩ := lies_ok (s := s) hy h0 (by omega)
  obtain ⟨k, p2, s2, e2, k0, k1, k2, k3⟩ := many_ok (s := s1) hy (p := p1) (by omega) (by omega)
  rw [bnd4_eq e1, bnd4_eq e2]
  simp only [jn]
  let Q : Option (List Int × Int × List Int × Int × Int) → Prop := fun o => ∃ xs m p' s', o = some (xs, m, bs, p', s') ∧ p ≤ p' ∧ p' ≤ p + 100 ∧ -1 ≤ m ∧ m ≤ 3 ∧ xs.length ≤ 13 ∧ (∀ x ∈ xs, -1 ≤ x ∧ x ≤ 4)
  have fin2 : ∀ (xs : List Int) (pp ss : Int), p ≤ pp → pp ≤ p + 56 → xs.length = k.toNat → (∀ x ∈ xs, -1 ≤ x ∧ x ≤ 4) → Q (F_p_spec_l1Cur_state_L2 m k (fun o500d o500e o500g o12b => some (o12b, m, o500d, o500e, o500g)) fuel bs pp ss xs 0) := by
    intro xs pp ss hp1 hp2 hl hx
    refine loop_m (fun n (z : Int × Int × List Int × Int) => F_p_spec_l1Cur_state_L2 m k (fun o500d o500e o500g o12b => some (o12b, m, o500d, o500e, o500g)) n bs z.1 z.2.1 z.2.2.1 z.2.2.2) (fun z => 0 ≤ z.2.2.2 ∧ z.2.2.2 ≤ k ∧ p ≤ z.1 ∧ z.1 ≤ p + 56 + 2 * z.2.2.2 ∧ z.2.2.1.length = k.toNat ∧ ∀ x ∈ z.2.2.1, -1 ≤ x ∧ x ≤ 4) (fun z => (k - z.2.2.2).toNat) Q ?_ fuel (pp, ss, xs, 0) ⟨by simp only; omega, by simp only; omega, hp1, by simp only; omega, hl, hx⟩ (by have := fuel_ge; simp only; omega)
    rintro n ⟨pp, ss, xs, i⟩ ⟨i0, i1, q0, q1, ql, qx⟩
    simp only at i0 i1 q0 q1 ql qx ⊢
    rw [F_p_spec_l1Cur_state_L2]
    by_cases hi : i < k
    · rw [ite_t (decide_eq_true hi)]
      simp only [jn]
      rw [chk_pos (by omega)]
      have stay : ∀ pp', p ≤ pp' → pp' ≤ p + 56 + 2 * (i + 1) → ∀ ss' (b : Bool), (∃ s' : Int × Int × List Int × Int, (0 ≤ s'.2.2.2 ∧ s'.2.2.2 ≤ k ∧ p ≤ s'.1 ∧ s'.1 ≤ p + 56 + 2 * s'.2.2.2 ∧ s'.2.2.1.length = k.toNat ∧ ∀ x ∈ s'.2.2.1, -1 ≤ x ∧ x ≤ 4) ∧ (k - s'.2.2.2).toNat < (k - i).toNat ∧
          (bif b then chk (0 ≤ i ∧ i < ((List.length xs : Nat) : Int)) <| chk (I64 (i + (1 : Int))) <| F_p_spec_l1Cur_state_L2 m k (fun o500d o500e o500g o12b => some (o12b, m, o500d, o500e, o500g)) n bs pp' ss' (List.set xs (Int.toNat i) (-1 : Int)) (i + (1 : Int)) else chk (I64 (i + (1 : Int))) <| F_p_spec_l1Cur_state_L2 m k (fun o500d o500e o500g o12b => some (o12b, m, o500d, o500e, o500g)) n bs pp' ss' xs (i + (1 : Int))) = F_p_spec_l1Cur_state_L2 m k (fun o500d o500e o500g o12b => some (o12b, m, o500d, o500e, o500g)) n bs s'.1 s'.2.1 s'.2.2.1 s'.2.2.2) := by
        intro pp' r0 r1 ss' b
        cases b
        · rw [ite_f rfl, chk_pos (by unfold I64; omega)]
          exact ⟨(pp', ss', xs, i + 1), ⟨by simp only; omega, by simp only; omega, r0, r1, ql, qx⟩, by simp only; omega, rfl⟩
        · rw [ite_t rfl, chk_pos (by omega), chk_pos (by unfold I64; omega)]
          refine ⟨(pp', ss', List.set xs (Int.toNat i) (-1), i + 1), ⟨by simp only; omega, by simp only; omega, r0, r1, by simp only [List.length_set]; exact ql, fun x hx => ?_⟩, by simp only; omega, rfl⟩
          rcases List.mem_or_eq_of_mem_set hx with h | h
          · exact qx x h
          · subst h; omega
      rcases Bool.eq_false_or_eq_true (decide (List.getD xs (Int.toNat i) 0 > m)) with h4 | h4
      · rw [ite_t h4]
        obtain ⟨b, p4, s4, e4, w0, w1⟩ := one_ok (s := ss) (n := 30) hy (p := pp) (by omega) (by omega)
        rw [bnd4_eq e4]
        exact .inl (stay p4 (by omega) (by omega) s4 (!b))
      · rw [ite_f h4]
        exact .inl (stay pp (by omega) (by omega) ss false)
    · rw [ite_f (decide_eq_false hi)]
      exact .inr ⟨_, _, _, _, rfl, by omega, by omega, g2, g3, by omega, qx⟩
  refine loop_m (fun n (z : Int × Int × List Int × Int) => F_p_spec_l1Cur_state_L1 m k (fun o500 o500b o500c o12 => F_p_spec_l1Cur_state_L2 m k (fun o500d o500e o500g o12b => some (o12b, m, o500d, o500e, o500g)) fuel o500 o500b o500c o12 0) n bs z.1 z.2.1 z.2.2.1 z.2.2.2) (fun z => 0 ≤ z.2.2.2 ∧ z.2.2.2 ≤ k ∧ p ≤ z.1 ∧ z.1 ≤ p + 4 + 4 * z.2.2.2 ∧ z.2.2.1.length = z.2.2.2.toNat ∧ ∀ x ∈ z.2.2.1, -1 ≤ x ∧ x ≤ 4) (fun z => (k - z.2.2.2).toNat) Q ?_ fuel (p2, s2, [], 0) ⟨by simp, by simp only; omega, by simp only; omega, by simp only; omega, rfl, fun x hx => by simp at hx⟩ (by have := fuel_ge; simp only; omega)
  rintro n ⟨pp, ss, xs, i⟩ ⟨i0, i1, q0, q1, ql, qx⟩
  simp only at i0 i1 q0 q1 ql qx ⊢
  rw [F_p_spec_l1Cur_state_L1]
  by_cases hi : i < k
  · rw [ite_t (decide_eq_true hi), chk_pos (by unfold I64; omega)]
    have a2 := maxN_in (a := 1) (b := m + 2)
    obtain ⟨v, p4, s4, e4, w0, w1, w2, w3⟩ := pick_ok (s := ss) (n := maxN 1 (m + 2)) hy (p := pp) (by omega) (by omega)
    obtain ⟨v5, p5, s5, e5, y0, y1, y2, y3⟩ := pick_ok (s := s4) (n := 6) hy (p := p4) (by omega) (by omega)
    have hd := d5_in y2 (y3 (by omega))
    unfold d5 at hd
    have hv := w3 (by omega)
    rw [bnd4_eq e4, bnd4_eq e5, chk_pos (by unfold I64; omega), chk_pos (by unfold I64; omega), chk_pos ⟨by omega, by simp only [maxLen]; omega⟩, chk_pos (by unfold I64; omega)]
    refine .inl ⟨(p5, s5, xs ++ [v - Int.tdiv v5 5], i + 1), ⟨by simp only; omega, by simp only; omega, by simp only; omega, by simp only; omega, by simp only [List.length_append, List.length_cons, List.length_nil]; omega, fun x hx => ?_⟩, by simp only; omega, rfl⟩
    rcases List.mem_append.1 hx with h | h
    · exact qx x h
    · simp only [List.mem_cons, List.not_mem_nil, or_false] at h
      omega
  · rw [ite_f (decide_eq_false hi)]
    exact .inr (fin2 xs pp ss q0 (by omega) (by omega) qx)
theorem jn_is {γ δ : Type} {f : γ} {g : γ → Option δ} {r : Option δ} (k : γ → Option δ) (h : ∀ J, g J = k J) (h2 : k f = r) : jn f g = r := by
  unfold jn; rw [h f]; exact h2
/-- The numbers below k that p tells. -/
def fl (p : Nat → Bool) (k : Nat) : List Int := ((List.range k).filter p).map fun (i : Nat) => (i : Int)
theorem fl_yes {p : Nat → Bool} {k : Nat} (h : p k = true) : fl p (k + 1) = fl p k ++ [(k : Int)] := by
  unfold fl; rw [List.range_succ, List.filter_append, List.map_append, List.filter_cons, if_pos h]; rfl
theorem fl_no {p : Nat → Bool} {k : Nat} (h : p k = false) : fl p (k + 1) = fl p k := by
  unfold fl; rw [List.range_succ, List.filter_append, List.map_append, List.filter_cons, if_neg (by rw [h]; simp)]; simp
theorem fl_len (p : Nat → Bool) (k : Nat) : (fl p k).length ≤ k := by
  unfold fl; rw [List.length_map]; exact Nat.le_trans (List.length_filter_le _ _) (by simp)
theorem mem_fl {p : Nat → Bool} {k : Nat} {x : Int} : x ∈ fl p k ↔ ∃ i : Nat, i < k ∧ p i = true ∧ x = (i : Int) := by
  unfold fl
  simp only [List.mem_map, List.mem_filter, List.mem_range]
  constructor
  · rintro ⟨i, ⟨h1, h2⟩, rfl⟩; exact ⟨i, h1, h2, rfl⟩
  · rintro ⟨i, h1, h2, rfl⟩; exact ⟨i, ⟨h1, h2⟩, rfl⟩
theorem fl_getD {p : Nat → Bool} {k i : Nat} (h : i < (fl p k).length) : ∃ j : Nat, j < k ∧ p j = true ∧ (fl p k).getD i 0 = (j : Int) := by
  have : (fl p k).getD i 0 ∈ fl p k := getD_in (P := fun x => x ∈ fl p k) h fun x hx => hx
  obtain ⟨j, h1, h2, h3⟩ := mem_fl.1 this
  exact ⟨j, h1, h2, h3⟩
theorem openN_fl (xs : List Int) : openN xs = fl (fun i => decide (xs.getD i 0 ≥ 0)) xs.length := rfl
theorem int_nat {i : Int} (h : 0 ≤ i) : ∃ k : Nat, i = (k : Int) := ⟨i.toNat, by omega⟩
theorem bits_nat_or {a b : Nat} (ha : a < 9223372036854775808) (hb : b < 9223372036854775808) : bits .or .i64 (a : Int) (b : Int) = ((a ||| b : Nat) : Int) := by
  have hc : a ||| b < 2 ^ 63 := Nat.or_lt_two_pow (by omega) (by omega)
  unfold bits
  rw [IntKind.wrap_i64]
  show (((BitVec.ofInt 64 (a : Int) ||| BitVec.ofInt 64 (b : Int)).toNat : Int) + 9223372036854775808) % 18446744073709551616 - 9223372036854775808 = _
  rw [BitVec.toNat_or, BitVec.toNat_ofInt, BitVec.toNat_ofInt]
  have e1 : ((a : Int) % ((2 ^ 64 : Nat) : Int)).toNat = a := by omega
  have e2 : ((b : Int) % ((2 ^ 64 : Nat) : Int)).toNat = b := by omega
  rw [e1, e2]
  omega
theorem bits_nat_and {a b : Nat} (ha : a < 9223372036854775808) (hb : b < 9223372036854775808) : bits .and .i64 (a : Int) (b : Int) = ((a &&& b : Nat) : Int) := by
  have hc : a &&& b < 2 ^ 63 := Nat.and_lt_two_pow _ (by omega)
  unfold bits
  rw [IntKind.wrap_i64]
  show (((BitVec.ofInt 64 (a : Int) &&& BitVec.ofInt 64 (b : Int)).toNat : Int) + 9223372036854775808) % 18446744073709551616 - 9223372036854775808 = _
  rw [BitVec.toNat_and, BitVec.toNat_ofInt, BitVec.toNat_ofInt]
  have e1 : ((a : Int) % ((2 ^ 64 : Nat) : Int)).toNat = a := by omega
  have e2 : ((b : Int) % ((2 ^ 64 : Nat) : Int)).toNat = b := by omega
  rw [e1, e2]
  omega
theorem has_nat {q k : Nat} (hk : k ≤ 64) : hasB (q : Int) (k : Int) = q.testBit k := by
  unfold hasB
  rw [and1, Int.toNat_natCast, Nat.min_eq_left hk, Int.fdiv_eq_ediv_of_nonneg _ (Int.le_of_lt (Int.pow_pos (by decide))), Nat.testBit_eq_decide_div_mod_eq]
  have e : (q : Int) / 2 ^ k % 2 = ((q / 2 ^ k % 2 : Nat) : Int) := by norm_cast
  rw [e]
  have : q / 2 ^ k % 2 = 0 ∨ q / 2 ^ k % 2 = 1 := by omega
  rcases this with h | h <;> rw [h] <;> rfl
theorem has_raw {q k : Int} (h0 : 0 ≤ k) (h1 : k < 64) : (bits .and .i64 (q / 2 ^ Int.toNat k) (1 : Int) == (1 : Int)) = hasB q k := by
  unfold hasB
  rw [Nat.min_eq_left (by omega), Int.fdiv_eq_ediv_of_nonneg _ (Int.le_of_lt (Int.pow_pos (by decide)))]
theorem and1_has {q k : Int} (h0 : 0 ≤ k) (h1 : k < 64) : bits .and .i64 (q / 2 ^ Int.toNat k) (1 : Int) = bif hasB q k then 1 else 0 := by
  rw [← has_raw h0 h1, and1]
  have : q / 2 ^ k.toNat % 2 = 0 ∨ q / 2 ^ k.toNat % 2 = 1 := by omega
  rcases this with h | h <;> rw [h] <;> rfl
theorem isQ_nat {n q : Int} (h : isQ n q = true) : ∃ n' q' : Nat, n = n' ∧ q = q' ∧ 1 ≤ n' ∧ n' ≤ 12 ∧ q' < 2 ^ n' := by
  obtain ⟨⟨h0, h1, h2⟩, h3, h4⟩ := isQ_in h
  obtain ⟨n', rfl⟩ := int_nat h0
  obtain ⟨q', rfl⟩ := int_nat h3
  refine ⟨n', q', rfl, rfl, by omega, by omega, ?_⟩
  simp only [Int.toNat_natCast] at h4
  have : ((2 ^ n' : Nat) : Int) = (2 : Int) ^ n' := by norm_cast
  omega
theorem rInts_eq (xs ys : List Int) (hx : xs.length ≤ 1048576) : F_laws_rInts xs ys = some (xs == ys) := by
  unfold F_laws_rInts
  by_cases hl : xs.length = ys.length
  · rw [ite_f (by rw [hl]; simp)]
    simp only [jn]
    refine Or.elim (loop_all (fun m i => F_laws_rInts_L1 xs ys (fun _ => some true) m i) (xs.length : Int) (fun i => xs.getD i.toNat 0 == ys.getD i.toNat 0) (some false) (some true) ?_ ?_ ?_ (by omega) fuel (by have := fuel_ge; omega)) ?_ ?_
    · intro m i i0 i1 hp
      rw [F_laws_rInts_L1, ite_t (decide_eq_true i1), chk_pos ⟨i0, i1⟩, chk_pos ⟨i0, by omega⟩, ite_f (by simpa [bne] using hp), chk_pos (by unfold I64; omega)]
    · intro m i i0 i1 hp
      rw [F_laws_rInts_L1, ite_t (decide_eq_true i1), chk_pos ⟨i0, i1⟩, chk_pos ⟨i0, by omega⟩, ite_t (by simpa [bne] using hp)]
    · intro m
      rw [F_laws_rInts_L1, ite_f (decide_eq_false (by omega))]
    · rintro ⟨e, h⟩
      rw [e]
      have : xs = ys := by
        refine List.ext_getElem hl fun i h1 h2 => ?_
        have := h (i : Int) (by omega) (by omega)
        simp only [Int.toNat_natCast, beq_iff_eq] at this
        simpa [List.getD_eq_getElem?_getD, h1, h2] using this
      rw [this]; simp
    · rintro ⟨e, i, i0, i1, i2, _⟩
      rw [e]
      have : (xs == ys) = false := by
        rw [beq_eq_false_iff_ne]
        intro hh
        subst hh
        simp at i2
      rw [this]
  · rw [ite_t (by simp; omega)]
    have : (xs == ys) = false := by
      rw [beq_eq_false_iff_ne]; intro hh; exact hl (by rw [hh])
    rw [this]
theorem openN_le (xs : List Int) : (openN xs).length ≤ xs.length := fl_len _ _
theorem state_len {xs : List Int} {m : Int} (h : isStateN xs m = true) : 1 ≤ xs.length ∧ xs.length ≤ 12 ∧ 0 ≤ m ∧ m ≤ 2 := by
  have := isStateN_iff.1 h; omega
theorem sOpenL_eq (xs : List Int) (m : Int) (hx : xs.length ≤ 1048576) : F_spec_l2Open xs m = some (openN xs) := by
  unfold F_spec_l2Open
  simp only [jn]
  rw [openN_fl]
  have hl := fun k => fl_len (fun i => decide (xs.getD i 0 ≥ 0)) k
  refine (loop_up (fun m i (s : List Int) => F_spec_l2Open_L1 xs (fun o5 => some o5) m s i) (xs.length : Int) (fun i => fl (fun i => decide (xs.getD i 0 ≥ 0)) i.toNat) _ ?_ ?_ (by omega) fuel (by have := fuel_ge; omega))
  · intro m i i0 i1
    obtain ⟨k, rfl⟩ := int_nat i0
    have hlk := hl k
    have e1 : ((k : Int) + 1).toNat = k + 1 := by omega
    simp only [Int.toNat_natCast, e1]
    rw [F_spec_l2Open_L1, ite_t (decide_eq_true i1), chk_pos ⟨i0, i1⟩]
    simp only [Int.toNat_natCast]
    by_cases hb : xs.getD k 0 ≥ 0
    · rw [ite_t (decide_eq_true hb), fl_yes (p := fun i => decide (xs.getD i 0 ≥ 0)) (decide_eq_true hb), chk_pos ⟨by omega, by simp only [maxLen]; omega⟩, chk_pos (by unfold I64; omega)]
    · rw [ite_f (decide_eq_false hb), fl_no (p := fun i => decide (xs.getD i 0 ≥ 0)) (decide_eq_false hb), chk_pos (by unfold I64; omega)]
  · intro m
    rw [F_spec_l2Open_L1, ite_f (decide_eq_false (by omega))]
    simp only [Int.toNat_natCast]
def opV (xs : List Int) (m : Int) : List Int := bif isStateN xs m then openN xs else []
theorem iOpenNumbers_eq (xs : List Int) (m : Int) (hx : xs.length ≤ 1048576) : F_impl_OpenNumbers xs m = some (opV xs m, isStateN xs m) := by
  unfold F_impl_OpenNumbers opV
  rw [chk_pos (by omega)]
  cases h : isStateN xs m with
  | false => rfl
  | true => rw [ite_f (by rfl), chk_pos (by omega), ite_t rfl]
theorem opV_len (xs : List Int) (m : Int) : (opV xs m).length ≤ 12 := by
  unfold opV
  refine ite_c (P := fun l : List Int => l.length ≤ 12) (fun h => ?_) (fun _ => ?_)
  · have := state_len h; have := openN_le xs; omega
  · simp
theorem drawIsState_ok {bs : List Int} (hy : okY bs) : ∃ xs m, F_spec_DrawIsState bs = some (xs, m) ∧ -1 ≤ m ∧ m ≤ 3 ∧ xs.length ≤ 13 ∧ (∀ x ∈ xs, -1 ≤ x ∧ x ≤ 4) := by
  unfold F_spec_DrawIsState
  obtain ⟨xs, m, p', s', e, h1, h2, h3, h4, h5, h6⟩ := state_ok (s := 0) (p := 0) hy (by omega) (by omega)
  rw [bnd5_eq e]
  exact ⟨_, _, rfl, h3, h4, h5, h6⟩
theorem drawAnswer_ok {bs : List Int} (hy : okY bs) : ∃ xs m q y, F_spec_DrawAnswerState bs = some (xs, m, q, y) ∧ (-1 ≤ m ∧ m ≤ 3 ∧ xs.length ≤ 13 ∧ (∀ x ∈ xs, -1 ≤ x ∧ x ≤ 4)) ∧ -1 ≤ q ∧ q ≤ 4611686018427387904 := by
  unfold F_spec_DrawAnswerState
  obtain ⟨xs, m, p', s', e, h1, h2, h3, h4, h5, h6⟩ := state_ok (s := 0) (p := 0) hy (by omega) (by omega)
  obtain ⟨b, p2, s2, e2, g0, g1⟩ := one_ok (s := s') (p := p') (n := 2) hy (by omega) (by omega)
  obtain ⟨q, p3, s3, e3, k0, k1, k2, k3⟩ := question_ok (s := s2) (p := p2) (n := ((List.length xs : Nat) : Int)) hy (by omega) (by omega)
  rw [bnd5_eq e, bnd4_eq e2, bnd4_eq e3]
  exact ⟨_, _, _, _, rfl, ⟨h3, h4, h5, h6⟩, k2, k3⟩
/-- How many of the first answers are false for a number. -/
def flC (xs : List (Int × Bool)) (x : Int) : Nat → Nat
  | 0 => 0
  | k + 1 => flC xs x k + (bif falseB (xs.getD k (0, false)).1 (xs.getD k (0, false)).2 x then 1 else 0)
theorem flC_le (xs : List (Int × Bool)) (x : Int) : ∀ k, flC xs x k ≤ k
  | 0 => Nat.le_refl _
  | k + 1 => by
    have := flC_le xs x k
    unfold flC
    cases falseB (xs.getD k (0, false)).1 (xs.getD k (0, false)).2 x <;> simp only [cond_true, cond_false] <;> omega
theorem iFalseFor_eq {xs : List (Int × Bool)} {x : Int} (hx : 0 ≤ x) (hl : xs.length ≤ 1000) : F_impl_falseFor xs x = some ((flC xs x xs.length : Nat) : Int) := by
  unfold F_impl_falseFor
  simp only [jn]
  refine loop_up (fun k i (s : Int) => F_impl_falseFor_L1 xs x some k i s) ((xs.length : Nat) : Int) (fun i => ((flC xs x i.toNat : Nat) : Int)) _ ?_ ?_ (by omega) fuel (by have := fuel_ge; omega)
  · intro k i i0 i1
    obtain ⟨j, rfl⟩ := int_nat i0
    have e1 : ((j : Int) + 1).toNat = j + 1 := by omega
    have hl := flC_le xs x j
    simp only [Int.toNat_natCast, e1]
    rw [F_impl_falseFor_L1, ite_t (decide_eq_true i1), chk_pos ⟨i0, i1⟩, Int.toNat_natCast, chk_pos hx, flC]
    rcases Bool.eq_false_or_eq_true (falseB (xs.getD j (0, false)).1 (xs.getD j (0, false)).2 x) with h | h
    · rw [ite_t h, ite_t h, chk_pos (by unfold I64; omega), chk_pos (by unfold I64; omega)]
      congr 1
    · rw [ite_f h, ite_f h, chk_pos (by unfold I64; omega)]
      congr 1
  · intro k
    rw [F_impl_falseFor_L1, ite_f (decide_eq_false (by omega)), Int.toNat_natCast]
theorem sMany_eq {xs : List (Int × Bool)} {x : Int} (hx : 0 ≤ x) (hl : xs.length ≤ 1000) : F_spec_l2Many xs x = some ((flC xs x xs.length : Nat) : Int) := by
  unfold F_spec_l2Many
  simp only [jn]
  refine loop_up (fun k i (s : Int) => F_spec_l2Many_L1 xs x some k i s) ((xs.length : Nat) : Int) (fun i => ((flC xs x i.toNat : Nat) : Int)) _ ?_ ?_ (by omega) fuel (by have := fuel_ge; omega)
  · intro k i i0 i1
    obtain ⟨j, rfl⟩ := int_nat i0
    have e1 : ((j : Int) + 1).toNat = j + 1 := by omega
    have hl := flC_le xs x j
    simp only [Int.toNat_natCast, e1]
    rw [F_spec_l2Many_L1, ite_t (decide_eq_true i1), chk_pos ⟨i0, i1⟩, Int.toNat_natCast, chk_pos hx, flC]
    rcases Bool.eq_false_or_eq_true (falseB (xs.getD j (0, false)).1 (xs.getD j (0, false)).2 x) with h | h
    · rw [ite_t h, ite_t h, chk_pos (by unfold I64; omega), chk_pos (by unfold I64; omega)]
      congr 1
    · rw [ite_f h, ite_f h, chk_pos (by unfold I64; omega)]
      congr 1
  · intro k
    rw [F_spec_l2Many_L1, ite_f (decide_eq_false (by omega)), Int.toNat_natCast]
def aqsB (X : Int) (xs : List (Int × Bool)) : Bool := (decide (1 ≤ X) && decide (X ≤ 12)) && xs.all fun a => isQ X a.1
theorem as_all {X : Int} {xs : List (Int × Bool)} {i : Nat} (h : xs.all (fun a => isQ X a.1) = true) (hi : i < xs.length) : isQ X (xs.getD i (0, false)).1 = true := by
  rw [List.getD_eq_getElem?_getD, List.getElem?_eq_getElem hi]
  exact List.all_eq_true.1 h _ (List.getElem_mem hi)
theorem all_as {X : Int} {xs : List (Int × Bool)} (h : ∀ i : Int, 0 ≤ i → i < (xs.length : Int) → isQ X (xs.getD i.toNat (0, false)).1 = true) : xs.all (fun a => isQ X a.1) = true := by
  rw [List.all_eq_true]
  intro a ha
  obtain ⟨i, hi, rfl⟩ := List.getElem_of_mem ha
  have := h (i : Int) (by omega) (by omega)
  rw [Int.toNat_natCast, List.getD_eq_getElem?_getD, List.getElem?_eq_getElem hi] at this
  exact this
theorem not_all {X : Int} {xs : List (Int × Bool)} {i : Int} (h0 : 0 ≤ i) (h1 : i < (xs.length : Int)) (h : isQ X (xs.getD i.toNat (0, false)).1 = false) : xs.all (fun a => isQ X a.1) = false := by
  rcases Bool.eq_false_or_eq_true (xs.all fun a => isQ X a.1) with h2 | h2
  · have := as_all (i := i.toNat) h2 (by omega)
    rw [this] at h; cases h
  · exact h2
theorem iAreAsked_eq (X : Int) (xs : List (Int × Bool)) (k : Int) (hl : xs.length ≤ 1000) : F_impl_areAsked X xs k = some (aqsB X xs && decide ((xs.length : Int) ≤ k)) := by
  unfold F_impl_areAsked aqsB
  rcases Bool.eq_false_or_eq_true (decide (1 ≤ X) && decide (X ≤ 12)) with h | h
  · rw [ite_t h, h]
    rcases Bool.eq_false_or_eq_true (decide ((xs.length : Int) ≤ k)) with h2 | h2
    · rw [ite_t h2, h2]
      unfold F_slices_ContainsFunc___impl_Asked_impl_Asked_ F_slices_IndexFunc___impl_Asked_impl_Asked_
      have key : ∀ (J : Unit → Option Int), J () = some (-1) → ∃ v, F_slices_IndexFunc___impl_Asked_impl_Asked__L1 xs (fun u0 u1 => F_impl_areAsked_1 u0 u1 X) J fuel 0 = some v ∧ decide (v ≥ 0) = !(xs.all fun a => isQ X a.1) := by
        intro J hJ
        have st : ∀ n i, 0 ≤ i → i < ((xs.length : Nat) : Int) → F_slices_IndexFunc___impl_Asked_impl_Asked__L1 xs (fun u0 u1 => F_impl_areAsked_1 u0 u1 X) J (n + 1) i = (bif !(isQ X (xs.getD i.toNat (0, false)).1) then some i else F_slices_IndexFunc___impl_Asked_impl_Asked__L1 xs (fun u0 u1 => F_impl_areAsked_1 u0 u1 X) J n (i + 1)) := fun n i i0 i1 => by
          rw [F_slices_IndexFunc___impl_Asked_impl_Asked__L1, ite_t (decide_eq_true i1), chk_pos ⟨i0, i1⟩]
          unfold F_impl_areAsked_1
          rw [bnd1_eq rfl, chk_pos (by unfold I64; omega)]
        refine loop_m (fun n (i : Int) => F_slices_IndexFunc___impl_Asked_impl_Asked__L1 xs (fun u0 u1 => F_impl_areAsked_1 u0 u1 X) J n i) (fun i => 0 ≤ i ∧ i ≤ (xs.length : Int) ∧ ∀ j, 0 ≤ j → j < i → isQ X (xs.getD j.toNat (0, false)).1 = true) (fun i => ((xs.length : Int) - i).toNat) (fun o => ∃ v, o = some v ∧ decide (v ≥ 0) = !(xs.all fun a => isQ X a.1)) ?_ fuel 0 ⟨by omega, by omega, fun j h1 h2 => by omega⟩ (by have := fuel_ge; omega)
        rintro n i ⟨i0, i1, hall⟩
        by_cases e : i < (xs.length : Int)
        · simp only [st n i i0 e]
          rcases Bool.eq_false_or_eq_true (isQ X (xs.getD i.toNat (0, false)).1) with h5 | h5
          · refine .inl ⟨i + 1, ⟨by omega, by omega, fun j h6 h7 => ?_⟩, by omega, ?_⟩
            · by_cases e2 : j = i
              · subst e2; exact h5
              · exact hall j h6 (by omega)
            · rw [ite_f (by rw [h5]; rfl)]
          · refine .inr ⟨i, ?_, ?_⟩
            · rw [ite_t (by rw [h5]; rfl)]
            · rw [not_all i0 e h5, decide_eq_true i0]; rfl
        · refine .inr ⟨-1, ?_, ?_⟩
          · rw [F_slices_IndexFunc___impl_Asked_impl_Asked__L1, ite_f (decide_eq_false e), hJ]
          · rw [all_as (X := X) (fun j h6 h7 => hall j h6 (by omega))]; rfl
      obtain ⟨v, e1, e2⟩ := key (fun _ => some (-1)) rfl
      simp only [jn]
      rw [bnd1_eq e1, bnd1_eq rfl, e2]; simp
    · rw [ite_f h2, h2, Bool.and_false]
  · rw [ite_f h, h]; rfl
theorem sAnswers_eq (X : Int) (xs : List (Int × Bool)) (hl : xs.length ≤ 1000) : F_spec_l2Answers X xs = some (aqsB X xs && decide ((xs.length : Int) ≤ 20)) := by
  unfold F_spec_l2Answers
  have fin : (bif decide (X ≥ 1) && decide (X ≤ 12) then some (decide (((List.length xs : Nat) : Int) ≤ (20 : Int))) else some false) = some ((decide (1 ≤ X) && decide (X ≤ 12)) && decide ((xs.length : Int) ≤ 20)) := by
    show (bif decide (1 ≤ X) && decide (X ≤ 12) then _ else _) = _
    cases decide (1 ≤ X) && decide (X ≤ 12) <;> rfl
  simp only [jn]
  rw [fin]
  have st : ∀ n i, 0 ≤ i → i < ((xs.length : Nat) : Int) → i ≤ 20 → ∀ r, F_spec_l2Answers_L1 X xs (fun _ => r) (n + 1) i = (bif !(isQ X (xs.getD i.toNat (0, false)).1) then some false else F_spec_l2Answers_L1 X xs (fun _ => r) n (i + 1)) := fun n i i0 i1 i2 r => by
    rw [F_spec_l2Answers_L1]
    refine jn_is (fun J => J true) (fun J => by rw [ite_t (decide_eq_true i1), decide_eq_true i2]) ?_
    rw [ite_t rfl, chk_pos ⟨i0, i1⟩, chk_pos (by unfold I64; omega)]
  have en : ∀ n i, 0 ≤ i → ¬ (i < ((xs.length : Nat) : Int) ∧ i ≤ 20) → ∀ r, F_spec_l2Answers_L1 X xs (fun _ => r) (n + 1) i = r := fun n i i0 i1 r => by
    rw [F_spec_l2Answers_L1]
    refine jn_is (fun J => J false) (fun J => ?_) (ite_f rfl _ _)
    rcases Bool.eq_false_or_eq_true (decide (i < ((xs.length : Nat) : Int))) with h | h
    · have h' := of_decide_eq_true h
      rw [ite_t h, decide_eq_false (by omega)]
    · rw [ite_f h]
  by_cases h20 : (xs.length : Int) ≤ 20
  · have := loop_all (F_spec_l2Answers_L1 X xs (fun _ => some ((decide (1 ≤ X) && decide (X ≤ 12)) && decide ((xs.length : Int) ≤ 20)))) ((xs.length : Nat) : Int) (fun i => isQ X (xs.getD i.toNat (0, false)).1) (some false) (some ((decide (1 ≤ X) && decide (X ≤ 12)) && decide ((xs.length : Int) ≤ 20))) (fun n i i0 i1 hp => by rw [st n i i0 i1 (by omega), ite_f (by rw [hp]; rfl)]) (fun n i i0 i1 hp => by rw [st n i i0 i1 (by omega), ite_t (by rw [hp]; rfl)]) (fun n => en n _ (by omega) (by omega) _) (by omega) fuel (by have := fuel_ge; omega)
    unfold aqsB
    rcases this with ⟨h1, h2⟩ | ⟨h1, i, i0, i1, h2, _⟩
    · rw [h1, all_as h2, Bool.and_true]
    · rw [h1, not_all i0 i1 h2, Bool.and_false]; rfl
  · have := loop_all (F_spec_l2Answers_L1 X xs (fun _ => some ((decide (1 ≤ X) && decide (X ≤ 12)) && decide ((xs.length : Int) ≤ 20)))) 21 (fun i => isQ X (xs.getD i.toNat (0, false)).1) (some false) (some ((decide (1 ≤ X) && decide (X ≤ 12)) && decide ((xs.length : Int) ≤ 20))) (fun n i i0 i1 hp => by rw [st n i i0 (by omega) (by omega), ite_f (by rw [hp]; rfl)]) (fun n i i0 i1 hp => by rw [st n i i0 (by omega) (by omega), ite_t (by rw [hp]; rfl)]) (fun n => en n _ (by omega) (by omega) _) (by omega) fuel (by have := fuel_ge; omega)
    rcases this with ⟨h1, h2⟩ | ⟨h1, _⟩
    · rw [h1, decide_eq_false h20, Bool.and_false, Bool.and_false]
    · rw [h1, decide_eq_false h20, Bool.and_false]
theorem asked_ok {bs : List Int} {p s X : Int} (hy : okY bs) (h0 : 0 ≤ p) (h1 : p ≤ 700000000000) (hX : 0 ≤ X) (hX2 : X ≤ 13) : ∃ xs p' s', F_p_spec_l1Cur_asked bs p s X = some (xs, bs, p', s') ∧ p ≤ p' ∧ p' ≤ p + 200 ∧ xs.length ≤ 100 := by
  unfold F_p_spec_l1Cur_asked
  have a1 := maxN_in (a := 1) (b := X)
  obtain ⟨r, p1, s1, e1, g0, g1, g2, g3⟩ := pick_ok (s := s) (n := maxN 1 X) hy h0 (by omega)
  have g3 := g3 (by omega)
  rw [bnd4_eq e1]
  simp only [jn]
  obtain ⟨k, p2, s2, e2, k0, k1, k2⟩ := among_ok (s := s1) (p := p1) (xs := [(3 : Int), (4 : Int), (2 : Int), (5 : Int), (1 : Int), (0 : Int), (7 : Int), (10 : Int)]) hy (by omega) (by omega) (by decide)
  have hk : 0 ≤ k ∧ k ≤ 10 := by
    simp only [List.mem_cons, List.not_mem_nil, or_false] at k2
    omega
  rw [bnd4_eq e2]
  let Q : Option (List (Int × Bool) × List Int × Int × Int) → Prop := fun o => ∃ xs p' s', o = some (xs, bs, p', s') ∧ p ≤ p' ∧ p' ≤ p + 200 ∧ xs.length ≤ 100
  have key : ∀ J : List Int → Int → Int → List (Int × Bool) → Option (List (Int × Bool) × List Int × Int × Int), (∀ pp ss xs, p ≤ pp → pp ≤ p + 100 → xs.length ≤ 12 → Q (J bs pp ss xs)) → Q (F_p_spec_l1Cur_asked_L1 X r J fuel bs p2 s2 [] k) := by
    intro J hJ
    refine loop_m (fun m (z : Int × Int × List (Int × Bool) × Int) => F_p_spec_l1Cur_asked_L1 X r J m bs z.1 z.2.1 z.2.2.1 z.2.2.2) (fun z => 0 ≤ z.2.2.2 ∧ z.2.2.2 ≤ k ∧ p ≤ z.1 ∧ z.1 ≤ p + 4 + 6 * (k - z.2.2.2) ∧ (z.2.2.1.length : Int) = k - z.2.2.2) (fun z => z.2.2.2.toNat) Q ?_ fuel (p2, s2, [], k) ⟨hk.1, Int.le_refl _, by simp only; omega, by simp only; omega, by simp⟩ (by have := fuel_ge; simp only; omega)
    rintro m ⟨pp, ss, xs, i⟩ ⟨i0, i1, q0, q1, ql⟩
    simp only at i0 i1 q0 q1 ql ⊢
    rw [F_p_spec_l1Cur_asked_L1]
    by_cases hi : i > 0
    · obtain ⟨v, p4, s4, e4, w0, w1, w2, w3⟩ := question_ok (s := ss) (n := X) hy (p := pp) (by omega) (by omega)
      obtain ⟨b, p5, s5, e5, y0, y1⟩ := one_ok (s := s4) (p := p4) (n := 4) hy (by omega) (by omega)
      rw [ite_t (decide_eq_true hi), bnd4_eq e4]
      have fin : ∀ o9 : Bool, ∃ c : Bool, (bif b then (chk (((List.length xs) + 1) * 16 ≤ 140737488355328 ∧ (List.length xs) + 1 ≤ maxLen) <| chk (I64 (i - (1 : Int))) <| F_p_spec_l1Cur_asked_L1 X r J m bs p5 s5 (xs ++ [(v, !o9)]) (i - (1 : Int))) else (chk (((List.length xs) + 1) * 16 ≤ 140737488355328 ∧ (List.length xs) + 1 ≤ maxLen) <| chk (I64 (i - (1 : Int))) <| F_p_spec_l1Cur_asked_L1 X r J m bs p5 s5 (xs ++ [(v, o9)]) (i - (1 : Int)))) = F_p_spec_l1Cur_asked_L1 X r J m bs p5 s5 (xs ++ [(v, c)]) (i - 1) := fun o9 => by
        cases b with
        | true => exact ⟨!o9, by rw [ite_t rfl, chk_pos ⟨by omega, by unfold maxLen; omega⟩, chk_pos (by unfold I64; omega)]⟩
        | false => exact ⟨o9, by rw [ite_f rfl, chk_pos ⟨by omega, by unfold maxLen; omega⟩, chk_pos (by unfold I64; omega)]⟩
      have go : ∀ c : Bool, ∃ s' : Int × Int × List (Int × Bool) × Int, (0 ≤ s'.2.2.2 ∧ s'.2.2.2 ≤ k ∧ p ≤ s'.1 ∧ s'.1 ≤ p + 4 + 6 * (k - s'.2.2.2) ∧ (s'.2.2.1.length : Int) = k - s'.2.2.2) ∧ s'.2.2.2.toNat < i.toNat ∧ F_p_spec_l1Cur_asked_L1 X r J m bs p5 s5 (xs ++ [(v, c)]) (i - 1) = F_p_spec_l1Cur_asked_L1 X r J m bs s'.1 s'.2.1 s'.2.2.1 s'.2.2.2 := fun c =>
        ⟨(p5, s5, xs ++ [(v, c)], i - 1), ⟨by simp only; omega, by simp only; omega, by simp only; omega, by simp only; omega, by simp only [List.length_append, List.length_cons, List.length_nil]; omega⟩, by simp only; omega, rfl⟩
      left
      simp only [jn, nam]
      rw [bnd4_eq e5, bnd4_eq e5, chk_pos ⟨g2, by omega⟩]
      rcases Bool.eq_false_or_eq_true (decide (v ≥ (0 : Int)) && decide (v ≤ (4095 : Int))) with h7 | h7
      · rw [ite_t h7]
        obtain ⟨c, hc⟩ := fin (bits .and .i64 (v / 2 ^ Int.toNat r) (1 : Int) == (1 : Int))
        rw [hc]; exact go c
      · rw [ite_f h7]
        obtain ⟨c, hc⟩ := fin false
        rw [hc]; exact go c
    · rw [ite_f (decide_eq_false hi)]
      exact .inr (hJ pp ss xs q0 (by omega) (by omega))
  refine key _ fun pp ss xs q0 q1 ql => ?_
  obtain ⟨b, p5, s5, e5, y0, y1⟩ := one_ok (s := ss) (n := 40) hy (p := pp) (by omega) (by omega)
  rw [bnd4_eq e5]
  cases b with
  | true =>
    rw [ite_t rfl]
    refine loop_m (fun m (zs : List (Int × Bool)) => F_p_spec_l1Cur_asked_L2 (fun o500d o500e o500g o10b => some (o10b, o500d, o500e, o500g)) bs p5 s5 m zs) (fun zs => zs.length ≤ 21) (fun zs => 21 - zs.length) Q ?_ fuel xs (by omega) (by have := fuel_ge; omega)
    intro m zs hz
    rw [F_p_spec_l1Cur_asked_L2]
    by_cases hi : ((zs.length : Nat) : Int) < 21
    · rw [ite_t (decide_eq_true hi), chk_pos ⟨by omega, by unfold maxLen; omega⟩]
      exact .inl ⟨zs ++ [(1, false)], by simp only [List.length_append, List.length_cons, List.length_nil]; omega, by simp only [List.length_append, List.length_cons, List.length_nil]; omega, rfl⟩
    · rw [ite_f (decide_eq_false hi)]
      exact .inr ⟨zs, p5, s5, rfl, by omega, by omega, by omega⟩
  | false => exact ⟨xs, p5, s5, rfl, by omega, by omega, by omega⟩
def aaB (n m : Int) (qa : List (Int × Bool)) : Bool := (aqsB n qa && decide ((qa.length : Int) ≤ 20)) && (decide (0 ≤ m) && decide (m ≤ 2))
def anL (n m : Int) (qa : List (Int × Bool)) : List Int := bif aaB n m qa then allP n m qa qa.length else []
def aaM (n m : Int) (qa : List (Int × Bool)) : Int := bif aaB n m qa then m else 0
theorem aaB_in {n m : Int} {qa : List (Int × Bool)} (h : aaB n m qa = true) : 1 ≤ n ∧ n ≤ 12 ∧ qa.length ≤ 20 ∧ 0 ≤ m ∧ m ≤ 2 := by
  unfold aaB aqsB at h
  simp only [Bool.and_eq_true, decide_eq_true_eq] at h
  omega
/-- Both conditions, as the program asks them. -/
theorem aa_if {n m : Int} {qa : List (Int × Bool)} {R : Type} (hl : qa.length ≤ 1000) (J : Bool → Option R) : (bnd1 (F_impl_areAsked n qa (20 : Int)) fun r13 => (bif !r13 then J true else J (!(decide (0 ≤ m) && decide (m ≤ 2))))) = J (!(aaB n m qa)) := by
  rw [bnd1_eq (iAreAsked_eq n qa 20 hl)]
  unfold aaB
  cases aqsB n qa && decide ((qa.length : Int) ≤ 20) <;> rfl
theorem iAnswerAll_eq (n m : Int) (qa : List (Int × Bool)) (hl : qa.length ≤ 1000) : F_impl_AnswerAll n m qa = some (anL n m qa, aaM n m qa, aaB n m qa) := by
  unfold F_impl_AnswerAll anL aaM
  refine jn_is (fun J => J (!(aaB n m qa))) (fun J => aa_if hl J) ?_
  rcases Bool.eq_false_or_eq_true (aaB n m qa) with h | h
  · obtain ⟨h1, h2, h3, h4, h5⟩ := aaB_in h
    rw [h, ite_f (by rfl), chk_pos (by omega), chk_pos h2]
    refine jn_is (fun J => J (allP n m qa qa.length)) (fun J => ?_) rfl
    refine loop_up (fun k i (s : List Int) => F_impl_AnswerAll_L1 m qa J k s i) ((qa.length : Nat) : Int) (fun i => allP n m qa i.toNat) _ ?_ ?_ (by omega) fuel (by have := fuel_ge; omega)
    · intro k i i0 i1
      obtain ⟨j, rfl⟩ := int_nat i0
      have e1 : ((j : Int) + 1).toNat = j + 1 := by omega
      simp only [Int.toNat_natCast, e1]
      rw [F_impl_AnswerAll_L1, ite_t (decide_eq_true i1), chk_pos ⟨i0, i1⟩, chk_pos (okS_allP h2 h4 h5 j), chk_pos (by unfold I64; omega), Int.toNat_natCast]
      rfl
    · intro k
      simp only [Int.toNat_natCast]
      rw [F_impl_AnswerAll_L1, ite_f (decide_eq_false (by omega))]
  · rw [h]; rfl
theorem aa_if2 {n m : Int} {qa : List (Int × Bool)} {R : Type} (hl : qa.length ≤ 1000) (J : Bool → Option R) : (bnd1 (F_spec_l2Answers n qa) fun r13 => (bif !r13 then J true else J (!(decide (m ≥ (0 : Int)) && decide (m ≤ (2 : Int)))))) = J (!(aaB n m qa)) := by
  rw [bnd1_eq (sAnswers_eq n qa hl)]
  unfold aaB
  cases aqsB n qa && decide ((qa.length : Int) ≤ 20) <;> rfl
theorem sStart_eq {n : Int} (m : Int) (h1 : 1 ≤ n) (h2 : n ≤ 12) : F_spec_l2Start n m = some (List.replicate n.toNat 0, m) := by
  unfold F_spec_l2Start
  rw [chk_pos ⟨by omega, by omega, by omega, by simp only [maxLen]; omega⟩]
theorem sl2All_eq {n m : Int} {qa : List (Int × Bool)} (h : aaB n m qa = true) : F_spec_l2All n m qa = some (allP n m qa qa.length, m) := by
  obtain ⟨h1, h2, h3, h4, h5⟩ := aaB_in h
  unfold F_spec_l2All
  rw [bnd2_eq (sStart_eq m h1 h2)]
  refine jn_is (fun J => J (allP n m qa qa.length)) (fun J => ?_) rfl
  refine loop_up (fun k i (s : List Int) => F_spec_l2All_L1 qa m J k s i) ((qa.length : Nat) : Int) (fun i => allP n m qa i.toNat) _ ?_ ?_ (by omega) fuel (by have := fuel_ge; omega)
  · intro k i i0 i1
    obtain ⟨j, rfl⟩ := int_nat i0
    have e1 : ((j : Int) + 1).toNat = j + 1 := by omega
    simp only [Int.toNat_natCast, e1]
    rw [F_spec_l2All_L1, ite_t (decide_eq_true i1), chk_pos ⟨i0, i1⟩, chk_pos (okS_allP h2 h4 h5 j), chk_pos (by unfold I64; omega), Int.toNat_natCast]
    rfl
  · intro k
    simp only [Int.toNat_natCast]
    rw [F_spec_l2All_L1, ite_f (decide_eq_false (by omega))]
theorem drawAll_ok {bs : List Int} (hy : okY bs) : ∃ n m qa, F_spec_DrawAnswerAll bs = some (n, m, qa) ∧ qa.length ≤ 100 ∧ 0 ≤ n ∧ n ≤ 13 := by
  unfold F_spec_DrawAnswerAll
  obtain ⟨n, p1, s1, e1, g0, g1, g2, g3⟩ := many_ok (s := 0) (p := 0) hy (by omega) (by omega)
  obtain ⟨m, p3, s3, e3, l0, l1, _⟩ := lies_ok (s := s1) (p := p1) hy (by omega) (by omega)
  obtain ⟨xs, p2, s2, e2, k0, k1, k2⟩ := asked_ok (s := s3) (p := p3) hy (by omega) (by omega) g2 g3
  rw [bnd4_eq e1, bnd4_eq e3, bnd4_eq e2]
  exact ⟨_, _, _, rfl, k2, g2, g3⟩
theorem rState_same (xs : List Int) (m : Int) (hx : xs.length ≤ 1000) : F_laws_rState xs m xs m = some true := by
  unfold F_laws_rState
  rw [ite_t (beq_self_eq_true _), bnd1_eq (rInts_eq xs xs (by omega)), beq_self_eq_true]
/-- The bytes of a string. -/
def bl (s : ByteArray) : List UInt8 := s.data.toList
theorem bl_len (s : ByteArray) : (bl s).length = s.size := Array.length_toList
theorem bl_app (a b : ByteArray) : bl (a ++ b) = bl a ++ bl b := by
  unfold bl; rw [ByteArray.data_append, Array.toList_append]
theorem bl_ext (s : ByteArray) (i j : Nat) : bl (ByteArray.extract s i j) = ((bl s).drop i).take (j - i) := by
  unfold bl; rw [ByteArray.data_extract, Array.toList_extract, List.extract_eq_take_drop]
theorem bl_inj {a b : ByteArray} (h : bl a = bl b) : a = b := by
  cases a; cases b; congr 1; exact Array.ext' h
theorem sz_app (a b : ByteArray) : (a ++ b).size = a.size + b.size := by rw [← bl_len, bl_app, List.length_append, bl_len, bl_len]
theorem sz_mk (l : List UInt8) : (ByteArray.mk ⟨l⟩).size = l.length := rfl
theorem bl_mk (l : List UInt8) : bl (ByteArray.mk ⟨l⟩) = l := rfl
theorem str_eq (a b : ByteArray) : (a.toList == b.toList) = decide (bl a = bl b) := by
  apply Bool.eq_iff_iff.2
  rw [decide_eq_true_eq, beq_iff_eq]
  exact ⟨fun h => by rw [toList_inj h], fun h => by rw [bl_inj h]⟩
theorem str_same (a : ByteArray) : (a.toList == a.toList) = true := by simp
theorem byteAt_bl (s : ByteArray) (i : Nat) : byteAt s i = (((bl s).getD i 0).toNat : Int) := by
  unfold byteAt bl; rw [List.getD_eq_getElem?_getD]
theorem digit_ext : ∀ k : Fin 10, ((bl (ByteArray.mk #[48, 49, 50, 51, 52, 53, 54, 55, 56, 57])).drop k.val).take (k.val + 1 - k.val) = [UInt8.ofNat (48 + k.val)] := by decide
theorem digit_bl {n : Int} (h0 : 0 ≤ n) (h1 : n < 10) : bl (ByteArray.extract (ByteArray.mk #[48, 49, 50, 51, 52, 53, 54, 55, 56, 57]) (Int.toNat n) (Int.toNat (n + 1))) = [UInt8.ofNat (48 + n.toNat)] := by
  rw [bl_ext, show (n + 1).toNat = n.toNat + 1 by omega]
  exact digit_ext ⟨n.toNat, by omega⟩
theorem itoa_bl {n : Int} (h : 0 ≤ n) : bl (itoaB n) = Lib.decDigits n.toNat := by
  unfold itoaB Lib.itoa
  rw [if_neg (by omega)]
  rfl
theorem itoa_sz {n : Int} (h0 : 0 ≤ n) (h1 : n < 1000000) : (itoaB n).size ≤ 6 := by
  rw [← bl_len, itoa_bl h0, Lib.decDigits_length]
  have h : ∀ u : Nat, u < 10 → Lib.nDigits u ≤ 1 := fun u hu => by rw [Lib.nDigits_small hu]; exact Nat.le_refl _
  have step : ∀ k u : Nat, (∀ v, v < 10 ^ k → Lib.nDigits v ≤ k) → 1 ≤ k → u < 10 ^ (k + 1) → Lib.nDigits u ≤ k + 1 := fun k u ih hk hu => by
    by_cases h10 : u < 10
    · have := h u h10; omega
    · rw [Lib.nDigits_big h10]
      have := ih (u / 10) (by rw [Nat.pow_succ] at hu; omega)
      omega
  have h6 : ∀ k : Nat, 1 ≤ k → ∀ v, v < 10 ^ k → Lib.nDigits v ≤ k := by
    intro k
    induction k with
    | zero => intro h; omega
    | succ k ih =>
      intro _ v hv
      by_cases hk : k = 0
      · subst hk; exact h v (by simpa using hv)
      · exact step k v (ih (by omega)) (by omega) hv
  exact h6 6 (by omega) n.toNat (by omega)
theorem itoa_sz1 {n : Int} (h0 : 0 ≤ n) : 1 ≤ (itoaB n).size := by
  rw [← bl_len, itoa_bl h0, Lib.decDigits_length]
  exact Lib.nDigits_pos _
theorem sNum_eq : ∀ (m : Nat) (n : Int), 0 ≤ n → n < 1000000000000 → n.toNat < m → F_spec_l1Num m n = some (itoaB n) ∧ (itoaB n).size ≤ n.toNat + 1 := by
  intro m
  induction m with
  | zero => intro n _ _ h; omega
  | succ m ih =>
    intro n h0 h1 hm
    rw [F_spec_l1Num, F_spec_l1Num_B, ite_f (decide_eq_false (by omega))]
    by_cases h : n < 10
    · have e : bl (itoaB n) = [UInt8.ofNat (48 + n.toNat)] := by rw [itoa_bl h0, Lib.decDigits_one (by omega)]
      have e2 := digit_bl h0 h
      rw [ite_t (decide_eq_true h), chk_pos (by unfold I64; omega), chk_pos ⟨h0, by omega, by rw [show ByteArray.size (ByteArray.mk #[48, 49, 50, 51, 52, 53, 54, 55, 56, 57]) = 10 from rfl]; omega⟩]
      exact ⟨by rw [bl_inj (e2.trans e.symm)], by rw [← bl_len, e]; simp⟩
    · have hd : Int.tdiv n 10 = n / 10 := Int.tdiv_eq_ediv_of_nonneg h0
      have hm' : Int.tmod n 10 = n % 10 := Int.tmod_eq_emod_of_nonneg h0
      rw [ite_f (decide_eq_false h)]
      obtain ⟨i1, i2⟩ := ih (n / 10) (by omega) (by omega) (by omega)
      have e2 := digit_bl (n := n % 10) (by omega) (by omega)
      have e3 : (ByteArray.extract (ByteArray.mk #[48, 49, 50, 51, 52, 53, 54, 55, 56, 57]) (Int.toNat (n % 10)) (Int.toNat (n % 10 + 1))).size = 1 := by rw [← bl_len, e2]; rfl
      have e4 : itoaB (n / 10) ++ ByteArray.extract (ByteArray.mk #[48, 49, 50, 51, 52, 53, 54, 55, 56, 57]) (Int.toNat (n % 10)) (Int.toNat (n % 10 + 1)) = itoaB n := by
        apply bl_inj
        rw [bl_app, e2, itoa_bl (by omega), itoa_bl h0]
        rw [show (n / 10).toNat = n.toNat / 10 by omega, show (n % 10).toNat = n.toNat % 10 by omega]
        conv => rhs; rw [Lib.decDigits, dif_neg (by omega)]
      rw [hd, hm', chk_pos (by unfold I64; omega), bnd1_eq i1, chk_pos (by unfold I64; omega), chk_pos ⟨by omega, by omega, by rw [show ByteArray.size (ByteArray.mk #[48, 49, 50, 51, 52, 53, 54, 55, 56, 57]) = 10 from rfl]; omega⟩,
        chk_pos (by rw [e3]; omega), e4]
      refine ⟨rfl, ?_⟩
      rw [← e4, sz_app, e3]; omega
theorem sNum {n : Int} (h0 : 0 ≤ n) (h1 : n < 1000000) : F_spec_l1Num fuel n = some (itoaB n) := (sNum_eq fuel n h0 (by omega) (by have := fuel_ge; omega)).1
theorem ext_sz (s : ByteArray) {i j : Nat} (h1 : i ≤ j) (h2 : j ≤ s.size) : (ByteArray.extract s i j).size = j - i := by
  rw [← bl_len, bl_ext, List.length_take, List.length_drop, bl_len]; omega
theorem spoilt_ok {bs : List Int} {p s : Int} {t w : ByteArray} (hy : okY bs) (h0 : 0 ≤ p) (h1 : p ≤ 800000000000) (ht : t.size ≤ 1000000000) (hw : 1 ≤ w.size) (hw2 : w.size ≤ 1000000000) :
    ∃ u p' s', F_p_spec_l1Cur_spoilt bs p s t w = some (u, bs, p', s') ∧ p ≤ p' ∧ p' ≤ p + 8 ∧ u.size ≤ t.size + 1 := by
  unfold F_p_spec_l1Cur_spoilt
  by_cases he : t.size = 0
  · rw [ite_t (by rw [empty_iff]; exact decide_eq_true he), chk_pos ⟨by omega, by omega, by omega⟩]
    exact ⟨_, _, _, rfl, by omega, by omega, by rw [ext_sz w (by omega) (by omega)]; omega⟩
  rw [ite_f (by rw [empty_iff]; exact decide_eq_false he)]
  obtain ⟨i, p1, s1, e1, a1, a2, a3, a4⟩ := pick_ok (s := s) (n := ((t.size : Nat) : Int)) hy h0 (by omega)
  obtain ⟨j, p2, s2, e2, b1, b2, b3, b4⟩ := pick_ok (s := s1) (n := ((w.size : Nat) : Int)) hy (p := p1) (by omega) (by omega)
  obtain ⟨k, p3, s3, e3, c1, c2, c3, c4⟩ := pick_ok (s := s2) (n := 3) hy (p := p2) (by omega) (by omega)
  have a5 := a4 (by omega)
  have b5 := b4 (by omega)
  have x1 : (ByteArray.extract w (Int.toNat j) (Int.toNat ((w.size : Nat) : Int))).size = w.size - j.toNat := ext_sz w (by omega) (by omega)
  have x2 : (ByteArray.extract (ByteArray.extract w (Int.toNat j) (Int.toNat ((w.size : Nat) : Int))) 0 1).size = 1 := by rw [ext_sz _ (by omega) (by omega)]
  have x3 : (ByteArray.extract t 0 (Int.toNat i)).size = i.toNat := by rw [ext_sz t (by omega) (by omega)]; omega
  have x4 : (ByteArray.extract t (Int.toNat i) (Int.toNat ((t.size : Nat) : Int))).size = t.size - i.toNat := by rw [ext_sz t (by omega) (by omega)]; omega
  have x5 : (ByteArray.extract t (Int.toNat (i + 1)) (Int.toNat ((t.size : Nat) : Int))).size = t.size - (i.toNat + 1) := by rw [ext_sz t (by omega) (by omega)]; omega
  rw [bnd4_eq e1, bnd4_eq e2, chk_pos ⟨b3, by omega, by omega⟩, chk_pos ⟨by omega, by omega, by omega⟩, bnd4_eq e3]
  refine ite_c (P := fun (o : Option (ByteArray × List Int × Int × Int)) => ∃ u p' s', o = some (u, bs, p', s') ∧ p ≤ p' ∧ p' ≤ p + 8 ∧ u.size ≤ t.size + 1) (fun _ => ?_) (fun _ => ?_)
  · rw [chk_pos ⟨by omega, by omega, by omega⟩, chk_pos (by omega), chk_pos ⟨by omega, by omega, by omega⟩, chk_pos (by rw [sz_app]; omega)]
    exact ⟨_, _, _, rfl, by omega, by omega, by rw [sz_app, sz_app]; omega⟩
  refine ite_c (P := fun (o : Option (ByteArray × List Int × Int × Int)) => ∃ u p' s', o = some (u, bs, p', s') ∧ p ≤ p' ∧ p' ≤ p + 8 ∧ u.size ≤ t.size + 1) (fun _ => ?_) (fun _ => ?_)
  · rw [chk_pos ⟨by omega, by omega, by omega⟩, chk_pos (by omega), chk_pos (by unfold I64; omega), chk_pos ⟨by omega, by omega, by omega⟩, chk_pos (by rw [sz_app]; omega)]
    exact ⟨_, _, _, rfl, by omega, by omega, by rw [sz_app, sz_app]; omega⟩
  · rw [chk_pos ⟨by omega, by omega, by omega⟩, chk_pos (by unfold I64; omega), chk_pos ⟨by omega, by omega, by omega⟩, chk_pos (by omega)]
    exact ⟨_, _, _, rfl, by omega, by omega, by rw [sz_app]; omega⟩
theorem sAnswerAll_eq (n m : Int) (qa : List (Int × Bool)) (hl : qa.length ≤ 1000) : F_spec_AnswerAll n m qa = some (anL n m qa, aaM n m qa, aaB n m qa) := by
  unfold F_spec_AnswerAll anL aaM
  refine jn_is (fun J => J (!(aaB n m qa))) (fun J => aa_if2 hl J) ?_
  rcases Bool.eq_false_or_eq_true (aaB n m qa) with h | h
  · rw [h, ite_f (by rfl), bnd2_eq (sl2All_eq h)]; rfl
  · rw [h]; rfl
theorem sAnswerState_eq (xs : List Int) (m q : Int) (y : Bool) (hx : xs.length ≤ 1000) : F_spec_AnswerState xs m q y = some (asL xs m q y, asM xs m q y, asB xs m q) := by
  unfold F_spec_AnswerState asL asM
  refine jn_is (fun J => J (!(asB xs m q))) (fun J => ?_) ?_
  · rw [chk_pos (by omega)]
    unfold asB
    cases isStateN xs m <;> rfl
  · rcases Bool.eq_false_or_eq_true (asB xs m q) with h | h
    · have ⟨h1, _⟩ := Bool.and_eq_true_iff.1 h
      rw [h, ite_f (by rfl), chk_pos (okS_of h1), if_pos rfl, if_pos rfl]
    · rw [h, ite_t (by rfl), if_neg (by simp), if_neg (by simp)]
theorem asL_len (xs : List Int) (m q : Int) (y : Bool) : (asL xs m q y).length ≤ xs.length := by
  unfold asL; split
  · rw [ansN_len]; exact Nat.le_refl _
  · exact Nat.zero_le _
def caB (xs : List Int) (m q : Int) (y : Bool) : Bool := decide (((List.length (openN (asL xs m q y)) : Nat) : Int) > 0)
theorem iCanAnswer_eq (xs : List Int) (m q : Int) (y : Bool) (hx : xs.length ≤ 1000) : F_impl_CanAnswer xs m q y = some (caB xs m q y, asB xs m q) := by
  unfold F_impl_CanAnswer caB
  have := asL_len xs m q y
  rw [chk_pos (by omega), chk_pos (by omega)]
theorem sCanAnswer_eq (xs : List Int) (m q : Int) (y : Bool) (hx : xs.length ≤ 1000) : F_spec_CanAnswer xs m q y = some (caB xs m q y, asB xs m q) := by
  unfold F_spec_CanAnswer caB
  refine jn_is (fun J => J (!(asB xs m q))) (fun J => ?_) ?_
  · rw [chk_pos (by omega)]
    unfold asB
    cases isStateN xs m <;> rfl
  · rcases Bool.eq_false_or_eq_true (asB xs m q) with h | h
    · have ⟨h1, _⟩ := Bool.and_eq_true_iff.1 h
      rw [h, ite_f (by rfl), chk_pos (okS_of h1), bnd1_eq (sOpenL_eq _ m (by rw [ansN_len]; omega))]
      unfold asL
      rw [if_pos h]
    · rw [h, ite_t (by rfl)]
      unfold asL
      rw [if_neg (by rw [h]; simp)]
      rfl
def ffB (n : Int) (qa : List (Int × Bool)) (k : Int) : Bool := (aqsB n qa && decide ((qa.length : Int) ≤ 20)) && numB n k
def ffV (n : Int) (qa : List (Int × Bool)) (k : Int) : Int := bif ffB n qa k then ((flC qa k qa.length : Nat) : Int) else 0
theorem numB_pos {n k : Int} (h : numB n k = true) : 0 ≤ k ∧ k ≤ n - 1 ∧ 1 ≤ n ∧ n ≤ 12 := by
  unfold numB at h
  simp only [Bool.and_eq_true, decide_eq_true_eq] at h
  omega
theorem iFalseForX_eq (n : Int) (qa : List (Int × Bool)) (k : Int) (hl : qa.length ≤ 1000) : F_impl_FalseFor n qa k = some (ffV n qa k, ffB n qa k) := by
  unfold F_impl_FalseFor ffV
  refine jn_is (fun J => J (!(ffB n qa k))) (fun J => ?_) ?_
  · rw [bnd1_eq (iAreAsked_eq n qa 20 hl)]
    unfold ffB
    cases aqsB n qa && decide ((qa.length : Int) ≤ 20) <;> rfl
  · rcases Bool.eq_false_or_eq_true (ffB n qa k) with h | h
    · have ⟨_, h1⟩ := Bool.and_eq_true_iff.1 h
      rw [h, ite_f (by rfl), bnd1_eq (iFalseFor_eq (numB_pos h1).1 hl)]; rfl
    · rw [h]; rfl
theorem sFalseForX_eq (n : Int) (qa : List (Int × Bool)) (k : Int) (hl : qa.length ≤ 1000) : F_spec_FalseFor n qa k = some (ffV n qa k, ffB n qa k) := by
  unfold F_spec_FalseFor ffV
  refine jn_is (fun J => J (!(ffB n qa k))) (fun J => ?_) ?_
  · rw [bnd1_eq (sAnswers_eq n qa hl)]
    unfold ffB
    cases h : aqsB n qa && decide ((qa.length : Int) ≤ 20) with
    | false => rfl
    | true =>
      have hn : (decide (1 ≤ n) && decide (n ≤ 12)) = true := by
        have ⟨h1, _⟩ := Bool.and_eq_true_iff.1 h
        exact (Bool.and_eq_true_iff.1 h1).1
      have hn' := hn
      simp only [Bool.and_eq_true, decide_eq_true_eq] at hn'
      rw [Bool.not_true, ite_f rfl, chk_pos (by unfold I64; omega)]
      unfold numB
      rw [hn]
      rfl
  · rcases Bool.eq_false_or_eq_true (ffB n qa k) with h | h
    · have ⟨_, h1⟩ := Bool.and_eq_true_iff.1 h
      rw [h, ite_f (by rfl), bnd1_eq (sMany_eq (numB_pos h1).1 hl)]; rfl
    · rw [h]; rfl
/-- The least value of f below k, and where it is. -/
def fwP (f : Nat → Int) : Nat → Int × List Int
  | 0 => (21, [])
  | k + 1 => if f k < (fwP f k).1 then (f k, [(k : Int)]) else if f k = (fwP f k).1 then ((fwP f k).1, (fwP f k).2 ++ [(k : Int)]) else fwP f k
theorem fwP_len (f : Nat → Int) : ∀ k, (fwP f k).2.length ≤ k
  | 0 => Nat.le_refl _
  | k + 1 => by
    have := fwP_len f k
    unfold fwP
    split
    · simp
    · split
      · simp; omega
      · omega
theorem fwP_some {f : Nat → Int} (h : ∀ i, f i ≤ 20) : ∀ k, 1 ≤ k → 1 ≤ (fwP f k).2.length
  | 0, h => by omega
  | 1, _ => by
    have := h 0
    unfold fwP fwP
    rw [if_pos (by simp only; omega)]
    exact Nat.le_refl _
  | k + 2, _ => by
    have := fwP_some h (k + 1) (by omega)
    rw [fwP]
    split
    · simp
    · split
      · simp
      · exact this
def fnB (n : Int) (qa : List (Int × Bool)) : Bool := aqsB n qa && decide ((qa.length : Int) ≤ 20)
def fnP (n : Int) (qa : List (Int × Bool)) : Int × List Int := bif fnB n qa then fwP (fun k => ((flC qa (k : Int) qa.length : Nat) : Int)) n.toNat else (0, [])
theorem fnB_in {n : Int} {qa : List (Int × Bool)} (h : fnB n qa = true) : 1 ≤ n ∧ n ≤ 12 ∧ qa.length ≤ 20 := by
  unfold fnB aqsB at h
  simp only [Bool.and_eq_true, decide_eq_true_eq] at h
  omega
theorem sFewest_eq (n : Int) (qa : List (Int × Bool)) (hl : qa.length ≤ 1000) : F_spec_FewestFalse n qa = some ((fnP n qa).1, (fnP n qa).2, fnB n qa) := by
  unfold F_spec_FewestFalse fnP
  rw [bnd1_eq (sAnswers_eq n qa hl)]
  show (bif !(fnB n qa) then _ else _) = _
  rcases Bool.eq_false_or_eq_true (fnB n qa) with h | h
  · obtain ⟨n1, n2, n3⟩ := fnB_in h
    rw [h, ite_f (by rfl), ite_t rfl]
    have hf : ∀ k : Nat, flC qa (k : Int) qa.length ≤ 20 := fun k => by have := flC_le qa (k : Int) qa.length; omega
    generalize hF : (fun k : Nat => ((flC qa (k : Int) qa.length : Nat) : Int)) = f
    refine jn_is (fun J => J (fwP f n.toNat).2 (fwP f n.toNat).1) (fun J => ?_) rfl
    refine loop_up (fun k i (s : List Int × Int) => F_spec_FewestFalse_L1 n qa J k s.1 i s.2) n (fun i => ((fwP f i.toNat).2, (fwP f i.toNat).1)) _ ?_ ?_ (by omega) fuel (by have := fuel_ge; omega)
    · intro k i i0 i1
      obtain ⟨j, rfl⟩ := int_nat i0
      have e1 : ((j : Int) + 1).toNat = j + 1 := by omega
      have hlen := fwP_len f j
      simp only [Int.toNat_natCast, e1]
      have hfj : f j = ((flC qa (j : Int) qa.length : Nat) : Int) := by rw [← hF]
      rw [F_spec_FewestFalse_L1, ite_t (decide_eq_true i1), bnd1_eq (sMany_eq i0 hl), ← hfj, fwP]
      simp only [jn]
      by_cases h1 : f j < (fwP f j).1
      · rw [ite_t (decide_eq_true h1), ite_t (beq_self_eq_true _), chk_pos ⟨by simp, by simp [maxLen]⟩, chk_pos (by unfold I64; omega), if_pos h1]
        rfl
      · rw [ite_f (decide_eq_false h1), if_neg h1]
        by_cases h2 : f j = (fwP f j).1
        · rw [ite_t (by simpa using h2), chk_pos ⟨by omega, by simp only [maxLen]; omega⟩, chk_pos (by unfold I64; omega), if_pos h2]
        · rw [ite_f (by simpa using h2), chk_pos (by unfold I64; omega), if_neg h2]
    · intro k
      rw [F_spec_FewestFalse_L1, ite_f (decide_eq_false (by omega))]
  · rw [h]; rfl
theorem iFewest_eq (n : Int) (qa : List (Int × Bool)) (hl : qa.length ≤ 1000) : F_impl_FewestFalse n qa = some ((fnP n qa).1, (fnP n qa).2, fnB n qa) := by
  unfold F_impl_FewestFalse fnP
  rw [bnd1_eq (iAreAsked_eq n qa 20 hl)]
  show (bif !(fnB n qa) then _ else _) = _
  rcases Bool.eq_false_or_eq_true (fnB n qa) with h | h
  · obtain ⟨n1, n2, n3⟩ := fnB_in h
    rw [h, ite_f (by rfl), ite_t rfl]
    have hf : ∀ k : Nat, ((flC qa (k : Int) qa.length : Nat) : Int) ≤ 20 := fun k => by have := flC_le qa (k : Int) qa.length; omega
    have hcall : ∀ j : Nat, F_impl_FewestFalse_1 (j : Int) qa = some ((flC qa (j : Int) qa.length : Nat) : Int) := fun j => by
      unfold F_impl_FewestFalse_1
      rw [bnd1_eq (iFalseFor_eq (by omega) hl)]
    generalize hF : (fun k : Nat => ((flC qa (k : Int) qa.length : Nat) : Int)) = f
    have hfj : ∀ j, f j = ((flC qa (j : Int) qa.length : Nat) : Int) := fun j => by rw [← hF]
    have key : F_impl_leastOf n (fun u0 => F_impl_FewestFalse_1 u0 qa) = some ((fwP f n.toNat).1, (fwP f n.toNat).2) := by
      unfold F_impl_leastOf
      refine jn_is (fun J => J (fwP f n.toNat).2 (fwP f n.toNat).1) (fun J => ?_) rfl
      have hz : n.toNat ≠ 0 := by omega
      refine (loop_up (fun k i (s : List Int × Int) => F_impl_leastOf_L1 n (fun u0 => F_impl_FewestFalse_1 u0 qa) J k s.1 i s.2) n (fun i => ((fwP f i.toNat).2, if i = 0 then 0 else (fwP f i.toNat).1)) (J (fwP f n.toNat).2 (fwP f n.toNat).1) ?_ ?_ (by omega) fuel (by have := fuel_ge; omega))
      · intro k i i0 i1
        obtain ⟨j, rfl⟩ := int_nat i0
        have e1 : ((j : Int) + 1).toNat = j + 1 := by omega
        have hlen := fwP_len f j
        have h20 := hf j
        rw [← hfj] at h20
        simp only [Int.toNat_natCast, e1]
        rw [F_impl_leastOf_L1, ite_t (decide_eq_true i1), bnd1_eq (hcall j), ← hfj, if_neg (by omega : ¬ ((j : Int) + 1 = 0)), fwP]
        simp only [jn]
        by_cases hj : j = 0
        · subst hj
          rw [ite_t (by rfl), ite_t rfl, ite_t (beq_self_eq_true _), chk_pos ⟨by simp, by simp [maxLen]⟩, chk_pos (by unfold I64; omega), if_pos (by show f 0 < 21; omega)]
          rfl
        · have hne := fwP_some (f := f) (fun i => by rw [hfj]; exact hf i) j (by omega)
          rw [ite_f (by simp; intro h0; rw [h0] at hne; simp at hne), if_neg (by omega : ¬ ((j : Int) = 0))]
          by_cases h1 : f j < (fwP f j).1
          · rw [ite_t (decide_eq_true h1), ite_t (beq_self_eq_true _), chk_pos ⟨by simp, by simp [maxLen]⟩, chk_pos (by unfold I64; omega), if_pos h1]
            rfl
          · rw [ite_f (decide_eq_false h1), if_neg h1]
            by_cases h2 : f j = (fwP f j).1
            · rw [ite_t (by simpa using h2), chk_pos ⟨by omega, by simp only [maxLen]; omega⟩, chk_pos (by unfold I64; omega), if_pos h2]
            · rw [ite_f (by simpa using h2), chk_pos (by unfold I64; omega), if_neg h2]
      · intro k
        simp only [if_neg (by omega : ¬ (n = 0))]
        rw [F_impl_leastOf_L1, ite_f (decide_eq_false (by omega))]
    rw [bnd2_eq key]
  · rw [h]; rfl
def encU (x : Int) : UInt8 := if x < 0 then 45 else UInt8.ofNat (48 + x.toNat)
def txL (m : Int) (xs : List Int) : List UInt8 := UInt8.ofNat (48 + m.toNat) :: 58 :: xs.map encU
def txB (m : Int) (xs : List Int) : ByteArray := ByteArray.mk ⟨txL m xs⟩
theorem bl_txB (m : Int) (xs : List Int) : bl (txB m xs) = txL m xs := rfl
theorem txB_sz (m : Int) (xs : List Int) : (txB m xs).size = xs.length + 2 := by rw [← bl_len, bl_txB]; simp [txL]
theorem txB_snoc (m : Int) (xs : List Int) (x : Int) {u : ByteArray} (h : bl u = [encU x]) : txB m xs ++ u = txB m (xs ++ [x]) := by
  apply bl_inj
  rw [bl_app, bl_txB, bl_txB, h]
  simp [txL]
theorem itoa_one {x : Int} (h0 : 0 ≤ x) (h1 : x < 10) : bl (itoaB x) = [UInt8.ofNat (48 + x.toNat)] := by
  rw [itoa_bl h0, Lib.decDigits_one (by omega)]
theorem itoa_one_sz {x : Int} (h0 : 0 ≤ x) (h1 : x < 10) : (itoaB x).size = 1 := by rw [← bl_len, itoa_one h0 h1]; rfl
theorem take_snoc {xs : List Int} {j : Nat} (h : j < xs.length) : xs.take (j + 1) = xs.take j ++ [xs.getD j 0] := by
  rw [List.take_succ_eq_append_getElem h, List.getD_eq_getElem?_getD, List.getElem?_eq_getElem h]; rfl
theorem tx_start {m : Int} (h0 : 0 ≤ m) (h1 : m ≤ 2) : itoaB m ++ ByteArray.mk #[58] = txB m [] := by
  apply bl_inj
  rw [bl_app, itoa_one h0 (by omega), bl_txB]
  rfl
theorem iStateText_eq (xs : List Int) (m : Int) (hx : xs.length ≤ 1000) : F_impl_StateText xs m = some (bif isStateN xs m then txB m xs else ByteArray.mk #[], isStateN xs m) := by
  unfold F_impl_StateText
  rw [chk_pos (by omega)]
  rcases Bool.eq_false_or_eq_true (isStateN xs m) with h | h
  · obtain ⟨⟨h1, h2⟩, ⟨h3, h4⟩, h5⟩ := isStateN_iff.1 h
    have e1 : (ByteArray.mk #[58]).size = 1 := rfl
    have e2 : (ByteArray.mk #[45]).size = 1 := rfl
    rw [h, ite_f (by rfl), ite_t rfl, chk_pos (by omega), chk_pos (by rw [itoa_one_sz h3 (by omega), e1]; omega), tx_start h3 h4]
    refine jn_is (fun J => J (txB m xs)) (fun J => ?_) rfl
    have key := loop_up (fun k i (s : ByteArray) => F_impl_StateText_L1 xs J k i s) ((xs.length : Nat) : Int) (fun i => txB m (xs.take i.toNat)) (J (txB m xs)) ?_ ?_ (by omega) fuel (by have := fuel_ge; omega)
    · exact key
    · intro k i i0 i1
      obtain ⟨j, rfl⟩ := int_nat i0
      have e3 : ((j : Int) + 1).toNat = j + 1 := by omega
      have hj : j < xs.length := by omega
      have hb := h5 j hj
      have hs : (txB m (xs.take j)).size = j + 2 := by rw [txB_sz, List.length_take, Nat.min_eq_left (by omega)]
      simp only [Int.toNat_natCast, e3]
      rw [F_impl_StateText_L1, ite_t (decide_eq_true i1), chk_pos ⟨i0, i1⟩, Int.toNat_natCast, take_snoc hj]
      by_cases hn : xs.getD j 0 < 0
      · rw [ite_t (decide_eq_true hn), chk_pos (by rw [hs, e2]; omega), chk_pos (by unfold I64; omega), txB_snoc m _ (xs.getD j 0) (by unfold encU; rw [if_pos hn]; rfl)]
      · have hd := itoa_one (x := xs.getD j 0) (by omega) (by omega)
        have hd2 := itoa_one_sz (x := xs.getD j 0) (by omega) (by omega)
        rw [ite_f (decide_eq_false hn), chk_pos (by omega), chk_pos (by rw [hs, hd2]; omega), chk_pos (by unfold I64; omega), txB_snoc m _ (xs.getD j 0) (by unfold encU; rw [if_neg hn]; exact hd)]
    · intro k
      simp only [Int.toNat_natCast, List.take_length]
      rw [F_impl_StateText_L1, ite_f (decide_eq_false (by omega))]
  · rw [h]; rfl
theorem sText_eq {xs : List Int} {m : Int} (h : isStateN xs m = true) : F_spec_l2Text xs m = some (txB m xs) := by
  unfold F_spec_l2Text
  obtain ⟨⟨h1, h2⟩, ⟨h3, h4⟩, h5⟩ := isStateN_iff.1 h
  have e1 : (ByteArray.mk #[58]).size = 1 := rfl
  have e2 : (ByteArray.mk #[45]).size = 1 := rfl
  rw [bnd1_eq (sNum h3 (by omega)), chk_pos (by rw [itoa_one_sz h3 (by omega), e1]; omega), tx_start h3 h4]
  refine jn_is (fun J => J (txB m xs)) (fun J => ?_) rfl
  have key := loop_up (fun k i (s : ByteArray) => F_spec_l2Text_L1 xs J k i s) ((xs.length : Nat) : Int) (fun i => txB m (xs.take i.toNat)) (J (txB m xs)) ?_ ?_ (by omega) fuel (by have := fuel_ge; omega)
  · exact key
  · intro k i i0 i1
    obtain ⟨j, rfl⟩ := int_nat i0
    have e3 : ((j : Int) + 1).toNat = j + 1 := by omega
    have hj : j < xs.length := by omega
    have hb := h5 j hj
    have hs : (txB m (xs.take j)).size = j + 2 := by rw [txB_sz, List.length_take, Nat.min_eq_left (by omega)]
    simp only [Int.toNat_natCast, e3]
    rw [F_spec_l2Text_L1, ite_t (decide_eq_true i1), chk_pos ⟨i0, i1⟩, Int.toNat_natCast, take_snoc hj]
    by_cases hn : xs.getD j 0 < 0
    · rw [ite_t (decide_eq_true hn), chk_pos (by rw [hs, e2]; omega), chk_pos (by unfold I64; omega), txB_snoc m _ (xs.getD j 0) (by unfold encU; rw [if_pos hn]; rfl)]
    · have hd := itoa_one (x := xs.getD j 0) (by omega) (by omega)
      have hd2 := itoa_one_sz (x := xs.getD j 0) (by omega) (by omega)
      rw [ite_f (decide_eq_false hn), bnd1_eq (sNum (by omega) (by omega)), chk_pos (by rw [hs, hd2]; omega), chk_pos (by unfold I64; omega), txB_snoc m _ (xs.getD j 0) (by unfold encU; rw [if_neg hn]; exact hd)]
  · intro k
    simp only [Int.toNat_natCast, List.take_length]
    rw [F_spec_l2Text_L1, ite_f (decide_eq_false (by omega))]
theorem sStateText_eq (xs : List Int) (m : Int) (hx : xs.length ≤ 1000) : F_spec_StateText xs m = some (bif isStateN xs m then txB m xs else ByteArray.mk #[], isStateN xs m) := by
  unfold F_spec_StateText
  rw [chk_pos (by omega)]
  rcases Bool.eq_false_or_eq_true (isStateN xs m) with h | h
  · rw [h, ite_f (by rfl), bnd1_eq (sText_eq h)]; rfl
  · rw [h]; rfl
def pvU (c : UInt8) : Int := if c.toNat = 45 then -1 else (c.toNat : Int) - 48
def okU (c : UInt8) : Bool := decide (c.toNat = 45) || decide (48 ≤ c.toNat)
def psL (s : ByteArray) : List Int := ((bl s).drop 2).map pvU
def psM (s : ByteArray) : Int := byteAt s 0 - 48
def psB (s : ByteArray) : Bool := (decide (3 ≤ s.size) && decide (s.size ≤ 14)) && (isStateN (psL s) (psM s) && decide (bl s = txL (psM s) (psL s)))
theorem psL_len (s : ByteArray) : (psL s).length = s.size - 2 := by unfold psL; rw [List.length_map, List.length_drop, bl_len]
theorem ps_snoc {s : ByteArray} {j : Nat} (h : j + 2 < s.size) : (psL s).take (j + 1) = (psL s).take j ++ [pvU ((bl s).getD (j + 2) 0)] := by
  have hl := psL_len s
  rw [take_snoc (by omega)]
  congr 2
  have h2 : j + 2 < (bl s).length := by rw [bl_len]; exact h
  unfold psL
  rw [List.getD_eq_getElem?_getD, List.getElem?_map, List.getElem?_drop, List.getD_eq_getElem?_getD, show 2 + j = j + 2 by omega, List.getElem?_eq_getElem h2]
  rfl
theorem enc_pv {c : UInt8} (h : okU c = true) (h2 : pvU c ≤ 2) : encU (pvU c) = c := by
  unfold okU at h
  simp only [Bool.or_eq_true, decide_eq_true_eq] at h
  unfold encU pvU at *
  by_cases hc : c.toNat = 45
  · rw [if_pos hc, if_pos (by omega)]
    apply UInt8.toNat_inj.1; rw [hc]; rfl
  · rw [if_neg hc] at h2 ⊢
    rw [if_neg (by omega)]
    apply UInt8.toNat_inj.1
    rw [UInt8.toNat_ofNat']
    omega
theorem ok_enc {x : Int} (h0 : -1 ≤ x) (h1 : x ≤ 2) : okU (encU x) = true ∧ pvU (encU x) = x := by
  have : x = -1 ∨ x = 0 ∨ x = 1 ∨ x = 2 := by omega
  rcases this with rfl | rfl | rfl | rfl <;> decide
theorem state_all {xs : List Int} {m : Int} (h : isStateN xs m = true) : ∀ x ∈ xs, -1 ≤ x ∧ x ≤ 2 := by
  obtain ⟨_, ⟨h3, h4⟩, h5⟩ := isStateN_iff.1 h
  intro x hx
  obtain ⟨i, hi, rfl⟩ := List.getElem_of_mem hx
  have := h5 i hi
  rw [List.getD_eq_getElem?_getD, List.getElem?_eq_getElem hi] at this
  have this : -1 ≤ xs[i] ∧ xs[i] ≤ m := this
  omega
/-- A State's text reads as that State. -/
theorem ps_tx {xs : List Int} {m : Int} (h : isStateN xs m = true) : psL (txB m xs) = xs ∧ psM (txB m xs) = m ∧ psB (txB m xs) = true := by
  obtain ⟨⟨h1, h2⟩, ⟨h3, h4⟩, h5⟩ := isStateN_iff.1 h
  have ha := state_all h
  have e1 : psL (txB m xs) = xs := by
    unfold psL
    rw [bl_txB]
    unfold txL
    show List.map pvU (List.map encU xs) = xs
    rw [List.map_map]
    conv => rhs; rw [← List.map_id xs]
    exact List.map_congr_left fun x hx => (ok_enc (ha x hx).1 (ha x hx).2).2
  have e2 : psM (txB m xs) = m := by
    unfold psM
    rw [byteAt_bl, bl_txB]
    unfold txL
    show ((UInt8.ofNat (48 + m.toNat)).toNat : Int) - 48 = m
    rw [UInt8.toNat_ofNat']
    omega
  refine ⟨e1, e2, ?_⟩
  unfold psB
  rw [e1, e2, h, txB_sz, bl_txB]
  simp; omega
theorem ps_facts {s : ByteArray} (h : psB s = true) : 3 ≤ s.size ∧ s.size ≤ 14 ∧ isStateN (psL s) (psM s) = true ∧ s = txB (psM s) (psL s) := by
  unfold psB at h
  simp only [Bool.and_eq_true, decide_eq_true_eq] at h
  exact ⟨h.1.1, h.1.2, h.2.1, bl_inj (by rw [bl_txB]; exact h.2.2)⟩
theorem ps_of {s : ByteArray} (h1 : 3 ≤ s.size) (h2 : s.size ≤ 14) (hm : 0 ≤ psM s) (hm2 : psM s ≤ 2) (hc : byteAt s 1 = 58) (ho : ∀ c ∈ (bl s).drop 2, okU c = true) (hs : isStateN (psL s) (psM s) = true) : psB s = true := by
  have ha := state_all hs
  have key : bl s = txL (psM s) (psL s) := by
    rw [byteAt_bl] at hc
    unfold psM at hm hm2
    rw [byteAt_bl] at hm hm2
    unfold txL psL psM at *
    rw [byteAt_bl]
    have hl : 3 ≤ (bl s).length := by rw [bl_len]; exact h1
    generalize bl s = l at *
    match l, hl with
    | b0 :: b1 :: rest, _ =>
      simp only [List.getD_cons_zero, List.getD_cons_succ, List.drop_succ_cons, List.drop_zero] at *
      rw [List.map_map]
      have e3 : List.map (encU ∘ pvU) rest = rest := by
        conv => rhs; rw [← List.map_id rest]
        exact List.map_congr_left fun c hcm => enc_pv (ho c hcm) (ha (pvU c) (List.mem_map_of_mem hcm)).2
      rw [e3]
      congr 1
      · apply UInt8.toNat_inj.1
        rw [UInt8.toNat_ofNat']
        omega
      · congr 1
        apply UInt8.toNat_inj.1
        show b1.toNat = 58
        omega
  unfold psB
  rw [hs, decide_eq_true key, decide_eq_true h1, decide_eq_true h2]
  rfl
theorem i64_byte (s : ByteArray) (i : Nat) : 0 ≤ byteAt s i ∧ byteAt s i ≤ 255 := by
  unfold byteAt
  have := ((s.data.toList[i]?).getD 0).toNat_lt
  omega
theorem iParse_eq (s : ByteArray) : F_impl_ParseState s = some (bif psB s then psL s else [], bif psB s then psM s else 0, psB s) := by
  unfold F_impl_ParseState
  by_cases h : 3 ≤ s.size ∧ s.size ≤ 14
  · have hb0 := i64_byte s 0
    rw [ite_f (by rw [decide_eq_true (by omega), decide_eq_true (by omega)]; rfl), chk_pos (by omega), chk_pos (by unfold I64; omega), chk_pos (by unfold I64; omega)]
    have hl := psL_len s
    refine jn_is (fun J => J (psL s)) (fun J => ?_) ?_
    · have key := loop_up (fun k i (o : List Int) => F_impl_ParseState_L1 s J k o (i + 2)) ((s.size - 2 : Nat) : Int) (fun i => (psL s).take i.toNat) (J (psL s)) ?_ ?_ (by omega) fuel (by have := fuel_ge; omega)
      · exact key
      · intro k i i0 i1
        obtain ⟨j, rfl⟩ := int_nat i0
        have e3 : ((j : Int) + 1).toNat = j + 1 := by omega
        have e4 : ((j : Int) + 2).toNat = j + 2 := by omega
        have e5 : (j : Int) + 2 + 1 = (j : Int) + 1 + 2 := by omega
        have hbj := i64_byte s (j + 2)
        have hlt : ((psL s).take j).length = j := by rw [List.length_take]; omega
        simp only [Int.toNat_natCast, e3]
        rw [F_impl_ParseState_L1, ite_t (decide_eq_true (by omega)), chk_pos ⟨by omega, by omega⟩, e4, chk_pos (by unfold I64; omega), chk_pos (by unfold I64; omega), ps_snoc (by omega)]
        simp only [jn]
        rw [byteAt_bl] at hbj ⊢
        unfold pvU
        by_cases hc : ((bl s).getD (j + 2) 0).toNat = 45
        · rw [ite_t (by rw [hc]; rfl), hlt, chk_pos ⟨by omega, by simp only [maxLen]; omega⟩, chk_pos (by unfold I64; omega), if_pos hc, e5]
        · rw [ite_f (beq_eq_false_iff_ne.2 (by omega)), hlt, chk_pos ⟨by omega, by simp only [maxLen]; omega⟩, chk_pos (by unfold I64; omega), if_neg hc, e5]
      · intro k
        have e6 : (((s.size - 2 : Nat) : Int)) + 2 = ((s.size : Nat) : Int) := by omega
        simp only [Int.toNat_natCast, e6]
        rw [F_impl_ParseState_L1, ite_f (decide_eq_false (by omega)), List.take_of_length_le (by omega)]
    · show (bnd2 (F_impl_StateText (psL s) (psM s)) _) = _
      rw [bnd2_eq (iStateText_eq (psL s) (psM s) (by omega))]
      have e : psB s = (isStateN (psL s) (psM s) && decide (bl s = txL (psM s) (psL s))) := by
        unfold psB; rw [decide_eq_true h.1, decide_eq_true h.2]; rfl
      refine jn_is (fun J => J (!(psB s))) (fun J => ?_) ?_
      · rw [e]
        cases hs : isStateN (psL s) (psM s) with
        | false => rfl
        | true =>
          rw [Bool.not_true, ite_f rfl, ite_t rfl, str_eq, bl_txB]
          congr 2
          rw [Bool.true_and]
          exact decide_eq_decide.2 ⟨fun h => h.symm, fun h => h.symm⟩
      · cases psB s <;> rfl
  · have e : psB s = false := by
      unfold psB
      by_cases h1 : 3 ≤ s.size
      · rw [decide_eq_true h1, decide_eq_false (by omega)]; rfl
      · rw [decide_eq_false h1]; rfl
    rw [ite_t (by by_cases h1 : 3 ≤ s.size <;> simp <;> omega), e]
    rfl
def hdB (s : ByteArray) : Bool := (decide (3 ≤ s.size) && decide (s.size ≤ 14)) && ((decide (0 ≤ psM s) && decide (psM s ≤ 2)) && (byteAt s 1 == 58))
theorem sParse_eq (s : ByteArray) : F_spec_ParseState s = some (bif psB s then psL s else [], bif psB s then psM s else 0, psB s) := by
  unfold F_spec_ParseState
  have key : F_spec_l2Parse s = some (bif psB s then psL s else [], bif psB s then psM s else 0, psB s) := by
    unfold F_spec_l2Parse
    have hb0 := i64_byte s 0
    refine jn_is (fun J => J (!(hdB s))) (fun J => ?_) ?_
    · unfold hdB
      by_cases h : 3 ≤ s.size ∧ s.size ≤ 14
      · rw [ite_f (by rw [decide_eq_true (by omega), decide_eq_true (by omega)]; rfl), chk_pos (by omega), chk_pos (by unfold I64; omega), chk_pos (by unfold I64; omega), decide_eq_true h.1, decide_eq_true h.2]
        show (bif !(decide (0 ≤ psM s) && decide (psM s ≤ 2)) then J true else _) = _
        cases decide (0 ≤ psM s) && decide (psM s ≤ 2) with
        | false => rfl
        | true => rw [Bool.not_true, ite_f rfl, chk_pos ⟨by omega, by omega⟩]; rfl
      · rw [ite_t (by by_cases h1 : 3 ≤ s.size <;> simp <;> omega)]
        congr 1
        by_cases h1 : 3 ≤ s.size
        · rw [decide_eq_true h1, decide_eq_false (by omega)]; rfl
        · rw [decide_eq_false h1]; rfl
    rcases Bool.eq_false_or_eq_true (hdB s) with hh | hh
    · have hh' := hh
      unfold hdB at hh'
      simp only [Bool.and_eq_true, decide_eq_true_eq, beq_iff_eq] at hh'
      obtain ⟨⟨h1, h2⟩, ⟨h3, h4⟩, h5⟩ := hh'
      rw [hh, ite_f (by rfl), chk_pos (by omega), chk_pos (by unfold I64; omega), chk_pos (by unfold I64; omega)]
      have hl := psL_len s
      have all_no : (∃ c ∈ (bl s).drop 2, okU c = false) → psB s = false := by
        rintro ⟨c, hc, hn⟩
        rcases Bool.eq_false_or_eq_true (psB s) with hp | hp
        · obtain ⟨_, _, g3, g4⟩ := ps_facts hp
          exfalso
          rw [g4, bl_txB] at hc
          obtain ⟨x, hx, rfl⟩ := List.mem_map.1 (show c ∈ List.map encU (psL s) from hc)
          have := state_all g3 x hx
          rw [(ok_enc this.1 this.2).1] at hn
          cases hn
        · exact hp
      refine jn_is (fun J => bif ((bl s).drop 2).all okU then J (psL s) else some ([], 0, false)) (fun J => ?_) ?_
      · refine loop_m (fun k (z : List Int × Int) => F_spec_l2Parse_L1 s J k z.1 z.2) (fun z => 2 ≤ z.2 ∧ z.2 ≤ s.size ∧ z.1 = (psL s).take (z.2 - 2).toNat ∧ (((bl s).drop 2).take (z.2 - 2).toNat).all okU = true) (fun z => (s.size - z.2).toNat) (fun o => o = bif ((bl s).drop 2).all okU then J (psL s) else some ([], 0, false)) ?_ fuel ([], 2) ⟨by simp only; omega, by simp only; omega, rfl, rfl⟩ (by have := fuel_ge; simp only; omega)
        rintro k ⟨o, i⟩ ⟨i0, i1, io, i3⟩
        simp only at i0 i1 io i3 ⊢
        subst io
        rw [F_spec_l2Parse_L1]
        by_cases hi : i < s.size
        · obtain ⟨j, rfl⟩ : ∃ j : Nat, i = (j : Int) + 2 := ⟨(i - 2).toNat, by omega⟩
          have e4 : ((j : Int) + 2).toNat = j + 2 := by omega
          have e5 : ((j : Int) + 2 - 2).toNat = j := by omega
          have e6 : ((j : Int) + 2 + 1 - 2).toNat = j + 1 := by omega
          have hbj := i64_byte s (j + 2)
          have hlt : ((psL s).take j).length = j := by rw [List.length_take]; omega
          have hdl : j < ((bl s).drop 2).length := by rw [List.length_drop, bl_len]; omega
          have hget : ((bl s).drop 2)[j] = (bl s).getD (j + 2) 0 := by
            have h2 : j + 2 < (bl s).length := by rw [bl_len]; omega
            rw [List.getD_eq_getElem?_getD, List.getElem?_eq_getElem h2, List.getElem_drop]
            simp only [Nat.add_comm 2 j]; rfl
          rw [e5] at i3 ⊢
          rw [ite_t (decide_eq_true hi), chk_pos ⟨by omega, by omega⟩, e4, chk_pos (by unfold I64; omega), chk_pos (by unfold I64; omega)]
          have step : ∀ v : Int, v = pvU ((bl s).getD (j + 2) 0) → okU ((bl s).getD (j + 2) 0) = true → ∃ s' : List Int × Int, (2 ≤ s'.2 ∧ s'.2 ≤ s.size ∧ s'.1 = (psL s).take (s'.2 - 2).toNat ∧ (((bl s).drop 2).take (s'.2 - 2).toNat).all okU = true) ∧ (s.size - s'.2).toNat < (s.size - ((j : Int) + 2)).toNat ∧
              (chk ((((psL s).take j).length + 1) * 8 ≤ 140737488355328 ∧ ((psL s).take j).length + 1 ≤ maxLen) <| chk (I64 ((j : Int) + 2 + (1 : Int))) <| F_spec_l2Parse_L1 s J k ((psL s).take j ++ [v]) ((j : Int) + 2 + (1 : Int))) = F_spec_l2Parse_L1 s J k s'.1 s'.2 := by
            intro v hv hok
            rw [hlt, chk_pos ⟨by omega, by simp only [maxLen]; omega⟩, chk_pos (by unfold I64; omega), hv, ← ps_snoc (by omega)]
            refine ⟨((psL s).take (j + 1), (j : Int) + 2 + 1), ⟨by simp only; omega, by simp only; omega, by simp only [e6], ?_⟩, by simp only; omega, rfl⟩
            simp only [e6]
            rw [List.take_succ_eq_append_getElem hdl, List.all_append, i3, hget, List.all_cons, hok]
            rfl
          simp only [jn]
          rw [byteAt_bl] at hbj ⊢
          by_cases hc : ((bl s).getD (j + 2) 0).toNat = 45
          · rw [ite_t (by rw [hc]; rfl)]
            exact .inl (step (-1) (by unfold pvU; rw [if_pos hc]) (by unfold okU; rw [decide_eq_true hc]; rfl))
          · rw [ite_f (beq_eq_false_iff_ne.2 (by omega))]
            by_cases hc2 : 48 ≤ ((bl s).getD (j + 2) 0).toNat
            · rw [ite_f (decide_eq_false (by omega))]
              exact .inl (step _ (by unfold pvU; rw [if_neg hc]) (by unfold okU; rw [decide_eq_true hc2]; simp))
            · rw [ite_t (decide_eq_true (by omega))]
              refine .inr ?_
              rw [ite_f ?_]
              rw [← Bool.not_eq_true, List.all_eq_true]
              intro hall
              have := hall _ (List.getElem_mem hdl)
              rw [hget] at this
              unfold okU at this
              rw [decide_eq_false hc, decide_eq_false hc2] at this
              cases this
        · have e : i = s.size := by omega
          subst e
          have e7 : (((s.size : Nat) : Int) - 2).toNat = s.size - 2 := by omega
          rw [e7] at i3 ⊢
          rw [List.take_of_length_le (by rw [List.length_drop, bl_len]; omega)] at i3
          rw [ite_f (decide_eq_false (by omega)), i3, ite_t rfl, List.take_of_length_le (by omega)]
          exact .inr rfl
      · rcases Bool.eq_false_or_eq_true (((bl s).drop 2).all okU) with ha | ha
        · rw [ha, ite_t rfl, chk_pos (by omega)]
          show (bif !(isStateN (psL s) (psM s)) then _ else _) = _
          rcases Bool.eq_false_or_eq_true (isStateN (psL s) (psM s)) with hs | hs
          · rw [hs, ite_f (by rfl), ps_of h1 h2 h3 h4 h5 (List.all_eq_true.1 ha) hs]
            rfl
          · rw [hs, ite_t (by rfl)]
            have : psB s = false := by unfold psB; rw [hs, Bool.false_and, Bool.and_false]
            rw [this]; rfl
        · rw [ha, ite_f rfl]
          have : psB s = false := all_no (by
            have : ¬ (∀ c ∈ (bl s).drop 2, okU c = true) := fun hall => by rw [List.all_eq_true.2 hall] at ha; cases ha
            by_cases he : ∃ c ∈ (bl s).drop 2, okU c = false
            · exact he
            · exact absurd (fun c hc => by
                rcases Bool.eq_false_or_eq_true (okU c) with h | h
                · exact h
                · exact absurd ⟨c, hc, h⟩ he) this)
          rw [this]; rfl
    · rw [hh, ite_t (by rfl)]
      have : psB s = false := by
        rcases Bool.eq_false_or_eq_true (psB s) with hp | hp
        · obtain ⟨g1, g2, g3, g4⟩ := ps_facts hp
          obtain ⟨_, ⟨g5, g6⟩, _⟩ := isStateN_iff.1 g3
          exfalso
          have hc : byteAt s 1 = 58 := by rw [g4, byteAt_bl, bl_txB]; rfl
          unfold hdB at hh
          rw [decide_eq_true g1, decide_eq_true g2, decide_eq_true g5, decide_eq_true g6, hc] at hh
          cases hh
        · exact hp
      rw [this]; rfl
  rw [bnd3_eq key]
theorem drawStart_ok {bs : List Int} (hy : okY bs) : ∃ n m, F_spec_DrawStartState bs = some (n, m) := by
  unfold F_spec_DrawStartState
  obtain ⟨n, p1, s1, e1, g0, g1, g2, g3⟩ := many_ok (s := 0) (p := 0) hy (by omega) (by omega)
  obtain ⟨m, p3, s3, e3, l0, l1, _⟩ := lies_ok (s := s1) (p := p1) hy (by omega) (by omega)
  rw [bnd4_eq e1, bnd4_eq e3]
  exact ⟨_, _, rfl⟩
theorem drawText_ok {bs : List Int} (hy : okY bs) : ∃ xs m, F_spec_DrawStateText bs = some (xs, m) ∧ xs.length ≤ 13 := by
  unfold F_spec_DrawStateText
  obtain ⟨xs, m, e, h1, h2, h3, h4⟩ := drawIsState_ok hy
  rw [bnd2_eq e]
  exact ⟨_, _, rfl, h3⟩
theorem drawParse_ok {bs : List Int} (hy : okY bs) : ∃ s, F_spec_DrawParseState bs = some s := by
  unfold F_spec_DrawParseState
  obtain ⟨xs, m, p1, s1, e, h1, h2, h3, h4, h5, h6⟩ := state_ok (s := 0) (p := 0) hy (by omega) (by omega)
  have fin : ∀ t : ByteArray, t.size ≤ 1000 → ∃ s, (bnd4 (F_p_spec_l1Cur_one bs p1 s1 (3 : Int)) fun r16 r16b r16c r16d => (bif r16 then bnd4 (F_p_spec_l1Cur_spoilt r16b r16c r16d t (ByteArray.mk #[48, 49, 50, 45, 58, 51, 32])) fun r19 r19b r19c r19d => some r19 else some t)) = some s := by
    intro t ht
    obtain ⟨b, p2, s2, e2, b1, b2⟩ := one_ok (s := s1) (n := 3) hy (p := p1) (by omega) (by omega)
    rw [bnd4_eq e2]
    cases b with
    | false => exact ⟨_, rfl⟩
    | true =>
      obtain ⟨u, p3, s3, e3, c1, c2, c3⟩ := spoilt_ok (s := s2) (t := t) (w := ByteArray.mk #[48, 49, 50, 45, 58, 51, 32]) hy (p := p2) (by omega) (by omega) (by omega) (by decide) (by decide)
      rw [ite_t rfl, bnd4_eq e3]
      exact ⟨_, rfl⟩
  simp only [jn]
  rw [bnd5_eq e, chk_pos (by omega)]
  rcases Bool.eq_false_or_eq_true (isStateN xs m) with h | h
  · rw [h, ite_t rfl, bnd1_eq (sText_eq h)]
    exact fin _ (by rw [txB_sz]; omega)
  · rw [h, ite_f rfl]
    exact fin _ (by decide)
theorem drawFalse_ok {bs : List Int} (hy : okY bs) : ∃ n qa k, F_spec_DrawFalseFor bs = some (n, qa, k) ∧ qa.length ≤ 100 := by
  unfold F_spec_DrawFalseFor
  obtain ⟨n, p1, s1, e1, g0, g1, g2, g3⟩ := many_ok (s := 0) (p := 0) hy (by omega) (by omega)
  have a1 := maxN_in (a := 1) (b := n)
  obtain ⟨v, p2, s2, e2, b1, b2, b3, b4⟩ := pick_ok (s := s1) (n := maxN 1 n) hy (p := p1) (by omega) (by omega)
  have b5 := b4 (by omega)
  obtain ⟨u, p3, s3, e3, c1, c2, c3, c4⟩ := pick_ok (s := s2) (n := 24) hy (p := p2) (by omega) (by omega)
  have c5 := c4 (by omega)
  obtain ⟨w, p4, s4, e4, d1, d2, d3, d4⟩ := pick_ok (s := s3) (n := 24) hy (p := p3) (by omega) (by omega)
  have d5 := d4 (by omega)
  obtain ⟨xs, p5, s5, e5, k0, k1, k2⟩ := asked_ok (s := s4) (p := p4) hy (by omega) (by omega) g2 g3
  have t1 : Int.tdiv u 23 = u / 23 := Int.tdiv_eq_ediv_of_nonneg c3
  have t2 : Int.tdiv w 23 = w / 23 := Int.tdiv_eq_ediv_of_nonneg d3
  rw [bnd4_eq e1, bnd4_eq e2, bnd4_eq e3, t1, chk_pos (by unfold I64; omega), chk_pos (by unfold I64; omega), bnd4_eq e4, t2, chk_pos (by unfold I64; omega), chk_pos (by unfold I64; omega)]
  simp only [nam]
  rw [bnd4_eq e5]
  exact ⟨_, _, _, rfl, k2⟩
theorem drawFewest_ok {bs : List Int} (hy : okY bs) : ∃ n qa, F_spec_DrawFewestFalse bs = some (n, qa) ∧ qa.length ≤ 100 := by
  unfold F_spec_DrawFewestFalse
  obtain ⟨n, p1, s1, e1, g0, g1, g2, g3⟩ := many_ok (s := 0) (p := 0) hy (by omega) (by omega)
  obtain ⟨xs, p5, s5, e5, k0, k1, k2⟩ := asked_ok (s := s1) (p := p1) hy (by omega) (by omega) g2 g3
  rw [bnd4_eq e1, bnd4_eq e5]
  exact ⟨_, _, rfl, k2⟩
theorem asQ_other {xs : List Int} {m q : Int} {y : Bool} (h : asB xs m q = true) : asB xs m (oqV ((xs.length : Nat) : Int) q) = true ∧ asL xs m (oqV ((xs.length : Nat) : Int) q) (!y) = asL xs m q y ∧ asM xs m (oqV ((xs.length : Nat) : Int) q) (!y) = asM xs m q y := by
  have ⟨h1, h2⟩ := Bool.and_eq_true_iff.1 h
  have e : oqV ((xs.length : Nat) : Int) q = othN ((xs.length : Nat) : Int) q := by unfold oqV; rw [if_pos h2]
  have hq : isQ ((xs.length : Nat) : Int) (othN ((xs.length : Nat) : Int) q) = true := by
    obtain ⟨⟨h3, h4, h5⟩, h6, h7⟩ := isQ_in h2
    unfold isQ othN
    simp only [Bool.and_eq_true, decide_eq_true_eq]
    exact ⟨⟨h4, h5⟩, by omega, by omega⟩
  have hb : asB xs m (oqV ((xs.length : Nat) : Int) q) = true := by rw [e]; unfold asB; rw [h1, hq]; rfl
  refine ⟨hb, ?_, ?_⟩
  · unfold asL
    rw [if_pos hb, if_pos h, e]
    unfold ansN afterN
    refine List.map_congr_left fun i hi => ?_
    have hi := List.mem_range.1 hi
    unfold falseB
    show lieN m (!(hasB (othN ((xs.length : Nat) : Int) q) (i : Int) == !y)) _ = lieN m (!(hasB q (i : Int) == y)) _
    rw [has_other h2 (by omega)]
    cases hasB q (i : Int) <;> cases y <;> rfl
  · unfold asM
    rw [if_pos hb, if_pos h]
/-- What a number's state counts: its false answers, as long as they are no more than m. -/
theorem allP_cnt {n m : Int} {qa : List (Int × Bool)} (hm : 0 ≤ m) {i : Nat} (hi : i < n.toNat) : ∀ k, (allP n m qa k).getD i 0 = if ((flC qa (i : Int) k : Nat) : Int) ≤ m then ((flC qa (i : Int) k : Nat) : Int) else -1
  | 0 => by
    unfold allP flC
    rw [if_pos (by omega), List.getD_eq_getElem?_getD, List.getElem?_replicate, if_pos hi]
    rfl
  | k + 1 => by
    have ih := allP_cnt (qa := qa) hm hi k
    have hl := allP_len (n := n) (m := m) (qa := qa) k
    rw [allP_succ]
    have g : ∀ q y, (ansN m q y (allP n m qa k)).getD i 0 = lieN m (falseB q y (i : Int)) ((allP n m qa k).getD i 0) := fun q y => by
      unfold ansN afterN
      rw [hl, List.getD_eq_getElem?_getD, List.getElem?_map, List.getElem?_range hi]
      rfl
    rw [g, ih, flC]
    generalize flC qa (i : Int) k = c
    cases hb : falseB (qa.getD k (0, false)).1 (qa.getD k (0, false)).2 (i : Int) with
    | false => rw [lie_no rfl, cond_false, Nat.add_zero]
    | true =>
      rw [cond_true]
      by_cases h1 : (c : Int) ≤ m
      · rw [if_pos h1]
        by_cases h2 : ((c + 1 : Nat) : Int) ≤ m
        · rw [if_pos h2, lie_up (by omega) rfl (by omega)]; omega
        · rw [if_neg h2, lie_over (by omega) rfl (by omega)]
      · rw [if_neg h1, lie_neg (by omega), if_neg (by omega)]
theorem states_loop {n m : Int} {qa : List (Int × Bool)} (h : aaB n m qa = true) (hl : qa.length ≤ 1000) (r : Option Bool) : F_laws_FnStates_L1 n m qa (anL n m qa) (fun _ => r) fuel 0 = r := by
  obtain ⟨n1, n2, n3, m1, m2⟩ := aaB_in h
  have e : anL n m qa = allP n m qa qa.length := by unfold anL; rw [h]; rfl
  have hlen := allP_len (n := n) (m := m) (qa := qa) qa.length
  have ha := (Bool.and_eq_true_iff.1 h).1
  rw [e]
  refine loop_up (fun k i (_ : Unit) => F_laws_FnStates_L1 n m qa (allP n m qa qa.length) (fun _ => r) k i) n (fun _ => ()) _ ?_ ?_ (by omega) fuel (by have := fuel_ge; omega)
  · intro k i i0 i1
    obtain ⟨j, rfl⟩ : ∃ j : Nat, i = (j : Int) := ⟨i.toNat, by omega⟩
    have hb : ffB n qa (j : Int) = true := by
      unfold ffB numB
      rw [ha, decide_eq_true n1, decide_eq_true n2, decide_eq_true i0, decide_eq_true (by omega)]
      rfl
    have hv : ffV n qa (j : Int) = ((flC qa (j : Int) qa.length : Nat) : Int) := by unfold ffV; rw [hb]; rfl
    have hc := allP_cnt (n := n) (m := m) (qa := qa) m1 (i := j) (by omega) qa.length
    have hcl := flC_le qa (j : Int) qa.length
    rw [F_laws_FnStates_L1, ite_t (decide_eq_true i1), bnd2_eq (iFalseForX_eq n qa (j : Int) hl)]
    refine jn_is (fun J => J false) (fun J => ?_) ?_
    · rw [hb, ite_f (by rfl), hv]
      by_cases hm : ((flC qa (j : Int) qa.length : Nat) : Int) ≤ m
      · rw [if_pos hm] at hc
        rw [ite_t (decide_eq_true hm), chk_pos ⟨by omega, by omega⟩, Int.toNat_natCast, hc, ite_f (by simp), ite_f (decide_eq_false (by omega))]
      · rw [if_neg hm] at hc
        rw [ite_f (decide_eq_false hm), ite_t (decide_eq_true (by omega)), chk_pos ⟨by omega, by omega⟩, Int.toNat_natCast, hc]
        rfl
    · rw [ite_f rfl, chk_pos (by unfold I64; omega)]
  · intro k
    rw [F_laws_FnStates_L1, ite_f (decide_eq_false (by omega))]
theorem law_states {bs : List Int} (hy : okY bs) (hl : bs.length ≤ 9223372036854775807) : F_laws_FnStates bs = some true := by
  unfold F_laws_FnStates
  rw [chk_pos hl]
  by_cases hbig : ((bs.length : Nat) : Int) > 65536
  · rw [ite_t (decide_eq_true hbig)]
  rw [ite_f (decide_eq_false hbig)]
  obtain ⟨n, m, qa, d1, l1, n0, n13⟩ := drawAll_ok hy
  obtain ⟨n2, m2, d2⟩ := drawStart_ok hy
  obtain ⟨xs, m3, q, y, d3, ⟨_, _, l3, _⟩, _, _⟩ := drawAnswer_ok hy
  obtain ⟨ys, m4, d4, l4⟩ := drawText_ok hy
  obtain ⟨s, d5⟩ := drawParse_ok hy
  obtain ⟨n6, qb, k6, d6, l6⟩ := drawFalse_ok hy
  obtain ⟨n7, qc, d7, l7⟩ := drawFewest_ok hy
  have anl : (anL n m qa).length ≤ 1000 := by
    unfold anL
    cases aaB n m qa
    · exact Nat.zero_le _
    · rw [ite_t rfl, allP_len]; omega
  have asl := asL_len xs m3 q y
  have psl := psL_len s
  rw [bnd3_eq d1, bnd3_eq (iAnswerAll_eq n m qa (by omega)), bnd3_eq (sAnswerAll_eq n m qa (by omega))]
  refine jn_is (fun J => J false) (fun J => by rw [beq_self_eq_true, Bool.not_true, ite_f rfl, bnd1_eq (rState_same _ _ anl)]; rfl) ?_
  rw [ite_f rfl, bnd2_eq d2, bnd1_eq (rState_same _ _ (by have := ss_len (a := n2) (b := m2); omega)), Bool.not_true, ite_f rfl, bnd4_eq d3, chk_pos (by omega), bnd3_eq (sAnswerState_eq xs m3 q y (by omega))]
  refine jn_is (fun J => J false) (fun J => by rw [beq_self_eq_true, Bool.not_true, ite_f rfl, bnd1_eq (rState_same _ _ (by omega))]; rfl) ?_
  rw [ite_f rfl, bnd2_eq (iCanAnswer_eq xs m3 q y (by omega)), bnd2_eq (sCanAnswer_eq xs m3 q y (by omega))]
  refine jn_is (fun J => J false) (fun J => by rw [beq_self_eq_true, Bool.not_true, ite_f rfl, beq_self_eq_true, Bool.not_true, ite_f rfl]) ?_
  rw [ite_f rfl, bnd2_eq d4, bnd2_eq (iStateText_eq ys m4 (by omega)), bnd2_eq (sStateText_eq ys m4 (by omega))]
  refine jn_is (fun J => J false) (fun J => by rw [str_same, Bool.not_true, ite_f rfl, beq_self_eq_true, Bool.not_true, ite_f rfl, chk_pos (by omega)]) ?_
  rw [ite_f rfl, bnd1_eq d5, bnd3_eq (iParse_eq s), bnd3_eq (sParse_eq s)]
  have pl : (bif psB s then psL s else []).length ≤ 1000 := by
    rcases Bool.eq_false_or_eq_true (psB s) with h | h
    · have := ps_facts h; rw [h, ite_t rfl]; omega
    · rw [h]; exact Nat.zero_le _
  refine jn_is (fun J => J false) (fun J => by rw [beq_self_eq_true, Bool.not_true, ite_f rfl, bnd1_eq (rState_same _ _ pl)]; rfl) ?_
  rw [ite_f rfl, bnd3_eq d6, bnd2_eq (iFalseForX_eq n6 qb k6 (by omega)), bnd2_eq (sFalseForX_eq n6 qb k6 (by omega))]
  refine jn_is (fun J => J false) (fun J => by rw [ite_f (by simp), beq_self_eq_true]; rfl) ?_
  rw [ite_f rfl, bnd2_eq d7, bnd3_eq (iFewest_eq n7 qc (by omega)), bnd3_eq (sFewest_eq n7 qc (by omega))]
  have fl1 : (fnP n7 qc).2.length ≤ 1000 := by
    unfold fnP
    rcases Bool.eq_false_or_eq_true (fnB n7 qc) with h | h
    · have := fnB_in h
      rw [h, ite_t rfl]
      have := fwP_len (fun k : Nat => ((flC qc (k : Int) qc.length : Nat) : Int)) n7.toNat
      omega
    · rw [h]; exact Nat.zero_le _
  refine jn_is (fun J => J false) (fun J => ?_) ?_
  · rw [ite_f (by simp), beq_self_eq_true, Bool.not_true, ite_f rfl, bnd1_eq (rInts_eq _ _ (by omega)), beq_self_eq_true, Bool.not_true, ite_f rfl]
    rcases Bool.eq_false_or_eq_true (fnB n7 qc) with h | h
    · have hn := fnB_in h
      have := fwP_some (f := fun k : Nat => ((flC qc (k : Int) qc.length : Nat) : Int)) (fun i => by have := flC_le qc (i : Int) qc.length; omega) n7.toNat (by omega)
      rw [h, ite_t rfl]
      congr 1
      unfold fnP
      rw [h, ite_t rfl, beq_eq_false_iff_ne]
      omega
    · rw [h, ite_f rfl]
  rw [ite_f rfl]
  -- the laws themselves
  refine jn_is (fun J => J ()) (fun J => ?_) ?_
  · rcases Bool.eq_false_or_eq_true (isStateN ys m4) with h | h
    · obtain ⟨p1, p2, p3⟩ := ps_tx h
      rw [h, ite_t rfl, ite_t rfl, bnd3_eq (iParse_eq _), p1, p2, p3, ite_t rfl, ite_t rfl]
      refine jn_is (fun J => J false) (fun J => by rw [Bool.not_true, ite_f rfl, bnd1_eq (rState_same _ _ (by omega))]; rfl) ?_
      rfl
    · rw [h, ite_f rfl]
  refine jn_is (fun J => J ()) (fun J => ?_) ?_
  · rcases Bool.eq_false_or_eq_true (psB s) with h | h
    · obtain ⟨p1, p2, p3, p4⟩ := ps_facts h
      rw [h, ite_t rfl, ite_t rfl, ite_t rfl, bnd2_eq (iStateText_eq _ _ (by omega)), p3, ite_t rfl, ← p4]
      refine jn_is (fun J => J false) (fun J => by rw [Bool.not_true, ite_f rfl, str_same]; rfl) ?_
      rfl
    · rw [h, ite_f rfl]
  refine jn_is (fun J => J ()) (fun J => ?_) ?_
  · rcases Bool.eq_false_or_eq_true (asB xs m3 q) with h | h
    · obtain ⟨o1, o2, o3⟩ := asQ_other (y := y) h
      have ⟨h1, h2⟩ := Bool.and_eq_true_iff.1 h
      have hst : isStateN (asL xs m3 q y) (asM xs m3 q y) = true := by
        have hlen := (isStateN_iff.1 h1).1.1
        unfold asL asM
        rw [if_pos h, if_pos h]
        exact isState_ok (okS_ans (okS_of h1)) (by rw [ansN_len]; exact hlen)
      rw [h, ite_t rfl, bnd2_eq (iOpenNumbers_eq _ _ (by omega)), hst]
      refine jn_is (fun J => J false) (fun J => ?_) rfl
      rw [h2, Bool.not_true, ite_f rfl, o1, Bool.not_true, ite_f rfl, ite_f rfl, o2, o3, bnd1_eq (rState_same _ _ (by omega)), Bool.not_true, ite_f rfl]
      have : (caB xs m3 q y == decide (((List.length (opV (asL xs m3 q y) (asM xs m3 q y)) : Nat) : Int) > 0)) = true := by
        unfold caB opV
        rw [hst, ite_t rfl, beq_self_eq_true]
      rw [this]; rfl
    · rw [h, ite_f rfl]
  rcases Bool.eq_false_or_eq_true (aaB n m qa) with h | h
  · rw [h, Bool.not_true, ite_f rfl]
    refine jn_is (fun J => J ()) (fun J => states_loop h (by omega) (J ())) rfl
  · rw [h, Bool.not_false, ite_t rfl]
end Go.Tl
