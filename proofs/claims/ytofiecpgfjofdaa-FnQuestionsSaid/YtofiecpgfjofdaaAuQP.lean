/-
  Plain laws of the printed functions: no program here.
-/
import Derived.Test.YtofiecpgfjofdaaAuQF
namespace Go.Tl
set_option linter.unusedVariables false
set_option linter.unusedSimpArgs false
/-- A loop, told by what its rounds keep. -/
theorem loop_m {σ R : Type} (L : Nat → σ → Option R) (I : σ → Prop) (μ : σ → Nat) (Q : Option R → Prop)
    (step : ∀ n s, I s → (∃ s', I s' ∧ μ s' < μ s ∧ L (n + 1) s = L n s') ∨ Q (L (n + 1) s)) : ∀ n s, I s → μ s < n → Q (L n s) := by
  intro n
  induction n with
  | zero => intro s _ h; omega
  | succ n ih =>
    intro s hI hm
    rcases step n s hI with ⟨s', h1, h2, h3⟩ | h
    · rw [h3]; exact ih s' h1 (by omega)
    · exact h
/-- A loop that counts up to N; st is its state by the count. -/
theorem loop_up {σ R : Type} (L : Nat → Int → σ → Option R) (N : Int) (st : Int → σ) (r : Option R)
    (step : ∀ n i, 0 ≤ i → i < N → L (n + 1) i (st i) = L n (i + 1) (st (i + 1))) (fin : ∀ n, L (n + 1) N (st N) = r) (h0 : 0 ≤ N) (n : Nat) (hn : N.toNat < n) : L n 0 (st 0) = r := by
  have key : ∀ (k : Nat) (n : Nat) (i : Int), 0 ≤ i → i + k = N → k < n → L n i (st i) = r := by
    intro k
    induction k with
    | zero => intro n i h1 h2 h3; obtain ⟨n, rfl⟩ : ∃ m, n = m + 1 := ⟨n - 1, by omega⟩; have e : i = N := by omega
              subst e; exact fin n
    | succ k ih =>
      intro n i h1 h2 h3
      obtain ⟨n, rfl⟩ : ∃ m, n = m + 1 := ⟨n - 1, by omega⟩
      rw [step n i h1 (by omega)]
      exact ih n (i + 1) (by omega) (by omega) (by omega)
  exact key N.toNat n 0 (Int.le_refl _) (by omega) hn
/-- A loop that counts up to N and may end early: with what p tells. -/
theorem loop_all {R : Type} (L : Nat → Int → Option R) (N : Int) (p : Int → Bool) (no yes : Option R)
    (step : ∀ n i, 0 ≤ i → i < N → p i = true → L (n + 1) i = L n (i + 1)) (stop : ∀ n i, 0 ≤ i → i < N → p i = false → L (n + 1) i = no) (fin : ∀ n, L (n + 1) N = yes) (h0 : 0 ≤ N) (n : Nat) (hn : N.toNat < n) :
    (L n 0 = yes ∧ ∀ i, 0 ≤ i → i < N → p i = true) ∨ (L n 0 = no ∧ ∃ i, 0 ≤ i ∧ i < N ∧ p i = false ∧ ∀ j, 0 ≤ j → j < i → p j = true) := by
  have key : ∀ (k : Nat) (n : Nat) (i : Int), 0 ≤ i → i + k = N → k < n → (∀ j, 0 ≤ j → j < i → p j = true) → (L n i = yes ∧ ∀ i, 0 ≤ i → i < N → p i = true) ∨ (L n i = no ∧ ∃ i, 0 ≤ i ∧ i < N ∧ p i = false ∧ ∀ j, 0 ≤ j → j < i → p j = true) := by
    intro k
    induction k with
    | zero => intro n i h1 h2 h3 h4; obtain ⟨n, rfl⟩ : ∃ m, n = m + 1 := ⟨n - 1, by omega⟩; have e : i = N := by omega
              subst e; exact .inl ⟨fin n, h4⟩
    | succ k ih =>
      intro n i h1 h2 h3 h4
      obtain ⟨n, rfl⟩ : ∃ m, n = m + 1 := ⟨n - 1, by omega⟩
      cases hp : p i with
      | false => exact .inr ⟨stop n i h1 (by omega) hp, i, h1, by omega, hp, h4⟩
      | true =>
        rw [step n i h1 (by omega) hp]
        refine ih n (i + 1) (by omega) (by omega) (by omega) fun j k1 k2 => ?_
        by_cases e : j = i
        · rw [e]; exact hp
        · exact h4 j k1 (by omega)
  exact key N.toNat n 0 (Int.le_refl _) (by omega) hn fun j h1 h2 => by omega
theorem ite_t {α : Type} {c : Bool} (h : c = true) (x y : α) : (if c = true then x else y) = x := by rw [if_pos h]
theorem ite_f {α : Type} {c : Bool} (h : c = false) (x y : α) : (if c = true then x else y) = y := by rw [h]; rfl
theorem getD_in {xs : List Int} {i : Nat} {P : Int → Prop} (h : i < xs.length) (hP : ∀ x ∈ xs, P x) : P (xs.getD i 0) := by
  rw [List.getD_eq_getElem?_getD, List.getElem?_eq_getElem h]; exact hP _ (List.getElem_mem h)
theorem next_ok {bs : List Int} {p s : Int} (hy : okY bs) (h0 : 0 ≤ p) (h1 : p ≤ 1000000000000) : ∃ v s', F_p_spec_l1Cur_next bs p s = some (v, bs, p + 1, s') ∧ 0 ≤ v ∧ v ≤ 255 := by
  unfold F_p_spec_l1Cur_next
  have hb := hy p.toNat
  have fin : ∀ v3 : Int, 0 ≤ v3 → v3 ≤ 255 → ∃ v s', (chk (I64 (p + (1 : Int))) <| nam (IntKind.wrap .u64 (s * (6364136223846793005 : Int))) fun n37 => nam (IntKind.wrap .u64 (n37 + (IntKind.wrap .u64 v3))) fun n40 => (if (decide ((p + (1 : Int)) ≤ ((List.length bs : Nat) : Int))) = true then some (v3, bs, (p + (1 : Int)), (IntKind.wrap .u64 (n40 + (462197 : Int)))) else nam (bits .and .u64 ((IntKind.wrap .u64 (n40 + (462197 : Int))) / 2 ^ Int.toNat (40 : Int)) (255 : Int)) fun n60 => chk (I64 n60) <| some (n60, bs, (p + (1 : Int)), (IntKind.wrap .u64 (n40 + (462197 : Int)))))) = some (v, bs, p + 1, s') ∧ 0 ≤ v ∧ v ≤ 255 := by
    intro v3 k0 k1
    rw [chk_pos (by unfold I64; omega)]
    simp only [nam]
    split
    · exact ⟨_, _, rfl, k0, k1⟩
    · have h2 := and255 ((IntKind.wrap .u64 ((IntKind.wrap .u64 ((IntKind.wrap .u64 (s * (6364136223846793005 : Int))) + (IntKind.wrap .u64 v3))) + (462197 : Int))) / 2 ^ Int.toNat (40 : Int))
      rw [chk_pos (by unfold I64; omega)]
      exact ⟨_, _, rfl, h2.1, h2.2⟩
  simp only [jn]
  split
  · rename_i h
    have h := of_decide_eq_true h
    rw [chk_pos (by omega), chk_pos (by unfold I64; omega)]
    exact fin _ hb.1 hb.2
  · exact fin 0 (by omega) (by omega)
theorem tmod_in {a n : Int} (h0 : 0 ≤ a) (h1 : 0 < n) : 0 ≤ Int.tmod a n ∧ Int.tmod a n < n := ⟨Int.tmod_nonneg _ h0, Int.tmod_lt_of_pos _ h1⟩
theorem pick_ok {bs : List Int} {p s n : Int} (hy : okY bs) (h0 : 0 ≤ p) (h1 : p ≤ 900000000000) : ∃ v p' s', F_p_spec_l1Cur_pick bs p s n = some (v, bs, p', s') ∧ p ≤ p' ∧ p' ≤ p + 2 ∧ 0 ≤ v ∧ (1 ≤ n → v < n) := by
  unfold F_p_spec_l1Cur_pick
  split
  · rename_i h
    exact ⟨0, p, s, rfl, by omega, by omega, by omega, fun _ => by omega⟩
  · rename_i h
    have h : ¬ n ≤ 1 := fun hh => h (decide_eq_true hh)
    obtain ⟨v, s', e, g0, g1⟩ := next_ok (s := s) hy h0 (by omega)
    rw [bnd4_eq e]
    simp only [jn]
    split
    · obtain ⟨v2, s2, e2, k0, k1⟩ := next_ok (s := s') hy (p := p + 1) (by omega) (by omega)
      rw [chk_pos (by unfold I64; omega), bnd4_eq e2, chk_pos (by unfold I64; omega), chk_pos (by omega)]
      have := tmod_in (a := v * 256 + v2) (n := n) (by omega) (by omega)
      exact ⟨_, _, _, rfl, by omega, by omega, this.1, fun _ => this.2⟩
    · rw [chk_pos (by omega)]
      have := tmod_in (a := v) (n := n) (by omega) (by omega)
      exact ⟨_, _, _, rfl, by omega, by omega, this.1, fun _ => this.2⟩
theorem one_ok {bs : List Int} {p s n : Int} (hy : okY bs) (h0 : 0 ≤ p) (h1 : p ≤ 900000000000) : ∃ b p' s', F_p_spec_l1Cur_one bs p s n = some (b, bs, p', s') ∧ p ≤ p' ∧ p' ≤ p + 2 := by
  unfold F_p_spec_l1Cur_one
  obtain ⟨v, p', s', e, g0, g1, g2, g3⟩ := pick_ok (s := s) (n := n) hy h0 h1
  rw [bnd4_eq e]
  exact ⟨_, _, _, rfl, g0, g1⟩
theorem among_ok {bs : List Int} {p s : Int} {xs : List Int} (hy : okY bs) (h0 : 0 ≤ p) (h1 : p ≤ 900000000000) (hx : 0 < xs.length) : ∃ v p' s', F_p_spec_l1Cur_among bs p s xs = some (v, bs, p', s') ∧ p ≤ p' ∧ p' ≤ p + 2 ∧ v ∈ xs := by
  unfold F_p_spec_l1Cur_among
  obtain ⟨v, p', s', e, g0, g1, g2, g3⟩ := pick_ok (s := s) (n := ((List.length xs : Nat) : Int)) hy h0 h1
  rw [bnd4_eq e, chk_pos ⟨g2, g3 (by omega)⟩]
  refine ⟨_, _, _, rfl, g0, g1, ?_⟩
  have := g3 (by omega)
  exact getD_in (P := fun x => x ∈ xs) (by omega) fun x hx => hx
theorem many_ok {bs : List Int} {p s : Int} (hy : okY bs) (h0 : 0 ≤ p) (h1 : p ≤ 900000000000) : ∃ v p' s', F_p_spec_l1Cur_many bs p s = some (v, bs, p', s') ∧ p ≤ p' ∧ p' ≤ p + 2 ∧ 0 ≤ v ∧ v ≤ 13 := by
  unfold F_p_spec_l1Cur_many
  obtain ⟨v, p', s', e, g0, g1, g2⟩ := among_ok (s := s) (xs := [(4 : Int), (6 : Int), (8 : Int), (3 : Int), (5 : Int), (2 : Int), (7 : Int), (12 : Int), (1 : Int), (0 : Int), (13 : Int), (4 : Int), (6 : Int), (8 : Int), (3 : Int), (5 : Int)]) hy h0 h1 (by decide)
  rw [bnd4_eq e]
  refine ⟨_, _, _, rfl, g0, g1, ?_⟩
  simp only [List.mem_cons, List.not_mem_nil, or_false] at g2
  omega
theorem lies_ok {bs : List Int} {p s : Int} (hy : okY bs) (h0 : 0 ≤ p) (h1 : p ≤ 900000000000) : ∃ v p' s', F_p_spec_l1Cur_lies bs p s = some (v, bs, p', s') ∧ p ≤ p' ∧ p' ≤ p + 2 ∧ -1 ≤ v ∧ v ≤ 3 := by
  unfold F_p_spec_l1Cur_lies
  obtain ⟨v, p', s', e, g0, g1, g2⟩ := among_ok (s := s) (xs := [(1 : Int), (1 : Int), (2 : Int), (0 : Int), (1 : Int), (2 : Int), (1 : Int), (3 : Int), (-1 : Int), (1 : Int), (2 : Int), (0 : Int)]) hy h0 h1 (by decide)
  rw [bnd4_eq e]
  refine ⟨_, _, _, rfl, g0, g1, ?_⟩
  simp only [List.mem_cons, List.not_mem_nil, or_false] at g2
  omega
theorem maxN_in {a b : Int} : a ≤ maxN a b ∧ b ≤ maxN a b ∧ (maxN a b = a ∨ maxN a b = b) := by unfold maxN; split <;> omega
theorem minN_in {a b : Int} : minN a b ≤ a ∧ minN a b ≤ b ∧ (minN a b = a ∨ minN a b = b) := by unfold minN; split <;> omega
theorem pow13 {n : Int} (h0 : 0 ≤ n) (h1 : n ≤ 13) : 1 ≤ (2 : Int) ^ n.toNat ∧ (2 : Int) ^ n.toNat ≤ 8192 := by
  obtain ⟨k, rfl⟩ : ∃ k : Nat, n = k := ⟨n.toNat, by omega⟩
  have : k ≤ 13 := by omega
  simp only [Int.toNat_natCast]
  match k, this with
  | 0, _ | 1, _ | 2, _ | 3, _ | 4, _ | 5, _ | 6, _ | 7, _ | 8, _ | 9, _ | 10, _ | 11, _ | 12, _ | 13, _ => decide
theorem question_ok {bs : List Int} {p s n : Int} (hy : okY bs) (h0 : 0 ≤ p) (h1 : p ≤ 800000000000) : ∃ v p' s', F_p_spec_l1Cur_question bs p s n = some (v, bs, p', s') ∧ p ≤ p' ∧ p' ≤ p + 4 ∧ -1 ≤ v ∧ v ≤ 4611686018427387904 := by
  unfold F_p_spec_l1Cur_question
  obtain ⟨v, p', s', e, g0, g1⟩ := one_ok (s := s) (n := 24) hy h0 (by omega)
  rw [bnd4_eq e]
  have a1 := minN_in (a := n) (b := 13)
  have a2 := maxN_in (a := 0) (b := minN n 13)
  have a3 := minN_in (a := n) (b := 12)
  have a4 := maxN_in (a := 0) (b := minN n 12)
  have b1 := pow13 (n := maxN 0 (minN n 13)) (by omega) (by omega)
  have b2 := pow13 (n := maxN 0 (minN n 12)) (by omega) (by omega)
  split
  · rw [chk_pos ⟨by omega, by omega, by unfold I64; omega⟩]
    obtain ⟨v2, p2, s2, e2, k0, k1, k2⟩ := among_ok (s := s') (xs := [(-1 : Int), ((1 : Int) * 2 ^ Int.toNat (maxN (0 : Int) (minN n (13 : Int)))), (4611686018427387904 : Int)]) hy (p := p') (by omega) (by omega) (by simp)
    rw [bnd4_eq e2]
    refine ⟨_, _, _, rfl, by omega, by omega, ?_⟩
    simp only [List.mem_cons, List.not_mem_nil, or_false] at k2
    omega
  · rw [chk_pos ⟨by omega, by omega, by unfold I64; omega⟩]
    obtain ⟨v2, p2, s2, e2, k0, k1, k2, k3⟩ := pick_ok (s := s') (n := (1 : Int) * 2 ^ Int.toNat (maxN (0 : Int) (minN n (12 : Int)))) hy (p := p') (by omega) (by omega)
    rw [bnd4_eq e2]
    have := k3 (by omega)
    exact ⟨_, _, _, rfl, by omega, by omega, by omega, by omega⟩
theorem state_ok {bs : List Int} {p s : Int} (hy : okY bs) (h0 : 0 ≤ p) (h1 : p ≤ 700000000000) : ∃ xs m p' s', F_p_spec_l1Cur_state bs p s = some (xs, m, bs, p', s') ∧ p ≤ p' ∧ p' ≤ p + 100 ∧ -1 ≤ m ∧ m ≤ 3 ∧ xs.length ≤ 13 ∧ (∀ x ∈ xs, -1 ≤ x ∧ x ≤ 4) := by
  unfold F_p_spec_l1Cur_state
  obtain ⟨m, p1, s1, e1, g0, g1, g2, g3⟩ := lies_ok (s := s) hy h0 (by omega)
  obtain ⟨k, p2, s2, e2, k0, k1, k2, k3⟩ := many_ok (s := s1) hy (p := p1) (by omega) (by omega)
  rw [bnd4_eq e1, bnd4_eq e2]
  simp only [jn]
  let Q : Option (List Int × Int × List Int × Int × Int) → Prop := fun o => ∃ xs m p' s', o = some (xs, m, bs, p', s') ∧ p ≤ p' ∧ p' ≤ p + 100 ∧ -1 ≤ m ∧ m ≤ 3 ∧ xs.length ≤ 13 ∧ (∀ x ∈ xs, -1 ≤ x ∧ x ≤ 4)
  have fin2 : ∀ (xs : List Int) (pp ss : Int), p ≤ pp → pp ≤ p + 56 → xs.length = k.toNat → (∀ x ∈ xs, -1 ≤ x ∧ x ≤ 4) → Q (F_p_spec_l1Cur_state_L2 m k (fun o500d o500e o500g o12b => some (o12b, m, o500d, o500e, o500g)) fuel bs pp ss xs 0) := by
    intro xs pp ss hp1 hp2 hl hx
    refine loop_m (fun n (z : Int × Int × List Int × Int) => F_p_spec_l1Cur_state_L2 m k (fun o500d o500e o500g o12b => some (o12b, m, o500d, o500e, o500g)) n bs z.1 z.2.1 z.2.2.1 z.2.2.2) (fun z => 0 ≤ z.2.2.2 ∧ z.2.2.2 ≤ k ∧ p ≤ z.1 ∧ z.1 ≤ p + 56 + 2 * z.2.2.2 ∧ z.2.2.1.length = k.toNat ∧ ∀ x ∈ z.2.2.1, -1 ≤ x ∧ x ≤ 4) (fun z => (k - z.2.2.2).toNat) Q ?_ fuel (pp, ss, xs, 0) ⟨by simp only; omega, by simp only; omega, hp1, by simp only; omega, hl, hx⟩ (by have := fuel_ge; simp only; omega)
    rintro n ⟨pp, ss, xs, i⟩ ⟨i0, i1, q0, q1, ql, qx⟩
    simp only at i0 i1 q0 q1 ql qx ⊢
    rw [F_p_spec_l1Cur_state_L2]
    by_cases hi : i < k
    · rw [ite_t (decide_eq_true hi)]
      simp only [jn]
      rw [chk_pos (by omega)]
      have stay : ∀ pp', p ≤ pp' → pp' ≤ p + 56 + 2 * (i + 1) → ∀ ss' (b : Bool), (∃ s' : Int × Int × List Int × Int, (0 ≤ s'.2.2.2 ∧ s'.2.2.2 ≤ k ∧ p ≤ s'.1 ∧ s'.1 ≤ p + 56 + 2 * s'.2.2.2 ∧ s'.2.2.1.length = k.toNat ∧ ∀ x ∈ s'.2.2.1, -1 ≤ x ∧ x ≤ 4) ∧ (k - s'.2.2.2).toNat < (k - i).toNat ∧
          (if b = true then chk (0 ≤ i ∧ i < ((List.length xs : Nat) : Int)) <| chk (I64 (i + (1 : Int))) <| F_p_spec_l1Cur_state_L2 m k (fun o500d o500e o500g o12b => some (o12b, m, o500d, o500e, o500g)) n bs pp' ss' (List.set xs (Int.toNat i) (-1 : Int)) (i + (1 : Int)) else chk (I64 (i + (1 : Int))) <| F_p_spec_l1Cur_state_L2 m k (fun o500d o500e o500g o12b => some (o12b, m, o500d, o500e, o500g)) n bs pp' ss' xs (i + (1 : Int))) = F_p_spec_l1Cur_state_L2 m k (fun o500d o500e o500g o12b => some (o12b, m, o500d, o500e, o500g)) n bs s'.1 s'.2.1 s'.2.2.1 s'.2.2.2) := by
        intro pp' r0 r1 ss' b
        cases b
        · rw [ite_f rfl, chk_pos (by unfold I64; omega)]
          exact ⟨(pp', ss', xs, i + 1), ⟨by simp only; omega, by simp only; omega, r0, r1, ql, qx⟩, by simp only; omega, rfl⟩
        · rw [ite_t rfl, chk_pos (by omega), chk_pos (by unfold I64; omega)]
          refine ⟨(pp', ss', List.set xs (Int.toNat i) (-1), i + 1), ⟨by simp only; omega, by simp only; omega, r0, r1, by simp only [List.length_set]; exact ql, fun x hx => ?_⟩, by simp only; omega, rfl⟩
          rcases List.mem_or_eq_of_mem_set hx with h | h
          · exact qx x h
          · subst h; omega
      split
      · obtain ⟨b, p4, s4, e4, w0, w1⟩ := one_ok (s := ss) (n := 30) hy (p := pp) (by omega) (by omega)
        rw [bnd4_eq e4]
        exact .inl (stay p4 (by omega) (by omega) s4 (!b))
      · exact .inl (stay pp (by omega) (by omega) ss false)
    · rw [ite_f (decide_eq_false hi)]
      exact .inr ⟨_, _, _, _, rfl, by omega, by omega, g2, g3, by omega, qx⟩
  refine loop_m (fun n (z : Int × Int × List Int × Int) => F_p_spec_l1Cur_state_L1 m k (fun o500 o500b o500c o12 => F_p_spec_l1Cur_state_L2 m k (fun o500d o500e o500g o12b => some (o12b, m, o500d, o500e, o500g)) fuel o500 o500b o500c o12 0) n bs z.1 z.2.1 z.2.2.1 z.2.2.2) (fun z => 0 ≤ z.2.2.2 ∧ z.2.2.2 ≤ k ∧ p ≤ z.1 ∧ z.1 ≤ p + 4 + 4 * z.2.2.2 ∧ z.2.2.1.length = z.2.2.2.toNat ∧ ∀ x ∈ z.2.2.1, -1 ≤ x ∧ x ≤ 4) (fun z => (k - z.2.2.2).toNat) Q ?_ fuel (p2, s2, [], 0) ⟨by simp, by simp only; omega, by simp only; omega, by simp only; omega, rfl, fun x hx => by simp at hx⟩ (by have := fuel_ge; simp only; omega)
  rintro n ⟨pp, ss, xs, i⟩ ⟨i0, i1, q0, q1, ql, qx⟩
  simp only at i0 i1 q0 q1 ql qx ⊢
  rw [F_p_spec_l1Cur_state_L1]
  by_cases hi : i < k
  · rw [ite_t (decide_eq_true hi), chk_pos (by unfold I64; omega)]
    have a2 := maxN_in (a := 1) (b := m + 2)
    obtain ⟨v, p4, s4, e4, w0, w1, w2, w3⟩ := pick_ok (s := ss) (n := maxN 1 (m + 2)) hy (p := pp) (by omega) (by omega)
    obtain ⟨v5, p5, s5, e5, y0, y1, y2, y3⟩ := pick_ok (s := s4) (n := 6) hy (p := p4) (by omega) (by omega)
    have hd := d5_in y2 (y3 (by omega))
    unfold d5 at hd
    have hv := w3 (by omega)
    rw [bnd4_eq e4, bnd4_eq e5, chk_pos (by unfold I64; omega), chk_pos (by unfold I64; omega), chk_pos ⟨by omega, by simp only [maxLen]; omega⟩, chk_pos (by unfold I64; omega)]
    refine .inl ⟨(p5, s5, xs ++ [v - Int.tdiv v5 5], i + 1), ⟨by simp only; omega, by simp only; omega, by simp only; omega, by simp only; omega, by simp only [List.length_append, List.length_cons, List.length_nil]; omega, fun x hx => ?_⟩, by simp only; omega, rfl⟩
    rcases List.mem_append.1 hx with h | h
    · exact qx x h
    · simp only [List.mem_cons, List.not_mem_nil, or_false] at h
      omega
  · rw [ite_f (decide_eq_false hi)]
    exact .inr (fin2 xs pp ss q0 (by omega) (by omega) qx)
theorem jn_is {γ δ : Type} {f : γ} {g : γ → Option δ} {r : Option δ} (k : γ → Option δ) (h : ∀ J, g J = k J) (h2 : k f = r) : jn f g = r := by
  unfold jn; rw [h f]; exact h2
/-- The numbers below k that p tells. -/
def fl (p : Nat → Bool) (k : Nat) : List Int := ((List.range k).filter p).map fun (i : Nat) => (i : Int)
theorem fl_yes {p : Nat → Bool} {k : Nat} (h : p k = true) : fl p (k + 1) = fl p k ++ [(k : Int)] := by
  unfold fl; rw [List.range_succ, List.filter_append, List.map_append, List.filter_cons, if_pos h]; rfl
theorem fl_no {p : Nat → Bool} {k : Nat} (h : p k = false) : fl p (k + 1) = fl p k := by
  unfold fl; rw [List.range_succ, List.filter_append, List.map_append, List.filter_cons, if_neg (by rw [h]; simp)]; simp
theorem fl_len (p : Nat → Bool) (k : Nat) : (fl p k).length ≤ k := by
  unfold fl; rw [List.length_map]; exact Nat.le_trans (List.length_filter_le _ _) (by simp)
theorem mem_fl {p : Nat → Bool} {k : Nat} {x : Int} : x ∈ fl p k ↔ ∃ i : Nat, i < k ∧ p i = true ∧ x = (i : Int) := by
  unfold fl
  simp only [List.mem_map, List.mem_filter, List.mem_range]
  constructor
  · rintro ⟨i, ⟨h1, h2⟩, rfl⟩; exact ⟨i, h1, h2, rfl⟩
  · rintro ⟨i, h1, h2, rfl⟩; exact ⟨i, ⟨h1, h2⟩, rfl⟩
theorem fl_getD {p : Nat → Bool} {k i : Nat} (h : i < (fl p k).length) : ∃ j : Nat, j < k ∧ p j = true ∧ (fl p k).getD i 0 = (j : Int) := by
  have : (fl p k).getD i 0 ∈ fl p k := getD_in (P := fun x => x ∈ fl p k) h fun x hx => hx
  obtain ⟨j, h1, h2, h3⟩ := mem_fl.1 this
  exact ⟨j, h1, h2, h3⟩
theorem openN_fl (xs : List Int) : openN xs = fl (fun i => decide (xs.getD i 0 ≥ 0)) xs.length := rfl
theorem int_nat {i : Int} (h : 0 ≤ i) : ∃ k : Nat, i = (k : Int) := ⟨i.toNat, by omega⟩
theorem bits_nat_or {a b : Nat} (ha : a < 9223372036854775808) (hb : b < 9223372036854775808) : bits .or .i64 (a : Int) (b : Int) = ((a ||| b : Nat) : Int) := by
  have hc : a ||| b < 2 ^ 63 := Nat.or_lt_two_pow (by omega) (by omega)
  unfold bits
  rw [IntKind.wrap_i64]
  show (((BitVec.ofInt 64 (a : Int) ||| BitVec.ofInt 64 (b : Int)).toNat : Int) + 9223372036854775808) % 18446744073709551616 - 9223372036854775808 = _
  rw [BitVec.toNat_or, BitVec.toNat_ofInt, BitVec.toNat_ofInt]
  have e1 : ((a : Int) % ((2 ^ 64 : Nat) : Int)).toNat = a := by omega
  have e2 : ((b : Int) % ((2 ^ 64 : Nat) : Int)).toNat = b := by omega
  rw [e1, e2]
  omega
theorem bits_nat_and {a b : Nat} (ha : a < 9223372036854775808) (hb : b < 9223372036854775808) : bits .and .i64 (a : Int) (b : Int) = ((a &&& b : Nat) : Int) := by
  have hc : a &&& b < 2 ^ 63 := Nat.and_lt_two_pow _ (by omega)
  unfold bits
  rw [IntKind.wrap_i64]
  show (((BitVec.ofInt 64 (a : Int) &&& BitVec.ofInt 64 (b : Int)).toNat : Int) + 9223372036854775808) % 18446744073709551616 - 9223372036854775808 = _
  rw [BitVec.toNat_and, BitVec.toNat_ofInt, BitVec.toNat_ofInt]
  have e1 : ((a : Int) % ((2 ^ 64 : Nat) : Int)).toNat = a := by omega
  have e2 : ((b : Int) % ((2 ^ 64 : Nat) : Int)).toNat = b := by omega
  rw [e1, e2]
  omega
theorem has_nat {q k : Nat} (hk : k ≤ 64) : hasB (q : Int) (k : Int) = q.testBit k := by
  unfold hasB
  rw [and1, Int.toNat_natCast, Nat.min_eq_left hk, Int.fdiv_eq_ediv_of_nonneg _ (Int.le_of_lt (Int.pow_pos (by decide))), Nat.testBit_eq_decide_div_mod_eq]
  have e : (q : Int) / 2 ^ k % 2 = ((q / 2 ^ k % 2 : Nat) : Int) := by norm_cast
  rw [e]
  have : q / 2 ^ k % 2 = 0 ∨ q / 2 ^ k % 2 = 1 := by omega
  rcases this with h | h <;> rw [h] <;> rfl
theorem has_raw {q k : Int} (h0 : 0 ≤ k) (h1 : k < 64) : (bits .and .i64 (q / 2 ^ Int.toNat k) (1 : Int) == (1 : Int)) = hasB q k := by
  unfold hasB
  rw [Nat.min_eq_left (by omega), Int.fdiv_eq_ediv_of_nonneg _ (Int.le_of_lt (Int.pow_pos (by decide)))]
theorem and1_has {q k : Int} (h0 : 0 ≤ k) (h1 : k < 64) : bits .and .i64 (q / 2 ^ Int.toNat k) (1 : Int) = if hasB q k = true then 1 else 0 := by
  rw [← has_raw h0 h1, and1]
  have : q / 2 ^ k.toNat % 2 = 0 ∨ q / 2 ^ k.toNat % 2 = 1 := by omega
  rcases this with h | h <;> rw [h] <;> rfl
theorem isQ_nat {n q : Int} (h : isQ n q = true) : ∃ n' q' : Nat, n = n' ∧ q = q' ∧ 1 ≤ n' ∧ n' ≤ 12 ∧ q' < 2 ^ n' := by
  obtain ⟨⟨h0, h1, h2⟩, h3, h4⟩ := isQ_in h
  obtain ⟨n', rfl⟩ := int_nat h0
  obtain ⟨q', rfl⟩ := int_nat h3
  refine ⟨n', q', rfl, rfl, by omega, by omega, ?_⟩
  simp only [Int.toNat_natCast] at h4
  have : ((2 ^ n' : Nat) : Int) = (2 : Int) ^ n' := by norm_cast
  omega
def numsP (q : Int) (k : Nat) : List Int := fl (fun i => hasB q (i : Int)) k
def numsN (n q : Int) : List Int := if isQ n q = true then numsP q n.toNat else []
theorem iNumbersOf_eq (n q : Int) : F_impl_NumbersOf n q = some (numsN n q, isQ n q) := by
  unfold F_impl_NumbersOf numsN
  cases h : isQ n q with
  | false => rfl
  | true =>
    obtain ⟨⟨h0, h1, h2⟩, h3, h4⟩ := isQ_in h
    rw [ite_f (by rfl), ite_t rfl]
    simp only [jn]
    have hl := fun k => fl_len (fun i => hasB q (i : Int)) k
    refine loop_up (fun m i (s : List Int) => F_impl_NumbersOf_L1 n q (fun o12 => some (o12, true)) m s i) n (fun i => numsP q i.toNat) _ ?_ ?_ h0 fuel (by have := fuel_ge; omega)
    · intro m i i0 i1
      obtain ⟨k, rfl⟩ := int_nat i0
      have hlk := hl k
      have e1 : ((k : Int) + 1).toNat = k + 1 := by omega
      simp only [Int.toNat_natCast, e1]
      rw [F_impl_NumbersOf_L1, ite_t (decide_eq_true i1), chk_pos i0]
      unfold numsP
      cases hb : hasB q (k : Int) with
      | true => rw [ite_t rfl, fl_yes hb, chk_pos ⟨by omega, by simp only [maxLen]; omega⟩, chk_pos (by unfold I64; omega)]
      | false => rw [ite_f rfl, fl_no hb, chk_pos (by unfold I64; omega)]
    · intro m
      rw [F_impl_NumbersOf_L1, ite_f (decide_eq_false (by omega))]
theorem sNumbersOf_eq (n q : Int) : F_spec_NumbersOf n q = some (numsN n q, isQ n q) := by
  unfold F_spec_NumbersOf numsN
  cases h : isQ n q with
  | false => rfl
  | true =>
    obtain ⟨⟨h0, h1, h2⟩, h3, h4⟩ := isQ_in h
    rw [ite_f (by rfl), ite_t rfl]
    have hl := fun k => fl_len (fun i => hasB q (i : Int)) k
    have e : F_spec_l2NumbersOf n q = some (numsP q n.toNat) := by
      unfold F_spec_l2NumbersOf
      simp only [jn]
      refine loop_up (fun m i (s : List Int) => F_spec_l2NumbersOf_L1 n q (fun o7 => some o7) m s i) n (fun i => numsP q i.toNat) _ ?_ ?_ h0 fuel (by have := fuel_ge; omega)
      · intro m i i0 i1
        obtain ⟨k, rfl⟩ := int_nat i0
        have hlk := hl k
        have e1 : ((k : Int) + 1).toNat = k + 1 := by omega
        simp only [e1]
        rw [F_spec_l2NumbersOf_L1, ite_t (decide_eq_true i1), chk_pos (by omega)]
        simp only [nam]
        rw [has_raw i0 (by omega)]
        simp only [Int.toNat_natCast]
        unfold numsP
        cases hb : hasB q (k : Int) with
        | true => rw [ite_t rfl, fl_yes hb, chk_pos ⟨by omega, by simp only [maxLen]; omega⟩, chk_pos (by unfold I64; omega)]
        | false => rw [ite_f rfl, fl_no hb, chk_pos (by unfold I64; omega)]
      · intro m
        rw [F_spec_l2NumbersOf_L1, ite_f (decide_eq_false (by omega))]
    rw [bnd1_eq e]
theorem numsN_len (n q : Int) : (numsN n q).length ≤ 12 := by
  unfold numsN; split
  · rename_i h
    obtain ⟨⟨h0, h1, h2⟩, h3, h4⟩ := isQ_in h
    exact Nat.le_trans (fl_len _ _) (by omega)
  · simp
theorem sOtherQuestion_eq (n q : Int) : F_spec_OtherQuestion n q = some (oqV n q, isQ n q) := by
  unfold F_spec_OtherQuestion oqV othN
  cases h : isQ n q with
  | false => rfl
  | true =>
    obtain ⟨⟨h0, h1, h2⟩, h3, h4⟩ := isQ_in h
    have hp := pow_bd h0 h2
    rw [ite_f (by rfl), ite_t rfl, chk_pos ⟨by omega, by omega, by unfold I64; omega⟩, chk_pos (by unfold I64; omega)]
    simp only [nam]
    rw [chk_pos (by unfold I64; omega), Int.one_mul]
theorem rInts_eq (xs ys : List Int) (hx : xs.length ≤ 1048576) : F_laws_rInts xs ys = some (xs == ys) := by
  unfold F_laws_rInts
  by_cases hl : xs.length = ys.length
  · rw [ite_f (by rw [hl]; simp)]
    simp only [jn]
    refine Or.elim (loop_all (fun m i => F_laws_rInts_L1 xs ys (fun _ => some true) m i) (xs.length : Int) (fun i => xs.getD i.toNat 0 == ys.getD i.toNat 0) (some false) (some true) ?_ ?_ ?_ (by omega) fuel (by have := fuel_ge; omega)) ?_ ?_
    · intro m i i0 i1 hp
      rw [F_laws_rInts_L1, ite_t (decide_eq_true i1), chk_pos ⟨i0, i1⟩, chk_pos ⟨i0, by omega⟩, ite_f (by simpa [bne] using hp), chk_pos (by unfold I64; omega)]
    · intro m i i0 i1 hp
      rw [F_laws_rInts_L1, ite_t (decide_eq_true i1), chk_pos ⟨i0, i1⟩, chk_pos ⟨i0, by omega⟩, ite_t (by simpa [bne] using hp)]
    · intro m
      rw [F_laws_rInts_L1, ite_f (decide_eq_false (by omega))]
    · rintro ⟨e, h⟩
      rw [e]
      have : xs = ys := by
        refine List.ext_getElem hl fun i h1 h2 => ?_
        have := h (i : Int) (by omega) (by omega)
        simp only [Int.toNat_natCast, beq_iff_eq] at this
        simpa [List.getD_eq_getElem?_getD, h1, h2] using this
      rw [this]; simp
    · rintro ⟨e, i, i0, i1, i2, _⟩
      rw [e]
      have : (xs == ys) = false := by
        rw [beq_eq_false_iff_ne]
        intro hh
        subst hh
        simp at i2
      rw [this]
  · rw [ite_t (by simp; omega)]
    have : (xs == ys) = false := by
      rw [beq_eq_false_iff_ne]; intro hh; exact hl (by rw [hh])
    rw [this]
theorem rHas_eq (xs : List Int) (x : Int) (hx : xs.length ≤ 1048576) : F_laws_rHas xs x = some (decide (x ∈ xs)) := by
  unfold F_laws_rHas
  simp only [jn]
  refine Or.elim (loop_all (fun m i => F_laws_rHas_L1 xs x (fun _ => some false) m i) (xs.length : Int) (fun i => !(xs.getD i.toNat 0 == x)) (some true) (some false) ?_ ?_ ?_ (by omega) fuel (by have := fuel_ge; omega)) ?_ ?_
  · intro m i i0 i1 hp
    rw [F_laws_rHas_L1, ite_t (decide_eq_true i1), chk_pos ⟨i0, i1⟩, ite_f (by simpa using hp), chk_pos (by unfold I64; omega)]
  · intro m i i0 i1 hp
    rw [F_laws_rHas_L1, ite_t (decide_eq_true i1), chk_pos ⟨i0, i1⟩, ite_t (by simpa using hp)]
  · intro m
    rw [F_laws_rHas_L1, ite_f (decide_eq_false (by omega))]
  · rintro ⟨e, h⟩
    rw [e, decide_eq_false]
    intro hm
    obtain ⟨i, hi, he⟩ := List.mem_iff_getElem.1 hm
    have := h (i : Int) (by omega) (by omega)
    simp [List.getD_eq_getElem?_getD, hi, he] at this
  · rintro ⟨e, i, i0, i1, i2, _⟩
    rw [e, decide_eq_true]
    simp only [Bool.not_eq_false', beq_iff_eq] at i2
    rw [← i2]
    exact getD_in (P := fun z => z ∈ xs) (by omega) fun z hz => hz
def qN (xs : List Int) : Nat → Nat
  | 0 => 0
  | i + 1 => qN xs i ||| 2 ^ (xs.getD i 0).toNat
def qofB (n : Int) (xs : List Int) : Bool := decide (1 ≤ n) && decide (n ≤ 12) && decide (xs.length ≤ 24) && xs.all (numB n)
def qofV (n : Int) (xs : List Int) : Int := if qofB n xs = true then (qN xs xs.length : Int) else 0
theorem qN_lt {n : Nat} {xs : List Int} (h : ∀ x ∈ xs, 0 ≤ x ∧ x < (n : Int)) : ∀ i, i ≤ xs.length → qN xs i < 2 ^ n
  | 0, _ => Nat.two_pow_pos n
  | i + 1, hi => by
    unfold qN
    have := getD_in (P := fun x => 0 ≤ x ∧ x < (n : Int)) (i := i) (by omega) h
    exact Nat.or_lt_two_pow (qN_lt h i (by omega)) (Nat.pow_lt_pow_right (by decide) (by omega))
theorem qN_bit (xs : List Int) (j : Nat) : ∀ i, i ≤ xs.length → ((qN xs i).testBit j = true ↔ ∃ k, k < i ∧ (xs.getD k 0).toNat = j)
  | 0, _ => by simp [qN]
  | i + 1, hi => by
    unfold qN
    rw [Nat.testBit_or, Bool.or_eq_true, qN_bit xs j i (by omega), Nat.testBit_two_pow, decide_eq_true_eq]
    constructor
    · rintro (⟨k, h1, h2⟩ | h)
      · exact ⟨k, by omega, h2⟩
      · exact ⟨i, by omega, h⟩
    · rintro ⟨k, h1, h2⟩
      by_cases e : k = i
      · subst e; exact .inr h2
      · exact .inl ⟨k, by omega, h2⟩
theorem numB_all {n : Int} {xs : List Int} (h : qofB n xs = true) : (1 ≤ n ∧ n ≤ 12) ∧ xs.length ≤ 24 ∧ ∀ x ∈ xs, 0 ≤ x ∧ x < n := by
  unfold qofB at h
  simp only [Bool.and_eq_true, decide_eq_true_eq, List.all_eq_true] at h
  refine ⟨h.1.1, h.1.2, fun x hx => ?_⟩
  have := numB_in (h.2 x hx)
  omega
theorem qof_core {L : Nat → Int → Int → Option (Int × Bool)} {n : Int} {xs : List Int} (hn : 1 ≤ n ∧ n ≤ 12) (hl : xs.length ≤ 24)
    (stop : ∀ (m : Nat) (i s : Int), 0 ≤ i → i < xs.length → numB n (xs.getD i.toNat 0) = false → L (m + 1) i s = some (0, false))
    (step : ∀ (m : Nat) (i s : Int), 0 ≤ i → i < xs.length → numB n (xs.getD i.toNat 0) = true → L (m + 1) i s = (chk (0 ≤ (List.getD xs (Int.toNat i) 0) ∧ (List.getD xs (Int.toNat i) 0) < 64 ∧ I64 ((1 : Int) * 2 ^ Int.toNat (List.getD xs (Int.toNat i) 0))) <| chk (I64 (i + (1 : Int))) <| L m (i + 1) (bits .or .i64 s ((1 : Int) * 2 ^ Int.toNat (List.getD xs (Int.toNat i) 0)))))
    (fin : ∀ (m : Nat) (s : Int), L (m + 1) xs.length s = some (s, true)) : L fuel 0 0 = some (qofV n xs, qofB n xs) := by
  refine loop_m (fun m (z : Int × Int) => L m z.1 z.2) (fun z => 0 ≤ z.1 ∧ z.1 ≤ xs.length ∧ z.2 = (qN xs z.1.toNat : Int) ∧ ∀ k : Nat, (k : Int) < z.1 → numB n (xs.getD k 0) = true) (fun z => (xs.length - z.1).toNat) (fun o => o = some (qofV n xs, qofB n xs)) ?_ fuel (0, 0) ⟨by simp, by simp, rfl, fun k hk => by simp only at hk; omega⟩ (by have := fuel_ge; simp only; omega)
  rintro m ⟨i, s⟩ ⟨i0, i1, i2, i3⟩
  simp only at i0 i1 i2 i3 ⊢
  obtain ⟨k, rfl⟩ := int_nat i0
  simp only [Int.toNat_natCast] at i2
  by_cases hi : (k : Int) < xs.length
  · cases hb : numB n (xs.getD k 0) with
    | false =>
      rw [stop m k s i0 hi (by simpa using hb)]
      have : qofB n xs = false := by
        rw [← Bool.not_eq_true]
        intro hh
        have := (numB_all hh).2.2 _ (getD_in (P := fun z => z ∈ xs) (i := k) (by omega) fun z hz => hz)
        unfold numB at hb
        simp only [Bool.and_eq_false_iff, decide_eq_false_iff_not] at hb
        omega
      exact .inr (by unfold qofV; rw [this]; rfl)
    | true =>
      have hnb := numB_in hb
      obtain ⟨e, he⟩ := int_nat hnb.1
      have hp : (2 : Nat) ^ e < 2 ^ 12 := Nat.pow_lt_pow_right (by decide) (by omega)
      have hp0 : 0 < (2 : Nat) ^ e := Nat.two_pow_pos e
      have hpc : (1 : Int) * 2 ^ Int.toNat (List.getD xs k 0) = ((2 ^ e : Nat) : Int) := by rw [he, Int.toNat_natCast, Int.one_mul]; norm_cast
      rw [step m k s i0 hi (by simpa using hb)]
      simp only [Int.toNat_natCast]
      rw [hpc, chk_pos ⟨by omega, by omega, by unfold I64; omega⟩, chk_pos (by unfold I64; omega)]
      refine .inl ⟨((k : Int) + 1, bits .or .i64 s ((2 ^ e : Nat) : Int)), ⟨by simp only; omega, by simp only; omega, ?_, fun j hj => ?_⟩, by simp only; omega, rfl⟩
      · have e1 : ((k : Int) + 1).toNat = k + 1 := by omega
        simp only [e1]
        have hq : ∀ j, j ≤ k → qN xs j < 2 ^ 12 := by
          intro j
          induction j with
          | zero => intro _; exact Nat.two_pow_pos 12
          | succ j ih =>
            intro hj
            unfold qN
            have hnj := numB_in (i3 j (by omega))
            exact Nat.or_lt_two_pow (ih (by omega)) (Nat.pow_lt_pow_right (by decide) (by omega))
        have := hq k (Nat.le_refl _)
        rw [i2, bits_nat_or (by omega) (by omega), qN, he, Int.toNat_natCast]
      · by_cases e1 : j = k
        · subst e1; exact hb
        · exact i3 j (by simp only at hj; omega)
  · have e1 : (k : Int) = xs.length := by omega
    rw [e1, fin]
    have : qofB n xs = true := by
      unfold qofB
      simp only [Bool.and_eq_true, decide_eq_true_eq, List.all_eq_true]
      refine ⟨⟨hn, hl⟩, fun x hx => ?_⟩
      obtain ⟨j, hj, rfl⟩ := List.mem_iff_getElem.1 hx
      have := i3 j (by omega)
      simpa [List.getD_eq_getElem?_getD, hj] using this
    have e2 : k = xs.length := by omega
    exact .inr (by unfold qofV; rw [this, i2, e2]; rfl)
theorem qof_bad {n : Int} {xs : List Int} (h : ¬ ((1 ≤ n ∧ n ≤ 12) ∧ xs.length ≤ 24)) : qofB n xs = false := by
  rw [← Bool.not_eq_true]; intro hh
  exact h ⟨(numB_all hh).1, (numB_all hh).2.1⟩
theorem iQuestionOf_eq (n : Int) (xs : List Int) (hx : xs.length ≤ 1048576) : F_impl_QuestionOf n xs = some (qofV n xs, qofB n xs) := by
  unfold F_impl_QuestionOf
  by_cases h : (1 ≤ n ∧ n ≤ 12) ∧ xs.length ≤ 24
  · refine jn_is (fun J => J false) (fun J => by rw [ite_f (by simp [h.1]), decide_eq_false (by omega)]) ?_
    rw [ite_f rfl]
    simp only [jn]
    refine qof_core (L := fun m i s => F_impl_QuestionOf_L1 n xs (fun v6 => some (v6, true)) m i s) h.1 h.2 ?_ ?_ ?_
    · intro m i s i0 i1 hb
      rw [F_impl_QuestionOf_L1, ite_t (decide_eq_true i1), chk_pos ⟨i0, i1⟩, ite_t (by rw [hb]; rfl)]
    · intro m i s i0 i1 hb
      rw [F_impl_QuestionOf_L1, ite_t (decide_eq_true i1), chk_pos ⟨i0, i1⟩, ite_f (by rw [hb]; rfl)]
      rfl
    · intro m s
      rw [F_impl_QuestionOf_L1, ite_f (decide_eq_false (by omega))]
  · refine jn_is (fun J => J true) (fun J => ?_) ?_
    · by_cases h1 : 1 ≤ n ∧ n ≤ 12
      · rw [ite_f (by simp [h1]), decide_eq_true (by omega)]
      · rw [ite_t (by simp; omega)]
    · rw [ite_t rfl]; unfold qofV; rw [qof_bad h]; rfl
theorem sQuestionOf_eq (n : Int) (xs : List Int) (hx : xs.length ≤ 1048576) : F_spec_QuestionOf n xs = some (qofV n xs, qofB n xs) := by
  unfold F_spec_QuestionOf
  by_cases h : (1 ≤ n ∧ n ≤ 12) ∧ xs.length ≤ 24
  · have hb2 : ∀ x, (decide (x ≥ (0 : Int)) && decide (x ≤ (n - (1 : Int)))) = numB n x := fun x => by
      rw [numB_eq (by simp [h.1])]
    refine jn_is (fun J => J false) (fun J => by rw [ite_f (by simp [h.1]), decide_eq_false (by omega)]) ?_
    rw [ite_f rfl]
    simp only [jn]
    refine qof_core (L := fun m i s => F_spec_QuestionOf_L1 n xs (fun v6 => some (v6, true)) m i s) h.1 h.2 ?_ ?_ ?_
    · intro m i s i0 i1 hb
      rw [F_spec_QuestionOf_L1, ite_t (decide_eq_true i1), chk_pos ⟨i0, i1⟩, chk_pos (by unfold I64; omega), hb2, ite_t (by rw [hb]; rfl)]
    · intro m i s i0 i1 hb
      rw [F_spec_QuestionOf_L1, ite_t (decide_eq_true i1), chk_pos ⟨i0, i1⟩, chk_pos (by unfold I64; omega), hb2, ite_f (by rw [hb]; rfl)]
      rfl
    · intro m s
      rw [F_spec_QuestionOf_L1, ite_f (decide_eq_false (by omega))]
  · refine jn_is (fun J => J true) (fun J => ?_) ?_
    · by_cases h1 : 1 ≤ n ∧ n ≤ 12
      · rw [ite_f (by simp [h1]), decide_eq_true (by omega)]
      · rw [ite_t (by simp; omega)]
    · rw [ite_t rfl]; unfold qofV; rw [qof_bad h]; rfl
/-- How many of the first i elements are told by p. -/
def cntL (p : Int → Bool) (l : List Int) : Nat → Int
  | 0 => 0
  | i + 1 => cntL p l i + (if p (l.getD i 0) = true then 1 else 0)
theorem cntL_in (p : Int → Bool) (l : List Int) : ∀ i : Nat, 0 ≤ cntL p l i ∧ cntL p l i ≤ (i : Int)
  | 0 => by simp [cntL]
  | i + 1 => by
    have := cntL_in p l i
    unfold cntL
    split <;> omega
theorem cntL_congr {p q : Int → Bool} {l : List Int} : ∀ i : Nat, i ≤ l.length → (∀ x ∈ l, p x = q x) → cntL p l i = cntL q l i
  | 0, _, _ => rfl
  | i + 1, hi, h => by
    unfold cntL
    rw [cntL_congr i (by omega) h, h _ (getD_in (P := fun z => z ∈ l) (by omega) fun z hz => hz)]
def sumP (l : List Int) : Nat → Int
  | 0 => 0
  | i + 1 => sumP l i + l.getD i 0
theorem sumP_set {l : List Int} {v : Nat} {x : Int} (hv : v < l.length) : ∀ n : Nat, sumP (l.set v x) n = sumP l n + (if v < n then x - l.getD v 0 else 0)
  | 0 => by simp [sumP]
  | n + 1 => by
    unfold sumP
    rw [sumP_set hv n]
    by_cases e : n = v
    · subst e
      rw [set_getD _ _ _ _ hv, if_neg (by omega), if_pos (by omega)]; omega
    · have : (l.set v x).getD n 0 = l.getD n 0 := by
        rw [List.getD_eq_getElem?_getD, List.getElem?_set_ne (by omega), ← List.getD_eq_getElem?_getD]
      rw [this]
      by_cases e2 : v < n
      · rw [if_pos e2, if_pos (by omega)]; omega
      · rw [if_neg e2, if_neg (by omega)]; omega
theorem sumP_in {l : List Int} {B : Int} (h : ∀ x ∈ l, 0 ≤ x ∧ x ≤ B) : ∀ i : Nat, i ≤ l.length → 0 ≤ sumP l i ∧ sumP l i ≤ B * i
  | 0, _ => by simp [sumP]
  | i + 1, hi => by
    have := sumP_in h i (by omega)
    have h2 := getD_in (P := fun x => 0 ≤ x ∧ x ≤ B) (i := i) (by omega) h
    unfold sumP
    have e : B * ((i + 1 : Nat) : Int) = B * i + B := by rw [Int.natCast_succ, Int.mul_add, Int.mul_one]
    rw [e]; omega
theorem sOpenL_eq (xs : List Int) (m : Int) (hx : xs.length ≤ 1048576) : F_spec_l2Open xs m = some (openN xs) := by
  unfold F_spec_l2Open
  simp only [jn]
  rw [openN_fl]
  have hl := fun k => fl_len (fun i => decide (xs.getD i 0 ≥ 0)) k
  refine (loop_up (fun m i (s : List Int) => F_spec_l2Open_L1 xs (fun o5 => some o5) m s i) (xs.length : Int) (fun i => fl (fun i => decide (xs.getD i 0 ≥ 0)) i.toNat) _ ?_ ?_ (by omega) fuel (by have := fuel_ge; omega))
  · intro m i i0 i1
    obtain ⟨k, rfl⟩ := int_nat i0
    have hlk := hl k
    have e1 : ((k : Int) + 1).toNat = k + 1 := by omega
    simp only [Int.toNat_natCast, e1]
    rw [F_spec_l2Open_L1, ite_t (decide_eq_true i1), chk_pos ⟨i0, i1⟩]
    simp only [Int.toNat_natCast]
    by_cases hb : xs.getD k 0 ≥ 0
    · rw [ite_t (decide_eq_true hb), fl_yes (p := fun i => decide (xs.getD i 0 ≥ 0)) (decide_eq_true hb), chk_pos ⟨by omega, by simp only [maxLen]; omega⟩, chk_pos (by unfold I64; omega)]
    · rw [ite_f (decide_eq_false hb), fl_no (p := fun i => decide (xs.getD i 0 ≥ 0)) (decide_eq_false hb), chk_pos (by unfold I64; omega)]
  · intro m
    rw [F_spec_l2Open_L1, ite_f (decide_eq_false (by omega))]
    simp only [Int.toNat_natCast]
def opV (xs : List Int) (m : Int) : List Int := if isStateN xs m = true then openN xs else []
theorem sOpenNumbers_eq (xs : List Int) (m : Int) (hx : xs.length ≤ 1048576) : F_spec_OpenNumbers xs m = some (opV xs m, isStateN xs m) := by
  unfold F_spec_OpenNumbers opV
  rw [chk_pos (by omega)]
  cases h : isStateN xs m with
  | false => rfl
  | true => rw [ite_f (by rfl), bnd1_eq (sOpenL_eq xs m hx), ite_t rfl]
theorem iOpenNumbers_eq (xs : List Int) (m : Int) (hx : xs.length ≤ 1048576) : F_impl_OpenNumbers xs m = some (opV xs m, isStateN xs m) := by
  unfold F_impl_OpenNumbers opV
  rw [chk_pos (by omega)]
  cases h : isStateN xs m with
  | false => rfl
  | true => rw [ite_f (by rfl), chk_pos (by omega), ite_t rfl]
theorem openN_le (xs : List Int) : (openN xs).length ≤ xs.length := fl_len _ _
theorem state_len {xs : List Int} {m : Int} (h : isStateN xs m = true) : 1 ≤ xs.length ∧ xs.length ≤ 12 ∧ 0 ≤ m ∧ m ≤ 2 := by
  have := isStateN_iff.1 h; omega
theorem opV_len (xs : List Int) (m : Int) : (opV xs m).length ≤ 12 := by
  unfold opV; split
  · rename_i h; have := state_len h; have := openN_le xs; omega
  · simp
def ctP (xs : List Int) (m : Int) (k : Nat) : List Int := (List.range (m.toNat + 1)).map fun (a : Nat) => ((((List.range k).filter fun i => xs.getD i 0 == (a : Int)).length : Nat) : Int)
def ctV (xs : List Int) (m : Int) : List Int := if isStateN xs m = true then ctP xs m xs.length else []
theorem ctP_len {xs : List Int} {m : Int} {k : Nat} : (ctP xs m k).length = m.toNat + 1 := by simp [ctP]
theorem ctP_at {xs : List Int} {m : Int} {k v : Nat} (h : v ≤ m.toNat) : (ctP xs m k).getD v 0 = (((List.range k).filter fun i => xs.getD i 0 == (v : Int)).length : Int) := by
  unfold ctP
  rw [List.getD_eq_getElem?_getD, List.getElem?_map, List.getElem?_range (by omega)]; rfl
theorem ctP_zero (xs : List Int) {m : Int} (h : 0 ≤ m) : List.replicate (Int.toNat (m + 1)) (0 : Int) = ctP xs m 0 := by
  unfold ctP
  have e : (m + 1).toNat = m.toNat + 1 := by omega
  rw [e]
  refine List.ext_getElem (by simp) fun i h1 h2 => by simp
theorem ctP_no {xs : List Int} {m : Int} {k : Nat} (h : ¬ xs.getD k 0 ≥ 0) : ctP xs m (k + 1) = ctP xs m k := by
  unfold ctP
  refine List.map_congr_left fun a ha => ?_
  rw [List.range_succ, List.filter_append, List.filter_cons, if_neg (by simp only [beq_iff_eq]; omega)]; simp
theorem ctP_yes {xs : List Int} {m : Int} {k v : Nat} (h : xs.getD k 0 = (v : Int)) (hv : v ≤ m.toNat) : ctP xs m (k + 1) = List.set (ctP xs m k) v ((ctP xs m k).getD v 0 + 1) := by
  have e : ∀ i j, i < m.toNat + 1 → (ctP xs m j)[i]? = some ((((List.range j).filter fun z => xs.getD z 0 == (i : Int)).length : Nat) : Int) := fun i j hi => by
    unfold ctP; rw [List.getElem?_map, List.getElem?_range hi]; rfl
  refine List.ext_getElem? fun i => ?_
  by_cases hi : i < m.toNat + 1
  · rw [e i (k + 1) hi, List.range_succ, List.filter_append, List.length_append, List.filter_cons, h]
    by_cases e2 : v = i
    · subst e2
      rw [if_pos (by simp), List.getElem?_set_self (by rw [ctP_len]; exact hi), ctP_at hv]
      simp
    · rw [if_neg (by simp only [beq_iff_eq]; omega), List.getElem?_set_ne (by omega), e i k hi]
      simp
  · rw [List.getElem?_eq_none (by rw [ctP_len]; omega), List.getElem?_eq_none (by rw [List.length_set, ctP_len]; omega)]
theorem ctP_bd {xs : List Int} {m : Int} {k v : Nat} (h : v ≤ m.toNat) : 0 ≤ (ctP xs m k).getD v 0 ∧ (ctP xs m k).getD v 0 ≤ k := by
  rw [ctP_at h]
  have := List.length_filter_le (fun i => xs.getD i 0 == (v : Int)) (List.range k)
  rw [List.length_range] at this
  omega
theorem ct_step {xs : List Int} {m : Int} (h : isStateN xs m = true) {L : Nat → List Int → Int → Option (List Int)} {k : Nat} (i1 : (k : Int) < xs.length) (n : Nat)
    (e : L (n + 1) (ctP xs m k) k = (if (decide ((List.getD xs k 0) ≥ (0 : Int))) = true then chk (0 ≤ (List.getD xs k 0) ∧ (List.getD xs k 0) < ((List.length (ctP xs m k) : Nat) : Int)) <| chk (I64 ((List.getD (ctP xs m k) (Int.toNat (List.getD xs k 0)) 0) + (1 : Int))) <| chk (I64 ((k : Int) + (1 : Int))) <| L n (List.set (ctP xs m k) (Int.toNat (List.getD xs k 0)) ((List.getD (ctP xs m k) (Int.toNat (List.getD xs k 0)) 0) + (1 : Int))) ((k : Int) + (1 : Int)) else chk (I64 ((k : Int) + (1 : Int))) <| L n (ctP xs m k) ((k : Int) + (1 : Int)))) :
    L (n + 1) (ctP xs m k) k = L n (ctP xs m (k + 1)) ((k : Int) + 1) := by
  obtain ⟨⟨l1, l2⟩, ⟨m0, m1⟩, hall⟩ := isStateN_iff.1 h
  have hk := hall k (by omega)
  rw [e]
  by_cases hb : xs.getD k 0 ≥ 0
  · obtain ⟨v, hv⟩ := int_nat hb
    have hbd := ctP_bd (xs := xs) (m := m) (k := k) (v := v) (by omega)
    rw [ite_t (decide_eq_true hb), hv, Int.toNat_natCast, chk_pos ⟨by omega, by rw [ctP_len]; omega⟩, chk_pos (by unfold I64; omega), chk_pos (by unfold I64; omega), ctP_yes hv (by omega)]
  · rw [ite_f (decide_eq_false hb), ctP_no hb, chk_pos (by unfold I64; omega)]
theorem iCountsOf_eq (xs : List Int) (m : Int) (hx : xs.length ≤ 1048576) : F_impl_CountsOf xs m = some (ctV xs m, isStateN xs m) := by
  unfold F_impl_CountsOf ctV
  rw [chk_pos (by omega)]
  cases h : isStateN xs m with
  | false => rfl
  | true =>
    have hs := state_len h
    rw [ite_f (by rfl), ite_t rfl]
    have e : F_impl_State_counts xs m = some (ctP xs m xs.length) := by
      unfold F_impl_State_counts
      rw [chk_pos (by unfold I64; omega), chk_pos ⟨by omega, by omega, by omega, by simp only [maxLen]; omega⟩]
      simp only [jn]
      rw [ctP_zero xs hs.2.2.1]
      refine (loop_up (fun n i (s : List Int) => F_impl_State_counts_L1 xs (fun o9 => some o9) n s i) (xs.length : Int) (fun i => ctP xs m i.toNat) _ ?_ ?_ (by omega) fuel (by have := fuel_ge; omega))
      · intro n i i0 i1
        obtain ⟨k, rfl⟩ := int_nat i0
        have e1 : ((k : Int) + 1).toNat = k + 1 := by omega
        simp only [Int.toNat_natCast, e1]
        refine ct_step (L := fun n s i => F_impl_State_counts_L1 xs (fun o9 => some o9) n s i) h i1 n ?_
        rw [F_impl_State_counts_L1, ite_t (decide_eq_true i1), chk_pos ⟨i0, i1⟩]
        simp only [nam, Int.toNat_natCast]
      · intro n
        rw [F_impl_State_counts_L1, ite_f (decide_eq_false (by omega))]
        simp only [Int.toNat_natCast]
    rw [bnd1_eq e]
theorem sCountsOf_eq (xs : List Int) (m : Int) (hx : xs.length ≤ 1048576) : F_spec_CountsOf xs m = some (ctV xs m, isStateN xs m) := by
  unfold F_spec_CountsOf ctV
  rw [chk_pos (by omega)]
  cases h : isStateN xs m with
  | false => rfl
  | true =>
    have hs := state_len h
    rw [ite_f (by rfl), ite_t rfl]
    have e : F_spec_l2Counts xs m = some (ctP xs m xs.length) := by
      unfold F_spec_l2Counts
      rw [chk_pos (by unfold I64; omega), chk_pos ⟨by omega, by omega, by omega, by simp only [maxLen]; omega⟩]
      simp only [jn]
      rw [ctP_zero xs hs.2.2.1]
      refine (loop_up (fun n i (s : List Int) => F_spec_l2Counts_L1 xs (fun o9 => some o9) n s i) (xs.length : Int) (fun i => ctP xs m i.toNat) _ ?_ ?_ (by omega) fuel (by have := fuel_ge; omega))
      · intro n i i0 i1
        obtain ⟨k, rfl⟩ := int_nat i0
        have e1 : ((k : Int) + 1).toNat = k + 1 := by omega
        simp only [Int.toNat_natCast, e1]
        refine ct_step (L := fun n s i => F_spec_l2Counts_L1 xs (fun o9 => some o9) n s i) h i1 n ?_
        rw [F_spec_l2Counts_L1, ite_t (decide_eq_true i1), chk_pos ⟨i0, i1⟩]
        simp only [nam, Int.toNat_natCast]
      · intro n
        rw [F_spec_l2Counts_L1, ite_f (decide_eq_false (by omega))]
        simp only [Int.toNat_natCast]
    rw [bnd1_eq e]
theorem ctV_len (xs : List Int) (m : Int) : (ctV xs m).length ≤ 3 := by
  unfold ctV; split
  · rename_i h; have := state_len h; rw [ctP_len]; omega
  · simp
theorem ct_sum {xs : List Int} {m : Int} (h : isStateN xs m = true) : ∀ k, k ≤ xs.length → sumP (ctP xs m k) (m.toNat + 1) = ((openP xs k).length : Int)
  | 0, _ => by
    have hs := state_len h
    have : ctP xs m 0 = List.replicate (m.toNat + 1) 0 := by rw [← ctP_zero xs hs.2.2.1]; congr 1; omega
    rw [this]
    have hz : ∀ n, n ≤ m.toNat + 1 → sumP (List.replicate (m.toNat + 1) (0 : Int)) n = 0 := by
      intro n
      induction n with
      | zero => intro _; rfl
      | succ n ih => intro hn; unfold sumP; rw [ih (by omega), List.getD_eq_getElem?_getD, List.getElem?_replicate, if_pos (by omega)]; rfl
    rw [hz _ (Nat.le_refl _)]; simp [openP]
  | k + 1, hk => by
    have ih := ct_sum h k (by omega)
    obtain ⟨⟨l1, l2⟩, ⟨m0, m1⟩, hall⟩ := isStateN_iff.1 h
    have hk2 := hall k (by omega)
    by_cases hb : xs.getD k 0 ≥ 0
    · obtain ⟨v, hv⟩ := int_nat hb
      rw [ctP_yes hv (by omega), sumP_set (by rw [ctP_len]; omega), if_pos (by omega), open_yes hb, ih, List.length_append]
      simp only [List.length_cons, List.length_nil]; omega
    · rw [ctP_no hb, open_no hb, ih]
def tdB (xs : List Int) (m : Int) : Bool := isStateN xs m && ((openN xs).length == 1)
def tdV (xs : List Int) (m : Int) : Int := if tdB xs m = true then (openN xs).getD 0 0 else 0
theorem iToldNumber_eq (xs : List Int) (m : Int) (hx : xs.length ≤ 1048576) : F_impl_ToldNumber xs m = some (tdV xs m, tdB xs m) := by
  unfold F_impl_ToldNumber tdV tdB
  rw [chk_pos (by omega)]
  cases h : isStateN xs m with
  | false => refine jn_is (fun J => J true) (fun J => by rw [chk_pos (by omega), ite_t (by rfl)]) rfl
  | true =>
    by_cases hl : (openN xs).length = 1
    · refine jn_is (fun J => J false) (fun J => by rw [chk_pos (by omega), ite_f (by rfl)]; simp [hl]) ?_
      rw [ite_f rfl, chk_pos (by omega)]; simp [hl]
    · refine jn_is (fun J => J true) (fun J => by rw [chk_pos (by omega), ite_f (by rfl)]; congr 1; simp; omega) ?_
      rw [ite_t rfl]; simp [hl]
theorem sToldNumber_eq (xs : List Int) (m : Int) (hx : xs.length ≤ 1048576) : F_spec_ToldNumber xs m = some (tdV xs m, tdB xs m) := by
  unfold F_spec_ToldNumber tdV tdB
  rw [chk_pos (by omega)]
  cases h : isStateN xs m with
  | false => rfl
  | true =>
    rw [ite_f (by rfl)]
    unfold F_spec_l2Told
    rw [bnd1_eq (sOpenL_eq xs m hx)]
    by_cases hl : (openN xs).length = 1
    · have hm := getD_in (P := fun z => z ∈ openN xs) (xs := openN xs) (i := 0) (by omega) fun z hz => hz
      obtain ⟨j, _, _, hj⟩ := mem_fl.1 hm
      rw [ite_t (by simp [hl]), chk_pos (by omega), bnd1_eq rfl]
      have : (openN xs).getD 0 0 ≥ 0 := by omega
      unfold maxN
      simp only [hl, beq_self_eq_true, Bool.and_self, if_true]
      rw [decide_eq_true this]
      by_cases e : (openN xs).getD 0 0 > 0
      · rw [if_pos e]
      · rw [if_neg e]; have : (openN xs).getD 0 0 = 0 := by omega
        rw [this]
    · rw [ite_f (by simp; omega), bnd1_eq rfl]
      simp [hl, maxN]
def inN (xs : List Int) (q : Int) : Int := cntL (fun k => hasB q k) (openN xs) (openN xs).length
def vainN (xs : List Int) (q : Int) : Bool := inN xs q == 0 || inN xs q == ((openN xs).length : Int)
def vnB (xs : List Int) (m q : Int) : Bool := isStateN xs m && isQ ((xs.length : Nat) : Int) q
def vnV (xs : List Int) (m q : Int) : Bool := vnB xs m q && vainN xs q
theorem openN_in {xs : List Int} {i : Nat} (h : i < (openN xs).length) : 0 ≤ (openN xs).getD i 0 ∧ (openN xs).getD i 0 < xs.length := by
  obtain ⟨j, h1, _, h3⟩ := fl_getD (p := fun i => decide (xs.getD i 0 ≥ 0)) (k := xs.length) h
  rw [openN_fl]; omega
theorem iIsVain_eq (xs : List Int) (m q : Int) (hx : xs.length ≤ 60) : F_impl_State_isVain xs m q = some (vainN xs q) := by
  unfold F_impl_State_isVain
  rw [chk_pos (by omega)]
  have hol := openN_le xs
  simp only [jn]
  refine (loop_up (fun n i (s : Int) => F_impl_State_isVain_L1 xs q (fun v5 => if (v5 == (0 : Int)) = true then some true else some (v5 == ((List.length (openN xs) : Nat) : Int))) n i s) ((openN xs).length : Int) (fun i => cntL (fun k => hasB q k) (openN xs) i.toNat) _ ?_ ?_ (by omega) fuel (by have := fuel_ge; omega))
  · intro n i i0 i1
    obtain ⟨k, rfl⟩ := int_nat i0
    have hc := cntL_in (fun k => hasB q k) (openN xs) k
    have ho := openN_in (xs := xs) (i := k) (by omega)
    have e1 : ((k : Int) + 1).toNat = k + 1 := by omega
    simp only [Int.toNat_natCast, e1]
    rw [F_impl_State_isVain_L1, ite_t (decide_eq_true i1), chk_pos ⟨i0, i1⟩]
    simp only [Int.toNat_natCast]
    rw [chk_pos ho.1, cntL]
    rcases Bool.eq_false_or_eq_true (hasB q ((openN xs).getD k 0)) with hb | hb
    · rw [ite_t hb, chk_pos (by unfold I64; omega), chk_pos (by unfold I64; omega), ite_t hb]
    · rw [ite_f hb, chk_pos (by unfold I64; omega), ite_f hb, Int.add_zero]
  · intro n
    rw [F_impl_State_isVain_L1, ite_f (decide_eq_false (by omega))]
    simp only [Int.toNat_natCast]
    unfold vainN inN
    split
    · rename_i h; rw [h]; rfl
    · rename_i h; rw [Bool.not_eq_true] at h; rw [h]; rfl
theorem sIsVain_eq (xs : List Int) (m q : Int) (hx : xs.length ≤ 60) : F_spec_l2Vain xs m q = some (vainN xs q) := by
  unfold F_spec_l2Vain
  rw [bnd1_eq (sOpenL_eq xs m (by omega))]
  have hol := openN_le xs
  simp only [jn]
  refine (loop_up (fun n i (s : Int) => F_spec_l2Vain_L1 q (openN xs) (fun v5 => if (v5 == (0 : Int)) = true then some true else some (v5 == ((List.length (openN xs) : Nat) : Int))) n i s) ((openN xs).length : Int) (fun i => cntL (fun k => hasB q k) (openN xs) i.toNat) _ ?_ ?_ (by omega) fuel (by have := fuel_ge; omega))
  · intro n i i0 i1
    obtain ⟨k, rfl⟩ := int_nat i0
    have hc := cntL_in (fun k => hasB q k) (openN xs) k
    have ho := openN_in (xs := xs) (i := k) (by omega)
    have e1 : ((k : Int) + 1).toNat = k + 1 := by omega
    simp only [e1]
    rw [F_spec_l2Vain_L1, ite_t (decide_eq_true i1), chk_pos ⟨i0, i1⟩]
    simp only [nam]
    rw [Int.toNat_natCast, chk_pos ⟨ho.1, by omega⟩, and1_has ho.1 (by omega), cntL]
    rcases Bool.eq_false_or_eq_true (hasB q ((openN xs).getD k 0)) with hb | hb
    · rw [ite_t hb, chk_pos (by unfold I64; omega), chk_pos (by unfold I64; omega)]
    · rw [ite_f hb, chk_pos (by unfold I64; omega), chk_pos (by unfold I64; omega)]
  · intro n
    rw [F_spec_l2Vain_L1, ite_f (decide_eq_false (by omega))]
    simp only [Int.toNat_natCast]
    unfold vainN inN
    split
    · rename_i h; rw [h]; rfl
    · rename_i h; rw [Bool.not_eq_true] at h; rw [h]; rfl
theorem iVainQuestion_eq (xs : List Int) (m q : Int) (hx : xs.length ≤ 1048576) : F_impl_VainQuestion xs m q = some (vnV xs m q, vnB xs m q) := by
  unfold F_impl_VainQuestion vnV vnB
  cases h : isStateN xs m with
  | false => refine jn_is (fun J => J true) (fun J => by rw [chk_pos (by omega), ite_t (by rfl)]) rfl
  | true =>
    have hs := state_len h
    cases h2 : isQ ((xs.length : Nat) : Int) q with
    | false => refine jn_is (fun J => J true) (fun J => by rw [chk_pos (by omega), ite_f (by rfl)]; rfl) rfl
    | true =>
      refine jn_is (fun J => J false) (fun J => by rw [chk_pos (by omega), ite_f (by rfl)]; rfl) ?_
      rw [ite_f rfl, bnd1_eq (iIsVain_eq xs m q (by omega))]; rfl
theorem sVainQuestion_eq (xs : List Int) (m q : Int) (hx : xs.length ≤ 1048576) : F_spec_VainQuestion xs m q = some (vnV xs m q, vnB xs m q) := by
  unfold F_spec_VainQuestion vnV vnB
  cases h : isStateN xs m with
  | false => refine jn_is (fun J => J true) (fun J => by rw [chk_pos (by omega), ite_t (by rfl)]) rfl
  | true =>
    have hs := state_len h
    cases h2 : isQ ((xs.length : Nat) : Int) q with
    | false => refine jn_is (fun J => J true) (fun J => by rw [chk_pos (by omega), ite_f (by rfl)]; rfl) rfl
    | true =>
      refine jn_is (fun J => J false) (fun J => by rw [chk_pos (by omega), ite_f (by rfl)]; rfl) ?_
      rw [ite_f rfl, bnd1_eq (sIsVain_eq xs m q (by omega))]; rfl
theorem drawOther_ok {bs : List Int} (hy : okY bs) : ∃ n q, F_spec_DrawOtherQuestion bs = some (n, q) ∧ 0 ≤ n ∧ n ≤ 13 ∧ -1 ≤ q ∧ q ≤ 4611686018427387904 := by
  unfold F_spec_DrawOtherQuestion
  obtain ⟨n, p1, s1, e1, g0, g1, g2, g3⟩ := many_ok (s := 0) (p := 0) hy (by omega) (by omega)
  obtain ⟨q, p2, s2, e2, k0, k1, k2, k3⟩ := question_ok (s := s1) (p := p1) (n := n) hy (by omega) (by omega)
  rw [bnd4_eq e1, bnd4_eq e2]
  exact ⟨_, _, rfl, g2, g3, k2, k3⟩
theorem drawIsState_ok {bs : List Int} (hy : okY bs) : ∃ xs m, F_spec_DrawIsState bs = some (xs, m) ∧ -1 ≤ m ∧ m ≤ 3 ∧ xs.length ≤ 13 ∧ (∀ x ∈ xs, -1 ≤ x ∧ x ≤ 4) := by
  unfold F_spec_DrawIsState
  obtain ⟨xs, m, p', s', e, h1, h2, h3, h4, h5, h6⟩ := state_ok (s := 0) (p := 0) hy (by omega) (by omega)
  rw [bnd5_eq e]
  exact ⟨_, _, rfl, h3, h4, h5, h6⟩
theorem drawOpen_ok {bs : List Int} (hy : okY bs) : ∃ xs m, F_spec_DrawOpenNumbers bs = some (xs, m) ∧ -1 ≤ m ∧ m ≤ 3 ∧ xs.length ≤ 13 ∧ (∀ x ∈ xs, -1 ≤ x ∧ x ≤ 4) := by
  unfold F_spec_DrawOpenNumbers
  obtain ⟨xs, m, e, h⟩ := drawIsState_ok hy
  rw [bnd2_eq e]
  exact ⟨_, _, rfl, h⟩
theorem drawAnswer_ok {bs : List Int} (hy : okY bs) : ∃ xs m q y, F_spec_DrawAnswerState bs = some (xs, m, q, y) ∧ (-1 ≤ m ∧ m ≤ 3 ∧ xs.length ≤ 13 ∧ (∀ x ∈ xs, -1 ≤ x ∧ x ≤ 4)) ∧ -1 ≤ q ∧ q ≤ 4611686018427387904 := by
  unfold F_spec_DrawAnswerState
  obtain ⟨xs, m, p', s', e, h1, h2, h3, h4, h5, h6⟩ := state_ok (s := 0) (p := 0) hy (by omega) (by omega)
  obtain ⟨b, p2, s2, e2, g0, g1⟩ := one_ok (s := s') (p := p') (n := 2) hy (by omega) (by omega)
  obtain ⟨q, p3, s3, e3, k0, k1, k2, k3⟩ := question_ok (s := s2) (p := p2) (n := ((List.length xs : Nat) : Int)) hy (by omega) (by omega)
  rw [bnd5_eq e, bnd4_eq e2, bnd4_eq e3]
  exact ⟨_, _, _, _, rfl, ⟨h3, h4, h5, h6⟩, k2, k3⟩
theorem drawVain_ok {bs : List Int} (hy : okY bs) : ∃ xs m q, F_spec_DrawVainQuestion bs = some (xs, m, q) ∧ (-1 ≤ m ∧ m ≤ 3 ∧ xs.length ≤ 13 ∧ (∀ x ∈ xs, -1 ≤ x ∧ x ≤ 4)) ∧ -1 ≤ q ∧ q ≤ 4611686018427387904 := by
  unfold F_spec_DrawVainQuestion
  obtain ⟨xs, m, q, y, e, h⟩ := drawAnswer_ok hy
  rw [bnd4_eq e]
  exact ⟨_, _, _, rfl, h⟩
theorem drawQof_ok {bs : List Int} (hy : okY bs) : ∃ n xs, F_spec_DrawQuestionOf bs = some (n, xs) ∧ 0 ≤ n ∧ n ≤ 13 ∧ xs.length ≤ 25 := by
  unfold F_spec_DrawQuestionOf
  obtain ⟨n, p1, s1, e1, g0, g1, g2, g3⟩ := many_ok (s := 0) (p := 0) hy (by omega) (by omega)
  obtain ⟨k, p2, s2, e2, k0, k1, k2⟩ := among_ok (s := s1) (p := p1) (xs := [(2 : Int), (3 : Int), (1 : Int), (0 : Int), (5 : Int), (24 : Int)]) hy (by omega) (by omega) (by decide)
  have hk : 0 ≤ k ∧ k ≤ 24 := by
    simp only [List.mem_cons, List.not_mem_nil, or_false] at k2
    omega
  rw [bnd4_eq e1]
  simp only [jn]
  rw [bnd4_eq e2]
  have key : ∀ J : List Int → Int → Int → List Int → Option (Int × List Int), (∀ p s xs, 0 ≤ p → p ≤ 60 → xs.length ≤ 24 → ∃ n xs2, J bs p s xs = some (n, xs2) ∧ 0 ≤ n ∧ n ≤ 13 ∧ xs2.length ≤ 25) → ∃ n2 xs, F_spec_DrawQuestionOf_L1 n J fuel bs p2 s2 [] k = some (n2, xs) ∧ 0 ≤ n2 ∧ n2 ≤ 13 ∧ xs.length ≤ 25 := by
    intro J hJ
    refine loop_m (fun m (z : Int × Int × List Int × Int) => F_spec_DrawQuestionOf_L1 n J m bs z.1 z.2.1 z.2.2.1 z.2.2.2) (fun z => 0 ≤ z.2.2.2 ∧ z.2.2.2 ≤ k ∧ 0 ≤ z.1 ∧ z.1 ≤ 4 + 2 * (k - z.2.2.2) ∧ (z.2.2.1.length : Int) = k - z.2.2.2) (fun z => z.2.2.2.toNat) (fun o => ∃ n xs, o = some (n, xs) ∧ 0 ≤ n ∧ n ≤ 13 ∧ xs.length ≤ 25) ?_ fuel (p2, s2, [], k) ⟨hk.1, Int.le_refl _, by simp only; omega, by simp only; omega, by simp⟩ (by have := fuel_ge; simp only; omega)
    rintro m ⟨p, s, xs, i⟩ ⟨i0, i1, q0, q1, ql⟩
    simp only at i0 i1 q0 q1 ql ⊢
    rw [F_spec_DrawQuestionOf_L1]
    by_cases hi : i > 0
    · obtain ⟨v, p4, s4, e4, w0, w1, w2, w3⟩ := pick_ok (s := s) (n := maxN 1 n) hy (p := p) (by omega) (by omega)
      rw [ite_t (decide_eq_true hi), bnd4_eq e4, chk_pos ⟨by omega, by simp only [maxLen]; omega⟩, chk_pos (by unfold I64; omega)]
      exact .inl ⟨(p4, s4, xs ++ [v], i - 1), ⟨by simp only; omega, by simp only; omega, by simp only; omega, by simp only; omega, by simp only [List.length_append, List.length_cons, List.length_nil]; omega⟩, by simp only; omega, rfl⟩
    · rw [ite_f (decide_eq_false hi)]
      exact .inr (hJ p s xs q0 (by omega) (by omega))
  refine key _ fun p s xs q0 q1 ql => ?_
  obtain ⟨b, p5, s5, e5, y0, y1⟩ := one_ok (s := s) (n := 16) hy (p := p) (by omega) (by omega)
  rw [bnd4_eq e5]
  cases b with
  | true =>
    obtain ⟨v, p6, s6, e6, _⟩ := among_ok (s := s5) (p := p5) (xs := [(-1 : Int), n, (0 : Int)]) hy (by omega) (by omega) (by simp)
    rw [ite_t rfl, bnd4_eq e6, chk_pos ⟨by omega, by simp only [maxLen]; omega⟩]
    exact ⟨_, _, rfl, g2, g3, by simp only [List.length_append, List.length_cons, List.length_nil]; omega⟩
  | false => exact ⟨_, _, rfl, g2, g3, by omega⟩
theorem drawTold_ok {bs : List Int} (hy : okY bs) : ∃ xs m, F_spec_DrawToldNumber bs = some (xs, m) ∧ xs.length ≤ 13 := by
  unfold F_spec_DrawToldNumber
  obtain ⟨xs, m, p', s', e, h1, h2, h3, h4, h5, h6⟩ := state_ok (s := 0) (p := 0) hy (by omega) (by omega)
  rw [bnd5_eq e]
  simp only [jn]
  have fin : ∀ v : Int, ∃ ys m2, F_spec_DrawToldNumber_L1 (fun o10110 => some (o10110, m)) v fuel xs 0 = some (ys, m2) ∧ ys.length ≤ 13 := by
    intro v
    refine loop_m (fun k (z : List Int × Int) => F_spec_DrawToldNumber_L1 (fun o10110 => some (o10110, m)) v k z.1 z.2) (fun z => 0 ≤ z.2 ∧ z.2 ≤ xs.length ∧ z.1.length = xs.length) (fun z => (xs.length - z.2).toNat) (fun o => ∃ ys m2, o = some (ys, m2) ∧ ys.length ≤ 13) ?_ fuel (xs, 0) ⟨by simp, by simp, rfl⟩ (by have := fuel_ge; simp only; omega)
    rintro k ⟨ys, i⟩ ⟨i0, i1, hl⟩
    simp only at i0 i1 hl ⊢
    rw [F_spec_DrawToldNumber_L1]
    by_cases hi : i < (ys.length : Int)
    · rw [ite_t (decide_eq_true hi)]
      split
      · rw [chk_pos ⟨i0, hi⟩, chk_pos (by unfold I64; omega)]
        exact .inl ⟨(_, i + 1), ⟨by simp only; omega, by simp only; omega, by simp only [List.length_set]; exact hl⟩, by simp only; omega, rfl⟩
      · rw [chk_pos (by unfold I64; omega)]
        exact .inl ⟨(ys, i + 1), ⟨by simp only; omega, by simp only; omega, hl⟩, by simp only; omega, rfl⟩
    · rw [ite_f (decide_eq_false hi)]
      exact .inr ⟨_, _, rfl, by omega⟩
  have both : ∀ (p2 s2 : Int) (b : Bool), 0 ≤ p2 → p2 ≤ 200 → ∃ ys m2, (if b = true then bnd4 (F_p_spec_l1Cur_pick bs p2 s2 ((List.length xs : Nat) : Int)) fun r24 r24b r24c r24d => F_spec_DrawToldNumber_L1 (fun o10110 => some (o10110, m)) r24 fuel xs (0 : Int) else some (xs, m)) = some (ys, m2) ∧ ys.length ≤ 13 := by
    intro p2 s2 b g0 g1
    cases b with
    | true =>
      obtain ⟨v, p4, s4, e4, _⟩ := pick_ok (s := s2) (p := p2) (n := ((List.length xs : Nat) : Int)) hy (by omega) (by omega)
      rw [ite_t rfl, bnd4_eq e4]
      exact fin v
    | false => exact ⟨_, _, rfl, h5⟩
  split
  · obtain ⟨b, p2, s2, e2, g0, g1⟩ := one_ok (s := s') (p := p') (n := 2) hy (by omega) (by omega)
    rw [bnd4_eq e2]
    exact both p2 s2 b (by omega) (by omega)
  · exact both p' s' false (by omega) (by omega)
theorem mem_nums {q : Int} {n : Nat} {x : Int} : x ∈ numsP q n ↔ 0 ≤ x ∧ x < n ∧ hasB q x = true := by
  unfold numsP
  rw [mem_fl]
  constructor
  · rintro ⟨i, h1, h2, rfl⟩; exact ⟨by omega, by omega, h2⟩
  · rintro ⟨h1, h2, h3⟩
    obtain ⟨i, rfl⟩ := int_nat h1
    exact ⟨i, by omega, h3, rfl⟩
theorem qof_has {n : Int} {xs : List Int} (h : qofB n xs = true) (x : Int) (h0 : 0 ≤ x) (h1 : x < n) : hasB (qofV n xs) x = true ↔ x ∈ xs := by
  obtain ⟨hn, hl, hall⟩ := numB_all h
  obtain ⟨k, rfl⟩ := int_nat h0
  unfold qofV
  rw [if_pos h, has_nat (by omega), qN_bit _ _ _ (Nat.le_refl _)]
  constructor
  · rintro ⟨j, hj, e⟩
    have hm := getD_in (P := fun z => z ∈ xs) (xs := xs) (i := j) hj fun z hz => hz
    have := hall _ hm
    have e2 : (xs.getD j 0) = (k : Int) := by omega
    rw [e2] at hm; exact hm
  · intro hm
    obtain ⟨j, hj, he⟩ := List.mem_iff_getElem.1 hm
    exact ⟨j, hj, by simp [List.getD_eq_getElem?_getD, hj, he]⟩
theorem qof_isQ {n : Int} {xs : List Int} (h : qofB n xs = true) : isQ n (qofV n xs) = true := by
  obtain ⟨hn, hl, hall⟩ := numB_all h
  obtain ⟨k, rfl⟩ := int_nat (i := n) (by omega)
  have hq := qN_lt (n := k) (xs := xs) (fun x hx => hall x hx) xs.length (Nat.le_refl _)
  unfold qofV isQ
  rw [if_pos h]
  simp only [Bool.and_eq_true, decide_eq_true_eq, Int.toNat_natCast]
  have : ((2 ^ k : Nat) : Int) = (2 : Int) ^ k := by norm_cast
  omega
/-- The question of its own numbers. -/
theorem qof_nums {n q : Int} (h : isQ n q = true) : qofB n (numsN n q) = true ∧ qofV n (numsN n q) = q := by
  obtain ⟨n', q', rfl, rfl, h1, h2, h3⟩ := isQ_nat h
  have hlen := numsN_len (n' : Int) (q' : Int)
  have hb : qofB (n' : Int) (numsN (n' : Int) (q' : Int)) = true := by
    unfold qofB
    simp only [Bool.and_eq_true, decide_eq_true_eq, List.all_eq_true]
    refine ⟨⟨⟨by omega, by omega⟩, by omega⟩, fun x hx => ?_⟩
    unfold numsN at hx
    rw [if_pos h, Int.toNat_natCast] at hx
    have := mem_nums.1 hx
    rw [numB_eq (by simp; omega)]
    simp; omega
  refine ⟨hb, ?_⟩
  have hin := qof_isQ hb
  obtain ⟨n2, v, e1, e2, _, _, e5⟩ := isQ_nat hin
  have en : n2 = n' := by omega
  subst en
  rw [e2]
  congr 1
  refine Nat.eq_of_testBit_eq fun j => ?_
  by_cases hj : j < n2
  · have a := qof_has hb (j : Int) (by omega) (by omega)
    rw [e2, has_nat (by omega)] at a
    unfold numsN at a
    rw [if_pos h, Int.toNat_natCast, mem_nums, has_nat (by omega)] at a
    rw [Bool.eq_iff_iff, a]
    constructor
    · exact fun x => x.2.2
    · exact fun x => ⟨by omega, by omega, x⟩
  · rw [Nat.testBit_lt_two_pow (Nat.lt_of_lt_of_le e5 (Nat.pow_le_pow_right (by decide) (by omega))), Nat.testBit_lt_two_pow (Nat.lt_of_lt_of_le h3 (Nat.pow_le_pow_right (by decide) (by omega)))]
theorem oth_oth {n q : Int} (h : isQ n q = true) : oqV n (oqV n q) = q ∧ isQ n (oqV n q) = true ∧ bits .and .i64 q (oqV n q) = 0 := by
  have h2 := isQ_other h
  have e : oqV n q = othN n q := by unfold oqV; rw [if_pos h]
  rw [e]
  have e2 : oqV n (othN n q) = othN n (othN n q) := by unfold oqV; rw [if_pos h2]
  refine ⟨by rw [e2]; unfold othN; omega, h2, ?_⟩
  obtain ⟨n', q', rfl, rfl, h1, h3, h4⟩ := isQ_nat h
  obtain ⟨n2, o, e3, e4, _, _, e5⟩ := isQ_nat h2
  have en : n2 = n' := by omega
  subst en
  have hp : (2 : Nat) ^ n2 ≤ 2 ^ 12 := Nat.pow_le_pow_right (by decide) h3
  rw [e4, bits_nat_and (by omega) (by omega)]
  have : q' &&& o = 0 := by
    refine Nat.eq_of_testBit_eq fun j => ?_
    rw [Nat.testBit_and, Nat.zero_testBit]
    by_cases hj : j < n2
    · have := has_other (k := j) h (by omega)
      rw [e4, has_nat (by omega), has_nat (by omega)] at this
      rw [this]; simp
    · rw [Nat.testBit_lt_two_pow (Nat.lt_of_lt_of_le h4 (Nat.pow_le_pow_right (by decide) (by omega)))]; rfl
  rw [this]; rfl
theorem one_list {l : List Int} (h : l.length = 1) : l = [l.getD 0 0] := by
  match l, h with
  | [x], _ => rfl
theorem cnt_loop (l r : List Int) (J : Int → Option Bool) (hl : l.length ≤ 60) (hr : r.length ≤ 60) : F_laws_FnQuestions_L1 l r J fuel 0 0 = J (cntL (fun x => decide (x ∈ r)) l l.length) := by
  refine (loop_up (fun n i (s : Int) => F_laws_FnQuestions_L1 l r J n i s) (l.length : Int) (fun i => cntL (fun x => decide (x ∈ r)) l i.toNat) _ ?_ ?_ (by omega) fuel (by have := fuel_ge; omega))
  · intro n i i0 i1
    obtain ⟨k, rfl⟩ := int_nat i0
    have hc := cntL_in (fun x => decide (x ∈ r)) l k
    have e1 : ((k : Int) + 1).toNat = k + 1 := by omega
    simp only [Int.toNat_natCast, e1]
    rw [F_laws_FnQuestions_L1, ite_t (decide_eq_true i1), chk_pos ⟨i0, i1⟩, bnd1_eq (rHas_eq r _ (by omega)), cntL, Int.toNat_natCast]
    rcases Bool.eq_false_or_eq_true (decide (l.getD k 0 ∈ r)) with hb | hb
    · rw [ite_t hb, ite_t hb, chk_pos (by unfold I64; omega), chk_pos (by unfold I64; omega)]
    · rw [ite_f hb, ite_f hb, chk_pos (by unfold I64; omega), Int.add_zero]
  · intro n
    rw [F_laws_FnQuestions_L1, ite_f (decide_eq_false (by omega))]
    simp only [Int.toNat_natCast]
theorem sum_loop (l : List Int) (J : Int → Option Bool) (hl : l.length ≤ 60) (hb : ∀ x ∈ l, 0 ≤ x ∧ x ≤ 100) : F_laws_FnQuestions_L2 l J fuel 0 0 = J (sumP l l.length) := by
  refine (loop_up (fun n i (s : Int) => F_laws_FnQuestions_L2 l J n i s) (l.length : Int) (fun i => sumP l i.toNat) _ ?_ ?_ (by omega) fuel (by have := fuel_ge; omega))
  · intro n i i0 i1
    obtain ⟨k, rfl⟩ := int_nat i0
    have hc := sumP_in hb k (by omega)
    have hx := getD_in (P := fun x => 0 ≤ x ∧ x ≤ 100) (i := k) (xs := l) (by omega) hb
    have e1 : ((k : Int) + 1).toNat = k + 1 := by omega
    simp only [Int.toNat_natCast, e1]
    rw [F_laws_FnQuestions_L2, ite_t (decide_eq_true i1), chk_pos ⟨i0, i1⟩, Int.toNat_natCast, chk_pos (by unfold I64; omega), chk_pos (by unfold I64; omega), sumP]
  · intro n
    rw [F_laws_FnQuestions_L2, ite_f (decide_eq_false (by omega))]
    simp only [Int.toNat_natCast]
theorem sub_loop3 (l r : List Int) (J : Unit → Option Bool) (hl : l.length ≤ 60) (hr : r.length ≤ 60) (h : ∀ x ∈ l, x ∈ r) : F_laws_FnQuestions_L3 l r J fuel 0 = J () := by
  refine (loop_up (fun n i (s : Unit) => F_laws_FnQuestions_L3 l r J n i) (l.length : Int) (fun _ => ()) _ ?_ ?_ (by omega) fuel (by have := fuel_ge; omega))
  · intro n i i0 i1
    have hx := getD_in (P := fun x => x ∈ r) (i := i.toNat) (xs := l) (by omega) h
    rw [F_laws_FnQuestions_L3, ite_t (decide_eq_true i1), chk_pos ⟨i0, i1⟩, bnd1_eq (rHas_eq r _ (by omega)), decide_eq_true hx, ite_f (by rfl), chk_pos (by unfold I64; omega)]
  · intro n
    rw [F_laws_FnQuestions_L3, ite_f (decide_eq_false (by omega))]
theorem sub_loop4 (l r : List Int) (J : Unit → Option Bool) (hl : l.length ≤ 60) (hr : r.length ≤ 60) (h : ∀ x ∈ l, x ∈ r) : F_laws_FnQuestions_L4 r J l fuel 0 = J () := by
  refine (loop_up (fun n i (s : Unit) => F_laws_FnQuestions_L4 r J l n i) (l.length : Int) (fun _ => ()) _ ?_ ?_ (by omega) fuel (by have := fuel_ge; omega))
  · intro n i i0 i1
    have hx := getD_in (P := fun x => x ∈ r) (i := i.toNat) (xs := l) (by omega) h
    rw [F_laws_FnQuestions_L4, ite_t (decide_eq_true i1), chk_pos ⟨i0, i1⟩, bnd1_eq (rHas_eq r _ (by omega)), decide_eq_true hx, ite_f (by rfl), chk_pos (by unfold I64; omega)]
  · intro n
    rw [F_laws_FnQuestions_L4, ite_f (decide_eq_false (by omega))]
theorem law_questions {bs : List Int} (hy : okY bs) (hb : bs.length ≤ 9223372036854775807) : F_laws_FnQuestions bs = some true := by
  unfold F_laws_FnQuestions
  rw [chk_pos hb]
  rcases Bool.eq_false_or_eq_true (decide (((List.length bs : Nat) : Int) > (65536 : Int))) with hB | hB
  · rw [ite_t hB]
  rw [ite_f hB]
  obtain ⟨n, q, e1, n0, n1, q0, q1⟩ := drawOther_ok hy
  rw [bnd2_eq e1, bnd2_eq (sOtherQuestion_eq n q)]
  refine jn_is (fun J => J false) (fun J => by simp only [bne_self_eq_false, beq_self_eq_true, Bool.not_true, Bool.false_eq_true, if_false, if_true, bnd1, Option.bind]) ?_
  rw [ite_f rfl, bnd2_eq (iNumbersOf_eq n q), bnd2_eq (sNumbersOf_eq n q)]
  refine jn_is (fun J => J false) (fun J => by rw [rInts_eq _ _ (by have := numsN_len n q; omega)]; simp only [bne_self_eq_false, beq_self_eq_true, Bool.not_true, Bool.false_eq_true, if_false, if_true, bnd1, Option.bind]) ?_
  obtain ⟨k, xs, e2, k0, k1, hxs⟩ := drawQof_ok hy
  rw [ite_f rfl, bnd2_eq e2, bnd2_eq (iQuestionOf_eq k xs (by omega)), bnd2_eq (sQuestionOf_eq k xs (by omega))]
  refine jn_is (fun J => J false) (fun J => by simp only [bne_self_eq_false, beq_self_eq_true, Bool.not_true, Bool.false_eq_true, if_false, if_true, bnd1, Option.bind]) ?_
  obtain ⟨ys, m, e3, m0, m1, hys, _⟩ := drawOpen_ok hy
  rw [ite_f rfl, bnd2_eq e3, bnd2_eq (iOpenNumbers_eq ys m (by omega)), bnd2_eq (sOpenNumbers_eq ys m (by omega))]
  refine jn_is (fun J => J false) (fun J => by rw [chk_pos (by omega), rInts_eq _ _ (by have := opV_len ys m; omega)]; simp only [bne_self_eq_false, beq_self_eq_true, Bool.not_true, Bool.false_eq_true, if_false, if_true, bnd1, Option.bind]) ?_
  rw [ite_f rfl, bnd2_eq (iCountsOf_eq ys m (by omega)), bnd2_eq (sCountsOf_eq ys m (by omega))]
  refine jn_is (fun J => J false) (fun J => by rw [rInts_eq _ _ (by have := ctV_len ys m; omega)]; simp only [bne_self_eq_false, beq_self_eq_true, Bool.not_true, Bool.false_eq_true, if_false, if_true, bnd1, Option.bind]) ?_
  obtain ⟨ts, tm, e4, hts⟩ := drawTold_ok hy
  rw [ite_f rfl, bnd2_eq e4, bnd2_eq (iToldNumber_eq ts tm (by omega)), bnd2_eq (sToldNumber_eq ts tm (by omega))]
  refine jn_is (fun J => J false) (fun J => by simp only [bne_self_eq_false, beq_self_eq_true, Bool.not_true, Bool.false_eq_true, if_false, if_true, bnd1, Option.bind]) ?_
  obtain ⟨vs, vm, vq, e5, ⟨_, _, hvs, _⟩, _, _⟩ := drawVain_ok hy
  rw [ite_f rfl, bnd3_eq e5, bnd2_eq (iVainQuestion_eq vs vm vq (by omega)), bnd2_eq (sVainQuestion_eq vs vm vq (by omega))]
  refine jn_is (fun J => J false) (fun J => by simp only [bne_self_eq_false, beq_self_eq_true, Bool.not_true, Bool.false_eq_true, if_false, if_true, bnd1, Option.bind]) ?_
  rw [ite_f rfl]
  refine jn_is (fun J => J ()) (fun J => ?_) ?_
  · rcases Bool.eq_false_or_eq_true (tdB ts tm) with h | h
    · have ⟨h1, h2⟩ : isStateN ts tm = true ∧ (openN ts).length = 1 := by unfold tdB at h; simpa using h
      have e6 : opV ts tm = [tdV ts tm] := by unfold opV tdV; rw [if_pos h1, if_pos h]; exact one_list h2
      rw [ite_t h, bnd2_eq (iOpenNumbers_eq ts tm (by omega))]
      refine jn_is (fun J => J false) (fun J => ?_) (ite_f rfl _ _)
      rw [h1, ite_f (by rfl), rInts_eq _ _ (by have := opV_len ts tm; omega), e6]; simp only [bne_self_eq_false, beq_self_eq_true, Bool.not_true, Bool.false_eq_true, if_false, if_true, bnd1, Option.bind]
    · rw [ite_f h]
  refine jn_is (fun J => J ()) (fun J => ?_) ?_
  · rcases Bool.eq_false_or_eq_true (vnB vs vm vq) with h | h
    · have ⟨h1, h2⟩ : isStateN vs vm = true ∧ isQ ((vs.length : Nat) : Int) vq = true := by unfold vnB at h; simpa using h
      have hs := state_len h1
      have e6 : opV vs vm = openN vs := by unfold opV; rw [if_pos h1]
      have hol := openN_le vs
      have e7 : cntL (fun x => decide (x ∈ numsN ((vs.length : Nat) : Int) vq)) (openN vs) (openN vs).length = inN vs vq := by
        unfold inN numsN
        rw [if_pos h2, Int.toNat_natCast]
        refine cntL_congr _ (Nat.le_refl _) fun x hx => ?_
        obtain ⟨j, j1, _, rfl⟩ := mem_fl.1 hx
        rw [Bool.eq_iff_iff, decide_eq_true_eq, mem_nums]
        exact ⟨fun z => z.2.2, fun z => ⟨by omega, by omega, z⟩⟩
      have e8 : vnV vs vm vq = vainN vs vq := by unfold vnV; rw [h]; rfl
      rw [ite_t h, bnd2_eq (iOpenNumbers_eq vs vm (by omega)), bnd2_eq (iNumbersOf_eq _ _), h1, h2, e6]
      refine jn_is (fun J => J (inN vs vq)) (fun J => by rw [cnt_loop _ _ _ (by omega) (by have := numsN_len ((vs.length : Nat) : Int) vq; omega), e7]) ?_
      refine jn_is (fun J => J false) (fun J => ?_) (ite_f rfl _ _)
      rw [ite_f (by rfl), ite_f (by rfl), e8]
      unfold vainN
      rcases Bool.eq_false_or_eq_true (inN vs vq == (0 : Int)) with h3 | h3
      · rw [ite_t h3, h3]; rfl
      · rw [ite_f h3, h3]; simp
    · rw [ite_f h]
  refine jn_is (fun J => J ()) (fun J => ?_) ?_
  · rcases Bool.eq_false_or_eq_true (isStateN ys m) with h | h
    · have hs := state_len h
      have e6 : opV ys m = openN ys := by unfold opV; rw [if_pos h]
      have e7 : ctV ys m = ctP ys m ys.length := by unfold ctV; rw [if_pos h]
      have e8 := ct_sum h ys.length (Nat.le_refl _)
      have e9 : (ctP ys m ys.length).length = m.toNat + 1 := ctP_len
      rw [ite_t h, e6, e7]
      refine jn_is (fun J => J ((openN ys).length : Int)) (fun J => ?_) (ite_f (by simp) _ _)
      rw [sum_loop _ _ (by omega), e9, e8]
      · rfl
      · intro x hx
        obtain ⟨j, hj, rfl⟩ := List.mem_iff_getElem.1 hx
        have := ctP_bd (xs := ys) (m := m) (k := ys.length) (v := j) (by omega)
        rw [List.getD_eq_getElem?_getD, List.getElem?_eq_getElem hj] at this
        simp only [Option.getD_some] at this
        omega
    · rw [ite_f h]
  refine jn_is (fun J => J ()) (fun J => ?_) ?_
  · rcases Bool.eq_false_or_eq_true (qofB k xs) with h | h
    · obtain ⟨hn, hl, hall⟩ := numB_all h
      have hq := qof_isQ h
      have hmem : ∀ x, x ∈ numsN k (qofV k xs) ↔ x ∈ xs := by
        intro x
        unfold numsN
        rw [if_pos hq, mem_nums]
        constructor
        · rintro ⟨a, b, c⟩; exact (qof_has h x a (by omega)).1 c
        · intro hx; have := hall x hx; exact ⟨by omega, by omega, (qof_has h x (by omega) (by omega)).2 hx⟩
      have hnl := numsN_len k (qofV k xs)
      rw [ite_t h, bnd2_eq (iNumbersOf_eq _ _), hq, ite_f (by rfl)]
      refine jn_is (fun J => J ()) (fun J => ?_) ?_
      · rw [sub_loop3 _ _ _ (by omega) (by omega) (fun x hx => (hmem x).2 hx)]
      · rw [sub_loop4 _ _ _ (by omega) (by omega) (fun x hx => (hmem x).1 hx)]
    · rw [ite_f h]
  rcases Bool.eq_false_or_eq_true (isQ n q) with h | h
  · obtain ⟨h1, h2⟩ := qof_nums h
    obtain ⟨h3, h4, h5⟩ := oth_oth h
    rw [ite_f (by rw [h]; rfl), bnd2_eq (iQuestionOf_eq n _ (by have := numsN_len n q; omega)), h1, h2, h3, h4, h5]; simp only [bne_self_eq_false, beq_self_eq_true, Bool.not_true, Bool.false_eq_true, if_false, if_true, bnd1, Option.bind]
  · rw [ite_t (by rw [h]; rfl)]
end Go.Tl
