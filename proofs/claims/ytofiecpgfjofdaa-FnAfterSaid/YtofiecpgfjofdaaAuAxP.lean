/-
  Plain laws of the printed functions: no program here.
-/
import Derived.Test.YtofiecpgfjofdaaAuAxF
namespace Go.Tl
set_option linter.unusedVariables false
set_option linter.unusedSimpArgs false
/-- A loop, told by what its rounds keep. -/
theorem loop_m {σ R : Type} (L : Nat → σ → Option R) (I : σ → Prop) (μ : σ → Nat) (Q : Option R → Prop)
    (step : ∀ n s, I s → (∃ s', I s' ∧ μ s' < μ s ∧ L (n + 1) s = L n s') ∨ Q (L (n + 1) s)) : ∀ n s, I s → μ s < n → Q (L n s) := by
  intro n
  induction n with
  | zero => intro s _ h; omega
  | succ n ih =>
    intro s hI hm
    rcases step n s hI with ⟨s', h1, h2, h3⟩ | h
    · rw [h3]; exact ih s' h1 (by omega)
    · exact h
/-- A loop that counts up to N; st is its state by the count. -/
theorem loop_up {σ R : Type} (L : Nat → Int → σ → Option R) (N : Int) (st : Int → σ) (r : Option R)
    (step : ∀ n i, 0 ≤ i → i < N → L (n + 1) i (st i) = L n (i + 1) (st (i + 1))) (fin : ∀ n, L (n + 1) N (st N) = r) (h0 : 0 ≤ N) (n : Nat) (hn : N.toNat < n) : L n 0 (st 0) = r := by
  have key : ∀ (k : Nat) (n : Nat) (i : Int), 0 ≤ i → i + k = N → k < n → L n i (st i) = r := by
    intro k
    induction k with
    | zero => intro n i h1 h2 h3; obtain ⟨n, rfl⟩ : ∃ m, n = m + 1 := ⟨n - 1, by omega⟩; have e : i = N := by omega
              subst e; exact fin n
    | succ k ih =>
      intro n i h1 h2 h3
      obtain ⟨n, rfl⟩ : ∃ m, n = m + 1 := ⟨n - 1, by omega⟩
      rw [step n i h1 (by omega)]
      exact ih n (i + 1) (by omega) (by omega) (by omega)
  exact key N.toNat n 0 (Int.le_refl _) (by omega) hn
/-- A loop that counts up to N and may end early: with what p tells. -/
theorem loop_all {R : Type} (L : Nat → Int → Option R) (N : Int) (p : Int → Bool) (no yes : Option R)
    (step : ∀ n i, 0 ≤ i → i < N → p i = true → L (n + 1) i = L n (i + 1)) (stop : ∀ n i, 0 ≤ i → i < N → p i = false → L (n + 1) i = no) (fin : ∀ n, L (n + 1) N = yes) (h0 : 0 ≤ N) (n : Nat) (hn : N.toNat < n) :
    (L n 0 = yes ∧ ∀ i, 0 ≤ i → i < N → p i = true) ∨ (L n 0 = no ∧ ∃ i, 0 ≤ i ∧ i < N ∧ p i = false ∧ ∀ j, 0 ≤ j → j < i → p j = true) := by
  have key : ∀ (k : Nat) (n : Nat) (i : Int), 0 ≤ i → i + k = N → k < n → (∀ j, 0 ≤ j → j < i → p j = true) → (L n i = yes ∧ ∀ i, 0 ≤ i → i < N → p i = true) ∨ (L n i = no ∧ ∃ i, 0 ≤ i ∧ i < N ∧ p i = false ∧ ∀ j, 0 ≤ j → j < i → p j = true) := by
    intro k
    induction k with
    | zero => intro n i h1 h2 h3 h4; obtain ⟨n, rfl⟩ : ∃ m, n = m + 1 := ⟨n - 1, by omega⟩; have e : i = N := by omega
              subst e; exact .inl ⟨fin n, h4⟩
    | succ k ih =>
      intro n i h1 h2 h3 h4
      obtain ⟨n, rfl⟩ : ∃ m, n = m + 1 := ⟨n - 1, by omega⟩
      cases hp : p i with
      | false => exact .inr ⟨stop n i h1 (by omega) hp, i, h1, by omega, hp, h4⟩
      | true =>
        rw [step n i h1 (by omega) hp]
        refine ih n (i + 1) (by omega) (by omega) (by omega) fun j k1 k2 => ?_
        by_cases e : j = i
        · rw [e]; exact hp
        · exact h4 j k1 (by omega)
  exact key N.toNat n 0 (Int.le_refl _) (by omega) hn fun j h1 h2 => by omega
theorem ite_t {α : Type} {c : Bool} (h : c = true) (x y : α) : (bif c then x else y) = x := by rw [h]; rfl
theorem ite_f {α : Type} {c : Bool} (h : c = false) (x y : α) : (bif c then x else y) = y := by rw [h]; rfl
theorem ite_c {α : Type} {P : α → Prop} {c : Bool} {x y : α} (h1 : c = true → P x) (h2 : c = false → P y) : P (bif c then x else y) := by
  cases c
  · exact h2 rfl
  · exact h1 rfl
theorem getD_in {xs : List Int} {i : Nat} {P : Int → Prop} (h : i < xs.length) (hP : ∀ x ∈ xs, P x) : P (xs.getD i 0) := by
  rw [List.getD_eq_getElem?_getD, List.getElem?_eq_getElem h]; exact hP _ (List.getElem_mem h)
theorem maxN_in {a b : Int} : a ≤ maxN a b ∧ b ≤ maxN a b ∧ (maxN a b = a ∨ maxN a b = b) := by unfold maxN; split <;> omega
theorem minN_in {a b : Int} : minN a b ≤ a ∧ minN a b ≤ b ∧ (minN a b = a ∨ minN a b = b) := by unfold minN; split <;> omega
theorem next_ok {bs : List Int} {p s : Int} (hy : okY bs) (h0 : 0 ≤ p) (h1 : p ≤ 1000000000000) : ∃ v s', F_p_spec_l1Cur_next bs p s = some (v, bs, p + 1, s') ∧ 0 ≤ v ∧ v ≤ 255 := by
  unfold F_p_spec_l1Cur_next
  have hb := hy p.toNat
  have fin : ∀ v3 : Int, 0 ≤ v3 → v3 ≤ 255 → ∃ v s', (chk (I64 (p + (1 : Int))) <| nam (IntKind.wrap .u64 (s * (6364136223846793005 : Int))) fun n37 => nam (IntKind.wrap .u64 (n37 + (IntKind.wrap .u64 v3))) fun n40 => (bif (decide ((p + (1 : Int)) ≤ ((List.length bs : Nat) : Int))) then some (v3, bs, (p + (1 : Int)), (IntKind.wrap .u64 (n40 + (462197 : Int)))) else nam (bits .and .u64 ((IntKind.wrap .u64 (n40 + (462197 : Int))) / 2 ^ Int.toNat (40 : Int)) (255 : Int)) fun n60 => chk (I64 n60) <| some (n60, bs, (p + (1 : Int)), (IntKind.wrap .u64 (n40 + (462197 : Int)))))) = some (v, bs, p + 1, s') ∧ 0 ≤ v ∧ v ≤ 255 := by
    intro v3 k0 k1
    rw [chk_pos (by unfold I64; omega)]
    simp only [nam]
    refine ite_c (P := fun o => ∃ v s', o = some (v, bs, p + 1, s') ∧ 0 ≤ v ∧ v ≤ 255) (fun _ => ?_) (fun _ => ?_)
    · exact ⟨_, _, rfl, k0, k1⟩
    · have h2 := and255 ((IntKind.wrap .u64 ((IntKind.wrap .u64 ((IntKind.wrap .u64 (s * (6364136223846793005 : Int))) + (IntKind.wrap .u64 v3))) + (462197 : Int))) / 2 ^ Int.toNat (40 : Int))
      rw [chk_pos (by unfold I64; omega)]
      exact ⟨_, _, rfl, h2.1, h2.2⟩
  simp only [jn]
  refine ite_c (P := fun o => ∃ v s', o = some (v, bs, p + 1, s') ∧ 0 ≤ v ∧ v ≤ 255) (fun h => ?_) (fun _ => ?_)
  · have h := of_decide_eq_true h
    rw [chk_pos (by omega), chk_pos (by unfold I64; omega)]
    exact fin _ hb.1 hb.2
  · exact fin 0 (by omega) (by omega)
theorem tmod_in {a n : Int} (h0 : 0 ≤ a) (h1 : 0 < n) : 0 ≤ Int.tmod a n ∧ Int.tmod a n < n := ⟨Int.tmod_nonneg _ h0, Int.tmod_lt_of_pos _ h1⟩
theorem pick_ok {bs : List Int} {p s n : Int} (hy : okY bs) (h0 : 0 ≤ p) (h1 : p ≤ 900000000000) : ∃ v p' s', F_p_spec_l1Cur_pick bs p s n = some (v, bs, p', s') ∧ p ≤ p' ∧ p' ≤ p + 2 ∧ 0 ≤ v ∧ (1 ≤ n → v < n) := by
  unfold F_p_spec_l1Cur_pick
  rcases Bool.eq_false_or_eq_true (decide (n ≤ (1 : Int))) with h | h
  · have h := of_decide_eq_true h
    rw [ite_t (decide_eq_true h)]
    exact ⟨0, p, s, rfl, by omega, by omega, by omega, fun _ => by omega⟩
  · rw [ite_f h]
    have h := of_decide_eq_false h
    obtain ⟨v, s', e, g0, g1⟩ := next_ok (s := s) hy h0 (by omega)
    rw [bnd4_eq e]
    simp only [jn]
    rcases Bool.eq_false_or_eq_true (decide (n > (200 : Int))) with h4 | h4
    · rw [ite_t h4]
      obtain ⟨v2, s2, e2, k0, k1⟩ := next_ok (s := s') hy (p := p + 1) (by omega) (by omega)
      rw [chk_pos (by unfold I64; omega), bnd4_eq e2, chk_pos (by unfold I64; omega), chk_pos (by omega)]
      have := tmod_in (a := v * 256 + v2) (n := n) (by omega) (by omega)
      exact ⟨_, _, _, rfl, by omega, by omega, this.1, fun _ => this.2⟩
    · rw [ite_f h4]
      rw [chk_pos (by omega)]
      have := tmod_in (a := v) (n := n) (by omega) (by omega)
      exact ⟨_, _, _, rfl, by omega, by omega, this.1, fun _ => this.2⟩
theorem one_ok {bs : List Int} {p s n : Int} (hy : okY bs) (h0 : 0 ≤ p) (h1 : p ≤ 900000000000) : ∃ b p' s', F_p_spec_l1Cur_one bs p s n = some (b, bs, p', s') ∧ p ≤ p' ∧ p' ≤ p + 2 := by
  unfold F_p_spec_l1Cur_one
  obtain ⟨v, p', s', e, g0, g1, g2, g3⟩ := pick_ok (s := s) (n := n) hy h0 h1
  rw [bnd4_eq e]
  exact ⟨_, _, _, rfl, g0, g1⟩
theorem among_ok {bs : List Int} {p s : Int} {xs : List Int} (hy : okY bs) (h0 : 0 ≤ p) (h1 : p ≤ 900000000000) (hx : 0 < xs.length) : ∃ v p' s', F_p_spec_l1Cur_among bs p s xs = some (v, bs, p', s') ∧ p ≤ p' ∧ p' ≤ p + 2 ∧ v ∈ xs := by
  unfold F_p_spec_l1Cur_among
  obtain ⟨v, p', s', e, g0, g1, g2, g3⟩ := pick_ok (s := s) (n := ((List.length xs : Nat) : Int)) hy h0 h1
  rw [bnd4_eq e, chk_pos ⟨g2, g3 (by omega)⟩]
  refine ⟨_, _, _, rfl, g0, g1, ?_⟩
  have := g3 (by omega)
  exact getD_in (P := fun x => x ∈ xs) (by omega) fun x hx => hx
theorem many_ok {bs : List Int} {p s : Int} (hy : okY bs) (h0 : 0 ≤ p) (h1 : p ≤ 900000000000) : ∃ v p' s', F_p_spec_l1Cur_many bs p s = some (v, bs, p', s') ∧ p ≤ p' ∧ p' ≤ p + 2 ∧ 0 ≤ v ∧ v ≤ 13 := by
  unfold F_p_spec_l1Cur_many
  obtain ⟨v, p', s', e, g0, g1, g2⟩ := among_ok (s := s) (xs := [(4 : Int), (6 : Int), (8 : Int), (3 : Int), (5 : Int), (2 : Int), (7 : Int), (12 : Int), (1 : Int), (0 : Int), (13 : Int), (4 : Int), (6 : Int), (8 : Int), (3 : Int), (5 : Int)]) hy h0 h1 (by decide)
  rw [bnd4_eq e]
  refine ⟨_, _, _, rfl, g0, g1, ?_⟩
  simp only [List.mem_cons, List.not_mem_nil, or_false] at g2
  omega
theorem pow13 {n : Int} (h0 : 0 ≤ n) (h1 : n ≤ 13) : 1 ≤ (2 : Int) ^ n.toNat ∧ (2 : Int) ^ n.toNat ≤ 8192 := by
  obtain ⟨k, rfl⟩ : ∃ k : Nat, n = k := ⟨n.toNat, by omega⟩
  have : k ≤ 13 := by omega
  simp only [Int.toNat_natCast]
  match k, this with
  | 0, _ | 1, _ | 2, _ | 3, _ | 4, _ | 5, _ | 6, _ | 7, _ | 8, _ | 9, _ | 10, _ | 11, _ | 12, _ | 13, _ => decide
theorem question_ok {bs : List Int} {p s n : Int} (hy : okY bs) (h0 : 0 ≤ p) (h1 : p ≤ 800000000000) : ∃ v p' s', F_p_spec_l1Cur_question bs p s n = some (v, bs, p', s') ∧ p ≤ p' ∧ p' ≤ p + 4 ∧ -1 ≤ v ∧ v ≤ 4611686018427387904 := by
  unfold F_p_spec_l1Cur_question
  obtain ⟨v, p', s', e, g0, g1⟩ := one_ok (s := s) (n := 24) hy h0 (by omega)
  rw [bnd4_eq e]
  have a1 := minN_in (a := n) (b := 13)
  have a2 := maxN_in (a := 0) (b := minN n 13)
  have a3 := minN_in (a := n) (b := 12)
  have a4 := maxN_in (a := 0) (b := minN n 12)
  have b1 := pow13 (n := maxN 0 (minN n 13)) (by omega) (by omega)
  have b2 := pow13 (n := maxN 0 (minN n 12)) (by omega) (by omega)
  rcases Bool.eq_false_or_eq_true v with h4 | h4
  · rw [ite_t h4]
    rw [chk_pos ⟨by omega, by omega, by unfold I64; omega⟩]
    obtain ⟨v2, p2, s2, e2, k0, k1, k2⟩ := among_ok (s := s') (xs := [(-1 : Int), ((1 : Int) * 2 ^ Int.toNat (maxN (0 : Int) (minN n (13 : Int)))), (4611686018427387904 : Int)]) hy (p := p') (by omega) (by omega) (by simp)
    rw [bnd4_eq e2]
    refine ⟨_, _, _, rfl, by omega, by omega, ?_⟩
    simp only [List.mem_cons, List.not_mem_nil, or_false] at k2
    omega
  · rw [ite_f h4]
    rw [chk_pos ⟨by omega, by omega, by unfold I64; omega⟩]
    obtain ⟨v2, p2, s2, e2, k0, k1, k2, k3⟩ := pick_ok (s := s') (n := (1 : Int) * 2 ^ Int.toNat (maxN (0 : Int) (minN n (12 : Int)))) hy (p := p') (by omega) (by omega)
    rw [bnd4_eq e2]
    have := k3 (by omega)
    exact ⟨_, _, _, rfl, by omega, by omega, by omega, by omega⟩
theorem jn_is {γ δ : Type} {f : γ} {g : γ → Option δ} {r : Option δ} (k : γ → Option δ) (h : ∀ J, g J = k J) (h2 : k f = r) : jn f g = r := by
  unfold jn; rw [h f]; exact h2
/-- The numbers below k that p tells. -/
def fl (p : Nat → Bool) (k : Nat) : List Int := ((List.range k).filter p).map fun (i : Nat) => (i : Int)
theorem fl_yes {p : Nat → Bool} {k : Nat} (h : p k = true) : fl p (k + 1) = fl p k ++ [(k : Int)] := by
  unfold fl; rw [List.range_succ, List.filter_append, List.map_append, List.filter_cons, if_pos h]; rfl
theorem fl_no {p : Nat → Bool} {k : Nat} (h : p k = false) : fl p (k + 1) = fl p k := by
  unfold fl; rw [List.range_succ, List.filter_append, List.map_append, List.filter_cons, if_neg (by rw [h]; simp)]; simp
theorem fl_len (p : Nat → Bool) (k : Nat) : (fl p k).length ≤ k := by
  unfold fl; rw [List.length_map]; exact Nat.le_trans (List.length_filter_le _ _) (by simp)
theorem mem_fl {p : Nat → Bool} {k : Nat} {x : Int} : x ∈ fl p k ↔ ∃ i : Nat, i < k ∧ p i = true ∧ x = (i : Int) := by
  unfold fl
  simp only [List.mem_map, List.mem_filter, List.mem_range]
  constructor
  · rintro ⟨i, ⟨h1, h2⟩, rfl⟩; exact ⟨i, h1, h2, rfl⟩
  · rintro ⟨i, h1, h2, rfl⟩; exact ⟨i, ⟨h1, h2⟩, rfl⟩
theorem fl_getD {p : Nat → Bool} {k i : Nat} (h : i < (fl p k).length) : ∃ j : Nat, j < k ∧ p j = true ∧ (fl p k).getD i 0 = (j : Int) := by
  have : (fl p k).getD i 0 ∈ fl p k := getD_in (P := fun x => x ∈ fl p k) h fun x hx => hx
  obtain ⟨j, h1, h2, h3⟩ := mem_fl.1 this
  exact ⟨j, h1, h2, h3⟩
theorem openN_fl (xs : List Int) : openN xs = fl (fun i => decide (xs.getD i 0 ≥ 0)) xs.length := rfl
theorem int_nat {i : Int} (h : 0 ≤ i) : ∃ k : Nat, i = (k : Int) := ⟨i.toNat, by omega⟩
theorem bits_nat_or {a b : Nat} (ha : a < 9223372036854775808) (hb : b < 9223372036854775808) : bits .or .i64 (a : Int) (b : Int) = ((a ||| b : Nat) : Int) := by
  have hc : a ||| b < 2 ^ 63 := Nat.or_lt_two_pow (by omega) (by omega)
  unfold bits
  rw [IntKind.wrap_i64]
  show (((BitVec.ofInt 64 (a : Int) ||| BitVec.ofInt 64 (b : Int)).toNat : Int) + 9223372036854775808) % 18446744073709551616 - 9223372036854775808 = _
  rw [BitVec.toNat_or, BitVec.toNat_ofInt, BitVec.toNat_ofInt]
  have e1 : ((a : Int) % ((2 ^ 64 : Nat) : Int)).toNat = a := by omega
  have e2 : ((b : Int) % ((2 ^ 64 : Nat) : Int)).toNat = b := by omega
  rw [e1, e2]
  omega
theorem bits_nat_and {a b : Nat} (ha : a < 9223372036854775808) (hb : b < 9223372036854775808) : bits .and .i64 (a : Int) (b : Int) = ((a &&& b : Nat) : Int) := by
  have hc : a &&& b < 2 ^ 63 := Nat.and_lt_two_pow _ (by omega)
  unfold bits
  rw [IntKind.wrap_i64]
  show (((BitVec.ofInt 64 (a : Int) &&& BitVec.ofInt 64 (b : Int)).toNat : Int) + 9223372036854775808) % 18446744073709551616 - 9223372036854775808 = _
  rw [BitVec.toNat_and, BitVec.toNat_ofInt, BitVec.toNat_ofInt]
  have e1 : ((a : Int) % ((2 ^ 64 : Nat) : Int)).toNat = a := by omega
  have e2 : ((b : Int) % ((2 ^ 64 : Nat) : Int)).toNat = b := by omega
  rw [e1, e2]
  omega
theorem has_nat {q k : Nat} (hk : k ≤ 64) : hasB (q : Int) (k : Int) = q.testBit k := by
  unfold hasB
  rw [and1, Int.toNat_natCast, Nat.min_eq_left hk, Int.fdiv_eq_ediv_of_nonneg _ (Int.le_of_lt (Int.pow_pos (by decide))), Nat.testBit_eq_decide_div_mod_eq]
  have e : (q : Int) / 2 ^ k % 2 = ((q / 2 ^ k % 2 : Nat) : Int) := by norm_cast
  rw [e]
  have : q / 2 ^ k % 2 = 0 ∨ q / 2 ^ k % 2 = 1 := by omega
  rcases this with h | h <;> rw [h] <;> rfl
theorem has_raw {q k : Int} (h0 : 0 ≤ k) (h1 : k < 64) : (bits .and .i64 (q / 2 ^ Int.toNat k) (1 : Int) == (1 : Int)) = hasB q k := by
  unfold hasB
  rw [Nat.min_eq_left (by omega), Int.fdiv_eq_ediv_of_nonneg _ (Int.le_of_lt (Int.pow_pos (by decide)))]
theorem and1_has {q k : Int} (h0 : 0 ≤ k) (h1 : k < 64) : bits .and .i64 (q / 2 ^ Int.toNat k) (1 : Int) = bif hasB q k then 1 else 0 := by
  rw [← has_raw h0 h1, and1]
  have : q / 2 ^ k.toNat % 2 = 0 ∨ q / 2 ^ k.toNat % 2 = 1 := by omega
  rcases this with h | h <;> rw [h] <;> rfl
theorem isQ_nat {n q : Int} (h : isQ n q = true) : ∃ n' q' : Nat, n = n' ∧ q = q' ∧ 1 ≤ n' ∧ n' ≤ 12 ∧ q' < 2 ^ n' := by
  obtain ⟨⟨h0, h1, h2⟩, h3, h4⟩ := isQ_in h
  obtain ⟨n', rfl⟩ := int_nat h0
  obtain ⟨q', rfl⟩ := int_nat h3
  refine ⟨n', q', rfl, rfl, by omega, by omega, ?_⟩
  simp only [Int.toNat_natCast] at h4
  have : ((2 ^ n' : Nat) : Int) = (2 : Int) ^ n' := by norm_cast
  omega
theorem tmod_nn (a b : Nat) : Int.tmod (a : Int) (b : Int) = ((a % b : Nat) : Int) := rfl
theorem tdiv_nn (a b : Nat) : Int.tdiv (a : Int) (b : Int) = ((a / b : Nat) : Int) := rfl
/-- Euclid's loop: two rounds halve the number. -/
theorem gcd_loop {R : Type} (L : Nat → Int → Int → Option R) (J : Int → Option R) (h0 : ∀ n a, L (n + 1) 0 a = J a) (h1 : ∀ n b a, 0 < b → L (n + 1) b a = L n (Int.tmod a b) b) : ∀ (k n a b : Nat), b < 2 ^ k → 2 * k < n → L n (b : Int) (a : Int) = J ((Nat.gcd a b : Nat) : Int) := by
  intro k
  induction k with
  | zero =>
    intro n a b h hn
    obtain ⟨n, rfl⟩ : ∃ m, n = m + 1 := ⟨n - 1, by omega⟩
    have : b = 0 := by simpa using h
    subst this
    rw [Nat.gcd_zero_right]; exact h0 n _
  | succ k ih =>
    intro n a b h hn
    obtain ⟨n, rfl⟩ : ∃ m, n = m + 1 := ⟨n - 1, by omega⟩
    obtain ⟨n, rfl⟩ : ∃ m, n = m + 1 := ⟨n - 1, by omega⟩
    by_cases hb : b = 0
    · subst hb
      rw [Nat.gcd_zero_right]; exact h0 _ _
    · have hm : a % b < b := Nat.mod_lt _ (by omega)
      have e1 : Nat.gcd a b = Nat.gcd b (a % b) := by rw [Nat.gcd_comm a b, Nat.gcd_rec b a, Nat.gcd_comm]
      rw [h1 _ _ _ (by omega), tmod_nn, e1]
      generalize a % b = r at hm
      by_cases hr : r = 0
      · subst hr
        rw [Nat.gcd_zero_right]; exact h0 _ _
      · have hm2 : b % r < r := Nat.mod_lt _ (by omega)
        have e2 : Nat.gcd b r = Nat.gcd r (b % r) := by rw [Nat.gcd_comm b r, Nat.gcd_rec r b, Nat.gcd_comm]
        have h3 : r * (b / r) + b % r = b := Nat.div_add_mod b r
        have h4 : 1 ≤ b / r := Nat.div_pos (by omega) (by omega)
        have h5 : r ≤ r * (b / r) := Nat.le_mul_of_pos_right r h4
        rw [Nat.pow_succ] at h
        rw [h1 _ _ _ (by omega), tmod_nn, e2, ih n r (b % r) (by omega) (by omega)]
/-- The fraction s over t in its lowest terms. -/
def frN (s t : Nat) : Int × Int := (((s / Nat.gcd s t : Nat) : Int), ((t / Nat.gcd s t : Nat) : Int))
theorem fr_parts {s T : Nat} (hT : 1 ≤ T) : ∃ a b g : Nat, frN s T = ((a : Int), (b : Int)) ∧ s = a * g ∧ T = b * g ∧ 1 ≤ b ∧ 1 ≤ g ∧ a ≤ s ∧ b ≤ T := by
  have hg : 0 < Nat.gcd s T := Nat.gcd_pos_of_pos_right _ hT
  have h1 := Nat.div_mul_cancel (Nat.gcd_dvd_left s T)
  have h2 := Nat.div_mul_cancel (Nat.gcd_dvd_right s T)
  refine ⟨s / Nat.gcd s T, T / Nat.gcd s T, Nat.gcd s T, rfl, h1.symm, h2.symm, ?_, hg, Nat.div_le_self _ _, Nat.div_le_self _ _⟩
  exact Nat.div_pos (Nat.le_of_dvd hT (Nat.gcd_dvd_right s T)) hg
theorem fr_inj {s u T : Nat} (hT : 1 ≤ T) (h : frN s T = frN u T) : s = u := by
  obtain ⟨a, b, g, e, h1, h2, h3, h4, _⟩ := fr_parts (s := s) hT
  obtain ⟨a', b', g', e', h1', h2', h3', h4', _⟩ := fr_parts (s := u) hT
  rw [e, e'] at h
  have hb : b = b' := by have := congrArg Prod.snd h; exact Int.ofNat.inj this
  have ha : a = a' := by have := congrArg Prod.fst h; exact Int.ofNat.inj this
  subst hb ha
  have : g = g' := Nat.eq_of_mul_eq_mul_left h3 (by omega)
  rw [h1, h1', this]
theorem fr_zero {T : Nat} (hT : 1 ≤ T) : frN 0 T = (0, 1) := by
  unfold frN; rw [Nat.gcd_zero_left, Nat.zero_div, Nat.div_self hT]; rfl
theorem fr_full {T : Nat} (hT : 1 ≤ T) : frN T T = (1, 1) := by
  unfold frN; rw [Nat.gcd_self, Nat.div_self hT]; rfl
theorem fr_one (T : Nat) : frN 1 T = (1, (T : Int)) := by
  unfold frN; rw [Nat.gcd_one_left, Nat.div_one, Nat.div_one]; rfl
/-- Two fractions of one whole, over the least common whole of their own. -/
theorem fr_two {s u T : Nat} (hT : 1 ≤ T) : ∃ a b c d k : Nat, frN s T = ((a : Int), (b : Int)) ∧ frN u T = ((c : Int), (d : Int)) ∧ 1 ≤ b ∧ 1 ≤ d ∧ 1 ≤ k ∧ 1 ≤ Nat.gcd b d ∧
    s = a * (d / Nat.gcd b d) * k ∧ u = c * (b / Nat.gcd b d) * k ∧ T = b / Nat.gcd b d * d * k ∧ b ≤ T ∧ d ≤ T := by
  obtain ⟨a, b, g, e, h1, h2, h3, h4, _, hb⟩ := fr_parts (s := s) hT
  obtain ⟨c, d, g', e', h1', h2', h3', h4', _, hd⟩ := fr_parts (s := u) hT
  have hg : 0 < Nat.gcd b d := Nat.gcd_pos_of_pos_right _ h3'
  obtain ⟨b1, hb1⟩ := Nat.gcd_dvd_left b d
  obtain ⟨d1, hd1⟩ := Nat.gcd_dvd_right b d
  have eb : b / Nat.gcd b d = b1 := by
    have := Nat.mul_div_cancel_left b1 hg
    rw [← hb1] at this; exact this
  have ed : d / Nat.gcd b d = d1 := by
    have := Nat.mul_div_cancel_left d1 hg
    rw [← hd1] at this; exact this
  have hl : Nat.lcm b d ∣ T := Nat.lcm_dvd ⟨g, h2⟩ ⟨g', h2'⟩
  obtain ⟨k, hk⟩ := hl
  have el : Nat.lcm b d = b1 * d := by
    have h5 := Nat.gcd_mul_lcm b d
    refine Nat.eq_of_mul_eq_mul_left hg ?_
    rw [h5, ← Nat.mul_assoc, ← hb1]
  rw [el] at hk
  have hk1 : 1 ≤ k := by
    rcases Nat.eq_zero_or_pos k with h0 | h0
    · rw [h0, Nat.mul_zero] at hk; omega
    · exact h0
  refine ⟨a, b, c, d, k, e, e', h3, h3', hk1, hg, ?_, ?_, ?_, hb, hd⟩
  · rw [ed]
    have : g = d1 * k := by
      refine Nat.eq_of_mul_eq_mul_left h3 ?_
      rw [← h2, hk, ← Nat.mul_assoc]
      congr 1
      conv => lhs; rw [hd1]
      conv => rhs; rw [hb1]
      rw [Nat.mul_comm (Nat.gcd b d) b1, Nat.mul_assoc]
    rw [h1, this, Nat.mul_assoc]
  · rw [eb]
    have : g' = b1 * k := by
      refine Nat.eq_of_mul_eq_mul_left h3' ?_
      rw [← h2', hk, ← Nat.mul_assoc, Nat.mul_comm b1 d]
    rw [h1', this, Nat.mul_assoc]
  · rw [eb]; exact hk
theorem le_mul1 {a k : Nat} (h : 1 ≤ k) : a ≤ a * k := Nat.le_mul_of_pos_right a h
theorem vPlus_eq {s u T : Nat} (hT : 1 ≤ T) (hT2 : T < 1000000000000000) (hs : s + u < 1000000000000000) : F_laws_vPlus (frN s T).1 (frN s T).2 (frN u T).1 (frN u T).2 = some (frN (s + u) T) := by
  obtain ⟨a, b, c, d, k, e1, e2, hb, hd, hk, hg, es, eu, eT, hbT, hdT⟩ := fr_two (s := s) (u := u) hT
  rw [e1, e2]
  unfold F_laws_vPlus
  have L1 : ∀ J : Int → Option (Int × Int), F_laws_vPlus_L1 J fuel (d : Int) (b : Int) = J ((Nat.gcd b d : Nat) : Int) := fun J => by
    refine gcd_loop (F_laws_vPlus_L1 J) J (fun n a => ?_) (fun n b a h => ?_) 50 fuel b d (by omega) (by have := fuel_ge; omega)
    · rw [F_laws_vPlus_L1, ite_f (by decide)]
    · rw [F_laws_vPlus_L1, ite_t (decide_eq_true h), chk_pos (by omega)]
  have L2 : ∀ (J : Int → Option (Int × Int)) (n m : Nat), m < 1000000000000000 → F_laws_vPlus_L2 J fuel (m : Int) (n : Int) = J ((Nat.gcd n m : Nat) : Int) := fun J n m hm => by
    refine gcd_loop (F_laws_vPlus_L2 J) J (fun n a => ?_) (fun n b a h => ?_) 50 fuel n m (by omega) (by have := fuel_ge; omega)
    · rw [F_laws_vPlus_L2, ite_f (by decide)]
    · rw [F_laws_vPlus_L2, ite_t (decide_eq_true h), chk_pos (by omega)]
  refine jn_is (fun J => J ((Nat.gcd b d : Nat) : Int)) L1 ?_
  generalize hgg : Nat.gcd b d = g at *
  have q1 : d / g ≤ d := Nat.div_le_self _ _
  have q2 : b / g ≤ b := Nat.div_le_self _ _
  generalize hdd : d / g = d1 at *
  have q3 : a * d1 ≤ s := by rw [es]; exact le_mul1 hk
  have q4 : c * (b / g) ≤ u := by rw [eu]; exact le_mul1 hk
  generalize hbb : b / g = b1 at *
  have q5 : b1 * d ≤ T := by rw [eT]; exact le_mul1 hk
  have c1 : (a : Int) * (d1 : Int) = ((a * d1 : Nat) : Int) := by norm_cast
  have c2 : (c : Int) * (b1 : Int) = ((c * b1 : Nat) : Int) := by norm_cast
  have c3 : (b1 : Int) * (d : Int) = ((b1 * d : Nat) : Int) := by norm_cast
  have c4 : ((a * d1 : Nat) : Int) + ((c * b1 : Nat) : Int) = ((a * d1 + c * b1 : Nat) : Int) := by norm_cast
  rw [tdiv_nn, tdiv_nn, hdd, hbb, c1, c2, c3, c4]
  rw [chk_pos (by unfold I64; omega), chk_pos (by omega), chk_pos (by unfold I64; omega), chk_pos (by unfold I64; omega), chk_pos (by unfold I64; omega), chk_pos (by unfold I64; omega)]
  simp only [nam]
  rw [chk_pos (by unfold I64; omega)]
  refine jn_is (fun J => J ((Nat.gcd (a * d1 + c * b1) (b1 * d) : Nat) : Int)) (fun J => L2 J _ _ (by omega)) ?_
  have hm : 1 ≤ b1 * d := by
    rcases Nat.eq_zero_or_pos (b1 * d) with h0 | h0
    · rw [h0, Nat.zero_mul] at eT; omega
    · exact h0
  have hgp : 0 < Nat.gcd (a * d1 + c * b1) (b1 * d) := Nat.gcd_pos_of_pos_right _ hm
  have r1 : (a * d1 + c * b1) / Nat.gcd (a * d1 + c * b1) (b1 * d) ≤ a * d1 + c * b1 := Nat.div_le_self _ _
  have r2 : (b1 * d) / Nat.gcd (a * d1 + c * b1) (b1 * d) ≤ b1 * d := Nat.div_le_self _ _
  have z1 := Int.natCast_nonneg ((a * d1 + c * b1) / Nat.gcd (a * d1 + c * b1) (b1 * d))
  have z2 := Int.natCast_nonneg ((b1 * d) / Nat.gcd (a * d1 + c * b1) (b1 * d))
  have es : s + u = (a * d1 + c * b1) * k := by rw [es, eu, Nat.add_mul]
  rw [tdiv_nn, tdiv_nn, chk_pos (by unfold I64; omega), chk_pos (by omega), chk_pos (by unfold I64; omega)]
  unfold frN
  rw [es, eT, Nat.gcd_mul_right, Nat.mul_div_mul_right _ _ hk, Nat.mul_div_mul_right _ _ hk]
theorem vLess_eq {s u T : Nat} (hT : 1 ≤ T) (hT2 : T < 1000000000000000) (hs : s + u < 1000000000000000) : F_laws_vLess (frN s T).1 (frN s T).2 (frN u T).1 (frN u T).2 = some (decide (s < u)) := by
  obtain ⟨a, b, c, d, k, e1, e2, hb, hd, hk, hg, es, eu, eT, hbT, hdT⟩ := fr_two (s := s) (u := u) hT
  rw [e1, e2]
  unfold F_laws_vLess
  have L1 : ∀ J : Int → Option Bool, F_laws_vLess_L1 J fuel (d : Int) (b : Int) = J ((Nat.gcd b d : Nat) : Int) := fun J => by
    refine gcd_loop (F_laws_vLess_L1 J) J (fun n a => ?_) (fun n b a h => ?_) 50 fuel b d (by omega) (by have := fuel_ge; omega)
    · rw [F_laws_vLess_L1, ite_f (by decide)]
    · rw [F_laws_vLess_L1, ite_t (decide_eq_true h), chk_pos (by omega)]
  refine jn_is (fun J => J ((Nat.gcd b d : Nat) : Int)) L1 ?_
  generalize hgg : Nat.gcd b d = g at *
  have q1 : d / g ≤ d := Nat.div_le_self _ _
  have q2 : b / g ≤ b := Nat.div_le_self _ _
  generalize hdd : d / g = d1 at *
  have q3 : a * d1 ≤ s := by rw [es]; exact le_mul1 hk
  have q4 : c * (b / g) ≤ u := by rw [eu]; exact le_mul1 hk
  generalize hbb : b / g = b1 at *
  have c1 : (a : Int) * (d1 : Int) = ((a * d1 : Nat) : Int) := by norm_cast
  have c2 : (c : Int) * (b1 : Int) = ((c * b1 : Nat) : Int) := by norm_cast
  rw [tdiv_nn, tdiv_nn, hdd, hbb, c1, c2]
  rw [chk_pos (by unfold I64; omega), chk_pos (by omega), chk_pos (by unfold I64; omega), chk_pos (by unfold I64; omega), chk_pos (by unfold I64; omega)]
  congr 1
  rw [decide_eq_decide, es, eu]
  constructor
  · intro h; exact Nat.mul_lt_mul_of_pos_right (by omega) hk
  · intro h; have := Nat.lt_of_mul_lt_mul_right h; omega
/-- The numbers of w, below n. -/
def lst (w : Nat → Nat) (n : Nat) : List Int := (List.range n).map fun i => ((w i : Nat) : Int)
theorem lst_len (w : Nat → Nat) (n : Nat) : (lst w n).length = n := by unfold lst; simp
theorem lst_succ (w : Nat → Nat) (n : Nat) : lst w (n + 1) = lst w n ++ [((w n : Nat) : Int)] := by unfold lst; rw [List.range_succ, List.map_append]; rfl
theorem lst_get {w : Nat → Nat} {n i : Nat} (h : i < n) : (lst w n).getD i 0 = ((w i : Nat) : Int) := by
  unfold lst; rw [List.getD_eq_getElem?_getD, List.getElem?_map, List.getElem?_range h]; rfl
/-- Their sum. -/
def sm (w : Nat → Nat) : Nat → Nat
  | 0 => 0
  | i + 1 => sm w i + w i
theorem sm_s (w : Nat → Nat) (i : Nat) : sm w (i + 1) = sm w i + w i := rfl
/-- The sum of those that a question holds. -/
def inW (w : Nat → Nat) (q : Nat) : Nat → Nat
  | 0 => 0
  | i + 1 => inW w q i + (bif q.testBit i then w i else 0)
theorem inW_le (w : Nat → Nat) (q : Nat) : ∀ n, inW w q n ≤ sm w n
  | 0 => Nat.le_refl _
  | n + 1 => by
    have := inW_le w q n
    unfold inW sm
    cases q.testBit n <;> simp only [cond_true, cond_false] <;> omega
theorem sm_le {w : Nat → Nat} {B : Nat} (h : ∀ i, w i ≤ B) : ∀ n, sm w n ≤ B * n
  | 0 => by simp [sm]
  | n + 1 => by have := sm_le h n; have := h n; unfold sm; rw [Nat.mul_succ]; omega
theorem sm_mono (w : Nat → Nat) {i n : Nat} (h : i ≤ n) : sm w i ≤ sm w n := by
  induction n with
  | zero => have : i = 0 := by omega
            subst this; exact Nat.le_refl _
  | succ n ih =>
    by_cases e : i = n + 1
    · subst e; exact Nat.le_refl _
    · have := ih (by omega); rw [sm_s]; omega
theorem sm_each (w : Nat → Nat) {i n : Nat} (h : i < n) : w i ≤ sm w n := by
  have := sm_mono w (i := i + 1) (n := n) (by omega)
  rw [sm_s] at this; omega
theorem iSum_eq {w : Nat → Nat} {n : Nat} (hn : n ≤ 12) (hT : sm w n < 1000000000000000) : F_impl_sum (lst w n) = some ((sm w n : Nat) : Int) := by
  unfold F_impl_sum
  simp only [jn]
  refine loop_up (fun k i (s : Int) => F_impl_sum_L1 (lst w n) some k i s) (n : Int) (fun i => ((sm w i.toNat : Nat) : Int)) _ ?_ ?_ (by omega) fuel (by have := fuel_ge; omega)
  · intro k i i0 i1
    obtain ⟨j, rfl⟩ := int_nat i0
    have hj : j < n := by omega
    have e1 : ((j : Int) + 1).toNat = j + 1 := by omega
    have hm := sm_mono w (i := j + 1) (n := n) (by omega)
    simp only [Int.toNat_natCast, e1]
    rw [sm_s] at hm
    rw [F_impl_sum_L1, lst_len, ite_t (decide_eq_true i1), chk_pos ⟨i0, i1⟩, Int.toNat_natCast, lst_get hj, chk_pos (by unfold I64; omega), chk_pos (by unfold I64; omega), sm]
    congr 1
  · intro k
    rw [F_impl_sum_L1, lst_len, ite_f (decide_eq_false (by omega)), Int.toNat_natCast]
theorem iWithin_eq {w : Nat → Nat} {n q : Nat} (hn : n ≤ 12) (hT : sm w n < 1000000000000000) : F_impl_within (lst w n) (q : Int) = some ((inW w q n : Nat) : Int) := by
  unfold F_impl_within
  simp only [jn]
  refine loop_up (fun k i (s : Int) => F_impl_within_L1 (lst w n) (q : Int) some k i s) (n : Int) (fun i => ((inW w q i.toNat : Nat) : Int)) _ ?_ ?_ (by omega) fuel (by have := fuel_ge; omega)
  · intro k i i0 i1
    obtain ⟨j, rfl⟩ := int_nat i0
    have hj : j < n := by omega
    have e1 : ((j : Int) + 1).toNat = j + 1 := by omega
    have hm := sm_mono w (i := j + 1) (n := n) (by omega)
    have hl := inW_le w q j
    simp only [Int.toNat_natCast, e1]
    rw [sm_s] at hm
    rw [F_impl_within_L1, lst_len, ite_t (decide_eq_true i1), chk_pos ⟨i0, i1⟩, Int.toNat_natCast, lst_get hj, chk_pos i0, has_nat (by omega), inW]
    rcases Bool.eq_false_or_eq_true (q.testBit j) with h | h
    · rw [ite_t h, ite_t h, chk_pos (by unfold I64; omega), chk_pos (by unfold I64; omega)]
      congr 1
    · rw [ite_f h, ite_f h, chk_pos (by unfold I64; omega)]
      congr 1
  · intro k
    rw [F_impl_within_L1, lst_len, ite_f (decide_eq_false (by omega)), Int.toNat_natCast]
theorem sIn_eq {w : Nat → Nat} {n q : Nat} (hn : n ≤ 12) (hT : sm w n < 1000000000000000) : F_spec_l7In (lst w n) (q : Int) = some ((inW w q n : Nat) : Int) := by
  unfold F_spec_l7In
  simp only [jn]
  refine loop_up (fun k i (s : Int) => F_spec_l7In_L1 (lst w n) (q : Int) some k i s) (n : Int) (fun i => ((inW w q i.toNat : Nat) : Int)) _ ?_ ?_ (by omega) fuel (by have := fuel_ge; omega)
  · intro k i i0 i1
    obtain ⟨j, rfl⟩ := int_nat i0
    have hj : j < n := by omega
    have e1 : ((j : Int) + 1).toNat = j + 1 := by omega
    have hm := sm_mono w (i := j + 1) (n := n) (by omega)
    have hl := inW_le w q j
    simp only [Int.toNat_natCast, e1]
    rw [sm_s] at hm
    rw [F_spec_l7In_L1, lst_len, ite_t (decide_eq_true i1), chk_pos (by omega)]
    simp only [nam]
    rw [has_raw i0 (by omega), has_nat (by omega), inW, Int.toNat_natCast, lst_get hj]
    rcases Bool.eq_false_or_eq_true (q.testBit j) with h | h
    · rw [ite_t h, ite_t h, chk_pos ⟨i0, i1⟩, chk_pos (by unfold I64; omega), chk_pos (by unfold I64; omega)]
      congr 1
    · rw [ite_f h, ite_f h, chk_pos (by unfold I64; omega)]
      congr 1
  · intro k
    rw [F_spec_l7In_L1, lst_len, ite_f (decide_eq_false (by omega)), Int.toNat_natCast]
/-- How many of the first answers are false for a number. -/
def flC (xs : List (Int × Bool)) (x : Int) : Nat → Nat
  | 0 => 0
  | k + 1 => flC xs x k + (bif falseB (xs.getD k (0, false)).1 (xs.getD k (0, false)).2 x then 1 else 0)
theorem flC_le (xs : List (Int × Bool)) (x : Int) : ∀ k, flC xs x k ≤ k
  | 0 => Nat.le_refl _
  | k + 1 => by
    have := flC_le xs x k
    unfold flC
    cases falseB (xs.getD k (0, false)).1 (xs.getD k (0, false)).2 x <;> simp only [cond_true, cond_false] <;> omega
theorem iFalseFor_eq {xs : List (Int × Bool)} {x : Int} (hx : 0 ≤ x) (hl : xs.length ≤ 1000) : F_impl_falseFor xs x = some ((flC xs x xs.length : Nat) : Int) := by
  unfold F_impl_falseFor
  simp only [jn]
  refine loop_up (fun k i (s : Int) => F_impl_falseFor_L1 xs x some k i s) ((xs.length : Nat) : Int) (fun i => ((flC xs x i.toNat : Nat) : Int)) _ ?_ ?_ (by omega) fuel (by have := fuel_ge; omega)
  · intro k i i0 i1
    obtain ⟨j, rfl⟩ := int_nat i0
    have e1 : ((j : Int) + 1).toNat = j + 1 := by omega
    have hl := flC_le xs x j
    simp only [Int.toNat_natCast, e1]
    rw [F_impl_falseFor_L1, ite_t (decide_eq_true i1), chk_pos ⟨i0, i1⟩, Int.toNat_natCast, chk_pos hx, flC]
    rcases Bool.eq_false_or_eq_true (falseB (xs.getD j (0, false)).1 (xs.getD j (0, false)).2 x) with h | h
    · rw [ite_t h, ite_t h, chk_pos (by unfold I64; omega), chk_pos (by unfold I64; omega)]
      congr 1
    · rw [ite_f h, ite_f h, chk_pos (by unfold I64; omega)]
      congr 1
  · intro k
    rw [F_impl_falseFor_L1, ite_f (decide_eq_false (by omega)), Int.toNat_natCast]
theorem sMany_eq {xs : List (Int × Bool)} {x : Int} (hx : 0 ≤ x) (hl : xs.length ≤ 1000) : F_spec_l2Many xs x = some ((flC xs x xs.length : Nat) : Int) := by
  unfold F_spec_l2Many
  simp only [jn]
  refine loop_up (fun k i (s : Int) => F_spec_l2Many_L1 xs x some k i s) ((xs.length : Nat) : Int) (fun i => ((flC xs x i.toNat : Nat) : Int)) _ ?_ ?_ (by omega) fuel (by have := fuel_ge; omega)
  · intro k i i0 i1
    obtain ⟨j, rfl⟩ := int_nat i0
    have e1 : ((j : Int) + 1).toNat = j + 1 := by omega
    have hl := flC_le xs x j
    simp only [Int.toNat_natCast, e1]
    rw [F_spec_l2Many_L1, ite_t (decide_eq_true i1), chk_pos ⟨i0, i1⟩, Int.toNat_natCast, chk_pos hx, flC]
    rcases Bool.eq_false_or_eq_true (falseB (xs.getD j (0, false)).1 (xs.getD j (0, false)).2 x) with h | h
    · rw [ite_t h, ite_t h, chk_pos (by unfold I64; omega), chk_pos (by unfold I64; omega)]
      congr 1
    · rw [ite_f h, ite_f h, chk_pos (by unfold I64; omega)]
      congr 1
  · intro k
    rw [F_spec_l2Many_L1, ite_f (decide_eq_false (by omega)), Int.toNat_natCast]
theorem pow10 {a j m : Nat} (ha : a ≤ 10) (hj : j ≤ m) : a ^ j ≤ 10 ^ m := Nat.le_trans (Nat.pow_le_pow_left ha j) (Nat.pow_le_pow_right (by decide) hj)
theorem iPower_eq {a k : Nat} (ha : a ≤ 10) (hk : k ≤ 12) : F_impl_power (a : Int) (k : Int) = some ((a ^ k : Nat) : Int) := by
  unfold F_impl_power
  simp only [jn]
  refine loop_up (fun n i (s : Int) => F_impl_power_L1 (a : Int) (k : Int) some n i s) (k : Int) (fun i => ((a ^ i.toNat : Nat) : Int)) _ ?_ ?_ (by omega) fuel (by have := fuel_ge; omega)
  · intro n i i0 i1
    obtain ⟨j, rfl⟩ := int_nat i0
    have e1 : ((j : Int) + 1).toNat = j + 1 := by omega
    have hp := pow10 (a := a) (j := j + 1) (m := 12) ha (by omega)
    have e2 : ((a ^ j : Nat) : Int) * (a : Int) = ((a ^ (j + 1) : Nat) : Int) := by rw [Nat.pow_succ]; norm_cast
    simp only [Int.toNat_natCast, e1]
    rw [F_impl_power_L1, ite_t (decide_eq_true i1), e2, chk_pos (by unfold I64; omega), chk_pos (by unfold I64; omega)]
  · intro n
    rw [F_impl_power_L1, ite_f (decide_eq_false (by omega)), Int.toNat_natCast]
theorem sPower_eq {a k : Nat} (ha : a ≤ 10) (hk : k ≤ 12) : F_spec_l7Power (a : Int) (k : Int) = some ((a ^ k : Nat) : Int) := by
  unfold F_spec_l7Power
  simp only [jn]
  refine loop_up (fun n i (s : Int) => F_spec_l7Power_L1 (a : Int) (k : Int) some n i s) (k : Int) (fun i => ((a ^ i.toNat : Nat) : Int)) _ ?_ ?_ (by omega) fuel (by have := fuel_ge; omega)
  · intro n i i0 i1
    obtain ⟨j, rfl⟩ := int_nat i0
    have e1 : ((j : Int) + 1).toNat = j + 1 := by omega
    have hp := pow10 (a := a) (j := j + 1) (m := 12) ha (by omega)
    have e2 : ((a ^ j : Nat) : Int) * (a : Int) = ((a ^ (j + 1) : Nat) : Int) := by rw [Nat.pow_succ]; norm_cast
    simp only [Int.toNat_natCast, e1]
    rw [F_spec_l7Power_L1, ite_t (decide_eq_true i1), e2, chk_pos (by unfold I64; omega), chk_pos (by unfold I64; omega)]
  · intro n
    rw [F_spec_l7Power_L1, ite_f (decide_eq_false (by omega)), Int.toNat_natCast]
/-- The share of a number. -/
def shW (p q : Nat) (xs : List (Int × Bool)) (i : Nat) : Nat := p ^ flC xs (i : Int) xs.length * (q - p) ^ (xs.length - flC xs (i : Int) xs.length)
theorem shW_le {p q : Nat} {xs : List (Int × Bool)} {i m : Nat} (hq : q ≤ 10) (hp : p ≤ q) (hm : xs.length ≤ m) : shW p q xs i ≤ 10 ^ m := by
  have hf := flC_le xs (i : Int) xs.length
  unfold shW
  generalize flC xs (i : Int) xs.length = f at hf
  refine Nat.le_trans (Nat.mul_le_mul (pow10 (a := p) (j := f) (by omega) (Nat.le_refl _)) (pow10 (a := q - p) (j := xs.length - f) (by omega) (Nat.le_refl _))) ?_
  rw [← Nat.pow_add]
  exact Nat.pow_le_pow_right (by decide) (by omega)
theorem iOf_eq {p q : Nat} {xs : List (Int × Bool)} {i : Nat} (hq : q ≤ 10) (hp : p ≤ q) (hm : xs.length ≤ 12) : F_impl_Doubt_ofThese (p : Int) (q : Int) ((xs.length : Nat) : Int) ((flC xs (i : Int) xs.length : Nat) : Int) = some ((shW p q xs i : Nat) : Int) := by
  have hf := flC_le xs (i : Int) xs.length
  have hb := shW_le (i := i) hq hp hm
  unfold shW at hb ⊢
  generalize flC xs (i : Int) xs.length = f at *
  have e1 : (q : Int) - (p : Int) = ((q - p : Nat) : Int) := by omega
  have e2 : ((xs.length : Nat) : Int) - (f : Int) = ((xs.length - f : Nat) : Int) := by omega
  have e3 : ((p ^ f : Nat) : Int) * (((q - p) ^ (xs.length - f) : Nat) : Int) = ((p ^ f * (q - p) ^ (xs.length - f) : Nat) : Int) := by norm_cast
  unfold F_impl_Doubt_ofThese
  rw [bnd1_eq (iPower_eq (by omega) (by omega)), e1, e2, chk_pos (by unfold I64; omega), chk_pos (by unfold I64; omega), bnd1_eq (iPower_eq (by omega) (by omega)), e3, chk_pos (by unfold I64; omega)]
theorem sParts_eq {p q : Nat} {xs : List (Int × Bool)} {i : Nat} (hq : q ≤ 10) (hp : p ≤ q) (hm : xs.length ≤ 12) : F_spec_l7Parts ((xs.length : Nat) : Int) ((flC xs (i : Int) xs.length : Nat) : Int) (p : Int) (q : Int) = some ((shW p q xs i : Nat) : Int) := by
  have hf := flC_le xs (i : Int) xs.length
  have hb := shW_le (i := i) hq hp hm
  unfold shW at hb ⊢
  generalize flC xs (i : Int) xs.length = f at *
  have e1 : (q : Int) - (p : Int) = ((q - p : Nat) : Int) := by omega
  have e2 : ((xs.length : Nat) : Int) - (f : Int) = ((xs.length - f : Nat) : Int) := by omega
  have e3 : ((p ^ f : Nat) : Int) * (((q - p) ^ (xs.length - f) : Nat) : Int) = ((p ^ f * (q - p) ^ (xs.length - f) : Nat) : Int) := by norm_cast
  unfold F_spec_l7Parts
  rw [bnd1_eq (sPower_eq (by omega) (by omega)), e1, e2, chk_pos (by unfold I64; omega), chk_pos (by unfold I64; omega), bnd1_eq (sPower_eq (by omega) (by omega)), e3, chk_pos (by unfold I64; omega)]
theorem sh_total {p q : Nat} {xs : List (Int × Bool)} {X : Nat} (hX : X ≤ 12) (hq : q ≤ 10) (hp : p ≤ q) (hm : xs.length ≤ 12) : sm (shW p q xs) X ≤ 12000000000000 := by
  have h := sm_le (w := shW p q xs) (B := 10 ^ 12) (fun i => shW_le hq hp hm) X
  have : (10 ^ 12 : Nat) * X ≤ 10 ^ 12 * 12 := Nat.mul_le_mul_left _ hX
  have e : (10 ^ 12 : Nat) * 12 = 12000000000000 := by decide
  omega
theorem iShares_eq {X p q : Nat} {xs : List (Int × Bool)} (hX : X ≤ 12) (hq : q ≤ 10) (hp : p ≤ q) (hm : xs.length ≤ 12) : F_impl_shares (X : Int) xs (p : Int) (q : Int) = some (lst (shW p q xs) X, ((sm (shW p q xs) X : Nat) : Int)) := by
  have hT := sh_total (X := X) hX hq hp hm
  unfold F_impl_shares
  refine jn_is (fun J => J (lst (shW p q xs) X)) (fun J => ?_) ?_
  · refine loop_up (fun n i (s : List Int) => F_impl_shares_L1 (X : Int) xs (p : Int) (q : Int) J n s i) (X : Int) (fun i => lst (shW p q xs) i.toNat) _ ?_ ?_ (by omega) fuel (by have := fuel_ge; omega)
    · intro n i i0 i1
      obtain ⟨j, rfl⟩ := int_nat i0
      have e1 : ((j : Int) + 1).toNat = j + 1 := by omega
      simp only [Int.toNat_natCast, e1]
      rw [F_impl_shares_L1, ite_t (decide_eq_true i1), bnd1_eq (iFalseFor_eq i0 (by omega)), bnd1_eq (iOf_eq hq hp hm), lst_len, chk_pos ⟨by omega, by unfold maxLen; omega⟩, chk_pos (by unfold I64; omega), lst_succ]
    · intro n
      rw [F_impl_shares_L1, ite_f (decide_eq_false (by omega)), Int.toNat_natCast]
  · rw [bnd1_eq (iSum_eq hX (by omega))]
theorem sAfter_eq {X p q : Nat} {xs : List (Int × Bool)} (hX : X ≤ 12) (hq : q ≤ 10) (hp : p ≤ q) (hm : xs.length ≤ 12) : F_spec_l7After (X : Int) xs (p : Int) (q : Int) = some (lst (shW p q xs) X, ((sm (shW p q xs) X : Nat) : Int)) := by
  have hT := sh_total (X := X) hX hq hp hm
  unfold F_spec_l7After
  simp only [jn]
  refine loop_up (fun n i (s : List Int × Int) => F_spec_l7After_L1 (X : Int) xs (p : Int) (q : Int) (fun o v => some (o, v)) n s.1 i s.2) (X : Int) (fun i => (lst (shW p q xs) i.toNat, ((sm (shW p q xs) i.toNat : Nat) : Int))) _ ?_ ?_ (by omega) fuel (by have := fuel_ge; omega)
  · intro n i i0 i1
    obtain ⟨j, rfl⟩ := int_nat i0
    have e1 : ((j : Int) + 1).toNat = j + 1 := by omega
    have hs := sm_mono (shW p q xs) (i := j + 1) (n := X) (by omega)
    simp only [Int.toNat_natCast, e1]
    rw [sm_s] at hs
    rw [F_spec_l7After_L1, ite_t (decide_eq_true i1), bnd1_eq (sMany_eq i0 (by omega)), bnd1_eq (sParts_eq hq hp hm), lst_len, chk_pos ⟨by omega, by unfold maxLen; omega⟩, chk_pos (by unfold I64; omega), chk_pos (by unfold I64; omega), lst_succ, sm]
    congr 1
  · intro n
    rw [F_spec_l7After_L1, ite_f (decide_eq_false (by omega)), Int.toNat_natCast]
def aqsB (X : Int) (xs : List (Int × Bool)) : Bool := (decide (1 ≤ X) && decide (X ≤ 12)) && xs.all fun a => isQ X a.1
theorem as_all {X : Int} {xs : List (Int × Bool)} {i : Nat} (h : xs.all (fun a => isQ X a.1) = true) (hi : i < xs.length) : isQ X (xs.getD i (0, false)).1 = true := by
  rw [List.getD_eq_getElem?_getD, List.getElem?_eq_getElem hi]
  exact List.all_eq_true.1 h _ (List.getElem_mem hi)
theorem all_as {X : Int} {xs : List (Int × Bool)} (h : ∀ i : Int, 0 ≤ i → i < (xs.length : Int) → isQ X (xs.getD i.toNat (0, false)).1 = true) : xs.all (fun a => isQ X a.1) = true := by
  rw [List.all_eq_true]
  intro a ha
  obtain ⟨i, hi, rfl⟩ := List.getElem_of_mem ha
  have := h (i : Int) (by omega) (by omega)
  rw [Int.toNat_natCast, List.getD_eq_getElem?_getD, List.getElem?_eq_getElem hi] at this
  exact this
theorem not_all {X : Int} {xs : List (Int × Bool)} {i : Int} (h0 : 0 ≤ i) (h1 : i < (xs.length : Int)) (h : isQ X (xs.getD i.toNat (0, false)).1 = false) : xs.all (fun a => isQ X a.1) = false := by
  rcases Bool.eq_false_or_eq_true (xs.all fun a => isQ X a.1) with h2 | h2
  · have := as_all (i := i.toNat) h2 (by omega)
    rw [this] at h; cases h
  · exact h2
theorem iAreAsked_eq (X : Int) (xs : List (Int × Bool)) (k : Int) (hl : xs.length ≤ 1000) : F_impl_areAsked X xs k = some (aqsB X xs && decide ((xs.length : Int) ≤ k)) := by
  unfold F_impl_areAsked aqsB
  rcases Bool.eq_false_or_eq_true (decide (1 ≤ X) && decide (X ≤ 12)) with h | h
  · rw [ite_t h, h]
    rcases Bool.eq_false_or_eq_true (decide ((xs.length : Int) ≤ k)) with h2 | h2
    · rw [ite_t h2, h2]
      unfold F_slices_ContainsFunc___impl_Asked_impl_Asked_ F_slices_IndexFunc___impl_Asked_impl_Asked_
      have key : ∀ (J : Unit → Option Int), J () = some (-1) → ∃ v, F_slices_IndexFunc___impl_Asked_impl_Asked__L1 xs (fun u0 u1 => F_impl_areAsked_1 u0 u1 X) J fuel 0 = some v ∧ decide (v ≥ 0) = !(xs.all fun a => isQ X a.1) := by
        intro J hJ
        have st : ∀ n i, 0 ≤ i → i < ((xs.length : Nat) : Int) → F_slices_IndexFunc___impl_Asked_impl_Asked__L1 xs (fun u0 u1 => F_impl_areAsked_1 u0 u1 X) J (n + 1) i = (bif !(isQ X (xs.getD i.toNat (0, false)).1) then some i else F_slices_IndexFunc___impl_Asked_impl_Asked__L1 xs (fun u0 u1 => F_impl_areAsked_1 u0 u1 X) J n (i + 1)) := fun n i i0 i1 => by
          rw [F_slices_IndexFunc___impl_Asked_impl_Asked__L1, ite_t (decide_eq_true i1), chk_pos ⟨i0, i1⟩]
          unfold F_impl_areAsked_1
          rw [bnd1_eq rfl, chk_pos (by unfold I64; omega)]
        refine loop_m (fun n (i : Int) => F_slices_IndexFunc___impl_Asked_impl_Asked__L1 xs (fun u0 u1 => F_impl_areAsked_1 u0 u1 X) J n i) (fun i => 0 ≤ i ∧ i ≤ (xs.length : Int) ∧ ∀ j, 0 ≤ j → j < i → isQ X (xs.getD j.toNat (0, false)).1 = true) (fun i => ((xs.length : Int) - i).toNat) (fun o => ∃ v, o = some v ∧ decide (v ≥ 0) = !(xs.all fun a => isQ X a.1)) ?_ fuel 0 ⟨by omega, by omega, fun j h1 h2 => by omega⟩ (by have := fuel_ge; omega)
        rintro n i ⟨i0, i1, hall⟩
        by_cases e : i < (xs.length : Int)
        · simp only [st n i i0 e]
          rcases Bool.eq_false_or_eq_true (isQ X (xs.getD i.toNat (0, false)).1) with h5 | h5
          · refine .inl ⟨i + 1, ⟨by omega, by omega, fun j h6 h7 => ?_⟩, by omega, ?_⟩
            · by_cases e2 : j = i
              · subst e2; exact h5
              · exact hall j h6 (by omega)
            · rw [ite_f (by rw [h5]; rfl)]
          · refine .inr ⟨i, ?_, ?_⟩
            · rw [ite_t (by rw [h5]; rfl)]
            · rw [not_all i0 e h5, decide_eq_true i0]; rfl
        · refine .inr ⟨-1, ?_, ?_⟩
          · rw [F_slices_IndexFunc___impl_Asked_impl_Asked__L1, ite_f (decide_eq_false e), hJ]
          · rw [all_as (X := X) (fun j h6 h7 => hall j h6 (by omega))]; rfl
      obtain ⟨v, e1, e2⟩ := key (fun _ => some (-1)) rfl
      simp only [jn]
      rw [bnd1_eq e1, bnd1_eq rfl, e2]; simp
    · rw [ite_f h2, h2, Bool.and_false]
  · rw [ite_f h, h]; rfl
theorem sAnswers_eq (X : Int) (xs : List (Int × Bool)) (hl : xs.length ≤ 1000) : F_spec_l2Answers X xs = some (aqsB X xs && decide ((xs.length : Int) ≤ 20)) := by
  unfold F_spec_l2Answers
  have fin : (bif decide (X ≥ 1) && decide (X ≤ 12) then some (decide (((List.length xs : Nat) : Int) ≤ (20 : Int))) else some false) = some ((decide (1 ≤ X) && decide (X ≤ 12)) && decide ((xs.length : Int) ≤ 20)) := by
    show (bif decide (1 ≤ X) && decide (X ≤ 12) then _ else _) = _
    cases decide (1 ≤ X) && decide (X ≤ 12) <;> rfl
  simp only [jn]
  rw [fin]
  have st : ∀ n i, 0 ≤ i → i < ((xs.length : Nat) : Int) → i ≤ 20 → ∀ r, F_spec_l2Answers_L1 X xs (fun _ => r) (n + 1) i = (bif !(isQ X (xs.getD i.toNat (0, false)).1) then some false else F_spec_l2Answers_L1 X xs (fun _ => r) n (i + 1)) := fun n i i0 i1 i2 r => by
    rw [F_spec_l2Answers_L1]
    refine jn_is (fun J => J true) (fun J => by rw [ite_t (decide_eq_true i1), decide_eq_true i2]) ?_
    rw [ite_t rfl, chk_pos ⟨i0, i1⟩, chk_pos (by unfold I64; omega)]
  have en : ∀ n i, 0 ≤ i → ¬ (i < ((xs.length : Nat) : Int) ∧ i ≤ 20) → ∀ r, F_spec_l2Answers_L1 X xs (fun _ => r) (n + 1) i = r := fun n i i0 i1 r => by
    rw [F_spec_l2Answers_L1]
    refine jn_is (fun J => J false) (fun J => ?_) (ite_f rfl _ _)
    rcases Bool.eq_false_or_eq_true (decide (i < ((xs.length : Nat) : Int))) with h | h
    · have h' := of_decide_eq_true h
      rw [ite_t h, decide_eq_false (by omega)]
    · rw [ite_f h]
  by_cases h20 : (xs.length : Int) ≤ 20
  · have := loop_all (F_spec_l2Answers_L1 X xs (fun _ => some ((decide (1 ≤ X) && decide (X ≤ 12)) && decide ((xs.length : Int) ≤ 20)))) ((xs.length : Nat) : Int) (fun i => isQ X (xs.getD i.toNat (0, false)).1) (some false) (some ((decide (1 ≤ X) && decide (X ≤ 12)) && decide ((xs.length : Int) ≤ 20))) (fun n i i0 i1 hp => by rw [st n i i0 i1 (by omega), ite_f (by rw [hp]; rfl)]) (fun n i i0 i1 hp => by rw [st n i i0 i1 (by omega), ite_t (by rw [hp]; rfl)]) (fun n => en n _ (by omega) (by omega) _) (by omega) fuel (by have := fuel_ge; omega)
    unfold aqsB
    rcases this with ⟨h1, h2⟩ | ⟨h1, i, i0, i1, h2, _⟩
    · rw [h1, all_as h2, Bool.and_true]
    · rw [h1, not_all i0 i1 h2, Bool.and_false]; rfl
  · have := loop_all (F_spec_l2Answers_L1 X xs (fun _ => some ((decide (1 ≤ X) && decide (X ≤ 12)) && decide ((xs.length : Int) ≤ 20)))) 21 (fun i => isQ X (xs.getD i.toNat (0, false)).1) (some false) (some ((decide (1 ≤ X) && decide (X ≤ 12)) && decide ((xs.length : Int) ≤ 20))) (fun n i i0 i1 hp => by rw [st n i i0 (by omega) (by omega), ite_f (by rw [hp]; rfl)]) (fun n i i0 i1 hp => by rw [st n i i0 (by omega) (by omega), ite_t (by rw [hp]; rfl)]) (fun n => en n _ (by omega) (by omega) _) (by omega) fuel (by have := fuel_ge; omega)
    rcases this with ⟨h1, h2⟩ | ⟨h1, _⟩
    · rw [h1, decide_eq_false h20, Bool.and_false, Bool.and_false]
    · rw [h1, decide_eq_false h20, Bool.and_false]
def dbB (p q : Int) : Bool := (decide (1 ≤ q) && decide (q ≤ 10)) && (decide (0 ≤ p) && decide (p ≤ q))
theorem iIsDoubt_eq (p q : Int) : F_impl_IsDoubt p q = some (dbB p q) := by
  unfold F_impl_IsDoubt dbB
  cases decide ((1 : Int) ≤ q) && decide (q ≤ 10) <;> rfl
theorem sGood_eq (p q : Int) : F_spec_l7Good p q = some (dbB p q) := by
  unfold F_spec_l7Good dbB
  show (bif decide ((1 : Int) ≤ q) && decide (q ≤ 10) then some (decide ((0 : Int) ≤ p) && decide (p ≤ q)) else some false) = _
  cases decide ((1 : Int) ≤ q) && decide (q ≤ 10) <;> rfl
/-- Whether shares are told: k answers at most. -/
def okA (X : Int) (xs : List (Int × Bool)) (p q k : Int) : Bool := (aqsB X xs && decide ((xs.length : Int) ≤ k)) && dbB p q
theorem sAns7_eq (X : Int) (xs : List (Int × Bool)) (p q : Int) (hl : xs.length ≤ 1000) : F_spec_l7Answers X xs p q = some (okA X xs p q 12) := by
  unfold F_spec_l7Answers okA
  rw [bnd1_eq (sAnswers_eq X xs hl)]
  cases h : aqsB X xs with
  | false => rfl
  | true =>
    rw [Bool.true_and, Bool.true_and]
    by_cases h12 : (xs.length : Int) ≤ 12
    · rw [ite_t (decide_eq_true (by omega)), ite_t (decide_eq_true h12), bnd1_eq (sGood_eq p q), decide_eq_true h12, Bool.true_and]
    · rw [decide_eq_false h12]
      cases decide ((xs.length : Int) ≤ 20) <;> rfl
theorem okA_in {X : Int} {xs : List (Int × Bool)} {p q k : Int} (h : okA X xs p q k = true) : (∃ x a b : Nat, X = x ∧ p = a ∧ q = b ∧ 1 ≤ x ∧ x ≤ 12 ∧ 1 ≤ b ∧ b ≤ 10 ∧ a ≤ b) ∧ (xs.length : Int) ≤ k := by
  unfold okA aqsB dbB at h
  simp only [Bool.and_eq_true, decide_eq_true_eq] at h
  obtain ⟨⟨⟨⟨h1, h2⟩, _⟩, h4⟩, ⟨h5, h6⟩, h7, h8⟩ := h
  obtain ⟨x, rfl⟩ := int_nat (i := X) (by omega)
  obtain ⟨a, rfl⟩ := int_nat h7
  obtain ⟨b, rfl⟩ := int_nat (i := q) (by omega)
  exact ⟨⟨x, a, b, rfl, rfl, rfl, by omega, by omega, by omega, by omega, by omega⟩, h4⟩
/-- The shares of all numbers, as nats. -/
def wOf (xs : List (Int × Bool)) (p q : Int) : Nat → Nat := shW p.toNat q.toNat xs
def toT (X : Int) (xs : List (Int × Bool)) (p q : Int) : Nat := sm (wOf xs p q) X.toNat
theorem iSharesAfter_no {X : Int} {xs : List (Int × Bool)} {p q k : Int} (hl : xs.length ≤ 1000) (h : okA X xs p q k = false) : F_impl_sharesAfter X xs p q k = some ([], 0, false) := by
  unfold F_impl_sharesAfter
  refine jn_is (fun J => J true) (fun J => ?_) rfl
  rw [bnd1_eq (iAreAsked_eq X xs k hl)]
  unfold okA at h
  cases h2 : aqsB X xs && decide ((xs.length : Int) ≤ k) with
  | false => rfl
  | true =>
    rw [h2, Bool.true_and] at h
    rw [ite_f (c := !true) rfl, bnd1_eq (iIsDoubt_eq p q), h]; rfl
theorem iSharesAfter_yes {X : Int} {xs : List (Int × Bool)} {p q k : Int} (hk : k ≤ 12) (h : okA X xs p q k = true) : F_impl_sharesAfter X xs p q k = some (lst (wOf xs p q) X.toNat, ((toT X xs p q : Nat) : Int), decide (0 < toT X xs p q)) := by
  obtain ⟨⟨x, a, b, rfl, rfl, rfl, h1, h2, h3, h4, h5⟩, h6⟩ := okA_in h
  unfold F_impl_sharesAfter
  refine jn_is (fun J => J false) (fun J => ?_) ?_
  · rw [bnd1_eq (iAreAsked_eq _ xs k (by omega))]
    unfold okA at h
    have ⟨g1, g2⟩ := Bool.and_eq_true_iff.1 h
    rw [g1, ite_f (c := !true) rfl, bnd1_eq (iIsDoubt_eq _ _), g2]; rfl
  · rw [ite_f rfl, bnd2_eq (iShares_eq h2 h4 h5 (by omega))]
    unfold toT wOf
    simp only [Int.toNat_natCast]
    congr 3
    rw [decide_eq_decide]; omega
theorem sAfter_of {X : Int} {xs : List (Int × Bool)} {p q k : Int} (hk : k ≤ 12) (h : okA X xs p q k = true) : F_spec_l7After X xs p q = some (lst (wOf xs p q) X.toNat, ((toT X xs p q : Nat) : Int)) := by
  obtain ⟨⟨x, a, b, rfl, rfl, rfl, h1, h2, h3, h4, h5⟩, h6⟩ := okA_in h
  exact sAfter_eq h2 h4 h5 (by omega)
theorem toT_le {X : Int} {xs : List (Int × Bool)} {p q k : Int} (hk : k ≤ 12) (h : okA X xs p q k = true) : toT X xs p q ≤ 12000000000000 := by
  obtain ⟨⟨x, a, b, rfl, rfl, rfl, h1, h2, h3, h4, h5⟩, h6⟩ := okA_in h
  exact sh_total h2 h4 h5 (by omega)
theorem wrap_nat {n : Nat} (h : n < 9223372036854775808) : IntKind.wrap .i64 (n : Int) = (n : Int) := by
  rw [IntKind.wrap_i64]; omega
theorem fr_wrap {s T : Nat} (hs : s < 1000000000000000) (hT : T < 1000000000000000) : ((IntKind.wrap .i64 (Int.tdiv (s : Int) ((Int.gcd (s : Int) (T : Int) : Nat) : Int))), (IntKind.wrap .i64 (Int.tdiv (T : Int) ((Int.gcd (s : Int) (T : Int) : Nat) : Int)))) = frN s T := by
  have h1 : s / Nat.gcd s T ≤ s := Nat.div_le_self _ _
  have h2 : T / Nat.gcd s T ≤ T := Nat.div_le_self _ _
  rw [Int.gcd_natCast_natCast, tdiv_nn, tdiv_nn, wrap_nat (by omega), wrap_nat (by omega)]
  rfl
def frL (w : Nat → Nat) (n T : Nat) : List (Int × Int) := (List.range n).map fun i => frN (w i) T
theorem frL_len (w : Nat → Nat) (n T : Nat) : (frL w n T).length = n := by unfold frL; simp
theorem frL_succ (w : Nat → Nat) (n T : Nat) : frL w (n + 1) T = frL w n T ++ [frN (w n) T] := by unfold frL; rw [List.range_succ, List.map_append]; rfl
theorem frL_get {w : Nat → Nat} {n i T : Nat} (h : i < n) : (frL w n T).getD i (0, 0) = frN (w i) T := by
  unfold frL; rw [List.getD_eq_getElem?_getD, List.getElem?_map, List.getElem?_range h]; rfl
def caB (X : Int) (xs : List (Int × Bool)) (p q : Int) : Bool := okA X xs p q 12 && decide (0 < toT X xs p q)
def caV (X : Int) (xs : List (Int × Bool)) (p q : Int) : List (Int × Int) := bif caB X xs p q then frL (wOf xs p q) X.toNat (toT X xs p q) else []
theorem iChancesAfter_eq (X : Int) (xs : List (Int × Bool)) (p q : Int) (hl : xs.length ≤ 1000) : F_impl_ChancesAfter X xs p q = some (caV X xs p q, caB X xs p q) := by
  unfold F_impl_ChancesAfter caV caB
  rcases Bool.eq_false_or_eq_true (okA X xs p q 12) with h | h
  · rw [bnd3_eq (iSharesAfter_yes (Int.le_refl _) h), h, Bool.true_and]
    have hT := toT_le (Int.le_refl _) h
    by_cases h0 : 0 < toT X xs p q
    · rw [decide_eq_true h0, ite_f (c := !true) rfl, ite_t rfl]
      obtain ⟨⟨x, a, b, rfl, rfl, rfl, h1, h2, h3, h4, h5⟩, h6⟩ := okA_in h
      refine jn_is (fun J => J (frL (wOf xs a b) x (toT x xs a b))) (fun J => ?_) rfl
      have hw : ∀ i, i < x → wOf xs a b i ≤ toT x xs a b := fun i hi => by unfold toT; rw [Int.toNat_natCast]; exact sm_each _ hi
      rw [Int.toNat_natCast]
      refine loop_up (fun n i (s : List (Int × Int)) => F_impl_ChancesAfter_L1 (lst (wOf xs a b) x) ((toT x xs a b : Nat) : Int) J n s i) (x : Int) (fun i => frL (wOf xs a b) i.toNat (toT x xs a b)) _ ?_ ?_ (by omega) fuel (by have := fuel_ge; omega)
      · intro n i i0 i1
        obtain ⟨j, rfl⟩ := int_nat i0
        have hj : j < x := by omega
        have := hw j hj
        have e1 : ((j : Int) + 1).toNat = j + 1 := by omega
        simp only [Int.toNat_natCast, e1]
        rw [F_impl_ChancesAfter_L1, lst_len, ite_t (decide_eq_true i1), chk_pos ⟨i0, i1⟩, Int.toNat_natCast, lst_get hj, chk_pos (by omega), chk_pos (by omega), frL_len, chk_pos ⟨by omega, by unfold maxLen; omega⟩, chk_pos (by unfold I64; omega), fr_wrap (by omega) (by omega), frL_succ]
      · intro n
        rw [F_impl_ChancesAfter_L1, lst_len, ite_f (decide_eq_false (by omega)), Int.toNat_natCast]
    · rw [decide_eq_false h0]; rfl
  · rw [bnd3_eq (iSharesAfter_no hl h), h]; rfl
theorem sChancesAfter_eq (X : Int) (xs : List (Int × Bool)) (p q : Int) (hl : xs.length ≤ 1000) : F_spec_ChancesAfter X xs p q = some (caV X xs p q, caB X xs p q) := by
  unfold F_spec_ChancesAfter caV caB
  rw [bnd1_eq (sAns7_eq X xs p q hl)]
  rcases Bool.eq_false_or_eq_true (okA X xs p q 12) with h | h
  · rw [h, ite_f (c := !true) rfl, bnd2_eq (sAfter_of (Int.le_refl _) h), Bool.true_and]
    have hT := toT_le (Int.le_refl _) h
    obtain ⟨⟨x, a, b, rfl, rfl, rfl, h1, h2, h3, h4, h5⟩, h6⟩ := okA_in h
    have ed : decide (((toT x xs a b : Nat) : Int) > 0) = decide (0 < toT x xs a b) := by rw [decide_eq_decide]; omega
    have hw : ∀ i, i < x → wOf xs a b i ≤ toT x xs a b := fun i hi => by unfold toT; rw [Int.toNat_natCast]; exact sm_each _ hi
    rw [Int.toNat_natCast]
    by_cases h0 : 0 < toT x xs a b
    · rw [ed, decide_eq_true h0, ite_t rfl]
      refine jn_is (fun J => J (frL (wOf xs a b) x (toT x xs a b))) (fun J => ?_) rfl
      refine loop_up (fun n i (s : List (Int × Int)) => F_spec_ChancesAfter_L1 (x : Int) (lst (wOf xs a b) x) ((toT x xs a b : Nat) : Int) J n s i) (x : Int) (fun i => frL (wOf xs a b) i.toNat (toT x xs a b)) _ ?_ ?_ (by omega) fuel (by have := fuel_ge; omega)
      · intro n i i0 i1
        obtain ⟨j, rfl⟩ := int_nat i0
        have hj : j < x := by omega
        have := hw j hj
        have e1 : ((j : Int) + 1).toNat = j + 1 := by omega
        simp only [Int.toNat_natCast, e1]
        rw [F_spec_ChancesAfter_L1]
        refine jn_is (fun J => J true) (fun J => by rw [ite_t (decide_eq_true i1), ed, decide_eq_true h0]) ?_
        rw [ite_t rfl, lst_len, chk_pos ⟨i0, i1⟩, Int.toNat_natCast, lst_get hj, chk_pos (by omega), chk_pos (by omega), frL_len, chk_pos ⟨by omega, by unfold maxLen; omega⟩, chk_pos (by unfold I64; omega), fr_wrap (by omega) (by omega), frL_succ]
      · intro n
        rw [F_spec_ChancesAfter_L1]
        refine jn_is (fun J => J false) (fun J => by rw [ite_f (decide_eq_false (by omega))]) ?_
        rw [ite_f rfl, Int.toNat_natCast]
    · rw [ed, decide_eq_false h0, ite_f rfl]
      refine jn_is (fun J => J []) (fun J => ?_) rfl
      obtain ⟨n, hn⟩ : ∃ m, fuel = m + 1 := ⟨fuel - 1, by have := fuel_ge; omega⟩
      rw [hn, F_spec_ChancesAfter_L1]
      refine jn_is (fun J => J false) (fun J => ?_) (ite_f rfl _ _)
      rw [ed, decide_eq_false h0]
      cases decide ((0 : Int) < (x : Int)) <;> rfl
  · rw [h]; rfl
/-- The first place of the most. -/
def amx (w : Nat → Nat) : Nat → Nat
  | 0 => 0
  | n + 1 => bif decide (w n > w (amx w n)) then n else amx w n
theorem amx_in (w : Nat → Nat) : ∀ n, amx w n ≤ n - 1 ∧ (∀ i, i < n → w i ≤ w (amx w n)) ∧ (∀ i, i < amx w n → w i < w (amx w n))
  | 0 => ⟨Nat.le_refl _, fun i h => by omega, fun i h => by unfold amx at h; omega⟩
  | n + 1 => by
    obtain ⟨h1, h2, h3⟩ := amx_in w n
    rcases Bool.eq_false_or_eq_true (decide (w n > w (amx w n))) with h | h
    · have e : amx w (n + 1) = n := by unfold amx; rw [ite_t h]
      have h := of_decide_eq_true h
      rw [e]
      refine ⟨by omega, fun i hi => ?_, fun i hi => ?_⟩
      · by_cases e2 : i = n
        · subst e2; exact Nat.le_refl _
        · have := h2 i (by omega); omega
      · have := h2 i hi; omega
    · have e : amx w (n + 1) = amx w n := by rw [amx, ite_f h]
      have h := of_decide_eq_false h
      rw [e]
      refine ⟨by omega, fun i hi => ?_, h3⟩
      by_cases e2 : i = n
      · subst e2; omega
      · exact h2 i (by omega)
def lkV (X : Int) (xs : List (Int × Bool)) (p q : Int) : Int := bif caB X xs p q then ((amx (wOf xs p q) X.toNat : Nat) : Int) else 0
theorem iLikeliest_eq (X : Int) (xs : List (Int × Bool)) (p q : Int) (hl : xs.length ≤ 1000) : F_impl_LikeliestAfter X xs p q = some (lkV X xs p q, caB X xs p q) := by
  unfold F_impl_LikeliestAfter lkV caB
  rcases Bool.eq_false_or_eq_true (okA X xs p q 12) with h | h
  · rw [bnd3_eq (iSharesAfter_yes (Int.le_refl _) h), h, Bool.true_and]
    obtain ⟨⟨x, a, b, rfl, rfl, rfl, h1, h2, h3, h4, h5⟩, h6⟩ := okA_in h
    by_cases h0 : 0 < toT x xs a b
    · rw [decide_eq_true h0, ite_f (c := !true) rfl, ite_t rfl, Int.toNat_natCast]
      refine jn_is (fun J => J ((amx (wOf xs a b) x : Nat) : Int)) (fun J => ?_) rfl
      refine loop_up (fun n i (s : Int) => F_impl_LikeliestAfter_L1 (lst (wOf xs a b) x) J n i s) (x : Int) (fun i => ((amx (wOf xs a b) i.toNat : Nat) : Int)) _ ?_ ?_ (by omega) fuel (by have := fuel_ge; omega)
      · intro n i i0 i1
        obtain ⟨j, rfl⟩ := int_nat i0
        have hj : j < x := by omega
        have e1 : ((j : Int) + 1).toNat = j + 1 := by omega
        have hb := (amx_in (wOf xs a b) j).1
        simp only [Int.toNat_natCast, e1]
        rw [F_impl_LikeliestAfter_L1, lst_len, ite_t (decide_eq_true i1), chk_pos ⟨i0, i1⟩, chk_pos (by omega), Int.toNat_natCast, Int.toNat_natCast, lst_get hj, lst_get (by omega), amx]
        have ed : decide (((wOf xs a b j : Nat) : Int) > ((wOf xs a b (amx (wOf xs a b) j) : Nat) : Int)) = decide (wOf xs a b j > wOf xs a b (amx (wOf xs a b) j)) := by rw [decide_eq_decide]; omega
        rw [ed]
        rcases Bool.eq_false_or_eq_true (decide (wOf xs a b j > wOf xs a b (amx (wOf xs a b) j))) with h7 | h7
        · rw [ite_t h7, ite_t h7, chk_pos (by unfold I64; omega)]
        · rw [ite_f h7, ite_f h7, chk_pos (by unfold I64; omega)]
      · intro n
        rw [F_impl_LikeliestAfter_L1, lst_len, ite_f (decide_eq_false (by omega)), Int.toNat_natCast]
    · rw [decide_eq_false h0]; rfl
  · rw [bnd3_eq (iSharesAfter_no hl h), h]; rfl
theorem amx_zero {w : Nat → Nat} {n : Nat} (h : sm w n = 0) (hn : 1 ≤ n) : amx w n = 0 := by
  obtain ⟨h1, h2, h3⟩ := amx_in w n
  rcases Nat.eq_zero_or_pos (amx w n) with h4 | h4
  · exact h4
  · have h5 := h3 0 h4
    have h6 := sm_each w (i := amx w n) (n := n) (by omega)
    omega
theorem amx_one (w : Nat → Nat) : amx w 1 = 0 := by have := (amx_in w 1).1; omega
theorem sLikeliest_eq (X : Int) (xs : List (Int × Bool)) (p q : Int) (hl : xs.length ≤ 1000) : F_spec_LikeliestAfter X xs p q = some (lkV X xs p q, caB X xs p q) := by
  unfold F_spec_LikeliestAfter lkV caB
  rw [bnd1_eq (sAns7_eq X xs p q hl)]
  rcases Bool.eq_false_or_eq_true (okA X xs p q 12) with h | h
  · rw [h, ite_f (c := !true) rfl, bnd2_eq (sAfter_of (Int.le_refl _) h), Bool.true_and]
    obtain ⟨⟨x, a, b, rfl, rfl, rfl, h1, h2, h3, h4, h5⟩, h6⟩ := okA_in h
    have ed : decide (((toT x xs a b : Nat) : Int) > 0) = decide (0 < toT x xs a b) := by rw [decide_eq_decide]; omega
    rw [Int.toNat_natCast, ed]
    refine jn_is (fun J => J ((amx (wOf xs a b) x : Nat) : Int)) (fun J => ?_) ?_
    · have h10 := amx_one (wOf xs a b)
      have := loop_up (fun n i (s : Int) => F_spec_LikeliestAfter_L1 (x : Int) (lst (wOf xs a b) x) J n (i + 1) s) ((x : Int) - 1) (fun i => ((amx (wOf xs a b) (i + 1).toNat : Nat) : Int)) (J ((amx (wOf xs a b) x : Nat) : Int)) ?_ ?_ (by omega) fuel (by have := fuel_ge; omega)
      · have e0 : (1 : Int).toNat = 1 := rfl
        simp only [Int.zero_add, e0, h10] at this
        exact this
      · intro n i i0 i1
        obtain ⟨j, rfl⟩ := int_nat i0
        have e1 : ((j : Int) + 1).toNat = j + 1 := by omega
        have e2 : ((j : Int) + 1 + 1).toNat = j + 1 + 1 := by omega
        have e3 : (j : Int) + 1 = ((j + 1 : Nat) : Int) := by omega
        have hb := (amx_in (wOf xs a b) (j + 1)).1
        simp only [e1, e2]
        rw [F_spec_LikeliestAfter_L1, lst_len, e3, ite_t (decide_eq_true (by omega)), chk_pos ⟨by omega, by omega⟩, chk_pos (by omega), Int.toNat_natCast, Int.toNat_natCast, lst_get (by omega), lst_get (by omega)]
        have ed : decide (((wOf xs a b (j + 1) : Nat) : Int) > ((wOf xs a b (amx (wOf xs a b) (j + 1)) : Nat) : Int)) = decide (wOf xs a b (j + 1) > wOf xs a b (amx (wOf xs a b) (j + 1))) := by rw [decide_eq_decide]; omega
        rw [ed, amx.eq_2 _ (j + 1)]
        rcases Bool.eq_false_or_eq_true (decide (wOf xs a b (j + 1) > wOf xs a b (amx (wOf xs a b) (j + 1)))) with h7 | h7
        · rw [ite_t h7, ite_t h7, chk_pos (by unfold I64; omega)]
        · rw [ite_f h7, ite_f h7, chk_pos (by unfold I64; omega)]
      · intro n
        have e2 : ((x : Int) - 1 + 1).toNat = x := by omega
        rw [F_spec_LikeliestAfter_L1, ite_f (decide_eq_false (by omega)), e2]
    · by_cases h0 : 0 < toT x xs a b
      · rw [decide_eq_true h0, ite_t rfl]
      · rw [decide_eq_false h0, ite_f rfl, amx_zero (by unfold toT at h0; rw [Int.toNat_natCast] at h0; omega) h1]; rfl
  · rw [h]; rfl
theorem maxN_max (a b : Int) : maxN a b = max a b := by unfold maxN; split <;> omega
/-- How far a question parts the shares from even. -/
def offN (w : Nat → Nat) (n q : Nat) : Int := max (2 * ((inW w q n : Nat) : Int) - ((sm w n : Nat) : Int)) (0 - (2 * ((inW w q n : Nat) : Int) - ((sm w n : Nat) : Int)))
/-- The least so far, and its first question. -/
def evn (w : Nat → Nat) (n : Nat) : Nat → Int × Nat
  | 0 => (((sm w n : Nat) : Int), 0)
  | q + 1 => bif decide (offN w n q < (evn w n q).1) then (offN w n q, q) else evn w n q
theorem inW_zero (w : Nat → Nat) : ∀ n, inW w 0 n = 0
  | 0 => rfl
  | n + 1 => by unfold inW; rw [inW_zero w n, Nat.zero_testBit]; rfl
theorem evn_one (w : Nat → Nat) (n : Nat) : evn w n 1 = evn w n 0 := by
  show (bif decide (offN w n 0 < (evn w n 0).1) then (offN w n 0, 0) else evn w n 0) = evn w n 0
  refine ite_f (decide_eq_false ?_) _ _
  unfold offN
  rw [inW_zero]
  show ¬ (_ < ((sm w n : Nat) : Int))
  omega
theorem evn_in (w : Nat → Nat) (n : Nat) : ∀ q, (evn w n q).2 ≤ q - 1 ∧ (evn w n q).1 ≤ ((sm w n : Nat) : Int) ∧ 0 ≤ (evn w n q).1
  | 0 => ⟨Nat.le_refl _, by show ((sm w n : Nat) : Int) ≤ _; omega, by show 0 ≤ ((sm w n : Nat) : Int); omega⟩
  | q + 1 => by
    obtain ⟨h1, h2, h3⟩ := evn_in w n q
    have hi := inW_le w q n
    have h4 : 0 ≤ offN w n q := by unfold offN; omega
    have h5 : offN w n q ≤ ((sm w n : Nat) : Int) := by unfold offN; omega
    rcases Bool.eq_false_or_eq_true (decide (offN w n q < (evn w n q).1)) with h | h
    · rw [evn, ite_t h]; exact ⟨by show q ≤ _; omega, h5, h4⟩
    · rw [evn, ite_f h]; exact ⟨by omega, h2, h3⟩
def evV' (X : Int) (xs : List (Int × Bool)) (p q : Int) : Int := bif caB X xs p q then (((evn (wOf xs p q) X.toNat (2 ^ X.toNat)).2 : Nat) : Int) else 0
theorem p12 {n : Nat} (h : n ≤ 12) : 1 ≤ 2 ^ n ∧ 2 ^ n ≤ 4096 := ⟨Nat.two_pow_pos _, Nat.le_trans (Nat.pow_le_pow_right (by decide) h) (by decide)⟩
theorem shl_nat (x : Nat) : (1 : Int) * 2 ^ Int.toNat (x : Int) = ((2 ^ x : Nat) : Int) := by rw [Int.one_mul, Int.toNat_natCast]; norm_cast
theorem shl_n (x : Nat) : (1 : Int) * 2 ^ x = ((2 ^ x : Nat) : Int) := by rw [Int.one_mul]; norm_cast
theorem iEvenAfter_eq (X : Int) (xs : List (Int × Bool)) (p q : Int) (hl : xs.length ≤ 1000) : F_impl_EvenAfter X xs p q = some (evV' X xs p q, caB X xs p q) := by
  unfold F_impl_EvenAfter evV' caB
  rcases Bool.eq_false_or_eq_true (okA X xs p q 12) with h | h
  · rw [bnd3_eq (iSharesAfter_yes (Int.le_refl _) h), h, Bool.true_and]
    have hT := toT_le (Int.le_refl _) h
    obtain ⟨⟨x, a, b, rfl, rfl, rfl, h1, h2, h3, h4, h5⟩, h6⟩ := okA_in h
    have hp := p12 h2
    by_cases h0 : 0 < toT x xs a b
    · rw [decide_eq_true h0, ite_f (c := !true) rfl, ite_t rfl, Int.toNat_natCast]
      have eT : toT x xs a b = sm (wOf xs a b) x := rfl
      rw [eT] at hT ⊢
      generalize wOf xs a b = w at *
      refine jn_is (fun J => J (((evn w x (2 ^ x)).2 : Nat) : Int)) (fun J => ?_) rfl
      rw [shl_n, chk_pos ⟨by omega, by omega, by unfold I64; omega⟩]
      refine loop_up (fun n i (s : Int × Int) => F_impl_EvenAfter_L1 (x : Int) (lst w x) ((sm w x : Nat) : Int) J n i s.1 s.2) ((2 ^ x : Nat) : Int) (fun i => ((evn w x i.toNat).1, (((evn w x i.toNat).2 : Nat) : Int))) _ ?_ ?_ (by omega) fuel (by have := fuel_ge; omega)
      · intro n i i0 i1
        obtain ⟨j, rfl⟩ := int_nat i0
        have e1 : ((j : Int) + 1).toNat = j + 1 := by omega
        have hi := inW_le w j x
        obtain ⟨k1, k2, k3⟩ := evn_in w x j
        simp only [Int.toNat_natCast, e1]
        rw [F_impl_EvenAfter_L1, shl_nat, ite_t (decide_eq_true i1), bnd1_eq (iWithin_eq h2 (by omega)), chk_pos (by unfold I64; omega), chk_pos (by unfold I64; omega), chk_pos (by unfold I64; omega)]
        show (bif decide (offN w x j < (evn w x j).1) then chk (I64 ((j : Int) + 1)) <| F_impl_EvenAfter_L1 (x : Int) (lst w x) ((sm w x : Nat) : Int) J n ((j : Int) + 1) (offN w x j) (j : Int) else _) = _
        rcases Bool.eq_false_or_eq_true (decide (offN w x j < (evn w x j).1)) with h7 | h7
        · rw [evn, ite_t h7, ite_t h7, chk_pos (by unfold I64; omega)]
        · rw [evn, ite_f h7, ite_f h7, chk_pos (by unfold I64; omega)]
      · intro n
        rw [F_impl_EvenAfter_L1, shl_nat, ite_f (decide_eq_false (by omega)), Int.toNat_natCast]
    · rw [decide_eq_false h0]; rfl
  · rw [bnd3_eq (iSharesAfter_no hl h), h]; rfl
theorem sEvenAfter_eq (X : Int) (xs : List (Int × Bool)) (p q : Int) (hl : xs.length ≤ 1000) : F_spec_EvenAfter X xs p q = some (evV' X xs p q, caB X xs p q) := by
  unfold F_spec_EvenAfter evV' caB
  rw [bnd1_eq (sAns7_eq X xs p q hl)]
  rcases Bool.eq_false_or_eq_true (okA X xs p q 12) with h | h
  · rw [h, ite_f (c := !true) rfl, bnd2_eq (sAfter_of (Int.le_refl _) h), Bool.true_and]
    have hT := toT_le (Int.le_refl _) h
    obtain ⟨⟨x, a, b, rfl, rfl, rfl, h1, h2, h3, h4, h5⟩, h6⟩ := okA_in h
    have hp := p12 h2
    by_cases h0 : 0 < toT x xs a b
    · have hne : ((((toT x xs a b : Nat) : Int)) == (0 : Int)) = false := by rw [beq_eq_false_iff_ne]; omega
      rw [ite_f hne, decide_eq_true h0, ite_t rfl, Int.toNat_natCast]
      have eT : toT x xs a b = sm (wOf xs a b) x := rfl
      rw [eT] at hT ⊢
      generalize wOf xs a b = w at *
      refine jn_is (fun J => J (((evn w x (2 ^ x)).2 : Nat) : Int)) (fun J => ?_) rfl
      have key := loop_up (fun n i (s : Int × Int) => F_spec_EvenAfter_L1 (x : Int) (lst w x) ((sm w x : Nat) : Int) J n (i + 1) s.1 s.2) (((2 ^ x : Nat) : Int) - 1) (fun i => ((evn w x (i + 1).toNat).1, (((evn w x (i + 1).toNat).2 : Nat) : Int))) (J (((evn w x (2 ^ x)).2 : Nat) : Int)) ?_ ?_ (by omega) fuel (by have := fuel_ge; omega)
      · have e0 : (1 : Int).toNat = 1 := rfl
        simp only [Int.zero_add, e0, evn_one] at key
        exact key
      · intro n i i0 i1
        obtain ⟨j, rfl⟩ := int_nat i0
        have e1 : ((j : Int) + 1).toNat = j + 1 := by omega
        have e2 : ((j : Int) + 1 + 1).toNat = j + 1 + 1 := by omega
        have e3 : (j : Int) + 1 = ((j + 1 : Nat) : Int) := by omega
        have hi := inW_le w (j + 1) x
        obtain ⟨k1, k2, k3⟩ := evn_in w x (j + 1)
        simp only [e1, e2]
        rw [F_spec_EvenAfter_L1, shl_nat, chk_pos ⟨by omega, by omega, by unfold I64; omega⟩, e3, ite_t (decide_eq_true (by omega)), bnd1_eq (sIn_eq h2 (by omega)), chk_pos (by unfold I64; omega), chk_pos (by unfold I64; omega), chk_pos (by unfold I64; omega), maxN_max]
        show (bif decide (offN w x (j + 1) < (evn w x (j + 1)).1) then chk (I64 (((j + 1 : Nat) : Int) + 1)) <| F_spec_EvenAfter_L1 (x : Int) (lst w x) ((sm w x : Nat) : Int) J n (((j + 1 : Nat) : Int) + 1) (offN w x (j + 1)) ((j + 1 : Nat) : Int) else _) = _
        rw [evn.eq_2 _ _ (j + 1)]
        rcases Bool.eq_false_or_eq_true (decide (offN w x (j + 1) < (evn w x (j + 1)).1)) with h7 | h7
        · rw [ite_t h7, ite_t h7, chk_pos (by unfold I64; omega)]
        · rw [ite_f h7, ite_f h7, chk_pos (by unfold I64; omega)]
      · intro n
        have e2 : (((2 ^ x : Nat) : Int) - 1 + 1).toNat = 2 ^ x := by omega
        rw [F_spec_EvenAfter_L1, shl_nat, chk_pos ⟨by omega, by omega, by unfold I64; omega⟩, ite_f (decide_eq_false (by omega)), e2]
    · have hz : toT x xs a b = 0 := by omega
      rw [hz]; rfl
  · rw [h]; rfl
def yeB (X : Int) (xs : List (Int × Bool)) (r p q : Int) : Bool := (okA X xs p q 11 && decide (0 < toT X xs p q)) && isQ X r
def yeN (X : Int) (xs : List (Int × Bool)) (r p q : Int) : Nat := inW (wOf xs p q) r.toNat X.toNat * (q.toNat - p.toNat) + (toT X xs p q - inW (wOf xs p q) r.toNat X.toNat) * p.toNat
def yeF (X : Int) (xs : List (Int × Bool)) (r p q : Int) : Int × Int := bif yeB X xs r p q then frN (yeN X xs r p q) (toT X xs p q * q.toNat) else (0, 0)
theorem okA_11 (X : Int) (xs : List (Int × Bool)) (p q : Int) : okA X xs p q 11 = (okA X xs p q 12 && !(((List.length xs : Nat) : Int) == (12 : Int))) := by
  unfold okA
  cases aqsB X xs with
  | false => rfl
  | true =>
    cases dbB p q with
    | false => simp
    | true =>
      simp only [Bool.true_and, Bool.and_true]
      rw [Bool.eq_iff_iff]
      simp only [decide_eq_true_eq, Bool.and_eq_true, Bool.not_eq_true', beq_eq_false_iff_ne, ne_eq]
      omega
theorem toT_11 {X : Int} {xs : List (Int × Bool)} {p q : Int} (h : okA X xs p q 11 = true) : toT X xs p q ≤ 1200000000000 := by
  obtain ⟨⟨x, a, b, rfl, rfl, rfl, h1, h2, h3, h4, h5⟩, h6⟩ := okA_in h
  have h := sm_le (w := shW a b xs) (B := 10 ^ 11) (fun i => shW_le h4 h5 (by omega)) x
  have : (10 ^ 11 : Nat) * x ≤ 10 ^ 11 * 12 := Nat.mul_le_mul_left _ h2
  have e : (10 ^ 11 : Nat) * 12 = 1200000000000 := by decide
  show sm (shW a b xs) x ≤ _
  omega
/-- What both sides work out from the shares. -/
theorem yes_num {w T p q : Nat} (hw : w ≤ T) (hT : T ≤ 1200000000000) (h0 : 0 < T) (hq : 1 ≤ q) (hq2 : q ≤ 10) (hp : p ≤ q) : (chk (I64 ((q : Int) - (p : Int))) <| chk (I64 ((w : Int) * ((q : Int) - (p : Int)))) <| chk (I64 ((T : Int) - (w : Int))) <| chk (I64 (((T : Int) - (w : Int)) * (p : Int))) <| chk (I64 (((w : Int) * ((q : Int) - (p : Int))) + (((T : Int) - (w : Int)) * (p : Int)))) <| chk (I64 ((T : Int) * (q : Int))) <| chk (0 ≤ (((w : Int) * ((q : Int) - (p : Int))) + (((T : Int) - (w : Int)) * (p : Int)))) <| chk (1 ≤ ((T : Int) * (q : Int))) <| some ((IntKind.wrap .i64 (Int.tdiv (((w : Int) * ((q : Int) - (p : Int))) + (((T : Int) - (w : Int)) * (p : Int))) ((Int.gcd (((w : Int) * ((q : Int) - (p : Int))) + (((T : Int) - (w : Int)) * (p : Int))) ((T : Int) * (q : Int)) : Nat) : Int))), (IntKind.wrap .i64 (Int.tdiv ((T : Int) * (q : Int)) ((Int.gcd (((w : Int) * ((q : Int) - (p : Int))) + (((T : Int) - (w : Int)) * (p : Int))) ((T : Int) * (q : Int)) : Nat) : Int))), true)) = some ((frN (w * (q - p) + (T - w) * p) (T * q)).1, (frN (w * (q - p) + (T - w) * p) (T * q)).2, true) := by
  have e1 : (q : Int) - (p : Int) = ((q - p : Nat) : Int) := by omega
  have e2 : (T : Int) - (w : Int) = ((T - w : Nat) : Int) := by omega
  have e3 : (w : Int) * ((q - p : Nat) : Int) = ((w * (q - p) : Nat) : Int) := by norm_cast
  have e4 : ((T - w : Nat) : Int) * (p : Int) = (((T - w) * p : Nat) : Int) := by norm_cast
  have e5 : ((w * (q - p) : Nat) : Int) + (((T - w) * p : Nat) : Int) = ((w * (q - p) + (T - w) * p : Nat) : Int) := by norm_cast
  have e6 : (T : Int) * (q : Int) = ((T * q : Nat) : Int) := by norm_cast
  have b1 : w * (q - p) ≤ 1200000000000 * 10 := Nat.mul_le_mul (by omega) (by omega)
  have b2 : (T - w) * p ≤ 1200000000000 * 10 := Nat.mul_le_mul (by omega) (by omega)
  have b3 : T * q ≤ 1200000000000 * 10 := Nat.mul_le_mul hT hq2
  have b4 : 1 ≤ T * q := Nat.mul_pos h0 hq
  rw [e1, e2, e3, e4, e5, e6]
  have hf := fr_wrap (s := w * (q - p) + (T - w) * p) (T := T * q) (by omega) (by omega)
  rw [chk_pos (by unfold I64; omega), chk_pos (by unfold I64; omega), chk_pos (by unfold I64; omega), chk_pos (by unfold I64; omega), chk_pos (by unfold I64; omega), chk_pos (by unfold I64; omega), chk_pos (by omega), chk_pos (by omega), ← hf]
theorem iChanceYes_eq (X : Int) (xs : List (Int × Bool)) (r p q : Int) (hl : xs.length ≤ 1000) : F_impl_ChanceYes X xs r p q = some ((yeF X xs r p q).1, (yeF X xs r p q).2, yeB X xs r p q) := by
  unfold F_impl_ChanceYes yeF yeB
  rcases Bool.eq_false_or_eq_true (okA X xs p q 11) with h | h
  · rw [bnd3_eq (iSharesAfter_yes (by decide) h), h, Bool.true_and]
    have hT := toT_11 h
    obtain ⟨⟨x, a, b, rfl, rfl, rfl, h1, h2, h3, h4, h5⟩, h6⟩ := okA_in h
    by_cases h0 : 0 < toT x xs a b
    · rw [decide_eq_true h0, Bool.true_and]
      rcases Bool.eq_false_or_eq_true (isQ x r) with hq | hq
      · rw [hq]
        refine jn_is (fun J => J false) (fun J => ite_f (c := !true) rfl _ _) ?_
        obtain ⟨x', r', hx, rfl, _, _, hr⟩ := isQ_nat hq
        have hw := inW_le (wOf xs a b) r' x
        have eT : toT x xs a b = sm (wOf xs a b) x := rfl
        rw [ite_f rfl, ite_t rfl, Int.toNat_natCast, bnd1_eq (iWithin_eq h2 (by rw [← eT]; omega)), yes_num (by rw [eT]; exact hw) hT h0 h3 h4 h5]
        rfl
      · rw [hq]; rfl
    · rw [decide_eq_false h0]; rfl
  · rw [bnd3_eq (iSharesAfter_no hl h), h]; rfl
theorem sChanceYes_eq (X : Int) (xs : List (Int × Bool)) (r p q : Int) (hl : xs.length ≤ 1000) : F_spec_ChanceYes X xs r p q = some ((yeF X xs r p q).1, (yeF X xs r p q).2, yeB X xs r p q) := by
  unfold F_spec_ChanceYes yeF yeB
  simp only [bnd1_eq (sAns7_eq X xs p q hl)]
  rw [okA_11]
  rcases Bool.eq_false_or_eq_true (okA X xs p q 12) with h | h
  · rw [h, Bool.true_and]
    rcases Bool.eq_false_or_eq_true (((List.length xs : Nat) : Int) == (12 : Int)) with h12 | h12
    · rw [h12]; rfl
    · rw [h12]
      have h11 : okA X xs p q 11 = true := by rw [okA_11, h, h12]; rfl
      have hT := toT_11 h11
      have hs := sAfter_of (by decide) h11
      obtain ⟨⟨x, a, b, rfl, rfl, rfl, h1, h2, h3, h4, h5⟩, h6⟩ := okA_in h
      rcases Bool.eq_false_or_eq_true (isQ x r) with hq | hq
      · rw [hq]
        refine jn_is (fun J => J false) (fun J => by rw [ite_f (c := !true) rfl, ite_f rfl]; rfl) ?_
        rw [ite_f rfl, bnd2_eq hs]
        obtain ⟨x', r', hx, rfl, _, _, hr⟩ := isQ_nat hq
        have hw := inW_le (wOf xs a b) r' x
        have eT : toT x xs a b = sm (wOf xs a b) x := rfl
        by_cases h0 : 0 < toT x xs a b
        · have hne : ((((toT x xs a b : Nat) : Int)) == (0 : Int)) = false := by rw [beq_eq_false_iff_ne]; omega
          rw [ite_f hne, decide_eq_true h0, Int.toNat_natCast, bnd1_eq (sIn_eq h2 (by rw [← eT]; omega)), yes_num (by rw [eT]; exact hw) hT h0 h3 h4 h5]
          rfl
        · have hz : toT x xs a b = 0 := by omega
          rw [hz]; rfl
      · rw [hq]
        cases decide (0 < toT x xs a b) <;> rfl
  · rw [h]; rfl
theorem asked_ok {bs : List Int} {p s X : Int} (hy : okY bs) (h0 : 0 ≤ p) (h1 : p ≤ 700000000000) (hX : 0 ≤ X) (hX2 : X ≤ 13) : ∃ xs p' s', F_p_spec_l1Cur_asked bs p s X = some (xs, bs, p', s') ∧ p ≤ p' ∧ p' ≤ p + 200 ∧ xs.length ≤ 100 := by
  unfold F_p_spec_l1Cur_asked
  have a1 := maxN_in (a := 1) (b := X)
  obtain ⟨r, p1, s1, e1, g0, g1, g2, g3⟩ := pick_ok (s := s) (n := maxN 1 X) hy h0 (by omega)
  have g3 := g3 (by omega)
  rw [bnd4_eq e1]
  simp only [jn]
  obtain ⟨k, p2, s2, e2, k0, k1, k2⟩ := among_ok (s := s1) (p := p1) (xs := [(3 : Int), (4 : Int), (2 : Int), (5 : Int), (1 : Int), (0 : Int), (7 : Int), (10 : Int)]) hy (by omega) (by omega) (by decide)
  have hk : 0 ≤ k ∧ k ≤ 10 := by
    simp only [List.mem_cons, List.not_mem_nil, or_false] at k2
    omega
  rw [bnd4_eq e2]
  let Q : Option (List (Int × Bool) × List Int × Int × Int) → Prop := fun o => ∃ xs p' s', o = some (xs, bs, p', s') ∧ p ≤ p' ∧ p' ≤ p + 200 ∧ xs.length ≤ 100
  have key : ∀ J : List Int → Int → Int → List (Int × Bool) → Option (List (Int × Bool) × List Int × Int × Int), (∀ pp ss xs, p ≤ pp → pp ≤ p + 100 → xs.length ≤ 12 → Q (J bs pp ss xs)) → Q (F_p_spec_l1Cur_asked_L1 X r J fuel bs p2 s2 [] k) := by
    intro J hJ
    refine loop_m (fun m (z : Int × Int × List (Int × Bool) × Int) => F_p_spec_l1Cur_asked_L1 X r J m bs z.1 z.2.1 z.2.2.1 z.2.2.2) (fun z => 0 ≤ z.2.2.2 ∧ z.2.2.2 ≤ k ∧ p ≤ z.1 ∧ z.1 ≤ p + 4 + 6 * (k - z.2.2.2) ∧ (z.2.2.1.length : Int) = k - z.2.2.2) (fun z => z.2.2.2.toNat) Q ?_ fuel (p2, s2, [], k) ⟨hk.1, Int.le_refl _, by simp only; omega, by simp only; omega, by simp⟩ (by have := fuel_ge; simp only; omega)
    rintro m ⟨pp, ss, xs, i⟩ ⟨i0, i1, q0, q1, ql⟩
    simp only at i0 i1 q0 q1 ql ⊢
    rw [F_p_spec_l1Cur_asked_L1]
    by_cases hi : i > 0
    · obtain ⟨v, p4, s4, e4, w0, w1, w2, w3⟩ := question_ok (s := ss) (n := X) hy (p := pp) (by omega) (by omega)
      obtain ⟨b, p5, s5, e5, y0, y1⟩ := one_ok (s := s4) (p := p4) (n := 4) hy (by omega) (by omega)
      rw [ite_t (decide_eq_true hi), bnd4_eq e4]
      have fin : ∀ o9 : Bool, ∃ c : Bool, (bif b then (chk (((List.length xs) + 1) * 16 ≤ 140737488355328 ∧ (List.length xs) + 1 ≤ maxLen) <| chk (I64 (i - (1 : Int))) <| F_p_spec_l1Cur_asked_L1 X r J m bs p5 s5 (xs ++ [(v, !o9)]) (i - (1 : Int))) else (chk (((List.length xs) + 1) * 16 ≤ 140737488355328 ∧ (List.length xs) + 1 ≤ maxLen) <| chk (I64 (i - (1 : Int))) <| F_p_spec_l1Cur_asked_L1 X r J m bs p5 s5 (xs ++ [(v, o9)]) (i - (1 : Int)))) = F_p_spec_l1Cur_asked_L1 X r J m bs p5 s5 (xs ++ [(v, c)]) (i - 1) := fun o9 => by
        cases b with
        | true => exact ⟨!o9, by rw [ite_t rfl, chk_pos ⟨by omega, by unfold maxLen; omega⟩, chk_pos (by unfold I64; omega)]⟩
        | false => exact ⟨o9, by rw [ite_f rfl, chk_pos ⟨by omega, by unfold maxLen; omega⟩, chk_pos (by unfold I64; omega)]⟩
      have go : ∀ c : Bool, ∃ s' : Int × Int × List (Int × Bool) × Int, (0 ≤ s'.2.2.2 ∧ s'.2.2.2 ≤ k ∧ p ≤ s'.1 ∧ s'.1 ≤ p + 4 + 6 * (k - s'.2.2.2) ∧ (s'.2.2.1.length : Int) = k - s'.2.2.2) ∧ s'.2.2.2.toNat < i.toNat ∧ F_p_spec_l1Cur_asked_L1 X r J m bs p5 s5 (xs ++ [(v, c)]) (i - 1) = F_p_spec_l1Cur_asked_L1 X r J m bs s'.1 s'.2.1 s'.2.2.1 s'.2.2.2 := fun c =>
        ⟨(p5, s5, xs ++ [(v, c)], i - 1), ⟨by simp only; omega, by simp only; omega, by simp only; omega, by simp only; omega, by simp only [List.length_append, List.length_cons, List.length_nil]; omega⟩, by simp only; omega, rfl⟩
      left
      simp only [jn, nam]
      rw [bnd4_eq e5, bnd4_eq e5, chk_pos ⟨g2, by omega⟩]
      rcases Bool.eq_false_or_eq_true (decide (v ≥ (0 : Int)) && decide (v ≤ (4095 : Int))) with h7 | h7
      · rw [ite_t h7]
        obtain ⟨c, hc⟩ := fin (bits .and .i64 (v / 2 ^ Int.toNat r) (1 : Int) == (1 : Int))
        rw [hc]; exact go c
      · rw [ite_f h7]
        obtain ⟨c, hc⟩ := fin false
        rw [hc]; exact go c
    · rw [ite_f (decide_eq_false hi)]
      exact .inr (hJ pp ss xs q0 (by omega) (by omega))
  refine key _ fun pp ss xs q0 q1 ql => ?_
  obtain ⟨b, p5, s5, e5, y0, y1⟩ := one_ok (s := ss) (n := 40) hy (p := pp) (by omega) (by omega)
  rw [bnd4_eq e5]
  cases b with
  | true =>
    rw [ite_t rfl]
    refine loop_m (fun m (zs : List (Int × Bool)) => F_p_spec_l1Cur_asked_L2 (fun o500d o500e o500g o10b => some (o10b, o500d, o500e, o500g)) bs p5 s5 m zs) (fun zs => zs.length ≤ 21) (fun zs => 21 - zs.length) Q ?_ fuel xs (by omega) (by have := fuel_ge; omega)
    intro m zs hz
    rw [F_p_spec_l1Cur_asked_L2]
    by_cases hi : ((zs.length : Nat) : Int) < 21
    · rw [ite_t (decide_eq_true hi), chk_pos ⟨by omega, by unfold maxLen; omega⟩]
      exact .inl ⟨zs ++ [(1, false)], by simp only [List.length_append, List.length_cons, List.length_nil]; omega, by simp only [List.length_append, List.length_cons, List.length_nil]; omega, rfl⟩
    · rw [ite_f (decide_eq_false hi)]
      exact .inr ⟨zs, p5, s5, rfl, by omega, by omega, by omega⟩
  | false => exact ⟨xs, p5, s5, rfl, by omega, by omega, by omega⟩
theorem doubt7_ok {bs : List Int} {p s : Int} (hy : okY bs) (h0 : 0 ≤ p) (h1 : p ≤ 700000000000) : ∃ a b p' s', F_p_spec_l1Cur_doubt7 bs p s = some (a, b, bs, p', s') := by
  unfold F_p_spec_l1Cur_doubt7
  obtain ⟨r, p1, s1, e1, g0, g1, g2⟩ := among_ok (s := s) (p := p) (xs := [(10 : Int), (4 : Int), (3 : Int), (2 : Int), (1 : Int), (7 : Int), (5 : Int)]) hy (by omega) (by omega) (by decide)
  have hr : 1 ≤ r ∧ r ≤ 10 := by
    simp only [List.mem_cons, List.not_mem_nil, or_false] at g2
    omega
  have hd : 0 ≤ Int.tdiv r 2 ∧ Int.tdiv r 2 ≤ 5 := by rw [Int.tdiv_eq_ediv_of_nonneg (by omega)]; omega
  rw [bnd4_eq e1, chk_pos (by unfold I64; omega), chk_pos (by unfold I64; omega)]
  obtain ⟨v, p2, s2, e2, k0, k1, k2, k3⟩ := pick_ok (s := s1) (n := r + 1) hy (p := p1) (by omega) (by omega)
  rw [bnd4_eq e2]
  obtain ⟨u, p3, s3, e3, m0, m1, m2⟩ := among_ok (s := s2) (p := p2) (xs := [(1 : Int), (1 : Int), (0 : Int), r, (Int.tdiv r (2 : Int)), v]) hy (by omega) (by omega) (by simp)
  rw [bnd4_eq e3]
  obtain ⟨w, p4, s4, e4, n0, n1, n2, n3⟩ := pick_ok (s := s3) (n := 40) hy (p := p3) (by omega) (by omega)
  simp only [jn]
  rw [bnd4_eq e4]
  rcases Bool.eq_false_or_eq_true (w == (0 : Int)) with h | h
  · rw [ite_t h]
    obtain ⟨c, p5, s5, e5, _⟩ := among_ok (s := s4) (p := p4) (xs := [(0 : Int), (11 : Int), (-1 : Int)]) hy (by omega) (by omega) (by simp)
    rw [bnd4_eq e5]; exact ⟨_, _, _, _, rfl⟩
  · rw [ite_f h]
    rcases Bool.eq_false_or_eq_true (w == (1 : Int)) with h2 | h2
    · rw [ite_t h2]
      obtain ⟨c, p5, s5, e5, _⟩ := among_ok (s := s4) (p := p4) (xs := [(-1 : Int), (r + 1)]) hy (by omega) (by omega) (by simp)
      rw [bnd4_eq e5]; exact ⟨_, _, _, _, rfl⟩
    · rw [ite_f h2]; exact ⟨_, _, _, _, rfl⟩
theorem drawChances_ok {bs : List Int} (hy : okY bs) : ∃ X xs a b, F_spec_DrawChancesAfter bs = some (X, xs, a, b) ∧ xs.length ≤ 100 := by
  unfold F_spec_DrawChancesAfter
  obtain ⟨n, p1, s1, e1, g0, g1, g2, g3⟩ := many_ok (s := 0) (p := 0) hy (by omega) (by omega)
  obtain ⟨xs, p2, s2, e2, k0, k1, k2⟩ := asked_ok (s := s1) (p := p1) hy (by omega) (by omega) g2 g3
  obtain ⟨a, b, p3, s3, e3⟩ := doubt7_ok (s := s2) (p := p2) hy (by omega) (by omega)
  rw [bnd4_eq e1, bnd4_eq e2, bnd5_eq e3]
  exact ⟨_, _, _, _, rfl, k2⟩
theorem drawYes_ok {bs : List Int} (hy : okY bs) : ∃ X xs r a b, F_spec_DrawChanceYes bs = some (X, xs, r, a, b) ∧ xs.length ≤ 100 := by
  unfold F_spec_DrawChanceYes
  obtain ⟨n, p1, s1, e1, g0, g1, g2, g3⟩ := many_ok (s := 0) (p := 0) hy (by omega) (by omega)
  obtain ⟨xs, p2, s2, e2, k0, k1, k2⟩ := asked_ok (s := s1) (p := p1) hy (by omega) (by omega) g2 g3
  obtain ⟨r, p4, s4, e4, w0, w1, w2, w3⟩ := question_ok (s := s2) (n := n) hy (p := p2) (by omega) (by omega)
  obtain ⟨a, b, p3, s3, e3⟩ := doubt7_ok (s := s4) (p := p4) hy (by omega) (by omega)
  rw [bnd4_eq e1, bnd4_eq e2, bnd4_eq e4, bnd5_eq e3]
  exact ⟨_, _, _, _, _, rfl, k2⟩
theorem vPairs_eq (xs : List (Int × Int)) (hl : xs.length ≤ 1000) : F_laws_vPairs xs xs = some true := by
  unfold F_laws_vPairs
  rw [ite_f (bne_self_eq_false _)]
  simp only [jn]
  refine loop_up (fun n i (s : Unit) => F_laws_vPairs_L1 xs xs (fun _ => some true) n i) ((xs.length : Nat) : Int) (fun _ => ()) _ ?_ ?_ (by omega) fuel (by have := fuel_ge; omega)
  · intro n i i0 i1
    rw [F_laws_vPairs_L1, ite_t (decide_eq_true i1), chk_pos ⟨i0, i1⟩, chk_pos ⟨i0, i1⟩]
    simp only [nam]
    rw [ite_f (by simp), chk_pos (by unfold I64; omega)]
  · intro n
    rw [F_laws_vPairs_L1, ite_f (decide_eq_false (by omega))]
theorem vPlus2 {s u T : Nat} (hT : 1 ≤ T) (hT2 : T < 1000000000000000) (hs : s + u < 1000000000000000) : F_laws_vPlus (frN s T).1 (frN s T).2 (frN u T).1 (frN u T).2 = some ((frN (s + u) T).1, (frN (s + u) T).2) := vPlus_eq hT hT2 hs
/-- The part of the law that adds all chances up. -/
theorem sums_loop {w : Nat → Nat} {x S : Nat} (hx : x ≤ 12) (hS : S < 2 ^ x) (hT : 0 < sm w x) (hT2 : sm w x ≤ 12000000000000) (J2 : Int → Int → Int → Int → Option Bool) :
    F_laws_FnAfter_L1 (frL w x (sm w x)) ((amx w x : Nat) : Int) (S : Int) J2 fuel 0 1 0 1 0 = J2 1 1 (frN (inW w S x) (sm w x)).1 (frN (inW w S x) (sm w x)).2 := by
  obtain ⟨m1, m2, m3⟩ := amx_in w x
  have hx0 : 1 ≤ x := by
    rcases Nat.eq_zero_or_pos x with h | h
    · subst h
      have : sm w 0 = 0 := rfl
      omega
    · exact h
  have hm : amx w x < x := by omega
  generalize hTT : sm w x = T at *
  have key := loop_up (fun n i (s : (Int × Int) × (Int × Int)) => F_laws_FnAfter_L1 (frL w x T) ((amx w x : Nat) : Int) (S : Int) J2 n s.1.1 s.1.2 s.2.1 s.2.2 i) (x : Int) (fun i => (frN (sm w i.toNat) T, frN (inW w S i.toNat) T)) (J2 1 1 (frN (inW w S x) T).1 (frN (inW w S x) T).2) ?_ ?_ (by omega) fuel (by have := fuel_ge; omega)
  · have e0 : (0 : Int).toNat = 0 := rfl
    simp only [e0, sm, inW, fr_zero hT] at key
    exact key
  · intro n i i0 i1
    obtain ⟨j, rfl⟩ := int_nat i0
    have hj : j < x := by omega
    have e1 : ((j : Int) + 1).toNat = j + 1 := by omega
    have hs := sm_mono w (i := j + 1) (n := x) (by omega)
    rw [hTT] at hs
    have hi := inW_le w S j
    have hss := sm_s w j
    have hma := sm_each w (i := amx w x) (n := x) hm
    rw [hTT] at hma
    have hwj := m2 j hj
    simp only [Int.toNat_natCast, e1]
    rw [F_laws_FnAfter_L1, frL_len, ite_t (decide_eq_true i1), chk_pos ⟨i0, i1⟩, Int.toNat_natCast, Int.toNat_natCast, frL_get hj, frL_get hm, bnd2_eq (vPlus2 hT (by omega) (by omega)), hss]
    refine jn_is (fun J => J (frN (inW w S (j + 1)) T).1 (frN (inW w S (j + 1)) T).2) (fun J => ?_) ?_
    · rw [chk_pos (by omega)]
      simp only [nam]
      have hb := has_raw (q := (S : Int)) (k := (j : Int)) i0 (by omega)
      rw [Int.toNat_natCast] at hb
      rw [hb, has_nat (by omega), inW]
      rcases Bool.eq_false_or_eq_true (S.testBit j) with h | h
      · rw [ite_t h, ite_t h, bnd2_eq (vPlus2 hT (by omega) (by omega))]
      · rw [ite_f h, ite_f h]; rfl
    · refine jn_is (fun J => J false) (fun J => ?_) ?_
      · rw [chk_pos (by omega), bnd1_eq (vLess_eq hT (by omega) (by omega)), ite_f (decide_eq_false (by omega))]
        rcases Bool.eq_false_or_eq_true (decide ((j : Int) < ((amx w x : Nat) : Int))) with h | h
        · rw [ite_t h]
          have h := of_decide_eq_true h
          have hlt := m3 j (by omega)
          simp only [nam]
          congr 1
          rw [Bool.eq_false_iff]
          intro hc
          simp only [Bool.and_true, Bool.and_eq_true, beq_iff_eq] at hc
          have := fr_inj hT (Prod.ext hc.1 hc.2)
          omega
        · rw [ite_f h]
      · rw [ite_f rfl, chk_pos (by unfold I64; omega)]
  · intro n
    simp only [Int.toNat_natCast]
    rw [F_laws_FnAfter_L1, frL_len, ite_f (decide_eq_false (by omega)), hTT, fr_full hT]
theorem sm_ones {w : Nat → Nat} (h : ∀ i, w i = 1) : ∀ n, sm w n = n
  | 0 => rfl
  | n + 1 => by rw [sm_s, sm_ones h n, h]
theorem inW_oth (w : Nat → Nat) {x r : Nat} (h : r < 2 ^ x) : ∀ n, n ≤ x → inW w r n + inW w (2 ^ x - (r + 1)) n = sm w n
  | 0, _ => rfl
  | n + 1, hn => by
    have ih := inW_oth w h n (by omega)
    unfold inW
    rw [sm_s, Nat.testBit_two_pow_sub_succ h, decide_eq_true (by omega), Bool.true_and]
    cases r.testBit n <;> simp only [Bool.not_true, Bool.not_false, cond_true, cond_false] <;> omega
theorem law_after {bs : List Int} (hy : okY bs) (hb : bs.length ≤ 9223372036854775807) : F_laws_FnAfter bs = some true := by
  unfold F_laws_FnAfter
  rw [chk_pos hb]
  rcases Bool.eq_false_or_eq_true (decide (((List.length bs : Nat) : Int) > (65536 : Int))) with hB | hB
  · rw [ite_t hB]
  rw [ite_f hB]
  have hB := of_decide_eq_false hB
  have hy1 := okY_cut (k := 1) hy (by omega) (by omega)
  obtain ⟨X, xs, p, q, e1, hl⟩ := drawChances_ok hy
  obtain ⟨Y, ys, r, a, b, e2, hl2⟩ := drawYes_ok hy1
  rw [bnd4_eq e1, bnd2_eq (iChancesAfter_eq X xs p q (by omega)), bnd2_eq (sChancesAfter_eq X xs p q (by omega)), bnd2_eq (iLikeliest_eq X xs p q (by omega)), bnd2_eq (sLikeliest_eq X xs p q (by omega)),
    bnd2_eq (iEvenAfter_eq X xs p q (by omega)), bnd2_eq (sEvenAfter_eq X xs p q (by omega)), chk_pos (by omega), bnd5_eq e2, bnd3_eq (iChanceYes_eq Y ys r a b (by omega)), bnd3_eq (sChanceYes_eq Y ys r a b (by omega))]
  have hcl : (caV X xs p q).length ≤ 1000 := by
    unfold caV
    rcases Bool.eq_false_or_eq_true (caB X xs p q) with h | h
    · rw [ite_t h, frL_len]
      unfold caB at h
      obtain ⟨⟨x, _, _, rfl, _, _, _, h2, _⟩, _⟩ := okA_in (Bool.and_eq_true_iff.1 h).1
      omega
    · rw [ite_f h]; exact Nat.zero_le _
  refine jn_is (fun J => J false) (fun J => by simp only [bnd1_eq (vPairs_eq _ hcl), bne_self_eq_false, beq_self_eq_true, Bool.not_true, cond_false, cond_true, Bool.and_self]) ?_
  rw [ite_f rfl]
  refine jn_is (fun J => J ()) (fun J => ?_) ?_
  · rcases Bool.eq_false_or_eq_true (caB X xs p q) with h | h
    · rw [ite_t h]
      unfold caV lkV evV'
      rw [ite_t h, ite_t h, ite_t h]
      unfold caB at h
      have ⟨hok, hT⟩ := Bool.and_eq_true_iff.1 h
      have hT := of_decide_eq_true hT
      have hT2 := toT_le (Int.le_refl _) hok
      obtain ⟨⟨x, c, d, rfl, rfl, rfl, h1, h2, h3, h4, h5⟩, h6⟩ := okA_in hok
      have eT : toT x xs c d = sm (wOf xs c d) x := rfl
      have hw0 : xs.length = 0 → ∀ i, wOf xs c d i = 1 := fun h0 i => by
        unfold wOf shW
        have := flC_le xs (i : Int) xs.length
        have e : flC xs (i : Int) xs.length = 0 := by omega
        rw [e, h0]; rfl
      rw [eT] at hT hT2 ⊢
      generalize wOf xs c d = w at *
      rw [Int.toNat_natCast]
      have hS := (evn_in w x (2 ^ x)).1
      have hp := p12 h2
      generalize (evn w x (2 ^ x)).2 = S at *
      have hI := inW_le w S x
      refine jn_is (fun J2 => J2 1 1 (frN (inW w S x) (sm w x)).1 (frN (inW w S x) (sm w x)).2) (fun J2 => sums_loop h2 (by omega) hT hT2 J2) ?_
      have hv : F_laws_vLess 1 1 (frN (inW w S x) (sm w x)).1 (frN (inW w S x) (sm w x)).2 = some false := by
        have := vLess_eq (s := sm w x) (u := inW w S x) hT (by omega) (by omega)
        rw [fr_full hT, decide_eq_false (by omega)] at this
        exact this
      refine jn_is (fun J2 => J2 false) (fun J2 => ?_) (ite_f rfl _ _)
      rw [frL_len, ite_f (bne_self_eq_false _), ite_f (by rfl), bnd1_eq hv]
      rcases Bool.eq_false_or_eq_true (((List.length xs : Nat) : Int) == (0 : Int)) with h0 | h0
      · have hz : xs.length = 0 := by have := beq_iff_eq.1 h0; omega
        have hone := hw0 hz
        rw [ite_t h0, chk_pos (by omega), frL_get h1, hone 0, sm_ones hone x, fr_one, ite_f (by simp)]
      · rw [ite_f h0]
    · rw [ite_f h]
  · rcases Bool.eq_false_or_eq_true (yeB Y ys r a b) with h | h
    · rw [ite_t h, bnd3_eq (iChanceYes_eq Y ys (oqV Y r) a b (by omega))]
      have hy0 := h
      unfold yeB at h
      have ⟨h', hQ⟩ := Bool.and_eq_true_iff.1 h
      have ⟨hok, hT⟩ := Bool.and_eq_true_iff.1 h'
      have hT := of_decide_eq_true hT
      have hT2 := toT_11 hok
      have eo : oqV Y r = othN Y r := by unfold oqV; rw [if_pos hQ]
      have hy2 : yeB Y ys (othN Y r) a b = true := by unfold yeB; rw [h', isQ_other hQ]; rfl
      rw [eo, ite_t hQ, ite_t hy2]
      unfold yeF
      rw [ite_t hy0, ite_t hy2]
      obtain ⟨⟨x, c, d, rfl, rfl, rfl, h1, h2, h3, h4, h5⟩, h6⟩ := okA_in hok
      obtain ⟨x', r', hx, rfl, _, _, hr⟩ := isQ_nat hQ
      have hx : x = x' := by omega
      subst hx
      have eT : toT x ys c d = sm (wOf ys c d) x := rfl
      have er : (othN (x : Int) (r' : Int)).toNat = 2 ^ x - (r' + 1) := by
        unfold othN
        rw [Int.toNat_natCast]
        have : ((2 ^ x : Nat) : Int) = (2 : Int) ^ x := by norm_cast
        omega
      have hsum : yeN x ys r' c d + yeN x ys (othN x r') c d = toT x ys c d * d := by
        unfold yeN
        rw [er, Int.toNat_natCast, Int.toNat_natCast, Int.toNat_natCast, Int.toNat_natCast, eT]
        have ho := inW_oth (wOf ys c d) hr x (Nat.le_refl _)
        generalize inW (wOf ys c d) r' x = A at *
        generalize inW (wOf ys c d) (2 ^ x - (r' + 1)) x = B at *
        rw [← ho]
        have f1 : A + B - A = B := by omega
        have f2 : A + B - B = A := by omega
        obtain ⟨k, rfl⟩ : ∃ k, d = c + k := ⟨d - c, by omega⟩
        have f3 : c + k - c = k := by omega
        rw [f1, f2, f3, Nat.add_mul, Nat.mul_add, Nat.mul_add]
        omega
      have hD1 : 1 ≤ toT x ys c d * d := Nat.mul_pos hT h3
      have hD2 : toT x ys c d * d ≤ 1200000000000 * 10 := Nat.mul_le_mul hT2 h4
      simp only [Int.toNat_natCast]
      rw [bnd2_eq (vPlus2 hD1 (by omega) (by rw [hsum]; omega)), hsum, fr_full hD1]
      rfl
    · rw [ite_f h]
end Go.Tl
