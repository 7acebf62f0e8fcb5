/-
  Plain laws of the printed functions: no program here.
-/
import Derived.Test.YtgppmbbbgolkhaaAuTrF
namespace Go.Tl
set_option linter.unusedVariables false
set_option linter.unusedSimpArgs false
/-- A loop, told by what its rounds keep. -/
theorem loop_m {σ R : Type} (L : Nat → σ → Option R) (I : σ → Prop) (μ : σ → Nat) (Q : Option R → Prop)
    (step : ∀ n s, I s → (∃ s', I s' ∧ μ s' < μ s ∧ L (n + 1) s = L n s') ∨ Q (L (n + 1) s)) : ∀ n s, I s → μ s < n → Q (L n s) := by
  intro n
  induction n with
  | zero => intro s _ h; omega
  | succ n ih =>
    intro s hI hm
    rcases step n s hI with ⟨s', h1, h2, h3⟩ | h
    · rw [h3]; exact ih s' h1 (by omega)
    · exact h
/-- A loop that counts up to N; st is its state by the count. -/
theorem loop_up {σ R : Type} (L : Nat → Int → σ → Option R) (N : Int) (st : Int → σ) (r : Option R)
    (step : ∀ n i, 0 ≤ i → i < N → L (n + 1) i (st i) = L n (i + 1) (st (i + 1))) (fin : ∀ n, L (n + 1) N (st N) = r) (h0 : 0 ≤ N) (n : Nat) (hn : N.toNat < n) : L n 0 (st 0) = r := by
  have key : ∀ (k : Nat) (n : Nat) (i : Int), 0 ≤ i → i + k = N → k < n → L n i (st i) = r := by
    intro k
    induction k with
    | zero =>
      intro n i h1 h2 h3; obtain ⟨n, rfl⟩ : ∃ m, n = m + 1 := ⟨n - 1, by omega⟩; have e : i = N := by omega
      subst e; exact fin n
    | succ k ih =>
      intro n i h1 h2 h3
      obtain ⟨n, rfl⟩ : ∃ m, n = m + 1 := ⟨n - 1, by omega⟩
      rw [step n i h1 (by omega)]
      exact ih n (i + 1) (by omega) (by omega) (by omega)
  exact key N.toNat n 0 (Int.le_refl _) (by omega) hn
/-- A loop that counts up to N and may end early: with what p tells. -/
theorem loop_all {R : Type} (L : Nat → Int → Option R) (N : Int) (p : Int → Bool) (no yes : Option R)
    (step : ∀ n i, 0 ≤ i → i < N → p i = true → L (n + 1) i = L n (i + 1)) (stop : ∀ n i, 0 ≤ i → i < N → p i = false → L (n + 1) i = no) (fin : ∀ n, L (n + 1) N = yes) (h0 : 0 ≤ N) (n : Nat) (hn : N.toNat < n) :
    (L n 0 = yes ∧ ∀ i, 0 ≤ i → i < N → p i = true) ∨ (L n 0 = no ∧ ∃ i, 0 ≤ i ∧ i < N ∧ p i = false ∧ ∀ j, 0 ≤ j → j < i → p j = true) := by
  have key : ∀ (k : Nat) (n : Nat) (i : Int), 0 ≤ i → i + k = N → k < n → (∀ j, 0 ≤ j → j < i → p j = true) → (L n i = yes ∧ ∀ i, 0 ≤ i → i < N → p i = true) ∨ (L n i = no ∧ ∃ i, 0 ≤ i ∧ i < N ∧ p i = false ∧ ∀ j, 0 ≤ j → j < i → p j = true) := by
    intro k
    induction k with
    | zero =>
      intro n i h1 h2 h3 h4; obtain ⟨n, rfl⟩ : ∃ m, n = m + 1 := ⟨n - 1, by omega⟩; have e : i = N := by omega
      subst e; exact .inl ⟨fin n, h4⟩
    | succ k ih =>
      intro n i h1 h2 h3 h4
      obtain ⟨n, rfl⟩ : ∃ m, n = m + 1 := ⟨n - 1, by omega⟩
      cases hp : p i with
      | false => exact .inr ⟨stop n i h1 (by omega) hp, i, h1, by omega, hp, h4⟩
      | true =>
        rw [step n i h1 (by omega) hp]
        refine ih n (i + 1) (by omega) (by omega) (by omega) fun j k1 k2 => ?_
        by_cases e : j = i
        · rw [e]; exact hp
        · exact h4 j k1 (by omega)
  exact key N.toNat n 0 (Int.le_refl _) (by omega) hn fun j h1 h2 => by omega
theorem ite_t {α : Type} {c : Bool} (h : c = true) (x y : α) : (bif c then x else y) = x := by rw [h]; rfl
theorem ite_f {α : Type} {c : Bool} (h : c = false) (x y : α) : (bif c then x else y) = y := by rw [h]; rfl
theorem ite_c {α : Type} {P : α → Prop} {c : Bool} {x y : α} (h1 : c = true → P x) (h2 : c = false → P y) : P (bif c then x else y) := by
  cases c
  · exact h2 rfl
  · exact h1 rfl
theorem getD_in {xs : List Int} {i : Nat} {P : Int → Prop} (h : i < xs.length) (hP : ∀ x ∈ xs, P x) : P (xs.getD i 0) := by
  rw [List.getD_eq_getElem?_getD, List.getElem?_eq_getElem h]; exact hP _ (List.getElem_mem h)
theorem maxN_in {a b : Int} : a ≤ maxN a b ∧ b ≤ maxN a b ∧ (maxN a b = a ∨ maxN a b = b) := by unfold maxN; split <;> omega
theorem minN_in {a b : Int} : minN a b ≤ a ∧ minN a b ≤ b ∧ (minN a b = a ∨ minN a b = b) := by unfold minN; split <;> omega
theorem next_ok {bs : List Int} {p s : Int} (hy : okY bs) (h0 : 0 ≤ p) (h1 : p ≤ 1000000000000) : ∃ v s', F_p_spec_l1Cur_next bs p s = some (v, bs, p + 1, s') ∧ 0 ≤ v ∧ v ≤ 255 := by
  unfold F_p_spec_l1Cur_next
  have hb := hy p.toNat
  have fin : ∀ v3 : Int, 0 ≤ v3 → v3 ≤ 255 → ∃ v s', (chk (I64 (p + (1 : Int))) <| nam (IntKind.wrap .u64 (s * (6364136223846793005 : Int))) fun n37 => nam (IntKind.wrap .u64 (n37 + (IntKind.wrap .u64 v3))) fun n40 => (bif (decide ((p + (1 : Int)) ≤ ((List.length bs : Nat) : Int))) then some (v3, bs, (p + (1 : Int)), (IntKind.wrap .u64 (n40 + (462197 : Int)))) else nam (bits .and .u64 ((IntKind.wrap .u64 (n40 + (462197 : Int))) / 2 ^ Int.toNat (40 : Int)) (255 : Int)) fun n60 => chk (I64 n60) <| some (n60, bs, (p + (1 : Int)), (IntKind.wrap .u64 (n40 + (462197 : Int)))))) = some (v, bs, p + 1, s') ∧ 0 ≤ v ∧ v ≤ 255 := by
    intro v3 k0 k1
    rw [chk_pos (by unfold I64; omega)]
    simp only [nam]
    refine ite_c (P := fun o => ∃ v s', o = some (v, bs, p + 1, s') ∧ 0 ≤ v ∧ v ≤ 255) (fun _ => ?_) (fun _ => ?_)
    · exact ⟨_, _, rfl, k0, k1⟩
    · have h2 := and255 ((IntKind.wrap .u64 ((IntKind.wrap .u64 ((IntKind.wrap .u64 (s * (6364136223846793005 : Int))) + (IntKind.wrap .u64 v3))) + (462197 : Int))) / 2 ^ Int.toNat (40 : Int))
      rw [chk_pos (by unfold I64; omega)]
      exact ⟨_, _, rfl, h2.1, h2.2⟩
  simp only [jn]
  refine ite_c (P := fun o => ∃ v s', o = some (v, bs, p + 1, s') ∧ 0 ≤ v ∧ v ≤ 255) (fun h => ?_) (fun _ => ?_)
  · have h := of_decide_eq_true h
    rw [chk_pos (by omega), chk_pos (by unfold I64; omega)]
    exact fin _ hb.1 hb.2
  · exact fin 0 (by omega) (by omega)
theorem tmod_in {a n : Int} (h0 : 0 ≤ a) (h1 : 0 < n) : 0 ≤ Int.tmod a n ∧ Int.tmod a n < n := ⟨Int.tmod_nonneg _ h0, Int.tmod_lt_of_pos _ h1⟩
theorem pick_ok {bs : List Int} {p s n : Int} (hy : okY bs) (h0 : 0 ≤ p) (h1 : p ≤ 900000000000) : ∃ v p' s', F_p_spec_l1Cur_pick bs p s n = some (v, bs, p', s') ∧ p ≤ p' ∧ p' ≤ p + 2 ∧ 0 ≤ v ∧ (1 ≤ n → v < n) := by
  unfold F_p_spec_l1Cur_pick
  rcases Bool.eq_false_or_eq_true (decide (n ≤ (1 : Int))) with h | h
  · have h := of_decide_eq_true h
    rw [ite_t (decide_eq_true h)]
    exact ⟨0, p, s, rfl, by omega, by omega, by omega, fun _ => by omega⟩
  · rw [ite_f h]
    have h := of_decide_eq_false h
    obtain ⟨v, s', e, g0, g1⟩ := next_ok (s := s) hy h0 (by omega)
    rw [bnd4_eq e]
    simp only [jn]
    rcases Bool.eq_false_or_eq_true (decide (n > (200 : Int))) with h4 | h4
    · rw [ite_t h4]
      obtain ⟨v2, s2, e2, k0, k1⟩ := next_ok (s := s') hy (p := p + 1) (by omega) (by omega)
      rw [chk_pos (by unfold I64; omega), bnd4_eq e2, chk_pos (by unfold I64; omega), chk_pos (by omega)]
      have := tmod_in (a := v * 256 + v2) (n := n) (by omega) (by omega)
      exact ⟨_, _, _, rfl, by omega, by omega, this.1, fun _ => this.2⟩
    · rw [ite_f h4]
      rw [chk_pos (by omega)]
      have := tmod_in (a := v) (n := n) (by omega) (by omega)
      exact ⟨_, _, _, rfl, by omega, by omega, this.1, fun _ => this.2⟩
theorem one_ok {bs : List Int} {p s n : Int} (hy : okY bs) (h0 : 0 ≤ p) (h1 : p ≤ 900000000000) : ∃ b p' s', F_p_spec_l1Cur_one bs p s n = some (b, bs, p', s') ∧ p ≤ p' ∧ p' ≤ p + 2 := by
  unfold F_p_spec_l1Cur_one
  obtain ⟨v, p', s', e, g0, g1, g2, g3⟩ := pick_ok (s := s) (n := n) hy h0 h1
  rw [bnd4_eq e]
  exact ⟨_, _, _, rfl, g0, g1⟩
theorem among_ok {bs : List Int} {p s : Int} {xs : List Int} (hy : okY bs) (h0 : 0 ≤ p) (h1 : p ≤ 900000000000) (hx : 0 < xs.length) : ∃ v p' s', F_p_spec_l1Cur_among bs p s xs = some (v, bs, p', s') ∧ p ≤ p' ∧ p' ≤ p + 2 ∧ v ∈ xs := by
  unfold F_p_spec_l1Cur_among
  obtain ⟨v, p', s', e, g0, g1, g2, g3⟩ := pick_ok (s := s) (n := ((List.length xs : Nat) : Int)) hy h0 h1
  rw [bnd4_eq e, chk_pos ⟨g2, g3 (by omega)⟩]
  refine ⟨_, _, _, rfl, g0, g1, ?_⟩
  have := g3 (by omega)
  exact getD_in (P := fun x => x ∈ xs) (by omega) fun x hx => hx
theorem many_ok {bs : List Int} {p s : Int} (hy : okY bs) (h0 : 0 ≤ p) (h1 : p ≤ 900000000000) : ∃ v p' s', F_p_spec_l1Cur_many bs p s = some (v, bs, p', s') ∧ p ≤ p' ∧ p' ≤ p + 2 ∧ 0 ≤ v ∧ v ≤ 13 := by
  unfold F_p_spec_l1Cur_many
  obtain ⟨v, p', s', e, g0, g1, g2⟩ := among_ok (s := s) (xs := [(4 : Int), (6 : Int), (8 : Int), (3 : Int), (5 : Int), (2 : Int), (7 : Int), (12 : Int), (1 : Int), (0 : Int), (13 : Int), (4 : Int), (6 : Int), (8 : Int), (3 : Int), (5 : Int)]) hy h0 h1 (by decide)
  rw [bnd4_eq e]
  refine ⟨_, _, _, rfl, g0, g1, ?_⟩
  simp only [List.mem_cons, List.not_mem_nil, or_false] at g2
  omega
theorem pow13 {n : Int} (h0 : 0 ≤ n) (h1 : n ≤ 13) : 1 ≤ (2 : Int) ^ n.toNat ∧ (2 : Int) ^ n.toNat ≤ 8192 := by
  obtain ⟨k, rfl⟩ : ∃ k : Nat, n = k := ⟨n.toNat, by omega⟩
  have : k ≤ 13 := by omega
  simp only [Int.toNat_natCast]
  match k, this with
  | 0, _ | 1, _ | 2, _ | 3, _ | 4, _ | 5, _ | 6, _ | 7, _ | 8, _ | 9, _ | 10, _ | 11, _ | 12, _ | 13, _ => decide
theorem question_ok {bs : List Int} {p s n : Int} (hy : okY bs) (h0 : 0 ≤ p) (h1 : p ≤ 800000000000) : ∃ v p' s', F_p_spec_l1Cur_question bs p s n = some (v, bs, p', s') ∧ p ≤ p' ∧ p' ≤ p + 4 ∧ -1 ≤ v ∧ v ≤ 4611686018427387904 := by
  unfold F_p_spec_l1Cur_question
  obtain ⟨v, p', s', e, g0, g1⟩ := one_ok (s := s) (n := 24) hy h0 (by omega)
  rw [bnd4_eq e]
  have a1 := minN_in (a := n) (b := 13)
  have a2 := maxN_in (a := 0) (b := minN n 13)
  have a3 := minN_in (a := n) (b := 12)
  have a4 := maxN_in (a := 0) (b := minN n 12)
  have b1 := pow13 (n := maxN 0 (minN n 13)) (by omega) (by omega)
  have b2 := pow13 (n := maxN 0 (minN n 12)) (by omega) (by omega)
  rcases Bool.eq_false_or_eq_true v with h4 | h4
  · rw [ite_t h4]
    rw [chk_pos ⟨by omega, by omega, by unfold I64; omega⟩]
    obtain ⟨v2, p2, s2, e2, k0, k1, k2⟩ := among_ok (s := s') (xs := [(-1 : Int), ((1 : Int) * 2 ^ Int.toNat (maxN (0 : Int) (minN n (13 : Int)))), (4611686018427387904 : Int)]) hy (p := p') (by omega) (by omega) (by simp)
    rw [bnd4_eq e2]
    refine ⟨_, _, _, rfl, by omega, by omega, ?_⟩
    simp only [List.mem_cons, List.not_mem_nil, or_false] at k2
    omega
  · rw [ite_f h4]
    rw [chk_pos ⟨by omega, by omega, by unfold I64; omega⟩]
    obtain ⟨v2, p2, s2, e2, k0, k1, k2, k3⟩ := pick_ok (s := s') (n := (1 : Int) * 2 ^ Int.toNat (maxN (0 : Int) (minN n (12 : Int)))) hy (p := p') (by omega) (by omega)
    rw [bnd4_eq e2]
    have := k3 (by omega)
    exact ⟨_, _, _, rfl, by omega, by omega, by omega, by omega⟩
theorem jn_is {γ δ : Type} {f : γ} {g : γ → Option δ} {r : Option δ} (k : γ → Option δ) (h : ∀ J, g J = k J) (h2 : k f = r) : jn f g = r := by
  unfold jn; rw [h f]; exact h2
/-- The numbers below k that p tells. -/
def fl (p : Nat → Bool) (k : Nat) : List Int := ((List.range k).filter p).map fun (i : Nat) => (i : Int)
theorem fl_yes {p : Nat → Bool} {k : Nat} (h : p k = true) : fl p (k + 1) = fl p k ++ [(k : Int)] := by
  unfold fl; rw [List.range_succ, List.filter_append, List.map_append, List.filter_cons, if_pos h]; rfl
theorem fl_no {p : Nat → Bool} {k : Nat} (h : p k = false) : fl p (k + 1) = fl p k := by
  unfold fl; rw [List.range_succ, List.filter_append, List.map_append, List.filter_cons, if_neg (by rw [h]; simp)]; simp
theorem fl_len (p : Nat → Bool) (k : Nat) : (fl p k).length ≤ k := by
  unfold fl; rw [List.length_map]; exact Nat.le_trans (List.length_filter_le _ _) (by simp)
theorem mem_fl {p : Nat → Bool} {k : Nat} {x : Int} : x ∈ fl p k ↔ ∃ i : Nat, i < k ∧ p i = true ∧ x = (i : Int) := by
  unfold fl
  simp only [List.mem_map, List.mem_filter, List.mem_range]
  constructor
  · rintro ⟨i, ⟨h1, h2⟩, rfl⟩; exact ⟨i, h1, h2, rfl⟩
  · rintro ⟨i, h1, h2, rfl⟩; exact ⟨i, ⟨h1, h2⟩, rfl⟩
theorem fl_getD {p : Nat → Bool} {k i : Nat} (h : i < (fl p k).length) : ∃ j : Nat, j < k ∧ p j = true ∧ (fl p k).getD i 0 = (j : Int) := by
  have : (fl p k).getD i 0 ∈ fl p k := getD_in (P := fun x => x ∈ fl p k) h fun x hx => hx
  obtain ⟨j, h1, h2, h3⟩ := mem_fl.1 this
  exact ⟨j, h1, h2, h3⟩
theorem openN_fl (xs : List Int) : openN xs = fl (fun i => decide (xs.getD i 0 ≥ 0)) xs.length := rfl
theorem int_nat {i : Int} (h : 0 ≤ i) : ∃ k : Nat, i = (k : Int) := ⟨i.toNat, by omega⟩
theorem bits_nat_or {a b : Nat} (ha : a < 9223372036854775808) (hb : b < 9223372036854775808) : bits .or .i64 (a : Int) (b : Int) = ((a ||| b : Nat) : Int) := by
  have hc : a ||| b < 2 ^ 63 := Nat.or_lt_two_pow (by omega) (by omega)
  unfold bits
  rw [IntKind.wrap_i64]
  show (((BitVec.ofInt 64 (a : Int) ||| BitVec.ofInt 64 (b : Int)).toNat : Int) + 9223372036854775808) % 18446744073709551616 - 9223372036854775808 = _
  rw [BitVec.toNat_or, BitVec.toNat_ofInt, BitVec.toNat_ofInt]
  have e1 : ((a : Int) % ((2 ^ 64 : Nat) : Int)).toNat = a := by omega
  have e2 : ((b : Int) % ((2 ^ 64 : Nat) : Int)).toNat = b := by omega
  rw [e1, e2]
  omega
theorem bits_nat_and {a b : Nat} (ha : a < 9223372036854775808) (hb : b < 9223372036854775808) : bits .and .i64 (a : Int) (b : Int) = ((a &&& b : Nat) : Int) := by
  have hc : a &&& b < 2 ^ 63 := Nat.and_lt_two_pow _ (by omega)
  unfold bits
  rw [IntKind.wrap_i64]
  show (((BitVec.ofInt 64 (a : Int) &&& BitVec.ofInt 64 (b : Int)).toNat : Int) + 9223372036854775808) % 18446744073709551616 - 9223372036854775808 = _
  rw [BitVec.toNat_and, BitVec.toNat_ofInt, BitVec.toNat_ofInt]
  have e1 : ((a : Int) % ((2 ^ 64 : Nat) : Int)).toNat = a := by omega
  have e2 : ((b : Int) % ((2 ^ 64 : Nat) : Int)).toNat = b := by omega
  rw [e1, e2]
  omega
theorem has_nat {q k : Nat} (hk : k ≤ 64) : hasB (q : Int) (k : Int) = q.testBit k := by
  unfold hasB
  rw [and1, Int.toNat_natCast, Nat.min_eq_left hk, Int.fdiv_eq_ediv_of_nonneg _ (Int.le_of_lt (Int.pow_pos (by decide))), Nat.testBit_eq_decide_div_mod_eq]
  have e : (q : Int) / 2 ^ k % 2 = ((q / 2 ^ k % 2 : Nat) : Int) := by norm_cast
  rw [e]
  have : q / 2 ^ k % 2 = 0 ∨ q / 2 ^ k % 2 = 1 := by omega
  rcases this with h | h <;> rw [h] <;> rfl
theorem has_raw {q k : Int} (h0 : 0 ≤ k) (h1 : k < 64) : (bits .and .i64 (q / 2 ^ Int.toNat k) (1 : Int) == (1 : Int)) = hasB q k := by
  unfold hasB
  rw [Nat.min_eq_left (by omega), Int.fdiv_eq_ediv_of_nonneg _ (Int.le_of_lt (Int.pow_pos (by decide)))]
theorem and1_has {q k : Int} (h0 : 0 ≤ k) (h1 : k < 64) : bits .and .i64 (q / 2 ^ Int.toNat k) (1 : Int) = bif hasB q k then 1 else 0 := by
  rw [← has_raw h0 h1, and1]
  have : q / 2 ^ k.toNat % 2 = 0 ∨ q / 2 ^ k.toNat % 2 = 1 := by omega
  rcases this with h | h <;> rw [h] <;> rfl
theorem isQ_nat {n q : Int} (h : isQ n q = true) : ∃ n' q' : Nat, n = n' ∧ q = q' ∧ 1 ≤ n' ∧ n' ≤ 12 ∧ q' < 2 ^ n' := by
  obtain ⟨⟨h0, h1, h2⟩, h3, h4⟩ := isQ_in h
  obtain ⟨n', rfl⟩ := int_nat h0
  obtain ⟨q', rfl⟩ := int_nat h3
  refine ⟨n', q', rfl, rfl, by omega, by omega, ?_⟩
  simp only [Int.toNat_natCast] at h4
  have : ((2 ^ n' : Nat) : Int) = (2 : Int) ^ n' := by norm_cast
  omega
theorem openN_le (xs : List Int) : (openN xs).length ≤ xs.length := fl_len _ _
theorem state_len {xs : List Int} {m : Int} (h : isStateN xs m = true) : 1 ≤ xs.length ∧ xs.length ≤ 12 ∧ 0 ≤ m ∧ m ≤ 2 := by
  have := isStateN_iff.1 h; omega
theorem sOpenL_eq (xs : List Int) (m : Int) (hx : xs.length ≤ 1048576) : F_spec_l2Open xs m = some (openN xs) := by
  unfold F_spec_l2Open
  simp only [jn]
  rw [openN_fl]
  have hl := fun k => fl_len (fun i => decide (xs.getD i 0 ≥ 0)) k
  refine (loop_up (fun m i (s : List Int) => F_spec_l2Open_L1 xs (fun o5 => some o5) m s i) (xs.length : Int) (fun i => fl (fun i => decide (xs.getD i 0 ≥ 0)) i.toNat) _ ?_ ?_ (by omega) fuel (by have := fuel_ge; omega))
  · intro m i i0 i1
    obtain ⟨k, rfl⟩ := int_nat i0
    have hlk := hl k
    have e1 : ((k : Int) + 1).toNat = k + 1 := by omega
    simp only [Int.toNat_natCast, e1]
    rw [F_spec_l2Open_L1, ite_t (decide_eq_true i1), chk_pos ⟨i0, i1⟩]
    simp only [Int.toNat_natCast]
    by_cases hb : xs.getD k 0 ≥ 0
    · rw [ite_t (decide_eq_true hb), fl_yes (p := fun i => decide (xs.getD i 0 ≥ 0)) (decide_eq_true hb), chk_pos ⟨by omega, by simp only [maxLen]; omega⟩, chk_pos (by unfold I64; omega)]
    · rw [ite_f (decide_eq_false hb), fl_no (p := fun i => decide (xs.getD i 0 ≥ 0)) (decide_eq_false hb), chk_pos (by unfold I64; omega)]
  · intro m
    rw [F_spec_l2Open_L1, ite_f (decide_eq_false (by omega))]
    simp only [Int.toNat_natCast]
/-- How many nodes. -/
def szB : Br → Nat
  | .nil => 0
  | .nd _ .nil _ => 1
  | .nd _ (.nd a b c) n => 1 + szB (.nd a b c) + szB n
/-- The list of a tree's nodes, from a place on. -/
def enc : Br → Int → List Nd
  | .nil, _ => []
  | .nd _ .nil _, _ => [(-1, -1, -1)]
  | .nd q (.nd a b c) n, o => (q, o + 1, o + 1 + szB (.nd a b c)) :: (enc (.nd a b c) (o + 1) ++ enc n (o + 1 + szB (.nd a b c)))
theorem enc_len : ∀ (b : Br) (o : Int), (enc b o).length = szB b
  | .nil, _ => rfl
  | .nd _ .nil _, _ => rfl
  | .nd q (.nd a b c) n, o => by
    rw [enc, szB, List.length_cons, List.length_append, enc_len _ (o + 1), enc_len n _]; omega
/-- The trees that are read: questions about n numbers, at most d high. -/
inductive WF (n : Int) : Nat → Br → Prop
  | leaf (d : Nat) : WF n (d + 1) (.nd 0 .nil .nil)
  | node {d : Nat} {q : Int} {y z : Br} (hq : isQ n q = true) (hy : WF n d y) (hz : WF n d z) : WF n (d + 1) (.nd q y z)
theorem WF.some {n : Int} {d : Nat} {b : Br} (h : WF n d b) : ∃ q y z, b = .nd q y z := by cases h <;> exact ⟨_, _, _, rfl⟩
theorem WF.pos {n : Int} {d : Nat} {b : Br} (h : WF n d b) : 1 ≤ szB b := by
  obtain ⟨q, y, z, rfl⟩ := h.some
  cases y with
  | nil => exact Nat.le_refl _
  | nd a b c => rw [szB]; omega
theorem WF.node_enc {n : Int} {d : Nat} {y : Br} (h : WF n d y) (q : Int) (z : Br) (o : Int) : enc (.nd q y z) o = (q, o + 1, o + 1 + szB y) :: (enc y (o + 1) ++ enc z (o + 1 + szB y)) ∧ szB (.nd q y z) = 1 + szB y + szB z := by
  obtain ⟨a, b, c, rfl⟩ := h.some
  exact ⟨by rw [enc], by rw [szB]⟩
theorem WF.size {n : Int} : ∀ {d : Nat} {b : Br}, WF n d b → szB b < 2 ^ d
  | _, _, .leaf d => by
    have : 1 ≤ 2 ^ d := Nat.two_pow_pos d
    show 1 < 2 ^ (d + 1)
    rw [Nat.pow_succ]; omega
  | _, _, .node (d := d) hq hy hz => by
    have h1 := hy.size
    have h2 := hz.size
    rw [(hy.node_enc _ _ 0).2, Nat.pow_succ]
    omega
theorem WF.up {n : Int} : ∀ {d : Nat} {b : Br}, WF n d b → WF n (d + 1) b
  | _, _, .leaf d => .leaf (d + 1)
  | _, _, .node hq hy hz => .node hq hy.up hz.up
/-- What is read at a place: the tree, the place behind it, and whether it is one. -/
def readB (n : Int) (t : List Nd) : Nat → Int → Br × Int × Bool
  | 0, _ => (.nil, 0, false)
  | d + 1, a =>
    if (decide (0 ≤ a) && decide (a ≤ (t.length : Int) - 1)) = false then (.nil, 0, false) else
    if leafB (t.getD a.toNat (0, 0, 0)).1 (t.getD a.toNat (0, 0, 0)).2.1 (t.getD a.toNat (0, 0, 0)).2.2 = true then (.nd 0 .nil .nil, a + 1, true) else
    if isQ n (t.getD a.toNat (0, 0, 0)).1 = false ∨ ¬ (t.getD a.toNat (0, 0, 0)).2.1 = a + 1 then (.nil, 0, false) else
    if (readB n t d (a + 1)).2.2 = false ∨ ¬ (t.getD a.toNat (0, 0, 0)).2.2 = (readB n t d (a + 1)).2.1 then (.nil, 0, false) else
    (.nd (t.getD a.toNat (0, 0, 0)).1 (readB n t d (a + 1)).1 (readB n t d (readB n t d (a + 1)).2.1).1, (readB n t d (readB n t d (a + 1)).2.1).2.1, (readB n t d (readB n t d (a + 1)).2.1).2.2)
theorem readB_N (n : Int) (t : List Nd) : ∀ (d : Nat) (a : Int), readN n t d a = (brT (readB n t d a).1, (readB n t d a).2.1, (readB n t d a).2.2)
  | 0, a => rfl
  | d + 1, a => by
    rw [readN, readB]
    by_cases h1 : (decide (0 ≤ a) && decide (a ≤ (t.length : Int) - 1)) = false
    · rw [if_pos h1, if_pos h1]; rfl
    · rw [if_neg h1, if_neg h1]
      dsimp only
      by_cases h2 : leafB (t.getD a.toNat (0, 0, 0)).1 (t.getD a.toNat (0, 0, 0)).2.1 (t.getD a.toNat (0, 0, 0)).2.2 = true
      · rw [if_pos h2, if_pos h2]; rfl
      · rw [if_neg h2, if_neg h2]
        by_cases h3 : isQ n (t.getD a.toNat (0, 0, 0)).1 = false ∨ ¬ (t.getD a.toNat (0, 0, 0)).2.1 = a + 1
        · rw [if_pos h3, if_pos h3]; rfl
        · rw [if_neg h3, if_neg h3, readB_N n t d (a + 1)]
          dsimp only
          by_cases h4 : (readB n t d (a + 1)).2.2 = false ∨ ¬ (t.getD a.toNat (0, 0, 0)).2.2 = (readB n t d (a + 1)).2.1
          · rw [if_pos h4, if_pos h4]; rfl
          · rw [if_neg h4, if_neg h4, readB_N n t d]; rfl
theorem drop_one {t : List Nd} {a : Nat} (h : a < t.length) : t.drop a = t.getD a (0, 0, 0) :: t.drop (a + 1) := by
  rw [List.getD_eq_getElem?_getD, List.getElem?_eq_getElem h]; exact List.drop_eq_getElem_cons h
theorem take_more {t u v : List Nd} {m k : Nat} (h1 : t.take m = u) (h2 : (t.drop m).take k = v) : t.take (m + k) = u ++ v := by
  rw [List.take_add, h1, h2]
/-- What is read lies in the list. -/
theorem readB_in {n : Int} {t : List Nd} : ∀ {d : Nat} {a : Nat}, (readB n t d a).2.2 = true → WF n d (readB n t d a).1 ∧ (readB n t d a).2.1 = (a : Int) + szB (readB n t d a).1 ∧ a + szB (readB n t d a).1 ≤ t.length ∧ (t.drop a).take (szB (readB n t d a).1) = enc (readB n t d a).1 a
  | 0, a, h => by cases h
  | d + 1, a, h => by
    rw [readB] at h ⊢
    by_cases h1 : (decide ((0 : Int) ≤ a) && decide ((a : Int) ≤ (t.length : Int) - 1)) = false
    · rw [if_pos h1] at h; cases h
    · rw [if_neg h1] at h ⊢
      have h1' : a < t.length := by simp at h1; omega
      simp only [Int.toNat_natCast] at h ⊢
      by_cases h2 : leafB (t.getD a (0, 0, 0)).1 (t.getD a (0, 0, 0)).2.1 (t.getD a (0, 0, 0)).2.2 = true
      · rw [if_pos h2]
        refine ⟨.leaf d, rfl, h1', ?_⟩
        have e : t.getD a (0, 0, 0) = (-1, -1, -1) := by
          unfold leafB at h2
          simp only [Bool.and_eq_true, beq_iff_eq, Bool.and_true] at h2
          exact Prod.ext h2.1 (Prod.ext h2.2.1 h2.2.2)
        show (t.drop a).take 1 = [(-1, -1, -1)]
        rw [drop_one h1', e]; rfl
      · rw [if_neg h2] at h ⊢
        by_cases h3 : isQ n (t.getD a (0, 0, 0)).1 = false ∨ ¬ (t.getD a (0, 0, 0)).2.1 = (a : Int) + 1
        · rw [if_pos h3] at h; cases h
        · rw [if_neg h3] at h ⊢
          simp only [not_or, Decidable.not_not, Bool.not_eq_false] at h3
          by_cases h4 : (readB n t d ((a : Int) + 1)).2.2 = false ∨ ¬ (t.getD a (0, 0, 0)).2.2 = (readB n t d ((a : Int) + 1)).2.1
          · rw [if_pos h4] at h; cases h
          · rw [if_neg h4] at h ⊢
            simp only [not_or, Decidable.not_not, Bool.not_eq_false] at h4
            have ea : (a : Int) + 1 = ((a + 1 : Nat) : Int) := by omega
            rw [ea] at h h3 h4 ⊢
            obtain ⟨y1, y2, y3, y4⟩ := readB_in (a := a + 1) h4.1
            rw [y2] at h h4 ⊢
            generalize readB n t d ((a + 1 : Nat) : Int) = Y at *
            have eb : ((a + 1 : Nat) : Int) + (szB Y.1 : Int) = ((a + 1 + szB Y.1 : Nat) : Int) := by omega
            rw [eb] at h h4 ⊢
            obtain ⟨z1, z2, z3, z4⟩ := readB_in (a := a + 1 + szB Y.1) h
            generalize readB n t d ((a + 1 + szB Y.1 : Nat) : Int) = Z at *
            obtain ⟨ne, ns⟩ := y1.node_enc (t.getD a (0, 0, 0)).1 Z.1 (a : Int)
            refine ⟨.node h3.1 y1 z1, ?_, ?_, ?_⟩
            · show Z.2.1 = _
              rw [z2, ns]; omega
            · show a + szB (.nd _ Y.1 Z.1) ≤ _
              rw [ns]; omega
            · show (t.drop a).take (szB (.nd _ Y.1 Z.1)) = enc (.nd _ Y.1 Z.1) a
              have e1 : t.getD a (0, 0, 0) = ((t.getD a (0, 0, 0)).1, (a : Int) + 1, (a : Int) + 1 + szB Y.1) := Prod.ext rfl (Prod.ext (show _ = (a : Int) + 1 by omega) (show _ = (a : Int) + 1 + szB Y.1 by omega))
              rw [ns, ne, drop_one h1', show 1 + szB Y.1 + szB Z.1 = (szB Y.1 + szB Z.1) + 1 by omega, List.take_succ_cons, ← e1]
              congr 1
              refine take_more ?_ ?_
              · rw [y4, ea]
              · rw [List.drop_drop, z4]
                congr 1 <;> omega
/-- And what lies in the list is read. -/
theorem readB_of {n : Int} {t : List Nd} : ∀ {d : Nat} {b : Br} {a : Nat}, WF n d b → (t.drop a).take (szB b) = enc b a → readB n t d a = (b, (a : Int) + szB b, true)
  | _, _, a, .leaf d, h => by
    have h : (t.drop a).take 1 = [(-1, -1, -1)] := h
    have h1 : a < t.length := by
      rcases Nat.lt_or_ge a t.length with h1 | h1
      · exact h1
      · rw [List.drop_of_length_le h1] at h; cases h
    rw [drop_one h1] at h
    have e : t.getD a (0, 0, 0) = (-1, -1, -1) := by simpa using h
    rw [readB, if_neg (by simp; omega), Int.toNat_natCast, e, if_pos (by decide)]
    rfl
  | _, _, a, .node (d := d) (q := q) (y := y) (z := z) hq hy hz, h => by
    obtain ⟨ne, ns⟩ := hy.node_enc q z (a : Int)
    rw [ns, ne] at h
    have h1 : a < t.length := by
      rcases Nat.lt_or_ge a t.length with h1 | h1
      · exact h1
      · rw [List.drop_of_length_le h1] at h; simp at h
    rw [drop_one h1, show 1 + szB y + szB z = (szB y + szB z) + 1 by omega, List.take_succ_cons] at h
    have e : t.getD a (0, 0, 0) = (q, (a : Int) + 1, (a : Int) + 1 + szB y) := List.cons.inj h |>.1
    have h2 := List.cons.inj h |>.2
    have ea : (a : Int) + 1 = ((a + 1 : Nat) : Int) := by omega
    have eb : (a : Int) + 1 + (szB y : Int) = ((a + 1 + szB y : Nat) : Int) := by omega
    have hl : (enc y ((a : Int) + 1)).length = szB y := enc_len _ _
    have hy2 : (t.drop (a + 1)).take (szB y) = enc y ((a + 1 : Nat) : Int) := by
      have := congrArg (List.take (szB y)) h2
      rw [List.take_take, Nat.min_eq_left (by omega), List.take_left' hl] at this
      rw [this, ea]
    have hz2 : (t.drop (a + 1 + szB y)).take (szB z) = enc z ((a + 1 + szB y : Nat) : Int) := by
      have := congrArg (List.drop (szB y)) h2
      rw [List.drop_take, List.drop_drop, List.drop_left' hl, show szB y + szB z - szB y = szB z by omega] at this
      rw [this, eb]
    have ry := readB_of hy hy2
    have rz := readB_of hz hz2
    have hqb : isQ n q = true := hq
    have hnl : leafB q ((a : Int) + 1) ((a : Int) + 1 + szB y) = false := by
      unfold leafB
      have : ((a : Int) + 1 == -1) = false := by rw [beq_eq_false_iff_ne]; omega
      rw [this]; simp
    have ec : ((a + 1 : Nat) : Int) + (szB y : Int) = ((a + 1 + szB y : Nat) : Int) := by omega
    rw [readB, if_neg (by simp; omega), Int.toNat_natCast, e]
    dsimp only
    rw [if_neg (by rw [hnl]; decide), if_neg (by rw [hqb]; simp), ea, ry]
    dsimp only
    rw [if_neg (by simp), ec, rz, ns]
    refine Prod.ext rfl (Prod.ext ?_ rfl)
    show ((a + 1 + szB y : Nat) : Int) + (szB z : Int) = (a : Int) + ((1 + szB y + szB z : Nat) : Int)
    omega
theorem brM_nd {δ : Type} (y z : Br) (q : Int) (r : Int) (ok : Bool) (k : Br × Int × Bool → Option δ) : (brM y (brM z (k (.nd q .nil .nil, r, ok)) fun a b c => k (.nd q .nil (.nd a b c), r, ok)) fun a b c => brM z (k (.nd q (.nd a b c) .nil, r, ok)) fun a' b' c' => k (.nd q (.nd a b c) (.nd a' b' c'), r, ok)) = k (.nd q y z, r, ok) := by
  cases y <;> cases z <;> rfl
theorem readB_lt {n : Int} {t : List Nd} : ∀ (d : Nat) (a : Int), 0 ≤ (readB n t d a).2.1 ∧ (readB n t d a).2.1 ≤ (t.length : Int)
  | 0, a => ⟨Int.le_refl _, Int.natCast_nonneg _⟩
  | d + 1, a => by
    rw [readB]
    by_cases h1 : (decide (0 ≤ a) && decide (a ≤ (t.length : Int) - 1)) = false
    · rw [if_pos h1]; exact ⟨Int.le_refl _, Int.natCast_nonneg _⟩
    · rw [if_neg h1]
      have h1' : 0 ≤ a ∧ a ≤ (t.length : Int) - 1 := by simpa using h1
      split
      · exact ⟨show 0 ≤ a + 1 by omega, show a + 1 ≤ _ by omega⟩
      · split
        · exact ⟨Int.le_refl _, Int.natCast_nonneg _⟩
        · split
          · exact ⟨Int.le_refl _, Int.natCast_nonneg _⟩
          · exact readB_lt d _
theorem iRead_eq (n : Int) (t : List Nd) (ht : t.length ≤ 1048576) : ∀ (d g : Nat) (a : Int), d ≤ 7 → d < g → -1 ≤ a → a ≤ 2097152 → F_impl_Tree_read g t n a (7 - (d : Int)) = some (readB n t d a) := by
  intro d
  induction d with
  | zero =>
    intro g a h1 h2 h3 h4
    obtain ⟨g, rfl⟩ : ∃ x, g = x + 1 := ⟨g - 1, by omega⟩
    rw [F_impl_Tree_read]
    unfold F_impl_Tree_read_B
    simp only [jn, nam]
    rw [chk_pos (by unfold I64; omega)]
    rw [show decide ((7 : Int) - ((0 : Nat) : Int) > 6) = true from rfl]
    cases decide ((0 : Int) ≤ a) && decide (a ≤ (t.length : Int) - 1) <;> rfl
  | succ d ih =>
    intro g a h1 h2 h3 h4
    obtain ⟨g, rfl⟩ : ∃ x, g = x + 1 := ⟨g - 1, by omega⟩
    rw [F_impl_Tree_read, readB]
    unfold F_impl_Tree_read_B
    simp only [jn, nam]
    rw [chk_pos (by unfold I64; omega), show decide ((7 : Int) - ((d + 1 : Nat) : Int) > 6) = false from decide_eq_false (by omega)]
    rcases Bool.eq_false_or_eq_true (decide (0 ≤ a) && decide (a ≤ (t.length : Int) - 1)) with hA | hA
    · have hA' : 0 ≤ a ∧ a ≤ (t.length : Int) - 1 := by simpa using hA
      rw [if_neg (by rw [hA]; decide), ite_f (by rw [hA]; rfl), ite_f rfl, chk_pos ⟨hA'.1, by omega⟩]
      generalize t.getD a.toNat (0, 0, 0) = x
      rcases Bool.eq_false_or_eq_true (leafB x.1 x.2.1 x.2.2) with hL | hL
      · rw [ite_t hL, if_pos hL, chk_pos (by unfold I64; omega)]
      · rw [ite_f hL, if_neg (by rw [hL]; decide)]
        rcases Bool.eq_false_or_eq_true (isQ n x.1) with hQ | hQ
        · rw [ite_f (by rw [hQ]; rfl), chk_pos (by unfold I64; omega)]
          by_cases hy : x.2.1 = a + 1
          · rw [ite_f (by rw [hy]; exact bne_self_eq_false _), if_neg (by simp [hQ, hy]), chk_pos (by unfold I64; omega), show (7 : Int) - ((d + 1 : Nat) : Int) + 1 = 7 - (d : Int) by omega, chk_pos (by unfold I64; omega)]
            rw [bnd3_eq (ih g (a + 1) (by omega) (by omega) (by omega) (by omega))]
            have hb := readB_lt (n := n) (t := t) d (a + 1)
            generalize readB n t d (a + 1) = Y at hb ⊢
            rcases Bool.eq_false_or_eq_true Y.2.2 with hk | hk
            · rw [ite_f (by rw [hk]; rfl)]
              by_cases hz : x.2.2 = Y.2.1
              · rw [ite_f (by rw [hz]; exact bne_self_eq_false _), if_neg (by simp [hk, hz]), bnd3_eq (ih g Y.2.1 (by omega) (by omega) (by omega) (by omega))]
                generalize readB n t d Y.2.1 = Z
                exact brM_nd Y.1 Z.1 x.1 Z.2.1 Z.2.2 some
              · rw [ite_t (by simpa using hz), if_pos (.inr hz)]
            · rw [ite_t (by rw [hk]; rfl), ite_t rfl, if_pos (.inl hk)]
          · rw [ite_t (by simpa using hy), if_pos (.inr hy)]
        · rw [ite_t (by rw [hQ]; rfl), ite_t rfl, if_pos (.inl hQ)]
    · rw [if_pos hA, ite_t (by rw [hA]; rfl), ite_t rfl]
def rootV (n : Int) (t : List Nd) : Br :=
  if (decide (1 ≤ n) && decide (n ≤ 12)) = false ∨ (decide (1 ≤ (t.length : Int)) && decide ((t.length : Int) ≤ 127)) = false then .nil else (readB n t 7 0).1
theorem iRoot_eq (n : Int) (t : List Nd) (ht : t.length ≤ 1048576) : F_impl_root n t = some (rootV n t, (rootN n t).2) := by
  unfold F_impl_root rootV rootN
  simp only [jn]
  rcases Bool.eq_false_or_eq_true (decide (1 ≤ n) && decide (n ≤ 12)) with h1 | h1
  · rw [ite_f (by rw [h1]; rfl)]
    rcases Bool.eq_false_or_eq_true (decide (1 ≤ (t.length : Int)) && decide ((t.length : Int) ≤ 127)) with h2 | h2
    · rw [ite_f (by rw [h2]; rfl), if_neg (by simp only [h1, h2]; decide), if_neg (by simp only [h1, h2]; decide)]
      have e := iRead_eq n t ht 7 fuel 0 (by omega) (by have := fuel_ge; omega) (by omega) (by omega)
      have e7 : (7 : Int) - ((7 : Nat) : Int) = 0 := rfl
      rw [e7] at e
      rw [readB_N]
      dsimp only
      obtain ⟨Y, hY⟩ : ∃ Y, Y = readB n t 7 0 := ⟨_, rfl⟩
      rw [← hY] at e ⊢
      clear hY
      rw [bnd3_eq (a := Y.1) (b := Y.2.1) (c := Y.2.2) e]
      obtain ⟨y1, y2, y3⟩ := Y
      cases y3 <;> rfl
    · rw [ite_t (by rw [h2]; rfl), if_pos (.inr h2), if_pos (.inr h2)]
  · rw [ite_t (by rw [h1]; rfl), ite_t rfl, if_pos (.inl h1), if_pos (.inl h1)]
/-- A tree is the list of its branch's nodes. -/
theorem root_enc {n : Int} {t : List Nd} (h : (rootN n t).2 = true) : WF n 7 (rootV n t) ∧ t = enc (rootV n t) 0 ∧ t.length = szB (rootV n t) ∧ t.length ≤ 127 ∧ 1 ≤ n ∧ n ≤ 12 ∧ (readB n t 7 0).2.2 = true ∧ rootV n t = (readB n t 7 0).1 ∧ (readB n t 7 0).2.1 = (t.length : Int) := by
  have h0 := h
  unfold rootN at h
  unfold rootV
  by_cases hc : (decide (1 ≤ n) && decide (n ≤ 12)) = false ∨ (decide (1 ≤ (t.length : Int)) && decide ((t.length : Int) ≤ 127)) = false
  · rw [if_pos hc] at h; cases h
  · rw [if_neg hc] at h
    rw [if_neg hc]
    rw [readB_N] at h
    simp only [Bool.and_eq_true, beq_iff_eq] at h
    have hc' : (1 ≤ n ∧ n ≤ 12) ∧ 1 ≤ (t.length : Int) ∧ (t.length : Int) ≤ 127 := by simpa using hc
    have h1 : (readB n t 7 ((0 : Nat) : Int)).2.2 = true := h.1
    obtain ⟨k1, k2, k3, k4⟩ := readB_in h1
    have k2' : (readB n t 7 0).2.1 = ((0 : Nat) : Int) + (szB (readB n t 7 0).1 : Int) := k2
    have k4' : (t.drop 0).take (szB (readB n t 7 0).1) = enc (readB n t 7 0).1 0 := k4
    have hl : t.length = szB (readB n t 7 0).1 := by omega
    refine ⟨k1, ?_, hl, by omega, hc'.1.1, hc'.1.2, h.1, rfl, h.2⟩
    rw [List.drop_zero, ← hl, List.take_length] at k4'
    exact k4'
theorem nd_of_WF {n : Int} {d : Nat} {b : Br} (h : WF n d b) : (∃ e, d = e + 1 ∧ b = .nd 0 .nil .nil) ∨ ∃ e q y z, d = e + 1 ∧ b = .nd q y z ∧ isQ n q = true ∧ WF n e y ∧ WF n e z := by
  cases h with
  | leaf d => exact .inl ⟨d, rfl, rfl⟩
  | node hq hy hz => exact .inr ⟨_, _, _, _, rfl, rfl, hq, hy, hz⟩
theorem set_snoc {α : Type} (xs ys : List α) (l v : α) : List.set ((xs ++ [l]) ++ ys) xs.length v = (xs ++ [v]) ++ ys := by
  rw [List.append_assoc, List.append_assoc, List.set_append_right _ _ (Nat.le_refl _), Nat.sub_self]; rfl
theorem iTree1_eq {n : Int} : ∀ (d g : Nat) (b : Br) (xs : List Nd), WF n d b → d < g → xs.length + szB b ≤ 2097152 → F_p_impl_branch_tree_1 g b xs = some (xs ++ enc b xs.length) := by
  intro d
  induction d with
  | zero => intro g b xs h; cases h
  | succ d ih =>
    intro g b xs h hg hl
    obtain ⟨g, rfl⟩ : ∃ x, g = x + 1 := ⟨g - 1, by omega⟩
    have hp := h.pos
    rw [F_p_impl_branch_tree_1]
    unfold F_p_impl_branch_tree_1_B
    rw [chk_pos ⟨by omega, by simp only [maxLen]; omega⟩]
    rcases nd_of_WF h with ⟨e, he, rfl⟩ | ⟨e, q, y, z, he, rfl, hq, hy, hz⟩
    · rfl
    · obtain rfl : d = e := by omega
      obtain ⟨a, b, c, hyy⟩ := hy.some
      obtain ⟨ne, ns⟩ := hy.node_enc q z (xs.length : Int)
      rw [ns] at hl
      have e0 : (xs ++ [((-1 : Int), (-1 : Int), (-1 : Int))]).length = xs.length + 1 := by simp
      have e1 := ih g y (xs ++ [(-1, -1, -1)]) hy (by omega) (by rw [e0]; omega)
      have el : (xs ++ [((-1 : Int), (-1 : Int), (-1 : Int))] ++ enc y (xs ++ [((-1 : Int), (-1 : Int), (-1 : Int))]).length).length = xs.length + 1 + szB y := by rw [List.length_append, enc_len, e0]
      have e2 := ih g z (xs ++ [(-1, -1, -1)] ++ enc y (xs ++ [((-1 : Int), (-1 : Int), (-1 : Int))]).length) hz (by omega) (by rw [el]; omega)
      subst hyy
      simp only [jn, brM]
      rw [ite_f rfl, bnd1_eq e1, bnd1_eq e2, chk_pos (by unfold I64; omega)]
      simp only [nam]
      have el2 : (xs ++ [((-1 : Int), (-1 : Int), (-1 : Int))] ++ enc (.nd a b c) (xs ++ [((-1 : Int), (-1 : Int), (-1 : Int))]).length ++ enc z (xs ++ [((-1 : Int), (-1 : Int), (-1 : Int))] ++ enc (.nd a b c) (xs ++ [((-1 : Int), (-1 : Int), (-1 : Int))]).length).length).length = xs.length + 1 + szB (.nd a b c) + szB z := by rw [List.length_append, el, enc_len]
      rw [chk_pos ⟨by omega, by rw [el2]; omega⟩, el, e0, Int.toNat_natCast, List.append_assoc, set_snoc, ne]
      congr 1
      rw [List.append_assoc, List.singleton_append]
      congr 2 <;> (try congr 2) <;> omega
theorem iTree_eq {n : Int} {d : Nat} {b : Br} (h : WF n d b) (hd : d ≤ 1000) (hs : szB b ≤ 2097152) : F_p_impl_branch_tree b = some (enc b 0) := by
  unfold F_p_impl_branch_tree
  rw [bnd1_eq (iTree1_eq d fuel b [] h (by have := fuel_ge; omega) (by simpa using hs))]
  rfl
/-- Nodes whose places are so many greater. -/
def movN (k : Int) (x : Nd) : Nd := if 0 ≤ x.2.1 then (x.1, x.2.1 + k, x.2.2 + k) else x
theorem enc_mov (k : Int) : ∀ (b : Br) (o : Int), 0 ≤ o → (enc b o).map (movN k) = enc b (o + k)
  | .nil, o, h => rfl
  | .nd q .nil z, o, h => rfl
  | .nd q (.nd a b c) z, o, h => by
    rw [enc, enc, List.map_cons, List.map_append, enc_mov k _ _ (by omega), enc_mov k z _ (by omega)]
    have hm : movN k (q, o + 1, o + 1 + (szB (.nd a b c) : Int)) = (q, o + 1 + k, o + 1 + (szB (.nd a b c) : Int) + k) := if_pos (show (0 : Int) ≤ o + 1 by omega)
    rw [hm, show o + 1 + k = o + k + 1 by omega, show o + 1 + (szB (.nd a b c) : Int) + k = o + k + 1 + szB (.nd a b c) by omega]
theorem enc_in : ∀ (b : Br) (o : Int), 0 ≤ o → ∀ x ∈ enc b o, -1 ≤ x.2.1 ∧ -1 ≤ x.2.2 ∧ x.2.1 ≤ o + szB b ∧ x.2.2 ≤ o + szB b
  | .nil, o, h, x, hx => by cases hx
  | .nd q .nil z, o, h, x, hx => by
    simp only [enc, List.mem_cons, List.not_mem_nil, or_false] at hx
    subst hx
    simp only [szB]; omega
  | .nd q (.nd a b c) z, o, h, x, hx => by
    rw [enc] at hx
    rw [szB]
    rcases List.mem_cons.1 hx with rfl | hx
    · simp only; omega
    · rcases List.mem_append.1 hx with hx | hx
      · have := enc_in _ _ (by omega) x hx; omega
      · have := enc_in z _ (by omega) x hx; omega
theorem sMoved_eq (xs : List Nd) (k : Int) (hl : xs.length ≤ 2097152) (hx : ∀ x ∈ xs, 0 ≤ x.2.1 → I64 (x.2.1 + k) ∧ I64 (x.2.2 + k)) : F_spec_l9Moved xs k = some (xs.map (movN k)) := by
  unfold F_spec_l9Moved
  simp only [jn]
  refine loop_up (fun m i s => F_spec_l9Moved_L1 xs k (fun o8 => some o8) m s i) (xs.length : Int) (fun i => (xs.take i.toNat).map (movN k)) _ ?_ ?_ (by omega) fuel (by have := fuel_ge; omega)
  · intro m i i0 i1
    try simp only
    have hi : i.toNat < xs.length := by omega
    have ei : (i + 1).toNat = i.toNat + 1 := by omega
    have hg : xs.getD i.toNat (0, 0, 0) = xs[i.toNat] := by rw [List.getD_eq_getElem?_getD, List.getElem?_eq_getElem hi]; rfl
    have hm := hx xs[i.toNat] (List.getElem_mem hi)
    rw [F_spec_l9Moved_L1, ite_t (decide_eq_true i1), chk_pos ⟨i0, i1⟩, hg, ei, List.take_succ_eq_append_getElem hi, List.map_append]
    simp only [jn, nam]
    generalize xs[i.toNat] = x at hm ⊢
    have hl2 : ((xs.take i.toNat).map (movN k)).length ≤ xs.length := by rw [List.length_map, List.length_take]; exact Nat.min_le_right _ _
    by_cases h0 : (0 : Int) ≤ x.2.1
    · rw [ite_t (decide_eq_true h0), chk_pos (hm h0).1, chk_pos (hm h0).2, chk_pos ⟨by omega, by simp only [maxLen]; omega⟩, chk_pos (by unfold I64; omega)]
      rw [List.map_cons, List.map_nil, movN, if_pos h0]
    · rw [ite_f (decide_eq_false h0), chk_pos ⟨by omega, by simp only [maxLen]; omega⟩, chk_pos (by unfold I64; omega)]
      rw [List.map_cons, List.map_nil, movN, if_neg h0]
  · intro m
    try simp only
    rw [F_spec_l9Moved_L1, ite_f (decide_eq_false (by omega)), Int.toNat_natCast, List.take_length]
theorem sMoved_enc (b : Br) (o k : Int) (ho : 0 ≤ o) (h1 : szB b ≤ 2097152) (h2 : o ≤ 2097152) (h3 : -2097152 ≤ k) (h4 : k ≤ 2097152) : F_spec_l9Moved (enc b o) k = some (enc b (o + k)) := by
  rw [sMoved_eq _ _ (by rw [enc_len]; exact h1) fun x hx h0 => by have := enc_in b o ho x hx; unfold I64; omega, enc_mov k b o ho]
/-- A node ahead of two parts. -/
theorem sJoin_eq {y z : Br} (q : Int) (hy : ∃ a b c, y = .nd a b c) (hs : szB y + szB z ≤ 1048576) : F_spec_l9Join q (enc y 0) (enc z 0) = some (enc (.nd q y z) 0) := by
  unfold F_spec_l9Join
  obtain ⟨a, b, c, rfl⟩ := hy
  simp only [nam]
  rw [enc_len, chk_pos (by unfold I64; omega), bnd1_eq (sMoved_enc _ 0 1 (by omega) (by omega) (by omega) (by omega) (by omega)), enc_len, chk_pos ⟨by omega, by simp only [maxLen]; omega⟩,
    bnd1_eq (sMoved_enc z 0 _ (by omega) (by omega) (by omega) (by omega) (by omega)), enc_len, chk_pos ⟨by omega, by simp only [maxLen]; omega⟩]
  rw [enc]
  simp only [List.cons_append, List.nil_append]
  rw [show (0 : Int) + 1 = 1 by rfl, show (0 : Int) + (1 + ((szB (.nd a b c) : Nat) : Int)) = 1 + ((szB (.nd a b c) : Nat) : Int) by omega]
/-- A part, told from 0 on. -/
theorem sSub_eq {n : Int} {t : List Nd} {d : Nat} {s : Br} {a : Nat} (h : WF n d s) (hd : d ≤ 7) (ht : t.length ≤ 1048576) (ha : a + szB s ≤ t.length) (he : (t.drop a).take (szB s) = enc s a) : F_spec_l9Sub n t (a : Int) = some (enc s 0) := by
  have h7 : WF n 7 s := by
    have : ∀ k : Nat, WF n (d + k) s := fun k => by
      induction k with
      | zero => exact h
      | succ k ih => exact ih.up
    have := this (7 - d)
    rwa [show d + (7 - d) = 7 by omega] at this
  have hr := readB_of h7 he
  have hp := h.pos
  unfold F_spec_l9Sub
  rw [chk_pos (by omega), chk_pos (by omega), readB_N, hr]
  dsimp only
  have e1 : (((a : Int) + (szB s : Int)).toNat - (a : Int).toNat) = szB s := by omega
  rw [chk_pos ⟨by omega, by omega, by omega⟩, e1, Int.toNat_natCast, he, enc_len, chk_pos ⟨by omega, by simp only [maxLen]; omega⟩, chk_pos (by unfold I64; omega),
    bnd1_eq (sMoved_enc s a (0 - (a : Int)) (by omega) (by omega) (by omega) (by omega) (by omega)), show (a : Int) + (0 - (a : Int)) = 0 by omega]
theorem szN_not {n : Nat} (h : n ≤ 1048576) : decide (szN (1048576 : Int) n < 0) = false := by
  unfold szN
  rw [if_neg (by omega)]
  exact decide_eq_false (by omega)
theorem szN_pos {n : Nat} (h : ¬ n ≤ 1048576) : decide (szN (1048576 : Int) n < 0) = true := by
  unfold szN
  rw [if_pos (by omega)]
  decide
/-- A branch with the other questions. -/
def turnB (n : Int) : Br → Br
  | .nil => .nil
  | .nd _ .nil _ => .nd 0 .nil .nil
  | .nd q (.nd a b c) z => .nd (othN n q) (turnB n z) (turnB n (.nd a b c))
theorem isQ_oth {n q : Int} (h : isQ n q = true) : isQ n (othN n q) = true := by
  have hq := isQ_in h
  have h1 : (decide (1 ≤ n) && decide (n ≤ 12)) = true := by simp; omega
  unfold isQ othN
  rw [h1]
  simp
  omega
theorem turnB_WF {n : Int} : ∀ {d : Nat} {b : Br}, WF n d b → WF n d (turnB n b) ∧ szB (turnB n b) = szB b
  | _, _, .leaf d => ⟨.leaf d, rfl⟩
  | _, _, .node (d := d) (q := q) (y := y) (z := z) hq hy hz => by
    have h1 := turnB_WF hy
    have h2 := turnB_WF hz
    obtain ⟨a, b, c, rfl⟩ := hy.some
    rw [turnB]
    refine ⟨.node (isQ_oth hq) h2.1 h1.1, ?_⟩
    rw [(h2.1.node_enc _ _ 0).2, h1.2, h2.2, szB]; omega
theorem iTurned_eq {n : Int} : ∀ (d g : Nat) (b : Br), WF n d b → d < g → F_p_impl_branch_turned g b n = some (turnB n b) := by
  intro d
  induction d with
  | zero => intro g b h; cases h
  | succ d ih =>
    intro g b h hg
    obtain ⟨g, rfl⟩ : ∃ x, g = x + 1 := ⟨g - 1, by omega⟩
    rw [F_p_impl_branch_turned]
    unfold F_p_impl_branch_turned_B
    rcases nd_of_WF h with ⟨e, he, rfl⟩ | ⟨e, q, y, z, he, rfl, hq, hy, hz⟩
    · rfl
    · obtain rfl : d = e := by omega
      have e1 := ih g y hy (by omega)
      have e2 := ih g z hz (by omega)
      obtain ⟨a, b, c, rfl⟩ := hy.some
      have hqq := isQ_in hq
      simp only [jn, brM]
      rw [ite_f rfl, chk_pos hqq.1.1, chk_pos hqq.1.2.2, chk_pos hqq.2.1, chk_pos hqq.2.2, bnd1_eq e2, bnd1_eq e1]
      have := brM_nd (turnB n z) (turnB n (.nd a b c)) (othN n q) 0 true (fun r => some r.1)
      simp only [brM] at this
      rw [turnB]
      exact this
theorem sTurned_eq {n : Int} : ∀ (d g : Nat) (b : Br), WF n d b → d ≤ 7 → d < g → szB b ≤ 127 → F_spec_l9Turned g n (enc b 0) = some (enc (turnB n b) 0) := by
  intro d
  induction d with
  | zero => intro g b h; cases h
  | succ d ih =>
    intro g b h hd hg hs
    obtain ⟨g, rfl⟩ : ∃ x, g = x + 1 := ⟨g - 1, by omega⟩
    rw [F_spec_l9Turned]
    unfold F_spec_l9Turned_B
    rcases nd_of_WF h with ⟨e, he, rfl⟩ | ⟨e, q, y, z, he, rfl, hq, hy, hz⟩
    · rw [chk_pos (by decide)]; rfl
    · obtain rfl : d = e := by omega
      have hqq := isQ_in hq
      obtain ⟨ne, ns⟩ := hy.node_enc q z 0
      have hty := turnB_WF hy
      have htz := turnB_WF hz
      rw [ns] at hs
      have hll : (enc (.nd q y z) 0).length = 1 + szB y + szB z := by rw [enc_len, ns]
      have h0 : (enc (.nd q y z) 0).getD 0 (0, 0, 0) = (q, 1, 1 + (szB y : Int)) := by rw [ne]; rfl
      have hpb := pow_bd hqq.1.1 hqq.1.2.2
      have sy : F_spec_l9Sub n (enc (.nd q y z) 0) ((1 : Nat) : Int) = some (enc y 0) := sSub_eq (a := 1) hy (by omega) (by omega) (by omega) (by
        rw [ne, List.drop_succ_cons, List.drop_zero, List.take_left' (enc_len _ _)]; rfl)
      have sz : F_spec_l9Sub n (enc (.nd q y z) 0) ((1 + szB y : Nat) : Int) = some (enc z 0) := sSub_eq (a := 1 + szB y) hz (by omega) (by omega) (by omega) (by
        rw [ne, Nat.add_comm 1, List.drop_succ_cons, List.drop_left' (enc_len _ _), List.take_of_length_le (by rw [enc_len]; exact Nat.le_refl _)]
        congr 1; omega)
      have ey : ((1 : Nat) : Int) = 1 := rfl
      have ez : ((1 + szB y : Nat) : Int) = 1 + (szB y : Int) := by omega
      rw [ey] at sy
      rw [ez] at sz
      rw [chk_pos ⟨by omega, by rw [hll]; omega⟩, h0]
      dsimp only
      rw [ite_f (show decide ((1 : Int) < 0) = false from rfl), chk_pos ⟨by omega, by omega, by unfold I64; omega⟩, chk_pos (by unfold I64; omega)]
      simp only [nam]
      rw [chk_pos (by unfold I64; omega), bnd1_eq sz, bnd1_eq (ih g z hz (by omega) (by omega) (by omega)), bnd1_eq sy, bnd1_eq (ih g y hy (by omega) (by omega) (by omega))]
      rw [show (1 : Int) * 2 ^ n.toNat - 1 - q = othN n q by unfold othN; omega, bnd1_eq (sJoin_eq _ htz.1.some (by omega))]
      obtain ⟨a, b, c, rfl⟩ := hy.some
      rw [turnB]
def turnV (n : Int) (t : List Nd) : List Nd := if (rootN n t).2 = true then enc (turnB n (rootV n t)) 0 else []
theorem iTurnTree_eq (n : Int) (t : List Nd) (ht : t.length ≤ 1048576) : F_impl_TurnTree n t = some (turnV n t, (rootN n t).2) := by
  unfold F_impl_TurnTree turnV
  rw [bnd2_eq (iRoot_eq n t ht)]
  rcases Bool.eq_false_or_eq_true (rootN n t).2 with h | h
  · obtain ⟨h1, h2, h3, h4, _⟩ := root_enc h
    have ht := turnB_WF h1
    rw [ite_f (by rw [h]; rfl), if_pos h, bnd1_eq (iTurned_eq 7 fuel _ h1 (by have := fuel_ge; omega)), bnd1_eq (iTree_eq ht.1 (by omega) (by omega)), h]
  · rw [ite_t (by rw [h]; rfl), if_neg (by rw [h]; decide), h]
theorem sTurnTree_eq (n : Int) (t : List Nd) (ht : t.length ≤ 1048576) : F_spec_TurnTree n t = some (turnV n t, (rootN n t).2) := by
  unfold F_spec_TurnTree turnV
  rw [chk_pos (by omega)]
  rcases Bool.eq_false_or_eq_true (rootN n t).2 with h | h
  · obtain ⟨h1, h2, h3, h4, _⟩ := root_enc h
    have e := sTurned_eq 7 fuel _ h1 (by omega) (by have := fuel_ge; omega) (by omega)
    rw [← h2] at e
    rw [ite_f (by rw [h]; rfl), if_pos h, bnd1_eq e, h]
  · rw [ite_t (by rw [h]; rfl), if_neg (by rw [h]; decide), h]
theorem turnV_len (n : Int) (t : List Nd) : (turnV n t).length ≤ 127 := by
  unfold turnV
  rcases Bool.eq_false_or_eq_true (rootN n t).2 with h | h
  · obtain ⟨h1, h2, h3, h4, _⟩ := root_enc h
    rw [if_pos h, enc_len, (turnB_WF h1).2]; omega
  · rw [if_neg (by rw [h]; decide)]; exact Nat.zero_le _
/-- The branch at the end of a way. -/
def belB : Br → List (Int × Bool) → Option Br
  | b, [] => some b
  | .nil, _ :: _ => none
  | .nd _ y z, a :: w => belB (if a.2 = true then y else z) w
theorem iBelow_eq : ∀ (b s : Br) (w : List (Int × Bool)), w.length ≤ 1000 → belB b w = some s → F_p_impl_branch_below b w = some s := by
  intro b s w hl h
  unfold F_p_impl_branch_below
  simp only [jn]
  have key : ∀ (k g : Nat) (i : Nat) (c : Br), i + k = w.length → k < g → belB c (w.drop i) = some s → F_p_impl_branch_below_L1 w (fun v0 => some v0) g (i : Int) c = some s := by
    intro k
    induction k with
    | zero =>
      intro g i c h1 h2 h3
      obtain ⟨g, rfl⟩ : ∃ x, g = x + 1 := ⟨g - 1, by omega⟩
      rw [List.drop_of_length_le (by omega)] at h3
      rw [F_p_impl_branch_below_L1, ite_f (decide_eq_false (by omega))]
      cases c <;> exact h3
    | succ k ih =>
      intro g i c h1 h2 h3
      obtain ⟨g, rfl⟩ : ∃ x, g = x + 1 := ⟨g - 1, by omega⟩
      have hi : i < w.length := by omega
      rw [List.drop_eq_getElem_cons hi] at h3
      rw [F_p_impl_branch_below_L1, ite_t (decide_eq_true (by omega)), chk_pos ⟨by omega, by omega⟩]
      cases c with
      | nil => cases h3
      | nd q y z =>
        have hg : w.getD ((i : Int).toNat) (0, false) = w[i] := by rw [Int.toNat_natCast, List.getD_eq_getElem?_getD, List.getElem?_eq_getElem hi]; rfl
        rw [belB] at h3
        simp only [brM]
        rw [hg]
        have ei : (i : Int) + 1 = ((i + 1 : Nat) : Int) := by omega
        rcases Bool.eq_false_or_eq_true w[i].2 with hb | hb
        · rw [if_pos hb] at h3
          rw [ite_t hb, chk_pos (by unfold I64; omega), ei, ih g (i + 1) y (by omega) (by omega) h3]
        · rw [if_neg (by rw [hb]; decide)] at h3
          rw [ite_f hb, chk_pos (by unfold I64; omega), ei, ih g (i + 1) z (by omega) (by omega) h3]
  have := key w.length fuel 0 b (by omega) (by have := fuel_ge; omega) (by rw [List.drop_zero]; exact h)
  exact this
theorem iWay_eq {n : Int} {t : List Nd} {node : Int} (h : (rootN n t).2 = true) (h0 : 0 ≤ node) (h1 : node < (t.length : Int)) : F_impl_Tree_way t node = some (wayN t node 7 0) := by
  unfold F_impl_Tree_way
  simp only [jn]
  have key : ∀ (d g : Nat) (a : Int) (out : List (Int × Bool)), d < g → WayAt n t node d a out → F_impl_Tree_way_L1 t node (fun o9 => some o9) g out a = some (wayN t node 7 0) := by
    intro d
    induction d with
    | zero => intro g a out hg hw; exact absurd (ok_pos hw.1) (Nat.lt_irrefl 0)
    | succ d ih =>
      intro g a out hg hw
      obtain ⟨g, rfl⟩ : ∃ x, g = x + 1 := ⟨g - 1, by omega⟩
      rw [F_impl_Tree_way_L1]
      by_cases e : a = node
      · rw [ite_f (by rw [e]; exact bne_self_eq_false _), wayAt_end hw e]
      · have hin := ok_in hw.1
        have hl := hw.2.1
        rw [ite_t (by simpa using e), chk_pos ⟨hin.1, by omega⟩, chk_pos ⟨by omega, by simp only [maxLen]; omega⟩]
        by_cases hb : node < (ndOf t a).2.2
        · rw [ite_t (decide_eq_true hb), decide_eq_true hb]
          exact ih g _ _ (by omega) (wayAt_yes hw e hb)
        · rw [ite_f (decide_eq_false hb), decide_eq_false hb]
          exact ih g _ _ (by omega) (wayAt_no hw e hb)
  exact key 7 fuel 0 [] (by have := fuel_ge; omega) (wayAt_0 h h0 h1)
/-- The way to a node leads to the branch that begins there. -/
theorem way_bel {n : Int} {t : List Nd} {node : Nat} : ∀ {d : Nat} {b : Br} {a : Nat}, WF n d b → (t.drop a).take (szB b) = enc b a → a ≤ node → node < a + szB b → ∃ e s, e ≤ d ∧ WF n e s ∧ belB b (wayN t (node : Int) d (a : Int)) = some s ∧ (t.drop node).take (szB s) = enc s node ∧ node + szB s ≤ a + szB b ∧ (wayN t (node : Int) d (a : Int)).length ≤ d
  | d, b, a, h, he, h1, h2 => by
    have h0 : a < t.length := by
      rcases Nat.lt_or_ge a t.length with h' | h'
      · exact h'
      · rw [List.drop_of_length_le h', List.take_nil] at he
        have := congrArg List.length he
        rw [enc_len] at this
        have := h.pos
        simp at *; omega
    rcases nd_of_WF h with ⟨e, rfl, rfl⟩ | ⟨e, q, y, z, rfl, rfl, hq, hy, hz⟩
    · have hn : node = a := by simp only [szB] at h2; omega
      subst hn
      rw [way_suc, if_pos rfl]
      exact ⟨e + 1, _, Nat.le_refl _, h, rfl, he, Nat.le_refl _, Nat.zero_le _⟩
    · rw [way_suc]
      by_cases hn : (a : Int) = (node : Int)
      · rw [if_pos hn]
        have hn : a = node := by omega
        subst hn
        exact ⟨e + 1, _, Nat.le_refl _, h, rfl, he, Nat.le_refl _, Nat.zero_le _⟩
      · rw [if_neg hn]
        obtain ⟨ne, ns⟩ := hy.node_enc q z (a : Int)
        have hl : (enc y ((a : Int) + 1)).length = szB y := enc_len _ _
        rw [ns, ne, drop_one h0, show 1 + szB y + szB z = (szB y + szB z) + 1 by omega, List.take_succ_cons] at he
        have hx : t.getD a (0, 0, 0) = (q, (a : Int) + 1, (a : Int) + 1 + szB y) := List.cons.inj he |>.1
        have hr := List.cons.inj he |>.2
        have ea : (a : Int) + 1 = ((a + 1 : Nat) : Int) := by omega
        have eb : (a : Int) + 1 + (szB y : Int) = ((a + 1 + szB y : Nat) : Int) := by omega
        have hy2 : (t.drop (a + 1)).take (szB y) = enc y ((a + 1 : Nat) : Int) := by
          have := congrArg (List.take (szB y)) hr
          rw [List.take_take, Nat.min_eq_left (by omega), List.take_left' hl] at this
          rw [this, ea]
        have hz2 : (t.drop (a + 1 + szB y)).take (szB z) = enc z ((a + 1 + szB y : Nat) : Int) := by
          have := congrArg (List.drop (szB y)) hr
          rw [List.drop_take, List.drop_drop, List.drop_left' hl, show szB y + szB z - szB y = szB z by omega] at this
          rw [this, eb]
        have hxx : ndOf t (a : Int) = (q, (a : Int) + 1, (a : Int) + 1 + szB y) := by unfold ndOf; rw [Int.toNat_natCast]; exact hx
        rw [hxx]
        dsimp only
        rw [ns] at h2 ⊢
        by_cases hb : (node : Int) < (a : Int) + 1 + szB y
        · rw [if_pos hb, decide_eq_true hb, belB, if_pos rfl, ea]
          obtain ⟨f, s, k1, k2, k3, k4, k5, k6⟩ := way_bel (node := node) hy hy2 (by omega) (by omega)
          exact ⟨f, s, by omega, k2, k3, k4, by omega, by rw [List.length_cons]; omega⟩
        · rw [if_neg hb, decide_eq_false hb, belB, if_neg (show ¬ ((false : Bool) = true) by decide), eb]
          obtain ⟨f, s, k1, k2, k3, k4, k5, k6⟩ := way_bel (node := node) hz hz2 (by omega) (by omega)
          exact ⟨f, s, by omega, k2, k3, k4, by omega, by rw [List.length_cons]; omega⟩
theorem root_way {n : Int} {t : List Nd} {node : Int} (h : ndB n t node = true) : ∃ e s a, node = ((a : Nat) : Int) ∧ e ≤ 7 ∧ WF n e s ∧ belB (rootV n t) (wayN t node 7 0) = some s ∧ (t.drop a).take (szB s) = enc s a ∧ a + szB s ≤ t.length ∧ (wayN t node 7 0).length ≤ 7 := by
  obtain ⟨h1, h2, h3⟩ := ndB_ok h
  obtain ⟨k1, k2, k3, k4, _⟩ := root_enc h1
  obtain ⟨a, rfl⟩ : ∃ a : Nat, node = a := ⟨node.toNat, by omega⟩
  obtain ⟨e, s, q1, q2, q3, q4, q5, q6⟩ := way_bel (n := n) (t := t) (node := a) (a := 0) k1 (by rw [List.drop_zero, ← k3, List.take_length]; exact k2) (by omega) (by omega)
  exact ⟨e, s, a, rfl, q1, q2, q3, q4, by omega, q6⟩
/-- The part at a node. -/
def subV (n : Int) (t : List Nd) (node : Int) : List Nd := if ndB n t node = true then enc ((belB (rootV n t) (wayN t node 7 0)).getD .nil) 0 else []
theorem sSubTree_eq (n : Int) (t : List Nd) (node : Int) (ht : t.length ≤ 1048576) : F_spec_SubTree n t node = some (subV n t node, ndB n t node) := by
  unfold F_spec_SubTree subV
  rw [chk_pos (by omega)]
  rcases Bool.eq_false_or_eq_true (ndB n t node) with h | h
  · obtain ⟨e, s, a, rfl, k1, k2, k3, k4, k5, k6⟩ := root_way h
    rw [h, ite_f (show (!true) = false from rfl), if_pos rfl, bnd1_eq (sSub_eq k2 k1 ht k5 k4), k3]
    rfl
  · rw [h, ite_t (show (!false) = true from rfl), if_neg (by decide)]
theorem subV_len (n : Int) (t : List Nd) (node : Int) : (subV n t node).length ≤ 127 := by
  unfold subV
  rcases Bool.eq_false_or_eq_true (ndB n t node) with h | h
  · obtain ⟨h1, h2, h3⟩ := ndB_ok h
    obtain ⟨_, _, _, k4, _⟩ := root_enc h1
    obtain ⟨e, s, a, rfl, q1, q2, q3, q4, q5, q6⟩ := root_way h
    rw [if_pos h, q3, enc_len]
    show szB s ≤ 127
    omega
  · rw [if_neg (by rw [h]; decide)]; exact Nat.zero_le _
theorem iIsNode_eq (n : Int) (t : List Nd) (node : Int) (ht : t.length ≤ 1048576) : F_impl_isNode n t node = some (ndB n t node) := by
  unfold F_impl_isNode F_impl_IsTree ndB
  rw [bnd2_eq (iRoot_eq n t ht), bnd1_eq rfl]
  cases (rootN n t).2 with
  | false => rfl
  | true => rw [ite_t rfl, chk_pos (by unfold I64; omega)]; rfl
theorem iSubTree_eq (n : Int) (t : List Nd) (node : Int) (ht : t.length ≤ 1048576) : F_impl_SubTree n t node = some (subV n t node, ndB n t node) := by
  unfold F_impl_SubTree subV
  rw [bnd2_eq (iRoot_eq n t ht)]
  simp only [jn]
  rcases Bool.eq_false_or_eq_true (ndB n t node) with h | h
  · obtain ⟨h1, h2, h3⟩ := ndB_ok h
    obtain ⟨e, s, a, rfl, k1, k2, k3, k4, k5, k6⟩ := root_way h
    rw [ite_f (by rw [h1]; rfl), bnd1_eq (iIsNode_eq n t _ ht), h, ite_f (show (!true) = false from rfl), if_pos rfl, bnd1_eq (iWay_eq h1 h2 h3), bnd1_eq (iBelow_eq _ _ _ (by omega) k3), bnd1_eq (iTree_eq k2 (by omega) (by omega)), k3]
    rfl
  · rw [if_neg (by rw [h]; decide)]
    rcases Bool.eq_false_or_eq_true (rootN n t).2 with h1 | h1
    · rw [ite_f (by rw [h1]; rfl), bnd1_eq (iIsNode_eq n t _ ht), h, ite_t (show (!false) = true from rfl)]
    · rw [ite_t (by rw [h1]; rfl), ite_t rfl, h]
theorem vTree_eq (xs : List Nd) (hx : xs.length ≤ 1048576) : F_laws_vTree xs xs = some true := by
  unfold F_laws_vTree
  rw [ite_f (bne_self_eq_false _)]
  simp only [jn]
  refine loop_up (fun m i (_ : Unit) => F_laws_vTree_L1 xs xs (fun _ => some true) m i) ((List.length xs : Nat) : Int) (fun _ => ()) _ ?_ ?_ (by omega) fuel (by have := fuel_ge; omega)
  · intro m i i0 i1
    rw [F_laws_vTree_L1, ite_t (decide_eq_true i1), chk_pos ⟨i0, i1⟩, chk_pos ⟨i0, i1⟩]
    simp only [nam, beq_self_eq_true, Bool.and_self, Bool.and_true, Bool.not_true, cond_false]
    rw [chk_pos (by unfold I64; omega)]
  · intro m
    rw [F_laws_vTree_L1, ite_f (decide_eq_false (by omega))]
def wfB (n : Int) : Nat → Br → Bool
  | 0, _ => false
  | _ + 1, .nil => false
  | _ + 1, .nd q .nil .nil => q == 0
  | _ + 1, .nd _ .nil (.nd _ _ _) => false
  | d + 1, .nd q (.nd a b c) z => isQ n q && (wfB n d (.nd a b c) && wfB n d z)
theorem wfB_WF {n : Int} : ∀ {d : Nat} {b : Br}, wfB n d b = true → WF n d b
  | 0, _, h => by cases h
  | _ + 1, .nil, h => by cases h
  | d + 1, .nd q .nil .nil, h => by
    have : q = 0 := by simpa [wfB] using h
    subst this; exact .leaf d
  | _ + 1, .nd _ .nil (.nd _ _ _), h => by cases h
  | d + 1, .nd q (.nd a b c) z, h => by
    simp only [wfB, Bool.and_eq_true] at h
    exact .node h.1 (wfB_WF h.2.1) (wfB_WF h.2.2)
theorem WF.ups {n : Int} {d : Nat} {b : Br} (h : WF n d b) : ∀ k, WF n (d + k) b
  | 0 => h
  | k + 1 => (h.ups k).up
/-- The list of a branch's nodes is a tree. -/
theorem enc_root {n : Int} {d : Nat} {b : Br} (h : WF n d b) (hd : d ≤ 7) (hs : szB b ≤ 127) (h1 : 1 ≤ n) (h2 : n ≤ 12) : (rootN n (enc b 0)).2 = true := by
  have h7 : WF n 7 b := by have := h.ups (7 - d); rwa [show d + (7 - d) = 7 by omega] at this
  have hp := h.pos
  have hl : (enc b 0).length = szB b := enc_len _ _
  have hr := readB_of (t := enc b 0) (a := 0) h7 (by rw [List.drop_zero, List.take_of_length_le (by omega)]; rfl)
  have hr : readB n (enc b 0) 7 0 = (b, ((0 : Nat) : Int) + (szB b : Int), true) := hr
  have g1 : (decide (1 ≤ n) && decide (n ≤ 12)) = true := by simp [h1, h2]
  have g2 : (decide (1 ≤ ((enc b 0).length : Int)) && decide (((enc b 0).length : Int) ≤ 127)) = true := by simp; omega
  unfold rootN
  rw [if_neg (by simp only [g1, g2]; decide), readB_N, hr, hl]
  simp
def orN (xs : List Int) : Int := xs.foldl (fun q k => bits .or .i64 q (1 * 2 ^ k.toNat)) 0
def halvB : Nat → List Int → Br
  | 0, _ => .nil
  | g + 1, xs => if xs.length = 1 then .nd 0 .nil .nil else .nd (orN (xs.take ((xs.length + 1) / 2))) (halvB g (xs.take ((xs.length + 1) / 2))) (halvB g (xs.drop ((xs.length + 1) / 2)))
def rng (k : Nat) : List Int := (List.range k).map fun (i : Nat) => (i : Int)
theorem orN_suc {xs : List Int} {i : Nat} (h : i < xs.length) : orN (xs.take (i + 1)) = bits .or .i64 (orN (xs.take i)) (1 * 2 ^ (xs.getD i 0).toNat) := by
  unfold orN
  rw [List.take_succ_eq_append_getElem h, List.foldl_append, List.getD_eq_getElem?_getD, List.getElem?_eq_getElem h]
  rfl
theorem small_shl {k : Int} (h0 : 0 ≤ k) (h1 : k ≤ 12) : 0 ≤ k ∧ k < 64 ∧ I64 ((1 : Int) * 2 ^ Int.toNat k) := by
  have := pow13 (n := k) h0 (by omega)
  exact ⟨h0, by omega, by unfold I64; omega⟩
theorem half_eq (k : Nat) : Int.tdiv (((k : Nat) : Int) + 1) 2 = ((((k + 1) / 2 : Nat)) : Int) := by
  rw [Int.tdiv_eq_ediv_of_nonneg (by omega)]; omega
theorem halvB_nd {d : Nat} {xs : List Int} (h : 1 ≤ xs.length) (hd : xs.length ≤ d) : ∃ q y z, halvB d xs = .nd q y z := by
  obtain ⟨d, rfl⟩ : ∃ e, d = e + 1 := ⟨d - 1, by omega⟩
  rw [halvB]; split <;> exact ⟨_, _, _, rfl⟩
theorem sHalv_eq : ∀ (d g : Nat) (xs : List Int), 1 ≤ xs.length → xs.length ≤ d → d ≤ 13 → d < g → (∀ x ∈ xs, 0 ≤ x ∧ x ≤ 12) → F_spec_l9Halves g xs = some (enc (halvB d xs) 0) ∧ szB (halvB d xs) + 1 ≤ 2 * xs.length := by
  intro d
  induction d with
  | zero => intro g xs h1 h2; omega
  | succ d ih =>
    intro g xs h1 h2 h3 hg hx
    obtain ⟨g, rfl⟩ : ∃ x, g = x + 1 := ⟨g - 1, by omega⟩
    rw [F_spec_l9Halves]
    unfold F_spec_l9Halves_B
    by_cases he : xs.length = 1
    · rw [ite_t (by rw [he]; rfl), halvB, if_pos he]; exact ⟨rfl, by simp only [szB]; omega⟩
    · rw [ite_f (by simp; omega), chk_pos (by unfold I64; omega)]
      simp only [nam, jn]
      rw [half_eq, chk_pos (by unfold I64; omega)]
      have e0 : Int.toNat (0 : Int) = 0 := rfl
      rw [e0, List.drop_zero, Nat.sub_zero, Int.toNat_natCast, Int.toNat_natCast]
      generalize hh : (xs.length + 1) / 2 = h at *
      have hlt : (xs.take h).length = h := by rw [List.length_take]; omega
      obtain ⟨e1, s1⟩ := ih g (xs.take h) (by omega) (by omega) (by omega) (by omega) (fun x hm => hx x (List.mem_of_mem_take hm))
      obtain ⟨e2, s2⟩ := ih g (xs.drop h) (by rw [List.length_drop]; omega) (by rw [List.length_drop]; omega) (by omega) (by omega) (fun x hm => hx x (List.mem_of_mem_drop hm))
      rw [hlt] at s1
      rw [List.length_drop] at s2
      have n1 := halvB_nd (d := d) (xs := xs.take h) (by omega) (by omega)
      have fin : ∀ J1 : Int → Option (List Nd), F_spec_l9Halves_B_L1 xs (((xs.length : Nat) : Int) + 1) J1 fuel 0 0 = J1 (orN (xs.take h)) := by
        intro J1
        refine loop_up (fun m i q => F_spec_l9Halves_B_L1 xs (((xs.length : Nat) : Int) + 1) J1 m i q) ((h : Nat) : Int) (fun i => orN (xs.take i.toNat)) _ ?_ ?_ (by omega) fuel (by have := fuel_ge; omega)
        · intro m i i0 i1
          obtain ⟨j, rfl⟩ := int_nat i0
          have e1 : ((j : Int) + 1).toNat = j + 1 := by omega
          have hj : j < xs.length := by omega
          simp only [Int.toNat_natCast, e1]
          rw [F_spec_l9Halves_B_L1, half_eq, hh]
          have hxj := getD_in hj (P := fun x => 0 ≤ x ∧ x ≤ 12) hx
          simp only [nam, Int.toNat_natCast]
          rw [ite_t (decide_eq_true i1), chk_pos ⟨i0, by omega⟩, chk_pos (small_shl hxj.1 hxj.2), chk_pos (by unfold I64; omega), orN_suc hj]
        · intro m
          simp only [Int.toNat_natCast]
          rw [F_spec_l9Halves_B_L1, half_eq, hh, ite_f (decide_eq_false (by omega))]
      rw [fin, chk_pos ⟨by omega, by omega, by omega⟩, bnd1_eq e1, chk_pos ⟨by omega, by omega, by omega⟩, show List.take (xs.length - h) (List.drop h xs) = xs.drop h from List.take_of_length_le (by rw [List.length_drop]; exact Nat.le_refl _), bnd1_eq e2]
      rw [bnd1_eq (sJoin_eq _ n1 (by omega)), halvB, if_neg he, hh]
      obtain ⟨a, b, c, hn⟩ := n1
      refine ⟨rfl, ?_⟩
      rw [hn] at s1 ⊢
      rw [szB]; omega
def hvB (n : Int) : Bool := decide (1 ≤ n) && decide (n ≤ 12)
def hvV (n : Int) : List Nd := bif hvB n then enc (halvB 13 (rng n.toNat)) 0 else []
theorem openN_rep (k : Nat) : openN (List.replicate k (0 : Int)) = rng k := by
  unfold openN openP rng
  rw [List.length_replicate, List.filter_eq_self.2]
  intro i hi
  rw [List.getD_eq_getElem?_getD, List.getElem?_replicate]
  split <;> rfl
theorem rng_in {k : Nat} : (rng k).length = k ∧ ∀ x ∈ rng k, 0 ≤ x ∧ x < (k : Int) := by
  unfold rng
  refine ⟨by simp, fun x hx => ?_⟩
  simp only [List.mem_map, List.mem_range] at hx
  obtain ⟨i, h1, rfl⟩ := hx
  omega
theorem hvB_in {n : Int} (h : hvB n = true) : 1 ≤ n ∧ n ≤ 12 := by simpa [hvB] using h
theorem all12 {P : Int → Bool} (h : ((List.range 12).all fun (i : Nat) => P ((i : Int) + 1)) = true) {n : Int} (h1 : 1 ≤ n) (h2 : n ≤ 12) : P n = true := by
  rw [List.all_eq_true] at h
  have := h (n - 1).toNat (by rw [List.mem_range]; omega)
  rwa [show (((n - 1).toNat : Nat) : Int) + 1 = n by omega] at this
theorem halv_WF {n : Int} (h1 : 1 ≤ n) (h2 : n ≤ 12) : WF n 5 (halvB 13 (rng n.toNat)) := wfB_WF (all12 (P := fun n => wfB n 5 (halvB 13 (rng n.toNat))) (by decide +kernel) h1 h2)
theorem halv_good {n : Int} (h1 : 1 ≤ n) (h2 : n ≤ 12) : mlB n (hvV n) 0 = true ∧ (rootN n (hvV n)).2 = true ∧ gtB n (hvV n) 0 = true ∧ ((lvN n (hvV n)).length : Int) = n := by
  have := all12 (P := fun n => mlB n (hvV n) 0 && ((rootN n (hvV n)).2 && (gtB n (hvV n) 0 && (((lvN n (hvV n)).length : Int) == n)))) (by decide +kernel) h1 h2
  simpa using this
theorem sHalvingTree_eq (n : Int) : F_spec_HalvingTree n = some (hvV n, hvB n) := by
  unfold F_spec_HalvingTree hvV
  have e : (decide (n ≥ 1) && decide (n ≤ 12)) = hvB n := rfl
  rw [e]
  rcases Bool.eq_false_or_eq_true (hvB n) with h | h
  · obtain ⟨h1, h2⟩ := hvB_in h
    have hr := @rng_in n.toNat
    have e1 : F_spec_l2Start n 0 = some (List.replicate n.toNat 0, 0) := by
      unfold F_spec_l2Start
      rw [chk_pos ⟨by omega, by omega, by omega, by simp only [maxLen]; omega⟩]
    rw [h, ite_f (show (!true) = false from rfl), bnd2_eq e1, bnd1_eq (sOpenL_eq _ _ (by simp; omega)), openN_rep, bnd1_eq (sHalv_eq 13 fuel (rng n.toNat) (by omega) (by omega) (by omega) (by have := fuel_ge; omega) (fun x hx => by have := hr.2 x hx; omega)).1]
    rfl
  · rw [h, ite_t (show (!false) = true from rfl)]; rfl
theorem hv_sz {n : Int} (h1 : 1 ≤ n) (h2 : n ≤ 12) : szB (halvB 13 (rng n.toNat)) ≤ 23 := by
  have hr := @rng_in n.toNat
  have := (sHalv_eq 13 14 (rng n.toNat) (by omega) (by omega) (by omega) (by omega) (fun x hx => by have := hr.2 x hx; omega)).2
  omega
theorem hvV_len (n : Int) : (hvV n).length ≤ 23 := by
  unfold hvV
  rcases Bool.eq_false_or_eq_true (hvB n) with h | h
  · obtain ⟨h1, h2⟩ := hvB_in h
    rw [h]; show (enc _ 0).length ≤ 23
    rw [enc_len]; exact hv_sz h1 h2
  · rw [h]; exact Nat.zero_le _
def repB (q : Int) : Nat → Br
  | 0 => .nd 0 .nil .nil
  | k + 1 => .nd q (repB q k) (repB q k)
theorem repB_nd (q : Int) : ∀ k, ∃ a b c, repB q k = .nd a b c
  | 0 => ⟨_, _, _, rfl⟩
  | k + 1 => ⟨_, _, _, rfl⟩
theorem repB_sz (q : Int) : ∀ k, szB (repB q k) + 1 = 2 ^ (k + 1)
  | 0 => rfl
  | k + 1 => by
    obtain ⟨a, b, c, h⟩ := repB_nd q k
    have := repB_sz q k
    rw [repB, h, szB, ← h, Nat.pow_succ]; omega
theorem repB_WF {n q : Int} (h : isQ n q = true) : ∀ k, WF n (k + 1) (repB q k)
  | 0 => .leaf 0
  | k + 1 => .node h (repB_WF h k) (repB_WF h k)
def rpB (n q k : Int) : Bool := isQ n q && (decide (0 ≤ k) && decide (k ≤ 6))
def rpV (n q k : Int) : List Nd := bif rpB n q k then enc (repB q k.toNat) 0 else []
theorem rpB_in {n q k : Int} (h : rpB n q k = true) : isQ n q = true ∧ 0 ≤ k ∧ k ≤ 6 := by
  simp only [rpB, Bool.and_eq_true, decide_eq_true_eq] at h; exact ⟨h.1, h.2.1, h.2.2⟩
theorem pow7 {k : Nat} (h : k ≤ 7) : 2 ^ k ≤ 128 := Nat.le_trans (Nat.pow_le_pow_right (by decide) h) (by decide)
theorem rp_sz {n q k : Int} (h : rpB n q k = true) : szB (repB q k.toNat) ≤ 127 := by
  obtain ⟨_, h2, h3⟩ := rpB_in h
  have := repB_sz q k.toNat
  have := pow7 (k := k.toNat + 1) (by omega)
  omega
theorem rpV_len (n q k : Int) : (rpV n q k).length ≤ 127 := by
  unfold rpV
  rcases Bool.eq_false_or_eq_true (rpB n q k) with h | h
  · rw [h]; show (enc _ 0).length ≤ 127
    rw [enc_len]; exact rp_sz h
  · rw [h]; exact Nat.zero_le _
theorem sRepeatTree_eq (n q k : Int) : F_spec_RepeatTree n q k = some (rpV n q k, rpB n q k) := by
  unfold F_spec_RepeatTree rpV
  refine jn_is (fun J => J (!(rpB n q k))) (fun J => by unfold rpB; cases isQ n q <;> rfl) ?_
  rcases Bool.eq_false_or_eq_true (rpB n q k) with h | h
  · obtain ⟨h1, h2, h3⟩ := rpB_in h
    rw [h, ite_f (show (!true) = false from rfl)]
    simp only [jn]
    refine loop_up (fun m i s => F_spec_RepeatTree_L1 q k (fun o21 => some (o21, true)) m s i) k (fun i => enc (repB q i.toNat) 0) _ ?_ ?_ (by omega) fuel (by have := fuel_ge; omega)
    · intro m i i0 i1
      obtain ⟨j, rfl⟩ := int_nat i0
      have e1 : ((j : Int) + 1).toNat = j + 1 := by omega
      have hz := repB_sz q j
      have := pow7 (k := j + 1) (by omega)
      simp only [Int.toNat_natCast, e1]
      rw [F_spec_RepeatTree_L1, ite_t (decide_eq_true i1), bnd1_eq (sJoin_eq q (repB_nd q j) (by omega)), chk_pos (by unfold I64; omega)]
      rfl
    · intro m
      try simp only
      rw [F_spec_RepeatTree_L1, ite_f (decide_eq_false (by omega))]
      rfl
  · rw [h]; rfl
theorem rep_good {n q k : Int} (h : rpB n q k = true) : (rootN n (rpV n q k)).2 = true ∧ ((rpV n q k).length : Int) + 1 = 2 ^ (k.toNat + 1) := by
  obtain ⟨h1, h2, h3⟩ := rpB_in h
  have hq := isQ_in h1
  have hz := repB_sz q k.toNat
  unfold rpV
  rw [h]
  refine ⟨enc_root (repB_WF h1 k.toNat) (by omega) (rp_sz h) hq.1.2.1 hq.1.2.2, ?_⟩
  show ((enc (repB q k.toNat) 0).length : Int) + 1 = _
  rw [enc_len]
  have e : ((2 ^ (k.toNat + 1) : Nat) : Int) = 2 ^ (k.toNat + 1) := by norm_cast
  rw [← e, ← hz]; rfl
theorem nodes9_ok {bs : List Int} {n : Int} (hy : okY bs) (hn : 0 ≤ n) (hn2 : n ≤ 13) : ∀ (d g : Nat) (p s : Int), d ≤ 5 → d < g → 0 ≤ p → p + 16 * 2 ^ d ≤ 600000001000 → ∃ b p' s', F_p_spec_l1Cur_nodes9 g bs p s n (d : Int) = some (enc b 0, bs, p', s') ∧ (∃ q y z, b = .nd q y z) ∧ szB b + 1 ≤ 2 ^ (d + 1) ∧ p ≤ p' ∧ p' + 8 ≤ p + 8 * 2 ^ d := by
  have a1 := maxN_in (a := n) (b := 0)
  have a2 := minN_in (a := maxN n 0) (b := 12)
  have hsh := small_shl (k := minN (maxN n 0) 12) (by omega) (by omega)
  intro d
  induction d with
  | zero =>
    intro g p s h1 h2 h3 h4
    obtain ⟨g, rfl⟩ : ∃ x, g = x + 1 := ⟨g - 1, by omega⟩
    rw [F_p_spec_l1Cur_nodes9]
    exact ⟨.nd 0 .nil .nil, p, s, rfl, ⟨_, _, _, rfl⟩, by decide, Int.le_refl _, by omega⟩
  | succ d ih =>
    intro g p s h1 h2 h3 h4
    obtain ⟨g, rfl⟩ : ∃ x, g = x + 1 := ⟨g - 1, by omega⟩
    have hp : (1 : Int) ≤ 2 ^ d := Int.pow_pos (by decide)
    have hp2 : (2 : Int) ^ (d + 1) = 2 * 2 ^ d := by rw [Int.pow_succ]; omega
    have hp5 : (2 : Int) ^ d ≤ 32 := by
      have : d ≤ 4 := by omega
      match d, this with
      | 0, _ | 1, _ | 2, _ | 3, _ | 4, _ => decide
    rw [F_p_spec_l1Cur_nodes9]
    unfold F_p_spec_l1Cur_nodes9_B
    simp only [jn]
    obtain ⟨v, p1, s1, e1, g0, g1⟩ := one_ok (s := s) (n := 4) hy h3 (by omega)
    rw [ite_f (by simp; omega), bnd4_eq e1]
    cases v with
    | true => exact ⟨.nd 0 .nil .nil, p1, s1, rfl, ⟨_, _, _, rfl⟩, by have : 1 ≤ 2 ^ d := Nat.two_pow_pos d; rw [Nat.pow_succ, Nat.pow_succ]; simp only [szB]; omega, g0, by omega⟩
    | false =>
      obtain ⟨q, p2, s2, e2, k0, k1, k2, k3⟩ := pick_ok (s := s1) (n := (1 : Int) * 2 ^ Int.toNat (minN (maxN n 0) 12)) hy (p := p1) (by omega) (by omega)
      obtain ⟨b1, p3, s3, e3, f1, f2, f3, f4⟩ := ih g p2 s2 (by omega) (by omega) (by omega) (by omega)
      obtain ⟨b2, p4, s4, e4, i1, i2, i3, i4⟩ := ih g p3 s3 (by omega) (by omega) (by omega) (by omega)
      have hz : 2 ^ (d + 1) ≤ 64 := Nat.le_trans (Nat.pow_le_pow_right (by decide) (show d + 1 ≤ 6 by omega)) (by decide)
      rw [ite_f rfl, chk_pos hsh, bnd4_eq e2, chk_pos (by unfold I64; omega), show ((d + 1 : Nat) : Int) - 1 = (d : Int) by omega, bnd4_eq e3, bnd4_eq e4, bnd1_eq (sJoin_eq q f1 (by omega))]
      refine ⟨.nd q b1 b2, p4, s4, rfl, ⟨_, _, _, rfl⟩, ?_, by omega, by omega⟩
      obtain ⟨x, y, z, rfl⟩ := f1
      rw [szB, Nat.pow_succ]; omega
theorem tree9_ok {bs : List Int} {p s n : Int} (hy : okY bs) (h0 : 0 ≤ p) (h1 : p ≤ 500000000000) (hn : 0 ≤ n) (hn2 : n ≤ 13) : ∃ t p' s', F_p_spec_l1Cur_tree9 bs p s n = some (t, bs, p', s') ∧ t.length ≤ 200 ∧ p ≤ p' ∧ p' ≤ p + 1000 := by
  unfold F_p_spec_l1Cur_tree9
  obtain ⟨d, p1, s1, e1, g0, g1, g2⟩ := among_ok (s := s) (xs := [(3 : Int), (2 : Int), (4 : Int), (1 : Int), (0 : Int), (5 : Int)]) hy h0 (by omega) (by decide)
  simp only [List.mem_cons, List.not_mem_nil, or_false] at g2
  obtain ⟨d, rfl⟩ : ∃ k : Nat, d = k := ⟨d.toNat, by omega⟩
  have hd5 : d ≤ 5 := by omega
  have hb0 : (2 : Int) ^ d ≤ 32 := by
    match d, hd5 with
    | 0, _ | 1, _ | 2, _ | 3, _ | 4, _ | 5, _ => decide
  obtain ⟨b, p2, s2, e2, k0, k1, k2, k3⟩ := nodes9_ok hy hn hn2 d fuel p1 s1 (by omega) (by have := fuel_ge; omega) (by omega) (by omega)
  have hb : szB b ≤ 63 ∧ (2 : Int) ^ d ≤ 32 := by
    revert k1
    match d, hd5 with
    | 0, _ | 1, _ | 2, _ | 3, _ | 4, _ | 5, _ => exact fun h => ⟨by omega, by decide⟩
  have hlen : (enc b 0).length = szB b := enc_len _ _
  have hpos : 1 ≤ (enc b 0).length := by
    obtain ⟨x, y, z, rfl⟩ := k0
    rw [hlen]
    cases y with
    | nil => exact Nat.le_refl _
    | nd _ _ _ => rw [szB]; omega
  rw [bnd4_eq e1, bnd4_eq e2]
  let Q : Option (List Nd × List Int × Int × Int) → Prop := fun o => ∃ t p' s', o = some (t, bs, p', s') ∧ t.length ≤ 200 ∧ p ≤ p' ∧ p' ≤ p + 1000
  have fin : ∀ (t : List Nd) (pp ss : Int), 1 ≤ t.length → t.length ≤ 127 → p ≤ pp → pp ≤ p + 500 → Q (jn (fun (o500d : List Int) (o500e : Int) (o500g : Int) (o10230b : List Nd) => some (o10230b, o500d, o500e, o500g)) (fun J1 => bnd4 (F_p_spec_l1Cur_pick bs pp ss (40 : Int)) fun r43 r43b r43c r43d => (bif r43 == (0 : Int) then bnd4 (F_p_spec_l1Cur_pick r43b r43c r43d ((List.length t : Nat) : Int)) fun r52 r52b r52c r52d => bnd4 (F_p_spec_l1Cur_among r52b r52c r52d [(-1 : Int), (0 : Int), (1 : Int), (4096 : Int)]) fun r55 r55b r55c r55d => chk (0 ≤ r52 ∧ r52 < ((List.length t : Nat) : Int)) <| J1 r55b r55c r55d (List.set t (Int.toNat r52) (r55, ((List.getD t (Int.toNat r52) (0, 0, 0)).2.1), ((List.getD t (Int.toNat r52) (0, 0, 0)).2.2))) else (bif r43 == (1 : Int) then bnd4 (F_p_spec_l1Cur_pick r43b r43c r43d ((List.length t : Nat) : Int)) fun r66 r66b r66c r66d => bnd4 (F_p_spec_l1Cur_among r66b r66c r66d [(-1 : Int), (0 : Int), (1 : Int), (2 : Int), ((List.length t : Nat) : Int)]) fun r72 r72b r72c r72d => chk (0 ≤ r66 ∧ r66 < ((List.length t : Nat) : Int)) <| J1 r72b r72c r72d (List.set t (Int.toNat r66) (((List.getD t (Int.toNat r66) (0, 0, 0)).1), ((List.getD t (Int.toNat r66) (0, 0, 0)).2.1), r72)) else (bif r43 == (2 : Int) then chk (((List.length t) + 1) * 24 ≤ 140737488355328 ∧ (List.length t) + 1 ≤ maxLen) <| J1 r43b r43c r43d (t ++ [((-1 : Int), (-1 : Int), (-1 : Int))]) else J1 r43b r43c r43d t))))) := by
    intro t pp ss t0 t1 q0 q1
    simp only [jn]
    obtain ⟨v, p3, s3, e3, f0, f1, f2, f3⟩ := pick_ok (s := ss) (n := 40) hy (p := pp) (by omega) (by omega)
    obtain ⟨w, p4, s4, e4, i0, i1, i2, i3⟩ := pick_ok (s := s3) (n := ((List.length t : Nat) : Int)) hy (p := p3) (by omega) (by omega)
    have hw := i3 (by omega)
    rw [bnd4_eq e3]
    rcases Bool.eq_false_or_eq_true (v == (0 : Int)) with h | h
    · obtain ⟨x, p5, s5, e5, j0, j1, j2⟩ := among_ok (s := s4) (xs := [(-1 : Int), (0 : Int), (1 : Int), (4096 : Int)]) hy (p := p4) (by omega) (by omega) (by decide)
      rw [ite_t h, bnd4_eq e4, bnd4_eq e5, chk_pos ⟨i2, hw⟩]
      exact ⟨_, _, _, rfl, by rw [List.length_set]; omega, by omega, by omega⟩
    · rw [ite_f h]
      rcases Bool.eq_false_or_eq_true (v == (1 : Int)) with h | h
      · obtain ⟨x, p5, s5, e5, j0, j1, j2⟩ := among_ok (s := s4) (xs := [(-1 : Int), (0 : Int), (1 : Int), (2 : Int), ((List.length t : Nat) : Int)]) hy (p := p4) (by omega) (by omega) (by simp)
        rw [ite_t h, bnd4_eq e4, bnd4_eq e5, chk_pos ⟨i2, hw⟩]
        exact ⟨_, _, _, rfl, by rw [List.length_set]; omega, by omega, by omega⟩
      · rw [ite_f h]
        rcases Bool.eq_false_or_eq_true (v == (2 : Int)) with h | h
        · rw [ite_t h, chk_pos ⟨by omega, by simp only [maxLen]; omega⟩]
          exact ⟨_, _, _, rfl, by rw [List.length_append]; show t.length + 1 ≤ 200; omega, by omega, by omega⟩
        · rw [ite_f h]
          exact ⟨_, _, _, rfl, by omega, by omega, by omega⟩
  have f := fun t pp ss => fin t pp ss
  simp only [jn] at f ⊢
  obtain ⟨v, p3, s3, e3, f0, f1, f2, f3⟩ := pick_ok (s := s2) (n := 4) hy (p := p2) (by omega) (by omega)
  rw [bnd4_eq e3]
  have stay : ∀ pp ss, p ≤ pp → pp ≤ p + 500 → Q _ := fun pp ss q0 q1 => f (enc b 0) pp ss hpos (by omega) q0 q1
  rcases Bool.eq_false_or_eq_true (v == (0 : Int)) with h | h
  · rw [ite_t h, bnd2_eq (sHalvingTree_eq n)]
    rcases Bool.eq_false_or_eq_true (hvB n) with h2 | h2
    · obtain ⟨q1, q2⟩ := hvB_in h2
      have hl := hvV_len n
      have hl1 : 1 ≤ (hvV n).length := by
        have := (halv_WF q1 q2).pos
        unfold hvV; rw [h2]; show 1 ≤ (enc _ 0).length; rw [enc_len]; exact this
      rw [ite_t h2]
      exact f (hvV n) p3 s3 hl1 (by omega) (by omega) (by omega)
    · rw [ite_f h2]
      exact stay p3 s3 (by omega) (by omega)
  · rw [ite_f h]
    rcases Bool.eq_false_or_eq_true (v == (1 : Int)) with h | h
    · obtain ⟨q, p4, s4, e4, i0, i1, i2, i3⟩ := question_ok (s := s3) (n := n) hy (p := p3) (by omega) (by omega)
      obtain ⟨w, p5, s5, e5, j0, j1, j2, j3⟩ := pick_ok (s := s4) (n := 4) hy (p := p4) (by omega) (by omega)
      rw [ite_t h, bnd4_eq e4, bnd4_eq e5, bnd2_eq (sRepeatTree_eq n q w)]
      rcases Bool.eq_false_or_eq_true (rpB n q w) with h2 | h2
      · have hl := rpV_len n q w
        have hl1 : 1 ≤ (rpV n q w).length := by
          have := (repB_WF (rpB_in h2).1 w.toNat).pos
          unfold rpV; rw [h2]; show 1 ≤ (enc _ 0).length; rw [enc_len]; exact this
        rw [ite_t h2]
        exact f (rpV n q w) p5 s5 hl1 hl (by omega) (by omega)
      · rw [ite_f h2]
        exact stay p5 s5 (by omega) (by omega)
    · rw [ite_f h]
      exact stay p3 s3 (by omega) (by omega)
theorem node9_ok {bs : List Int} {p s : Int} {t : List Nd} (hy : okY bs) (h0 : 0 ≤ p) (h1 : p ≤ 700000000000) : ∃ v p' s', F_p_spec_l1Cur_node9 bs p s t = some (v, bs, p', s') ∧ p ≤ p' ∧ p' ≤ p + 10 := by
  unfold F_p_spec_l1Cur_node9
  obtain ⟨b, p1, s1, e1, g0, g1⟩ := one_ok (s := s) (n := 24) hy h0 (by omega)
  rw [bnd4_eq e1]
  cases b with
  | true =>
    obtain ⟨x, p5, s5, e5, j0, j1, j2⟩ := among_ok (s := s1) (xs := [(-1 : Int), ((List.length t : Nat) : Int), (4611686018427387904 : Int)]) hy (p := p1) (by omega) (by omega) (by simp)
    rw [ite_t rfl, bnd4_eq e5]
    exact ⟨_, _, _, rfl, by omega, by omega⟩
  | false =>
    obtain ⟨w, p4, s4, e4, i0, i1, i2, i3⟩ := pick_ok (s := s1) (n := maxN 1 ((List.length t : Nat) : Int)) hy (p := p1) (by omega) (by omega)
    rw [ite_f rfl, bnd4_eq e4]
    exact ⟨_, _, _, rfl, by omega, by omega⟩
theorem cutA_out {c : Nat} : ∀ {x : ABr}, c ∉ blocksA x → cutA c x = x
  | .nil, _ => rfl
  | .nd b q y n, h => by
    simp only [blocksA, List.mem_cons, List.mem_append, not_or] at h
    unfold cutA
    rw [if_neg (fun e => h.1 e.symm), cutA_out h.2.1, cutA_out h.2.2]
theorem belowA {w : List (Int × Bool)} : ∀ (n : Nat) (i : Int) (a : ABr) (r : Br), F_p_impl_branch_below_L1 w some n i (eraseA a) = some r → ∃ a', FA_p_impl_branch_below_L1 w some n i a = some a' ∧ eraseA a' = r
  | 0, i, a, r, h => by rw [F_p_impl_branch_below_L1] at h; cases h
  | n + 1, i, a, r, h => by
    rw [F_p_impl_branch_below_L1] at h
    rw [FA_p_impl_branch_below_L1]
    by_cases hi : i < ((w.length : Nat) : Int)
    · rw [ite_t (decide_eq_true hi)] at h ⊢
      obtain ⟨c0, h⟩ := chk_some h
      rw [chk_pos c0]
      cases a with
      | nil => cases h
      | nd b q y z =>
        simp only [eraseA, brM] at h
        simp only [brAM]
        cases hb : (w.getD i.toNat (0, false)).2 with
        | true =>
          rw [hb, ite_t rfl] at h
          obtain ⟨c1, h⟩ := chk_some h
          rw [ite_t rfl, chk_pos c1]
          exact belowA n _ y r h
        | false =>
          rw [hb, ite_f rfl] at h
          obtain ⟨c1, h⟩ := chk_some h
          rw [ite_f rfl, chk_pos c1]
          exact belowA n _ z r h
    · rw [ite_f (decide_eq_false hi)] at h ⊢
      cases h
      exact ⟨a, rfl, rfl⟩
/-- The branch at a way's end made a leaf: by its block, and by the way. -/
theorem cut_way {w : List (Int × Bool)} : ∀ (n : Nat) (i : Int) (a : ABr) (c : Nat) (q : Int) (y z : ABr), 0 ≤ i → FA_p_impl_branch_below_L1 w some n i a = some (.nd c q y z) → (blocksA a).Nodup → eraseA (cutA c a) = cutW (eraseA a) (w.drop i.toNat) ∧ c ∈ blocksA a
  | 0, i, a, c, q, y, z, _, h, _ => by rw [FA_p_impl_branch_below_L1] at h; cases h
  | n + 1, i, a, c, q, y, z, h0, h, hn => by
    rw [FA_p_impl_branch_below_L1] at h
    by_cases hi : i < ((w.length : Nat) : Int)
    · rw [ite_t (decide_eq_true hi)] at h
      obtain ⟨c0, h⟩ := chk_some h
      cases a with
      | nil => cases h
      | nd b q' y' z' =>
        simp only [brAM] at h
        have hil : i.toNat < w.length := by omega
        have e1 : (i + 1).toNat = i.toNat + 1 := by omega
        have ed : w.drop i.toNat = w.getD i.toNat (0, false) :: w.drop (i + 1).toNat := by
          rw [e1, List.drop_eq_getElem_cons hil, List.getD_eq_getElem?_getD, List.getElem?_eq_getElem hil]; rfl
        simp only [blocksA, List.nodup_cons, List.nodup_append, List.mem_append, not_or] at hn
        obtain ⟨⟨n1, n2⟩, n3, n4, n5⟩ := hn
        rw [ed]
        cases hb : (w.getD i.toNat (0, false)).2 with
        | true =>
          rw [hb, ite_t rfl] at h
          obtain ⟨c1, h⟩ := chk_some h
          obtain ⟨g1, g2⟩ := cut_way n (i + 1) y' c q y z (by omega) h n3
          have hne : b ≠ c := fun e => n1 (e ▸ g2)
          have ho : c ∉ blocksA z' := fun hm => n5 c g2 c hm rfl
          refine ⟨?_, by simp only [blocksA, List.mem_cons, List.mem_append]; exact .inr (.inl g2)⟩
          unfold cutA
          rw [if_neg hne, cutA_out ho]
          simp only [eraseA, cutW]
          rw [hb, if_pos rfl, g1]
        | false =>
          rw [hb, ite_f rfl] at h
          obtain ⟨c1, h⟩ := chk_some h
          obtain ⟨g1, g2⟩ := cut_way n (i + 1) z' c q y z (by omega) h n4
          have hne : b ≠ c := fun e => n2 (e ▸ g2)
          have ho : c ∉ blocksA y' := fun hm => n5 c hm c g2 rfl
          refine ⟨?_, by simp only [blocksA, List.mem_cons, List.mem_append]; exact .inr (.inr g2)⟩
          unfold cutA
          rw [if_neg hne, cutA_out ho]
          simp only [eraseA, cutW]
          rw [hb, if_neg (by simp), g1]
    · rw [ite_f (decide_eq_false hi)] at h
      cases h
      rw [List.drop_eq_nil_of_le (by omega)]
      refine ⟨?_, by simp [blocksA]⟩
      unfold cutA
      rw [if_pos rfl]
      rfl
/-- The way to a node, told by its place in the tree's own list. -/
def wayB : Br → Nat → List (Int × Bool)
  | _, 0 => []
  | .nil, _ + 1 => []
  | .nd q y z, k + 1 => if k < szB y then (q, true) :: wayB y k else (q, false) :: wayB z (k - szB y)
theorem wayB_0 (b : Br) : wayB b 0 = [] := by cases b <;> rfl
/-- The tree with a leaf at a node. -/
def cutV (b : Br) (k : Nat) : Br := cutW b (wayB b k)
theorem cutV_0 (b : Br) : cutV b 0 = .nd 0 .nil .nil := by unfold cutV; rw [wayB_0]; cases b <;> rfl
theorem cutV_y {q : Int} {y z : Br} {k : Nat} (h : k < szB y) : cutV (.nd q y z) (k + 1) = .nd q (cutV y k) z := by
  unfold cutV; rw [wayB, if_pos h, cutW, if_pos rfl]
theorem cutV_z {q : Int} {y z : Br} {k : Nat} (h : ¬ k < szB y) : cutV (.nd q y z) (k + 1) = .nd q y (cutV z (k - szB y)) := by
  unfold cutV; rw [wayB, if_neg h, cutW, if_neg (by simp)]
theorem cut_wf {n : Int} : ∀ {d : Nat} {b : Br} {k : Nat}, WF n d b → k < szB b → WF n d (cutV b k) ∧ szB (cutV b k) ≤ szB b
  | d, b, 0, h, hk => by
    rw [cutV_0]
    obtain ⟨d, rfl⟩ : ∃ e, d = e + 1 := by cases h <;> exact ⟨_, rfl⟩
    exact ⟨.leaf d, h.pos⟩
  | _, _, k + 1, .leaf d, hk => by simp only [szB] at hk; omega
  | _, _, k + 1, .node (d := d) (q := q) (y := y) (z := z) hq hy hz, hk => by
    have e := (hy.node_enc q z 0).2
    by_cases h : k < szB y
    · obtain ⟨g1, g2⟩ := cut_wf hy h
      rw [cutV_y h, (g1.node_enc q z 0).2, e]
      exact ⟨.node hq g1 hz, by omega⟩
    · obtain ⟨g1, g2⟩ := cut_wf (k := k - szB y) hz (by omega)
      rw [cutV_z h, (hy.node_enc q _ 0).2, e]
      exact ⟨.node hq hy g1, by omega⟩
theorem sCut_eq {n : Int} : ∀ (m d : Nat) (b : Br) (k : Nat), WF n d b → d ≤ 7 → d < m → k < szB b → F_spec_l9Cut m n (enc b 0) (k : Int) = some (enc (cutV b k) 0)
  | 0, d, b, k, _, _, h, _ => by omega
  | m + 1, d, b, k, hw, hd, hm, hk => by
    rw [F_spec_l9Cut, F_spec_l9Cut_B]
    cases k with
    | zero => rw [ite_t (by rfl), cutV_0]; rfl
    | succ k =>
      rw [ite_f (beq_eq_false_iff_ne.2 (by omega))]
      cases hw with
      | leaf d => simp only [szB] at hk; omega
      | @node d q y z hq hy hz =>
        obtain ⟨ee, es⟩ := hy.node_enc q z 0
        have hsz := (WF.node hq hy hz).size
        have h128 : (2 : Nat) ^ (d + 1) ≤ 128 := Nat.pow_le_pow_right (by decide) hd
        have hly : (enc y (0 + 1)).length = szB y := enc_len _ _
        have hlz : (enc z (0 + 1 + szB y)).length = szB z := enc_len _ _
        have hlen : (enc (.nd q y z) 0).length = 1 + szB y + szB z := by rw [enc_len, es]
        have hx : (enc (.nd q y z) 0).getD 0 (0, 0, 0) = (q, 0 + 1, 0 + 1 + (szB y : Int)) := by rw [ee]; rfl
        have s1 : F_spec_l9Sub n (enc (.nd q y z) 0) ((1 : Nat) : Int) = some (enc y 0) := sSub_eq hy (by omega) (by omega) (by omega) (by
          rw [ee]; show List.take (szB y) (enc y (0 + 1) ++ enc z _) = _
          rw [List.take_left' hly]; rfl)
        have s2 : F_spec_l9Sub n (enc (.nd q y z) 0) ((1 + szB y : Nat) : Int) = some (enc z 0) := sSub_eq hz (by omega) (by omega) (by omega) (by
          rw [ee, Nat.add_comm 1 (szB y)]; show List.take (szB z) (List.drop (szB y) (enc y (0 + 1) ++ enc z _)) = _
          rw [List.drop_left' hly, List.take_of_length_le (by omega)]
          congr 1; omega)
        rw [chk_pos ⟨by omega, by omega⟩, hx]
        dsimp only
        rw [show (0 : Int) + 1 = ((1 : Nat) : Int) by rfl, bnd1_eq s1, show ((1 : Nat) : Int) + (szB y : Int) = ((1 + szB y : Nat) : Int) by omega, bnd1_eq s2]
        by_cases h : k < szB y
        · obtain ⟨g1, g2⟩ := cut_wf hy h
          rw [ite_t (decide_eq_true (by omega)), chk_pos (by unfold I64; omega), show ((k + 1 : Nat) : Int) - (1 : Int) = (k : Int) by omega, bnd1_eq (sCut_eq m d y k hy (by omega) (by omega) h), bnd1_eq (sJoin_eq q g1.some (by omega)), cutV_y h]
        · rw [ite_f (decide_eq_false (by omega)), chk_pos (by unfold I64; omega), show ((k + 1 : Nat) : Int) - ((1 + szB y : Nat) : Int) = ((k - szB y : Nat) : Int) by omega, bnd1_eq (sCut_eq m d z (k - szB y) hz (by omega) (by omega) (by omega)), bnd1_eq (sJoin_eq q hy.some (by have := (cut_wf (k := k - szB y) hz (by omega)).2; omega)), cutV_z h]
theorem way_wayB {n : Int} {t : List Nd} {node : Nat} : ∀ {d : Nat} {b : Br} {a : Nat}, WF n d b → (t.drop a).take (szB b) = enc b a → a ≤ node → node < a + szB b → wayN t (node : Int) d (a : Int) = wayB b (node - a)
  | d, b, a, h, he, h1, h2 => by
    have h0 : a < t.length := by
      rcases Nat.lt_or_ge a t.length with h' | h'
      · exact h'
      · rw [List.drop_of_length_le h', List.take_nil] at he
        have := congrArg List.length he
        rw [enc_len] at this
        have := h.pos
        simp at *; omega
    rcases nd_of_WF h with ⟨e, rfl, rfl⟩ | ⟨e, q, y, z, rfl, rfl, hq, hy, hz⟩
    · have hn : node = a := by simp only [szB] at h2; omega
      subst hn
      rw [way_suc, if_pos rfl, Nat.sub_self]
      rfl
    · rw [way_suc]
      by_cases hn : (a : Int) = (node : Int)
      · have hn' : a = node := by omega
        subst hn'
        rw [if_pos rfl, Nat.sub_self]
        rfl
      · rw [if_neg hn]
        obtain ⟨ne, ns⟩ := hy.node_enc q z (a : Int)
        have hl : (enc y ((a : Int) + 1)).length = szB y := enc_len _ _
        rw [ns, ne, drop_one h0, show 1 + szB y + szB z = (szB y + szB z) + 1 by omega, List.take_succ_cons] at he
        have hx : t.getD a (0, 0, 0) = (q, (a : Int) + 1, (a : Int) + 1 + szB y) := List.cons.inj he |>.1
        have hr := List.cons.inj he |>.2
        have ea : (a : Int) + 1 = ((a + 1 : Nat) : Int) := by omega
        have eb : (a : Int) + 1 + (szB y : Int) = ((a + 1 + szB y : Nat) : Int) := by omega
        have hy2 : (t.drop (a + 1)).take (szB y) = enc y ((a + 1 : Nat) : Int) := by
          have := congrArg (List.take (szB y)) hr
          rw [List.take_take, Nat.min_eq_left (by omega), List.take_left' hl] at this
          rw [this, ea]
        have hz2 : (t.drop (a + 1 + szB y)).take (szB z) = enc z ((a + 1 + szB y : Nat) : Int) := by
          have := congrArg (List.drop (szB y)) hr
          rw [List.drop_take, List.drop_drop, List.drop_left' hl, show szB y + szB z - szB y = szB z by omega] at this
          rw [this, eb]
        have hxx : ndOf t (a : Int) = (q, (a : Int) + 1, (a : Int) + 1 + szB y) := by unfold ndOf; rw [Int.toNat_natCast]; exact hx
        rw [hxx]
        dsimp only
        rw [ns] at h2
        obtain ⟨k, hk⟩ : ∃ k, node - a = k + 1 := ⟨node - a - 1, by omega⟩
        rw [hk, wayB]
        by_cases hb : (node : Int) < (a : Int) + 1 + szB y
        · rw [if_pos hb, decide_eq_true hb, if_pos (by omega), ea, way_wayB (node := node) hy hy2 (by omega) (by omega)]
          congr 2; omega
        · rw [if_neg hb, decide_eq_false hb, if_neg (by omega), eb, way_wayB (node := node) hz hz2 (by omega) (by omega)]
          congr 2; omega
/-- The cut tree's list. -/
def ctV (n : Int) (t : List Nd) (node : Int) : List Nd := if ndB n t node = true then enc (cutV (rootV n t) node.toNat) 0 else []
theorem iCutTree_eq (n : Int) (t : List Nd) (node : Int) (ht : t.length ≤ 1048576) : F_impl_CutTree n t node = some (ctV n t node, ndB n t node) := by
  unfold F_impl_CutTree ctV
  rw [bnd2_eq (iRoot_eq n t ht)]
  refine jn_is (fun J => J (!(ndB n t node))) (fun J => ?_) ?_
  · rw [bnd1_eq (iIsNode_eq n t node ht)]
    unfold ndB
    cases (rootN n t).2 <;> rfl
  · rcases Bool.eq_false_or_eq_true (ndB n t node) with h | h
    · obtain ⟨h1, h2, h3⟩ := ndB_ok h
      obtain ⟨e, s, a, rfl, k1, k2, k3, k4, k5, k6⟩ := root_way h
      obtain ⟨w1, w2, w3, w4, _⟩ := root_enc h1
      obtain ⟨q, y, z, rfl⟩ := k2.some
      have hway : wayN t (a : Int) 7 0 = wayB (rootV n t) a := by
        have := way_wayB (n := n) (t := t) (node := a) (a := 0) w1 (by rw [List.drop_zero, ← w3, List.take_length]; exact w2) (by omega) (by omega)
        rw [Nat.sub_zero] at this
        exact this
      have hc := cut_wf (k := a) w1 (by omega)
      rw [h, ite_f (show (!true) = false from rfl), if_pos rfl, chk_pos (by omega), chk_pos h1, chk_pos h2, chk_pos h3, bnd1_eq (iBelow_eq _ _ _ (by omega) k3)]
      simp only [brM]
      rw [hway]
      show (bnd1 (F_p_impl_branch_tree (cutV (rootV n t) a)) _) = _
      rw [bnd1_eq (iTree_eq (b := cutV (rootV n t) a) hc.1 (by omega) (by omega)), Int.toNat_natCast]
    · rw [h, ite_t (show (!false) = true from rfl), if_neg (by decide)]
theorem sCutTree_eq (n : Int) (t : List Nd) (node : Int) (ht : t.length ≤ 1048576) : F_spec_CutTree n t node = some (ctV n t node, ndB n t node) := by
  unfold F_spec_CutTree ctV
  rw [chk_pos (by omega)]
  rcases Bool.eq_false_or_eq_true (ndB n t node) with h | h
  · obtain ⟨h1, h2, h3⟩ := ndB_ok h
    obtain ⟨w1, w2, w3, w4, _⟩ := root_enc h1
    obtain ⟨a, rfl⟩ : ∃ a : Nat, node = a := ⟨node.toNat, by omega⟩
    have hs : F_spec_l9Cut fuel n t (a : Int) = some (enc (cutV (rootV n t) a) 0) := by
      conv => lhs; rw [w2]
      exact sCut_eq fuel 7 (rootV n t) a w1 (by omega) (by have := fuel_ge; omega) (by omega)
    rw [h, ite_f (show (!true) = false from rfl), if_pos rfl, bnd1_eq hs, Int.toNat_natCast]
  · rw [h, ite_t (show (!false) = true from rfl), if_neg (by decide)]
theorem ctV_len (n : Int) (t : List Nd) (node : Int) : (ctV n t node).length ≤ 127 := by
  unfold ctV
  rcases Bool.eq_false_or_eq_true (ndB n t node) with h | h
  · obtain ⟨h1, h2, h3⟩ := ndB_ok h
    obtain ⟨w1, w2, w3, w4, _⟩ := root_enc h1
    have := (cut_wf (k := node.toNat) w1 (by omega)).2
    rw [if_pos h, enc_len]; omega
  · rw [if_neg (by rw [h]; decide)]; exact Nat.zero_le _
theorem vAsked_eq (xs : List (Int × Bool)) (hx : xs.length ≤ 1048576) : F_laws_vAsked xs xs = some true := by
  unfold F_laws_vAsked
  rw [ite_f (bne_self_eq_false _)]
  simp only [jn]
  refine loop_up (fun m i (_ : Unit) => F_laws_vAsked_L1 xs xs (fun _ => some true) m i) ((List.length xs : Nat) : Int) (fun _ => ()) _ ?_ ?_ (by omega) fuel (by have := fuel_ge; omega)
  · intro m i i0 i1
    rw [F_laws_vAsked_L1, ite_t (decide_eq_true i1), chk_pos ⟨i0, i1⟩, chk_pos ⟨i0, i1⟩]
    simp only [nam, beq_self_eq_true, Bool.and_self, Bool.and_true, Bool.not_true, cond_false]
    rw [chk_pos (by unfold I64; omega)]
  · intro m
    rw [F_laws_vAsked_L1, ite_f (decide_eq_false (by omega))]
theorem leaf_way {n : Int} {t : List Nd} {d : Nat} {a node : Int} (h : Ok n t d a) (h1 : a ≤ node) (h2 : node < eN n t d a) (he : ¬ a = node) : leafB (ndOf t a).1 (ndOf t a).2.1 (ndOf t a).2.2 = false := by
  cases hl : leafB (ndOf t a).1 (ndOf t a).2.1 (ndOf t a).2.2 with
  | false => rfl
  | true => rw [ok_leaf h hl] at h2; omega
/-- The answers on the way to a node lead to it. -/
theorem play_way {n : Int} {t : List Nd} {node : Int} {bs : List Bool} : ∀ (d : Nat) (a : Int) (i : Nat), Ok n t d a → a ≤ node → node < eN n t d a → bs.drop i = (wayN t node d a).map (·.2) → playN t bs d a i = (node, ((i + (wayN t node d a).length : Nat) : Int)) ∧ (wayN t node d a).length < d
  | 0, a, i, h, _, _, _ => by have := ok_pos h; omega
  | d + 1, a, i, h, h1, h2, hb => by
    rw [way_suc] at hb ⊢
    by_cases he : a = node
    · rw [if_pos he] at hb ⊢
      have hl : bs.length ≤ i := by simpa using hb
      rw [play_suc, if_neg (by omega), he]
      exact ⟨rfl, by simp⟩
    · rw [if_neg he] at hb ⊢
      have hl := leaf_way h h1 h2 he
      obtain ⟨n1, n2, n3, n4, n5, n6, n7⟩ := ok_node h hl
      simp only [Nat.add_sub_cancel] at n3 n4 n5 n6
      have hi : i < bs.length := by
        rcases Nat.lt_or_ge i bs.length with hi | hi
        · exact hi
        · rw [List.drop_of_length_le hi] at hb; cases hb
      rw [List.drop_eq_getElem_cons hi, List.map_cons] at hb
      obtain ⟨hb1, hb2⟩ := List.cons.inj hb
      have hg : bs.getD i false = decide (node < (ndOf t a).2.2) := by
        rw [List.getD_eq_getElem?_getD, List.getElem?_eq_getElem hi]; exact hb1
      rw [play_suc, if_pos ⟨hi, hl⟩, hg]
      by_cases hn : node < (ndOf t a).2.2
      · rw [if_pos hn] at hb2 ⊢
        rw [decide_eq_true hn, if_pos rfl]
        rw [n2] at hb2 ⊢
        obtain ⟨g1, g2⟩ := play_way d (a + 1) (i + 1) n4 (by omega) (by omega) hb2
        refine ⟨?_, by rw [List.length_cons]; omega⟩
        rw [g1, List.length_cons]
        exact Prod.ext rfl (by show ((_ : Nat) : Int) = ((_ : Nat) : Int); congr 1; omega)
      · rw [if_neg hn] at hb2 ⊢
        rw [decide_eq_false hn, if_neg (by decide)]
        obtain ⟨g1, g2⟩ := play_way d (ndOf t a).2.2 (i + 1) n5 (by omega) (by omega) hb2
        refine ⟨?_, by rw [List.length_cons]; omega⟩
        rw [g1, List.length_cons]
        exact Prod.ext rfl (by show ((_ : Nat) : Int) = ((_ : Nat) : Int); congr 1; omega)
/-- A play ends at a node, as far down as answers were used, at a leaf if some are left. -/
theorem play_end {n : Int} {t : List Nd} {bs : List Bool} : ∀ (d : Nat) (a : Int) (i : Nat), Ok n t d a → i ≤ bs.length → a ≤ (playN t bs d a i).1 ∧ (playN t bs d a i).1 < eN n t d a ∧ ((i + (wayN t (playN t bs d a i).1 d a).length : Nat) : Int) = (playN t bs d a i).2 ∧ ((playN t bs d a i).2 = (bs.length : Int) ∨ leafB (ndOf t (playN t bs d a i).1).1 (ndOf t (playN t bs d a i).1).2.1 (ndOf t (playN t bs d a i).1).2.2 = true)
  | 0, a, i, h, _ => by have := ok_pos h; omega
  | d + 1, a, i, h, hi => by
    have he := ok_end h
    rw [play_suc]
    by_cases hc : i < bs.length ∧ leafB (ndOf t a).1 (ndOf t a).2.1 (ndOf t a).2.2 = false
    · rw [if_pos hc]
      obtain ⟨n1, n2, n3, n4, n5, n6, n7⟩ := ok_node h hc.2
      simp only [Nat.add_sub_cancel] at n3 n4 n5 n6
      have e4 := ok_end n4
      have e5 := ok_end n5
      rw [way_suc]
      cases hb : bs.getD i false with
      | true =>
        rw [if_pos rfl, n2]
        obtain ⟨g1, g2, g3, g4⟩ := play_end (bs := bs) d (a + 1) (i + 1) n4 (by omega)
        refine ⟨by omega, by omega, ?_, g4⟩
        rw [if_neg (by omega), if_pos (by omega), List.length_cons, ← g3]
        congr 1; omega
      | false =>
        rw [if_neg (by decide)]
        obtain ⟨g1, g2, g3, g4⟩ := play_end (bs := bs) d (ndOf t a).2.2 (i + 1) n5 (by omega)
        refine ⟨by omega, by omega, ?_, g4⟩
        rw [if_neg (by omega), if_neg (by omega), List.length_cons, ← g3]
        congr 1; omega
    · rw [if_neg hc]
      refine ⟨Int.le_refl _, by show a < _; omega, ?_, ?_⟩
      · show ((i + (wayN t a (d + 1) a).length : Nat) : Int) = (i : Int)
        rw [way_suc, if_pos rfl]; rfl
      · rcases Nat.lt_or_ge i bs.length with h1 | h1
        · right
          cases hl : leafB (ndOf t a).1 (ndOf t a).2.1 (ndOf t a).2.2 with
          | true => rfl
          | false => exact absurd ⟨h1, hl⟩ hc
        · left; show (i : Int) = _; omega
theorem places_count (p : Nd → Bool) (t : List Nd) : (placesN p t t.length).length = t.countP p := by
  unfold placesN
  have e : t = (List.range t.length).map fun i => t.getD i (0, 0, 0) := by
    apply List.ext_getElem
    · simp
    · intro i h1 h2
      simp [List.getD_eq_getElem?_getD, h1]
  rw [List.length_map]
  conv => rhs; rw [e, List.countP_map, List.countP_eq_length_filter]
  rfl
theorem enc_leaves {n : Int} : ∀ {d : Nat} {b : Br} (o : Int), WF n d b → 0 ≤ o → 2 * (enc b o).countP lfI = szB b + 1
  | _, _, o, .leaf d, h => rfl
  | _, _, o, .node (d := d) (q := q) (y := y) (z := z) hq hy hz, h => by
    obtain ⟨ne, ns⟩ := hy.node_enc q z o
    have h1 := enc_leaves (o + 1) hy (by omega)
    have h2 := enc_leaves (o + 1 + szB y) hz (by omega)
    have hl : lfI (q, o + 1, o + 1 + (szB y : Int)) = false := by
      unfold lfI leafB
      have : ((o + 1 : Int) == -1) = false := by rw [beq_eq_false_iff_ne]; omega
      simp [this]
    rw [ne, ns, List.countP_cons_of_neg (by rw [hl]; decide), List.countP_append]
    omega
theorem tree_leaves {n : Int} {t : List Nd} (h : (rootN n t).2 = true) : (2 : Int) * ((lvN n t).length : Nat) = (t.length : Int) + 1 := by
  obtain ⟨h1, h2, h3, h4, _⟩ := root_enc h
  have := enc_leaves 0 h1 (by omega)
  unfold lvN
  rw [if_pos h, places_count, h3]
  rw [← h2] at this
  omega
theorem rootV_of {n : Int} {d : Nat} {b : Br} (h : WF n d b) (hd : d ≤ 7) (hs : szB b ≤ 127) (h1 : 1 ≤ n) (h2 : n ≤ 12) : rootV n (enc b 0) = b := by
  have h7 : WF n 7 b := by have := h.ups (7 - d); rwa [show d + (7 - d) = 7 by omega] at this
  have hl : (enc b 0).length = szB b := enc_len _ _
  have hr := readB_of (t := enc b 0) (a := 0) h7 (by rw [List.drop_zero, List.take_of_length_le (by omega)]; rfl)
  have hr : readB n (enc b 0) 7 0 = (b, ((0 : Nat) : Int) + (szB b : Int), true) := hr
  rw [(root_enc (enc_root h hd hs h1 h2)).2.2.2.2.2.2.2.1, hr]
theorem turn_turn {n : Int} : ∀ {d : Nat} {b : Br}, WF n d b → turnB n (turnB n b) = b
  | _, _, .leaf d => rfl
  | _, _, .node (d := d) (q := q) (y := y) (z := z) hq hy hz => by
    have h1 := turn_turn hy
    have h2 := turn_turn hz
    obtain ⟨a, b, c, rfl⟩ := hy.some
    obtain ⟨a', b', c', hz'⟩ := (turnB_WF hz).1.some
    rw [turnB, hz', turnB, ← hz', h1, h2]
    have : othN n (othN n q) = q := by unfold othN; omega
    rw [this]
theorem turn_home {n : Int} {t : List Nd} (h : (rootN n t).2 = true) : (rootN n (turnV n t)).2 = true ∧ turnV n (turnV n t) = t ∧ (turnV n t).length = t.length := by
  obtain ⟨h1, h2, h3, h4, h5, h6, _⟩ := root_enc h
  obtain ⟨g1, g2⟩ := turnB_WF h1
  have e : turnV n t = enc (turnB n (rootV n t)) 0 := by unfold turnV; rw [if_pos h]
  have hr := enc_root g1 (by omega) (by omega) h5 h6
  refine ⟨by rw [e]; exact hr, ?_, by rw [e, enc_len]; omega⟩
  rw [e]
  unfold turnV
  rw [if_pos hr, rootV_of g1 (by omega) (by omega) h5 h6, turn_turn h1]
  exact h2.symm
/-- The cut tree and the part: as many nodes as the tree and one more; a leaf stands where it was cut. -/
theorem cut_sub {n : Int} : ∀ {d : Nat} {b : Br} {k : Nat}, WF n d b → k < szB b → ∃ s, belB b (wayB b k) = some s ∧ szB (cutV b k) + szB s = szB b + 1 ∧ k < szB (cutV b k) ∧ ∀ o, (enc (cutV b k) o).getD k (0, 0, 0) = (-1, -1, -1)
  | d, b, 0, h, hk => by
    rw [cutV_0, wayB_0]
    refine ⟨b, by cases b <;> rfl, ?_, ?_, fun o => rfl⟩
    · show 1 + szB b = _; omega
    · show 0 < 1; omega
  | _, _, k + 1, .leaf d, hk => by simp only [szB] at hk; omega
  | _, _, k + 1, .node (d := d) (q := q) (y := y) (z := z) hq hy hz, hk => by
    have e := (hy.node_enc q z 0).2
    by_cases h : k < szB y
    · obtain ⟨s, g1, g2, g3, g4⟩ := cut_sub hy h
      have hw := (cut_wf hy h).1
      refine ⟨s, ?_, ?_, ?_, fun o => ?_⟩
      · rw [wayB, if_pos h, belB, if_pos rfl]; exact g1
      · rw [cutV_y h, (hw.node_enc q z 0).2]; omega
      · rw [cutV_y h, (hw.node_enc q z 0).2]; omega
      · have hl : (enc (cutV y k) (o + 1)).length = szB (cutV y k) := enc_len _ _
        rw [cutV_y h, (hw.node_enc q z o).1, List.getD_cons_succ, List.getD_eq_getElem?_getD, List.getElem?_append_left (by omega), ← List.getD_eq_getElem?_getD, g4]
    · obtain ⟨s, g1, g2, g3, g4⟩ := cut_sub (k := k - szB y) hz (by omega)
      have hl (o : Int) : (enc y (o + 1)).length = szB y := enc_len _ _
      refine ⟨s, ?_, ?_, ?_, fun o => ?_⟩
      · rw [wayB, if_neg h, belB, if_neg (show ¬ ((false : Bool) = true) by decide)]; exact g1
      · rw [cutV_z h, (hy.node_enc q _ 0).2]; omega
      · rw [cutV_z h, (hy.node_enc q _ 0).2]; omega
      · rw [cutV_z h, (hy.node_enc q _ o).1, List.getD_cons_succ, List.getD_eq_getElem?_getD, List.getElem?_append_right (by rw [hl]; omega), hl, ← List.getD_eq_getElem?_getD, g4]
theorem cut_facts {n : Int} {t : List Nd} {node : Int} (h : ndB n t node = true) : (rootN n (ctV n t node)).2 = true ∧ (rootN n (subV n t node)).2 = true ∧ (ctV n t node).length + (subV n t node).length = t.length + 1 ∧ node < ((ctV n t node).length : Int) ∧ ((ctV n t node).getD node.toNat (0, 0, 0)) = (-1, -1, -1) := by
  obtain ⟨h1, h2, h3⟩ := ndB_ok h
  obtain ⟨w1, w2, w3, w4, w5, w6, _⟩ := root_enc h1
  obtain ⟨e, s, a, rfl, k1, k2, k3, k4, k5, k6⟩ := root_way h
  have hway : wayN t (a : Int) 7 0 = wayB (rootV n t) a := by
    have := way_wayB (n := n) (t := t) (node := a) (a := 0) w1 (by rw [List.drop_zero, ← w3, List.take_length]; exact w2) (by omega) (by omega)
    rw [Nat.sub_zero] at this
    exact this
  obtain ⟨s', c1, c2, c3, c4⟩ := cut_sub (k := a) w1 (by omega)
  rw [hway, c1] at k3
  obtain rfl : s' = s := Option.some.inj k3
  have hc := cut_wf (k := a) w1 (by omega)
  have e1 : ctV n t (a : Int) = enc (cutV (rootV n t) a) 0 := by unfold ctV; rw [if_pos h, Int.toNat_natCast]
  have e2 : subV n t (a : Int) = enc s' 0 := by unfold subV; rw [if_pos h, hway, c1]; rfl
  rw [e1, e2, enc_len, enc_len, Int.toNat_natCast]
  exact ⟨enc_root hc.1 (by omega) (by omega) w5 w6, enc_root k2 (by omega) (by omega) w5 w6, by omega, by omega, c4 0⟩
theorem drawWay_ok {bs : List Int} (hy : okY bs) : ∃ n t v, F_spec_DrawWayTo bs = some (n, t, v) ∧ t.length ≤ 200 := by
  unfold F_spec_DrawWayTo F_spec_DrawDepthOf
  obtain ⟨n, p1, s1, e1, g0, g1, g2, g3⟩ := many_ok (s := 0) (p := 0) hy (by omega) (by omega)
  obtain ⟨t, p2, s2, e2, k0, k1, k2⟩ := tree9_ok (s := s1) (p := p1) hy (by omega) (by omega) g2 g3
  obtain ⟨v, p3, s3, e3, f0, f1⟩ := node9_ok (s := s2) (p := p2) (t := t) hy (by omega) (by omega)
  rw [bnd4_eq e1, bnd4_eq e2, bnd4_eq e3]
  exact ⟨_, _, _, rfl, k0⟩
theorem drawPlay_ok {bs : List Int} (hy : okY bs) : ∃ n t as', F_spec_DrawPlayTree bs = some (n, t, as') ∧ t.length ≤ 200 ∧ as'.length ≤ 200 := by
  unfold F_spec_DrawPlayTree
  obtain ⟨n, p1, s1, e1, g0, g1, g2, g3⟩ := many_ok (s := 0) (p := 0) hy (by omega) (by omega)
  obtain ⟨t, p2, s2, e2, k0, k1, k2⟩ := tree9_ok (s := s1) (p := p1) hy (by omega) (by omega) g2 g3
  obtain ⟨v, p3, s3, e3, f0, f1, f2, f3⟩ := pick_ok (s := s2) (n := 7) hy (p := p2) (by omega) (by omega)
  have f3 := f3 (by omega)
  rw [bnd4_eq e1, bnd4_eq e2]
  simp only [jn]
  rw [bnd4_eq e3]
  let Q : Option (Int × List Nd × List Bool) → Prop := fun o => ∃ n t as', o = some (n, t, as') ∧ t.length ≤ 200 ∧ as'.length ≤ 200
  refine loop_m (fun m (z : Int × Int × List Bool × Int) => F_spec_DrawPlayTree_L1 (fun o18 => some (n, t, o18)) m bs z.1 z.2.1 z.2.2.1 z.2.2.2) (fun z => 0 ≤ z.2.2.2 ∧ 0 ≤ z.1 ∧ z.1 + 2 * z.2.2.2 ≤ 100000000 ∧ (z.2.2.1.length : Int) + z.2.2.2 ≤ 7) (fun z => z.2.2.2.toNat) Q ?_ fuel (p3, s3, [], v) ⟨by simp only; omega, by simp only; omega, by simp only; omega, by simp only [List.length_nil]; omega⟩ (by have := fuel_ge; simp only; omega)
  rintro m ⟨pp, ss, xs, i⟩ ⟨i0, q0, q1, ql⟩
  simp only at i0 q0 q1 ql ⊢
  rw [F_spec_DrawPlayTree_L1]
  by_cases hi : i > 0
  · obtain ⟨b, p4, s4, e4, w0, w1⟩ := one_ok (s := ss) (n := 2) hy (p := pp) (by omega) (by omega)
    rw [ite_t (decide_eq_true hi), bnd4_eq e4, chk_pos ⟨by omega, by simp only [maxLen]; omega⟩, chk_pos (by unfold I64; omega)]
    exact .inl ⟨(p4, s4, xs ++ [b], i - 1), ⟨by simp only; omega, by simp only; omega, by simp only; omega, by simp only [List.length_append, List.length_cons, List.length_nil]; omega⟩, by simp only; omega, rfl⟩
  · rw [ite_f (decide_eq_false hi)]
    exact .inr ⟨_, _, _, rfl, k0, by omega⟩
theorem steps_loop {n : Int} {t : List Nd} {node : Int} (hl : (wyN n t node).length ≤ 7) (J : List Bool → Option Bool) : F_laws_FnTrees_L1 n t node J fuel [] 0 = J ((wyN n t node).map (·.2)) := by
  refine loop_up (fun m i s => F_laws_FnTrees_L1 n t node J m s i) ((wyN n t node).length : Int) (fun i => ((wyN n t node).take i.toNat).map (·.2)) _ ?_ ?_ (by omega) fuel (by have := fuel_ge; omega)
  · intro m i i0 i1
    try simp only
    have hi : i.toNat < (wyN n t node).length := by omega
    have ei : (i + 1).toNat = i.toNat + 1 := by omega
    have hl2 : (((wyN n t node).take i.toNat).map (·.2)).length ≤ 7 := by rw [List.length_map, List.length_take]; omega
    rw [F_laws_FnTrees_L1, ite_t (decide_eq_true i1), chk_pos ⟨i0, i1⟩, chk_pos ⟨by omega, by simp only [maxLen]; omega⟩, chk_pos (by unfold I64; omega), ei, List.take_succ_eq_append_getElem hi, List.map_append, List.getD_eq_getElem?_getD, List.getElem?_eq_getElem hi]
    rfl
  · intro m
    try simp only
    rw [F_laws_FnTrees_L1, ite_f (decide_eq_false (by omega)), Int.toNat_natCast, List.take_length]
theorem iIsTree_eq (n : Int) (t : List Nd) (ht : t.length ≤ 1048576) : F_impl_IsTree n t = some (rootN n t).2 := by
  unfold F_impl_IsTree
  rw [bnd2_eq (iRoot_eq n t ht)]
theorem law_trees {bs : List Int} (hy : okY bs) (hb : bs.length ≤ 9223372036854775807) : F_laws_FnTrees bs = some true := by
  unfold F_laws_FnTrees
  rw [chk_pos hb]
  rcases Bool.eq_false_or_eq_true (decide (((List.length bs : Nat) : Int) > (65536 : Int))) with hB | hB
  · rw [ite_t hB]
  rw [ite_f hB]
  have hB := of_decide_eq_false hB
  obtain ⟨n, t, node, e1, l1⟩ := drawWay_ok hy
  obtain ⟨x, u, as', e2, l2, l3⟩ := drawPlay_ok (okY_cut hy (k := 1) (by omega) (by omega))
  have c1 := ctV_len n t node
  have c2 := subV_len n t node
  have c3 := turnV_len n t
  have c4 := lvN_len n t
  have c5 := wyN_len n t node
  rw [bnd3_eq e1, chk_pos (by omega), bnd2_eq (iCutTree_eq n t node (by omega)), bnd2_eq (sCutTree_eq n t node (by omega)), bnd2_eq (iSubTree_eq n t node (by omega)), bnd2_eq (sSubTree_eq n t node (by omega)), bnd2_eq (iTurnTree_eq n t (by omega)), bnd2_eq (sTurnTree_eq n t (by omega)), chk_pos (by omega), bnd3_eq e2, chk_pos (by omega), chk_pos (by omega)]
  refine jn_is (fun J => J false) (fun J => ?_) ?_
  · rw [bnd1_eq (vAsked_eq _ (by omega)), ite_f (show (!true) = false from rfl), chk_pos (by omega)]
    simp only [beq_self_eq_true, Bool.not_true, cond_false, bnd1_eq (vTree_eq _ (show (ctV n t node).length ≤ 1048576 by omega)), bnd1_eq (vTree_eq _ (show (subV n t node).length ≤ 1048576 by omega)), bnd1_eq (vTree_eq _ (show (turnV n t).length ≤ 1048576 by omega)), bnd1_eq (iIsTree_eq n t (by omega))]
    rcases Bool.eq_false_or_eq_true (ndB n t node) with h | h
    · rw [h, (ndB_ok h).1]; rfl
    · rw [h]; rfl
  rw [ite_f rfl]
  refine jn_is (fun J => J ()) (fun J => ?_) ?_
  · rcases Bool.eq_false_or_eq_true (rootN n t).2 with h | h
    · obtain ⟨g1, g2, g3⟩ := turn_home h
      have g4 := tree_leaves h
      rw [ite_t h, bnd2_eq (iTurnTree_eq n (turnV n t) (by omega)), g1, g2]
      refine jn_is (fun K => K false) (fun K => ?_) (ite_f rfl _ _)
      rw [ite_f (show (!true) = false from rfl), bnd1_eq (vTree_eq t (by omega)), ite_f (show (!true) = false from rfl), chk_pos (by unfold I64; omega)]
      simp only [nam]
      rw [chk_pos (by unfold I64; omega), g4, g3, ite_f (bne_self_eq_false _), bne_self_eq_false]
    · rw [ite_f h]
  refine jn_is (fun J => J ()) (fun J => ?_) ?_
  · rcases Bool.eq_false_or_eq_true (ndB n t node) with h | h
    · obtain ⟨h1, h2, h3⟩ := ndB_ok h
      obtain ⟨g1, g2, g3, g4, g5⟩ := cut_facts h
      have hr := root_ok h1
      have hwy : wyN n t node = wayN t node 7 0 := by unfold wyN; rw [if_pos h]
      have hdp : dpN n t node = ((wyN n t node).length : Int) := by unfold dpN; rw [if_pos h, hwy]
      obtain ⟨q1, q2⟩ := play_way (bs := (wyN n t node).map (·.2)) 7 0 0 hr.1 h2 (by rw [hr.2.1]; exact h3) (by rw [List.drop_zero, hwy])
      rw [← hwy, Nat.zero_add] at q1
      rw [← hwy] at q2
      have hpl : plN n t ((wyN n t node).map (·.2)) = (node, ((wyN n t node).length : Int)) := by unfold plN; rw [if_pos h1, q1]
      rw [ite_t h]
      refine jn_is (fun K => K ((wyN n t node).map (·.2))) (fun K => steps_loop c5 K) ?_
      rw [chk_pos (by rw [List.length_map]; omega), hpl, hdp]
      refine jn_is (fun K => K false) (fun K => ?_) ?_
      · rw [h1, decide_eq_false (show ¬ (((wyN n t node).length : Int) > 6) by omega)]
        simp only [Bool.not_true, cond_false, bne_self_eq_false]
      rw [ite_f rfl]
      refine jn_is (fun K => K false) (fun K => ?_) (ite_f rfl _ _)
      rw [bnd1_eq (iIsTree_eq n _ (by omega)), g1, ite_f (show (!true) = false from rfl), bnd1_eq (iIsTree_eq n _ (by omega)), g2, ite_f (show (!true) = false from rfl), chk_pos (by unfold I64; omega)]
      simp only [nam]
      rw [chk_pos (by unfold I64; omega), show ((ctV n t node).length : Int) + ((subV n t node).length : Int) = (t.length : Int) + 1 by omega, ite_f (bne_self_eq_false _), chk_pos ⟨h2, g4⟩, g5]
      rfl
    · rw [ite_f h]
  rcases Bool.eq_false_or_eq_true (rootN x u).2 with h | h
  · have hr := root_ok h
    obtain ⟨q1, q2, q3, q4⟩ := play_end (bs := as') 7 0 0 hr.1 (Nat.zero_le _)
    have hpl : plN x u as' = playN u as' 7 0 0 := by unfold plN; rw [if_pos h]
    rw [hr.2.1] at q2
    have hnd : ndB x u (playN u as' 7 0 0).1 = true := by unfold ndB; rw [h]; simp; omega
    have hdp : dpN x u (playN u as' 7 0 0).1 = (playN u as' 7 0 0).2 := by
      unfold dpN; rw [if_pos hnd, ← q3, Nat.zero_add]
    rw [ite_t h, hpl, ite_t hnd, hdp, ite_t (beq_self_eq_true _)]
    rcases Bool.eq_false_or_eq_true ((playN u as' 7 0 0).2 == ((List.length as' : Nat) : Int)) with h5 | h5
    · rw [ite_t h5]
    · rw [ite_f h5, chk_pos ⟨q1, q2⟩]
      have h6 := ne_of_beq_false h5
      rcases q4 with q4 | q4
      · exact absurd q4 h6
      · have := (leaf_eq q4).2.1
        unfold ndOf at this
        rw [this]; rfl
  · rw [ite_f h]
end Go.Tl
