/-
  Plain laws of the printed functions: no program here.
-/
import Derived.Test.YtpmifocfmoekdaaAuTGF
namespace Go.Tl
set_option linter.unusedVariables false
set_option linter.unusedSimpArgs false
/-- A loop, told by what its rounds keep. -/
theorem loop_m {σ R : Type} (L : Nat → σ → Option R) (I : σ → Prop) (μ : σ → Nat) (Q : Option R → Prop)
    (step : ∀ n s, I s → (∃ s', I s' ∧ μ s' < μ s ∧ L (n + 1) s = L n s') ∨ Q (L (n + 1) s)) : ∀ n s, I s → μ s < n → Q (L n s) := by
  intro n
  induction n with
  | zero => intro s _ h; omega
  | succ n ih =>
    intro s hI hm
    rcases step n s hI with ⟨s', h1, h2, h3⟩ | h
    · rw [h3]; exact ih s' h1 (by omega)
    · exact h
/-- A loop that counts up to N; st is its state by the count. -/
theorem loop_up {σ R : Type} (L : Nat → Int → σ → Option R) (N : Int) (st : Int → σ) (r : Option R)
    (step : ∀ n i, 0 ≤ i → i < N → L (n + 1) i (st i) = L n (i + 1) (st (i + 1))) (fin : ∀ n, L (n + 1) N (st N) = r) (h0 : 0 ≤ N) (n : Nat) (hn : N.toNat < n) : L n 0 (st 0) = r := by
  have key : ∀ (k : Nat) (n : Nat) (i : Int), 0 ≤ i → i + k = N → k < n → L n i (st i) = r := by
    intro k
    induction k with
    | zero => intro n i h1 h2 h3; obtain ⟨n, rfl⟩ : ∃ m, n = m + 1 := ⟨n - 1, by omega⟩; have e : i = N := by omega
              subst e; exact fin n
    | succ k ih =>
      intro n i h1 h2 h3
      obtain ⟨n, rfl⟩ : ∃ m, n = m + 1 := ⟨n - 1, by omega⟩
      rw [step n i h1 (by omega)]
      exact ih n (i + 1) (by omega) (by omega) (by omega)
  exact key N.toNat n 0 (Int.le_refl _) (by omega) hn
/-- A loop that counts up to N and may end early: with what p tells. -/
theorem loop_all {R : Type} (L : Nat → Int → Option R) (N : Int) (p : Int → Bool) (no yes : Option R)
    (step : ∀ n i, 0 ≤ i → i < N → p i = true → L (n + 1) i = L n (i + 1)) (stop : ∀ n i, 0 ≤ i → i < N → p i = false → L (n + 1) i = no) (fin : ∀ n, L (n + 1) N = yes) (h0 : 0 ≤ N) (n : Nat) (hn : N.toNat < n) :
    (L n 0 = yes ∧ ∀ i, 0 ≤ i → i < N → p i = true) ∨ (L n 0 = no ∧ ∃ i, 0 ≤ i ∧ i < N ∧ p i = false ∧ ∀ j, 0 ≤ j → j < i → p j = true) := by
  have key : ∀ (k : Nat) (n : Nat) (i : Int), 0 ≤ i → i + k = N → k < n → (∀ j, 0 ≤ j → j < i → p j = true) → (L n i = yes ∧ ∀ i, 0 ≤ i → i < N → p i = true) ∨ (L n i = no ∧ ∃ i, 0 ≤ i ∧ i < N ∧ p i = false ∧ ∀ j, 0 ≤ j → j < i → p j = true) := by
    intro k
    induction k with
    | zero => intro n i h1 h2 h3 h4; obtain ⟨n, rfl⟩ : ∃ m, n = m + 1 := ⟨n - 1, by omega⟩; have e : i = N := by omega
              subst e; exact .inl ⟨fin n, h4⟩
    | succ k ih =>
      intro n i h1 h2 h3 h4
      obtain ⟨n, rfl⟩ : ∃ m, n = m + 1 := ⟨n - 1, by omega⟩
      cases hp : p i with
      | false => exact .inr ⟨stop n i h1 (by omega) hp, i, h1, by omega, hp, h4⟩
      | true =>
        rw [step n i h1 (by omega) hp]
        refine ih n (i + 1) (by omega) (by omega) (by omega) fun j k1 k2 => ?_
        by_cases e : j = i
        · rw [e]; exact hp
        · exact h4 j k1 (by omega)
  exact key N.toNat n 0 (Int.le_refl _) (by omega) hn fun j h1 h2 => by omega
theorem ite_t {α : Type} {c : Bool} (h : c = true) (x y : α) : (bif c then x else y) = x := by rw [h]; rfl
theorem ite_f {α : Type} {c : Bool} (h : c = false) (x y : α) : (bif c then x else y) = y := by rw [h]; rfl
theorem ite_c {α : Type} {P : α → Prop} {c : Bool} {x y : α} (h1 : c = true → P x) (h2 : c = false → P y) : P (bif c then x else y) := by
  cases c
  · exact h2 rfl
  · exact h1 rfl
theorem getD_in {xs : List Int} {i : Nat} {P : Int → Prop} (h : i < xs.length) (hP : ∀ x ∈ xs, P x) : P (xs.getD i 0) := by
  rw [List.getD_eq_getElem?_getD, List.getElem?_eq_getElem h]; exact hP _ (List.getElem_mem h)
theorem maxN_in {a b : Int} : a ≤ maxN a b ∧ b ≤ maxN a b ∧ (maxN a b = a ∨ maxN a b = b) := by unfold maxN; split <;> omega
theorem minN_in {a b : Int} : minN a b ≤ a ∧ minN a b ≤ b ∧ (minN a b = a ∨ minN a b = b) := by unfold minN; split <;> omega
theorem next_ok {bs : List Int} {p s : Int} (hy : okY bs) (h0 : 0 ≤ p) (h1 : p ≤ 1000000000000) : ∃ v s', F_p_spec_l1Cur_next bs p s = some (v, bs, p + 1, s') ∧ 0 ≤ v ∧ v ≤ 255 := by
  unfold F_p_spec_l1Cur_next
  have hb := hy p.toNat
  have fin : ∀ v3 : Int, 0 ≤ v3 → v3 ≤ 255 → ∃ v s', (chk (I64 (p + (1 : Int))) <| nam (IntKind.wrap .u64 (s * (6364136223846793005 : Int))) fun n37 => nam (IntKind.wrap .u64 (n37 + (IntKind.wrap .u64 v3))) fun n40 => (bif (decide ((p + (1 : Int)) ≤ ((List.length bs : Nat) : Int))) then some (v3, bs, (p + (1 : Int)), (IntKind.wrap .u64 (n40 + (462197 : Int)))) else nam (bits .and .u64 ((IntKind.wrap .u64 (n40 + (462197 : Int))) / 2 ^ Int.toNat (40 : Int)) (255 : Int)) fun n60 => chk (I64 n60) <| some (n60, bs, (p + (1 : Int)), (IntKind.wrap .u64 (n40 + (462197 : Int)))))) = some (v, bs, p + 1, s') ∧ 0 ≤ v ∧ v ≤ 255 := by
    intro v3 k0 k1
    rw [chk_pos (by unfold I64; omega)]
    simp only [nam]
    refine ite_c (P := fun o => ∃ v s', o = some (v, bs, p + 1, s') ∧ 0 ≤ v ∧ v ≤ 255) (fun _ => ?_) (fun _ => ?_)
    · exact ⟨_, _, rfl, k0, k1⟩
    · have h2 := and255 ((IntKind.wrap .u64 ((IntKind.wrap .u64 ((IntKind.wrap .u64 (s * (6364136223846793005 : Int))) + (IntKind.wrap .u64 v3))) + (462197 : Int))) / 2 ^ Int.toNat (40 : Int))
      rw [chk_pos (by unfold I64; omega)]
      exact ⟨_, _, rfl, h2.1, h2.2⟩
  simp only [jn]
  refine ite_c (P := fun o => ∃ v s', o = some (v, bs, p + 1, s') ∧ 0 ≤ v ∧ v ≤ 255) (fun h => ?_) (fun _ => ?_)
  · have h := of_decide_eq_true h
    rw [chk_pos (by omega), chk_pos (by unfold I64; omega)]
    exact fin _ hb.1 hb.2
  · exact fin 0 (by omega) (by omega)
theorem tmod_in {a n : Int} (h0 : 0 ≤ a) (h1 : 0 < n) : 0 ≤ Int.tmod a n ∧ Int.tmod a n < n := ⟨Int.tmod_nonneg _ h0, Int.tmod_lt_of_pos _ h1⟩
theorem pick_ok {bs : List Int} {p s n : Int} (hy : okY bs) (h0 : 0 ≤ p) (h1 : p ≤ 900000000000) : ∃ v p' s', F_p_spec_l1Cur_pick bs p s n = some (v, bs, p', s') ∧ p ≤ p' ∧ p' ≤ p + 2 ∧ 0 ≤ v ∧ (1 ≤ n → v < n) := by
  unfold F_p_spec_l1Cur_pick
  rcases Bool.eq_false_or_eq_true (decide (n ≤ (1 : Int))) with h | h
  · have h := of_decide_eq_true h
    rw [ite_t (decide_eq_true h)]
    exact ⟨0, p, s, rfl, by omega, by omega, by omega, fun _ => by omega⟩
  · rw [ite_f h]
    have h := of_decide_eq_false h
    obtain ⟨v, s', e, g0, g1⟩ := next_ok (s := s) hy h0 (by omega)
    rw [bnd4_eq e]
    simp only [jn]
    rcases Bool.eq_false_or_eq_true (decide (n > (200 : Int))) with h4 | h4
    · rw [ite_t h4]
      obtain ⟨v2, s2, e2, k0, k1⟩ := next_ok (s := s') hy (p := p + 1) (by omega) (by omega)
      rw [chk_pos (by unfold I64; omega), bnd4_eq e2, chk_pos (by unfold I64; omega), chk_pos (by omega)]
      have := tmod_in (a := v * 256 + v2) (n := n) (by omega) (by omega)
      exact ⟨_, _, _, rfl, by omega, by omega, this.1, fun _ => this.2⟩
    · rw [ite_f h4]
      rw [chk_pos (by omega)]
      have := tmod_in (a := v) (n := n) (by omega) (by omega)
      exact ⟨_, _, _, rfl, by omega, by omega, this.1, fun _ => this.2⟩
theorem one_ok {bs : List Int} {p s n : Int} (hy : okY bs) (h0 : 0 ≤ p) (h1 : p ≤ 900000000000) : ∃ b p' s', F_p_spec_l1Cur_one bs p s n = some (b, bs, p', s') ∧ p ≤ p' ∧ p' ≤ p + 2 := by
  unfold F_p_spec_l1Cur_one
  obtain ⟨v, p', s', e, g0, g1, g2, g3⟩ := pick_ok (s := s) (n := n) hy h0 h1
  rw [bnd4_eq e]
  exact ⟨_, _, _, rfl, g0, g1⟩
theorem among_ok {bs : List Int} {p s : Int} {xs : List Int} (hy : okY bs) (h0 : 0 ≤ p) (h1 : p ≤ 900000000000) (hx : 0 < xs.length) : ∃ v p' s', F_p_spec_l1Cur_among bs p s xs = some (v, bs, p', s') ∧ p ≤ p' ∧ p' ≤ p + 2 ∧ v ∈ xs := by
  unfold F_p_spec_l1Cur_among
  obtain ⟨v, p', s', e, g0, g1, g2, g3⟩ := pick_ok (s := s) (n := ((List.length xs : Nat) : Int)) hy h0 h1
  rw [bnd4_eq e, chk_pos ⟨g2, g3 (by omega)⟩]
  refine ⟨_, _, _, rfl, g0, g1, ?_⟩
  have := g3 (by omega)
  exact getD_in (P := fun x => x ∈ xs) (by omega) fun x hx => hx
theorem many_ok {bs : List Int} {p s : Int} (hy : okY bs) (h0 : 0 ≤ p) (h1 : p ≤ 900000000000) : ∃ v p' s', F_p_spec_l1Cur_many bs p s = some (v, bs, p', s') ∧ p ≤ p' ∧ p' ≤ p + 2 ∧ 0 ≤ v ∧ v ≤ 13 := by
  unfold F_p_spec_l1Cur_many
  obtain ⟨v, p', s', e, g0, g1, g2⟩ := among_ok (s := s) (xs := [(4 : Int), (6 : Int), (8 : Int), (3 : Int), (5 : Int), (2 : Int), (7 : Int), (12 : Int), (1 : Int), (0 : Int), (13 : Int), (4 : Int), (6 : Int), (8 : Int), (3 : Int), (5 : Int)]) hy h0 h1 (by decide)
  rw [bnd4_eq e]
  refine ⟨_, _, _, rfl, g0, g1, ?_⟩
  simp only [List.mem_cons, List.not_mem_nil, or_false] at g2
  omega
theorem lies_ok {bs : List Int} {p s : Int} (hy : okY bs) (h0 : 0 ≤ p) (h1 : p ≤ 900000000000) : ∃ v p' s', F_p_spec_l1Cur_lies bs p s = some (v, bs, p', s') ∧ p ≤ p' ∧ p' ≤ p + 2 ∧ -1 ≤ v ∧ v ≤ 3 := by
  unfold F_p_spec_l1Cur_lies
  obtain ⟨v, p', s', e, g0, g1, g2⟩ := among_ok (s := s) (xs := [(1 : Int), (1 : Int), (2 : Int), (0 : Int), (1 : Int), (2 : Int), (1 : Int), (3 : Int), (-1 : Int), (1 : Int), (2 : Int), (0 : Int)]) hy h0 h1 (by decide)
  rw [bnd4_eq e]
  refine ⟨_, _, _, rfl, g0, g1, ?_⟩
  simp only [List.mem_cons, List.not_mem_nil, or_false] at g2
  omega
theorem pow13 {n : Int} (h0 : 0 ≤ n) (h1 : n ≤ 13) : 1 ≤ (2 : Int) ^ n.toNat ∧ (2 : Int) ^ n.toNat ≤ 8192 := by
  obtain ⟨k, rfl⟩ : ∃ k : Nat, n = k := ⟨n.toNat, by omega⟩
  have : k ≤ 13 := by omega
  simp only [Int.toNat_natCast]
  match k, this with
  | 0, _ | 1, _ | 2, _ | 3, _ | 4, _ | 5, _ | 6, _ | 7, _ | 8, _ | 9, _ | 10, _ | 11, _ | 12, _ | 13, _ => decide
theorem question_ok {bs : List Int} {p s n : Int} (hy : okY bs) (h0 : 0 ≤ p) (h1 : p ≤ 800000000000) : ∃ v p' s', F_p_spec_l1Cur_question bs p s n = some (v, bs, p', s') ∧ p ≤ p' ∧ p' ≤ p + 4 ∧ -1 ≤ v ∧ v ≤ 4611686018427387904 := by
  unfold F_p_spec_l1Cur_question
  obtain ⟨v, p', s', e, g0, g1⟩ := one_ok (s := s) (n := 24) hy h0 (by omega)
  rw [bnd4_eq e]
  have a1 := minN_in (a := n) (b := 13)
  have a2 := maxN_in (a := 0) (b := minN n 13)
  have a3 := minN_in (a := n) (b := 12)
  have a4 := maxN_in (a := 0) (b := minN n 12)
  have b1 := pow13 (n := maxN 0 (minN n 13)) (by omega) (by omega)
  have b2 := pow13 (n := maxN 0 (minN n 12)) (by omega) (by omega)
  rcases Bool.eq_false_or_eq_true v with h4 | h4
  · rw [ite_t h4]
    rw [chk_pos ⟨by omega, by omega, by unfold I64; omega⟩]
    obtain ⟨v2, p2, s2, e2, k0, k1, k2⟩ := among_ok (s := s') (xs := [(-1 : Int), ((1 : Int) * 2 ^ Int.toNat (maxN (0 : Int) (minN n (13 : Int)))), (4611686018427387904 : Int)]) hy (p := p') (by omega) (by omega) (by simp)
    rw [bnd4_eq e2]
    refine ⟨_, _, _, rfl, by omega, by omega, ?_⟩
    simp only [List.mem_cons, List.not_mem_nil, or_false] at k2
    omega
  · rw [ite_f h4]
    rw [chk_pos ⟨by omega, by omega, by unfold I64; omega⟩]
    obtain ⟨v2, p2, s2, e2, k0, k1, k2, k3⟩ := pick_ok (s := s') (n := (1 : Int) * 2 ^ Int.toNat (maxN (0 : Int) (minN n (12 : Int)))) hy (p := p') (by omega) (by omega)
    rw [bnd4_eq e2]
    have := k3 (by omega)
    exact ⟨_, _, _, rfl, by omega, by omega, by omega, by omega⟩
theorem jn_is {γ δ : Type} {f : γ} {g : γ → Option δ} {r : Option δ} (k : γ → Option δ) (h : ∀ J, g J = k J) (h2 : k f = r) : jn f g = r := by
  unfold jn; rw [h f]; exact h2
/-- The numbers below k that p tells. -/
def fl (p : Nat → Bool) (k : Nat) : List Int := ((List.range k).filter p).map fun (i : Nat) => (i : Int)
theorem fl_yes {p : Nat → Bool} {k : Nat} (h : p k = true) : fl p (k + 1) = fl p k ++ [(k : Int)] := by
  unfold fl; rw [List.range_succ, List.filter_append, List.map_append, List.filter_cons, if_pos h]; rfl
theorem fl_no {p : Nat → Bool} {k : Nat} (h : p k = false) : fl p (k + 1) = fl p k := by
  unfold fl; rw [List.range_succ, List.filter_append, List.map_append, List.filter_cons, if_neg (by rw [h]; simp)]; simp
theorem fl_len (p : Nat → Bool) (k : Nat) : (fl p k).length ≤ k := by
  unfold fl; rw [List.length_map]; exact Nat.le_trans (List.length_filter_le _ _) (by simp)
theorem mem_fl {p : Nat → Bool} {k : Nat} {x : Int} : x ∈ fl p k ↔ ∃ i : Nat, i < k ∧ p i = true ∧ x = (i : Int) := by
  unfold fl
  simp only [List.mem_map, List.mem_filter, List.mem_range]
  constructor
  · rintro ⟨i, ⟨h1, h2⟩, rfl⟩; exact ⟨i, h1, h2, rfl⟩
  · rintro ⟨i, h1, h2, rfl⟩; exact ⟨i, ⟨h1, h2⟩, rfl⟩
theorem fl_getD {p : Nat → Bool} {k i : Nat} (h : i < (fl p k).length) : ∃ j : Nat, j < k ∧ p j = true ∧ (fl p k).getD i 0 = (j : Int) := by
  have : (fl p k).getD i 0 ∈ fl p k := getD_in (P := fun x => x ∈ fl p k) h fun x hx => hx
  obtain ⟨j, h1, h2, h3⟩ := mem_fl.1 this
  exact ⟨j, h1, h2, h3⟩
theorem openN_fl (xs : List Int) : openN xs = fl (fun i => decide (xs.getD i 0 ≥ 0)) xs.length := rfl
theorem int_nat {i : Int} (h : 0 ≤ i) : ∃ k : Nat, i = (k : Int) := ⟨i.toNat, by omega⟩
theorem bits_nat_or {a b : Nat} (ha : a < 9223372036854775808) (hb : b < 9223372036854775808) : bits .or .i64 (a : Int) (b : Int) = ((a ||| b : Nat) : Int) := by
  have hc : a ||| b < 2 ^ 63 := Nat.or_lt_two_pow (by omega) (by omega)
  unfold bits
  rw [IntKind.wrap_i64]
  show (((BitVec.ofInt 64 (a : Int) ||| BitVec.ofInt 64 (b : Int)).toNat : Int) + 9223372036854775808) % 18446744073709551616 - 9223372036854775808 = _
  rw [BitVec.toNat_or, BitVec.toNat_ofInt, BitVec.toNat_ofInt]
  have e1 : ((a : Int) % ((2 ^ 64 : Nat) : Int)).toNat = a := by omega
  have e2 : ((b : Int) % ((2 ^ 64 : Nat) : Int)).toNat = b := by omega
  rw [e1, e2]
  omega
theorem bits_nat_and {a b : Nat} (ha : a < 9223372036854775808) (hb : b < 9223372036854775808) : bits .and .i64 (a : Int) (b : Int) = ((a &&& b : Nat) : Int) := by
  have hc : a &&& b < 2 ^ 63 := Nat.and_lt_two_pow _ (by omega)
  unfold bits
  rw [IntKind.wrap_i64]
  show (((BitVec.ofInt 64 (a : Int) &&& BitVec.ofInt 64 (b : Int)).toNat : Int) + 9223372036854775808) % 18446744073709551616 - 9223372036854775808 = _
  rw [BitVec.toNat_and, BitVec.toNat_ofInt, BitVec.toNat_ofInt]
  have e1 : ((a : Int) % ((2 ^ 64 : Nat) : Int)).toNat = a := by omega
  have e2 : ((b : Int) % ((2 ^ 64 : Nat) : Int)).toNat = b := by omega
  rw [e1, e2]
  omega
theorem has_nat {q k : Nat} (hk : k ≤ 64) : hasB (q : Int) (k : Int) = q.testBit k := by
  unfold hasB
  rw [and1, Int.toNat_natCast, Nat.min_eq_left hk, Int.fdiv_eq_ediv_of_nonneg _ (Int.le_of_lt (Int.pow_pos (by decide))), Nat.testBit_eq_decide_div_mod_eq]
  have e : (q : Int) / 2 ^ k % 2 = ((q / 2 ^ k % 2 : Nat) : Int) := by norm_cast
  rw [e]
  have : q / 2 ^ k % 2 = 0 ∨ q / 2 ^ k % 2 = 1 := by omega
  rcases this with h | h <;> rw [h] <;> rfl
theorem has_raw {q k : Int} (h0 : 0 ≤ k) (h1 : k < 64) : (bits .and .i64 (q / 2 ^ Int.toNat k) (1 : Int) == (1 : Int)) = hasB q k := by
  unfold hasB
  rw [Nat.min_eq_left (by omega), Int.fdiv_eq_ediv_of_nonneg _ (Int.le_of_lt (Int.pow_pos (by decide)))]
theorem and1_has {q k : Int} (h0 : 0 ≤ k) (h1 : k < 64) : bits .and .i64 (q / 2 ^ Int.toNat k) (1 : Int) = bif hasB q k then 1 else 0 := by
  rw [← has_raw h0 h1, and1]
  have : q / 2 ^ k.toNat % 2 = 0 ∨ q / 2 ^ k.toNat % 2 = 1 := by omega
  rcases this with h | h <;> rw [h] <;> rfl
theorem isQ_nat {n q : Int} (h : isQ n q = true) : ∃ n' q' : Nat, n = n' ∧ q = q' ∧ 1 ≤ n' ∧ n' ≤ 12 ∧ q' < 2 ^ n' := by
  obtain ⟨⟨h0, h1, h2⟩, h3, h4⟩ := isQ_in h
  obtain ⟨n', rfl⟩ := int_nat h0
  obtain ⟨q', rfl⟩ := int_nat h3
  refine ⟨n', q', rfl, rfl, by omega, by omega, ?_⟩
  simp only [Int.toNat_natCast] at h4
  have : ((2 ^ n' : Nat) : Int) = (2 : Int) ^ n' := by norm_cast
  omega
theorem openN_le (xs : List Int) : (openN xs).length ≤ xs.length := fl_len _ _
theorem state_len {xs : List Int} {m : Int} (h : isStateN xs m = true) : 1 ≤ xs.length ∧ xs.length ≤ 12 ∧ 0 ≤ m ∧ m ≤ 2 := by
  have := isStateN_iff.1 h; omega
theorem sOpenL_eq (xs : List Int) (m : Int) (hx : xs.length ≤ 1048576) : F_spec_l2Open xs m = some (openN xs) := by
  unfold F_spec_l2Open
  simp only [jn]
  rw [openN_fl]
  have hl := fun k => fl_len (fun i => decide (xs.getD i 0 ≥ 0)) k
  refine (loop_up (fun m i (s : List Int) => F_spec_l2Open_L1 xs (fun o5 => some o5) m s i) (xs.length : Int) (fun i => fl (fun i => decide (xs.getD i 0 ≥ 0)) i.toNat) _ ?_ ?_ (by omega) fuel (by have := fuel_ge; omega))
  · intro m i i0 i1
    obtain ⟨k, rfl⟩ := int_nat i0
    have hlk := hl k
    have e1 : ((k : Int) + 1).toNat = k + 1 := by omega
    simp only [Int.toNat_natCast, e1]
    rw [F_spec_l2Open_L1, ite_t (decide_eq_true i1), chk_pos ⟨i0, i1⟩]
    simp only [Int.toNat_natCast]
    by_cases hb : xs.getD k 0 ≥ 0
    · rw [ite_t (decide_eq_true hb), fl_yes (p := fun i => decide (xs.getD i 0 ≥ 0)) (decide_eq_true hb), chk_pos ⟨by omega, by simp only [maxLen]; omega⟩, chk_pos (by unfold I64; omega)]
    · rw [ite_f (decide_eq_false hb), fl_no (p := fun i => decide (xs.getD i 0 ≥ 0)) (decide_eq_false hb), chk_pos (by unfold I64; omega)]
  · intro m
    rw [F_spec_l2Open_L1, ite_f (decide_eq_false (by omega))]
    simp only [Int.toNat_natCast]
def opV (xs : List Int) (m : Int) : List Int := bif isStateN xs m then openN xs else []
theorem iOpenNumbers_eq (xs : List Int) (m : Int) (hx : xs.length ≤ 1048576) : F_impl_OpenNumbers xs m = some (opV xs m, isStateN xs m) := by
  unfold F_impl_OpenNumbers opV
  rw [chk_pos (by omega)]
  cases h : isStateN xs m with
  | false => rfl
  | true => rw [ite_f (by rfl), chk_pos (by omega), ite_t rfl]
theorem opV_len (xs : List Int) (m : Int) : (opV xs m).length ≤ 12 := by
  unfold opV
  refine ite_c (P := fun l : List Int => l.length ≤ 12) (fun h => ?_) (fun _ => ?_)
  · have := state_len h; have := openN_le xs; omega
  · simp
def aqsB (X : Int) (xs : List (Int × Bool)) : Bool := (decide (1 ≤ X) && decide (X ≤ 12)) && xs.all fun a => isQ X a.1
theorem as_all {X : Int} {xs : List (Int × Bool)} {i : Nat} (h : xs.all (fun a => isQ X a.1) = true) (hi : i < xs.length) : isQ X (xs.getD i (0, false)).1 = true := by
  rw [List.getD_eq_getElem?_getD, List.getElem?_eq_getElem hi]
  exact List.all_eq_true.1 h _ (List.getElem_mem hi)
theorem all_as {X : Int} {xs : List (Int × Bool)} (h : ∀ i : Int, 0 ≤ i → i < (xs.length : Int) → isQ X (xs.getD i.toNat (0, false)).1 = true) : xs.all (fun a => isQ X a.1) = true := by
  rw [List.all_eq_true]
  intro a ha
  obtain ⟨i, hi, rfl⟩ := List.getElem_of_mem ha
  have := h (i : Int) (by omega) (by omega)
  rw [Int.toNat_natCast, List.getD_eq_getElem?_getD, List.getElem?_eq_getElem hi] at this
  exact this
theorem not_all {X : Int} {xs : List (Int × Bool)} {i : Int} (h0 : 0 ≤ i) (h1 : i < (xs.length : Int)) (h : isQ X (xs.getD i.toNat (0, false)).1 = false) : xs.all (fun a => isQ X a.1) = false := by
  rcases Bool.eq_false_or_eq_true (xs.all fun a => isQ X a.1) with h2 | h2
  · have := as_all (i := i.toNat) h2 (by omega)
    rw [this] at h; cases h
  · exact h2
theorem iAreAsked_eq (X : Int) (xs : List (Int × Bool)) (k : Int) (hl : xs.length ≤ 1000) : F_impl_areAsked X xs k = some (aqsB X xs && decide ((xs.length : Int) ≤ k)) := by
  unfold F_impl_areAsked aqsB
  rcases Bool.eq_false_or_eq_true (decide (1 ≤ X) && decide (X ≤ 12)) with h | h
  · rw [ite_t h, h]
    rcases Bool.eq_false_or_eq_true (decide ((xs.length : Int) ≤ k)) with h2 | h2
    · rw [ite_t h2, h2]
      unfold F_slices_ContainsFunc___impl_Asked_impl_Asked_ F_slices_IndexFunc___impl_Asked_impl_Asked_
      have key : ∀ (J : Unit → Option Int), J () = some (-1) → ∃ v, F_slices_IndexFunc___impl_Asked_impl_Asked__L1 xs (fun u0 u1 => F_impl_areAsked_1 u0 u1 X) J fuel 0 = some v ∧ decide (v ≥ 0) = !(xs.all fun a => isQ X a.1) := by
        intro J hJ
        have st : ∀ n i, 0 ≤ i → i < ((xs.length : Nat) : Int) → F_slices_IndexFunc___impl_Asked_impl_Asked__L1 xs (fun u0 u1 => F_impl_areAsked_1 u0 u1 X) J (n + 1) i = (bif !(isQ X (xs.getD i.toNat (0, false)).1) then some i else F_slices_IndexFunc___impl_Asked_impl_Asked__L1 xs (fun u0 u1 => F_impl_areAsked_1 u0 u1 X) J n (i + 1)) := fun n i i0 i1 => by
          rw [F_slices_IndexFunc___impl_Asked_impl_Asked__L1, ite_t (decide_eq_true i1), chk_pos ⟨i0, i1⟩]
          unfold F_impl_areAsked_1
          rw [bnd1_eq rfl, chk_pos (by unfold I64; omega)]
        refine loop_m (fun n (i : Int) => F_slices_IndexFunc___impl_Asked_impl_Asked__L1 xs (fun u0 u1 => F_impl_areAsked_1 u0 u1 X) J n i) (fun i => 0 ≤ i ∧ i ≤ (xs.length : Int) ∧ ∀ j, 0 ≤ j → j < i → isQ X (xs.getD j.toNat (0, false)).1 = true) (fun i => ((xs.length : Int) - i).toNat) (fun o => ∃ v, o = some v ∧ decide (v ≥ 0) = !(xs.all fun a => isQ X a.1)) ?_ fuel 0 ⟨by omega, by omega, fun j h1 h2 => by omega⟩ (by have := fuel_ge; omega)
        rintro n i ⟨i0, i1, hall⟩
        by_cases e : i < (xs.length : Int)
        · simp only [st n i i0 e]
          rcases Bool.eq_false_or_eq_true (isQ X (xs.getD i.toNat (0, false)).1) with h5 | h5
          · refine .inl ⟨i + 1, ⟨by omega, by omega, fun j h6 h7 => ?_⟩, by omega, ?_⟩
            · by_cases e2 : j = i
              · subst e2; exact h5
              · exact hall j h6 (by omega)
            · rw [ite_f (by rw [h5]; rfl)]
          · refine .inr ⟨i, ?_, ?_⟩
            · rw [ite_t (by rw [h5]; rfl)]
            · rw [not_all i0 e h5, decide_eq_true i0]; rfl
        · refine .inr ⟨-1, ?_, ?_⟩
          · rw [F_slices_IndexFunc___impl_Asked_impl_Asked__L1, ite_f (decide_eq_false e), hJ]
          · rw [all_as (X := X) (fun j h6 h7 => hall j h6 (by omega))]; rfl
      obtain ⟨v, e1, e2⟩ := key (fun _ => some (-1)) rfl
      simp only [jn]
      rw [bnd1_eq e1, bnd1_eq rfl, e2]; simp
    · rw [ite_f h2, h2, Bool.and_false]
  · rw [ite_f h, h]; rfl
def aaB (n m : Int) (qa : List (Int × Bool)) : Bool := (aqsB n qa && decide ((qa.length : Int) ≤ 20)) && (decide (0 ≤ m) && decide (m ≤ 2))
def anL (n m : Int) (qa : List (Int × Bool)) : List Int := bif aaB n m qa then allP n m qa qa.length else []
def aaM (n m : Int) (qa : List (Int × Bool)) : Int := bif aaB n m qa then m else 0
theorem aaB_in {n m : Int} {qa : List (Int × Bool)} (h : aaB n m qa = true) : 1 ≤ n ∧ n ≤ 12 ∧ qa.length ≤ 20 ∧ 0 ≤ m ∧ m ≤ 2 := by
  unfold aaB aqsB at h
  simp only [Bool.and_eq_true, decide_eq_true_eq] at h
  omega
/-- Both conditions, as the program asks them. -/
theorem aa_if {n m : Int} {qa : List (Int × Bool)} {R : Type} (hl : qa.length ≤ 1000) (J : Bool → Option R) : (bnd1 (F_impl_areAsked n qa (20 : Int)) fun r13 => (bif !r13 then J true else J (!(decide (0 ≤ m) && decide (m ≤ 2))))) = J (!(aaB n m qa)) := by
  rw [bnd1_eq (iAreAsked_eq n qa 20 hl)]
  unfold aaB
  cases aqsB n qa && decide ((qa.length : Int) ≤ 20) <;> rfl
theorem iAnswerAll_eq (n m : Int) (qa : List (Int × Bool)) (hl : qa.length ≤ 1000) : F_impl_AnswerAll n m qa = some (anL n m qa, aaM n m qa, aaB n m qa) := by
  unfold F_impl_AnswerAll anL aaM
  refine jn_is (fun J => J (!(aaB n m qa))) (fun J => aa_if hl J) ?_
  rcases Bool.eq_false_or_eq_true (aaB n m qa) with h | h
  · obtain ⟨h1, h2, h3, h4, h5⟩ := aaB_in h
    rw [h, ite_f (by rfl), chk_pos (by omega), chk_pos h2]
    refine jn_is (fun J => J (allP n m qa qa.length)) (fun J => ?_) rfl
    refine loop_up (fun k i (s : List Int) => F_impl_AnswerAll_L1 m qa J k s i) ((qa.length : Nat) : Int) (fun i => allP n m qa i.toNat) _ ?_ ?_ (by omega) fuel (by have := fuel_ge; omega)
    · intro k i i0 i1
      obtain ⟨j, rfl⟩ := int_nat i0
      have e1 : ((j : Int) + 1).toNat = j + 1 := by omega
      simp only [Int.toNat_natCast, e1]
      rw [F_impl_AnswerAll_L1, ite_t (decide_eq_true i1), chk_pos ⟨i0, i1⟩, chk_pos (okS_allP h2 h4 h5 j), chk_pos (by unfold I64; omega), Int.toNat_natCast]
      rfl
    · intro k
      simp only [Int.toNat_natCast]
      rw [F_impl_AnswerAll_L1, ite_f (decide_eq_false (by omega))]
  · rw [h]; rfl
/-- How many nodes. -/
def szB : Br → Nat
  | .nil => 0
  | .nd _ .nil _ => 1
  | .nd _ (.nd a b c) n => 1 + szB (.nd a b c) + szB n
/-- The list of a tree's nodes, from a place on. -/
def enc : Br → Int → List Nd
  | .nil, _ => []
  | .nd _ .nil _, _ => [(-1, -1, -1)]
  | .nd q (.nd a b c) n, o => (q, o + 1, o + 1 + szB (.nd a b c)) :: (enc (.nd a b c) (o + 1) ++ enc n (o + 1 + szB (.nd a b c)))
theorem enc_len : ∀ (b : Br) (o : Int), (enc b o).length = szB b
  | .nil, _ => rfl
  | .nd _ .nil _, _ => rfl
  | .nd q (.nd a b c) n, o => by
    rw [enc, szB, List.length_cons, List.length_append, enc_len _ (o + 1), enc_len n _]; omega
/-- The trees that are read: questions about n numbers, at most d high. -/
inductive WF (n : Int) : Nat → Br → Prop
  | leaf (d : Nat) : WF n (d + 1) (.nd 0 .nil .nil)
  | node {d : Nat} {q : Int} {y z : Br} (hq : isQ n q = true) (hy : WF n d y) (hz : WF n d z) : WF n (d + 1) (.nd q y z)
theorem WF.some {n : Int} {d : Nat} {b : Br} (h : WF n d b) : ∃ q y z, b = .nd q y z := by cases h <;> exact ⟨_, _, _, rfl⟩
theorem WF.pos {n : Int} {d : Nat} {b : Br} (h : WF n d b) : 1 ≤ szB b := by
  obtain ⟨q, y, z, rfl⟩ := h.some
  cases y with
  | nil => exact Nat.le_refl _
  | nd a b c => rw [szB]; omega
theorem WF.node_enc {n : Int} {d : Nat} {y : Br} (h : WF n d y) (q : Int) (z : Br) (o : Int) : enc (.nd q y z) o = (q, o + 1, o + 1 + szB y) :: (enc y (o + 1) ++ enc z (o + 1 + szB y)) ∧ szB (.nd q y z) = 1 + szB y + szB z := by
  obtain ⟨a, b, c, rfl⟩ := h.some
  exact ⟨by rw [enc], by rw [szB]⟩
theorem WF.size {n : Int} : ∀ {d : Nat} {b : Br}, WF n d b → szB b < 2 ^ d
  | _, _, .leaf d => by
    have : 1 ≤ 2 ^ d := Nat.two_pow_pos d
    show 1 < 2 ^ (d + 1)
    rw [Nat.pow_succ]; omega
  | _, _, .node (d := d) hq hy hz => by
    have h1 := hy.size
    have h2 := hz.size
    rw [(hy.node_enc _ _ 0).2, Nat.pow_succ]
    omega
theorem WF.up {n : Int} : ∀ {d : Nat} {b : Br}, WF n d b → WF n (d + 1) b
  | _, _, .leaf d => .leaf (d + 1)
  | _, _, .node hq hy hz => .node hq hy.up hz.up
/-- What is read at a place: the tree, the place behind it, and whether it is one. -/
def readB (n : Int) (t : List Nd) : Nat → Int → Br × Int × Bool
  | 0, _ => (.nil, 0, false)
  | d + 1, a =>
    if (decide (0 ≤ a) && decide (a ≤ (t.length : Int) - 1)) = false then (.nil, 0, false) else
    if leafB (t.getD a.toNat (0, 0, 0)).1 (t.getD a.toNat (0, 0, 0)).2.1 (t.getD a.toNat (0, 0, 0)).2.2 = true then (.nd 0 .nil .nil, a + 1, true) else
    if isQ n (t.getD a.toNat (0, 0, 0)).1 = false ∨ ¬ (t.getD a.toNat (0, 0, 0)).2.1 = a + 1 then (.nil, 0, false) else
    if (readB n t d (a + 1)).2.2 = false ∨ ¬ (t.getD a.toNat (0, 0, 0)).2.2 = (readB n t d (a + 1)).2.1 then (.nil, 0, false) else
    (.nd (t.getD a.toNat (0, 0, 0)).1 (readB n t d (a + 1)).1 (readB n t d (readB n t d (a + 1)).2.1).1, (readB n t d (readB n t d (a + 1)).2.1).2.1, (readB n t d (readB n t d (a + 1)).2.1).2.2)
theorem readB_N (n : Int) (t : List Nd) : ∀ (d : Nat) (a : Int), readN n t d a = (brT (readB n t d a).1, (readB n t d a).2.1, (readB n t d a).2.2)
  | 0, a => rfl
  | d + 1, a => by
    rw [readN, readB]
    by_cases h1 : (decide (0 ≤ a) && decide (a ≤ (t.length : Int) - 1)) = false
    · rw [if_pos h1, if_pos h1]; rfl
    · rw [if_neg h1, if_neg h1]
      dsimp only
      by_cases h2 : leafB (t.getD a.toNat (0, 0, 0)).1 (t.getD a.toNat (0, 0, 0)).2.1 (t.getD a.toNat (0, 0, 0)).2.2 = true
      · rw [if_pos h2, if_pos h2]; rfl
      · rw [if_neg h2, if_neg h2]
        by_cases h3 : isQ n (t.getD a.toNat (0, 0, 0)).1 = false ∨ ¬ (t.getD a.toNat (0, 0, 0)).2.1 = a + 1
        · rw [if_pos h3, if_pos h3]; rfl
        · rw [if_neg h3, if_neg h3, readB_N n t d (a + 1)]
          dsimp only
          by_cases h4 : (readB n t d (a + 1)).2.2 = false ∨ ¬ (t.getD a.toNat (0, 0, 0)).2.2 = (readB n t d (a + 1)).2.1
          · rw [if_pos h4, if_pos h4]; rfl
          · rw [if_neg h4, if_neg h4, readB_N n t d]; rfl
theorem drop_one {t : List Nd} {a : Nat} (h : a < t.length) : t.drop a = t.getD a (0, 0, 0) :: t.drop (a + 1) := by
  rw [List.getD_eq_getElem?_getD, List.getElem?_eq_getElem h]; exact List.drop_eq_getElem_cons h
theorem take_more {t u v : List Nd} {m k : Nat} (h1 : t.take m = u) (h2 : (t.drop m).take k = v) : t.take (m + k) = u ++ v := by
  rw [List.take_add, h1, h2]
/-- What is read lies in the list. -/
theorem readB_in {n : Int} {t : List Nd} : ∀ {d : Nat} {a : Nat}, (readB n t d a).2.2 = true → WF n d (readB n t d a).1 ∧ (readB n t d a).2.1 = (a : Int) + szB (readB n t d a).1 ∧ a + szB (readB n t d a).1 ≤ t.length ∧ (t.drop a).take (szB (readB n t d a).1) = enc (readB n t d a).1 a
  | 0, a, h => by cases h
  | d + 1, a, h => by
    rw [readB] at h ⊢
    by_cases h1 : (decide ((0 : Int) ≤ a) && decide ((a : Int) ≤ (t.length : Int) - 1)) = false
    · rw [if_pos h1] at h; cases h
    · rw [if_neg h1] at h ⊢
      have h1' : a < t.length := by simp at h1; omega
      simp only [Int.toNat_natCast] at h ⊢
      by_cases h2 : leafB (t.getD a (0, 0, 0)).1 (t.getD a (0, 0, 0)).2.1 (t.getD a (0, 0, 0)).2.2 = true
      · rw [if_pos h2]
        refine ⟨.leaf d, rfl, h1', ?_⟩
        have e : t.getD a (0, 0, 0) = (-1, -1, -1) := by
          unfold leafB at h2
          simp only [Bool.and_eq_true, beq_iff_eq, Bool.and_true] at h2
          exact Prod.ext h2.1 (Prod.ext h2.2.1 h2.2.2)
        show (t.drop a).take 1 = [(-1, -1, -1)]
        rw [drop_one h1', e]; rfl
      · rw [if_neg h2] at h ⊢
        by_cases h3 : isQ n (t.getD a (0, 0, 0)).1 = false ∨ ¬ (t.getD a (0, 0, 0)).2.1 = (a : Int) + 1
        · rw [if_pos h3] at h; cases h
        · rw [if_neg h3] at h ⊢
          simp only [not_or, Decidable.not_not, Bool.not_eq_false] at h3
          by_cases h4 : (readB n t d ((a : Int) + 1)).2.2 = false ∨ ¬ (t.getD a (0, 0, 0)).2.2 = (readB n t d ((a : Int) + 1)).2.1
          · rw [if_pos h4] at h; cases h
          · rw [if_neg h4] at h ⊢
            simp only [not_or, Decidable.not_not, Bool.not_eq_false] at h4
            have ea : (a : Int) + 1 = ((a + 1 : Nat) : Int) := by omega
            rw [ea] at h h3 h4 ⊢
            obtain ⟨y1, y2, y3, y4⟩ := readB_in (a := a + 1) h4.1
            rw [y2] at h h4 ⊢
            generalize readB n t d ((a + 1 : Nat) : Int) = Y at *
            have eb : ((a + 1 : Nat) : Int) + (szB Y.1 : Int) = ((a + 1 + szB Y.1 : Nat) : Int) := by omega
            rw [eb] at h h4 ⊢
            obtain ⟨z1, z2, z3, z4⟩ := readB_in (a := a + 1 + szB Y.1) h
            generalize readB n t d ((a + 1 + szB Y.1 : Nat) : Int) = Z at *
            obtain ⟨ne, ns⟩ := y1.node_enc (t.getD a (0, 0, 0)).1 Z.1 (a : Int)
            refine ⟨.node h3.1 y1 z1, ?_, ?_, ?_⟩
            · show Z.2.1 = _
              rw [z2, ns]; omega
            · show a + szB (.nd _ Y.1 Z.1) ≤ _
              rw [ns]; omega
            · show (t.drop a).take (szB (.nd _ Y.1 Z.1)) = enc (.nd _ Y.1 Z.1) a
              have e1 : t.getD a (0, 0, 0) = ((t.getD a (0, 0, 0)).1, (a : Int) + 1, (a : Int) + 1 + szB Y.1) := Prod.ext rfl (Prod.ext (show _ = (a : Int) + 1 by omega) (show _ = (a : Int) + 1 + szB Y.1 by omega))
              rw [ns, ne, drop_one h1', show 1 + szB Y.1 + szB Z.1 = (szB Y.1 + szB Z.1) + 1 by omega, List.take_succ_cons, ← e1]
              congr 1
              refine take_more ?_ ?_
              · rw [y4, ea]
              · rw [List.drop_drop, z4]
                congr 1 <;> omega
/-- And what lies in the list is read. -/
theorem readB_of {n : Int} {t : List Nd} : ∀ {d : Nat} {b : Br} {a : Nat}, WF n d b → (t.drop a).take (szB b) = enc b a → readB n t d a = (b, (a : Int) + szB b, true)
  | _, _, a, .leaf d, h => by
    have h : (t.drop a).take 1 = [(-1, -1, -1)] := h
    have h1 : a < t.length := by
      rcases Nat.lt_or_ge a t.length with h1 | h1
      · exact h1
      · rw [List.drop_of_length_le h1] at h; cases h
    rw [drop_one h1] at h
    have e : t.getD a (0, 0, 0) = (-1, -1, -1) := by simpa using h
    rw [readB, if_neg (by simp; omega), Int.toNat_natCast, e, if_pos (by decide)]
    rfl
  | _, _, a, .node (d := d) (q := q) (y := y) (z := z) hq hy hz, h => by
    obtain ⟨ne, ns⟩ := hy.node_enc q z (a : Int)
    rw [ns, ne] at h
    have h1 : a < t.length := by
      rcases Nat.lt_or_ge a t.length with h1 | h1
      · exact h1
      · rw [List.drop_of_length_le h1] at h; simp at h
    rw [drop_one h1, show 1 + szB y + szB z = (szB y + szB z) + 1 by omega, List.take_succ_cons] at h
    have e : t.getD a (0, 0, 0) = (q, (a : Int) + 1, (a : Int) + 1 + szB y) := List.cons.inj h |>.1
    have h2 := List.cons.inj h |>.2
    have ea : (a : Int) + 1 = ((a + 1 : Nat) : Int) := by omega
    have eb : (a : Int) + 1 + (szB y : Int) = ((a + 1 + szB y : Nat) : Int) := by omega
    have hl : (enc y ((a : Int) + 1)).length = szB y := enc_len _ _
    have hy2 : (t.drop (a + 1)).take (szB y) = enc y ((a + 1 : Nat) : Int) := by
      have := congrArg (List.take (szB y)) h2
      rw [List.take_take, Nat.min_eq_left (by omega), List.take_left' hl] at this
      rw [this, ea]
    have hz2 : (t.drop (a + 1 + szB y)).take (szB z) = enc z ((a + 1 + szB y : Nat) : Int) := by
      have := congrArg (List.drop (szB y)) h2
      rw [List.drop_take, List.drop_drop, List.drop_left' hl, show szB y + szB z - szB y = szB z by omega] at this
      rw [this, eb]
    have ry := readB_of hy hy2
    have rz := readB_of hz hz2
    have hqb : isQ n q = true := hq
    have hnl : leafB q ((a : Int) + 1) ((a : Int) + 1 + szB y) = false := by
      unfold leafB
      have : ((a : Int) + 1 == -1) = false := by rw [beq_eq_false_iff_ne]; omega
      rw [this]; simp
    have ec : ((a + 1 : Nat) : Int) + (szB y : Int) = ((a + 1 + szB y : Nat) : Int) := by omega
    rw [readB, if_neg (by simp; omega), Int.toNat_natCast, e]
    dsimp only
    rw [if_neg (by rw [hnl]; decide), if_neg (by rw [hqb]; simp), ea, ry]
    dsimp only
    rw [if_neg (by simp), ec, rz, ns]
    refine Prod.ext rfl (Prod.ext ?_ rfl)
    show ((a + 1 + szB y : Nat) : Int) + (szB z : Int) = (a : Int) + ((1 + szB y + szB z : Nat) : Int)
    omega
theorem brM_nd {δ : Type} (y z : Br) (q : Int) (r : Int) (ok : Bool) (k : Br × Int × Bool → Option δ) : (brM y (brM z (k (.nd q .nil .nil, r, ok)) fun a b c => k (.nd q .nil (.nd a b c), r, ok)) fun a b c => brM z (k (.nd q (.nd a b c) .nil, r, ok)) fun a' b' c' => k (.nd q (.nd a b c) (.nd a' b' c'), r, ok)) = k (.nd q y z, r, ok) := by
  cases y <;> cases z <;> rfl
def rootV (n : Int) (t : List Nd) : Br :=
  if (decide (1 ≤ n) && decide (n ≤ 12)) = false ∨ (decide (1 ≤ (t.length : Int)) && decide ((t.length : Int) ≤ 127)) = false then .nil else (readB n t 7 0).1
/-- A tree is the list of its branch's nodes. -/
theorem root_enc {n : Int} {t : List Nd} (h : (rootN n t).2 = true) : WF n 7 (rootV n t) ∧ t = enc (rootV n t) 0 ∧ t.length = szB (rootV n t) ∧ t.length ≤ 127 ∧ 1 ≤ n ∧ n ≤ 12 ∧ (readB n t 7 0).2.2 = true ∧ rootV n t = (readB n t 7 0).1 ∧ (readB n t 7 0).2.1 = (t.length : Int) := by
  have h0 := h
  unfold rootN at h
  unfold rootV
  by_cases hc : (decide (1 ≤ n) && decide (n ≤ 12)) = false ∨ (decide (1 ≤ (t.length : Int)) && decide ((t.length : Int) ≤ 127)) = false
  · rw [if_pos hc] at h; cases h
  · rw [if_neg hc] at h
    rw [if_neg hc]
    rw [readB_N] at h
    simp only [Bool.and_eq_true, beq_iff_eq] at h
    have hc' : (1 ≤ n ∧ n ≤ 12) ∧ 1 ≤ (t.length : Int) ∧ (t.length : Int) ≤ 127 := by simpa using hc
    have h1 : (readB n t 7 ((0 : Nat) : Int)).2.2 = true := h.1
    obtain ⟨k1, k2, k3, k4⟩ := readB_in h1
    have k2' : (readB n t 7 0).2.1 = ((0 : Nat) : Int) + (szB (readB n t 7 0).1 : Int) := k2
    have k4' : (t.drop 0).take (szB (readB n t 7 0).1) = enc (readB n t 7 0).1 0 := k4
    have hl : t.length = szB (readB n t 7 0).1 := by omega
    refine ⟨k1, ?_, hl, by omega, hc'.1.1, hc'.1.2, h.1, rfl, h.2⟩
    rw [List.drop_zero, ← hl, List.take_length] at k4'
    exact k4'
theorem nd_of_WF {n : Int} {d : Nat} {b : Br} (h : WF n d b) : (∃ e, d = e + 1 ∧ b = .nd 0 .nil .nil) ∨ ∃ e q y z, d = e + 1 ∧ b = .nd q y z ∧ isQ n q = true ∧ WF n e y ∧ WF n e z := by
  cases h with
  | leaf d => exact .inl ⟨d, rfl, rfl⟩
  | node hq hy hz => exact .inr ⟨_, _, _, _, rfl, rfl, hq, hy, hz⟩
theorem set_snoc {α : Type} (xs ys : List α) (l v : α) : List.set ((xs ++ [l]) ++ ys) xs.length v = (xs ++ [v]) ++ ys := by
  rw [List.append_assoc, List.append_assoc, List.set_append_right _ _ (Nat.le_refl _), Nat.sub_self]; rfl
theorem iTree1_eq {n : Int} : ∀ (d g : Nat) (b : Br) (xs : List Nd), WF n d b → d < g → xs.length + szB b ≤ 2097152 → F_p_impl_branch_tree_1 g b xs = some (xs ++ enc b xs.length) := by
  intro d
  induction d with
  | zero => intro g b xs h; cases h
  | succ d ih =>
    intro g b xs h hg hl
    obtain ⟨g, rfl⟩ : ∃ x, g = x + 1 := ⟨g - 1, by omega⟩
    have hp := h.pos
    rw [F_p_impl_branch_tree_1]
    unfold F_p_impl_branch_tree_1_B
    rw [chk_pos ⟨by omega, by simp only [maxLen]; omega⟩]
    rcases nd_of_WF h with ⟨e, he, rfl⟩ | ⟨e, q, y, z, he, rfl, hq, hy, hz⟩
    · rfl
    · obtain rfl : d = e := by omega
      obtain ⟨a, b, c, hyy⟩ := hy.some
      obtain ⟨ne, ns⟩ := hy.node_enc q z (xs.length : Int)
      rw [ns] at hl
      have e0 : (xs ++ [((-1 : Int), (-1 : Int), (-1 : Int))]).length = xs.length + 1 := by simp
      have e1 := ih g y (xs ++ [(-1, -1, -1)]) hy (by omega) (by rw [e0]; omega)
      have el : (xs ++ [((-1 : Int), (-1 : Int), (-1 : Int))] ++ enc y (xs ++ [((-1 : Int), (-1 : Int), (-1 : Int))]).length).length = xs.length + 1 + szB y := by rw [List.length_append, enc_len, e0]
      have e2 := ih g z (xs ++ [(-1, -1, -1)] ++ enc y (xs ++ [((-1 : Int), (-1 : Int), (-1 : Int))]).length) hz (by omega) (by rw [el]; omega)
      subst hyy
      simp only [jn, brM]
      rw [ite_f rfl, bnd1_eq e1, bnd1_eq e2, chk_pos (by unfold I64; omega)]
      simp only [nam]
      have el2 : (xs ++ [((-1 : Int), (-1 : Int), (-1 : Int))] ++ enc (.nd a b c) (xs ++ [((-1 : Int), (-1 : Int), (-1 : Int))]).length ++ enc z (xs ++ [((-1 : Int), (-1 : Int), (-1 : Int))] ++ enc (.nd a b c) (xs ++ [((-1 : Int), (-1 : Int), (-1 : Int))]).length).length).length = xs.length + 1 + szB (.nd a b c) + szB z := by rw [List.length_append, el, enc_len]
      rw [chk_pos ⟨by omega, by rw [el2]; omega⟩, el, e0, Int.toNat_natCast, List.append_assoc, set_snoc, ne]
      congr 1
      rw [List.append_assoc, List.singleton_append]
      congr 2 <;> (try congr 2) <;> omega
theorem iTree_eq {n : Int} {d : Nat} {b : Br} (h : WF n d b) (hd : d ≤ 1000) (hs : szB b ≤ 2097152) : F_p_impl_branch_tree b = some (enc b 0) := by
  unfold F_p_impl_branch_tree
  rw [bnd1_eq (iTree1_eq d fuel b [] h (by have := fuel_ge; omega) (by simpa using hs))]
  rfl
/-- Nodes whose places are so many greater. -/
def movN (k : Int) (x : Nd) : Nd := if 0 ≤ x.2.1 then (x.1, x.2.1 + k, x.2.2 + k) else x
theorem enc_mov (k : Int) : ∀ (b : Br) (o : Int), 0 ≤ o → (enc b o).map (movN k) = enc b (o + k)
  | .nil, o, h => rfl
  | .nd q .nil z, o, h => rfl
  | .nd q (.nd a b c) z, o, h => by
    rw [enc, enc, List.map_cons, List.map_append, enc_mov k _ _ (by omega), enc_mov k z _ (by omega)]
    have hm : movN k (q, o + 1, o + 1 + (szB (.nd a b c) : Int)) = (q, o + 1 + k, o + 1 + (szB (.nd a b c) : Int) + k) := if_pos (show (0 : Int) ≤ o + 1 by omega)
    rw [hm, show o + 1 + k = o + k + 1 by omega, show o + 1 + (szB (.nd a b c) : Int) + k = o + k + 1 + szB (.nd a b c) by omega]
theorem enc_in : ∀ (b : Br) (o : Int), 0 ≤ o → ∀ x ∈ enc b o, -1 ≤ x.2.1 ∧ -1 ≤ x.2.2 ∧ x.2.1 ≤ o + szB b ∧ x.2.2 ≤ o + szB b
  | .nil, o, h, x, hx => by cases hx
  | .nd q .nil z, o, h, x, hx => by
    simp only [enc, List.mem_cons, List.not_mem_nil, or_false] at hx
    subst hx
    simp only [szB]; omega
  | .nd q (.nd a b c) z, o, h, x, hx => by
    rw [enc] at hx
    rw [szB]
    rcases List.mem_cons.1 hx with rfl | hx
    · simp only; omega
    · rcases List.mem_append.1 hx with hx | hx
      · have := enc_in _ _ (by omega) x hx; omega
      · have := enc_in z _ (by omega) x hx; omega
theorem sMoved_eq (xs : List Nd) (k : Int) (hl : xs.length ≤ 2097152) (hx : ∀ x ∈ xs, 0 ≤ x.2.1 → I64 (x.2.1 + k) ∧ I64 (x.2.2 + k)) : F_spec_l9Moved xs k = some (xs.map (movN k)) := by
  unfold F_spec_l9Moved
  simp only [jn]
  refine loop_up (fun m i s => F_spec_l9Moved_L1 xs k (fun o8 => some o8) m s i) (xs.length : Int) (fun i => (xs.take i.toNat).map (movN k)) _ ?_ ?_ (by omega) fuel (by have := fuel_ge; omega)
  · intro m i i0 i1
    try simp only
    have hi : i.toNat < xs.length := by omega
    have ei : (i + 1).toNat = i.toNat + 1 := by omega
    have hg : xs.getD i.toNat (0, 0, 0) = xs[i.toNat] := by rw [List.getD_eq_getElem?_getD, List.getElem?_eq_getElem hi]; rfl
    have hm := hx xs[i.toNat] (List.getElem_mem hi)
    rw [F_spec_l9Moved_L1, ite_t (decide_eq_true i1), chk_pos ⟨i0, i1⟩, hg, ei, List.take_succ_eq_append_getElem hi, List.map_append]
    simp only [jn, nam]
    generalize xs[i.toNat] = x at hm ⊢
    have hl2 : ((xs.take i.toNat).map (movN k)).length ≤ xs.length := by rw [List.length_map, List.length_take]; exact Nat.min_le_right _ _
    by_cases h0 : (0 : Int) ≤ x.2.1
    · rw [ite_t (decide_eq_true h0), chk_pos (hm h0).1, chk_pos (hm h0).2, chk_pos ⟨by omega, by simp only [maxLen]; omega⟩, chk_pos (by unfold I64; omega)]
      rw [List.map_cons, List.map_nil, movN, if_pos h0]
    · rw [ite_f (decide_eq_false h0), chk_pos ⟨by omega, by simp only [maxLen]; omega⟩, chk_pos (by unfold I64; omega)]
      rw [List.map_cons, List.map_nil, movN, if_neg h0]
  · intro m
    try simp only
    rw [F_spec_l9Moved_L1, ite_f (decide_eq_false (by omega)), Int.toNat_natCast, List.take_length]
theorem sMoved_enc (b : Br) (o k : Int) (ho : 0 ≤ o) (h1 : szB b ≤ 2097152) (h2 : o ≤ 2097152) (h3 : -2097152 ≤ k) (h4 : k ≤ 2097152) : F_spec_l9Moved (enc b o) k = some (enc b (o + k)) := by
  rw [sMoved_eq _ _ (by rw [enc_len]; exact h1) fun x hx h0 => by have := enc_in b o ho x hx; unfold I64; omega, enc_mov k b o ho]
/-- A node ahead of two parts. -/
theorem sJoin_eq {y z : Br} (q : Int) (hy : ∃ a b c, y = .nd a b c) (hs : szB y + szB z ≤ 1048576) : F_spec_l9Join q (enc y 0) (enc z 0) = some (enc (.nd q y z) 0) := by
  unfold F_spec_l9Join
  obtain ⟨a, b, c, rfl⟩ := hy
  simp only [nam]
  rw [enc_len, chk_pos (by unfold I64; omega), bnd1_eq (sMoved_enc _ 0 1 (by omega) (by omega) (by omega) (by omega) (by omega)), enc_len, chk_pos ⟨by omega, by simp only [maxLen]; omega⟩,
    bnd1_eq (sMoved_enc z 0 _ (by omega) (by omega) (by omega) (by omega) (by omega)), enc_len, chk_pos ⟨by omega, by simp only [maxLen]; omega⟩]
  rw [enc]
  simp only [List.cons_append, List.nil_append]
  rw [show (0 : Int) + 1 = 1 by rfl, show (0 : Int) + (1 + ((szB (.nd a b c) : Nat) : Int)) = 1 + ((szB (.nd a b c) : Nat) : Int) by omega]
theorem vTree_eq (xs : List Nd) (hx : xs.length ≤ 1048576) : F_laws_vTree xs xs = some true := by
  unfold F_laws_vTree
  rw [ite_f (bne_self_eq_false _)]
  simp only [jn]
  refine loop_up (fun m i (_ : Unit) => F_laws_vTree_L1 xs xs (fun _ => some true) m i) ((List.length xs : Nat) : Int) (fun _ => ()) _ ?_ ?_ (by omega) fuel (by have := fuel_ge; omega)
  · intro m i i0 i1
    rw [F_laws_vTree_L1, ite_t (decide_eq_true i1), chk_pos ⟨i0, i1⟩, chk_pos ⟨i0, i1⟩]
    simp only [nam, beq_self_eq_true, Bool.and_self, Bool.and_true, Bool.not_true, cond_false]
    rw [chk_pos (by unfold I64; omega)]
  · intro m
    rw [F_laws_vTree_L1, ite_f (decide_eq_false (by omega))]
def wfB (n : Int) : Nat → Br → Bool
  | 0, _ => false
  | _ + 1, .nil => false
  | _ + 1, .nd q .nil .nil => q == 0
  | _ + 1, .nd _ .nil (.nd _ _ _) => false
  | d + 1, .nd q (.nd a b c) z => isQ n q && (wfB n d (.nd a b c) && wfB n d z)
theorem wfB_WF {n : Int} : ∀ {d : Nat} {b : Br}, wfB n d b = true → WF n d b
  | 0, _, h => by cases h
  | _ + 1, .nil, h => by cases h
  | d + 1, .nd q .nil .nil, h => by
    have : q = 0 := by simpa [wfB] using h
    subst this; exact .leaf d
  | _ + 1, .nd _ .nil (.nd _ _ _), h => by cases h
  | d + 1, .nd q (.nd a b c) z, h => by
    simp only [wfB, Bool.and_eq_true] at h
    exact .node h.1 (wfB_WF h.2.1) (wfB_WF h.2.2)
theorem WF.ups {n : Int} {d : Nat} {b : Br} (h : WF n d b) : ∀ k, WF n (d + k) b
  | 0 => h
  | k + 1 => (h.ups k).up
/-- The list of a branch's nodes is a tree. -/
theorem enc_root {n : Int} {d : Nat} {b : Br} (h : WF n d b) (hd : d ≤ 7) (hs : szB b ≤ 127) (h1 : 1 ≤ n) (h2 : n ≤ 12) : (rootN n (enc b 0)).2 = true := by
  have h7 : WF n 7 b := by have := h.ups (7 - d); rwa [show d + (7 - d) = 7 by omega] at this
  have hp := h.pos
  have hl : (enc b 0).length = szB b := enc_len _ _
  have hr := readB_of (t := enc b 0) (a := 0) h7 (by rw [List.drop_zero, List.take_of_length_le (by omega)]; rfl)
  have hr : readB n (enc b 0) 7 0 = (b, ((0 : Nat) : Int) + (szB b : Int), true) := hr
  have g1 : (decide (1 ≤ n) && decide (n ≤ 12)) = true := by simp [h1, h2]
  have g2 : (decide (1 ≤ ((enc b 0).length : Int)) && decide (((enc b 0).length : Int) ≤ 127)) = true := by simp; omega
  unfold rootN
  rw [if_neg (by simp only [g1, g2]; decide), readB_N, hr, hl]
  simp
def orN (xs : List Int) : Int := xs.foldl (fun q k => bits .or .i64 q (1 * 2 ^ k.toNat)) 0
def halvB : Nat → List Int → Br
  | 0, _ => .nil
  | g + 1, xs => if xs.length = 1 then .nd 0 .nil .nil else .nd (orN (xs.take ((xs.length + 1) / 2))) (halvB g (xs.take ((xs.length + 1) / 2))) (halvB g (xs.drop ((xs.length + 1) / 2)))
def rng (k : Nat) : List Int := (List.range k).map fun (i : Nat) => (i : Int)
theorem orN_suc {xs : List Int} {i : Nat} (h : i < xs.length) : orN (xs.take (i + 1)) = bits .or .i64 (orN (xs.take i)) (1 * 2 ^ (xs.getD i 0).toNat) := by
  unfold orN
  rw [List.take_succ_eq_append_getElem h, List.foldl_append, List.getD_eq_getElem?_getD, List.getElem?_eq_getElem h]
  rfl
theorem small_shl {k : Int} (h0 : 0 ≤ k) (h1 : k ≤ 12) : 0 ≤ k ∧ k < 64 ∧ I64 ((1 : Int) * 2 ^ Int.toNat k) := by
  have := pow13 (n := k) h0 (by omega)
  exact ⟨h0, by omega, by unfold I64; omega⟩
theorem half_eq (k : Nat) : Int.tdiv (((k : Nat) : Int) + 1) 2 = ((((k + 1) / 2 : Nat)) : Int) := by
  rw [Int.tdiv_eq_ediv_of_nonneg (by omega)]; omega
theorem halvB_nd {d : Nat} {xs : List Int} (h : 1 ≤ xs.length) (hd : xs.length ≤ d) : ∃ q y z, halvB d xs = .nd q y z := by
  obtain ⟨d, rfl⟩ : ∃ e, d = e + 1 := ⟨d - 1, by omega⟩
  rw [halvB]; split <;> exact ⟨_, _, _, rfl⟩
theorem iHalv_eq : ∀ (d g : Nat) (xs : List Int), 1 ≤ xs.length → xs.length ≤ d → d ≤ 13 → d < g → (∀ x ∈ xs, 0 ≤ x ∧ x ≤ 12) → F_impl_halving g xs = some (halvB d xs) := by
  intro d
  induction d with
  | zero => intro g xs h1 h2; omega
  | succ d ih =>
    intro g xs h1 h2 h3 hg hx
    obtain ⟨g, rfl⟩ : ∃ x, g = x + 1 := ⟨g - 1, by omega⟩
    rw [F_impl_halving]
    unfold F_impl_halving_B
    by_cases he : xs.length = 1
    · rw [ite_t (by rw [he]; rfl), halvB, if_pos he]
    · rw [ite_f (by simp; omega), chk_pos (by unfold I64; omega)]
      simp only [nam, jn]
      rw [half_eq, chk_pos (by unfold I64; omega), chk_pos ⟨by omega, by omega, by omega⟩]
      have e0 : Int.toNat (0 : Int) = 0 := rfl
      rw [e0, List.drop_zero, Nat.sub_zero, Int.toNat_natCast, Int.toNat_natCast]
      generalize hh : (xs.length + 1) / 2 = h at *
      have hlt : (xs.take h).length = h := by rw [List.length_take]; omega
      have e1 := ih g (xs.take h) (by omega) (by omega) (by omega) (by omega) (fun x hm => hx x (List.mem_of_mem_take hm))
      have e2 := ih g (xs.drop h) (by rw [List.length_drop]; omega) (by rw [List.length_drop]; omega) (by omega) (by omega) (fun x hm => hx x (List.mem_of_mem_drop hm))
      have n1 := halvB_nd (d := d) (xs := xs.take h) (by omega) (by omega)
      have n2 := halvB_nd (d := d) (xs := xs.drop h) (by rw [List.length_drop]; omega) (by rw [List.length_drop]; omega)
      have fin : ∀ J1 : Int → Option Br, F_impl_halving_B_L1 xs (((xs.length : Nat) : Int) + 1) J1 fuel 0 0 = J1 (orN (xs.take h)) := by
        intro J1
        have hs : List.take (Int.toNat (Int.tdiv (((xs.length : Nat) : Int) + 1) 2) - Int.toNat (0 : Int)) (List.drop (Int.toNat (0 : Int)) xs) = xs.take h := by
          rw [half_eq, hh, e0, List.drop_zero, Nat.sub_zero, Int.toNat_natCast]
        refine loop_up (fun m i q => F_impl_halving_B_L1 xs (((xs.length : Nat) : Int) + 1) J1 m i q) ((h : Nat) : Int) (fun i => orN (xs.take i.toNat)) _ ?_ ?_ (by omega) fuel (by have := fuel_ge; omega)
        · intro m i i0 i1
          obtain ⟨j, rfl⟩ := int_nat i0
          have e1 : ((j : Int) + 1).toNat = j + 1 := by omega
          have hj : j < xs.length := by omega
          simp only [Int.toNat_natCast, e1]
          rw [F_impl_halving_B_L1, hs, hlt]
          have hg2 : (xs.take h).getD j 0 = xs.getD j 0 := by rw [List.getD_eq_getElem?_getD, List.getD_eq_getElem?_getD, List.getElem?_take, if_pos (by omega)]
          have hxj := getD_in hj (P := fun x => 0 ≤ x ∧ x ≤ 12) hx
          simp only [nam, Int.toNat_natCast]
          rw [ite_t (decide_eq_true i1), chk_pos ⟨i0, i1⟩, hg2, chk_pos (small_shl hxj.1 hxj.2), chk_pos (by unfold I64; omega), orN_suc hj]
        · intro m
          simp only [Int.toNat_natCast]
          rw [F_impl_halving_B_L1, hs, hlt]
          simp only [nam]
          rw [ite_f (decide_eq_false (by omega))]
      rw [fin, chk_pos ⟨by omega, by omega, by omega⟩, bnd1_eq e1, chk_pos ⟨by omega, by omega, by omega⟩, show List.take (xs.length - h) (List.drop h xs) = xs.drop h from List.take_of_length_le (by rw [List.length_drop]; exact Nat.le_refl _), bnd1_eq e2]
      have := brM_nd (halvB d (xs.take h)) (halvB d (xs.drop h)) (orN (xs.take h)) 0 true (fun r => some r.1)
      rw [halvB, if_neg he, hh]
      exact this
theorem sHalv_eq : ∀ (d g : Nat) (xs : List Int), 1 ≤ xs.length → xs.length ≤ d → d ≤ 13 → d < g → (∀ x ∈ xs, 0 ≤ x ∧ x ≤ 12) → F_spec_l9Halves g xs = some (enc (halvB d xs) 0) ∧ szB (halvB d xs) + 1 ≤ 2 * xs.length := by
  intro d
  induction d with
  | zero => intro g xs h1 h2; omega
  | succ d ih =>
    intro g xs h1 h2 h3 hg hx
    obtain ⟨g, rfl⟩ : ∃ x, g = x + 1 := ⟨g - 1, by omega⟩
    rw [F_spec_l9Halves]
    unfold F_spec_l9Halves_B
    by_cases he : xs.length = 1
    · rw [ite_t (by rw [he]; rfl), halvB, if_pos he]; exact ⟨rfl, by simp only [szB]; omega⟩
    · rw [ite_f (by simp; omega), chk_pos (by unfold I64; omega)]
      simp only [nam, jn]
      rw [half_eq, chk_pos (by unfold I64; omega)]
      have e0 : Int.toNat (0 : Int) = 0 := rfl
      rw [e0, List.drop_zero, Nat.sub_zero, Int.toNat_natCast, Int.toNat_natCast]
      generalize hh : (xs.length + 1) / 2 = h at *
      have hlt : (xs.take h).length = h := by rw [List.length_take]; omega
      obtain ⟨e1, s1⟩ := ih g (xs.take h) (by omega) (by omega) (by omega) (by omega) (fun x hm => hx x (List.mem_of_mem_take hm))
      obtain ⟨e2, s2⟩ := ih g (xs.drop h) (by rw [List.length_drop]; omega) (by rw [List.length_drop]; omega) (by omega) (by omega) (fun x hm => hx x (List.mem_of_mem_drop hm))
      rw [hlt] at s1
      rw [List.length_drop] at s2
      have n1 := halvB_nd (d := d) (xs := xs.take h) (by omega) (by omega)
      have fin : ∀ J1 : Int → Option (List Nd), F_spec_l9Halves_B_L1 xs (((xs.length : Nat) : Int) + 1) J1 fuel 0 0 = J1 (orN (xs.take h)) := by
        intro J1
        refine loop_up (fun m i q => F_spec_l9Halves_B_L1 xs (((xs.length : Nat) : Int) + 1) J1 m i q) ((h : Nat) : Int) (fun i => orN (xs.take i.toNat)) _ ?_ ?_ (by omega) fuel (by have := fuel_ge; omega)
        · intro m i i0 i1
          obtain ⟨j, rfl⟩ := int_nat i0
          have e1 : ((j : Int) + 1).toNat = j + 1 := by omega
          have hj : j < xs.length := by omega
          simp only [Int.toNat_natCast, e1]
          rw [F_spec_l9Halves_B_L1, half_eq, hh]
          have hxj := getD_in hj (P := fun x => 0 ≤ x ∧ x ≤ 12) hx
          simp only [nam, Int.toNat_natCast]
          rw [ite_t (decide_eq_true i1), chk_pos ⟨i0, by omega⟩, chk_pos (small_shl hxj.1 hxj.2), chk_pos (by unfold I64; omega), orN_suc hj]
        · intro m
          simp only [Int.toNat_natCast]
          rw [F_spec_l9Halves_B_L1, half_eq, hh, ite_f (decide_eq_false (by omega))]
      rw [fin, chk_pos ⟨by omega, by omega, by omega⟩, bnd1_eq e1, chk_pos ⟨by omega, by omega, by omega⟩, show List.take (xs.length - h) (List.drop h xs) = xs.drop h from List.take_of_length_le (by rw [List.length_drop]; exact Nat.le_refl _), bnd1_eq e2]
      rw [bnd1_eq (sJoin_eq _ n1 (by omega)), halvB, if_neg he, hh]
      obtain ⟨a, b, c, hn⟩ := n1
      refine ⟨rfl, ?_⟩
      rw [hn] at s1 ⊢
      rw [szB]; omega
def hvB (n : Int) : Bool := decide (1 ≤ n) && decide (n ≤ 12)
def hvV (n : Int) : List Nd := bif hvB n then enc (halvB 13 (rng n.toNat)) 0 else []
theorem openN_rep (k : Nat) : openN (List.replicate k (0 : Int)) = rng k := by
  unfold openN openP rng
  rw [List.length_replicate, List.filter_eq_self.2]
  intro i hi
  rw [List.getD_eq_getElem?_getD, List.getElem?_replicate]
  split <;> rfl
theorem rng_in {k : Nat} : (rng k).length = k ∧ ∀ x ∈ rng k, 0 ≤ x ∧ x < (k : Int) := by
  unfold rng
  refine ⟨by simp, fun x hx => ?_⟩
  simp only [List.mem_map, List.mem_range] at hx
  obtain ⟨i, h1, rfl⟩ := hx
  omega
theorem hvB_in {n : Int} (h : hvB n = true) : 1 ≤ n ∧ n ≤ 12 := by simpa [hvB] using h
theorem all12 {P : Int → Bool} (h : ((List.range 12).all fun (i : Nat) => P ((i : Int) + 1)) = true) {n : Int} (h1 : 1 ≤ n) (h2 : n ≤ 12) : P n = true := by
  rw [List.all_eq_true] at h
  have := h (n - 1).toNat (by rw [List.mem_range]; omega)
  rwa [show (((n - 1).toNat : Nat) : Int) + 1 = n by omega] at this
theorem halv_WF {n : Int} (h1 : 1 ≤ n) (h2 : n ≤ 12) : WF n 5 (halvB 13 (rng n.toNat)) := wfB_WF (all12 (P := fun n => wfB n 5 (halvB 13 (rng n.toNat))) (by decide +kernel) h1 h2)
theorem halv_good {n : Int} (h1 : 1 ≤ n) (h2 : n ≤ 12) : mlB n (hvV n) 0 = true ∧ (rootN n (hvV n)).2 = true ∧ gtB n (hvV n) 0 = true ∧ ((lvN n (hvV n)).length : Int) = n := by
  have := all12 (P := fun n => mlB n (hvV n) 0 && ((rootN n (hvV n)).2 && (gtB n (hvV n) 0 && (((lvN n (hvV n)).length : Int) == n)))) (by decide +kernel) h1 h2
  simpa using this
theorem sHalvingTree_eq (n : Int) : F_spec_HalvingTree n = some (hvV n, hvB n) := by
  unfold F_spec_HalvingTree hvV
  have e : (decide (n ≥ 1) && decide (n ≤ 12)) = hvB n := rfl
  rw [e]
  rcases Bool.eq_false_or_eq_true (hvB n) with h | h
  · obtain ⟨h1, h2⟩ := hvB_in h
    have hr := @rng_in n.toNat
    have e1 : F_spec_l2Start n 0 = some (List.replicate n.toNat 0, 0) := by
      unfold F_spec_l2Start
      rw [chk_pos ⟨by omega, by omega, by omega, by simp only [maxLen]; omega⟩]
    rw [h, ite_f (show (!true) = false from rfl), bnd2_eq e1, bnd1_eq (sOpenL_eq _ _ (by simp; omega)), openN_rep, bnd1_eq (sHalv_eq 13 fuel (rng n.toNat) (by omega) (by omega) (by omega) (by have := fuel_ge; omega) (fun x hx => by have := hr.2 x hx; omega)).1]
    rfl
  · rw [h, ite_t (show (!false) = true from rfl)]; rfl
theorem hv_sz {n : Int} (h1 : 1 ≤ n) (h2 : n ≤ 12) : szB (halvB 13 (rng n.toNat)) ≤ 23 := by
  have hr := @rng_in n.toNat
  have := (sHalv_eq 13 14 (rng n.toNat) (by omega) (by omega) (by omega) (by omega) (fun x hx => by have := hr.2 x hx; omega)).2
  omega
theorem hvV_len (n : Int) : (hvV n).length ≤ 23 := by
  unfold hvV
  rcases Bool.eq_false_or_eq_true (hvB n) with h | h
  · obtain ⟨h1, h2⟩ := hvB_in h
    rw [h]; show (enc _ 0).length ≤ 23
    rw [enc_len]; exact hv_sz h1 h2
  · rw [h]; exact Nat.zero_le _
theorem iHalvingTree_eq (n : Int) : F_impl_HalvingTree n = some (hvV n, hvB n) := by
  unfold F_impl_HalvingTree hvV
  have e : (decide (1 ≤ n) && decide (n ≤ 12)) = hvB n := rfl
  rw [e]
  rcases Bool.eq_false_or_eq_true (hvB n) with h | h
  · obtain ⟨h1, h2⟩ := hvB_in h
    have hr := @rng_in n.toNat
    rw [h, ite_f (show (!true) = false from rfl), chk_pos (by omega), chk_pos h2, chk_pos (by simp; omega), openN_rep, bnd1_eq (iHalv_eq 13 fuel (rng n.toNat) (by omega) (by omega) (by omega) (by have := fuel_ge; omega) (fun x hx => by have := hr.2 x hx; omega)),
      bnd1_eq (iTree_eq (halv_WF h1 h2) (by omega) (by have := hv_sz h1 h2; omega))]
    rfl
  · rw [h, ite_t (show (!false) = true from rfl)]; rfl
def repB (q : Int) : Nat → Br
  | 0 => .nd 0 .nil .nil
  | k + 1 => .nd q (repB q k) (repB q k)
theorem repB_nd (q : Int) : ∀ k, ∃ a b c, repB q k = .nd a b c
  | 0 => ⟨_, _, _, rfl⟩
  | k + 1 => ⟨_, _, _, rfl⟩
theorem repB_sz (q : Int) : ∀ k, szB (repB q k) + 1 = 2 ^ (k + 1)
  | 0 => rfl
  | k + 1 => by
    obtain ⟨a, b, c, h⟩ := repB_nd q k
    have := repB_sz q k
    rw [repB, h, szB, ← h, Nat.pow_succ]; omega
theorem repB_WF {n q : Int} (h : isQ n q = true) : ∀ k, WF n (k + 1) (repB q k)
  | 0 => .leaf 0
  | k + 1 => .node h (repB_WF h k) (repB_WF h k)
theorem iRep_eq (q : Int) : ∀ (k g : Nat), k ≤ 6 → k < g → F_impl_repeated g q (k : Int) = some (repB q k) := by
  intro k
  induction k with
  | zero =>
    intro g h1 h2
    obtain ⟨g, rfl⟩ : ∃ x, g = x + 1 := ⟨g - 1, by omega⟩
    rw [F_impl_repeated]; rfl
  | succ k ih =>
    intro g h1 h2
    obtain ⟨g, rfl⟩ : ∃ x, g = x + 1 := ⟨g - 1, by omega⟩
    rw [F_impl_repeated]
    unfold F_impl_repeated_B
    have e := ih g (by omega) (by omega)
    rw [ite_f (by simp; omega), chk_pos (by unfold I64; omega), show ((k + 1 : Nat) : Int) - 1 = (k : Int) by omega, bnd1_eq e, bnd1_eq e]
    exact brM_nd (repB q k) (repB q k) q 0 true (fun r => some r.1)
def rpB (n q k : Int) : Bool := isQ n q && (decide (0 ≤ k) && decide (k ≤ 6))
def rpV (n q k : Int) : List Nd := bif rpB n q k then enc (repB q k.toNat) 0 else []
theorem rpB_in {n q k : Int} (h : rpB n q k = true) : isQ n q = true ∧ 0 ≤ k ∧ k ≤ 6 := by
  simp only [rpB, Bool.and_eq_true, decide_eq_true_eq] at h; exact ⟨h.1, h.2.1, h.2.2⟩
theorem pow7 {k : Nat} (h : k ≤ 7) : 2 ^ k ≤ 128 := Nat.le_trans (Nat.pow_le_pow_right (by decide) h) (by decide)
theorem rp_sz {n q k : Int} (h : rpB n q k = true) : szB (repB q k.toNat) ≤ 127 := by
  obtain ⟨_, h2, h3⟩ := rpB_in h
  have := repB_sz q k.toNat
  have := pow7 (k := k.toNat + 1) (by omega)
  omega
theorem rpV_len (n q k : Int) : (rpV n q k).length ≤ 127 := by
  unfold rpV
  rcases Bool.eq_false_or_eq_true (rpB n q k) with h | h
  · rw [h]; show (enc _ 0).length ≤ 127
    rw [enc_len]; exact rp_sz h
  · rw [h]; exact Nat.zero_le _
theorem iRepeatTree_eq (n q k : Int) : F_impl_RepeatTree n q k = some (rpV n q k, rpB n q k) := by
  unfold F_impl_RepeatTree rpV
  refine jn_is (fun J => J (!(rpB n q k))) (fun J => by unfold rpB; cases isQ n q <;> rfl) ?_
  rcases Bool.eq_false_or_eq_true (rpB n q k) with h | h
  · obtain ⟨h1, h2, h3⟩ := rpB_in h
    have e := iRep_eq q k.toNat fuel (by omega) (by have := fuel_ge; omega)
    rw [show ((k.toNat : Nat) : Int) = k by omega] at e
    rw [h, ite_f (show (!true) = false from rfl), bnd1_eq e, bnd1_eq (iTree_eq (repB_WF h1 k.toNat) (by omega) (by have := rp_sz h; omega))]
    rfl
  · rw [h]; rfl
theorem sRepeatTree_eq (n q k : Int) : F_spec_RepeatTree n q k = some (rpV n q k, rpB n q k) := by
  unfold F_spec_RepeatTree rpV
  refine jn_is (fun J => J (!(rpB n q k))) (fun J => by unfold rpB; cases isQ n q <;> rfl) ?_
  rcases Bool.eq_false_or_eq_true (rpB n q k) with h | h
  · obtain ⟨h1, h2, h3⟩ := rpB_in h
    rw [h, ite_f (show (!true) = false from rfl)]
    simp only [jn]
    refine loop_up (fun m i s => F_spec_RepeatTree_L1 q k (fun o21 => some (o21, true)) m s i) k (fun i => enc (repB q i.toNat) 0) _ ?_ ?_ (by omega) fuel (by have := fuel_ge; omega)
    · intro m i i0 i1
      obtain ⟨j, rfl⟩ := int_nat i0
      have e1 : ((j : Int) + 1).toNat = j + 1 := by omega
      have hz := repB_sz q j
      have := pow7 (k := j + 1) (by omega)
      simp only [Int.toNat_natCast, e1]
      rw [F_spec_RepeatTree_L1, ite_t (decide_eq_true i1), bnd1_eq (sJoin_eq q (repB_nd q j) (by omega)), chk_pos (by unfold I64; omega)]
      rfl
    · intro m
      try simp only
      rw [F_spec_RepeatTree_L1, ite_f (decide_eq_false (by omega))]
      rfl
  · rw [h]; rfl
theorem rep_good {n q k : Int} (h : rpB n q k = true) : (rootN n (rpV n q k)).2 = true ∧ ((rpV n q k).length : Int) + 1 = 2 ^ (k.toNat + 1) := by
  obtain ⟨h1, h2, h3⟩ := rpB_in h
  have hq := isQ_in h1
  have hz := repB_sz q k.toNat
  unfold rpV
  rw [h]
  refine ⟨enc_root (repB_WF h1 k.toNat) (by omega) (rp_sz h) hq.1.2.1 hq.1.2.2, ?_⟩
  show ((enc (repB q k.toNat) 0).length : Int) + 1 = _
  rw [enc_len]
  have e : ((2 ^ (k.toNat + 1) : Nat) : Int) = 2 ^ (k.toNat + 1) := by norm_cast
  rw [← e, ← hz]; rfl
theorem nodes9_ok {bs : List Int} {n : Int} (hy : okY bs) (hn : 0 ≤ n) (hn2 : n ≤ 13) : ∀ (d g : Nat) (p s : Int), d ≤ 5 → d < g → 0 ≤ p → p + 16 * 2 ^ d ≤ 600000001000 → ∃ b p' s', F_p_spec_l1Cur_nodes9 g bs p s n (d : Int) = some (enc b 0, bs, p', s') ∧ (∃ q y z, b = .nd q y z) ∧ szB b + 1 ≤ 2 ^ (d + 1) ∧ p ≤ p' ∧ p' + 8 ≤ p + 8 * 2 ^ d := by
  have a1 := maxN_in (a := n) (b := 0)
  have a2 := minN_in (a := maxN n 0) (b := 12)
  have hsh := small_shl (k := minN (maxN n 0) 12) (by omega) (by omega)
  intro d
  induction d with
  | zero =>
    intro g p s h1 h2 h3 h4
    obtain ⟨g, rfl⟩ : ∃ x, g = x + 1 := ⟨g - 1, by omega⟩
    rw [F_p_spec_l1Cur_nodes9]
    exact ⟨.nd 0 .nil .nil, p, s, rfl, ⟨_, _, _, rfl⟩, by decide, Int.le_refl _, by omega⟩
  | succ d ih =>
    intro g p s h1 h2 h3 h4
    obtain ⟨g, rfl⟩ : ∃ x, g = x + 1 := ⟨g - 1, by omega⟩
    have hp : (1 : Int) ≤ 2 ^ d := Int.pow_pos (by decide)
    have hp2 : (2 : Int) ^ (d + 1) = 2 * 2 ^ d := by rw [Int.pow_succ]; omega
    have hp5 : (2 : Int) ^ d ≤ 32 := by
      have : d ≤ 4 := by omega
      match d, this with
      | 0, _ | 1, _ | 2, _ | 3, _ | 4, _ => decide
    rw [F_p_spec_l1Cur_nodes9]
    unfold F_p_spec_l1Cur_nodes9_B
    simp only [jn]
    obtain ⟨v, p1, s1, e1, g0, g1⟩ := one_ok (s := s) (n := 4) hy h3 (by omega)
    rw [ite_f (by simp; omega), bnd4_eq e1]
    cases v with
    | true => exact ⟨.nd 0 .nil .nil, p1, s1, rfl, ⟨_, _, _, rfl⟩, by have : 1 ≤ 2 ^ d := Nat.two_pow_pos d; rw [Nat.pow_succ, Nat.pow_succ]; simp only [szB]; omega, g0, by omega⟩
    | false =>
      obtain ⟨q, p2, s2, e2, k0, k1, k2, k3⟩ := pick_ok (s := s1) (n := (1 : Int) * 2 ^ Int.toNat (minN (maxN n 0) 12)) hy (p := p1) (by omega) (by omega)
      obtain ⟨b1, p3, s3, e3, f1, f2, f3, f4⟩ := ih g p2 s2 (by omega) (by omega) (by omega) (by omega)
      obtain ⟨b2, p4, s4, e4, i1, i2, i3, i4⟩ := ih g p3 s3 (by omega) (by omega) (by omega) (by omega)
      have hz : 2 ^ (d + 1) ≤ 64 := Nat.le_trans (Nat.pow_le_pow_right (by decide) (show d + 1 ≤ 6 by omega)) (by decide)
      rw [ite_f rfl, chk_pos hsh, bnd4_eq e2, chk_pos (by unfold I64; omega), show ((d + 1 : Nat) : Int) - 1 = (d : Int) by omega, bnd4_eq e3, bnd4_eq e4, bnd1_eq (sJoin_eq q f1 (by omega))]
      refine ⟨.nd q b1 b2, p4, s4, rfl, ⟨_, _, _, rfl⟩, ?_, by omega, by omega⟩
      obtain ⟨x, y, z, rfl⟩ := f1
      rw [szB, Nat.pow_succ]; omega
theorem tree9_ok {bs : List Int} {p s n : Int} (hy : okY bs) (h0 : 0 ≤ p) (h1 : p ≤ 500000000000) (hn : 0 ≤ n) (hn2 : n ≤ 13) : ∃ t p' s', F_p_spec_l1Cur_tree9 bs p s n = some (t, bs, p', s') ∧ t.length ≤ 200 ∧ p ≤ p' ∧ p' ≤ p + 1000 := by
  unfold F_p_spec_l1Cur_tree9
  obtain ⟨d, p1, s1, e1, g0, g1, g2⟩ := among_ok (s := s) (xs := [(3 : Int), (2 : Int), (4 : Int), (1 : Int), (0 : Int), (5 : Int)]) hy h0 (by omega) (by decide)
  simp only [List.mem_cons, List.not_mem_nil, or_false] at g2
  obtain ⟨d, rfl⟩ : ∃ k : Nat, d = k := ⟨d.toNat, by omega⟩
  have hd5 : d ≤ 5 := by omega
  have hb0 : (2 : Int) ^ d ≤ 32 := by
    match d, hd5 with
    | 0, _ | 1, _ | 2, _ | 3, _ | 4, _ | 5, _ => decide
  obtain ⟨b, p2, s2, e2, k0, k1, k2, k3⟩ := nodes9_ok hy hn hn2 d fuel p1 s1 (by omega) (by have := fuel_ge; omega) (by omega) (by omega)
  have hb : szB b ≤ 63 ∧ (2 : Int) ^ d ≤ 32 := by
    revert k1
    match d, hd5 with
    | 0, _ | 1, _ | 2, _ | 3, _ | 4, _ | 5, _ => exact fun h => ⟨by omega, by decide⟩
  have hlen : (enc b 0).length = szB b := enc_len _ _
  have hpos : 1 ≤ (enc b 0).length := by
    obtain ⟨x, y, z, rfl⟩ := k0
    rw [hlen]
    cases y with
    | nil => exact Nat.le_refl _
    | nd _ _ _ => rw [szB]; omega
  rw [bnd4_eq e1, bnd4_eq e2]
  let Q : Option (List Nd × List Int × Int × Int) → Prop := fun o => ∃ t p' s', o = some (t, bs, p', s') ∧ t.length ≤ 200 ∧ p ≤ p' ∧ p' ≤ p + 1000
  have fin : ∀ (t : List Nd) (pp ss : Int), 1 ≤ t.length → t.length ≤ 127 → p ≤ pp → pp ≤ p + 500 → Q (jn (fun (o500d : List Int) (o500e : Int) (o500g : Int) (o10230b : List Nd) => some (o10230b, o500d, o500e, o500g)) (fun J1 => bnd4 (F_p_spec_l1Cur_pick bs pp ss (40 : Int)) fun r43 r43b r43c r43d => (bif r43 == (0 : Int) then bnd4 (F_p_spec_l1Cur_pick r43b r43c r43d ((List.length t : Nat) : Int)) fun r52 r52b r52c r52d => bnd4 (F_p_spec_l1Cur_among r52b r52c r52d [(-1 : Int), (0 : Int), (1 : Int), (4096 : Int)]) fun r55 r55b r55c r55d => chk (0 ≤ r52 ∧ r52 < ((List.length t : Nat) : Int)) <| J1 r55b r55c r55d (List.set t (Int.toNat r52) (r55, ((List.getD t (Int.toNat r52) (0, 0, 0)).2.1), ((List.getD t (Int.toNat r52) (0, 0, 0)).2.2))) else (bif r43 == (1 : Int) then bnd4 (F_p_spec_l1Cur_pick r43b r43c r43d ((List.length t : Nat) : Int)) fun r66 r66b r66c r66d => bnd4 (F_p_spec_l1Cur_among r66b r66c r66d [(-1 : Int), (0 : Int), (1 : Int), (2 : Int), ((List.length t : Nat) : Int)]) fun r72 r72b r72c r72d => chk (0 ≤ r66 ∧ r66 < ((List.length t : Nat) : Int)) <| J1 r72b r72c r72d (List.set t (Int.toNat r66) (((List.getD t (Int.toNat r66) (0, 0, 0)).1), ((List.getD t (Int.toNat r66) (0, 0, 0)).2.1), r72)) else (bif r43 == (2 : Int) then chk (((List.length t) + 1) * 24 ≤ 140737488355328 ∧ (List.length t) + 1 ≤ maxLen) <| J1 r43b r43c r43d (t ++ [((-1 : Int), (-1 : Int), (-1 : Int))]) else J1 r43b r43c r43d t))))) := by
    intro t pp ss t0 t1 q0 q1
    simp only [jn]
    obtain ⟨v, p3, s3, e3, f0, f1, f2, f3⟩ := pick_ok (s := ss) (n := 40) hy (p := pp) (by omega) (by omega)
    obtain ⟨w, p4, s4, e4, i0, i1, i2, i3⟩ := pick_ok (s := s3) (n := ((List.length t : Nat) : Int)) hy (p := p3) (by omega) (by omega)
    have hw := i3 (by omega)
    rw [bnd4_eq e3]
    rcases Bool.eq_false_or_eq_true (v == (0 : Int)) with h | h
    · obtain ⟨x, p5, s5, e5, j0, j1, j2⟩ := among_ok (s := s4) (xs := [(-1 : Int), (0 : Int), (1 : Int), (4096 : Int)]) hy (p := p4) (by omega) (by omega) (by decide)
      rw [ite_t h, bnd4_eq e4, bnd4_eq e5, chk_pos ⟨i2, hw⟩]
      exact ⟨_, _, _, rfl, by rw [List.length_set]; omega, by omega, by omega⟩
    · rw [ite_f h]
      rcases Bool.eq_false_or_eq_true (v == (1 : Int)) with h | h
      · obtain ⟨x, p5, s5, e5, j0, j1, j2⟩ := among_ok (s := s4) (xs := [(-1 : Int), (0 : Int), (1 : Int), (2 : Int), ((List.length t : Nat) : Int)]) hy (p := p4) (by omega) (by omega) (by simp)
        rw [ite_t h, bnd4_eq e4, bnd4_eq e5, chk_pos ⟨i2, hw⟩]
        exact ⟨_, _, _, rfl, by rw [List.length_set]; omega, by omega, by omega⟩
      · rw [ite_f h]
        rcases Bool.eq_false_or_eq_true (v == (2 : Int)) with h | h
        · rw [ite_t h, chk_pos ⟨by omega, by simp only [maxLen]; omega⟩]
          exact ⟨_, _, _, rfl, by rw [List.length_append]; show t.length + 1 ≤ 200; omega, by omega, by omega⟩
        · rw [ite_f h]
          exact ⟨_, _, _, rfl, by omega, by omega, by omega⟩
  have f := fun t pp ss => fin t pp ss
  simp only [jn] at f ⊢
  obtain ⟨v, p3, s3, e3, f0, f1, f2, f3⟩ := pick_ok (s := s2) (n := 4) hy (p := p2) (by omega) (by omega)
  rw [bnd4_eq e3]
  have stay : ∀ pp ss, p ≤ pp → pp ≤ p + 500 → Q _ := fun pp ss q0 q1 => f (enc b 0) pp ss hpos (by omega) q0 q1
  rcases Bool.eq_false_or_eq_true (v == (0 : Int)) with h | h
  · rw [ite_t h, bnd2_eq (sHalvingTree_eq n)]
    rcases Bool.eq_false_or_eq_true (hvB n) with h2 | h2
    · obtain ⟨q1, q2⟩ := hvB_in h2
      have hl := hvV_len n
      have hl1 : 1 ≤ (hvV n).length := by
        have := (halv_WF q1 q2).pos
        unfold hvV; rw [h2]; show 1 ≤ (enc _ 0).length; rw [enc_len]; exact this
      rw [ite_t h2]
      exact f (hvV n) p3 s3 hl1 (by omega) (by omega) (by omega)
    · rw [ite_f h2]
      exact stay p3 s3 (by omega) (by omega)
  · rw [ite_f h]
    rcases Bool.eq_false_or_eq_true (v == (1 : Int)) with h | h
    · obtain ⟨q, p4, s4, e4, i0, i1, i2, i3⟩ := question_ok (s := s3) (n := n) hy (p := p3) (by omega) (by omega)
      obtain ⟨w, p5, s5, e5, j0, j1, j2, j3⟩ := pick_ok (s := s4) (n := 4) hy (p := p4) (by omega) (by omega)
      rw [ite_t h, bnd4_eq e4, bnd4_eq e5, bnd2_eq (sRepeatTree_eq n q w)]
      rcases Bool.eq_false_or_eq_true (rpB n q w) with h2 | h2
      · have hl := rpV_len n q w
        have hl1 : 1 ≤ (rpV n q w).length := by
          have := (repB_WF (rpB_in h2).1 w.toNat).pos
          unfold rpV; rw [h2]; show 1 ≤ (enc _ 0).length; rw [enc_len]; exact this
        rw [ite_t h2]
        exact f (rpV n q w) p5 s5 hl1 hl (by omega) (by omega)
      · rw [ite_f h2]
        exact stay p5 s5 (by omega) (by omega)
    · rw [ite_f h]
      exact stay p3 s3 (by omega) (by omega)
theorem drawGood_ok {bs : List Int} (hy : okY bs) : ∃ n t m, F_spec_DrawIsGoodTree bs = some (n, t, m) ∧ t.length ≤ 200 := by
  unfold F_spec_DrawIsGoodTree
  obtain ⟨n, p1, s1, e1, g0, g1, g2, g3⟩ := many_ok (s := 0) (p := 0) hy (by omega) (by omega)
  obtain ⟨t, p2, s2, e2, k0, k1, k2⟩ := tree9_ok (s := s1) (p := p1) hy (by omega) (by omega) g2 g3
  obtain ⟨m, p3, s3, e3, _⟩ := lies_ok (s := s2) (p := p2) hy (by omega) (by omega)
  rw [bnd4_eq e1, bnd4_eq e2, bnd4_eq e3]
  exact ⟨_, _, _, rfl, k0⟩
theorem drawTrue_ok {bs : List Int} (hy : okY bs) : ∃ n t s, F_spec_DrawTrueLeaf bs = some (n, t, s) ∧ t.length ≤ 200 := by
  unfold F_spec_DrawTrueLeaf
  obtain ⟨n, p1, s1, e1, g0, g1, g2, g3⟩ := many_ok (s := 0) (p := 0) hy (by omega) (by omega)
  obtain ⟨t, p2, s2, e2, k0, k1, k2⟩ := tree9_ok (s := s1) (p := p1) hy (by omega) (by omega) g2 g3
  have hm := maxN_in (a := 1) (b := n)
  obtain ⟨v, p3, s3, e3, f0, f1, f2, f3⟩ := pick_ok (s := s2) (n := maxN 1 n) hy (p := p2) (by omega) (by omega)
  obtain ⟨w, p4, s4, e4, i0, i1, i2, i3⟩ := pick_ok (s := s3) (n := 24) hy (p := p3) (by omega) (by omega)
  obtain ⟨x, p5, s5, e5, j0, j1, j2, j3⟩ := pick_ok (s := s4) (n := 24) hy (p := p4) (by omega) (by omega)
  have h1 := f3 (by omega)
  have h2 := i3 (by omega)
  have h3 := j3 (by omega)
  have d1 : 0 ≤ Int.tdiv w 23 ∧ Int.tdiv w 23 ≤ 24 := by rw [Int.tdiv_eq_ediv_of_nonneg i2]; omega
  have d2 : 0 ≤ Int.tdiv x 23 ∧ Int.tdiv x 23 ≤ 24 := by rw [Int.tdiv_eq_ediv_of_nonneg j2]; omega
  rw [bnd4_eq e1, bnd4_eq e2, bnd4_eq e3, bnd4_eq e4, chk_pos (by unfold I64; omega), chk_pos (by unfold I64; omega), bnd4_eq e5, chk_pos (by unfold I64; omega), chk_pos (by unfold I64; omega)]
  exact ⟨_, _, _, rfl, k0⟩
theorem node9_ok {bs : List Int} {p s : Int} {t : List Nd} (hy : okY bs) (h0 : 0 ≤ p) (h1 : p ≤ 700000000000) : ∃ v p' s', F_p_spec_l1Cur_node9 bs p s t = some (v, bs, p', s') ∧ p ≤ p' ∧ p' ≤ p + 10 := by
  unfold F_p_spec_l1Cur_node9
  obtain ⟨b, p1, s1, e1, g0, g1⟩ := one_ok (s := s) (n := 24) hy h0 (by omega)
  rw [bnd4_eq e1]
  cases b with
  | true =>
    obtain ⟨x, p5, s5, e5, j0, j1, j2⟩ := among_ok (s := s1) (xs := [(-1 : Int), ((List.length t : Nat) : Int), (4611686018427387904 : Int)]) hy (p := p1) (by omega) (by omega) (by simp)
    rw [ite_t rfl, bnd4_eq e5]
    exact ⟨_, _, _, rfl, by omega, by omega⟩
  | false =>
    obtain ⟨w, p4, s4, e4, i0, i1, i2, i3⟩ := pick_ok (s := s1) (n := maxN 1 ((List.length t : Nat) : Int)) hy (p := p1) (by omega) (by omega)
    rw [ite_f rfl, bnd4_eq e4]
    exact ⟨_, _, _, rfl, by omega, by omega⟩
theorem drawState_ok {bs : List Int} (hy : okY bs) : ∃ n t v m, F_spec_DrawStateAt bs = some (n, t, v, m) ∧ t.length ≤ 200 := by
  unfold F_spec_DrawStateAt
  obtain ⟨n, p1, s1, e1, g0, g1, g2, g3⟩ := many_ok (s := 0) (p := 0) hy (by omega) (by omega)
  obtain ⟨t, p2, s2, e2, k0, k1, k2⟩ := tree9_ok (s := s1) (p := p1) hy (by omega) (by omega) g2 g3
  obtain ⟨v, p3, s3, e3, f0, f1⟩ := node9_ok (s := s2) (p := p2) (t := t) hy (by omega) (by omega)
  obtain ⟨m, p4, s4, e4, _⟩ := lies_ok (s := s3) (p := p3) hy (by omega) (by omega)
  rw [bnd4_eq e1, bnd4_eq e2, bnd4_eq e3, bnd4_eq e4]
  exact ⟨_, _, _, _, rfl, k0⟩
theorem drawHalf_ok {bs : List Int} (hy : okY bs) : ∃ n, F_spec_DrawHalvingTree bs = some n := by
  unfold F_spec_DrawHalvingTree F_spec_DrawBitScheme
  obtain ⟨n, p1, s1, e1, _⟩ := many_ok (s := 0) (p := 0) hy (by omega) (by omega)
  rw [bnd4_eq e1]
  exact ⟨_, rfl⟩
theorem drawRep_ok {bs : List Int} (hy : okY bs) : ∃ n q k, F_spec_DrawRepeatTree bs = some (n, q, k) := by
  unfold F_spec_DrawRepeatTree
  obtain ⟨n, p1, s1, e1, g0, g1, g2, g3⟩ := many_ok (s := 0) (p := 0) hy (by omega) (by omega)
  obtain ⟨q, p2, s2, e2, i0, i1, i2, i3⟩ := question_ok (s := s1) (n := n) hy (p := p1) (by omega) (by omega)
  obtain ⟨w, p4, s4, e4, j0, j1, j2, j3⟩ := pick_ok (s := s2) (n := 24) hy (p := p2) (by omega) (by omega)
  have h2 := j3 (by omega)
  have d1 : 0 ≤ Int.tdiv w 11 ∧ Int.tdiv w 11 ≤ 2 := by rw [Int.tdiv_eq_ediv_of_nonneg j2]; omega
  have hl : 0 < (List.take ((Int.toNat ((5 : Int) + (Int.tdiv w (11 : Int)))) - 0) [(2 : Int), (3 : Int), (1 : Int), (0 : Int), (6 : Int), (7 : Int), (-1 : Int)]).length := by
    rw [List.length_take]
    simp only [List.length_cons, List.length_nil]; omega
  obtain ⟨x, p5, s5, e5, k0, k1, k2⟩ := among_ok (s := s4) (xs := List.take ((Int.toNat ((5 : Int) + (Int.tdiv w (11 : Int)))) - 0) [(2 : Int), (3 : Int), (1 : Int), (0 : Int), (6 : Int), (7 : Int), (-1 : Int)]) hy (p := p4) (by omega) (by omega) hl
  rw [bnd4_eq e1, bnd4_eq e2, bnd4_eq e4, chk_pos (by unfold I64; omega), chk_pos (by unfold I64; omega), chk_pos ⟨by omega, by omega, by omega⟩, bnd4_eq e5]
  exact ⟨_, _, _, rfl⟩
theorem vHas_eq (xs : List Int) (x : Int) (hx : xs.length ≤ 1048576) : F_laws_vHas xs x = some (decide (x ∈ xs)) := by
  unfold F_laws_vHas
  simp only [jn]
  refine Or.elim (loop_all (fun m i => F_laws_vHas_L1 xs x (fun _ => some false) m i) (xs.length : Int) (fun i => !(xs.getD i.toNat 0 == x)) (some true) (some false) ?_ ?_ ?_ (by omega) fuel (by have := fuel_ge; omega)) ?_ ?_
  · intro m i i0 i1 hp
    rw [F_laws_vHas_L1, ite_t (decide_eq_true i1), chk_pos ⟨i0, i1⟩, ite_f (by simpa using hp), chk_pos (by unfold I64; omega)]
  · intro m i i0 i1 hp
    rw [F_laws_vHas_L1, ite_t (decide_eq_true i1), chk_pos ⟨i0, i1⟩, ite_t (by simpa using hp)]
  · intro m
    rw [F_laws_vHas_L1, ite_f (decide_eq_false (by omega))]
  · rintro ⟨e, h⟩
    rw [e, decide_eq_false]
    intro hm
    obtain ⟨i, hi, he⟩ := List.mem_iff_getElem.1 hm
    have := h (i : Int) (by omega) (by omega)
    simp [List.getD_eq_getElem?_getD, hi, he] at this
  · rintro ⟨e, i, i0, i1, i2, _⟩
    rw [e, decide_eq_true]
    simp only [Bool.not_eq_false', beq_iff_eq] at i2
    rw [← i2]
    exact getD_in (P := fun z => z ∈ xs) (by omega) fun z hz => hz
theorem true_isleaf {n : Int} {t : List Nd} {s : Int} : ∀ (d : Nat) (a : Int), Ok n t d a → leafB (ndOf t (trueN t s d a).1).1 (ndOf t (trueN t s d a).1).2.1 (ndOf t (trueN t s d a).1).2.2 = true
  | 0, a, h => by have := ok_pos h; omega
  | d + 1, a, h => by
    cases hl : leafB (ndOf t a).1 (ndOf t a).2.1 (ndOf t a).2.2 with
    | true => rw [true_leaf h hl]; exact hl
    | false =>
      obtain ⟨n1, n2, n3, n4, n5, n6, n7⟩ := ok_node h hl
      simp only [Nat.add_sub_cancel] at n3 n4 n5 n6
      rw [trueN, if_neg (by rw [hl]; simp)]
      cases hb : hasB (ndOf t a).1 s with
      | true => simp only [if_true, n2]; exact true_isleaf d _ n4
      | false => simp only [Bool.false_eq_true, if_false]; exact true_isleaf d _ n5
theorem true_ans {n : Int} {t : List Nd} {s : Int} : ∀ (d : Nat) (a : Int), Ok n t d a → ∀ x ∈ wayN t (trueN t s d a).1 d a, x.2 = hasB x.1 s
  | 0, a, h => by have := ok_pos h; omega
  | d + 1, a, h => by
    have hi := ok_in h
    cases hl : leafB (ndOf t a).1 (ndOf t a).2.1 (ndOf t a).2.2 with
    | true =>
      rw [true_leaf h hl, way_suc, if_pos rfl]
      intro x hx; cases hx
    | false =>
      obtain ⟨n1, n2, n3, n4, n5, n6, n7⟩ := ok_node h hl
      simp only [Nat.add_sub_cancel] at n3 n4 n5 n6
      have e4 := ok_end n4
      have e5 := ok_end n5
      rw [trueN, if_neg (by rw [hl]; simp)]
      cases hb : hasB (ndOf t a).1 s with
      | true =>
        simp only [if_true, n2]
        obtain ⟨g1, g2, g3, g4, g5⟩ := true_way (s := s) d (a + 1) n4
        intro x hx
        rw [way_suc, if_neg (by omega), if_pos (by omega), n2, decide_eq_true (by omega)] at hx
        rcases List.mem_cons.1 hx with rfl | hx
        · exact hb.symm
        · exact true_ans d _ n4 x hx
      | false =>
        simp only [Bool.false_eq_true, if_false]
        obtain ⟨g1, g2, g3, g4, g5⟩ := true_way (s := s) d (ndOf t a).2.2 n5
        intro x hx
        rw [way_suc, if_neg (by omega), if_neg (by omega), decide_eq_false (by omega)] at hx
        rcases List.mem_cons.1 hx with rfl | hx
        · exact hb.symm
        · exact true_ans d _ n5 x hx
theorem way_isQ {n : Int} {t : List Nd} {node : Int} : ∀ (d : Nat) (a : Int), Ok n t d a → a ≤ node → node < eN n t d a → ∀ x ∈ wayN t node d a, isQ n x.1 = true
  | 0, a, h => by have := ok_pos h; omega
  | d + 1, a, h => by
    intro h1 h2 x hx
    rw [way_suc] at hx
    by_cases he : a = node
    · rw [if_pos he] at hx; cases hx
    · rw [if_neg he] at hx
      cases hl : leafB (ndOf t a).1 (ndOf t a).2.1 (ndOf t a).2.2 with
      | true => rw [ok_leaf h hl] at h2; omega
      | false =>
        obtain ⟨n1, n2, n3, n4, n5, n6, n7⟩ := ok_node h hl
        simp only [Nat.add_sub_cancel] at n3 n4 n5 n6
        rcases List.mem_cons.1 hx with rfl | hx
        · exact n1
        · by_cases hb : node < (ndOf t a).2.2
          · rw [if_pos hb, n2] at hx
            exact way_isQ d _ n4 (by omega) (by omega) x hx
          · rw [if_neg hb] at hx
            exact way_isQ d _ n5 (by omega) (by omega) x hx
theorem allP_true {n m : Int} {qa : List (Int × Bool)} {s : Nat} (hs : s < n.toNat) : ∀ k, k ≤ qa.length → (∀ x ∈ qa, x.2 = hasB x.1 (s : Int)) → (allP n m qa k).getD s 0 = 0
  | 0, _, _ => by rw [allP, List.getD_eq_getElem?_getD, List.getElem?_replicate, if_pos hs]; rfl
  | k + 1, hk, hx => by
    have ih := allP_true (n := n) (m := m) hs k (by omega) hx
    have hl := allP_len (n := n) (m := m) (qa := qa) k
    have hq : (qa.getD k (0, false)).2 = hasB (qa.getD k (0, false)).1 (s : Int) := hx _ (by
      rw [List.getD_eq_getElem?_getD, List.getElem?_eq_getElem (by omega)]; exact List.getElem_mem _)
    rw [allP_succ]
    unfold ansN
    have e : (afterN m (fun k_1 => falseB (qa.getD k (0, false)).1 (qa.getD k (0, false)).2 (k_1 : Int)) (allP n m qa k)).getD s 0 = lieN m (falseB (qa.getD k (0, false)).1 (qa.getD k (0, false)).2 (s : Int)) ((allP n m qa k).getD s 0) := by
      simp [afterN, hl, hs]
    rw [e, ih, lie_no (by unfold falseB; rw [hq]; simp)]
theorem allN_isState {n m : Int} {qa : List (Int × Bool)} (h1 : 1 ≤ n) (h2 : n ≤ 12) (h3 : 0 ≤ m) (h4 : m ≤ 2) : isStateN (allN n m qa) m = true := by
  have ho := okS_allN (n := n) (m := m) (qa := qa) h2 h3 h4
  have hl := allN_len (n := n) (m := m) (qa := qa)
  exact isStateN_iff.2 ⟨⟨by omega, by omega⟩, ⟨h3, h4⟩, fun i _ => ho.2.2.2 i⟩
theorem tl_facts {n s : Int} {t : List Nd} (h : tlB n t s = true) : (rootN n t).2 = true ∧ numB n s = true ∧ 0 ≤ tlN n t s ∧ tlN n t s < (t.length : Int) ∧ ndB n t (tlN n t s) = true ∧ saB n t (tlN n t s) 0 = true ∧ isStateN (saL n t (tlN n t s) 0) (saM n t (tlN n t s) 0) = true ∧ s ∈ openN (saL n t (tlN n t s) 0) ∧ (t.getD (tlN n t s).toNat (0, 0, 0)).2.1 = -1 ∧ dpN n t (tlN n t s) = (trueN t s 7 0).2 := by
  have h0 := h
  unfold tlB at h
  simp only [Bool.and_eq_true] at h
  have hr := root_ok h.1
  have hn := numB_in h.2
  have hw := true_way7 h.1 s
  have e : tlN n t s = (trueN t s 7 0).1 := by unfold tlN; rw [if_pos h0]
  have hnd : ndB n t (tlN n t s) = true := by
    unfold ndB; rw [h.1, e]; simp; omega
  have hsa := sa_yes (m := 0) hnd (by decide)
  have hlf := true_isleaf (s := s) 7 0 hr.1
  have hle := leaf_eq hlf
  refine ⟨h.1, h.2, by rw [e]; exact hw.1, by rw [e]; exact hw.2.1, hnd, hsa.1, ?_, ?_, ?_, ?_⟩
  · rw [hsa.2.1, hsa.2.2]; exact allN_isState hr.2.2.1 hr.2.2.2.1 (by omega) (by omega)
  · rw [hsa.2.1, openN_fl, mem_fl]
    obtain ⟨k, rfl⟩ : ∃ k : Nat, s = k := ⟨s.toNat, by omega⟩
    have hl : (atN n t (tlN n t k) 0).length = n.toNat := allN_len
    refine ⟨k, by omega, ?_, rfl⟩
    have := allP_true (n := n) (m := 0) (qa := wayN t (tlN n t k) 7 0) (s := k) (by omega) _ (Nat.le_refl _) (by rw [e]; exact true_ans 7 0 hr.1)
    unfold atN allN
    rw [this]; rfl
  · rw [e]; exact hle.2.1
  · unfold dpN; rw [if_pos hnd, e]; exact hw.2.2.2.2
theorem mn_facts {n : Int} {t : List Nd} (h : (rootN n t).2 = true) : mnA n t * n = sumN (depN t) n.toNat * mnB n t ∧ 0 ≤ mnA n t ∧ mnA n t ≤ 84 ∧ 0 ≤ mnB n t ∧ mnB n t ≤ 12 ∧ 0 ≤ sumN (depN t) n.toNat ∧ sumN (depN t) n.toNat ≤ 84 := by
  have hr := root_ok h
  have hb := dep_bd h n.toNat
  unfold mnA mnB
  rw [if_pos h, if_pos h]
  obtain ⟨S, hS⟩ : ∃ S : Nat, sumN (depN t) n.toNat = S := ⟨(sumN (depN t) n.toNat).toNat, by omega⟩
  obtain ⟨N, rfl⟩ : ∃ N : Nat, n = N := ⟨n.toNat, by omega⟩
  rw [hS] at hb ⊢
  have hg : Int.gcd (S : Int) (N : Int) = Nat.gcd S N := rfl
  have hgp : 0 < Nat.gcd S N := Nat.gcd_pos_of_pos_right _ (by omega)
  have this : S / Nat.gcd S N * N = S * (N / Nat.gcd S N) := by
    rw [← Nat.mul_div_assoc _ (Nat.gcd_dvd_right S N), Nat.mul_comm, ← Nat.mul_div_assoc _ (Nat.gcd_dvd_left S N), Nat.mul_comm N S]
  have k1 : S / Nat.gcd S N ≤ S := Nat.div_le_self _ _
  have k2 : N / Nat.gcd S N ≤ N := Nat.div_le_self _ _
  have t1 : Int.tdiv (S : Int) ((Nat.gcd S N : Nat) : Int) = ((S / Nat.gcd S N : Nat) : Int) := rfl
  have t2 : Int.tdiv (N : Int) ((Nat.gcd S N : Nat) : Int) = ((N / Nat.gcd S N : Nat) : Int) := rfl
  rw [hg, t1, t2, IntKind.wrap_i64, IntKind.wrap_i64]
  generalize S / Nat.gcd S N = A at this k1
  generalize N / Nat.gcd S N = B at this k2
  have hN : N ≤ 12 := by omega
  have hS2 : S ≤ 84 := by rw [Int.toNat_natCast] at hb; omega
  clear hb hg hgp t1 t2
  have w1 : ((A : Int) + 9223372036854775808) % 18446744073709551616 - 9223372036854775808 = (A : Int) := by omega
  have w2 : ((B : Int) + 9223372036854775808) % 18446744073709551616 - 9223372036854775808 = (B : Int) := by omega
  rw [w1, w2]
  exact ⟨by exact_mod_cast this, by omega, by omega, by omega, by omega, by omega, by omega⟩
theorem depth_loop {n : Int} {t : List Nd} (h : (rootN n t).2 = true) (J : Int → Option Bool) : F_laws_FnGoodTrees_L1 n t J fuel 0 0 = J (sumN (depN t) n.toNat) := by
  have hr := root_ok h
  refine loop_up (fun m i s => F_laws_FnGoodTrees_L1 n t J m i s) n (fun i => sumN (depN t) i.toNat) _ ?_ ?_ (by omega) fuel (by have := fuel_ge; omega)
  · intro m i i0 i1
    obtain ⟨j, rfl⟩ := int_nat i0
    have e1 : ((j : Int) + 1).toNat = j + 1 := by omega
    have htl : tlB n t (j : Int) = true := by unfold tlB numB; rw [h]; simp; omega
    obtain ⟨f1, f2, f3, f4, f5, f6, f7, f8, f9, f10⟩ := tl_facts htl
    have hb := dep_bd h j
    have hw := true_way7 h (j : Int)
    simp only [Int.toNat_natCast, e1]
    rw [F_laws_FnGoodTrees_L1, ite_t (decide_eq_true i1)]
    refine jn_is (fun K => K false) (fun K => by rw [htl, f5]; rfl) ?_
    simp only [nam]
    rw [ite_f rfl, f10, chk_pos (by unfold I64; omega), chk_pos (by unfold I64; omega)]
    rfl
  · intro m
    try simp only
    rw [F_laws_FnGoodTrees_L1, ite_f (decide_eq_false (by omega))]
theorem law_goodtrees {bs : List Int} (hy : okY bs) (hb : bs.length ≤ 9223372036854775807) : F_laws_FnGoodTrees bs = some true := by
  unfold F_laws_FnGoodTrees
  rw [chk_pos hb]
  rcases Bool.eq_false_or_eq_true (decide (((List.length bs : Nat) : Int) > (65536 : Int))) with hB | hB
  · rw [ite_t hB]
  rw [ite_f hB]
  have hB := of_decide_eq_false hB
  obtain ⟨n1, t1, m1, e1, l1⟩ := drawGood_ok hy
  obtain ⟨n2, t2, s2, e2, l2⟩ := drawTrue_ok (okY_cut hy (k := 1) (by omega) (by omega))
  obtain ⟨n3, t3, v3, m3, e3, l3⟩ := drawState_ok (okY_cut hy (k := 2) (by omega) (by omega))
  obtain ⟨k, e4⟩ := drawHalf_ok hy
  obtain ⟨n5, q5, k5, e5⟩ := drawRep_ok hy
  rw [bnd3_eq e1, chk_pos (by omega), chk_pos (by omega), bnd3_eq e2, chk_pos (by omega), bnd4_eq e3, chk_pos (by omega), bnd1_eq e4, bnd2_eq (iHalvingTree_eq k), bnd2_eq (sHalvingTree_eq k), bnd3_eq e5, bnd2_eq (iRepeatTree_eq n5 q5 k5), bnd2_eq (sRepeatTree_eq n5 q5 k5)]
  have hl1 := hvV_len k
  have hl2 := rpV_len n5 q5 k5
  have hl3 := saL_len (n := n3) (t := t3) (x := v3) (m := m3)
  refine jn_is (fun J => J false) (fun J => ?_) ?_
  · simp only [chk_pos (show (saL n3 t3 v3 m3).length ≤ 9223372036854775807 by omega), bnd1_eq (vTree_eq _ (show (hvV k).length ≤ 1048576 by omega)), bnd1_eq (vTree_eq _ (show (rpV n5 q5 k5).length ≤ 1048576 by omega)), beq_self_eq_true, Bool.not_true, cond_false]
    rcases Bool.eq_false_or_eq_true (tlB n2 t2 s2) with h | h
    · rw [h, (tl_facts h).1]; rfl
    · rw [h]; rfl
  rw [ite_f rfl]
  refine jn_is (fun J => J false) (fun J => ?_) ?_
  · rcases Bool.eq_false_or_eq_true (mlB n1 t1 m1) with h | h
    · unfold gtB mlV
      rw [h, if_pos rfl]; simp
    · rw [h]; rfl
  rw [ite_f rfl]
  refine jn_is (fun J => J ()) (fun J => ?_) ?_
  · rcases Bool.eq_false_or_eq_true (tlB n2 t2 s2) with h | h
    · obtain ⟨f1, f2, f3, f4, f5, f6, f7, f8, f9, f10⟩ := tl_facts h
      have hsl := saL_len (n := n2) (t := t2) (x := tlN n2 t2 s2) (m := 0)
      have hop : opV (saL n2 t2 (tlN n2 t2 s2) 0) (saM n2 t2 (tlN n2 t2 s2) 0) = openN (saL n2 t2 (tlN n2 t2 s2) 0) := by unfold opV; rw [f7]; rfl
      have hol := openN_len (saL n2 t2 (tlN n2 t2 s2) 0)
      rw [ite_t h, chk_pos (by omega), bnd2_eq (iOpenNumbers_eq _ _ (by omega)), f7, hop]
      refine jn_is (fun K => K false) (fun K => ?_) (ite_f rfl _ _)
      rw [ite_f (by rw [f6]; rfl), ite_f (show (!true) = false from rfl), bnd1_eq (vHas_eq _ _ (by omega)), decide_eq_true f8, ite_f (show (!true) = false from rfl), chk_pos ⟨f3, f4⟩, f9]
      rfl
    · rw [ite_f h]
  refine jn_is (fun J => J ()) (fun J => ?_) ?_
  · rcases Bool.eq_false_or_eq_true (rootN n2 t2).2 with h | h
    · obtain ⟨g1, g2, g3, g4, g5, g6, g7⟩ := mn_facts h
      have hr := root_ok h
      rw [ite_t h]
      refine jn_is (fun K => K (sumN (depN t2) n2.toNat)) (fun K => depth_loop h K) ?_
      have b1 : 0 ≤ mnA n2 t2 * n2 ∧ mnA n2 t2 * n2 ≤ 84 * 12 := ⟨Int.mul_nonneg g2 (by omega), Int.mul_le_mul g3 hr.2.2.2.1 (by omega) (by omega)⟩
      rw [← g1, chk_pos (by unfold I64; omega), chk_pos (by unfold I64; omega), ite_f (bne_self_eq_false _)]
    · rw [ite_f h]
  refine jn_is (fun J => J ()) (fun J => ?_) ?_
  · rcases Bool.eq_false_or_eq_true (saB n3 t3 v3 m3) with h | h
    · have h' := h
      unfold saB at h'
      simp only [Bool.and_eq_true] at h'
      have hn := ndB_ok h'.1
      have hr := root_ok hn.1
      have hm := most_ok h'.2
      have hsa := sa_yes (m := m3) h'.1 h'.2
      have hwy : wyN n3 t3 v3 = wayN t3 v3 7 0 := by unfold wyN; rw [if_pos h'.1]
      have hwl := wyN_len n3 t3 v3
      have haa : aaB n3 m3 (wyN n3 t3 v3) = true := by
        unfold aaB aqsB
        have hall : ((wyN n3 t3 v3).all fun a => isQ n3 a.1) = true := by
          rw [List.all_eq_true, hwy]
          intro x hx
          exact way_isQ 7 0 hr.1 hn.2.1 (by rw [hr.2.1]; exact hn.2.2) x hx
        rw [hall]; simp; omega
      have han : anL n3 m3 (wyN n3 t3 v3) = saL n3 t3 v3 m3 := by unfold anL; rw [haa, hsa.2.1]; unfold atN allN; rw [hwy]; rfl
      have ham : aaM n3 m3 (wyN n3 t3 v3) = saM n3 t3 v3 m3 := by unfold aaM; rw [haa, hsa.2.2]; rfl
      rw [ite_t h, chk_pos (by omega), bnd3_eq (iAnswerAll_eq n3 m3 _ (by omega)), han, ham, haa]
      refine jn_is (fun K => K false) (fun K => ?_) (ite_f rfl _ _)
      rw [h'.1, ite_f (show (!true) = false from rfl), ite_f (show (!true) = false from rfl), chk_pos (by omega), chk_pos (by omega)]
      simp
    · rw [ite_f h]
  refine jn_is (fun J => J ()) (fun J => ?_) ?_
  · rcases Bool.eq_false_or_eq_true (hvB k) with h | h
    · obtain ⟨h1, h2⟩ := hvB_in h
      obtain ⟨g1, g2, g3, g4⟩ := halv_good h1 h2
      rw [ite_t h, chk_pos (by omega), chk_pos (by omega)]
      refine jn_is (fun K => K false) (fun K => ?_) (ite_f rfl _ _)
      rw [g1, g2, g3, g4]
      simp
    · rw [ite_f h]
  rcases Bool.eq_false_or_eq_true (rpB n5 q5 k5) with h | h
  · obtain ⟨g1, g2⟩ := rep_good h
    obtain ⟨_, h2, h3⟩ := rpB_in h
    have hp := pow13 (n := k5 + 1) (by omega) (by omega)
    have ek : (k5 + 1).toNat = k5.toNat + 1 := by omega
    rw [h, ite_f (show (!true) = false from rfl), chk_pos (by omega), ite_t g1, chk_pos (by unfold I64; omega), chk_pos ⟨by omega, by omega, by unfold I64; omega⟩, chk_pos (by unfold I64; omega)]
    simp only [nam]
    rw [ek, Int.one_mul, ← g2]
    simp
  · rw [h]; rfl
end Go.Tl
