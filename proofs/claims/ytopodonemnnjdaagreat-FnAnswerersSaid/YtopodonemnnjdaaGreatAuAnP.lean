/-
  Plain laws of the printed functions: no program here.
-/
import Derived.Test.YtopodonemnnjdaaGreatAuAnF
namespace Go.Tl
set_option linter.unusedVariables false
set_option linter.unusedSimpArgs false
theorem loop_m {σ R : Type} (L : Nat → σ → Option R) (I : σ → Prop) (μ : σ → Nat) (Q : Option R → Prop)
  (step : ∀ n s, I s → (∃ s', I s' ∧ μ s' < μ s ∧ L (n + 1) s = L n s') ∨ Q (L (n + 1) s)) : ∀ n s, I s → μ s < n → Q (L n s) := by
 intro n
 induction n with
 | zero => intro s _ h; omega
 | succ n ih =>
  intro s hI hm
  rcases step n s hI with ⟨s', h1, h2, h3⟩ | h
  ·rw [h3]; exact ih s' h1 (by omega)
  ·exact h
theorem loop_up {σ R : Type} (L : Nat → Int → σ → Option R) (N : Int) (st : Int → σ) (r : Option R)
  (step : ∀ n i, 0 ≤ i → i < N → L (n + 1) i (st i) = L n (i + 1) (st (i + 1))) (fin : ∀ n, L (n + 1) N (st N) = r) (h0 : 0 ≤ N) (n : Nat) (hn : N.toNat < n) : L n 0 (st 0) = r := by
 have key : ∀ (k : Nat) (n : Nat) (i : Int), 0 ≤ i → i + k = N → k < n → L n i (st i) = r := by
  intro k
  induction k with
  | zero =>
   intro n i h1 h2 h3; obtain ⟨n, rfl⟩ : ∃ m, n = m + 1 := ⟨n - 1, by omega⟩; have e : i = N := by omega
   subst e; exact fin n
  | succ k ih =>
   intro n i h1 h2 h3
   obtain ⟨n, rfl⟩ : ∃ m, n = m + 1 := ⟨n - 1, by omega⟩
   rw [step n i h1 (by omega)]
   exact ih n (i + 1) (by omega) (by omega) (by omega)
 exact key N.toNat n 0 (Int.le_refl _) (by omega) hn
theorem loop_all {R : Type} (L : Nat → Int → Option R) (N : Int) (p : Int → Bool) (no yes : Option R)
  (step : ∀ n i, 0 ≤ i → i < N → p i = true → L (n + 1) i = L n (i + 1)) (stop : ∀ n i, 0 ≤ i → i < N → p i = false → L (n + 1) i = no) (fin : ∀ n, L (n + 1) N = yes) (h0 : 0 ≤ N) (n : Nat) (hn : N.toNat < n) :
  (L n 0 = yes ∧ ∀ i, 0 ≤ i → i < N → p i = true) ∨ (L n 0 = no ∧ ∃ i, 0 ≤ i ∧ i < N ∧ p i = false ∧ ∀ j, 0 ≤ j → j < i → p j = true) := by
 have key : ∀ (k : Nat) (n : Nat) (i : Int), 0 ≤ i → i + k = N → k < n → (∀ j, 0 ≤ j → j < i → p j = true) → (L n i = yes ∧ ∀ i, 0 ≤ i → i < N → p i = true) ∨ (L n i = no ∧ ∃ i, 0 ≤ i ∧ i < N ∧ p i = false ∧ ∀ j, 0 ≤ j → j < i → p j = true) := by
  intro k
  induction k with
  | zero =>
   intro n i h1 h2 h3 h4; obtain ⟨n, rfl⟩ : ∃ m, n = m + 1 := ⟨n - 1, by omega⟩; have e : i = N := by omega
   subst e; exact .inl ⟨fin n, h4⟩
  | succ k ih =>
   intro n i h1 h2 h3 h4
   obtain ⟨n, rfl⟩ : ∃ m, n = m + 1 := ⟨n - 1, by omega⟩
   cases hp : p i with
   | false => exact .inr ⟨stop n i h1 (by omega) hp, i, h1, by omega, hp, h4⟩
   | true =>
    rw [step n i h1 (by omega) hp]
    refine ih n (i + 1) (by omega) (by omega) (by omega) fun j k1 k2 => ?_
    by_cases e : j = i
    ·rw [e]; exact hp
    ·exact h4 j k1 (by omega)
 exact key N.toNat n 0 (Int.le_refl _) (by omega) hn fun j h1 h2 => by omega
theorem ite_t {α : Type} {c : Bool} (h : c = true) (x y : α) : (bif c then x else y) = x := by rw [h]; rfl
theorem ite_f {α : Type} {c : Bool} (h : c = false) (x y : α) : (bif c then x else y) = y := by rw [h]; rfl
theorem ite_c {α : Type} {P : α → Prop} {c : Bool} {x y : α} (h1 : c = true → P x) (h2 : c = false → P y) : P (bif c then x else y) := by
 cases c
 ·exact h2 rfl
 ·exact h1 rfl
theorem getD_in {xs : List Int} {i : Nat} {P : Int → Prop} (h : i < xs.length) (hP : ∀ x ∈ xs, P x) : P (xs.getD i 0) := by
 rw [List.getD_eq_getElem?_getD, List.getElem?_eq_getElem h]; exact hP _ (List.getElem_mem h)
theorem maxN_in {a b : Int} : a ≤ maxN a b ∧ b ≤ maxN a b ∧ (maxN a b = a ∨ maxN a b = b) := by unfold maxN; split <;> omega
theorem minN_in {a b : Int} : minN a b ≤ a ∧ minN a b ≤ b ∧ (minN a b = a ∨ minN a b = b) := by unfold minN; split <;> omega
theorem next_ok {bs : List Int} {p s : Int} (hy : okY bs) (h0 : 0 ≤ p) (h1 : p ≤ 1000000000000) : ∃ v s', F_p_spec_l1Cur_next bs p s = some (v, bs, p + 1, s') ∧ 0 ≤ v ∧ v ≤ 255 := by
 unfold F_p_spec_l1Cur_next
 have hb := hy p.toNat
 have fin : ∀ v3 : Int, 0 ≤ v3 → v3 ≤ 255 → ∃ v s', (chk (I64 (p + (1 : Int))) <| nam (IntKind.wrap .u64 (s * (6364136223846793005 : Int))) fun n37 => nam (IntKind.wrap .u64 (n37 + (IntKind.wrap .u64 v3))) fun n40 => (bif (decide ((p + (1 : Int)) ≤ ((List.length bs : Nat) : Int))) then some (v3, bs, (p + (1 : Int)), (IntKind.wrap .u64 (n40 + (462197 : Int)))) else nam (bits .and .u64 ((IntKind.wrap .u64 (n40 + (462197 : Int))) / 2 ^ Int.toNat (40 : Int)) (255 : Int)) fun n60 => chk (I64 n60) <| some (n60, bs, (p + (1 : Int)), (IntKind.wrap .u64 (n40 + (462197 : Int)))))) = some (v, bs, p + 1, s') ∧ 0 ≤ v ∧ v ≤ 255 := by
  intro v3 k0 k1
  rw [chk_pos (by unfold I64; omega)]
  simp only [nam]
  refine ite_c (P := fun o => ∃ v s', o = some (v, bs, p + 1, s') ∧ 0 ≤ v ∧ v ≤ 255) (fun _ => ?_) (fun _ => ?_)
  ·exact ⟨_, _, rfl, k0, k1⟩
  ·have h2 := and255 ((IntKind.wrap .u64 ((IntKind.wrap .u64 ((IntKind.wrap .u64 (s * (6364136223846793005 : Int))) + (IntKind.wrap .u64 v3))) + (462197 : Int))) / 2 ^ Int.toNat (40 : Int))
   rw [chk_pos (by unfold I64; omega)]
   exact ⟨_, _, rfl, h2.1, h2.2⟩
 simp only [jn]
 refine ite_c (P := fun o => ∃ v s', o = some (v, bs, p + 1, s') ∧ 0 ≤ v ∧ v ≤ 255) (fun h => ?_) (fun _ => ?_)
 ·have h := of_decide_eq_true h
  rw [chk_pos (by omega), chk_pos (by unfold I64; omega)]
  exact fin _ hb.1 hb.2
 ·exact fin 0 (by omega) (by omega)
theorem tmod_in {a n : Int} (h0 : 0 ≤ a) (h1 : 0 < n) : 0 ≤ Int.tmod a n ∧ Int.tmod a n < n := ⟨Int.tmod_nonneg _ h0, Int.tmod_lt_of_pos _ h1⟩
theorem pick_ok {bs : List Int} {p s n : Int} (hy : okY bs) (h0 : 0 ≤ p) (h1 : p ≤ 900000000000) : ∃ v p' s', F_p_spec_l1Cur_pick bs p s n = some (v, bs, p', s') ∧ p ≤ p' ∧ p' ≤ p + 2 ∧ 0 ≤ v ∧ (1 ≤ n → v < n) := by
 unfold F_p_spec_l1Cur_pick
 rcases Bool.eq_false_or_eq_true (decide (n ≤ (1 : Int))) with h | h
 ·have h := of_decide_eq_true h
  rw [ite_t (decide_eq_true h)]
  exact ⟨0, p, s, rfl, by omega, by omega, by omega, fun _ => by omega⟩
 ·rw [ite_f h]
  have h := of_decide_eq_false h
  obtain ⟨v, s', e, g0, g1⟩ := next_ok (s := s) hy h0 (by omega)
  rw [bnd4_eq e]
  simp only [jn]
  rcases Bool.eq_false_or_eq_true (decide (n > (200 : Int))) with h4 | h4
  ·rw [ite_t h4]
   obtain ⟨v2, s2, e2, k0, k1⟩ := next_ok (s := s') hy (p := p + 1) (by omega) (by omega)
   rw [chk_pos (by unfold I64; omega), bnd4_eq e2, chk_pos (by unfold I64; omega), chk_pos (by omega)]
   have := tmod_in (a := v * 256 + v2) (n := n) (by omega) (by omega)
   exact ⟨_, _, _, rfl, by omega, by omega, this.1, fun _ => this.2⟩
  ·rw [ite_f h4]
   rw [chk_pos (by omega)]
   have := tmod_in (a := v) (n := n) (by omega) (by omega)
   exact ⟨_, _, _, rfl, by omega, by omega, this.1, fun _ => this.2⟩
theorem one_ok {bs : List Int} {p s n : Int} (hy : okY bs) (h0 : 0 ≤ p) (h1 : p ≤ 900000000000) : ∃ b p' s', F_p_spec_l1Cur_one bs p s n = some (b, bs, p', s') ∧ p ≤ p' ∧ p' ≤ p + 2 := by
 unfold F_p_spec_l1Cur_one
 obtain ⟨v, p', s', e, g0, g1, g2, g3⟩ := pick_ok (s := s) (n := n) hy h0 h1
 rw [bnd4_eq e]
 exact ⟨_, _, _, rfl, g0, g1⟩
theorem among_ok {bs : List Int} {p s : Int} {xs : List Int} (hy : okY bs) (h0 : 0 ≤ p) (h1 : p ≤ 900000000000) (hx : 0 < xs.length) : ∃ v p' s', F_p_spec_l1Cur_among bs p s xs = some (v, bs, p', s') ∧ p ≤ p' ∧ p' ≤ p + 2 ∧ v ∈ xs := by
 unfold F_p_spec_l1Cur_among
 obtain ⟨v, p', s', e, g0, g1, g2, g3⟩ := pick_ok (s := s) (n := ((List.length xs : Nat) : Int)) hy h0 h1
 rw [bnd4_eq e, chk_pos ⟨g2, g3 (by omega)⟩]
 refine ⟨_, _, _, rfl, g0, g1, ?_⟩
 have := g3 (by omega)
 exact getD_in (P := fun x => x ∈ xs) (by omega) fun x hx => hx
theorem many_ok {bs : List Int} {p s : Int} (hy : okY bs) (h0 : 0 ≤ p) (h1 : p ≤ 900000000000) : ∃ v p' s', F_p_spec_l1Cur_many bs p s = some (v, bs, p', s') ∧ p ≤ p' ∧ p' ≤ p + 2 ∧ 0 ≤ v ∧ v ≤ 13 := by
 unfold F_p_spec_l1Cur_many
 obtain ⟨v, p', s', e, g0, g1, g2⟩ := among_ok (s := s) (xs := [(4 : Int), (6 : Int), (8 : Int), (3 : Int), (5 : Int), (2 : Int), (7 : Int), (12 : Int), (1 : Int), (0 : Int), (13 : Int), (4 : Int), (6 : Int), (8 : Int), (3 : Int), (5 : Int)]) hy h0 h1 (by decide)
 rw [bnd4_eq e]
 refine ⟨_, _, _, rfl, g0, g1, ?_⟩
 simp only [List.mem_cons, List.not_mem_nil, or_false] at g2
 omega
theorem lies_ok {bs : List Int} {p s : Int} (hy : okY bs) (h0 : 0 ≤ p) (h1 : p ≤ 900000000000) : ∃ v p' s', F_p_spec_l1Cur_lies bs p s = some (v, bs, p', s') ∧ p ≤ p' ∧ p' ≤ p + 2 ∧ -1 ≤ v ∧ v ≤ 3 := by
 unfold F_p_spec_l1Cur_lies
 obtain ⟨v, p', s', e, g0, g1, g2⟩ := among_ok (s := s) (xs := [(1 : Int), (1 : Int), (2 : Int), (0 : Int), (1 : Int), (2 : Int), (1 : Int), (3 : Int), (-1 : Int), (1 : Int), (2 : Int), (0 : Int)]) hy h0 h1 (by decide)
 rw [bnd4_eq e]
 refine ⟨_, _, _, rfl, g0, g1, ?_⟩
 simp only [List.mem_cons, List.not_mem_nil, or_false] at g2
 omega
theorem pow13 {n : Int} (h0 : 0 ≤ n) (h1 : n ≤ 13) : 1 ≤ (2 : Int) ^ n.toNat ∧ (2 : Int) ^ n.toNat ≤ 8192 := by
 obtain ⟨k, rfl⟩ : ∃ k : Nat, n = k := ⟨n.toNat, by omega⟩
 have : k ≤ 13 := by omega
 simp only [Int.toNat_natCast]
 match k, this with
 | 0, _ | 1, _ | 2, _ | 3, _ | 4, _ | 5, _ | 6, _ | 7, _ | 8, _ | 9, _ | 10, _ | 11, _ | 12, _ | 13, _ => decide
theorem question_ok {bs : List Int} {p s n : Int} (hy : okY bs) (h0 : 0 ≤ p) (h1 : p ≤ 800000000000) : ∃ v p' s', F_p_spec_l1Cur_question bs p s n = some (v, bs, p', s') ∧ p ≤ p' ∧ p' ≤ p + 4 ∧ -1 ≤ v ∧ v ≤ 4611686018427387904 := by
 unfold F_p_spec_l1Cur_question
 obtain ⟨v, p', s', e, g0, g1⟩ := one_ok (s := s) (n := 24) hy h0 (by omega)
 rw [bnd4_eq e]
 have a1 := minN_in (a := n) (b := 13)
 have a2 := maxN_in (a := 0) (b := minN n 13)
 have a3 := minN_in (a := n) (b := 12)
 have a4 := maxN_in (a := 0) (b := minN n 12)
 have b1 := pow13 (n := maxN 0 (minN n 13)) (by omega) (by omega)
 have b2 := pow13 (n := maxN 0 (minN n 12)) (by omega) (by omega)
 rcases Bool.eq_false_or_eq_true v with h4 | h4
 ·rw [ite_t h4]
  rw [chk_pos ⟨by omega, by omega, by unfold I64; omega⟩]
  obtain ⟨v2, p2, s2, e2, k0, k1, k2⟩ := among_ok (s := s') (xs := [(-1 : Int), ((1 : Int) * 2 ^ Int.toNat (maxN (0 : Int) (minN n (13 : Int)))), (4611686018427387904 : Int)]) hy (p := p') (by omega) (by omega) (by simp)
  rw [bnd4_eq e2]
  refine ⟨_, _, _, rfl, by omega, by omega, ?_⟩
  simp only [List.mem_cons, List.not_mem_nil, or_false] at k2
  omega
 ·rw [ite_f h4]
  rw [chk_pos ⟨by omega, by omega, by unfold I64; omega⟩]
  obtain ⟨v2, p2, s2, e2, k0, k1, k2, k3⟩ := pick_ok (s := s') (n := (1 : Int) * 2 ^ Int.toNat (maxN (0 : Int) (minN n (12 : Int)))) hy (p := p') (by omega) (by omega)
  rw [bnd4_eq e2]
  have := k3 (by omega)
  exact ⟨_, _, _, rfl, by omega, by omega, by omega, by omega⟩
theorem state_ok {bs : List Int} {p s : Int} (hy : okY bs) (h0 : 0 ≤ p) (h1 : p ≤ 700000000000) : ∃ xs m p' s', F_p_spec_l1Cur_state bs p s = some (xs, m, bs, p', s') ∧ p ≤ p' ∧ p' ≤ p + 100 ∧ -1 ≤ m ∧ m ≤ 3 ∧ xs.length ≤ 13 ∧ (∀ x ∈ xs, -1 ≤ x ∧ x ≤ 4) := by
 unfold F_p_spec_l1Cur_state
 obtain ⟨m, p1, s1, e1, g0, g1, g2, g3⟩ := lies_ok (s := s) hy h0 (by omega)
 obtain ⟨k, p2, s2, e2, k0, k1, k2, k3⟩ := many_ok (s := s1) hy (p := p1) (by omega) (by omega)
 rw [bnd4_eq e1, bnd4_eq e2]
 simp only [jn]
 let Q : Option (List Int × Int × List Int × Int × Int) → Prop := fun o => ∃ xs m p' s', o = some (xs, m, bs, p', s') ∧ p ≤ p' ∧ p' ≤ p + 100 ∧ -1 ≤ m ∧ m ≤ 3 ∧ xs.length ≤ 13 ∧ (∀ x ∈ xs, -1 ≤ x ∧ x ≤ 4)
 have fin2 : ∀ (xs : List Int) (pp ss : Int), p ≤ pp → pp ≤ p + 56 → xs.length = k.toNat → (∀ x ∈ xs, -1 ≤ x ∧ x ≤ 4) → Q (F_p_spec_l1Cur_state_L2 m k (fun o500d o500e o500g o12b => some (o12b, m, o500d, o500e, o500g)) fuel bs pp ss xs 0) := by
  intro xs pp ss hp1 hp2 hl hx
  refine loop_m (fun n (z : Int × Int × List Int × Int) => F_p_spec_l1Cur_state_L2 m k (fun o500d o500e o500g o12b => some (o12b, m, o500d, o500e, o500g)) n bs z.1 z.2.1 z.2.2.1 z.2.2.2) (fun z => 0 ≤ z.2.2.2 ∧ z.2.2.2 ≤ k ∧ p ≤ z.1 ∧ z.1 ≤ p + 56 + 2 * z.2.2.2 ∧ z.2.2.1.length = k.toNat ∧ ∀ x ∈ z.2.2.1, -1 ≤ x ∧ x ≤ 4) (fun z => (k - z.2.2.2).toNat) Q ?_ fuel (pp, ss, xs, 0) ⟨by simp only; omega, by simp only; omega, hp1, by simp only; omega, hl, hx⟩ (by have := fuel_ge; simp only; omega)
  rintro n ⟨pp, ss, xs, i⟩ ⟨i0, i1, q0, q1, ql, qx⟩
  simp only at i0 i1 q0 q1 ql qx ⊢
  rw [F_p_spec_l1Cur_state_L2]
  by_cases hi : i < k
  ·rw [ite_t (decide_eq_true hi)]
   simp only [jn]
   rw [chk_pos (by omega)]
   have stay : ∀ pp', p ≤ pp' → pp' ≤ p + 56 + 2 * (i + 1) → ∀ ss' (b : Bool), (∃ s' : Int × Int × List Int × Int, (0 ≤ s'.2.2.2 ∧ s'.2.2.2 ≤ k ∧ p ≤ s'.1 ∧ s'.1 ≤ p + 56 + 2 * s'.2.2.2 ∧ s'.2.2.1.length = k.toNat ∧ ∀ x ∈ s'.2.2.1, -1 ≤ x ∧ x ≤ 4) ∧ (k - s'.2.2.2).toNat < (k - i).toNat ∧
     (bif b then chk (0 ≤ i ∧ i < ((List.length xs : Nat) : Int)) <| chk (I64 (i + (1 : Int))) <| F_p_spec_l1Cur_state_L2 m k (fun o500d o500e o500g o12b => some (o12b, m, o500d, o500e, o500g)) n bs pp' ss' (List.set xs (Int.toNat i) (-1 : Int)) (i + (1 : Int)) else chk (I64 (i + (1 : Int))) <| F_p_spec_l1Cur_state_L2 m k (fun o500d o500e o500g o12b => some (o12b, m, o500d, o500e, o500g)) n bs pp' ss' xs (i + (1 : Int))) = F_p_spec_l1Cur_state_L2 m k (fun o500d o500e o500g o12b => some (o12b, m, o500d, o500e, o500g)) n bs s'.1 s'.2.1 s'.2.2.1 s'.2.2.2) := by
    intro pp' r0 r1 ss' b
    cases b
    ·rw [ite_f rfl, chk_pos (by unfold I64; omega)]
     exact ⟨(pp', ss', xs, i + 1), ⟨by simp only; omega, by simp only; omega, r0, r1, ql, qx⟩, by simp only; omega, rfl⟩
    ·rw [ite_t rfl, chk_pos (by omega), chk_pos (by unfold I64; omega)]
     refine ⟨(pp', ss', List.set xs (Int.toNat i) (-1), i + 1), ⟨by simp only; omega, by simp only; omega, r0, r1, by simp only [List.length_set]; exact ql, fun x hx => ?_⟩, by simp only; omega, rfl⟩
     rcases List.mem_or_eq_of_mem_set hx with h | h
     ·exact qx x h
     ·subst h; omega
   rcases Bool.eq_false_or_eq_true (decide (List.getD xs (Int.toNat i) 0 > m)) with h4 | h4
   ·rw [ite_t h4]
    obtain ⟨b, p4, s4, e4, w0, w1⟩ := one_ok (s := ss) (n := 30) hy (p := pp) (by omega) (by omega)
    rw [bnd4_eq e4]
    exact .inl (stay p4 (by omega) (by omega) s4 (!b))
   ·rw [ite_f h4]
    exact .inl (stay pp (by omega) (by omega) ss false)
  ·rw [ite_f (decide_eq_false hi)]
   exact .inr ⟨_, _, _, _, rfl, by omega, by omega, g2, g3, by omega, qx⟩
 refine loop_m (fun n (z : Int × Int × List Int × Int) => F_p_spec_l1Cur_state_L1 m k (fun o500 o500b o500c o12 => F_p_spec_l1Cur_state_L2 m k (fun o500d o500e o500g o12b => some (o12b, m, o500d, o500e, o500g)) fuel o500 o500b o500c o12 0) n bs z.1 z.2.1 z.2.2.1 z.2.2.2) (fun z => 0 ≤ z.2.2.2 ∧ z.2.2.2 ≤ k ∧ p ≤ z.1 ∧ z.1 ≤ p + 4 + 4 * z.2.2.2 ∧ z.2.2.1.length = z.2.2.2.toNat ∧ ∀ x ∈ z.2.2.1, -1 ≤ x ∧ x ≤ 4) (fun z => (k - z.2.2.2).toNat) Q ?_ fuel (p2, s2, [], 0) ⟨by simp, by simp only; omega, by simp only; omega, by simp only; omega, rfl, fun x hx => by simp at hx⟩ (by have := fuel_ge; simp only; omega)
 rintro n ⟨pp, ss, xs, i⟩ ⟨i0, i1, q0, q1, ql, qx⟩
 simp only at i0 i1 q0 q1 ql qx ⊢
 rw [F_p_spec_l1Cur_state_L1]
 by_cases hi : i < k
 ·rw [ite_t (decide_eq_true hi), chk_pos (by unfold I64; omega)]
  have a2 := maxN_in (a := 1) (b := m + 2)
  obtain ⟨v, p4, s4, e4, w0, w1, w2, w3⟩ := pick_ok (s := ss) (n := maxN 1 (m + 2)) hy (p := pp) (by omega) (by omega)
  obtain ⟨v5, p5, s5, e5, y0, y1, y2, y3⟩ := pick_ok (s := s4) (n := 6) hy (p := p4) (by omega) (by omega)
  have hd := d5_in y2 (y3 (by omega))
  unfold d5 at hd
  have hv := w3 (by omega)
  rw [bnd4_eq e4, bnd4_eq e5, chk_pos (by unfold I64; omega), chk_pos (by unfold I64; omega), chk_pos ⟨by omega, by simp only [maxLen]; omega⟩, chk_pos (by unfold I64; omega)]
  refine .inl ⟨(p5, s5, xs ++ [v - Int.tdiv v5 5], i + 1), ⟨by simp only; omega, by simp only; omega, by simp only; omega, by simp only; omega, by simp only [List.length_append, List.length_cons, List.length_nil]; omega, fun x hx => ?_⟩, by simp only; omega, rfl⟩
  rcases List.mem_append.1 hx with h | h
  ·exact qx x h
  ·simp only [List.mem_cons, List.not_mem_nil, or_false] at h
   omega
 ·rw [ite_f (decide_eq_false hi)]
  exact .inr (fin2 xs pp ss q0 (by omega) (by omega) qx)
theorem jn_is {γ δ : Type} {f : γ} {g : γ → Option δ} {r : Option δ} (k : γ → Option δ) (h : ∀ J, g J = k J) (h2 : k f = r) : jn f g = r := by
 unfold jn; rw [h f]; exact h2
def fl (p : Nat → Bool) (k : Nat) : List Int := ((List.range k).filter p).map fun (i : Nat) => (i : Int)
theorem fl_yes {p : Nat → Bool} {k : Nat} (h : p k = true) : fl p (k + 1) = fl p k ++ [(k : Int)] := by
 unfold fl; rw [List.range_succ, List.filter_append, List.map_append, List.filter_cons, if_pos h]; rfl
theorem fl_no {p : Nat → Bool} {k : Nat} (h : p k = false) : fl p (k + 1) = fl p k := by
 unfold fl; rw [List.range_succ, List.filter_append, List.map_append, List.filter_cons, if_neg (by rw [h]; simp)]; simp
theorem fl_len (p : Nat → Bool) (k : Nat) : (fl p k).length ≤ k := by
 unfold fl; rw [List.length_map]; exact Nat.le_trans (List.length_filter_le _ _) (by simp)
theorem mem_fl {p : Nat → Bool} {k : Nat} {x : Int} : x ∈ fl p k ↔ ∃ i : Nat, i < k ∧ p i = true ∧ x = (i : Int) := by
 unfold fl
 simp only [List.mem_map, List.mem_filter, List.mem_range]
 constructor
 ·rintro ⟨i, ⟨h1, h2⟩, rfl⟩; exact ⟨i, h1, h2, rfl⟩
 ·rintro ⟨i, h1, h2, rfl⟩; exact ⟨i, ⟨h1, h2⟩, rfl⟩
theorem openN_fl (xs : List Int) : openN xs = fl (fun i => decide (xs.getD i 0 ≥ 0)) xs.length := rfl
theorem int_nat {i : Int} (h : 0 ≤ i) : ∃ k : Nat, i = (k : Int) := ⟨i.toNat, by omega⟩
theorem has_nat {q k : Nat} (hk : k ≤ 64) : hasB (q : Int) (k : Int) = q.testBit k := by
 unfold hasB
 rw [and1, Int.toNat_natCast, Nat.min_eq_left hk, Int.fdiv_eq_ediv_of_nonneg _ (Int.le_of_lt (Int.pow_pos (by decide))), Nat.testBit_eq_decide_div_mod_eq]
 have e : (q : Int) / 2 ^ k % 2 = ((q / 2 ^ k % 2 : Nat) : Int) := by norm_cast
 rw [e]
 have : q / 2 ^ k % 2 = 0 ∨ q / 2 ^ k % 2 = 1 := by omega
 rcases this with h | h <;> rw [h] <;> rfl
theorem has_raw {q k : Int} (h0 : 0 ≤ k) (h1 : k < 64) : (bits .and .i64 (q / 2 ^ Int.toNat k) (1 : Int) == (1 : Int)) = hasB q k := by
 unfold hasB
 rw [Nat.min_eq_left (by omega), Int.fdiv_eq_ediv_of_nonneg _ (Int.le_of_lt (Int.pow_pos (by decide)))]
theorem rInts_eq (xs ys : List Int) (hx : xs.length ≤ 1048576) : F_laws_rInts xs ys = some (xs == ys) := by
 unfold F_laws_rInts
 by_cases hl : xs.length = ys.length
 ·rw [ite_f (by rw [hl]; simp)]
  simp only [jn]
  refine Or.elim (loop_all (fun m i => F_laws_rInts_L1 xs ys (fun _ => some true) m i) (xs.length : Int) (fun i => xs.getD i.toNat 0 == ys.getD i.toNat 0) (some false) (some true) ?_ ?_ ?_ (by omega) fuel (by have := fuel_ge; omega)) ?_ ?_
  ·intro m i i0 i1 hp
   rw [F_laws_rInts_L1, ite_t (decide_eq_true i1), chk_pos ⟨i0, i1⟩, chk_pos ⟨i0, by omega⟩, ite_f (by simpa [bne] using hp), chk_pos (by unfold I64; omega)]
  ·intro m i i0 i1 hp
   rw [F_laws_rInts_L1, ite_t (decide_eq_true i1), chk_pos ⟨i0, i1⟩, chk_pos ⟨i0, by omega⟩, ite_t (by simpa [bne] using hp)]
  ·intro m
   rw [F_laws_rInts_L1, ite_f (decide_eq_false (by omega))]
  ·rintro ⟨e, h⟩
   rw [e]
   have : xs = ys := by
    refine List.ext_getElem hl fun i h1 h2 => ?_
    have := h (i : Int) (by omega) (by omega)
    simp only [Int.toNat_natCast, beq_iff_eq] at this
    simpa [List.getD_eq_getElem?_getD, h1, h2] using this
   rw [this]; simp
  ·rintro ⟨e, i, i0, i1, i2, _⟩
   rw [e]
   have : (xs == ys) = false := by
    rw [beq_eq_false_iff_ne]
    intro hh
    subst hh
    simp at i2
   rw [this]
 ·rw [ite_t (by simp; omega)]
  have : (xs == ys) = false := by
   rw [beq_eq_false_iff_ne]; intro hh; exact hl (by rw [hh])
  rw [this]
def cntL (p : Int → Bool) (l : List Int) : Nat → Int
 | 0 => 0
 | i + 1 => cntL p l i + (bif p (l.getD i 0) then 1 else 0)
def sumP (l : List Int) : Nat → Int
 | 0 => 0
 | i + 1 => sumP l i + l.getD i 0
theorem sumP_set {l : List Int} {v : Nat} {x : Int} (hv : v < l.length) : ∀ n : Nat, sumP (l.set v x) n = sumP l n + (if v < n then x - l.getD v 0 else 0)
 | 0 => by simp [sumP]
 | n + 1 => by
  unfold sumP
  rw [sumP_set hv n]
  by_cases e : n = v
  ·subst e
   rw [set_getD _ _ _ _ hv, if_neg (by omega), if_pos (by omega)]; omega
  ·have : (l.set v x).getD n 0 = l.getD n 0 := by
    rw [List.getD_eq_getElem?_getD, List.getElem?_set_ne (by omega), ← List.getD_eq_getElem?_getD]
   rw [this]
   by_cases e2 : v < n
   ·rw [if_pos e2, if_pos (by omega)]; omega
   ·rw [if_neg e2, if_neg (by omega)]; omega
theorem sumP_in {l : List Int} {B : Int} (h : ∀ x ∈ l, 0 ≤ x ∧ x ≤ B) : ∀ i : Nat, i ≤ l.length → 0 ≤ sumP l i ∧ sumP l i ≤ B * i
 | 0, _ => by simp [sumP]
 | i + 1, hi => by
  have := sumP_in h i (by omega)
  have h2 := getD_in (P := fun x => 0 ≤ x ∧ x ≤ B) (i := i) (by omega) h
  unfold sumP
  have e : B * ((i + 1 : Nat) : Int) = B * i + B := by rw [Int.natCast_succ, Int.mul_add, Int.mul_one]
  rw [e]; omega
theorem openN_le (xs : List Int) : (openN xs).length ≤ xs.length := fl_len _ _
theorem state_len {xs : List Int} {m : Int} (h : isStateN xs m = true) : 1 ≤ xs.length ∧ xs.length ≤ 12 ∧ 0 ≤ m ∧ m ≤ 2 := by
 have := isStateN_iff.1 h; omega
theorem sOpenL_eq (xs : List Int) (m : Int) (hx : xs.length ≤ 1048576) : F_spec_l2Open xs m = some (openN xs) := by
 unfold F_spec_l2Open
 simp only [jn]
 rw [openN_fl]
 have hl := fun k => fl_len (fun i => decide (xs.getD i 0 ≥ 0)) k
 refine (loop_up (fun m i (s : List Int) => F_spec_l2Open_L1 xs (fun o5 => some o5) m s i) (xs.length : Int) (fun i => fl (fun i => decide (xs.getD i 0 ≥ 0)) i.toNat) _ ?_ ?_ (by omega) fuel (by have := fuel_ge; omega))
 ·intro m i i0 i1
  obtain ⟨k, rfl⟩ := int_nat i0
  have hlk := hl k
  have e1 : ((k : Int) + 1).toNat = k + 1 := by omega
  simp only [Int.toNat_natCast, e1]
  rw [F_spec_l2Open_L1, ite_t (decide_eq_true i1), chk_pos ⟨i0, i1⟩]
  simp only [Int.toNat_natCast]
  by_cases hb : xs.getD k 0 ≥ 0
  ·rw [ite_t (decide_eq_true hb), fl_yes (p := fun i => decide (xs.getD i 0 ≥ 0)) (decide_eq_true hb), chk_pos ⟨by omega, by simp only [maxLen]; omega⟩, chk_pos (by unfold I64; omega)]
  ·rw [ite_f (decide_eq_false hb), fl_no (p := fun i => decide (xs.getD i 0 ≥ 0)) (decide_eq_false hb), chk_pos (by unfold I64; omega)]
 ·intro m
  rw [F_spec_l2Open_L1, ite_f (decide_eq_false (by omega))]
  simp only [Int.toNat_natCast]
def opV (xs : List Int) (m : Int) : List Int := bif isStateN xs m then openN xs else []
theorem iOpenNumbers_eq (xs : List Int) (m : Int) (hx : xs.length ≤ 1048576) : F_impl_OpenNumbers xs m = some (opV xs m, isStateN xs m) := by
 unfold F_impl_OpenNumbers opV
 rw [chk_pos (by omega)]
 cases h : isStateN xs m with
 | false => rfl
 | true => rw [ite_f (by rfl), chk_pos (by omega), ite_t rfl]
def ctP (xs : List Int) (m : Int) (k : Nat) : List Int := (List.range (m.toNat + 1)).map fun (a : Nat) => ((((List.range k).filter fun i => xs.getD i 0 == (a : Int)).length : Nat) : Int)
def ctV (xs : List Int) (m : Int) : List Int := bif isStateN xs m then ctP xs m xs.length else []
theorem ctP_len {xs : List Int} {m : Int} {k : Nat} : (ctP xs m k).length = m.toNat + 1 := by simp [ctP]
theorem ctP_at {xs : List Int} {m : Int} {k v : Nat} (h : v ≤ m.toNat) : (ctP xs m k).getD v 0 = (((List.range k).filter fun i => xs.getD i 0 == (v : Int)).length : Int) := by
 unfold ctP
 rw [List.getD_eq_getElem?_getD, List.getElem?_map, List.getElem?_range (by omega)]; rfl
theorem ctP_zero (xs : List Int) {m : Int} (h : 0 ≤ m) : List.replicate (Int.toNat (m + 1)) (0 : Int) = ctP xs m 0 := by
 unfold ctP
 have e : (m + 1).toNat = m.toNat + 1 := by omega
 rw [e]
 refine List.ext_getElem (by simp) fun i h1 h2 => by simp
theorem ctP_no {xs : List Int} {m : Int} {k : Nat} (h : ¬ xs.getD k 0 ≥ 0) : ctP xs m (k + 1) = ctP xs m k := by
 unfold ctP
 refine List.map_congr_left fun a ha => ?_
 rw [List.range_succ, List.filter_append, List.filter_cons, if_neg (by simp only [beq_iff_eq]; omega)]; simp
theorem ctP_yes {xs : List Int} {m : Int} {k v : Nat} (h : xs.getD k 0 = (v : Int)) (hv : v ≤ m.toNat) : ctP xs m (k + 1) = List.set (ctP xs m k) v ((ctP xs m k).getD v 0 + 1) := by
 have e : ∀ i j, i < m.toNat + 1 → (ctP xs m j)[i]? = some ((((List.range j).filter fun z => xs.getD z 0 == (i : Int)).length : Nat) : Int) := fun i j hi => by
  unfold ctP; rw [List.getElem?_map, List.getElem?_range hi]; rfl
 refine List.ext_getElem? fun i => ?_
 by_cases hi : i < m.toNat + 1
 ·rw [e i (k + 1) hi, List.range_succ, List.filter_append, List.length_append, List.filter_cons, h]
  by_cases e2 : v = i
  ·subst e2
   rw [if_pos (by simp), List.getElem?_set_self (by rw [ctP_len]; exact hi), ctP_at hv]
   simp
  ·rw [if_neg (by simp only [beq_iff_eq]; omega), List.getElem?_set_ne (by omega), e i k hi]
   simp
 ·rw [List.getElem?_eq_none (by rw [ctP_len]; omega), List.getElem?_eq_none (by rw [List.length_set, ctP_len]; omega)]
theorem ctP_bd {xs : List Int} {m : Int} {k v : Nat} (h : v ≤ m.toNat) : 0 ≤ (ctP xs m k).getD v 0 ∧ (ctP xs m k).getD v 0 ≤ k := by
 rw [ctP_at h]
 have := List.length_filter_le (fun i => xs.getD i 0 == (v : Int)) (List.range k)
 rw [List.length_range] at this
 omega
theorem ct_step {xs : List Int} {m : Int} (h : isStateN xs m = true) {L : Nat → List Int → Int → Option (List Int)} {k : Nat} (i1 : (k : Int) < xs.length) (n : Nat)
  (e : L (n + 1) (ctP xs m k) k = (bif (decide ((List.getD xs k 0) ≥ (0 : Int))) then chk (0 ≤ (List.getD xs k 0) ∧ (List.getD xs k 0) < ((List.length (ctP xs m k) : Nat) : Int)) <| chk (I64 ((List.getD (ctP xs m k) (Int.toNat (List.getD xs k 0)) 0) + (1 : Int))) <| chk (I64 ((k : Int) + (1 : Int))) <| L n (List.set (ctP xs m k) (Int.toNat (List.getD xs k 0)) ((List.getD (ctP xs m k) (Int.toNat (List.getD xs k 0)) 0) + (1 : Int))) ((k : Int) + (1 : Int)) else chk (I64 ((k : Int) + (1 : Int))) <| L n (ctP xs m k) ((k : Int) + (1 : Int)))) :
  L (n + 1) (ctP xs m k) k = L n (ctP xs m (k + 1)) ((k : Int) + 1) := by
 obtain ⟨⟨l1, l2⟩, ⟨m0, m1⟩, hall⟩ := isStateN_iff.1 h
 have hk := hall k (by omega)
 rw [e]
 by_cases hb : xs.getD k 0 ≥ 0
 ·obtain ⟨v, hv⟩ := int_nat hb
  have hbd := ctP_bd (xs := xs) (m := m) (k := k) (v := v) (by omega)
  rw [ite_t (decide_eq_true hb), hv, Int.toNat_natCast, chk_pos ⟨by omega, by rw [ctP_len]; omega⟩, chk_pos (by unfold I64; omega), chk_pos (by unfold I64; omega), ctP_yes hv (by omega)]
 ·rw [ite_f (decide_eq_false hb), ctP_no hb, chk_pos (by unfold I64; omega)]
theorem ct_sum {xs : List Int} {m : Int} (h : isStateN xs m = true) : ∀ k, k ≤ xs.length → sumP (ctP xs m k) (m.toNat + 1) = ((openP xs k).length : Int)
 | 0, _ => by
  have hs := state_len h
  have : ctP xs m 0 = List.replicate (m.toNat + 1) 0 := by rw [← ctP_zero xs hs.2.2.1]; congr 1; omega
  rw [this]
  have hz : ∀ n, n ≤ m.toNat + 1 → sumP (List.replicate (m.toNat + 1) (0 : Int)) n = 0 := by
   intro n
   induction n with
   | zero => intro _; rfl
   | succ n ih => intro hn; unfold sumP; rw [ih (by omega), List.getD_eq_getElem?_getD, List.getElem?_replicate, if_pos (by omega)]; rfl
  rw [hz _ (Nat.le_refl _)]; simp [openP]
 | k + 1, hk => by
  have ih := ct_sum h k (by omega)
  obtain ⟨⟨l1, l2⟩, ⟨m0, m1⟩, hall⟩ := isStateN_iff.1 h
  have hk2 := hall k (by omega)
  by_cases hb : xs.getD k 0 ≥ 0
  ·obtain ⟨v, hv⟩ := int_nat hb
   rw [ctP_yes hv (by omega), sumP_set (by rw [ctP_len]; omega), if_pos (by omega), open_yes hb, ih, List.length_append]
   simp only [List.length_cons, List.length_nil]; omega
  ·rw [ctP_no hb, open_no hb, ih]
theorem iStCounts_eq {xs : List Int} {m : Int} (h : isStateN xs m = true) : F_impl_State_counts xs m = some (ctP xs m xs.length) := by
 have hs := state_len h
 unfold F_impl_State_counts
 rw [chk_pos (by unfold I64; omega), chk_pos ⟨by omega, by omega, by omega, by simp only [maxLen]; omega⟩]
 simp only [jn]
 rw [ctP_zero xs hs.2.2.1]
 refine (loop_up (fun n i (s : List Int) => F_impl_State_counts_L1 xs (fun o9 => some o9) n s i) (xs.length : Int) (fun i => ctP xs m i.toNat) _ ?_ ?_ (by omega) fuel (by have := fuel_ge; omega))
 ·intro n i i0 i1
  obtain ⟨k, rfl⟩ := int_nat i0
  have e1 : ((k : Int) + 1).toNat = k + 1 := by omega
  simp only [Int.toNat_natCast, e1]
  refine ct_step (L := fun n s i => F_impl_State_counts_L1 xs (fun o9 => some o9) n s i) h i1 n ?_
  rw [F_impl_State_counts_L1, ite_t (decide_eq_true i1), chk_pos ⟨i0, i1⟩]
  simp only [nam, Int.toNat_natCast]
 ·intro n
  rw [F_impl_State_counts_L1, ite_f (decide_eq_false (by omega))]
  simp only [Int.toNat_natCast]
theorem sL2Counts_eq {xs : List Int} {m : Int} (h : isStateN xs m = true) : F_spec_l2Counts xs m = some (ctP xs m xs.length) := by
 have hs := state_len h
 unfold F_spec_l2Counts
 rw [chk_pos (by unfold I64; omega), chk_pos ⟨by omega, by omega, by omega, by simp only [maxLen]; omega⟩]
 simp only [jn]
 rw [ctP_zero xs hs.2.2.1]
 refine (loop_up (fun n i (s : List Int) => F_spec_l2Counts_L1 xs (fun o9 => some o9) n s i) (xs.length : Int) (fun i => ctP xs m i.toNat) _ ?_ ?_ (by omega) fuel (by have := fuel_ge; omega))
 ·intro n i i0 i1
  obtain ⟨k, rfl⟩ := int_nat i0
  have e1 : ((k : Int) + 1).toNat = k + 1 := by omega
  simp only [Int.toNat_natCast, e1]
  refine ct_step (L := fun n s i => F_spec_l2Counts_L1 xs (fun o9 => some o9) n s i) h i1 n ?_
  rw [F_spec_l2Counts_L1, ite_t (decide_eq_true i1), chk_pos ⟨i0, i1⟩]
  simp only [nam, Int.toNat_natCast]
 ·intro n
  rw [F_spec_l2Counts_L1, ite_f (decide_eq_false (by omega))]
  simp only [Int.toNat_natCast]
theorem iCountsOf_eq (xs : List Int) (m : Int) (hx : xs.length ≤ 1048576) : F_impl_CountsOf xs m = some (ctV xs m, isStateN xs m) := by
 unfold F_impl_CountsOf ctV
 rw [chk_pos (by omega)]
 cases h : isStateN xs m with
 | false => rfl
 | true =>
  have hs := state_len h
  rw [ite_f (by rfl), ite_t rfl]
  rw [bnd1_eq (iStCounts_eq h)]
def inN (xs : List Int) (q : Int) : Int := cntL (fun k => hasB q k) (openN xs) (openN xs).length
theorem drawAnswer_ok {bs : List Int} (hy : okY bs) : ∃ xs m q y, F_spec_DrawAnswerState bs = some (xs, m, q, y) ∧ (-1 ≤ m ∧ m ≤ 3 ∧ xs.length ≤ 13 ∧ (∀ x ∈ xs, -1 ≤ x ∧ x ≤ 4)) ∧ -1 ≤ q ∧ q ≤ 4611686018427387904 := by
 unfold F_spec_DrawAnswerState
 obtain ⟨xs, m, p', s', e, h1, h2, h3, h4, h5, h6⟩ := state_ok (s := 0) (p := 0) hy (by omega) (by omega)
 obtain ⟨b, p2, s2, e2, g0, g1⟩ := one_ok (s := s') (p := p') (n := 2) hy (by omega) (by omega)
 obtain ⟨q, p3, s3, e3, k0, k1, k2, k3⟩ := question_ok (s := s2) (p := p2) (n := ((List.length xs : Nat) : Int)) hy (by omega) (by omega)
 rw [bnd5_eq e, bnd4_eq e2, bnd4_eq e3]
 exact ⟨_, _, _, _, rfl, ⟨h3, h4, h5, h6⟩, k2, k3⟩
theorem drawVain_ok {bs : List Int} (hy : okY bs) : ∃ xs m q, F_spec_DrawVainQuestion bs = some (xs, m, q) ∧ (-1 ≤ m ∧ m ≤ 3 ∧ xs.length ≤ 13 ∧ (∀ x ∈ xs, -1 ≤ x ∧ x ≤ 4)) ∧ -1 ≤ q ∧ q ≤ 4611686018427387904 := by
 unfold F_spec_DrawVainQuestion
 obtain ⟨xs, m, q, y, e, h⟩ := drawAnswer_ok hy
 rw [bnd4_eq e]
 exact ⟨_, _, _, rfl, h⟩
def ch : Nat → Nat → Nat
 | _, 0 => 1
 | 0, _ + 1 => 0
 | n + 1, k + 1 => ch n k + ch n (k + 1)
theorem ch_zero (n : Nat) : ch n 0 = 1 := by cases n <;> rfl
theorem ch_zs (k : Nat) : ch 0 (k + 1) = 0 := rfl
theorem ch_ss (n k : Nat) : ch (n + 1) (k + 1) = ch n k + ch n (k + 1) := rfl
theorem ch_over : ∀ n k : Nat, n < k → ch n k = 0
 | 0, k + 1, _ => rfl
 | n + 1, k + 1, h => by rw [ch_ss, ch_over n k (by omega), ch_over n (k + 1) (by omega)]
theorem ch_abs : ∀ n k : Nat, (k + 1) * ch (n + 1) (k + 1) = (n + 1) * ch n k
 | 0, 0 => rfl
 | 0, k + 1 => by rw [ch_ss, ch_zs, ch_zs]; simp
 | n + 1, 0 => by
  have h := ch_abs n 0
  rw [ch_ss, ch_zero] at h ⊢
  have e := ch_ss n 0
  rw [ch_zero] at e
  omega
 | n + 1, k + 1 => by
  have h1 := ch_abs n k
  have h2 := ch_abs n (k + 1)
  rw [ch_ss (n + 1) (k + 1), Nat.mul_add, h2]
  have e : (k + 1 + 1) * ch (n + 1) (k + 1) = (k + 1) * ch (n + 1) (k + 1) + ch (n + 1) (k + 1) := by rw [Nat.succ_mul]
  rw [e, h1]
  have e2 : (n + 1 + 1) * ch (n + 1) (k + 1) = (n + 1) * ch (n + 1) (k + 1) + ch (n + 1) (k + 1) := by rw [Nat.succ_mul]
  rw [e2, ch_ss n k, Nat.mul_add]
  omega
theorem ch_next (n k : Nat) (h : k ≤ n) : (k + 1) * ch n (k + 1) = (n - k) * ch n k := by
 have h1 := ch_abs n k
 rw [ch_ss, Nat.mul_add] at h1
 obtain ⟨d, rfl⟩ : ∃ d, n = k + d := ⟨n - k, by omega⟩
 have e : (k + d + 1) * ch (k + d) k = (k + 1) * ch (k + d) k + d * ch (k + d) k := by rw [← Nat.add_mul]; congr 1; omega
 rw [e] at h1
 have : k + d - k = d := by omega
 rw [this]; omega
theorem ch_le : ∀ n k : Nat, ch n k ≤ 2 ^ n
 | 0, 0 => by decide
 | 0, k + 1 => by rw [ch_zs]; exact Nat.zero_le _
 | n + 1, 0 => by rw [ch_zero]; exact Nat.one_le_two_pow
 | n + 1, k + 1 => by
  have h1 := ch_le n k
  have h2 := ch_le n (k + 1)
  rw [ch_ss, Nat.pow_succ]; omega
def ba (n : Nat) : Nat → Nat
 | 0 => ch n 0
 | k + 1 => ba n k + ch n (k + 1)
theorem ba_pascal (n : Nat) : ∀ k, ba (n + 1) (k + 1) = ba n (k + 1) + ba n k
 | 0 => by simp only [ba, ch_zero, ch_ss]; omega
 | k + 1 => by
  have h := ba_pascal n k
  have e1 : ba (n + 1) (k + 1 + 1) = ba (n + 1) (k + 1) + ch (n + 1) (k + 1 + 1) := rfl
  have e2 : ba n (k + 1 + 1) = ba n (k + 1) + ch n (k + 1 + 1) := rfl
  have e3 : ba n (k + 1) = ba n k + ch n (k + 1) := rfl
  rw [e1, h, e2, ch_ss]; omega
theorem ba_le : ∀ n k : Nat, ba n k ≤ 2 ^ n
 | 0, k => by
  have : ba 0 k = 1 := by
   induction k with
   | zero => rfl
   | succ k ih => simp only [ba, ih, ch_zs]
  rw [this]; decide
 | n + 1, 0 => by simp only [ba, ch_zero]; exact Nat.one_le_two_pow
 | n + 1, k + 1 => by
  rw [ba_pascal, Nat.pow_succ]
  have h1 := ba_le n (k + 1)
  have h2 := ba_le n k
  omega
theorem ba_pos (n : Nat) : ∀ k, 1 ≤ ba n k
 | 0 => by simp only [ba, ch_zero]; exact Nat.le_refl _
 | k + 1 => by have := ba_pos n k; simp only [ba]; omega
theorem ba_over (n : Nat) : ∀ {k : Nat}, n ≤ k → ba n k = ba n n
 | k, h => by
  induction k with
  | zero =>
   have : n = 0 := by omega
   subst this; rfl
  | succ k ih =>
   by_cases e : n = k + 1
   ·subst e; rfl
   ·simp only [ba]; rw [ih (by omega), ch_over n (k + 1) (by omega)]; rfl
theorem pow30 {n : Nat} (h : n ≤ 30) : (2 : Nat) ^ n ≤ 1073741824 := by
 have : (2 : Nat) ^ n ≤ 2 ^ 30 := Nat.pow_le_pow_right (by decide) h
 omega
theorem tdiv_exact {a b : Nat} {x : Nat} (hb : 0 < b) (h : b * x = a) : Int.tdiv (a : Int) (b : Int) = (x : Int) := by
 rw [← h, Int.natCast_mul, Int.mul_comm, Int.mul_tdiv_cancel _ (by omega)]
theorem ways_step {n k : Nat} (hn : n ≤ 30) (hk : k < n) : I64 ((n : Int) - k) ∧ I64 ((ch n k : Int) * ((n : Int) - k)) ∧ Int.tdiv ((ch n k : Int) * ((n : Int) - k)) ((k : Int) + 1) = (ch n (k + 1) : Int) ∧ I64 (ch n (k + 1) : Int) := by
 have h1 := ch_le n k
 have h2 := ch_le n (k + 1)
 have h3 := pow30 hn
 have h4 := ch_next n k (by omega)
 have e : (n : Int) - k = ((n - k : Nat) : Int) := by omega
 have e2 : (k : Int) + 1 = ((k + 1 : Nat) : Int) := by omega
 have hm : ch n k * (n - k) ≤ 1073741824 * 30 := Nat.mul_le_mul (by omega) (by omega)
 rw [e, ← Int.natCast_mul, e2]
 refine ⟨by unfold I64; omega, by unfold I64; omega, ?_, by unfold I64; omega⟩
 exact tdiv_exact (by omega) (by rw [h4, Nat.mul_comm])
theorem ways_core {L : Nat → Int → Int → Option Int} {n k : Nat} (hn : n ≤ 30) (hk : k ≤ n)
  (step : ∀ (m : Nat) (i s : Int), i < (k : Int) → L (m + 1) i s = (chk (I64 ((n : Int) - i)) <| chk (I64 (s * ((n : Int) - i))) <| chk (I64 (i + (1 : Int))) <| chk (I64 (Int.tdiv (s * ((n : Int) - i)) (i + (1 : Int)))) <| chk ((i + (1 : Int)) ≠ 0) <| L m (i + (1 : Int)) (Int.tdiv (s * ((n : Int) - i)) (i + (1 : Int)))))
  (fin : ∀ (m : Nat) (s : Int), L (m + 1) k s = some s) : L fuel 0 1 = some (ch n k : Int) := by
 have e0 : (1 : Int) = (fun i : Int => (ch n i.toNat : Int)) 0 := by simp [ch_zero]
 rw [e0]
 refine loop_up (fun m i s => L m i s) (k : Int) (fun i => (ch n i.toNat : Int)) _ ?_ ?_ (by omega) fuel (by have := fuel_ge; omega)
 ·intro m i i0 i1
  obtain ⟨j, rfl⟩ := int_nat i0
  obtain ⟨w1, w2, w3, w4⟩ := ways_step hn (k := j) (by omega)
  have e1 : ((j : Int) + 1).toNat = j + 1 := by omega
  simp only [Int.toNat_natCast, e1]
  rw [step m _ _ i1, chk_pos w1, chk_pos w2, chk_pos (by unfold I64; omega), w3, chk_pos w4, chk_pos (by omega)]
 ·intro m
  simp only [Int.toNat_natCast]
  exact fin m _
theorem iWays_eq {n k : Nat} (hn : n ≤ 30) (hk : k ≤ n) : F_impl_ways n k = some (ch n k : Int) := by
 unfold F_impl_ways
 simp only [jn]
 refine ways_core (L := fun m i s => F_impl_ways_L1 n k (fun v5 => some v5) m i s) hn hk ?_ ?_
 ·intro m i s hi
  rw [F_impl_ways_L1, ite_t (decide_eq_true hi)]
 ·intro m s
  rw [F_impl_ways_L1, ite_f (decide_eq_false (by omega))]
def baP (n : Nat) : Nat → Nat
 | 0 => 0
 | i + 1 => baP n i + ch n i
theorem baP_ba (n : Nat) : ∀ k, baP n (k + 1) = ba n k
 | 0 => by simp [baP, ba]
 | k + 1 => by rw [baP, baP_ba n k]; rfl
theorem baP_le (n k : Nat) : baP n k ≤ 2 ^ n := by
 cases k with
 | zero => exact Nat.zero_le _
 | succ k => rw [baP_ba]; exact ba_le n k
theorem iBall_eq {n k : Nat} (hn : n ≤ 30) (hk : k ≤ 100) : F_impl_ball n k = some (ba n k : Int) := by
 unfold F_impl_ball
 simp only [jn]
 have hmin : min (n : Int) (k : Int) = ((min n k : Nat) : Int) := by omega
 have e : (ba n k : Int) = (baP n (min n k + 1) : Int) := by
  rw [baP_ba]
  by_cases h : k ≤ n
  ·rw [Nat.min_eq_right h]
  ·rw [Nat.min_eq_left (by omega), ba_over n (by omega)]
 have h3 := pow30 hn
 rw [hmin, chk_pos (by unfold I64; omega), e]
 refine (loop_up (fun m i s => F_impl_ball_L1 n k (fun v5 => some v5) m i s) (((min n k : Nat) : Int) + 1) (fun i => (baP n i.toNat : Int)) _ ?_ ?_ (by omega) fuel (by have := fuel_ge; omega))
 ·intro m i i0 i1
  obtain ⟨j, rfl⟩ := int_nat i0
  have e1 : ((j : Int) + 1).toNat = j + 1 := by omega
  have h4 := baP_le n j
  have h5 := ch_le n j
  simp only [Int.toNat_natCast, e1]
  rw [F_impl_ball_L1, hmin, ite_t (decide_eq_true i1), bnd1_eq (iWays_eq hn (by omega)), chk_pos (by unfold I64; omega), chk_pos (by unfold I64; omega), baP, Int.natCast_add]
 ·intro m
  have e1 : (((min n k : Nat) : Int) + 1).toNat = min n k + 1 := by omega
  rw [F_impl_ball_L1, hmin, ite_f (decide_eq_false (by omega)), e1]
def wtN (m q x : Int) : Int := if x < 0 then 0 else (ba q.toNat (m - x).toNat : Int)
def wtP (xs : List Int) (m q : Int) : Nat → Int
 | 0 => 0
 | i + 1 => wtP xs m q i + wtN m q (xs.getD i 0)
def wtA (xs : List Int) (m q : Int) : Int := wtP xs m q xs.length
theorem wtN_in {m q x : Int} (hq : q ≤ 30) : 0 ≤ wtN m q x ∧ wtN m q x ≤ 1073741824 := by
 unfold wtN; split
 ·omega
 ·have h1 := ba_le q.toNat (m - x).toNat
  have h2 := pow30 (n := q.toNat) (by omega)
  omega
theorem iWeight_eq {xs : List Int} {m q : Int} (hs : okS xs m) (hq0 : 0 ≤ q) (hq : q ≤ 30) {k : Nat} (hk : k < xs.length) : F_impl_State_weight xs m k q = some (wtN m q (xs.getD k 0)) := by
 unfold F_impl_State_weight wtN
 obtain ⟨h1, h2, h3, h4⟩ := hs
 have hx := h4 k
 rw [chk_pos (by omega), Int.toNat_natCast]
 by_cases h : xs.getD k 0 < 0
 ·rw [ite_t (decide_eq_true h), if_pos h]
 ·obtain ⟨q', rfl⟩ := int_nat hq0
  obtain ⟨d, hd⟩ := int_nat (i := m - xs.getD k 0) (by omega)
  rw [ite_f (decide_eq_false h), if_neg h, hd, chk_pos (by unfold I64; omega), bnd1_eq (iBall_eq (by omega) (by omega)), Int.toNat_natCast, Int.toNat_natCast]
theorem wt_after {m q x : Int} {b : Bool} (hx : -1 ≤ x ∧ x ≤ m) (hq : 1 ≤ q) : wtN m (q - 1) (lieN m b x) + wtN m (q - 1) (lieN m (!b) x) = wtN m q x := by
 obtain ⟨q', rfl⟩ : ∃ k : Nat, q = (k : Int) + 1 := ⟨(q - 1).toNat, by omega⟩
 have e0 : (q' : Int) + 1 - 1 = q' := by omega
 have key : ∀ x, -1 ≤ x → x ≤ m → wtN m (q' : Int) (lieN m true x) + wtN m (q' : Int) (lieN m false x) = wtN m ((q' : Int) + 1) x := by
  intro x h1 h2
  have el : lieN m false x = x := by unfold lieN; rw [if_neg (by simp)]
  rw [el]
  by_cases h : x ≥ 0
  ·have e1 : ((q' : Int) + 1).toNat = q' + 1 := by omega
   unfold lieN
   rw [if_pos ⟨h, rfl⟩]
   by_cases h3 : x + 1 > m
   ·have : x = m := by omega
    subst this
    rw [if_pos h3]
    unfold wtN
    rw [if_pos (by omega), if_neg (by omega), if_neg (by omega), e1, Int.sub_self]
    simp [ba, ch_zero]
   ·rw [if_neg h3]
    unfold wtN
    obtain ⟨d, hd⟩ := int_nat (i := m - x - 1) (by omega)
    have e2 : (m - (x + 1)).toNat = d := by omega
    have e3 : (m - x).toNat = d + 1 := by omega
    rw [if_neg (by omega), if_neg (by omega), if_neg (by omega), e1, e2, e3, ba_pascal, Int.toNat_natCast]
    omega
  ·have : x = -1 := by omega
   subst this
   unfold lieN
   rw [if_neg (by omega)]
   unfold wtN
   rw [if_pos (by omega), if_pos (by omega)]; rfl
 rw [e0]
 cases b with
 | true => exact key x hx.1 hx.2
 | false => rw [Int.add_comm]; exact key x hx.1 hx.2
theorem ansN_at {m q : Int} {y : Bool} {xs : List Int} {i : Nat} (h : i < xs.length) : (ansN m q y xs).getD i 0 = lieN m (falseB q y i) (xs.getD i 0) := by
 unfold ansN afterN
 rw [List.getD_eq_getElem?_getD, List.getElem?_map, List.getElem?_range h]; rfl
theorem wt_both {xs : List Int} {m q k : Int} (hs : okS xs m) (hq : 1 ≤ k) : wtA (ansN m q true xs) m (k - 1) + wtA (ansN m q false xs) m (k - 1) = wtA xs m k := by
 have key : ∀ i, i ≤ xs.length → wtP (ansN m q true xs) m (k - 1) i + wtP (ansN m q false xs) m (k - 1) i = wtP xs m k i := by
  intro i
  induction i with
  | zero => intro _; rfl
  | succ i ih =>
   intro hi
   have hx := hs.2.2.2 i
   have e : falseB q false (i : Int) = !falseB q true (i : Int) := by unfold falseB; cases hasB q (i : Int) <;> rfl
   have hw := wt_after (m := m) (q := k) (x := xs.getD i 0) (b := falseB q true (i : Int)) hx hq
   unfold wtP
   rw [ansN_at (by omega), ansN_at (by omega), e, ← ih (by omega), ← hw]
   omega
 unfold wtA
 rw [ansN_len, ansN_len]
 exact key _ (Nat.le_refl _)
theorem rState_same (xs : List Int) (m : Int) (hx : xs.length ≤ 1000) : F_laws_rState xs m xs m = some true := by
 unfold F_laws_rState
 rw [ite_t (beq_self_eq_true _), bnd1_eq (rInts_eq xs xs (by omega)), beq_self_eq_true]
theorem jn_q {γ δ : Type} {Q0 : Option δ → Prop} {f : γ} {g : γ → Option δ} (k : γ → Option δ) (h : ∀ J, g J = k J) (h2 : Q0 (k f)) : Q0 (jn f g) := by
 unfold jn; rw [h f]; exact h2
theorem ans_getD {m q : Int} {y : Bool} {xs : List Int} {i : Nat} (h : i < xs.length) : (ansN m q y xs).getD i 0 = lieN m (falseB q y (i : Int)) (xs.getD i 0) := by
 unfold ansN afterN; simp [h]
theorem mem_open {xs : List Int} {x : Int} : x ∈ openN xs ↔ ∃ i : Nat, i < xs.length ∧ 0 ≤ xs.getD i 0 ∧ x = (i : Int) := by
 rw [openN_fl, mem_fl]
 constructor
 ·rintro ⟨i, h1, h2, h3⟩; exact ⟨i, h1, by simpa using h2, h3⟩
 ·rintro ⟨i, h1, h2, h3⟩; exact ⟨i, h1, by simpa using h2, h3⟩
/-! the set of questions -/
theorem rBools_self (xs : List Bool) (hx : xs.length ≤ 1048576) : F_laws_rBools xs xs = some true := by
 unfold F_laws_rBools
 rw [ite_f (bne_self_eq_false _)]
 simp only [jn]
 refine loop_up (fun k i (_ : Unit) => F_laws_rBools_L1 xs xs (fun _ => some true) k i) (xs.length : Int) (fun _ => ()) (some true) ?_ ?_ (by omega) fuel (by have := fuel_ge; omega)
 ·intro k i i0 i1
  rw [F_laws_rBools_L1, ite_t (decide_eq_true i1), chk_pos ⟨i0, i1⟩, chk_pos ⟨i0, i1⟩, ite_f (by rw [beq_self_eq_true]; rfl), chk_pos (by unfold I64; omega)]
 ·intro k
  rw [F_laws_rBools_L1, ite_f (decide_eq_false (by omega))]
def eP (m : Int) (qs : List Int) (av : List Bool) (xs : List Int) : Nat → List Int
 | 0 => xs
 | k + 1 => ansN m (qs.getD k 0) (av.getD k false) (eP m qs av xs k)
theorem eP_len (m : Int) (qs : List Int) (av : List Bool) (xs : List Int) : ∀ k, (eP m qs av xs k).length = xs.length
 | 0 => rfl
 | k + 1 => by rw [eP, ansN_len, eP_len m qs av xs k]
theorem okS_eP {m : Int} {qs : List Int} {av : List Bool} {xs : List Int} (h : okS xs m) : ∀ k, okS (eP m qs av xs k) m
 | 0 => h
 | k + 1 => by rw [eP]; exact okS_ans (okS_eP h k)
def endL (m : Int) (qs : List Int) (av : List Bool) (xs : List Int) : List Int := eP m qs av xs qs.length
def cP (p : Nat → Bool) : Nat → Nat
 | 0 => 0
 | k + 1 => cP p k + (bif p k then 1 else 0)
theorem iTold_eq {xs : List Int} {m : Int} {qs : List Int} {av : List Bool} (h : okS xs m) (hl : av.length = qs.length) (hq : qs.length ≤ 1000) : F_impl_State_told xs m qs av = some (endL m qs av xs, m) := by
 unfold F_impl_State_told
 refine jn_is (fun J => J (endL m qs av xs)) (fun J => ?_) rfl
 refine loop_up (fun k i (s : List Int) => F_impl_State_told_L1 m qs av J k s i) ((qs.length : Nat) : Int) (fun i => eP m qs av xs i.toNat) _ ?_ ?_ (by omega) fuel (by have := fuel_ge; omega)
 ·intro k i i0 i1
  obtain ⟨j, rfl⟩ := int_nat i0
  have e1 : ((j : Int) + 1).toNat = j + 1 := by omega
  simp only [Int.toNat_natCast, e1]
  rw [F_impl_State_told_L1, ite_t (decide_eq_true i1), chk_pos ⟨i0, i1⟩, chk_pos ⟨i0, by omega⟩, chk_pos (okS_eP h j), chk_pos (by unfold I64; omega), Int.toNat_natCast]
  rfl
 ·intro k
  simp only [Int.toNat_natCast]
  rw [F_impl_State_told_L1, ite_f (decide_eq_false (by omega))]
  rfl
theorem sEnd_eq {xs : List Int} {m : Int} {qs : List Int} {av : List Bool} (h : okS xs m) (hl : av.length = qs.length) (hq : qs.length ≤ 1000) : F_spec_l8End xs m qs av = some (endL m qs av xs, m) := by
 unfold F_spec_l8End
 refine jn_is (fun J => J (endL m qs av xs)) (fun J => ?_) rfl
 refine loop_up (fun k i (s : List Int) => F_spec_l8End_L1 m qs av J k s i) ((qs.length : Nat) : Int) (fun i => eP m qs av xs i.toNat) _ ?_ ?_ (by omega) fuel (by have := fuel_ge; omega)
 ·intro k i i0 i1
  obtain ⟨j, rfl⟩ := int_nat i0
  have e1 : ((j : Int) + 1).toNat = j + 1 := by omega
  simp only [Int.toNat_natCast, e1]
  rw [F_spec_l8End_L1, ite_t (decide_eq_true i1), chk_pos ⟨i0, i1⟩, chk_pos ⟨i0, by omega⟩, chk_pos (okS_eP h j), chk_pos (by unfold I64; omega), Int.toNat_natCast]
  rfl
 ·intro k
  simp only [Int.toNat_natCast]
  rw [F_spec_l8End_L1, ite_f (decide_eq_false (by omega))]
  rfl
def gdH (xs : List Int) (m : Int) (qs : List Int) : Bool := isStateN xs m && (decide (qs.length ≤ 8) && !(qs.any fun x => !(isQ ((xs.length : Nat) : Int) x)))
theorem gdH_in {xs : List Int} {m : Int} {qs : List Int} (h : gdH xs m qs = true) : isStateN xs m = true ∧ okS xs m ∧ qs.length ≤ 8 ∧ ∀ q ∈ qs, isQ ((xs.length : Nat) : Int) q = true := by
 unfold gdH at h
 simp only [Bool.and_eq_true, decide_eq_true_eq, Bool.not_eq_true', List.any_eq_false, Bool.not_eq_true] at h
 refine ⟨h.1, okS_of h.1, h.2.1, fun q hq => ?_⟩
 have := h.2.2 q hq
 simpa using this
theorem iListed_eq (xs : List Int) (m : Int) (qs : List Int) (hx : xs.length ≤ 1000) : F_impl_areListed xs m qs = some (gdH xs m qs) := by
 unfold F_impl_areListed gdH
 rw [chk_pos (by omega)]
 cases isStateN xs m with
 | false => rfl
 | true =>
  rw [ite_t rfl]
  by_cases h : qs.length ≤ 8
  ·rw [ite_t (decide_eq_true (by omega)), decide_eq_true h]; first | rfl | (rw [chk_pos (by omega)]; rfl)
  ·rw [ite_f (decide_eq_false (by omega)), decide_eq_false h]; rfl
theorem sGood_eq (xs : List Int) (m : Int) (qs : List Int) (hx : xs.length ≤ 1000) (hq : qs.length ≤ 1000) : F_spec_l8Good xs m qs = some (gdH xs m qs) := by
 unfold F_spec_l8Good gdH
 refine jn_is (fun J => J (!(isStateN xs m && decide (qs.length ≤ 8)))) (fun J => ?_) ?_
 ·rw [chk_pos (by omega)]
  cases isStateN xs m with
  | false => rfl
  | true =>
   rw [Bool.not_true, ite_f rfl]
   by_cases h : qs.length ≤ 8
   ·rw [decide_eq_true h, decide_eq_false (by omega)]; rfl
   ·rw [decide_eq_false h, decide_eq_true (by omega)]; rfl
 ·cases hs : isStateN xs m with
  | false => rfl
  | true =>
   by_cases h : qs.length ≤ 8
   ·rw [decide_eq_true h, ite_f (by rfl)]
    refine jn_is (fun J => bif qs.any (fun x => !(isQ ((xs.length : Nat) : Int) x)) then some false else J ()) (fun J => ?_) ?_
    ·rcases loop_all (F_spec_l8Good_L1 xs qs J) ((qs.length : Nat) : Int) (fun i => isQ ((xs.length : Nat) : Int) (qs.getD i.toNat 0)) (some false) (J ()) (fun n i i0 i1 hp => by rw [F_spec_l8Good_L1, ite_t (decide_eq_true i1), chk_pos ⟨i0, i1⟩, chk_pos (by omega), ite_f (by rw [hp]; rfl), chk_pos (by unfold I64; omega)])
       (fun n i i0 i1 hp => by rw [F_spec_l8Good_L1, ite_t (decide_eq_true i1), chk_pos ⟨i0, i1⟩, chk_pos (by omega), ite_t (by rw [hp]; rfl)]) (fun n => by rw [F_spec_l8Good_L1, ite_f (decide_eq_false (by omega))]) (by omega) fuel (by have := fuel_ge; omega) with ⟨h1, h2⟩ | ⟨h1, i, i0, i1, h2, _⟩
     ·rw [h1, ite_f ?_]
      rw [List.any_eq_false]
      intro x hx
      obtain ⟨i, hi, rfl⟩ := List.getElem_of_mem hx
      have := h2 (i : Int) (by omega) (by omega)
      rw [Int.toNat_natCast, List.getD_eq_getElem?_getD, List.getElem?_eq_getElem hi] at this
      have this : isQ ((xs.length : Nat) : Int) qs[i] = true := this
      rw [this]; simp
     ·rw [h1, ite_t ?_]
      rw [List.any_eq_true]
      have hi : i.toNat < qs.length := by omega
      refine ⟨qs[i.toNat], List.getElem_mem hi, ?_⟩
      rw [List.getD_eq_getElem?_getD, List.getElem?_eq_getElem hi] at h2
      have h2 : isQ ((xs.length : Nat) : Int) qs[i.toNat] = false := h2
      rw [h2]; rfl
    ·cases qs.any (fun x => !(isQ ((xs.length : Nat) : Int) x)) <;> rfl
   ·rw [decide_eq_false h]; rfl
theorem after_no (m : Int) (xs : List Int) : afterN m (fun _ => false) xs = xs := by
 refine List.ext_getElem (by simp) fun i h1 h2 => ?_
 have : (afterN m (fun _ => false) xs).getD i 0 = lieN m false (xs.getD i 0) := by
  unfold afterN; rw [List.getD_eq_getElem?_getD, List.getElem?_map, List.getElem?_range h2]; rfl
 rw [lie_no rfl] at this
 simpa [List.getD_eq_getElem?_getD, h1, h2] using this
theorem iAnswerList_eq {xs : List Int} {m : Int} {qs : List Int} {av : List Bool} (hg : gdH xs m qs = true) (hl : av.length = qs.length) : F_impl_AnswerList xs m qs av = some (endL m qs av xs, m, true) := by
 unfold F_impl_AnswerList
 obtain ⟨_, h, hq, _⟩ := gdH_in hg
 have hx := h.1
 refine jn_is (fun J => J false) (fun J => ?_) ?_
 ·rw [bnd1_eq (iListed_eq xs m qs (by omega)), hg, Bool.not_true, ite_f rfl, hl, bne_self_eq_false]
 ·rw [ite_f rfl, chk_pos (by omega), bnd2_eq (iTold_eq h hl (by omega)), chk_pos (show okS (endL m qs av xs) m from okS_eP h _)]
  show some (afterN m (fun _ => false) _, _, _) = _
  rw [after_no]
theorem fixed2_ok {bs : List Int} {p s : Int} (hy : okY bs) (h0 : 0 ≤ p) (h1 : p ≤ 600000000000) : ∃ xs m qs p' s', F_p_spec_l1Cur_fixed bs p s = some (xs, m, qs, bs, p', s') ∧ xs.length ≤ 13 ∧ qs.length ≤ 20 ∧ p ≤ p' ∧ p' ≤ p + 1000 := by
 unfold F_p_spec_l1Cur_fixed
 obtain ⟨xs0, m0, p1, s1, e1, a1, a2, a3, a4, a5, a6⟩ := state_ok (s := s) hy h0 (by omega)
 rw [bnd5_eq e1]
 let Q : Option (List Int × Int × List Int × List Int × Int × Int) → Prop := fun o => ∃ xs m qs p' s', o = some (xs, m, qs, bs, p', s') ∧ xs.length ≤ 13 ∧ qs.length ≤ 20 ∧ p ≤ p' ∧ p' ≤ p + 1000
 show Q _
 have part1 : ∀ J : List Int → Int → Int → List Int → Int → Option (List Int × Int × List Int × List Int × Int × Int), (∀ pp ss xs m, p ≤ pp → pp ≤ p + 110 → xs.length ≤ 13 → Q (J bs pp ss xs m)) → Q (bnd4 (F_p_spec_l1Cur_one bs p1 s1 (2 : Int)) fun r14 r14b r14c r14d => (bif r14 then bnd4 (F_p_spec_l1Cur_pick r14b r14c r14d (6 : Int)) fun r16 r16b r16c r16d => chk (I64 ((2 : Int) + r16)) <| bnd4 (F_p_spec_l1Cur_pick r16b r16c r16d (3 : Int)) fun r19 r19b r19c r19d => bnd2 (F_spec_l2Start ((2 : Int) + r16) r19) fun r20 r20b => J r19b r19c r19d r20 r20b else J r14b r14c r14d xs0 m0)) := by
  intro J hJ
  obtain ⟨b, p2, s2, e2, b1, b2⟩ := one_ok (s := s1) (n := 2) hy (p := p1) (by omega) (by omega)
  rw [bnd4_eq e2]
  cases b with
  | false => rw [ite_f rfl]; exact hJ _ _ _ _ (by omega) (by omega) a5
  | true =>
   obtain ⟨v, p3, s3, e3, c1, c2, c3, c4⟩ := pick_ok (s := s2) (n := 6) hy (p := p2) (by omega) (by omega)
   have c5 := c4 (by omega)
   obtain ⟨u, p4, s4, e4, d1, d2, d3, d4⟩ := pick_ok (s := s3) (n := 3) hy (p := p3) (by omega) (by omega)
   have es : F_spec_l2Start (2 + v) u = some (List.replicate (2 + v).toNat 0, u) := by
    unfold F_spec_l2Start
    rw [chk_pos ⟨by omega, by omega, by omega, by simp only [maxLen]; omega⟩]
   rw [ite_t rfl, bnd4_eq e3, chk_pos (by unfold I64; omega), bnd4_eq e4, bnd2_eq es]
   exact hJ _ _ _ _ (by omega) (by omega) (by rw [List.length_replicate]; omega)
 unfold jn
 refine part1 _ fun pp ss xs m q1 q2 q3 => ?_
 try dsimp only
 obtain ⟨k, p2, s2, e2, b1, b2, b3⟩ := among_ok (s := ss) (p := pp) (xs := [(3 : Int), (4 : Int), (2 : Int), (5 : Int), (1 : Int), (0 : Int), (6 : Int), (8 : Int)]) hy (by omega) (by omega) (by decide)
 have hk : 0 ≤ k ∧ k ≤ 8 := by
  simp only [List.mem_cons, List.not_mem_nil, or_false] at b3
  omega
 rw [bnd4_eq e2]
 have part2 : ∀ J : List Int → Int → Int → List Int → Option (List Int × Int × List Int × List Int × Int × Int), (∀ pp ss qs, p ≤ pp → pp ≤ p + 200 → qs.length ≤ 8 → Q (J bs pp ss qs)) → Q (F_p_spec_l1Cur_fixed_L1 xs J fuel bs p2 s2 [] k) := by
  intro J hJ
  refine loop_m (fun n (z : Int × Int × List Int × Int) => F_p_spec_l1Cur_fixed_L1 xs J n bs z.1 z.2.1 z.2.2.1 z.2.2.2) (fun z => 0 ≤ z.2.2.2 ∧ z.2.2.2 ≤ k ∧ p ≤ z.1 ∧ z.1 ≤ p + 112 + 4 * (k - z.2.2.2) ∧ (z.2.2.1.length : Int) = k - z.2.2.2) (fun z => z.2.2.2.toNat) Q ?_ fuel (p2, s2, [], k) ⟨hk.1, Int.le_refl _, by simp only; omega, by simp only; omega, by simp⟩ (by have := fuel_ge; simp only; omega)
  rintro n ⟨pq, sq, qs, i⟩ ⟨g1, g2, g3, g4, g5⟩
  simp only at g1 g2 g3 g4 g5 ⊢
  rw [F_p_spec_l1Cur_fixed_L1]
  by_cases hi : i > 0
  ·obtain ⟨v, p4, s4, e4, w0, w1, w2, w3⟩ := question_ok (s := sq) (n := ((List.length xs : Nat) : Int)) hy (p := pq) (by omega) (by omega)
   rw [ite_t (decide_eq_true hi), bnd4_eq e4, chk_pos ⟨by omega, by simp only [maxLen]; omega⟩, chk_pos (by unfold I64; omega)]
   exact .inl ⟨(p4, s4, qs ++ [v], i - 1), ⟨by simp only; omega, by simp only; omega, by simp only; omega, by simp only; omega, by simp only [List.length_append, List.length_cons, List.length_nil]; omega⟩, by simp only; omega, rfl⟩
  ·rw [ite_f (decide_eq_false hi)]
   exact .inr (hJ _ _ _ g3 (by omega) (by omega))
 refine part2 _ fun pp ss qs q1 q2 q4 => ?_
 try dsimp only
 have fin : ∀ (pp ss : Int) (qs : List Int), p ≤ pp → pp ≤ p + 300 → qs.length ≤ 20 → Q (bnd4 (F_p_spec_l1Cur_one bs pp ss (40 : Int)) fun r77 r77b r77c r77d => (bif r77 then (fun (o500l : List Int) (o500m : Int) (o500n : Int) (v5b : List Int) => some (xs, m, v5b, o500l, o500m, o500n)) r77b r77c r77d [(0 : Int), (0 : Int), (0 : Int), (0 : Int), (0 : Int), (0 : Int), (0 : Int), (0 : Int), (0 : Int)] else (fun (o500l : List Int) (o500m : Int) (o500n : Int) (v5b : List Int) => some (xs, m, v5b, o500l, o500m, o500n)) r77b r77c r77d qs)) := by
  intro pp ss qs k1 k2 k3
  obtain ⟨b, p3, s3, e3, c1, c2⟩ := one_ok (s := ss) (n := 40) hy (p := pp) (by omega) (by omega)
  rw [bnd4_eq e3]
  cases b with
  | true => exact ⟨_, _, _, _, _, rfl, q3, by simp, by omega, by omega⟩
  | false => exact ⟨_, _, _, _, _, rfl, q3, k3, by omega, by omega⟩
 obtain ⟨b, p3, s3, e3, c1, c2⟩ := one_ok (s := ss) (n := 3) hy (p := pp) (by omega) (by omega)
 rw [bnd4_eq e3]
 have mid : ∀ b : Bool, (b = true → xs.length ≤ 8) → Q (bif b then F_p_spec_l1Cur_fixed_L2 xs (fun (o44 : List Int) => bnd4 (F_p_spec_l1Cur_pick bs p3 s3 (9 : Int)) fun r74 r74b r74c r74d => chk (0 ≤ (0 : Int) ∧ (0 : Int) ≤ r74 ∧ r74 ≤ ((List.length o44 : Nat) : Int)) <| (fun (o500i : List Int) (o500j : Int) (o500k : Int) (v5 : List Int) => bnd4 (F_p_spec_l1Cur_one o500i o500j o500k (40 : Int)) fun r77 r77b r77c r77d => (bif r77 then (fun (o500l : List Int) (o500m : Int) (o500n : Int) (v5b : List Int) => some (xs, m, v5b, o500l, o500m, o500n)) r77b r77c r77d [(0 : Int), (0 : Int), (0 : Int), (0 : Int), (0 : Int), (0 : Int), (0 : Int), (0 : Int), (0 : Int)] else (fun (o500l : List Int) (o500m : Int) (o500n : Int) (v5b : List Int) => some (xs, m, v5b, o500l, o500m, o500n)) r77b r77c r77d v5)) r74b r74c r74d (List.take ((Int.toNat r74) - 0) o44)) fuel ([] : List Int) (0 : Int) else (fun (o500i : List Int) (o500j : Int) (o500k : Int) (v5 : List Int) => bnd4 (F_p_spec_l1Cur_one o500i o500j o500k (40 : Int)) fun r77 r77b r77c r77d => (bif r77 then (fun (o500l : List Int) (o500m : Int) (o500n : Int) (v5b : List Int) => some (xs, m, v5b, o500l, o500m, o500n)) r77b r77c r77d [(0 : Int), (0 : Int), (0 : Int), (0 : Int), (0 : Int), (0 : Int), (0 : Int), (0 : Int), (0 : Int)] else (fun (o500l : List Int) (o500m : Int) (o500n : Int) (v5b : List Int) => some (xs, m, v5b, o500l, o500m, o500n)) r77b r77c r77d v5)) bs p3 s3 qs) := by
  intro b hb
  cases b with
  | false => rw [ite_f rfl]; exact fin p3 s3 qs (by omega) (by omega) (by omega)
  | true =>
   have hx := hb rfl
   rw [ite_t rfl]
   refine loop_m (fun n (z : List Int × Int) => F_p_spec_l1Cur_fixed_L2 xs _ n z.1 z.2) (fun z => 0 ≤ z.2 ∧ z.2 ≤ 8 ∧ (z.1.length : Int) = z.2) (fun z => (8 - z.2).toNat) Q ?_ fuel ([], 0) ⟨by simp, by simp, by simp⟩ (by have := fuel_ge; simp only; omega)
   rintro n ⟨o, i⟩ ⟨g1, g2, g3⟩
   simp only at g1 g2 g3 ⊢
   rw [F_p_spec_l1Cur_fixed_L2]
   by_cases hi : i < 8
   ·left
    have inner : ∃ v : Int, ∀ (J : List Int → Option (List Int × Int × List Int × List Int × Int × Int)), (jn (fun (v9 : Int) => chk (((List.length o) + 1) * 8 ≤ 140737488355328 ∧ (List.length o) + 1 ≤ maxLen) <| J (o ++ [v9])) (fun J4 => F_p_spec_l1Cur_fixed_L3 xs i J4 fuel (0 : Int) (0 : Int))) = J (o ++ [v]) := by
     have ht : 0 ≤ Int.tmod i 3 ∧ Int.tmod i 3 < 3 := tmod_in g1 (by omega)
     have deep : ∀ (n : Nat) (v10 v9 : Int), 0 ≤ v10 → v10 ≤ (xs.length : Int) → (xs.length : Int) - v10 < (n : Int) → ∃ v, ∀ J4, F_p_spec_l1Cur_fixed_L3 xs i J4 n v10 v9 = J4 v := by
      intro n
      induction n with
      | zero => intro v10 v9 _ _ h; omega
      | succ n ih =>
       intro v10 v9 k1 k2 k3
       by_cases hv : v10 < (xs.length : Int)
       ·obtain ⟨v, hv2⟩ := ih (v10 + 1) (bits .or .i64 v9 ((bits .and .i64 (v10 / 2 ^ Int.toNat (Int.tmod i (3 : Int))) (1 : Int)) * 2 ^ Int.toNat v10)) (by omega) (by omega) (by omega)
        refine ⟨v, fun J4 => ?_⟩
        have hp := pow13 (n := v10) k1 (by omega)
        have hb : bits .and .i64 (v10 / 2 ^ Int.toNat (Int.tmod i (3 : Int))) (1 : Int) = 0 ∨ bits .and .i64 (v10 / 2 ^ Int.toNat (Int.tmod i (3 : Int))) (1 : Int) = 1 := by rw [and1]; omega
        rw [F_p_spec_l1Cur_fixed_L3, ite_t (decide_eq_true hv), chk_pos ⟨by omega, by omega⟩]
        simp only [nam]
        rw [chk_pos ⟨by omega, by omega, by rcases hb with hb | hb <;> rw [hb] <;> unfold I64 <;> omega⟩, chk_pos (by unfold I64; omega), hv2]
       ·exact ⟨v9, fun J4 => by rw [F_p_spec_l1Cur_fixed_L3, ite_f (decide_eq_false hv)]⟩
     obtain ⟨v, hv⟩ := deep fuel 0 0 (by omega) (by omega) (by have := fuel_ge; omega)
     exact ⟨v, fun J => jn_is (fun J4 => J4 v) (fun J4 => hv J4) (by rw [chk_pos ⟨by omega, by simp only [maxLen]; omega⟩])⟩
    obtain ⟨v, hv⟩ := inner
    refine ⟨(o ++ [v], i + 1), ⟨by simp only; omega, by simp only; omega, by simp only [List.length_append, List.length_cons, List.length_nil]; omega⟩, by simp only; omega, ?_⟩
    refine jn_is (fun J3 => J3 true) (fun J3 => by rw [ite_t (decide_eq_true hi), decide_eq_true (by omega)]) ?_
    rw [ite_t rfl]
    exact jn_is (fun J3 => J3 (o ++ [v])) (fun J3 => hv J3) (by rw [chk_pos (by unfold I64; omega)])
   ·right
    unfold jn
    dsimp only
    rw [ite_f (decide_eq_false hi), ite_f rfl]
    obtain ⟨w, p4, s4, e4, d1, d2, d3, d4⟩ := pick_ok (s := s3) (n := 9) hy (p := p3) (by omega) (by omega)
    have d5 := d4 (by omega)
    rw [bnd4_eq e4, chk_pos ⟨by omega, by omega, by omega⟩]
    exact fin p4 s4 _ (by omega) (by omega) (by rw [List.length_take]; omega)
 cases b with
 | false => rw [ite_f rfl]; exact mid false (by simp)
 | true =>
  rw [ite_t rfl]
  refine mid _ fun hb => ?_
  simp only [Bool.and_eq_true, decide_eq_true_eq] at hb
  omega
theorem fixed_ok {bs : List Int} {p s : Int} (hy : okY bs) (h0 : 0 ≤ p) (h1 : p ≤ 600000000000) : ∃ xs m qs p' s', F_p_spec_l1Cur_fixed bs p s = some (xs, m, qs, bs, p', s') ∧ xs.length ≤ 13 ∧ qs.length ≤ 20 := by
 obtain ⟨xs, m, qs, p', s', e, h2, h3, _⟩ := fixed2_ok (s := s) hy h0 h1
 exact ⟨xs, m, qs, p', s', e, h2, h3⟩
def nedT : Nat := 16749092092326603173040754463859007108659040053202167232965232816440955884337922658686601876495720316118689806365722447263241505493967467310172146740224558301037681644954770648922275721173403502794171241539212492622636008611940640239745826286557237092098263125094596847643809050186833179730586592449213000459270346514888707475442955734877829886391912403741774534252867285096487365014353962465163003126475396916082689130232306725408963520243824046928042753297417186749075006767456605360483061595596497031433900943478326837678701204796884891111012868263263451865547995274404956178421965481533209913464446218014793937084421372955725289245090433560978579796119220240607799608860402284241173987460014156789312158584286481616776717426465057125617394221851243504836622597496712038630695168
def nedK (k : Nat) : Nat := (nedT >>> (4 * k)) &&& 15
def ned (a b c : Nat) : Nat := nedK (81 * a + 9 * b + c)
def ndAll (p : Nat → Bool) : Nat → Bool
 | 0 => true
 | n + 1 => p n && ndAll p n
def ndAny (p : Nat → Bool) : Nat → Bool
 | 0 => false
 | n + 1 => p n || ndAny p n
theorem ndAll_in {p : Nat → Bool} : ∀ {n : Nat}, ndAll p n = true → ∀ i, i < n → p i = true
 | 0, _, i, hi => by omega
 | n + 1, h, i, hi => by
  unfold ndAll at h
  rw [Bool.and_eq_true] at h
  by_cases e : i = n
  ·rw [e]; exact h.1
  ·exact ndAll_in h.2 i (by omega)
theorem ndAny_in {p : Nat → Bool} : ∀ {n : Nat}, ndAny p n = true → ∃ i, i < n ∧ p i = true
 | 0, h => by cases h
 | n + 1, h => by
  unfold ndAny at h
  rw [Bool.or_eq_true] at h
  rcases h with h | h
  ·exact ⟨n, by omega, h⟩
  ·obtain ⟨i, h1, h2⟩ := ndAny_in h; exact ⟨i, by omega, h2⟩
def cerS (a b c : Nat) : Bool := ndAny (fun i => ndAny (fun j => ndAny (fun k => Nat.blt (ned i (j + a - i) (k + b - j)) (ned a b c) && Nat.blt (ned (a - i) (b - j + i) (c - k + j)) (ned a b c)) (c + 1)) (b + 1)) (a + 1)
def cerA (a b c : Nat) : Bool := ndAll (fun i => ndAll (fun j => ndAll (fun k => Nat.ble (ned a b c) (1 + ned i (j + a - i) (k + b - j)) || Nat.ble (ned a b c) (1 + ned (a - i) (b - j + i) (c - k + j))) (c + 1)) (b + 1)) (a + 1)
def cer (a b c : Nat) : Bool := bif Nat.ble (a + b + c) 1 then Nat.beq (ned a b c) 0 && cerA a b c else (Nat.ble 1 (ned a b c) && Nat.ble (ned a b c) 9) && (cerS a b c && cerA a b c)
theorem cert : ndAll (fun a => ndAll (fun b => ndAll (fun c => cer a b c) (9 - a - b)) (9 - a)) 9 = true := by decide +kernel
theorem cert_at {a b c : Nat} (h : a + b + c ≤ 8) : cer a b c = true := ndAll_in (ndAll_in (ndAll_in cert a (by omega)) b (by omega)) c (by omega)
def nedI (a b c : Int) : Int := ((ned a.toNat b.toNat c.toNat : Nat) : Int)
def V3 (a b c : Int) : Prop := 0 ≤ a ∧ 0 ≤ b ∧ 0 ≤ c ∧ a + b + c ≤ 8
theorem V3_nat {a b c : Int} (h : V3 a b c) : ∃ x y z : Nat, a = x ∧ b = y ∧ c = z ∧ x + y + z ≤ 8 := by
 obtain ⟨h1, h2, h3, h4⟩ := h
 exact ⟨a.toNat, b.toNat, c.toNat, by omega, by omega, by omega, by omega⟩
theorem ned_told {a b c : Int} (h : V3 a b c) (h1 : a + b + c ≤ 1) : nedI a b c = 0 := by
 obtain ⟨x, y, z, rfl, rfl, rfl, h2⟩ := V3_nat h
 have := cert_at h2
 unfold cer at this
 rw [show Nat.ble (x + y + z) 1 = true from Nat.ble_eq_true_of_le (by omega), cond_true, Bool.and_eq_true] at this
 have := Nat.eq_of_beq_eq_true this.1
 unfold nedI
 simp only [Int.toNat_natCast]
 omega
theorem ned_two {a b c : Int} (h : V3 a b c) (h1 : 2 ≤ a + b + c) : (1 ≤ nedI a b c ∧ nedI a b c ≤ 9) ∧ ∃ i j k : Int, (0 ≤ i ∧ i ≤ a) ∧ (0 ≤ j ∧ j ≤ b) ∧ (0 ≤ k ∧ k ≤ c) ∧ nedI i (j + (a - i)) (k + (b - j)) < nedI a b c ∧ nedI (a - i) (b - j + i) (c - k + j) < nedI a b c := by
 obtain ⟨x, y, z, rfl, rfl, rfl, h2⟩ := V3_nat h
 have := cert_at h2
 unfold cer at this
 have hb : Nat.ble (x + y + z) 1 = false := by
  cases hc : Nat.ble (x + y + z) 1 with
  | false => rfl
  | true => have := Nat.le_of_ble_eq_true hc; omega
 rw [hb, cond_false] at this
 simp only [Bool.and_eq_true] at this
 obtain ⟨⟨e1, e2⟩, e3, e4⟩ := this
 have e1 := Nat.le_of_ble_eq_true e1
 have e2 := Nat.le_of_ble_eq_true e2
 unfold cerS at e3
 obtain ⟨i, i1, e3⟩ := ndAny_in e3
 obtain ⟨j, j1, e3⟩ := ndAny_in e3
 obtain ⟨k, k1, e3⟩ := ndAny_in e3
 rw [Bool.and_eq_true] at e3
 have f1 := Nat.le_of_ble_eq_true e3.1
 have f2 := Nat.le_of_ble_eq_true e3.2
 refine ⟨⟨by unfold nedI; simp only [Int.toNat_natCast]; omega, by unfold nedI; simp only [Int.toNat_natCast]; omega⟩, i, j, k, by omega, by omega, by omega, ?_, ?_⟩
 ·unfold nedI
  rw [show ((j : Int) + ((x : Int) - (i : Int))).toNat = j + x - i by omega, show ((k : Int) + ((y : Int) - (j : Int))).toNat = k + y - j by omega]
  simp only [Int.toNat_natCast]
  omega
 ·unfold nedI
  rw [show ((x : Int) - (i : Int)).toNat = x - i by omega, show ((y : Int) - (j : Int) + (i : Int)).toNat = y - j + i by omega, show ((z : Int) - (k : Int) + (j : Int)).toNat = z - k + j by omega]
  simp only [Int.toNat_natCast]
  omega
theorem ned_in {a b c : Int} (h : V3 a b c) : 0 ≤ nedI a b c ∧ nedI a b c ≤ 9 := by
 by_cases h1 : a + b + c ≤ 1
 ·rw [ned_told h h1]; omega
 ·have := (ned_two h (by omega)).1; omega
theorem ned_all {a b c i j k : Int} (h : V3 a b c) (hi : 0 ≤ i ∧ i ≤ a) (hj : 0 ≤ j ∧ j ≤ b) (hk : 0 ≤ k ∧ k ≤ c) : nedI a b c ≤ 1 + nedI i (j + (a - i)) (k + (b - j)) ∨ nedI a b c ≤ 1 + nedI (a - i) (b - j + i) (c - k + j) := by
 obtain ⟨x, y, z, rfl, rfl, rfl, h2⟩ := V3_nat h
 obtain ⟨i, rfl⟩ := int_nat hi.1
 obtain ⟨j, rfl⟩ := int_nat hj.1
 obtain ⟨k, rfl⟩ := int_nat hk.1
 have := cert_at h2
 have hA : cerA x y z = true := by
  unfold cer at this
  cases hb : Nat.ble (x + y + z) 1 with
  | true => rw [hb, cond_true, Bool.and_eq_true] at this; exact this.2
  | false => rw [hb, cond_false] at this; simp only [Bool.and_eq_true] at this; exact this.2.2
 unfold cerA at hA
 have hA := ndAll_in (ndAll_in (ndAll_in hA i (by omega)) j (by omega)) k (by omega)
 rw [Bool.or_eq_true] at hA
 unfold nedI
 rw [show ((j : Int) + ((x : Int) - (i : Int))).toNat = j + x - i by omega, show ((k : Int) + ((y : Int) - (j : Int))).toNat = k + y - j by omega, show ((x : Int) - (i : Int)).toNat = x - i by omega, show ((y : Int) - (j : Int) + (i : Int)).toNat = y - j + i by omega, show ((z : Int) - (k : Int) + (j : Int)).toNat = z - k + j by omega]
 simp only [Int.toNat_natCast]
 rcases hA with hA | hA
 ·have := Nat.le_of_ble_eq_true hA; left; omega
 ·have := Nat.le_of_ble_eq_true hA; right; omega
def spG (xs : List Int) (r : Nat) (p : List Int) : List (List Int) := (List.range (xs.getD r 0 + 1).toNat).map fun (k : Nat) => p ++ [(k : Int)]
def splN (xs : List Int) : Nat → List (List Int)
 | 0 => [[]]
 | r + 1 => (splN xs r).flatMap (spG xs r)
theorem getD_app (p : List Int) (x : Int) (i : Nat) : (p ++ [x]).getD i 0 = if i < p.length then p.getD i 0 else if i = p.length then x else 0 := by
 simp only [List.getD_eq_getElem?_getD]
 by_cases h : i < p.length
 ·rw [if_pos h, List.getElem?_append_left h]
 ·rw [if_neg h, List.getElem?_append_right (by omega)]
  by_cases h2 : i = p.length
  ·rw [if_pos h2, h2]; simp
  ·rw [if_neg h2, List.getElem?_eq_none (by simp; omega)]; rfl
theorem mem_spl {xs : List Int} : ∀ {r : Nat} {s : List Int}, s ∈ splN xs r ↔ s.length = r ∧ ∀ i, i < r → 0 ≤ s.getD i 0 ∧ s.getD i 0 ≤ xs.getD i 0
 | 0, s => by
  simp only [splN, List.mem_singleton]
  constructor
  ·rintro rfl; exact ⟨rfl, fun i hi => by omega⟩
  ·intro h; exact List.length_eq_zero_iff.1 h.1
 | r + 1, s => by
  simp only [splN, spG, List.mem_flatMap, List.mem_map, List.mem_range]
  constructor
  ·rintro ⟨p, hp, k, hk, rfl⟩
   have ⟨h1, h2⟩ := mem_spl.1 hp
   refine ⟨by simp [h1], fun i hi => ?_⟩
   rw [getD_app]
   by_cases e : i < r
   ·rw [if_pos (by omega)]; exact h2 i e
   ·rw [if_neg (by omega), if_pos (by omega)]
    have : i = r := by omega
    subst this
    omega
  ·rintro ⟨h1, h2⟩
   rcases List.eq_nil_or_concat s with rfl | ⟨p, x, rfl⟩
   ·simp at h1
   ·rw [List.concat_eq_append] at h1 h2 ⊢
    have hl : p.length = r := by simpa using h1
    have hx := h2 r (by omega)
    rw [getD_app, if_neg (by omega), if_pos (by omega)] at hx
    refine ⟨p, mem_spl.2 ⟨hl, fun i hi => ?_⟩, x.toNat, by omega, by rw [show ((x.toNat : Nat) : Int) = x by omega]⟩
    have := h2 i (by omega)
    rw [getD_app, if_pos (by omega)] at this
    exact this
theorem fm_len {α β : Type} {l : List α} {f : α → List β} {B : Nat} (h : ∀ p, (f p).length ≤ B) : (l.flatMap f).length ≤ B * l.length := by
 induction l with
 | nil => simp
 | cons a l ih =>
  rw [List.flatMap_cons, List.length_append, List.length_cons, Nat.mul_succ]
  have := h a
  omega
theorem spG_len {xs : List Int} {r : Nat} (h : ∀ i, xs.getD i 0 ≤ 8) (p : List Int) : (spG xs r p).length ≤ 9 := by
 unfold spG
 rw [List.length_map, List.length_range]
 have := h r
 omega
theorem spl_len {xs : List Int} (h : ∀ i, xs.getD i 0 ≤ 8) : ∀ r, (splN xs r).length ≤ 9 ^ r
 | 0 => by simp [splN]
 | r + 1 => by
  have := fm_len (l := splN xs r) (spG_len (r := r) h)
  have := spl_len h r
  rw [splN, Nat.pow_succ]
  omega
theorem spl_len3 {xs : List Int} (h : ∀ i, xs.getD i 0 ≤ 8) {r : Nat} (hr : r ≤ 3) : (splN xs r).length ≤ 729 := by
 have h1 := spl_len h r
 have : 9 ^ r ≤ 9 ^ 3 := Nat.pow_le_pow_right (by decide) hr
 omega
theorem getD_mem {α : Type} {d : α} {l : List α} {i : Nat} (h : i < l.length) : l.getD i d ∈ l := by
 rw [List.getD_eq_getElem?_getD, List.getElem?_eq_getElem h]; exact List.getElem_mem h
theorem take_getD {α : Type} {d : α} {l : List α} {i : Nat} (h : i < l.length) : l.take (i + 1) = l.take i ++ [l.getD i d] := by
 rw [List.take_add_one, List.getD_eq_getElem?_getD, List.getElem?_eq_getElem h]; rfl
theorem iSp3 {o11 : List (List Int)} {xs : List Int} {r j : Nat} (J : List (List Int) → Option (List (List Int))) (hx : ∀ i, xs.getD i 0 ≤ 8) (h0 : 0 ≤ xs.getD r 0) (hl : (o11.getD j []).length ≤ 100) (o : List (List Int)) (ho : o.length ≤ 100000) :
  F_impl_splits_L3 o11 (j : Int) J (xs.getD r 0 + 1) fuel o 0 = J (o ++ spG xs r (o11.getD j [])) := by
 have hx := hx r
 have key := loop_up (fun n i (s : List (List Int)) => F_impl_splits_L3 o11 (j : Int) J (xs.getD r 0 + 1) n s i) (xs.getD r 0 + 1) (fun i => o ++ (List.range i.toNat).map fun (k : Nat) => o11.getD j [] ++ [(k : Int)]) (J (o ++ spG xs r (o11.getD j []))) ?_ ?_ (by omega) fuel (by have := fuel_ge; omega)
 ·simpa using key
 ·intro n i i0 i1
  obtain ⟨k, rfl⟩ := int_nat i0
  have e1 : ((k : Int) + 1).toNat = k + 1 := by omega
  simp only [e1, Int.toNat_natCast]
  rw [F_impl_splits_L3, ite_t (decide_eq_true i1)]
  simp only [Int.toNat_natCast]
  rw [chk_pos (by omega), chk_pos ⟨by omega, by simp only [maxLen]; omega⟩, List.length_append, List.length_map, List.length_range, chk_pos ⟨by omega, by simp only [maxLen]; omega⟩, chk_pos (by unfold I64; omega), List.range_succ, List.map_append, List.append_assoc]
  rfl
 ·intro n
  rw [F_impl_splits_L3, ite_f (decide_eq_false (by omega))]
  rfl
theorem iSp2 {o11 : List (List Int)} {xs : List Int} {r : Nat} (J : List (List Int) → Option (List (List Int))) (hx : ∀ i, xs.getD i 0 ≤ 8) (h0 : 0 ≤ xs.getD r 0) (hr : r < xs.length) (hl : ∀ p ∈ o11, p.length ≤ 100) (ho : o11.length ≤ 1000) :
  F_impl_splits_L2 xs o11 (r : Int) J fuel [] 0 = J (o11.flatMap (spG xs r)) := by
 have hx2 := hx r
 have key := loop_up (fun n i (s : List (List Int)) => F_impl_splits_L2 xs o11 (r : Int) J n s i) ((o11.length : Nat) : Int) (fun i => (o11.take i.toNat).flatMap (spG xs r)) (J (o11.flatMap (spG xs r))) ?_ ?_ (by omega) fuel (by have := fuel_ge; omega)
 ·simpa using key
 ·intro n i i0 i1
  obtain ⟨k, rfl⟩ := int_nat i0
  have e1 : ((k : Int) + 1).toNat = k + 1 := by omega
  have hk : k < o11.length := by omega
  simp only [e1, Int.toNat_natCast]
  have hlen := fm_len (l := o11.take k) (spG_len (r := r) hx)
  have htl : (o11.take k).length ≤ 1000 := by rw [List.length_take]; omega
  rw [F_impl_splits_L2, ite_t (decide_eq_true i1)]
  refine jn_is (fun J4 => J4 ((o11.take (k + 1)).flatMap (spG xs r))) (fun J4 => ?_) ?_
  ·rw [chk_pos ⟨i0, i1⟩, Int.toNat_natCast, chk_pos (by unfold I64; omega)]
   simp only [nam]
   rw [iSp3 J4 hx h0 (hl _ (getD_mem hk)) _ (by omega), take_getD (d := []) hk, List.flatMap_append]
   simp
  ·rw [chk_pos (by unfold I64; omega)]
 ·intro n
  rw [F_impl_splits_L2, ite_f (decide_eq_false (by omega))]
  simp
theorem iSplits_eq {xs : List Int} (hx : ∀ i, xs.getD i 0 ≤ 8) (h0 : ∀ i, 0 ≤ xs.getD i 0) (hl : xs.length ≤ 3) : F_impl_splits xs = some (splN xs xs.length) := by
 unfold F_impl_splits
 refine jn_is (fun J => J (splN xs xs.length)) (fun J => ?_) rfl
 refine loop_up (fun n i (s : List (List Int)) => F_impl_splits_L1 xs J n s i) ((xs.length : Nat) : Int) (fun i => splN xs i.toNat) _ ?_ ?_ (by omega) fuel (by have := fuel_ge; omega)
 ·intro n i i0 i1
  obtain ⟨k, rfl⟩ := int_nat i0
  have e1 : ((k : Int) + 1).toNat = k + 1 := by omega
  have hk : k < xs.length := by omega
  simp only [e1, Int.toNat_natCast]
  rw [F_impl_splits_L1, ite_t (decide_eq_true i1)]
  refine jn_is (fun J2 => J2 (splN xs (k + 1))) (fun J2 => ?_) ?_
  ·rw [chk_pos ⟨i0, i1⟩]
   refine jn_is (fun J3 => J3 (splN xs (k + 1))) (fun J3 => ?_) rfl
   exact iSp2 J3 hx (h0 k) hk (fun p hp => by have := (mem_spl.1 hp).1; omega) (by have := spl_len3 hx (r := k) (by omega); omega)
  ·rw [chk_pos (by unfold I64; omega)]
 ·intro n
  simp only [Int.toNat_natCast]
  rw [F_impl_splits_L1, ite_f (decide_eq_false (by omega))]
theorem sSp3 {o11 : List (List Int)} {xs : List Int} {r j : Nat} (J : List (List Int) → Option (List (List Int))) (hx : ∀ i, xs.getD i 0 ≤ 8) (h0 : 0 ≤ xs.getD r 0) (hr : r < xs.length) (hj : j < o11.length) (hl : (o11.getD j []).length ≤ 100) (o : List (List Int)) (ho : o.length ≤ 100000) :
  F_spec_l4Splits_L3 xs o11 (r : Int) (j : Int) J fuel o 0 = J (o ++ spG xs r (o11.getD j [])) := by
 have hx := hx r
 have key := loop_up (fun n i (s : List (List Int)) => F_spec_l4Splits_L3 xs o11 (r : Int) (j : Int) J n s i) (xs.getD r 0 + 1) (fun i => o ++ (List.range i.toNat).map fun (k : Nat) => o11.getD j [] ++ [(k : Int)]) (J (o ++ spG xs r (o11.getD j []))) ?_ ?_ (by omega) fuel (by have := fuel_ge; omega)
 ·simpa using key
 ·intro n i i0 i1
  obtain ⟨k, rfl⟩ := int_nat i0
  have e1 : ((k : Int) + 1).toNat = k + 1 := by omega
  simp only [e1, Int.toNat_natCast]
  rw [F_spec_l4Splits_L3, chk_pos ⟨by omega, by omega⟩]
  simp only [Int.toNat_natCast]
  rw [ite_t (decide_eq_true (by omega)), chk_pos ⟨by omega, by omega⟩, chk_pos (by omega), chk_pos ⟨by omega, by simp only [maxLen]; omega⟩, List.length_append, List.length_map, List.length_range, chk_pos ⟨by omega, by simp only [maxLen]; omega⟩, chk_pos (by unfold I64; omega), List.range_succ, List.map_append, List.append_assoc]
  rfl
 ·intro n
  rw [F_spec_l4Splits_L3, chk_pos ⟨by omega, by omega⟩]
  simp only [Int.toNat_natCast]
  rw [ite_f (decide_eq_false (by omega))]
  rfl
theorem sSp2 {o11 : List (List Int)} {xs : List Int} {r : Nat} (J : List (List Int) → Option (List (List Int))) (hx : ∀ i, xs.getD i 0 ≤ 8) (h0 : 0 ≤ xs.getD r 0) (hr : r < xs.length) (hl : ∀ p ∈ o11, p.length ≤ 100) (ho : o11.length ≤ 1000) :
  F_spec_l4Splits_L2 xs o11 (r : Int) J fuel [] 0 = J (o11.flatMap (spG xs r)) := by
 have hx2 := hx r
 have key := loop_up (fun n i (s : List (List Int)) => F_spec_l4Splits_L2 xs o11 (r : Int) J n s i) ((o11.length : Nat) : Int) (fun i => (o11.take i.toNat).flatMap (spG xs r)) (J (o11.flatMap (spG xs r))) ?_ ?_ (by omega) fuel (by have := fuel_ge; omega)
 ·simpa using key
 ·intro n i i0 i1
  obtain ⟨k, rfl⟩ := int_nat i0
  have e1 : ((k : Int) + 1).toNat = k + 1 := by omega
  have hk : k < o11.length := by omega
  simp only [e1, Int.toNat_natCast]
  have hlen := fm_len (l := o11.take k) (spG_len (r := r) hx)
  have htl : (o11.take k).length ≤ 1000 := by rw [List.length_take]; omega
  rw [F_spec_l4Splits_L2, ite_t (decide_eq_true i1)]
  refine jn_is (fun J4 => J4 ((o11.take (k + 1)).flatMap (spG xs r))) (fun J4 => ?_) ?_
  ·rw [sSp3 J4 hx h0 hr hk (hl _ (getD_mem hk)) _ (by omega), take_getD (d := []) hk, List.flatMap_append]
   simp
  ·rw [chk_pos (by unfold I64; omega)]
 ·intro n
  rw [F_spec_l4Splits_L2, ite_f (decide_eq_false (by omega))]
  simp
theorem sSplits_eq {xs : List Int} (hx : ∀ i, xs.getD i 0 ≤ 8) (h0 : ∀ i, 0 ≤ xs.getD i 0) (hl : xs.length ≤ 3) : F_spec_l4Splits xs = some (splN xs xs.length) := by
 unfold F_spec_l4Splits
 refine jn_is (fun J => J (splN xs xs.length)) (fun J => ?_) rfl
 refine loop_up (fun n i (s : List (List Int)) => F_spec_l4Splits_L1 xs J n s i) ((xs.length : Nat) : Int) (fun i => splN xs i.toNat) _ ?_ ?_ (by omega) fuel (by have := fuel_ge; omega)
 ·intro n i i0 i1
  obtain ⟨k, rfl⟩ := int_nat i0
  have e1 : ((k : Int) + 1).toNat = k + 1 := by omega
  have hk : k < xs.length := by omega
  simp only [e1, Int.toNat_natCast]
  rw [F_spec_l4Splits_L1, ite_t (decide_eq_true i1)]
  refine jn_is (fun J2 => J2 (splN xs (k + 1))) (fun J2 => ?_) ?_
  ·refine jn_is (fun J3 => J3 (splN xs (k + 1))) (fun J3 => ?_) rfl
   exact sSp2 J3 hx (h0 k) hk (fun p hp => by have := (mem_spl.1 hp).1; omega) (by have := spl_len3 hx (r := k) (by omega); omega)
  ·rw [chk_pos (by unfold I64; omega)]
 ·intro n
  simp only [Int.toNat_natCast]
  rw [F_spec_l4Splits_L1, ite_f (decide_eq_false (by omega))]
def lfP (x s : List Int) (k : Nat) : List Int := (List.range k).map fun (j : Nat) => x.getD j 0 - s.getD j 0
theorem lfP_len {x s : List Int} {k : Nat} : (lfP x s k).length = k := by simp [lfP]
theorem lfP_succ {x s : List Int} {k : Nat} : lfP x s (k + 1) = lfP x s k ++ [x.getD k 0 - s.getD k 0] := by unfold lfP; rw [List.range_succ, List.map_append]; rfl
def bdL (x : List Int) : Prop := x.length ≤ 3 ∧ ∀ i, -1000 ≤ x.getD i 0 ∧ x.getD i 0 ≤ 1000
def mvP (x y : List Int) (k : Nat) : List Int := (List.range x.length).map fun (j : Nat) => if 1 ≤ j ∧ j < k then x.getD j 0 + y.getD (j - 1) 0 else x.getD j 0
theorem mvP_len {x y : List Int} {k : Nat} : (mvP x y k).length = x.length := by simp [mvP]
theorem mvP_at {x y : List Int} {k j : Nat} (h : j < x.length) : (mvP x y k).getD j 0 = if 1 ≤ j ∧ j < k then x.getD j 0 + y.getD (j - 1) 0 else x.getD j 0 := by
 unfold mvP; rw [List.getD_eq_getElem?_getD, List.getElem?_map, List.getElem?_range h]; rfl
theorem mvP_one {x y : List Int} : mvP x y 1 = x := by
 refine List.ext_getElem mvP_len fun i h1 h2 => ?_
 have := mvP_at (x := x) (y := y) (k := 1) h2
 rw [if_neg (by omega)] at this
 simpa [List.getD_eq_getElem?_getD, h1, h2] using this
theorem mvP_set {x y : List Int} {k : Nat} (hk : 1 ≤ k) : (mvP x y k).set k (x.getD k 0 + y.getD (k - 1) 0) = mvP x y (k + 1) := by
 refine List.ext_getElem? fun i => ?_
 by_cases hi : i < x.length
 ·have h1 : (mvP x y (k + 1))[i]? = some (if 1 ≤ i ∧ i < k + 1 then x.getD i 0 + y.getD (i - 1) 0 else x.getD i 0) := by
   unfold mvP; rw [List.getElem?_map, List.getElem?_range hi]; rfl
  rw [h1]
  by_cases e : k = i
  ·subst e
   rw [List.getElem?_set_self (by rw [mvP_len]; exact hi), if_pos ⟨hk, by omega⟩]
  ·rw [List.getElem?_set_ne e]
   unfold mvP; rw [List.getElem?_map, List.getElem?_range hi]
   show some (if 1 ≤ i ∧ i < k then _ else _) = some _
   congr 1
   by_cases c : 1 ≤ i ∧ i < k
   ·rw [if_pos c, if_pos (by omega)]
   ·rw [if_neg c, if_neg (by omega)]
 ·rw [List.getElem?_eq_none (by rw [List.length_set, mvP_len]; omega), List.getElem?_eq_none (by rw [mvP_len]; omega)]
theorem iLeft_eq {x s : List Int} (hx : bdL x) (hs : bdL s) (hl : s.length = x.length) : F_impl_left x s = some (lfP x s x.length) := by
 unfold F_impl_left
 have hxl := hx.1
 refine jn_is (fun J => J (lfP x s x.length)) (fun J => ?_) rfl
 refine loop_up (fun n i (o : List Int) => F_impl_left_L1 x s J n o i) ((x.length : Nat) : Int) (fun i => lfP x s i.toNat) _ ?_ ?_ (by omega) fuel (by have := fuel_ge; omega)
 ·intro n i i0 i1
  obtain ⟨k, rfl⟩ := int_nat i0
  have e1 : ((k : Int) + 1).toNat = k + 1 := by omega
  have b1 := hx.2 k
  have b2 := hs.2 k
  simp only [e1, Int.toNat_natCast]
  rw [F_impl_left_L1, ite_t (decide_eq_true (by omega)), chk_pos ⟨i0, by omega⟩, chk_pos ⟨i0, by omega⟩, Int.toNat_natCast, chk_pos (by unfold I64; omega)]
  simp only [nam]
  rw [lfP_len, chk_pos ⟨by omega, by simp only [maxLen]; omega⟩, chk_pos (by unfold I64; omega), lfP_succ]
 ·intro n
  simp only [Int.toNat_natCast]
  rw [F_impl_left_L1, ite_f (decide_eq_false (by omega))]
theorem iMoved_eq {x y : List Int} (hx : bdL x) (hy : bdL y) (hl : y.length = x.length) (h1 : 1 ≤ x.length) : F_impl_moved x y = some (mvP x y x.length) := by
 unfold F_impl_moved
 have hxl := hx.1
 rw [chk_pos (by omega)]
 refine jn_is (fun J => J (mvP x y x.length)) (fun J => ?_) rfl
 have key := loop_up (fun n i (o : List Int) => F_impl_moved_L1 y J n o (i + 1)) ((x.length : Nat) - 1 : Int) (fun i => mvP x y (i + 1).toNat) (J (mvP x y x.length)) ?_ ?_ (by omega) fuel (by have := fuel_ge; omega)
 ·have e : mvP x y ((0 : Int) + 1).toNat = x := mvP_one
  simpa [mvP_one] using key
 ·intro n i i0 i1
  obtain ⟨k, rfl⟩ := int_nat i0
  have e1 : ((k : Int) + 1).toNat = k + 1 := by omega
  have e2 : ((k : Int) + 1 + 1).toNat = k + 2 := by omega
  have e3 : ((k : Int) + 1 - 1).toNat = k := by omega
  have b1 := hx.2 (k + 1)
  have b2 := hy.2 k
  have hat := mvP_at (x := x) (y := y) (k := k + 1) (j := k + 1) (by omega)
  rw [if_neg (by omega)] at hat
  simp only [e1, e2]
  rw [F_impl_moved_L1, mvP_len, ite_t (decide_eq_true (by omega)), chk_pos ⟨by omega, by omega⟩, chk_pos (by unfold I64; omega), chk_pos ⟨by omega, by omega⟩, e1, e3, hat, chk_pos (by unfold I64; omega)]
  simp only [nam]
  rw [chk_pos (by unfold I64; omega)]
  have := mvP_set (x := x) (y := y) (k := k + 1) (by omega)
  rw [show k + 1 - 1 = k by omega] at this
  rw [this]
 ·intro n
  have e1 : (((x.length : Nat) : Int) - 1 + 1).toNat = x.length := by omega
  simp only [e1]
  rw [F_impl_moved_L1, mvP_len, ite_f (decide_eq_false (by omega))]
theorem sRest_eq {x s : List Int} (hx : bdL x) (hs : bdL s) (hl : s.length = x.length) : F_spec_l4Rest x s = some (lfP x s x.length) := by
 unfold F_spec_l4Rest
 have hxl := hx.1
 refine jn_is (fun J => J (lfP x s x.length)) (fun J => ?_) rfl
 refine loop_up (fun n i (o : List Int) => F_spec_l4Rest_L1 x s J n o i) ((x.length : Nat) : Int) (fun i => lfP x s i.toNat) _ ?_ ?_ (by omega) fuel (by have := fuel_ge; omega)
 ·intro n i i0 i1
  obtain ⟨k, rfl⟩ := int_nat i0
  have e1 : ((k : Int) + 1).toNat = k + 1 := by omega
  have b1 := hx.2 k
  have b2 := hs.2 k
  simp only [e1, Int.toNat_natCast]
  rw [F_spec_l4Rest_L1, ite_t (decide_eq_true (by omega)), chk_pos ⟨i0, by omega⟩, chk_pos ⟨i0, by omega⟩, Int.toNat_natCast, chk_pos (by unfold I64; omega)]
  simp only [nam]
  rw [lfP_len, chk_pos ⟨by omega, by simp only [maxLen]; omega⟩, chk_pos (by unfold I64; omega), lfP_succ]
 ·intro n
  simp only [Int.toNat_natCast]
  rw [F_spec_l4Rest_L1, ite_f (decide_eq_false (by omega))]
theorem sMoved_eq {x y : List Int} (J : List Int → Option (List Int)) (hx : bdL x) (hy : bdL y) (hl : y.length = x.length) (h1 : 1 ≤ x.length) : F_spec_l4Yes_L1 y J fuel x 1 = J (mvP x y x.length) := by
 have hxl := hx.1
 have key := loop_up (fun n i (o : List Int) => F_spec_l4Yes_L1 y J n o (i + 1)) ((x.length : Nat) - 1 : Int) (fun i => mvP x y (i + 1).toNat) (J (mvP x y x.length)) ?_ ?_ (by omega) fuel (by have := fuel_ge; omega)
 ·have e : mvP x y ((0 : Int) + 1).toNat = x := mvP_one
  simpa [mvP_one] using key
 ·intro n i i0 i1
  obtain ⟨k, rfl⟩ := int_nat i0
  have e1 : ((k : Int) + 1).toNat = k + 1 := by omega
  have e2 : ((k : Int) + 1 + 1).toNat = k + 2 := by omega
  have e3 : ((k : Int) + 1 - 1).toNat = k := by omega
  have b1 := hx.2 (k + 1)
  have b2 := hy.2 k
  have hat := mvP_at (x := x) (y := y) (k := k + 1) (j := k + 1) (by omega)
  rw [if_neg (by omega)] at hat
  simp only [e1, e2]
  rw [F_spec_l4Yes_L1, mvP_len, ite_t (decide_eq_true (by omega)), chk_pos ⟨by omega, by omega⟩, chk_pos (by unfold I64; omega), chk_pos ⟨by omega, by omega⟩, e1, e3, hat, chk_pos (by unfold I64; omega)]
  simp only [nam]
  rw [chk_pos (by unfold I64; omega)]
  have := mvP_set (x := x) (y := y) (k := k + 1) (by omega)
  rw [show k + 1 - 1 = k by omega] at this
  rw [this]
 ·intro n
  have e1 : (((x.length : Nat) : Int) - 1 + 1).toNat = x.length := by omega
  simp only [e1]
  rw [F_spec_l4Yes_L1, mvP_len, ite_f (decide_eq_false (by omega))]
theorem sYes_eq {x s : List Int} (hx : bdL x) (hs : bdL s) (hy : bdL (lfP x s x.length)) (hl : s.length = x.length) (h1 : 1 ≤ x.length) : F_spec_l4Yes x s = some (mvP s (lfP x s x.length) x.length) := by
 unfold F_spec_l4Yes
 have := hs.1
 rw [bnd1_eq (sRest_eq hx hs hl), chk_pos (by omega)]
 refine jn_is (fun J => J (mvP s (lfP x s x.length) x.length)) (fun J => ?_) rfl
 have := sMoved_eq J hs hy (by rw [lfP_len, hl]) (by omega)
 rw [this, hl]
def ndL (xs : List Int) : Int := nedI (tri xs 0) (tri xs 1) (tri xs 2)
def Vls (xs : List Int) : Prop := (1 ≤ xs.length ∧ xs.length ≤ 3) ∧ V3 (tri xs 0) (tri xs 1) (tri xs 2)
def yesL (xs s : List Int) : List Int := mvP s (lfP xs s xs.length) xs.length
def noL (xs s : List Int) : List Int := mvP (lfP xs s xs.length) s xs.length
theorem list3 {xs : List Int} (h : 1 ≤ xs.length ∧ xs.length ≤ 3) : (∃ c, xs = [c]) ∨ (∃ b c, xs = [b, c]) ∨ ∃ a b c, xs = [a, b, c] := by
 match xs, h with
 | [], h => simp at h
 | [c], _ => exact .inl ⟨c, rfl⟩
 | [b, c], _ => exact .inr (.inl ⟨b, c, rfl⟩)
 | [a, b, c], _ => exact .inr (.inr ⟨a, b, c, rfl⟩)
 | _ :: _ :: _ :: _ :: _, h => simp at h
theorem len2 {s : List Int} (h : s.length = 2) : ∃ j k, s = [j, k] := by
 match s, h with
 | [j, k], _ => exact ⟨j, k, rfl⟩
theorem len3 {s : List Int} (h : s.length = 3) : ∃ i j k, s = [i, j, k] := by
 match s, h with
 | [i, j, k], _ => exact ⟨i, j, k, rfl⟩
theorem Vls_bd {xs : List Int} (h : Vls xs) : bdL xs ∧ (∀ i, xs.getD i 0 ≤ 8) ∧ ∀ i, 0 ≤ xs.getD i 0 := by
 have key : ∀ i, 0 ≤ xs.getD i 0 ∧ xs.getD i 0 ≤ 8 := by
  intro i
  obtain ⟨hl, h1, h2, h3, h4⟩ := h
  rcases list3 hl with ⟨c, rfl⟩ | ⟨b, c, rfl⟩ | ⟨a, b, c, rfl⟩
  ·have h3 : 0 ≤ c := h3
   have h4 : 0 + 0 + c ≤ 8 := h4
   match i with
   | 0 => exact ⟨h3, by show c ≤ 8; omega⟩
   | i + 1 => exact ⟨by simp, by simp⟩
  ·have h2 : 0 ≤ b := h2
   have h3 : 0 ≤ c := h3
   have h4 : 0 + b + c ≤ 8 := h4
   match i with
   | 0 => exact ⟨h2, by show b ≤ 8; omega⟩
   | 1 => exact ⟨h3, by show c ≤ 8; omega⟩
   | i + 2 => exact ⟨by simp, by simp⟩
  ·have h1 : 0 ≤ a := h1
   have h2 : 0 ≤ b := h2
   have h3 : 0 ≤ c := h3
   have h4 : a + b + c ≤ 8 := h4
   match i with
   | 0 => exact ⟨h1, by show a ≤ 8; omega⟩
   | 1 => exact ⟨h2, by show b ≤ 8; omega⟩
   | 2 => exact ⟨h3, by show c ≤ 8; omega⟩
   | i + 3 => exact ⟨by simp, by simp⟩
 exact ⟨⟨h.1.2, fun i => by have := key i; omega⟩, fun i => (key i).2, fun i => (key i).1⟩
theorem spl_bd {xs s : List Int} (h : Vls xs) (hs : s ∈ splN xs xs.length) : s.length = xs.length ∧ bdL s ∧ bdL (lfP xs s xs.length) := by
 obtain ⟨hb, h8, h0⟩ := Vls_bd h
 obtain ⟨h1, h2⟩ := mem_spl.1 hs
 have hl := h.1
 have key : ∀ i, 0 ≤ s.getD i 0 ∧ s.getD i 0 ≤ 8 := fun i => by
  by_cases hi : i < xs.length
  ·have := h2 i hi; have := h8 i; omega
  ·rw [List.getD_eq_getElem?_getD, List.getElem?_eq_none (by omega)]; simp
 refine ⟨h1, ⟨by omega, fun i => by have := key i; omega⟩, by rw [lfP_len]; omega, fun i => ?_⟩
 by_cases hi : i < xs.length
 ·have e : (lfP xs s xs.length).getD i 0 = xs.getD i 0 - s.getD i 0 := by
   unfold lfP; rw [List.getD_eq_getElem?_getD, List.getElem?_map, List.getElem?_range hi]; rfl
  have := key i; have := h8 i; have := h0 i
  rw [e]; omega
 ·rw [List.getD_eq_getElem?_getD, List.getElem?_eq_none (by rw [lfP_len]; omega)]; simp
theorem tri_split {xs s : List Int} (h : Vls xs) (hs : s ∈ splN xs xs.length) : ∃ i j k : Int, ((0 ≤ i ∧ i ≤ tri xs 0) ∧ (0 ≤ j ∧ j ≤ tri xs 1) ∧ (0 ≤ k ∧ k ≤ tri xs 2)) ∧
  (tri (yesL xs s) 0 = i ∧ tri (yesL xs s) 1 = j + (tri xs 0 - i) ∧ tri (yesL xs s) 2 = k + (tri xs 1 - j)) ∧ (tri (noL xs s) 0 = tri xs 0 - i ∧ tri (noL xs s) 1 = tri xs 1 - j + i ∧ tri (noL xs s) 2 = tri xs 2 - k + j) := by
 obtain ⟨h1, h2⟩ := mem_spl.1 hs
 rcases list3 h.1 with ⟨c, rfl⟩ | ⟨b, c, rfl⟩ | ⟨a, b, c, rfl⟩
 ·obtain ⟨k, rfl⟩ : ∃ k, s = [k] := List.length_eq_one_iff.1 h1
  have f0 : 0 ≤ k ∧ k ≤ c := h2 0 (by simp)
  exact ⟨0, 0, k, ⟨⟨Int.le_refl _, Int.le_refl _⟩, ⟨Int.le_refl _, Int.le_refl _⟩, f0⟩, ⟨rfl, rfl, by show k = k + (0 - 0); omega⟩, rfl, rfl, by show c - k = c - k + 0; omega⟩
 ·obtain ⟨j, k, rfl⟩ : ∃ j k, s = [j, k] := len2 h1
  have f0 : 0 ≤ j ∧ j ≤ b := h2 0 (by simp)
  have f1 : 0 ≤ k ∧ k ≤ c := h2 1 (by simp)
  exact ⟨0, j, k, ⟨⟨Int.le_refl _, Int.le_refl _⟩, f0, f1⟩, ⟨rfl, by show j = j + (0 - 0); omega, rfl⟩, rfl, by show b - j = b - j + 0; omega, rfl⟩
 ·obtain ⟨i, j, k, rfl⟩ : ∃ i j k, s = [i, j, k] := len3 h1
  have f0 : 0 ≤ i ∧ i ≤ a := h2 0 (by simp)
  have f1 : 0 ≤ j ∧ j ≤ b := h2 1 (by simp)
  have f2 : 0 ≤ k ∧ k ≤ c := h2 2 (by simp)
  exact ⟨i, j, k, ⟨f0, f1, f2⟩, ⟨rfl, rfl, rfl⟩, rfl, rfl, rfl⟩
theorem split_tri {xs : List Int} (h : Vls xs) {i j k : Int} (hi : 0 ≤ i ∧ i ≤ tri xs 0) (hj : 0 ≤ j ∧ j ≤ tri xs 1) (hk : 0 ≤ k ∧ k ≤ tri xs 2) : ∃ s, s ∈ splN xs xs.length ∧ 
  (tri (yesL xs s) 0 = i ∧ tri (yesL xs s) 1 = j + (tri xs 0 - i) ∧ tri (yesL xs s) 2 = k + (tri xs 1 - j)) ∧ (tri (noL xs s) 0 = tri xs 0 - i ∧ tri (noL xs s) 1 = tri xs 1 - j + i ∧ tri (noL xs s) 2 = tri xs 2 - k + j) := by
 rcases list3 h.1 with ⟨c, rfl⟩ | ⟨b, c, rfl⟩ | ⟨a, b, c, rfl⟩
 ·have hi : 0 ≤ i ∧ i ≤ 0 := hi
  have hj : 0 ≤ j ∧ j ≤ 0 := hj
  have hk : 0 ≤ k ∧ k ≤ c := hk
  have ei : i = 0 := by omega
  have ej : j = 0 := by omega
  subst ei; subst ej
  refine ⟨[k], mem_spl.2 ⟨rfl, fun z hz => ?_⟩, ⟨rfl, rfl, by show k = k + (0 - 0); omega⟩, rfl, rfl, by show c - k = c - k + 0; omega⟩
  match z, hz with
  | 0, _ => exact hk
 ·have hi : 0 ≤ i ∧ i ≤ 0 := hi
  have hj : 0 ≤ j ∧ j ≤ b := hj
  have hk : 0 ≤ k ∧ k ≤ c := hk
  have ei : i = 0 := by omega
  subst ei
  refine ⟨[j, k], mem_spl.2 ⟨rfl, fun z hz => ?_⟩, ⟨rfl, by show j = j + (0 - 0); omega, rfl⟩, rfl, by show b - j = b - j + 0; omega, rfl⟩
  match z, hz with
  | 0, _ => exact hj
  | 1, _ => exact hk
 ·have hi : 0 ≤ i ∧ i ≤ a := hi
  have hj : 0 ≤ j ∧ j ≤ b := hj
  have hk : 0 ≤ k ∧ k ≤ c := hk
  refine ⟨[i, j, k], mem_spl.2 ⟨rfl, fun z hz => ?_⟩, ⟨rfl, rfl, rfl⟩, rfl, rfl, rfl⟩
  match z, hz with
  | 0, _ => exact hi
  | 1, _ => exact hj
  | 2, _ => exact hk
theorem yes_Vls {xs s : List Int} (h : Vls xs) (hs : s ∈ splN xs xs.length) : Vls (yesL xs s) ∧ Vls (noL xs s) := by
 obtain ⟨i, j, k, ⟨hi, hj, hk⟩, ⟨y0, y1, y2⟩, n0, n1, n2⟩ := tri_split h hs
 obtain ⟨hl, g1, g2, g3, g4⟩ := h
 have hsl := (mem_spl.1 hs).1
 refine ⟨⟨by unfold yesL; rw [mvP_len]; omega, ?_⟩, by unfold noL; rw [mvP_len, lfP_len]; exact hl, ?_⟩
 ·rw [y0, y1, y2]; exact ⟨by omega, by omega, by omega, by omega⟩
 ·rw [n0, n1, n2]; exact ⟨by omega, by omega, by omega, by omega⟩
theorem ndL_within {xs : List Int} {n : Int} (h : Vls xs) (h2 : 2 ≤ tri xs 0 + tri xs 1 + tri xs 2) : (∃ s, s ∈ splN xs xs.length ∧ ndL (yesL xs s) < n ∧ ndL (noL xs s) < n) ↔ ndL xs ≤ n := by
 constructor
 ·rintro ⟨s, hs, h3, h4⟩
  obtain ⟨i, j, k, ⟨hi, hj, hk⟩, ⟨y0, y1, y2⟩, n0, n1, n2⟩ := tri_split h hs
  unfold ndL at h3 h4 ⊢
  rw [y0, y1, y2] at h3
  rw [n0, n1, n2] at h4
  rcases ned_all h.2 hi hj hk with e | e <;> omega
 ·intro h3
  obtain ⟨_, i, j, k, hi, hj, hk, h4, h5⟩ := ned_two h.2 h2
  obtain ⟨s, hs, ⟨y0, y1, y2⟩, n0, n1, n2⟩ := split_tri h hi hj hk
  unfold ndL at h3 ⊢
  refine ⟨s, hs, ?_, ?_⟩
  ·rw [y0, y1, y2]; omega
  ·rw [n0, n1, n2]; omega
theorem ndL_in {xs : List Int} (h : Vls xs) : 0 ≤ ndL xs ∧ ndL xs ≤ 9 := ned_in h.2
theorem idx_core {α : Type} {d : α} {l : List α} {L : Nat → Int → Option Int} {pB : α → Bool} {r : Option Int} (hl : l.length ≤ 1000000)
  (step : ∀ n (k : Nat), k < l.length → L (n + 1) (k : Int) = bif pB (l.getD k d) then some (k : Int) else L n ((k : Int) + 1)) (fin : ∀ n, L (n + 1) ((l.length : Nat) : Int) = r) :
  (∃ k : Nat, k < l.length ∧ pB (l.getD k d) = true ∧ (∀ j, j < k → pB (l.getD j d) = false) ∧ L fuel 0 = some (k : Int)) ∨ ((∀ k, k < l.length → pB (l.getD k d) = false) ∧ L fuel 0 = r) := by
 have key : ∀ (m : Nat) (n k : Nat), k + m = l.length → m < n → (∀ j, j < k → pB (l.getD j d) = false) → (∃ i : Nat, i < l.length ∧ pB (l.getD i d) = true ∧ (∀ j, j < i → pB (l.getD j d) = false) ∧ L n (k : Int) = some (i : Int)) ∨ ((∀ i, i < l.length → pB (l.getD i d) = false) ∧ L n (k : Int) = r) := by
  intro m
  induction m with
  | zero =>
   intro n k h1 h2 h3
   obtain ⟨n, rfl⟩ : ∃ m, n = m + 1 := ⟨n - 1, by omega⟩
   have e : k = l.length := by omega
   subst e
   exact .inr ⟨h3, fin n⟩
  | succ m ih =>
   intro n k h1 h2 h3
   obtain ⟨n, rfl⟩ : ∃ m, n = m + 1 := ⟨n - 1, by omega⟩
   rw [step n k (by omega)]
   cases hp : pB (l.getD k d) with
   | true => exact .inl ⟨k, by omega, hp, h3, rfl⟩
   | false =>
    refine ih n (k + 1) (by omega) (by omega) fun j hj => ?_
    by_cases e : j = k
    ·rw [e]; exact hp
    ·exact h3 j (by omega)
 have := fuel_ge
 exact key l.length fuel 0 (by omega) (by omega) fun j hj => by omega
theorem any_yes {α : Type} {d : α} {l : List α} {p : α → Bool} {k : Nat} (h : k < l.length) (hp : p (l.getD k d) = true) : l.any p = true := List.any_eq_true.2 ⟨_, getD_mem h, hp⟩
theorem any_no {α : Type} {d : α} {l : List α} {p : α → Bool} (h : ∀ k, k < l.length → p (l.getD k d) = false) : l.any p = false := by
 rw [List.any_eq_false]
 intro x hx
 obtain ⟨i, hi, rfl⟩ := List.getElem_of_mem hx
 have := h i hi
 rw [List.getD_eq_getElem?_getD, List.getElem?_eq_getElem hi] at this
 simpa using this
theorem iContF_eq {l : List (List Int)} {p1 : List Int → Option Bool} {pB : List Int → Bool} (hl : l.length ≤ 100000) (hp : ∀ s ∈ l, p1 s = some (pB s)) : F_slices_ContainsFunc_____int___int_ l p1 = some (l.any pB) := by
 unfold F_slices_ContainsFunc_____int___int_ F_slices_IndexFunc_____int___int_
 have key := idx_core (d := []) (l := l) (L := fun n i => F_slices_IndexFunc_____int___int__L1 l p1 (fun _ => some (-1 : Int)) n i) (pB := pB) (r := some (-1)) (by omega) (fun n k hk => by
  try dsimp only
  rw [F_slices_IndexFunc_____int___int__L1, ite_t (decide_eq_true (by omega)), chk_pos ⟨by omega, by omega⟩, Int.toNat_natCast, bnd1_eq (hp _ (getD_mem hk)), chk_pos (by unfold I64; omega)]) (fun n => by
  try dsimp only
  rw [F_slices_IndexFunc_____int___int__L1, ite_f (decide_eq_false (by omega))])
 try dsimp only [jn] at key ⊢
 rcases key with ⟨k, h1, h2, _, h4⟩ | ⟨h1, h2⟩
 ·rw [h4, any_yes h1 h2]
  show some (decide ((k : Int) ≥ 0)) = some true
  rw [decide_eq_true (by omega)]
 ·rw [h2, any_no h1]; rfl
theorem iContT_eq {l : List Nd} (a b c : Int) (hl : l.length ≤ 100000) : F_slices_Contains___impl_triple_impl_triple_ l a b c = some (l.any fun t => t == (a, b, c)) := by
 unfold F_slices_Contains___impl_triple_impl_triple_ F_slices_Index___impl_triple_impl_triple_
 have key := idx_core (d := (0, 0, 0)) (l := l) (L := fun n i => F_slices_Index___impl_triple_impl_triple__L1 l a b c (fun _ => some (-1 : Int)) n i) (pB := fun t => t == (a, b, c)) (r := some (-1)) (by omega) (fun n k hk => by
  try dsimp only
  rw [F_slices_Index___impl_triple_impl_triple__L1, ite_t (decide_eq_true (by omega)), chk_pos ⟨by omega, by omega⟩, Int.toNat_natCast, chk_pos (by unfold I64; omega)]
  simp only [nam]
  have e : ((a == ((List.getD l k (0, 0, 0)).1)) && ((b == ((List.getD l k (0, 0, 0)).2.1)) && ((c == ((List.getD l k (0, 0, 0)).2.2)) && (true)))) = (List.getD l k (0, 0, 0) == (a, b, c)) := by
   obtain ⟨x, y, z⟩ := List.getD l k (0, 0, 0)
   rw [Bool.eq_iff_iff]
   simp only [Bool.and_eq_true, beq_iff_eq, Prod.mk.injEq, and_true]
   constructor
   ·rintro ⟨rfl, rfl, rfl⟩; exact ⟨rfl, rfl, rfl⟩
   ·rintro ⟨rfl, rfl, rfl⟩; exact ⟨rfl, rfl, rfl⟩
  rw [e]) (fun n => by
  try dsimp only
  rw [F_slices_Index___impl_triple_impl_triple__L1, ite_f (decide_eq_false (by omega))])
 try dsimp only [jn] at key ⊢
 rcases key with ⟨k, h1, h2, _, h4⟩ | ⟨h1, h2⟩
 ·rw [h4, any_yes h1 h2]
  show some (decide ((k : Int) ≥ 0)) = some true
  rw [decide_eq_true (by omega)]
 ·rw [h2, any_no h1]; rfl
theorem iDelT_eq {l : List Nd} {p1 : Int → Int → Int → Option Bool} {pB : Nd → Bool} (hl : l.length ≤ 100000) (hp : ∀ a b c, p1 a b c = some (pB (a, b, c))) : F_slices_DeleteFunc___impl_triple_impl_triple_ l p1 = some (l.filter fun t => !(pB t)) := by
 unfold F_slices_DeleteFunc___impl_triple_impl_triple_ F_slices_IndexFunc___impl_triple_impl_triple_
 have key := idx_core (d := (0, 0, 0)) (l := l) (L := fun n i => F_slices_IndexFunc___impl_triple_impl_triple__L1 l p1 (fun _ => some (-1 : Int)) n i) (pB := pB) (r := some (-1)) (by omega) (fun n k hk => by
  try dsimp only
  rw [F_slices_IndexFunc___impl_triple_impl_triple__L1, ite_t (decide_eq_true (by omega)), chk_pos ⟨by omega, by omega⟩, Int.toNat_natCast, bnd1_eq (hp _ _ _), chk_pos (by unfold I64; omega)]) (fun n => by
  try dsimp only
  rw [F_slices_IndexFunc___impl_triple_impl_triple__L1, ite_f (decide_eq_false (by omega))])
 try dsimp only [jn] at key ⊢
 have noall : ∀ i, i ≤ l.length → (∀ j, j < i → pB (l.getD j (0, 0, 0)) = false) → (l.take i).filter (fun t => !(pB t)) = l.take i := by
  intro i hi hj
  rw [List.filter_eq_self]
  intro x hx
  obtain ⟨j, h1, rfl⟩ := List.getElem_of_mem hx
  rw [List.length_take] at h1
  have := hj j (by omega)
  rw [List.getD_eq_getElem?_getD, List.getElem?_eq_getElem (by omega)] at this
  rw [List.getElem_take]
  simp only [Option.getD_some] at this
  rw [this]; rfl
 rcases key with ⟨k, h1, h2, h3, h4⟩ | ⟨h1, h2⟩
 ·rw [h4, bnd1_eq rfl, ite_f (by rw [beq_eq_false_iff_ne]; omega), chk_pos (by unfold I64; omega)]
  refine loop_m (fun n (s : List Nd × Int × Int) => F_slices_DeleteFunc___impl_triple_impl_triple__L1 p1 (fun (o500 : List Nd) (v5 : Int) => chk (0 ≤ v5 ∧ v5 ≤ ((List.length o500 : Nat) : Int) ∧ ((List.length o500 : Nat) : Int) ≤ ((List.length o500 : Nat) : Int)) <| chk (0 ≤ v5 ∧ v5 ≤ ((List.length o500 : Nat) : Int)) <| some (List.take (Int.toNat v5) o500)) n s.1 s.2.1 s.2.2)
   (fun s => ∃ i w : Nat, s.2.1 = i ∧ s.2.2 = w ∧ w < i ∧ i ≤ l.length ∧ s.1.length = l.length ∧ s.1.take w = (l.take i).filter (fun t => !(pB t)) ∧ s.1.drop i = l.drop i) (fun s => l.length - s.2.1.toNat) (fun o => o = some (l.filter fun t => !(pB t))) ?_ fuel (l, (k : Int) + 1, (k : Int)) ⟨k + 1, k, by simp, rfl, by omega, by omega, rfl, ?_, rfl⟩ (by have := fuel_ge; dsimp only; omega)
  ·rintro n ⟨o, v, u⟩ ⟨i, w, rfl, rfl, hw, hi, hlen, htk, hdr⟩
   dsimp only at hlen htk hdr ⊢
   rw [F_slices_DeleteFunc___impl_triple_impl_triple__L1]
   by_cases hc : i < l.length
   ·left
    have hg : o.getD i (0, 0, 0) = l.getD i (0, 0, 0) := by
     have e := congrArg (fun z => z[0]?) hdr
     simp only [List.getElem?_drop, Nat.add_zero] at e
     rw [List.getD_eq_getElem?_getD, List.getD_eq_getElem?_getD, e]
    have hd2 : o.drop (i + 1) = l.drop (i + 1) := by
     have e := congrArg (List.drop 1) hdr
     simpa [List.drop_drop] using e
    rw [ite_t (decide_eq_true (by omega)), chk_pos ⟨by omega, by omega⟩, Int.toNat_natCast, bnd1_eq (hp _ _ _), Int.toNat_natCast, chk_pos ⟨by omega, by omega⟩, chk_pos (by unfold I64; omega), chk_pos (by unfold I64; omega), hg]
    cases hb : pB (l.getD i (0, 0, 0)) with
    | true =>
     refine ⟨(o, ((i : Int) + 1), (w : Int)), ⟨i + 1, w, by simp, rfl, by omega, by omega, hlen, ?_, hd2⟩, by dsimp only; omega, ?_⟩
     ·rw [take_getD (d := (0, 0, 0)) hc, List.filter_append, htk, List.filter_cons, hb]
      simp
     ·show chk _ _ = _
      rw [chk_pos (by unfold I64; omega)]
    | false =>
     refine ⟨(o.set w (l.getD i (0, 0, 0)), ((i : Int) + 1), ((w : Int) + 1)), ⟨i + 1, w + 1, by simp, by simp, by omega, by omega, by rw [List.length_set]; exact hlen, ?_, ?_⟩, by dsimp only; omega, ?_⟩
     ·dsimp only
      rw [take_getD (d := (0, 0, 0)) hc, List.filter_append, ← htk, take_getD (d := (0, 0, 0)) (by rw [List.length_set]; omega), List.take_set_of_le (Nat.le_refl _)]
      rw [List.filter_cons, hb, List.getD_eq_getElem?_getD (l := List.set _ _ _), List.getElem?_set_self (by omega)]
      simp
     ·dsimp only
      rw [List.drop_set_of_lt (by omega), hd2]
     ·rfl
   ·right
    have e : i = l.length := by omega
    subst e
    rw [ite_f (decide_eq_false (by omega)), chk_pos ⟨by omega, by omega, by omega⟩, chk_pos ⟨by omega, by omega⟩, Int.toNat_natCast, htk, List.take_length]
  ·dsimp only
   rw [take_getD (d := (0, 0, 0)) h1, List.filter_append, noall k (by omega) h3, List.filter_cons, h2]
   simp
 ·rw [h2, bnd1_eq rfl, ite_t (show ((-1 : Int) == -1) = true from rfl)]
  have := noall l.length (Nat.le_refl _) h1
  rw [List.take_length] at this
  rw [this]
theorem iBoth_eq {xs s : List Int} (h : Vls xs) (hs : s ∈ splN xs xs.length) : F_impl_bothWays xs s = some (yesL xs s, noL xs s) := by
 obtain ⟨h1, h2, h3⟩ := spl_bd h hs
 have hb := (Vls_bd h).1
 have hl := h.1
 unfold F_impl_bothWays yesL noL
 rw [bnd1_eq (iLeft_eq hb h2 h1), bnd1_eq (iMoved_eq h2 h3 (by rw [lfP_len, h1]) (by omega)), bnd1_eq (iMoved_eq h3 h2 (by rw [lfP_len, h1]) (by rw [lfP_len]; omega)), lfP_len, h1]
abbrev triK (xs : List Int) : K3 := (tri xs 0, tri xs 1, tri xs 2)
def okM (n : Int) (out : List (K3 × Int)) : Prop := ∀ a b c, V3 a b c → tget out (a, b, c) = if nedI a b c < n then some (nedI a b c) else none
def winB (xs : List Int) (out : List (K3 × Int)) (s : List Int) : Bool := (tget out (triK (yesL xs s))).isSome && (tget out (triK (noL xs s))).isSome
theorem iN1_eq {a b c : Int} {s : List Int} {out : List (K3 × Int)} (h : Vls [a, b, c]) (hs : s ∈ splN [a, b, c] 3) : F_impl_needs_1 s (fun u0 u1 => F_impl_bothWays u0 u1) a b c out = some (winB [a, b, c] out s) := by
 unfold F_impl_needs_1
 have h3 : s ∈ splN [a, b, c] [a, b, c].length := hs
 obtain ⟨⟨y1, _⟩, ⟨n1, _⟩⟩ := yes_Vls h h3
 rw [bnd2_eq (iBoth_eq h h3), chk_pos y1]
 simp only [nam]
 rw [chk_pos n1]
 unfold winB
 cases (tget out (tri (yesL [a, b, c] s) 0, tri (yesL [a, b, c] s) 1, tri (yesL [a, b, c] s) 2)).isSome <;> rfl
theorem win_iff {xs : List Int} {out : List (K3 × Int)} {n : Int} (h : Vls xs) (h2 : 2 ≤ tri xs 0 + tri xs 1 + tri xs 2) (hm : okM n out) : (splN xs xs.length).any (winB xs out) = decide (ndL xs ≤ n) := by
 have one : ∀ s, s ∈ splN xs xs.length → (winB xs out s = true ↔ ndL (yesL xs s) < n ∧ ndL (noL xs s) < n) := by
  intro s hs
  obtain ⟨⟨_, y⟩, ⟨_, z⟩⟩ := yes_Vls h hs
  unfold winB
  rw [Bool.and_eq_true, hm _ _ _ y, hm _ _ _ z]
  unfold ndL
  constructor
  ·rintro ⟨h3, h4⟩
   constructor
   ·split at h3
    ·assumption
    ·cases h3
   ·split at h4
    ·assumption
    ·cases h4
  ·rintro ⟨h3, h4⟩
   rw [if_pos h3, if_pos h4]; exact ⟨rfl, rfl⟩
 rw [Bool.eq_iff_iff, decide_eq_true_iff, ← ndL_within h h2, List.any_eq_true]
 constructor
 ·rintro ⟨s, h3, h4⟩; exact ⟨s, h3, (one s h3).1 h4⟩
 ·rintro ⟨s, h3, h4⟩; exact ⟨s, h3, (one s h3).2 h4⟩
abbrev NbS := List Nd × List (K3 × Int)
def nb3 (a b : Int) : Nat → NbS → NbS
 | 0, s => s
 | c + 1, s => bif decide (a + b + (c : Int) ≤ 1) then ((nb3 a b c s).1, tput (nb3 a b c s).2 (a, b, (c : Int)) 0) else ((nb3 a b c s).1 ++ [(a, b, (c : Int))], (nb3 a b c s).2)
def nb2 (a : Int) (N : Nat) : Nat → NbS → NbS
 | 0, s => s
 | b + 1, s => nb3 a (b : Int) (N - b) (nb2 a N b s)
def nb1 : Nat → NbS
 | 0 => ([], [])
 | a + 1 => nb2 (a : Int) (9 - a) (9 - a) (nb1 a)
theorem nb3_len (a b : Int) (s : NbS) : ∀ c, (nb3 a b c s).1.length ≤ s.1.length + c
 | 0 => Nat.le_refl _
 | c + 1 => by
  have := nb3_len a b s c
  unfold nb3
  cases decide (a + b + (c : Int) ≤ 1) with
  | true => rw [cond_true]; dsimp only; omega
  | false => rw [cond_false]; simp only [List.length_append, List.length_singleton]; omega
theorem nb2_len (a : Int) {N : Nat} (hN : N ≤ 9) (s : NbS) : ∀ b, (nb2 a N b s).1.length ≤ s.1.length + 9 * b
 | 0 => Nat.le_refl _
 | b + 1 => by
  have h1 := nb2_len a hN s b
  have h2 := nb3_len a (b : Int) (nb2 a N b s) (N - b)
  unfold nb2; omega
theorem nb1_len : ∀ a, (nb1 a).1.length ≤ 81 * a
 | 0 => Nat.le_refl _
 | a + 1 => by
  have h1 := nb1_len a
  have h2 := nb2_len (a : Int) (N := 9 - a) (by omega) (nb1 a) (9 - a)
  unfold nb1; omega
theorem needs_L3 (a b : Nat) (hab : a + b ≤ 9) (J : List Nd → List (K3 × Int) → Option (List (K3 × Int))) (s : NbS) (hs : s.1.length ≤ 10000) : F_impl_needs_L3 (a : Int) (b : Int) J fuel s.1 s.2 0 = J (nb3 a b (9 - a - b) s).1 (nb3 a b (9 - a - b) s).2 := by
 have key := loop_up (fun n i (s : NbS) => F_impl_needs_L3 (a : Int) (b : Int) J n s.1 s.2 i) (((9 - a - b : Nat) : Int)) (fun i => nb3 a b i.toNat s) (J (nb3 a b (9 - a - b) s).1 (nb3 a b (9 - a - b) s).2) ?_ ?_ (by omega) fuel (by have := fuel_ge; omega)
 ·exact key
 ·intro n i i0 i1
  obtain ⟨c, rfl⟩ := int_nat i0
  have e1 : ((c : Int) + 1).toNat = c + 1 := by omega
  have hl := nb3_len a b s c
  simp only [e1, Int.toNat_natCast]
  rw [F_impl_needs_L3, ite_t (decide_eq_true (by omega)), chk_pos (by unfold I64; omega), chk_pos (by unfold I64; omega)]
  by_cases hc : (a : Int) + (b : Int) + (c : Int) ≤ 1
  ·rw [ite_t (decide_eq_true hc), chk_pos (by unfold I64; omega), nb3, decide_eq_true hc]; rfl
  ·rw [ite_f (decide_eq_false hc), chk_pos ⟨by omega, by simp only [maxLen]; omega⟩, chk_pos (by unfold I64; omega), nb3, decide_eq_false hc]; rfl
 ·intro n
  simp only [Int.toNat_natCast]
  rw [F_impl_needs_L3, ite_f (decide_eq_false (by omega))]
theorem needs_L2 (a : Nat) (ha : a ≤ 9) (J : List Nd → List (K3 × Int) → Option (List (K3 × Int))) (s : NbS) (hs : s.1.length ≤ 5000) : F_impl_needs_L2 (a : Int) J fuel s.1 s.2 0 = J (nb2 a (9 - a) (9 - a) s).1 (nb2 a (9 - a) (9 - a) s).2 := by
 have key := loop_up (fun n i (s : NbS) => F_impl_needs_L2 (a : Int) J n s.1 s.2 i) (((9 - a : Nat) : Int)) (fun i => nb2 a (9 - a) i.toNat s) (J (nb2 a (9 - a) (9 - a) s).1 (nb2 a (9 - a) (9 - a) s).2) ?_ ?_ (by omega) fuel (by have := fuel_ge; omega)
 ·exact key
 ·intro n i i0 i1
  obtain ⟨c, rfl⟩ := int_nat i0
  have e1 : ((c : Int) + 1).toNat = c + 1 := by omega
  have hl := nb2_len (a : Int) (N := 9 - a) (by omega) s c
  simp only [e1, Int.toNat_natCast]
  rw [F_impl_needs_L2, ite_t (decide_eq_true (by omega))]
  refine jn_is (fun J3 => J3 (nb3 a c (9 - a - c) (nb2 a (9 - a) c s)).1 (nb3 a c (9 - a - c) (nb2 a (9 - a) c s)).2) (fun J3 => ?_) ?_
  ·rw [chk_pos (by unfold I64; omega), needs_L3 a c (by omega) J3 _ (by omega)]
  ·rw [chk_pos (by unfold I64; omega), nb2]
 ·intro n
  simp only [Int.toNat_natCast]
  rw [F_impl_needs_L2, ite_f (decide_eq_false (by omega))]
theorem needs_L1 (J : List Nd → List (K3 × Int) → Option (List (K3 × Int))) : F_impl_needs_L1 J fuel [] [] 0 = J (nb1 9).1 (nb1 9).2 := by
 have key := loop_up (fun n i (s : NbS) => F_impl_needs_L1 J n s.1 s.2 i) 9 (fun i => nb1 i.toNat) (J (nb1 9).1 (nb1 9).2) ?_ ?_ (by omega) fuel (by have := fuel_ge; omega)
 ·exact key
 ·intro n i i0 i1
  obtain ⟨c, rfl⟩ := int_nat i0
  have e1 : ((c : Int) + 1).toNat = c + 1 := by omega
  have hl := nb1_len c
  simp only [e1, Int.toNat_natCast]
  rw [F_impl_needs_L1, ite_t (decide_eq_true (by omega))]
  refine jn_is (fun J3 => J3 (nb2 c (9 - c) (9 - c) (nb1 c)).1 (nb2 c (9 - c) (9 - c) (nb1 c)).2) (fun J3 => ?_) ?_
  ·rw [chk_pos (by unfold I64; omega), needs_L2 c (by omega) J3 _ (by omega)]
  ·rw [chk_pos (by unfold I64; omega), nb1]
 ·intro n
  rw [F_impl_needs_L1, ite_f (decide_eq_false (by omega))]
  rfl
def nbC : Bool := ndAll (fun a => ndAll (fun b => ndAll (fun c => bif Nat.ble (a + b + c) 1 then (tget (nb1 9).2 ((a : Int), (b : Int), (c : Int)) == some 0) else (nb1 9).1.any (fun t => t == ((a : Int), (b : Int), (c : Int))) && (tget (nb1 9).2 ((a : Int), (b : Int), (c : Int)) == none)) (9 - a - b)) (9 - a)) 9
theorem nbC_ok : nbC = true := by decide +kernel
theorem nbA_ok : ((nb1 9).1.all fun t => (decide (0 ≤ t.1) && decide (0 ≤ t.2.1)) && ((decide (0 ≤ t.2.2) && decide (t.1 + t.2.1 + t.2.2 ≤ 8)) && decide (2 ≤ t.1 + t.2.1 + t.2.2))) = true := by decide +kernel
def okO (n : Int) (o : List Nd) : Prop := o.length ≤ 1000 ∧ ∀ a b c, (a, b, c) ∈ o ↔ V3 a b c ∧ 2 ≤ a + b + c ∧ n ≤ nedI a b c
theorem nb_start : okO 1 (nb1 9).1 ∧ okM 1 (nb1 9).2 := by
 have hC : ∀ x y z : Nat, x + y + z ≤ 8 → (bif Nat.ble (x + y + z) 1 then (tget (nb1 9).2 ((x : Int), (y : Int), (z : Int)) == some 0) else (nb1 9).1.any (fun t => t == ((x : Int), (y : Int), (z : Int))) && (tget (nb1 9).2 ((x : Int), (y : Int), (z : Int)) == none)) = true := fun x y z h => ndAll_in (ndAll_in (ndAll_in nbC_ok x (by omega)) y (by omega)) z (by omega)
 refine ⟨⟨by have := nb1_len 9; omega, fun a b c => ⟨fun h => ?_, fun ⟨h1, h2, h3⟩ => ?_⟩⟩, fun a b c h => ?_⟩
 ·have := List.all_eq_true.1 nbA_ok _ h
  simp only [Bool.and_eq_true, decide_eq_true_eq] at this
  obtain ⟨⟨a1, a2⟩, ⟨a3, a4⟩, a5⟩ := this
  have hv : V3 a b c := ⟨a1, a2, a3, a4⟩
  exact ⟨hv, a5, (ned_two hv a5).1.1⟩
 ·obtain ⟨x, y, z, rfl, rfl, rfl, h4⟩ := V3_nat h1
  have := hC x y z h4
  rw [show Nat.ble (x + y + z) 1 = false by
   cases hc : Nat.ble (x + y + z) 1 with
   | false => rfl
   | true => have := Nat.le_of_ble_eq_true hc; omega, cond_false, Bool.and_eq_true, List.any_eq_true] at this
  obtain ⟨⟨t, h5, h6⟩, _⟩ := this
  rw [beq_iff_eq] at h6
  rw [← h6]; exact h5
 ·obtain ⟨x, y, z, rfl, rfl, rfl, h4⟩ := V3_nat h
  have := hC x y z h4
  by_cases hc : x + y + z ≤ 1
  ·rw [Nat.ble_eq_true_of_le hc, cond_true, beq_iff_eq] at this
   have e := ned_told h (by omega)
   rw [this, e, if_pos (by omega)]
  ·rw [show Nat.ble (x + y + z) 1 = false by
    cases hc : Nat.ble (x + y + z) 1 with
    | false => rfl
    | true => have := Nat.le_of_ble_eq_true hc; omega, cond_false, Bool.and_eq_true, beq_iff_eq] at this
   have e := (ned_two h (by omega)).1
   rw [this.2, if_neg (by omega)]
def wonB (out : List (K3 × Int)) (t : Nd) : Bool := (splN [t.1, t.2.1, t.2.2] 3).any (winB [t.1, t.2.1, t.2.2] out)
theorem V3_ls {a b c : Int} (h : V3 a b c) : Vls [a, b, c] := ⟨⟨by simp, by simp⟩, h⟩
theorem needs_L5 {o : List Nd} {out : List (K3 × Int)} {n0 : Int} (ho : okO n0 o) (J : List Nd → Option (List (K3 × Int))) : F_impl_needs_L5 (fun u0 u1 => F_impl_bothWays u0 u1) o out J fuel [] 0 = J (o.filter (wonB out)) := by
 have hol := ho.1
 have key := loop_up (fun n i (s : List Nd) => F_impl_needs_L5 (fun u0 u1 => F_impl_bothWays u0 u1) o out J n s i) ((o.length : Nat) : Int) (fun i => (o.take i.toNat).filter (wonB out)) (J (o.filter (wonB out))) ?_ ?_ (by omega) fuel (by have := fuel_ge; omega)
 ·simpa using key
 ·intro n i i0 i1
  obtain ⟨k, rfl⟩ := int_nat i0
  have e1 : ((k : Int) + 1).toNat = k + 1 := by omega
  have hk : k < o.length := by omega
  simp only [e1, Int.toNat_natCast]
  have hmem : o.getD k (0, 0, 0) ∈ o := getD_mem hk
  have hlen := List.length_filter_le (wonB out) (o.take k)
  rw [List.length_take] at hlen
  rw [F_impl_needs_L5, ite_t (decide_eq_true i1), chk_pos ⟨i0, i1⟩, take_getD (d := (0, 0, 0)) hk, List.filter_append, List.filter_cons, List.filter_nil, Int.toNat_natCast]
  generalize o.getD k (0, 0, 0) = t at hmem ⊢
  obtain ⟨a, b, c⟩ := t
  dsimp only
  have hv := V3_ls ((ho.2 a b c).1 hmem).1
  have hb := Vls_bd hv
  have h9 := spl_len3 hb.2.1 (r := 3) (by omega)
  rw [bnd1_eq (iSplits_eq hb.2.1 hb.2.2 (by simp)), show [a, b, c].length = 3 from rfl, bnd1_eq (iContF_eq (pB := winB [a, b, c] out) (by show (splN [a, b, c] 3).length ≤ _; omega) fun s hs => iN1_eq hv hs)]
  show (bif wonB out (a, b, c) then _ else _) = _
  cases hw : wonB out (a, b, c) with
  | true => rw [ite_t rfl, chk_pos ⟨by omega, by simp only [maxLen]; omega⟩, chk_pos (by unfold I64; omega), if_pos rfl]
  | false => rw [ite_f rfl, chk_pos (by unfold I64; omega), if_neg (by simp), List.append_nil]
 ·intro n
  simp only [Int.toNat_natCast, List.take_length]
  rw [F_impl_needs_L5, ite_f (decide_eq_false (by omega))]
def putA (n : Int) (out : List (K3 × Int)) (ts : List Nd) : List (K3 × Int) := ts.foldl (fun o t => tput o t n) out
theorem putA_get (n : Int) (k : K3) : ∀ (ts : List Nd) (out : List (K3 × Int)), tget (putA n out ts) k = if k ∈ ts then some n else tget out k
 | [], out => by simp [putA]
 | t :: ts, out => by
  show tget (putA n (tput out t n) ts) k = _
  rw [putA_get n k ts, tget_put]
  by_cases h1 : k ∈ ts
  ·rw [if_pos h1, if_pos (by simp [h1])]
  ·rw [if_neg h1]
   by_cases h2 : k = t
   ·rw [if_pos h2, if_pos (by simp [h2])]
   ·rw [if_neg h2, if_neg (by simp [h1, h2])]
theorem needs_L6 {n0 : Int} {ts : List Nd} (hl : ts.length ≤ 1000) (out : List (K3 × Int)) (J : List (K3 × Int) → Option (List (K3 × Int))) : F_impl_needs_L6 n0 ts J fuel out 0 = J (putA n0 out ts) := by
 have key := loop_up (fun n i (s : List (K3 × Int)) => F_impl_needs_L6 n0 ts J n s i) ((ts.length : Nat) : Int) (fun i => putA n0 out (ts.take i.toNat)) (J (putA n0 out ts)) ?_ ?_ (by omega) fuel (by have := fuel_ge; omega)
 ·exact key
 ·intro n i i0 i1
  obtain ⟨k, rfl⟩ := int_nat i0
  have e1 : ((k : Int) + 1).toNat = k + 1 := by omega
  have hk : k < ts.length := by omega
  simp only [e1, Int.toNat_natCast]
  rw [F_impl_needs_L6, ite_t (decide_eq_true i1), chk_pos ⟨i0, i1⟩, chk_pos (by unfold I64; omega), take_getD (d := (0, 0, 0)) hk, Int.toNat_natCast]
  unfold putA
  rw [List.foldl_append]; rfl
 ·intro n
  simp only [Int.toNat_natCast, List.take_length]
  rw [F_impl_needs_L6, ite_f (decide_eq_false (by omega))]
theorem nb_ex : ∃ o out, (∀ J, F_impl_needs_L1 J fuel [] [] 0 = J o out) ∧ okO 1 o ∧ okM 1 out := ⟨_, _, needs_L1, nb_start⟩
theorem iNeeds_ok : ∃ l, F_impl_needs (fun u0 u1 => F_impl_bothWays u0 u1) = some l ∧ ∀ a b c, V3 a b c → tget l (a, b, c) = some (nedI a b c) := by
 unfold F_impl_needs
 obtain ⟨o0, u0, e0, s1, s2⟩ := nb_ex
 refine jn_q (Q0 := fun o => ∃ l, o = some l ∧ ∀ a b c, V3 a b c → tget l (a, b, c) = some (nedI a b c)) (fun J => J o0 u0) (fun J => e0 J) ?_
 simp only [jn]
 refine loop_m (fun n (s : List Nd × List (K3 × Int) × Int) => F_impl_needs_L4 (fun u0 u1 => F_impl_bothWays u0 u1) (fun o15b => some o15b) n s.1 s.2.1 s.2.2) (fun s => 1 ≤ s.2.2 ∧ s.2.2 ≤ 10 ∧ okO s.2.2 s.1 ∧ okM s.2.2 s.2.1) (fun s => (10 - s.2.2).toNat) (fun o => ∃ l, o = some l ∧ ∀ a b c, V3 a b c → tget l (a, b, c) = some (nedI a b c)) ?_ fuel (o0, u0, 1) ⟨Int.le_refl _, by dsimp only; omega, s1, s2⟩ (by have := fuel_ge; dsimp only; omega)
 rintro f ⟨o, out, n⟩ ⟨n1, n2, ho, hm⟩
 dsimp only at n1 n2 ho hm ⊢
 have hol := ho.1
 rw [F_impl_needs_L4]
 by_cases hc : 0 < o.length
 ·left
  have hn9 : n ≤ 9 := by
   have hmem : o.getD 0 (0, 0, 0) ∈ o := getD_mem hc
   generalize o.getD 0 (0, 0, 0) = t at hmem
   obtain ⟨a, b, c⟩ := t
   obtain ⟨v, _, h3⟩ := (ho.2 a b c).1 hmem
   have := ned_in v; omega
  have hwon : ∀ a b c, (a, b, c) ∈ o → wonB out (a, b, c) = decide (nedI a b c ≤ n) := fun a b c h => by
   obtain ⟨v, h2, _⟩ := (ho.2 a b c).1 h
   exact win_iff (xs := [a, b, c]) (V3_ls v) h2 hm
  have hdl := List.length_filter_le (wonB out) o
  have hdone : ∀ a b c, (a, b, c) ∈ o.filter (wonB out) ↔ V3 a b c ∧ 2 ≤ a + b + c ∧ nedI a b c = n := fun a b c => by
   rw [List.mem_filter]
   constructor
   ·rintro ⟨h1, h2⟩
    rw [hwon a b c h1, decide_eq_true_iff] at h2
    obtain ⟨v, h3, h4⟩ := (ho.2 a b c).1 h1
    exact ⟨v, h3, by omega⟩
   ·rintro ⟨v, h3, h4⟩
    have h1 := (ho.2 a b c).2 ⟨v, h3, by omega⟩
    exact ⟨h1, by rw [hwon a b c h1, decide_eq_true_iff]; omega⟩
  refine ⟨(o.filter (fun t => !((o.filter (wonB out)).any fun u => u == t)), putA n out (o.filter (wonB out)), n + 1), ⟨by dsimp only; omega, by dsimp only; omega, ⟨?_, fun a b c => ?_⟩, fun a b c v => ?_⟩, by dsimp only; omega, ?_⟩
  ·have := List.length_filter_le (fun t => !((o.filter (wonB out)).any fun u => u == t)) o
   dsimp only; omega
  ·dsimp only
   rw [List.mem_filter, Bool.not_eq_true', List.any_eq_false]
   constructor
   ·rintro ⟨h1, h2⟩
    obtain ⟨v, h3, h4⟩ := (ho.2 a b c).1 h1
    refine ⟨v, h3, ?_⟩
    by_cases e : nedI a b c = n
    ·exact absurd (beq_self_eq_true _) (h2 (a, b, c) ((hdone a b c).2 ⟨v, h3, e⟩))
    ·omega
   ·rintro ⟨v, h3, h4⟩
    refine ⟨(ho.2 a b c).2 ⟨v, h3, by omega⟩, fun u hu he => ?_⟩
    rw [beq_iff_eq] at he
    subst he
    have := ((hdone a b c).1 hu).2.2
    omega
  ·dsimp only
   rw [putA_get, hm a b c v]
   by_cases e : (a, b, c) ∈ o.filter (wonB out)
   ·have h2 := ((hdone a b c).1 e).2.2
    rw [if_pos e, if_pos (by omega), h2]
   ·rw [if_neg e]
    by_cases h2 : nedI a b c < n
    ·rw [if_pos h2, if_pos (by omega)]
    ·rw [if_neg h2]
     have h3 : 2 ≤ a + b + c := by
      apply Classical.byContradiction
      intro h3
      have := ned_told v (by omega)
      omega
     have : nedI a b c ≠ n := fun h4 => e ((hdone a b c).2 ⟨v, h3, h4⟩)
     rw [if_neg (by omega)]
  ·dsimp only
   rw [ite_t (decide_eq_true (by omega))]
   refine jn_is (fun J2 => J2 (o.filter (fun t => !((o.filter (wonB out)).any fun u => u == t))) (putA n out (o.filter (wonB out)))) (fun J2 => ?_) (by rw [chk_pos (by unfold I64; omega)])
   refine jn_is (fun J3 => J3 (o.filter (wonB out))) (fun J3 => needs_L5 ho J3) ?_
   refine jn_is (fun J3 => J3 (putA n out (o.filter (wonB out)))) (fun J3 => needs_L6 (by omega) out J3) ?_
   rw [bnd1_eq (iDelT_eq (pB := fun t => (o.filter (wonB out)).any fun u => u == t) (by omega) fun a b c => by
    unfold F_impl_needs_2
    rw [bnd1_eq (iContT_eq a b c (by omega))])]
 ·right
  rw [ite_f (decide_eq_false (by omega))]
  refine ⟨out, rfl, fun a b c v => ?_⟩
  have e : o = [] := List.length_eq_zero_iff.1 (by omega)
  subst e
  have h1 := ho.2 a b c
  rw [hm a b c v]
  by_cases h2 : nedI a b c < n
  ·rw [if_pos h2]
  ·exfalso
   have h3 : 2 ≤ a + b + c := by
    apply Classical.byContradiction
    intro h3
    have := ned_told v (by omega)
    omega
   have := h1.2 ⟨v, h3, by omega⟩
   cases this
theorem iNeeder_ok : ∃ l, F_impl_neederOf (fun u0 u1 => F_impl_bothWays u0 u1) = some l ∧ ∀ a b c, V3 a b c → tget l (a, b, c) = some (nedI a b c) := by
 obtain ⟨l, e, h⟩ := iNeeds_ok
 exact ⟨l, by unfold F_impl_neederOf; rw [bnd1_eq e], h⟩
def keyN (xs : List Int) : Int := 81 * tri xs 0 + 9 * tri xs 1 + tri xs 2
def sum3 (xs : List Int) : Int := tri xs 0 + tri xs 1 + tri xs 2
def keyQ (l : List Int) : Nat → Int
 | 0 => 0
 | i + 1 => keyQ l i * 9 + l.getD i 0
theorem keyQ_eq {xs : List Int} (h : 1 ≤ xs.length ∧ xs.length ≤ 3) : keyQ xs xs.length = keyN xs := by
 rcases list3 h with ⟨c, rfl⟩ | ⟨b, c, rfl⟩ | ⟨a, b, c, rfl⟩
 ·show (0 * 9 + c : Int) = 81 * 0 + 9 * 0 + c
  omega
 ·show ((0 * 9 + b) * 9 + c : Int) = 81 * 0 + 9 * b + c
  omega
 ·show (((0 * 9 + a) * 9 + b) * 9 + c : Int) = 81 * a + 9 * b + c
  omega
theorem keyQ_in {l : List Int} (h8 : ∀ i, l.getD i 0 ≤ 8) (h0 : ∀ i, 0 ≤ l.getD i 0) : ∀ i, 0 ≤ keyQ l i ∧ keyQ l i < 9 ^ i
 | 0 => by simp [keyQ]
 | i + 1 => by
  have := keyQ_in h8 h0 i
  have a := h8 i
  have b := h0 i
  have e : (9 : Int) ^ (i + 1) = 9 ^ i * 9 := Int.pow_succ ..
  rw [keyQ, e]
  omega
theorem sumP_eq {xs : List Int} (h : 1 ≤ xs.length ∧ xs.length ≤ 3) : sumP xs xs.length = sum3 xs := by
 rcases list3 h with ⟨c, rfl⟩ | ⟨b, c, rfl⟩ | ⟨a, b, c, rfl⟩
 ·show (0 + c : Int) = 0 + 0 + c
  omega
 ·show (0 + b + c : Int) = 0 + b + c
  omega
 ·show (0 + a + b + c : Int) = a + b + c
  omega
theorem pow9 {p : Nat} (h : p ≤ 3) : (1 : Int) ≤ 9 ^ p ∧ (9 : Int) ^ p ≤ 729 := by
 match p, h with
 | 0, _ | 1, _ | 2, _ | 3, _ => decide
theorem key_in {xs : List Int} (h : Vls xs) : 0 ≤ keyN xs ∧ keyN xs < 9 ^ xs.length := by
 obtain ⟨_, h8, h0⟩ := Vls_bd h
 rw [← keyQ_eq h.1]
 exact keyQ_in h8 h0 _
theorem key_inj {xs ys : List Int} (h : Vls xs) (h2 : Vls ys) (hl : xs.length = ys.length) (e : keyN xs = keyN ys) : xs = ys := by
 obtain ⟨hx, a1, a2, a3, a4⟩ := h
 obtain ⟨hy, b1, b2, b3, b4⟩ := h2
 unfold keyN at e
 have e0 : tri xs 0 = tri ys 0 := by omega
 have e1 : tri xs 1 = tri ys 1 := by omega
 have e2 : tri xs 2 = tri ys 2 := by omega
 rcases list3 hx with ⟨c, rfl⟩ | ⟨b, c, rfl⟩ | ⟨a, b, c, rfl⟩ <;> rcases list3 hy with ⟨c', rfl⟩ | ⟨b', c', rfl⟩ | ⟨a', b', c', rfl⟩ <;> first | (simp at hl; done) | skip
 ·have e2 : c = c' := e2
  rw [e2]
 ·have e1 : b = b' := e1
  have e2 : c = c' := e2
  rw [e1, e2]
 ·have e0 : a = a' := e0
  have e1 : b = b' := e1
  have e2 : c = c' := e2
  rw [e0, e1, e2]
def dgL (p : Nat) (k : Int) : List Int := if p = 1 then [k % 9] else if p = 2 then [k / 9 % 9, k % 9] else [k / 9 / 9 % 9, k / 9 % 9, k % 9]
theorem dgL_len {p : Nat} {k : Int} (hp : 1 ≤ p ∧ p ≤ 3) : (dgL p k).length = p := by
 have : p = 1 ∨ p = 2 ∨ p = 3 := by omega
 rcases this with rfl | rfl | rfl <;> rfl
theorem dgL_tri {p : Nat} {k : Int} (hp : 1 ≤ p ∧ p ≤ 3) (h0 : 0 ≤ k) (hk : k < 9 ^ p) : tri (dgL p k) 0 = k / 81 ∧ tri (dgL p k) 1 = k / 9 % 9 ∧ tri (dgL p k) 2 = k % 9 := by
 have : p = 1 ∨ p = 2 ∨ p = 3 := by omega
 rcases this with rfl | rfl | rfl
 ·have hk : k < 9 := hk
  refine ⟨?_, ?_, rfl⟩
  ·show (0 : Int) = _
   omega
  ·show (0 : Int) = _
   omega
 ·have hk : k < 81 := hk
  refine ⟨?_, rfl, rfl⟩
  show (0 : Int) = _
  omega
 ·have hk : k < 729 := hk
  refine ⟨?_, rfl, rfl⟩
  show k / 9 / 9 % 9 = _
  omega
theorem dgL_bd {p : Nat} {k : Int} (hp : 1 ≤ p ∧ p ≤ 3) : ∀ i, 0 ≤ (dgL p k).getD i 0 ∧ (dgL p k).getD i 0 ≤ 8 := by
 have : p = 1 ∨ p = 2 ∨ p = 3 := by omega
 intro i
 rcases this with rfl | rfl | rfl
 ·match i with
  | 0 => show 0 ≤ k % 9 ∧ k % 9 ≤ 8; omega
  | i + 1 => exact ⟨by simp [dgL], by simp [dgL]⟩
 ·match i with
  | 0 => show 0 ≤ k / 9 % 9 ∧ k / 9 % 9 ≤ 8; omega
  | 1 => show 0 ≤ k % 9 ∧ k % 9 ≤ 8; omega
  | i + 2 => exact ⟨by simp [dgL], by simp [dgL]⟩
 ·match i with
  | 0 => show 0 ≤ k / 9 / 9 % 9 ∧ k / 9 / 9 % 9 ≤ 8; omega
  | 1 => show 0 ≤ k / 9 % 9 ∧ k / 9 % 9 ≤ 8; omega
  | 2 => show 0 ≤ k % 9 ∧ k % 9 ≤ 8; omega
  | i + 3 => exact ⟨by simp [dgL], by simp [dgL]⟩
theorem dgL_key {p : Nat} {k : Int} (hp : 1 ≤ p ∧ p ≤ 3) (h0 : 0 ≤ k) (hk : k < 9 ^ p) : keyN (dgL p k) = k := by
 obtain ⟨e0, e1, e2⟩ := dgL_tri hp h0 hk
 unfold keyN
 rw [e0, e1, e2]; omega
theorem dgL_Vls {p : Nat} {k : Int} (hp : 1 ≤ p ∧ p ≤ 3) (h0 : 0 ≤ k) (hk : k < 9 ^ p) (hs : sum3 (dgL p k) ≤ 8) : Vls (dgL p k) := by
 obtain ⟨e0, e1, e2⟩ := dgL_tri hp h0 hk
 refine ⟨by rw [dgL_len hp]; exact hp, ?_⟩
 unfold sum3 at hs
 rw [e0, e1, e2] at hs ⊢
 exact ⟨by omega, by omega, by omega, hs⟩
theorem key_dgL {xs : List Int} (h : Vls xs) : dgL xs.length (keyN xs) = xs := by
 have hk := key_in h
 have e := dgL_key h.1 hk.1 hk.2
 have hl := dgL_len (k := keyN xs) h.1
 refine key_inj (dgL_Vls h.1 hk.1 hk.2 ?_) h hl e
 obtain ⟨e0, e1, e2⟩ := dgL_tri h.1 hk.1 hk.2
 obtain ⟨_, a1, a2, a3, a4⟩ := h
 unfold sum3
 rw [e0, e1, e2]
 unfold keyN
 generalize tri xs 0 = a at *
 generalize tri xs 1 = b at *
 generalize tri xs 2 = c at *
 have d2 : (81 * a + 9 * b + c) / 81 = a := by omega
 have d3 : (81 * a + 9 * b + c) / 9 = 9 * a + b := by omega
 have d4 : (81 * a + 9 * b + c) % 9 = c := by omega
 have d5 : (9 * a + b) % 9 = b := by omega
 rw [d2, d3, d4, d5]
 exact a4
theorem sC_step {J : List Int → Option (List Int)} {n : Nat} {o : List Int} {i v : Int} (h0 : 0 ≤ i) (h1 : i < ((o.length : Nat) : Int)) (h2 : i ≤ 10) (hv : 0 ≤ v ∧ v ≤ 1000000) : F_spec_l4Counted_L1 J (n + 1) o i v = F_spec_l4Counted_L1 J n (o.set i.toNat (v % 9)) (i - 1) (v / 9) := by
 rw [F_spec_l4Counted_L1, ite_t (decide_eq_true (by omega)), chk_pos ⟨h0, h1⟩, Int.tdiv_eq_ediv_of_nonneg hv.1, Int.tmod_eq_emod_of_nonneg hv.1, chk_pos (by unfold I64; omega), chk_pos (by unfold I64; omega)]
theorem sCounted_eq {p : Nat} (hp : 1 ≤ p ∧ p ≤ 3) {k : Int} (h0 : 0 ≤ k) (hk : k < 9 ^ p) : F_spec_l4Counted k (p : Int) = some (dgL p k) := by
 have h9 := pow9 hp.2
 unfold F_spec_l4Counted
 rw [chk_pos ⟨by omega, by omega, by omega, by simp only [maxLen]; omega⟩]
 refine jn_is (fun J => J (dgL p k)) (fun J => ?_) rfl
 rw [chk_pos (by unfold I64; omega)]
 have := fuel_ge
 obtain ⟨f, hf⟩ : ∃ f, fuel = f + 4 := ⟨fuel - 4, by omega⟩
 have : p = 1 ∨ p = 2 ∨ p = 3 := by omega
 rw [hf]
 rcases this with rfl | rfl | rfl
 ·rw [sC_step (by decide) (by decide) (by decide) ⟨h0, by omega⟩, F_spec_l4Counted_L1, ite_f (by decide)]
  rfl
 ·rw [sC_step (by decide) (by decide) (by decide) ⟨h0, by omega⟩, sC_step (by decide) (by simp) (by decide) ⟨by omega, by omega⟩, F_spec_l4Counted_L1, ite_f (by decide)]
  rfl
 ·rw [sC_step (by decide) (by decide) (by decide) ⟨h0, by omega⟩, sC_step (by decide) (by simp) (by decide) ⟨by omega, by omega⟩, sC_step (by decide) (by simp) (by decide) ⟨by omega, by omega⟩, F_spec_l4Counted_L1, ite_f (by decide)]
  rfl
theorem sTold_eq {xs : List Int} (hl : 1 ≤ xs.length ∧ xs.length ≤ 3) (hb : ∀ i, 0 ≤ xs.getD i 0 ∧ xs.getD i 0 ≤ 8) : F_spec_l4Told xs = some (decide (sum3 xs ≤ 1)) := by
 unfold F_spec_l4Told
 refine jn_is (fun J => J (sum3 xs)) (fun J => ?_) rfl
 rw [← sumP_eq hl]
 have hin : ∀ i, i ≤ xs.length → 0 ≤ sumP xs i ∧ sumP xs i ≤ 8 * i := sumP_in (B := 8) fun x hx => by
  obtain ⟨i, hi, rfl⟩ := List.getElem_of_mem hx
  have := hb i
  rw [List.getD_eq_getElem?_getD, List.getElem?_eq_getElem hi] at this
  exact this
 refine loop_up (fun n i (s : Int) => F_spec_l4Told_L1 xs J n i s) ((xs.length : Nat) : Int) (fun i => sumP xs i.toNat) _ ?_ ?_ (by omega) fuel (by have := fuel_ge; omega)
 ·intro n i i0 i1
  obtain ⟨k, rfl⟩ := int_nat i0
  have e1 : ((k : Int) + 1).toNat = k + 1 := by omega
  have h1 := hin k (by omega)
  have h2 := hb k
  simp only [e1, Int.toNat_natCast]
  rw [F_spec_l4Told_L1, ite_t (decide_eq_true i1), chk_pos ⟨i0, i1⟩, Int.toNat_natCast, chk_pos (by unfold I64; omega), chk_pos (by unfold I64; omega), sumP]
 ·intro n
  simp only [Int.toNat_natCast]
  rw [F_spec_l4Told_L1, ite_f (decide_eq_false (by omega))]
theorem sCounts_eq {xs : List Int} (hl : 1 ≤ xs.length ∧ xs.length ≤ 3) (hb : ∀ i, 0 ≤ xs.getD i 0 ∧ xs.getD i 0 ≤ 8) : F_spec_l4Counts xs = some (decide (sum3 xs ≤ 8)) := by
 unfold F_spec_l4Counts
 rw [ite_f (by rw [decide_eq_true (by omega), decide_eq_true (by omega)]; rfl)]
 refine jn_is (fun J => J (sum3 xs)) (fun J => ?_) rfl
 rw [← sumP_eq hl]
 have hin : ∀ i, i ≤ xs.length → 0 ≤ sumP xs i ∧ sumP xs i ≤ 8 * i := sumP_in (B := 8) fun x hx => by
  obtain ⟨i, hi, rfl⟩ := List.getElem_of_mem hx
  have := hb i
  rw [List.getD_eq_getElem?_getD, List.getElem?_eq_getElem hi] at this
  exact this
 refine loop_up (fun n i (s : Int) => F_spec_l4Counts_L1 xs J n i s) ((xs.length : Nat) : Int) (fun i => sumP xs i.toNat) _ ?_ ?_ (by omega) fuel (by have := fuel_ge; omega)
 ·intro n i i0 i1
  obtain ⟨k, rfl⟩ := int_nat i0
  have e1 : ((k : Int) + 1).toNat = k + 1 := by omega
  have h1 := hin k (by omega)
  have h2 := hb k
  simp only [e1, Int.toNat_natCast]
  rw [F_spec_l4Counts_L1, ite_t (decide_eq_true i1), chk_pos ⟨i0, i1⟩, Int.toNat_natCast, ite_f (by rw [decide_eq_true (by omega), decide_eq_true (by omega)]; rfl), chk_pos (by unfold I64; omega), chk_pos (by unfold I64; omega), sumP]
 ·intro n
  simp only [Int.toNat_natCast]
  rw [F_spec_l4Counts_L1, ite_f (decide_eq_false (by omega))]
theorem sKey_eq4 {xs : List Int} (hl : 1 ≤ xs.length ∧ xs.length ≤ 3) (hb : ∀ i, 0 ≤ xs.getD i 0 ∧ xs.getD i 0 ≤ 8) : F_spec_l4Key xs = some (keyN xs) := by
 unfold F_spec_l4Key
 refine jn_is (fun J => J (keyN xs)) (fun J => ?_) rfl
 rw [← keyQ_eq hl]
 refine loop_up (fun n i (s : Int) => F_spec_l4Key_L1 xs J n i s) ((xs.length : Nat) : Int) (fun i => keyQ xs i.toNat) _ ?_ ?_ (by omega) fuel (by have := fuel_ge; omega)
 ·intro n i i0 i1
  obtain ⟨k, rfl⟩ := int_nat i0
  have e1 : ((k : Int) + 1).toNat = k + 1 := by omega
  have h1 := keyQ_in (fun i => (hb i).2) (fun i => (hb i).1) k
  have h3 := pow9 (p := k) (by omega)
  have h2 := hb k
  simp only [e1, Int.toNat_natCast]
  rw [F_spec_l4Key_L1, ite_t (decide_eq_true i1), chk_pos (by unfold I64; omega), chk_pos ⟨i0, i1⟩, Int.toNat_natCast, chk_pos (by unfold I64; omega)]
  simp only [nam]
  rw [chk_pos (by unfold I64; omega), keyQ]
 ·intro n
  simp only [Int.toNat_natCast]
  rw [F_spec_l4Key_L1, ite_f (decide_eq_false (by omega))]
theorem Vls_bd2 {xs : List Int} (h : Vls xs) : ∀ i, 0 ≤ xs.getD i 0 ∧ xs.getD i 0 ≤ 8 := fun i => ⟨(Vls_bd h).2.2 i, (Vls_bd h).2.1 i⟩
theorem sKeyV {xs : List Int} (h : Vls xs) : F_spec_l4Key xs = some (keyN xs) := sKey_eq4 h.1 (Vls_bd2 h)
theorem lfP_back {x s : List Int} (h : s.length = x.length) : lfP x (lfP x s x.length) x.length = s := by
 refine List.ext_getElem (by rw [lfP_len, h]) fun i h1 h2 => ?_
 have hi : i < x.length := by rw [lfP_len] at h1; exact h1
 have e : ∀ y : List Int, (lfP x y x.length)[i]? = some (x.getD i 0 - y.getD i 0) := fun y => by
  unfold lfP; rw [List.getElem?_map, List.getElem?_range hi]; rfl
 have e1 := e (lfP x s x.length)
 rw [List.getD_eq_getElem?_getD (l := lfP x s x.length), e s] at e1
 rw [List.getElem?_eq_getElem h1] at e1
 have e2 := Option.some.inj e1
 rw [e2]
 have : s.getD i 0 = s[i] := by simp [List.getD_eq_getElem?_getD, h2]
 rw [← this]
 simp only [Option.getD_some]
 omega
theorem sNo_eq {xs s : List Int} (h : Vls xs) (hs : s ∈ splN xs xs.length) : F_spec_l4Yes xs s = some (yesL xs s) ∧ F_spec_l4No xs s = some (noL xs s) := by
 obtain ⟨h1, h2, h3⟩ := spl_bd h hs
 have hb := (Vls_bd h).1
 have hl := h.1
 refine ⟨sYes_eq hb h2 h3 h1 (by omega), ?_⟩
 unfold F_spec_l4No
 have hy := sYes_eq hb h3 (by rw [lfP_back h1]; exact h2) (by rw [lfP_len]) (by omega)
 rw [lfP_back h1] at hy
 rw [bnd1_eq (sRest_eq hb h2 h1), bnd1_eq hy]
 rfl
def okT (p : Nat) (n : Int) (L : List Int) : Prop := L.length = 9 ^ p ∧ ∀ xs, Vls xs → xs.length = p → L.getD (keyN xs).toNat 0 = if ndL xs < n then ndL xs else -1
theorem sWithin_eq {p : Nat} {n : Int} {L xs : List Int} (h : Vls xs) (hp : xs.length = p) (h2 : 2 ≤ sum3 xs) (ht : okT p n L) : F_spec_l4Within xs L = some (decide (ndL xs ≤ n)) := by
 have hb := Vls_bd h
 have hl := h.1
 unfold F_spec_l4Within
 have h9 := spl_len3 hb.2.1 (r := xs.length) (by omega)
 rw [bnd1_eq (sSplits_eq hb.2.1 hb.2.2 hl.2)]
 simp only [jn]
 have hLl : ((L.length : Nat) : Int) = 9 ^ p := by rw [ht.1]; norm_cast
 have one : ∀ i : Int, 0 ≤ i → i < (((splN xs xs.length).length : Nat) : Int) → ∀ m, F_spec_l4Within_L1 xs L (splN xs xs.length) (fun _ => some false) (m + 1) i = bif (decide (ndL (yesL xs ((splN xs xs.length).getD i.toNat [])) < n) && decide (ndL (noL xs ((splN xs xs.length).getD i.toNat [])) < n)) then some true else F_spec_l4Within_L1 xs L (splN xs xs.length) (fun _ => some false) m (i + 1) := by
  intro i i0 i1 m
  obtain ⟨k, rfl⟩ := int_nat i0
  rw [Int.toNat_natCast]
  have hm : (splN xs xs.length).getD k [] ∈ splN xs xs.length := getD_mem (by omega)
  rw [F_spec_l4Within_L1, ite_t (decide_eq_true i1), Int.toNat_natCast]
  generalize (splN xs xs.length).getD k [] = s at hm ⊢
  obtain ⟨vy, vn⟩ := yes_Vls h hm
  obtain ⟨ey, en⟩ := sNo_eq h hm
  have ly : (yesL xs s).length = p := by unfold yesL; rw [mvP_len, (spl_bd h hm).1, hp]
  have ln : (noL xs s).length = p := by unfold noL; rw [mvP_len, lfP_len, hp]
  have ky := key_in vy
  have kn := key_in vn
  rw [ly] at ky
  rw [ln] at kn
  have gy := ht.2 _ vy ly
  have gn := ht.2 _ vn ln
  have ny := ndL_in vy
  have nn := ndL_in vn
  refine jn_is (fun J => J (decide (ndL (yesL xs s) < n) && decide (ndL (noL xs s) < n))) (fun J => ?_) ?_
  ·rw [chk_pos ⟨i0, i1⟩, bnd1_eq ey, bnd1_eq (sKeyV vy), chk_pos ⟨by omega, by omega⟩, gy]
   by_cases c : ndL (yesL xs s) < n
   ·rw [if_pos c, ite_t (decide_eq_true (by omega)), bnd1_eq en, bnd1_eq (sKeyV vn), chk_pos ⟨by omega, by omega⟩, gn, decide_eq_true c, Bool.true_and]
    by_cases c2 : ndL (noL xs s) < n
    ·rw [if_pos c2, decide_eq_true c2, decide_eq_true (by omega)]
    ·rw [if_neg c2, decide_eq_false c2, decide_eq_false (by omega)]
   ·rw [if_neg c, ite_f (decide_eq_false (by omega)), decide_eq_false c]; rfl
  ·rw [chk_pos (by unfold I64; omega)]
 rcases loop_all (F_spec_l4Within_L1 xs L (splN xs xs.length) (fun _ => some false)) (((splN xs xs.length).length : Nat) : Int) (fun i => !(decide (ndL (yesL xs ((splN xs xs.length).getD i.toNat [])) < n) && decide (ndL (noL xs ((splN xs xs.length).getD i.toNat [])) < n))) (some true) (some false) (fun m i i0 i1 hh => by
   rw [one i i0 i1 m]
   rw [Bool.not_eq_true'] at hh
   rw [hh]; rfl) (fun m i i0 i1 hh => by
   rw [one i i0 i1 m]
   rw [Bool.not_eq_false'] at hh
   rw [hh]; rfl) (fun m => by
   rw [F_spec_l4Within_L1, ite_f (decide_eq_false (by omega))]) (by omega) fuel (by have := fuel_ge; omega) with ⟨e, hh⟩ | ⟨e, i, i0, i1, hh, _⟩
 ·rw [e]
  congr 1
  symm
  rw [decide_eq_false_iff_not, ← ndL_within h h2]
  rintro ⟨s, hs, h3, h4⟩
  obtain ⟨k, hk, rfl⟩ := List.getElem_of_mem hs
  have := hh (k : Int) (by omega) (by omega)
  rw [Int.toNat_natCast, List.getD_eq_getElem?_getD, List.getElem?_eq_getElem hk, Bool.not_eq_true', Bool.and_eq_false_iff] at this
  rcases this with this | this
  ·exact absurd h3 (of_decide_eq_false this)
  ·exact absurd h4 (of_decide_eq_false this)
 ·rw [e]
  congr 1
  symm
  rw [decide_eq_true_iff, ← ndL_within h h2]
  rw [Bool.not_eq_false', Bool.and_eq_true, decide_eq_true_iff, decide_eq_true_iff] at hh
  exact ⟨_, getD_mem (by omega), hh⟩
def okQ (p : Nat) (n : Int) (o : List Int) : Prop := o.length ≤ 729 ∧ ∀ k, k ∈ o ↔ ∃ xs, Vls xs ∧ xs.length = p ∧ 2 ≤ sum3 xs ∧ n ≤ ndL xs ∧ k = keyN xs
def tb0 (p : Nat) (i : Nat) : List Int := (List.range (9 ^ p)).map fun (j : Nat) => if j < i then (if sum3 (dgL p (j : Int)) ≤ 1 then 0 else -1) else 0
def qB0 (p : Nat) (j : Nat) : Bool := !(decide (sum3 (dgL p (j : Int)) ≤ 1)) && decide (sum3 (dgL p (j : Int)) ≤ 8)
theorem tb0_len {p i : Nat} : (tb0 p i).length = 9 ^ p := by simp [tb0]
theorem tb0_set {p i : Nat} (x : Int) (hx : x = if sum3 (dgL p (i : Int)) ≤ 1 then 0 else -1) : (tb0 p i).set i x = tb0 p (i + 1) := by
 refine List.ext_getElem? fun j => ?_
 by_cases hj : j < 9 ^ p
 ·have e : ∀ k, (tb0 p k)[j]? = some (if j < k then (if sum3 (dgL p (j : Int)) ≤ 1 then 0 else -1) else 0) := fun k => by
   unfold tb0; rw [List.getElem?_map, List.getElem?_range hj]; rfl
  by_cases c : i = j
  ·subst c
   rw [List.getElem?_set_self (by rw [tb0_len]; exact hj), e, if_pos (by omega), hx]
  ·rw [List.getElem?_set_ne c, e, e]
   by_cases c2 : j < i
   ·rw [if_pos c2, if_pos (show j < i + 1 by omega)]
   ·rw [if_neg c2, if_neg (show ¬ j < i + 1 by omega)]
 ·rw [List.getElem?_eq_none (by rw [List.length_set, tb0_len]; omega), List.getElem?_eq_none (by rw [tb0_len]; omega)]
theorem s4_start {p : Nat} (hp : 1 ≤ p ∧ p ≤ 3) (J : List Int → List Int → Option (List Int)) : F_spec_l4Needs_L2 (p : Int) (9 ^ p) J fuel (List.replicate (Int.toNat (9 ^ p)) 0) [] 0 = J (tb0 p (9 ^ p)) (fl (qB0 p) (9 ^ p)) := by
 have h9 := pow9 hp.2
 have hc : ((9 ^ p : Nat) : Int) = (9 : Int) ^ p := by norm_cast
 have key := loop_up (fun n i (s : List Int × List Int) => F_spec_l4Needs_L2 (p : Int) (9 ^ p) J n s.1 s.2 i) ((9 ^ p : Nat) : Int) (fun i => (tb0 p i.toNat, fl (qB0 p) i.toNat)) (J (tb0 p (9 ^ p)) (fl (qB0 p) (9 ^ p))) ?_ ?_ (by omega) fuel (by have := fuel_ge; omega)
 ·have e : List.replicate (Int.toNat (9 ^ p)) (0 : Int) = tb0 p 0 := by
   refine List.ext_getElem (by rw [tb0_len, List.length_replicate]; omega) fun i h1 h2 => by simp [tb0]
  rw [e]
  exact key
 ·intro n i i0 i1
  obtain ⟨k, rfl⟩ := int_nat i0
  have e1 : ((k : Int) + 1).toNat = k + 1 := by omega
  have hl := fl_len (qB0 p) k
  simp only [e1, Int.toNat_natCast]
  have hlen := dgL_len (k := (k : Int)) hp
  have hbd := dgL_bd (k := (k : Int)) hp
  rw [F_spec_l4Needs_L2, ite_t (decide_eq_true (by omega))]
  refine jn_is (fun J2 => J2 (tb0 p (k + 1)) (fl (qB0 p) (k + 1))) (fun J2 => ?_) ?_
  ·rw [chk_pos ⟨i0, by rw [tb0_len]; omega⟩, bnd1_eq (sCounted_eq hp i0 (by omega)), bnd1_eq (sTold_eq (by omega) hbd), Int.toNat_natCast]
   by_cases c : sum3 (dgL p (k : Int)) ≤ 1
   ·rw [ite_t (decide_eq_true c), List.set_set, tb0_set 0 (by rw [if_pos c]), fl_no (by unfold qB0; rw [decide_eq_true c]; rfl)]
   ·rw [ite_f (decide_eq_false c), bnd1_eq (sCounts_eq (by omega) hbd), tb0_set (-1) (by rw [if_neg c])]
    by_cases c2 : sum3 (dgL p (k : Int)) ≤ 8
    ·rw [ite_t (decide_eq_true c2), chk_pos ⟨by omega, by simp only [maxLen]; omega⟩, fl_yes (by unfold qB0; rw [decide_eq_false c, decide_eq_true c2]; rfl)]
    ·rw [ite_f (decide_eq_false c2), fl_no (by unfold qB0; rw [decide_eq_false c, decide_eq_false c2]; rfl)]
  ·rw [chk_pos (by unfold I64; omega)]
 ·intro n
  simp only [Int.toNat_natCast]
  rw [F_spec_l4Needs_L2, ite_f (decide_eq_false (by omega))]
theorem s4_ok {p : Nat} (hp : 1 ≤ p ∧ p ≤ 3) : okT p 1 (tb0 p (9 ^ p)) ∧ okQ p 1 (fl (qB0 p) (9 ^ p)) := by
 have h9 := pow9 hp.2
 have hc : ((9 ^ p : Nat) : Int) = (9 : Int) ^ p := by norm_cast
 refine ⟨⟨tb0_len, fun xs h hl => ?_⟩, by have := fl_len (qB0 p) (9 ^ p); omega, fun k => ?_⟩
 ·have hk := key_in h
  have hd := key_dgL h
  rw [hl] at hk hd
  have e : (tb0 p (9 ^ p)).getD (keyN xs).toNat 0 = if sum3 xs ≤ 1 then 0 else -1 := by
   have hlt : (keyN xs).toNat < 9 ^ p := by omega
   unfold tb0
   rw [List.getD_eq_getElem?_getD, List.getElem?_map, List.getElem?_range hlt]
   show (if (keyN xs).toNat < 9 ^ p then _ else _) = _
   rw [if_pos hlt, show (((keyN xs).toNat : Nat) : Int) = keyN xs by omega, hd]
  rw [e]
  have hin := ndL_in h
  by_cases c : sum3 xs ≤ 1
  ·have e0 : ndL xs = 0 := ned_told h.2 c
   rw [if_pos c, e0, if_pos (by omega)]
  ·have := (ned_two h.2 (show 2 ≤ tri xs 0 + tri xs 1 + tri xs 2 by unfold sum3 at c; omega)).1
   rw [if_neg c, if_neg (show ¬ ndL xs < 1 by unfold ndL; omega)]
 ·rw [mem_fl]
  constructor
  ·rintro ⟨i, hi, h1, rfl⟩
   unfold qB0 at h1
   rw [Bool.and_eq_true, Bool.not_eq_true', decide_eq_false_iff_not, decide_eq_true_iff] at h1
   have hv := dgL_Vls hp (k := (i : Int)) (by omega) (by omega) h1.2
   have hs : 2 ≤ sum3 (dgL p (i : Int)) := by omega
   exact ⟨dgL p (i : Int), hv, dgL_len hp, hs, (ned_two hv.2 hs).1.1, (dgL_key hp (by omega) (by omega)).symm⟩
  ·rintro ⟨xs, h, hl, h2, h3, rfl⟩
   have hk := key_in h
   have hd := key_dgL h
   rw [hl] at hk hd
   refine ⟨(keyN xs).toNat, by omega, ?_, by omega⟩
   unfold qB0
   rw [show (((keyN xs).toNat : Nat) : Int) = keyN xs by omega, hd, decide_eq_false (by omega), decide_eq_true (by have := h.2.2.2.2; unfold sum3; omega)]; rfl
def wonQ (p : Nat) (n : Int) (k : Int) : Bool := decide (ndL (dgL p k) ≤ n)
theorem s4_L4 {p : Nat} {n0 : Int} {o L : List Int} (hp : 1 ≤ p ∧ p ≤ 3) (ho : okQ p n0 o) (ht : okT p n0 L) (J : List Int → List Int → Option (List Int)) : F_spec_l4Needs_L4 (p : Int) L o J fuel [] [] 0 = J (o.filter (wonQ p n0)) (o.filter fun k => !(wonQ p n0 k)) := by
 have h9 := pow9 hp.2
 have hol := ho.1
 have key := loop_up (fun n i (s : List Int × List Int) => F_spec_l4Needs_L4 (p : Int) L o J n s.1 s.2 i) ((o.length : Nat) : Int) (fun i => ((o.take i.toNat).filter (wonQ p n0), (o.take i.toNat).filter fun k => !(wonQ p n0 k))) (J (o.filter (wonQ p n0)) (o.filter fun k => !(wonQ p n0 k))) ?_ ?_ (by omega) fuel (by have := fuel_ge; omega)
 ·simpa using key
 ·intro n i i0 i1
  obtain ⟨k, rfl⟩ := int_nat i0
  have e1 : ((k : Int) + 1).toNat = k + 1 := by omega
  have hk : k < o.length := by omega
  simp only [e1, Int.toNat_natCast]
  have hm : o.getD k 0 ∈ o := getD_mem hk
  have q1 := List.length_filter_le (wonQ p n0) (o.take k)
  have q2 := List.length_filter_le (fun k => !(wonQ p n0 k)) (o.take k)
  rw [List.length_take] at q1 q2
  rw [F_spec_l4Needs_L4, ite_t (decide_eq_true i1), chk_pos ⟨i0, i1⟩, take_getD (d := 0) hk, List.filter_append, List.filter_append, List.filter_cons, List.filter_nil, List.filter_cons, List.filter_nil, Int.toNat_natCast]
  obtain ⟨xs, v, hl, h2, h3, e⟩ := (ho.2 _).1 hm
  have hki := key_in v
  have hd := key_dgL v
  rw [hl] at hki hd
  have hw : wonQ p n0 (o.getD k 0) = decide (ndL xs ≤ n0) := by unfold wonQ; rw [e, hd]
  rw [e] at hw ⊢
  rw [bnd1_eq (sCounted_eq hp hki.1 hki.2), hd, bnd1_eq (sWithin_eq v hl h2 ht), hw]
  by_cases c : ndL xs ≤ n0
  ·rw [ite_t (decide_eq_true c), decide_eq_true c, chk_pos ⟨by omega, by simp only [maxLen]; omega⟩, chk_pos (by unfold I64; omega), if_pos rfl, if_neg (by simp), List.append_nil]
  ·rw [ite_f (decide_eq_false c), decide_eq_false c, chk_pos ⟨by omega, by simp only [maxLen]; omega⟩, chk_pos (by unfold I64; omega), if_neg (by simp), if_pos (show (!false) = true from rfl), List.append_nil]
 ·intro n
  simp only [Int.toNat_natCast, List.take_length]
  rw [F_spec_l4Needs_L4, ite_f (decide_eq_false (by omega))]
def setA (n : Int) (L : List Int) (ts : List Int) : List Int := ts.foldl (fun o t => o.set t.toNat n) L
theorem setA_len (n : Int) : ∀ (ts L : List Int), (setA n L ts).length = L.length
 | [], L => rfl
 | t :: ts, L => by
  show (setA n (L.set t.toNat n) ts).length = _
  rw [setA_len n ts, List.length_set]
theorem setA_get (n : Int) {k : Int} (h0 : 0 ≤ k) : ∀ (ts L : List Int), (∀ t ∈ ts, 0 ≤ t) → k < ((L.length : Nat) : Int) → (setA n L ts).getD k.toNat 0 = if k ∈ ts then n else L.getD k.toNat 0
 | [], L, _, _ => by simp [setA]
 | t :: ts, L, h, hk => by
  have ht := h t (by simp)
  show (setA n (L.set t.toNat n) ts).getD k.toNat 0 = _
  rw [setA_get n h0 ts _ (fun u hu => h u (by simp [hu])) (by rw [List.length_set]; exact hk)]
  by_cases h1 : k ∈ ts
  ·rw [if_pos h1, if_pos (by simp [h1])]
  ·rw [if_neg h1]
   by_cases h2 : k = t
   ·subst h2
    rw [if_pos (by simp), List.getD_eq_getElem?_getD, List.getElem?_set_self (by omega)]; rfl
   ·rw [if_neg (by simp [h1, h2]), List.getD_eq_getElem?_getD, List.getElem?_set_ne (by omega), ← List.getD_eq_getElem?_getD]
theorem s4_L5 {n0 : Int} {ts L : List Int} (hl : ts.length ≤ 1000) (hb : ∀ t ∈ ts, 0 ≤ t ∧ t < ((L.length : Nat) : Int)) (J : List Int → Option (List Int)) : F_spec_l4Needs_L5 n0 ts J fuel L 0 = J (setA n0 L ts) := by
 have key := loop_up (fun n i (s : List Int) => F_spec_l4Needs_L5 n0 ts J n s i) ((ts.length : Nat) : Int) (fun i => setA n0 L (ts.take i.toNat)) (J (setA n0 L ts)) ?_ ?_ (by omega) fuel (by have := fuel_ge; omega)
 ·exact key
 ·intro n i i0 i1
  obtain ⟨k, rfl⟩ := int_nat i0
  have e1 : ((k : Int) + 1).toNat = k + 1 := by omega
  have hk : k < ts.length := by omega
  have hbk := hb _ (getD_mem (d := 0) hk)
  simp only [e1, Int.toNat_natCast]
  rw [F_spec_l4Needs_L5, ite_t (decide_eq_true i1), chk_pos ⟨i0, i1⟩, Int.toNat_natCast, setA_len, chk_pos hbk, chk_pos (by unfold I64; omega), take_getD (d := 0) hk]
  unfold setA
  rw [List.foldl_append]; rfl
 ·intro n
  simp only [Int.toNat_natCast, List.take_length]
  rw [F_spec_l4Needs_L5, ite_f (decide_eq_false (by omega))]
theorem sNeeds_ok {p : Nat} (hp : 1 ≤ p ∧ p ≤ 3) : ∃ L : List Int, F_spec_l4Needs (p : Int) = some L ∧ L.length = 9 ^ p ∧ ∀ xs, Vls xs → xs.length = p → L.getD (keyN xs).toNat 0 = ndL xs := by
 have h9 := pow9 hp.2
 have hc : ((9 ^ p : Nat) : Int) = (9 : Int) ^ p := by norm_cast
 unfold F_spec_l4Needs
 refine jn_q (Q0 := fun o => ∃ L : List Int, o = some L ∧ L.length = 9 ^ p ∧ ∀ xs, Vls xs → xs.length = p → L.getD (keyN xs).toNat 0 = ndL xs) (fun J => J (9 ^ p)) (fun J => ?_) ?_
 ·refine loop_up (fun n i (s : Int) => F_spec_l4Needs_L1 (p : Int) J n i s) (p : Int) (fun i => 9 ^ i.toNat) _ ?_ ?_ (by omega) fuel (by have := fuel_ge; omega)
  ·intro n i i0 i1
   obtain ⟨k, rfl⟩ := int_nat i0
   have e1 : ((k : Int) + 1).toNat = k + 1 := by omega
   have hk := pow9 (p := k) (by omega)
   simp only [e1, Int.toNat_natCast]
   rw [F_spec_l4Needs_L1, ite_t (decide_eq_true i1), chk_pos (by unfold I64; omega), chk_pos (by unfold I64; omega), Int.pow_succ]
  ·intro n
   simp only [Int.toNat_natCast]
   rw [F_spec_l4Needs_L1, ite_f (decide_eq_false (by omega))]
 rw [chk_pos ⟨by omega, by omega, by omega, by simp only [maxLen]; omega⟩]
 refine jn_q (Q0 := fun o => ∃ L : List Int, o = some L ∧ L.length = 9 ^ p ∧ ∀ xs, Vls xs → xs.length = p → L.getD (keyN xs).toNat 0 = ndL xs) (fun J => J (tb0 p (9 ^ p)) (fl (qB0 p) (9 ^ p))) (fun J => s4_start hp J) ?_
 simp only [jn]
 obtain ⟨s1, s2⟩ := s4_ok hp
 refine loop_m (fun n (s : List Int × List Int × Int) => F_spec_l4Needs_L3 (p : Int) (fun o22b => some o22b) n s.1 s.2.1 s.2.2) (fun s => 1 ≤ s.2.2 ∧ s.2.2 ≤ 10 ∧ okT p s.2.2 s.1 ∧ okQ p s.2.2 s.2.1) (fun s => (10 - s.2.2).toNat) (fun o => ∃ L : List Int, o = some L ∧ L.length = 9 ^ p ∧ ∀ xs, Vls xs → xs.length = p → L.getD (keyN xs).toNat 0 = ndL xs) ?_ fuel (_, _, 1) ⟨Int.le_refl _, by dsimp only; omega, s1, s2⟩ (by have := fuel_ge; dsimp only; omega)
 rintro f ⟨L, o, n⟩ ⟨n1, n2, ht, ho⟩
 dsimp only at n1 n2 ho ht ⊢
 have hol := ho.1
 rw [F_spec_l4Needs_L3]
 by_cases hcc : 0 < o.length
 ·left
  have hn9 : n ≤ 9 := by
   obtain ⟨xs, v, _, _, h3, _⟩ := (ho.2 _).1 (getD_mem (d := 0) hcc)
   have := ndL_in v; omega
  have hdl := List.length_filter_le (wonQ p n) o
  have hdl2 := List.length_filter_le (fun k => !(wonQ p n k)) o
  have hwon : ∀ xs, Vls xs → xs.length = p → wonQ p n (keyN xs) = decide (ndL xs ≤ n) := fun xs v hl => by
   have := key_dgL v
   rw [hl] at this
   unfold wonQ; rw [this]
  have hLl : ((L.length : Nat) : Int) = 9 ^ p := by rw [ht.1]; norm_cast
  have hkb : ∀ t ∈ o.filter (wonQ p n), 0 ≤ t ∧ t < ((L.length : Nat) : Int) := fun t h1 => by
   obtain ⟨xs, v, hl, _, _, e⟩ := (ho.2 t).1 (List.mem_filter.1 h1).1
   have := key_in v
   rw [hl] at this
   omega
  refine ⟨(setA n L (o.filter (wonQ p n)), o.filter (fun k => !(wonQ p n k)), n + 1), ⟨by dsimp only; omega, by dsimp only; omega, ⟨by rw [setA_len]; exact ht.1, fun xs v hl => ?_⟩, by dsimp only; omega, fun k => ?_⟩, by dsimp only; omega, ?_⟩
  ·have hki := key_in v
   rw [hl] at hki
   rw [setA_get n hki.1 _ _ (fun t h1 => (hkb t h1).1) (by omega), ht.2 xs v hl]
   by_cases e : keyN xs ∈ o.filter (wonQ p n)
   ·rw [List.mem_filter, hwon xs v hl, decide_eq_true_iff] at e
    obtain ⟨ys, vy, hly, _, h4, h5⟩ := (ho.2 _).1 e.1
    have := key_inj v vy (by omega) h5
    subst this
    rw [if_pos (List.mem_filter.2 ⟨e.1, by rw [hwon xs v hl, decide_eq_true_iff]; exact e.2⟩), if_pos (by dsimp only; omega)]
    omega
   ·rw [if_neg e]
    by_cases h2 : ndL xs < n
    ·rw [if_pos h2, if_pos (by dsimp only; omega)]
    ·rw [if_neg h2]
     have h3 : 2 ≤ sum3 xs := by
      apply Classical.byContradiction
      intro h3
      have : ndL xs = 0 := ned_told v.2 (by unfold sum3 at h3; omega)
      omega
     have h4 : ndL xs ≠ n := fun h4 => e (List.mem_filter.2 ⟨(ho.2 _).2 ⟨xs, v, hl, h3, by omega, rfl⟩, by rw [hwon xs v hl, decide_eq_true_iff]; omega⟩)
     rw [if_neg (by dsimp only; omega)]
  ·dsimp only
   rw [List.mem_filter]
   constructor
   ·rintro ⟨h1, h2⟩
    obtain ⟨xs, v, hl, h3, h4, rfl⟩ := (ho.2 k).1 h1
    rw [hwon xs v hl, Bool.not_eq_true', decide_eq_false_iff_not] at h2
    exact ⟨xs, v, hl, h3, by omega, rfl⟩
   ·rintro ⟨xs, v, hl, h3, h4, rfl⟩
    refine ⟨(ho.2 _).2 ⟨xs, v, hl, h3, by omega, rfl⟩, ?_⟩
    rw [hwon xs v hl, Bool.not_eq_true', decide_eq_false_iff_not]; omega
  ·dsimp only
   rw [ite_t (decide_eq_true (by omega))]
   refine jn_is (fun J2 => J2 (setA n L (o.filter (wonQ p n))) (o.filter fun k => !(wonQ p n k))) (fun J2 => ?_) (by rw [chk_pos (by unfold I64; omega)])
   refine jn_is (fun J3 => J3 (o.filter (wonQ p n)) (o.filter fun k => !(wonQ p n k))) (fun J3 => s4_L4 hp ho ht J3) ?_
   exact jn_is (fun J3 => J3 (setA n L (o.filter (wonQ p n)))) (fun J3 => s4_L5 (by omega) hkb J3) rfl
 ·right
  rw [ite_f (decide_eq_false (by omega))]
  refine ⟨L, rfl, ht.1, fun xs v hl => ?_⟩
  have e : o = [] := List.length_eq_zero_iff.1 (by omega)
  subst e
  rw [ht.2 xs v hl]
  by_cases h2 : ndL xs < n
  ·rw [if_pos h2]
  ·exfalso
   have h3 : 2 ≤ sum3 xs := by
    apply Classical.byContradiction
    intro h3
    have : ndL xs = 0 := ned_told v.2 (by unfold sum3 at h3; omega)
    have := ndL_in v
    omega
   have := (ho.2 (keyN xs)).2 ⟨xs, v, hl, h3, by omega, rfl⟩
   cases this
def cts (xs : List Int) (m : Int) : List Int := ctP xs m xs.length
def needS (xs : List Int) (m : Int) : Int := ndL (cts xs m)
theorem flt_cP (p : Nat → Bool) : ∀ k, ((List.range k).filter p).length = cP p k
 | 0 => rfl
 | k + 1 => by
  rw [List.range_succ, List.filter_append, List.length_append, flt_cP p k, cP, List.filter_cons]
  cases p k <;> rfl
theorem cts_at {xs : List Int} {m : Int} {v : Nat} (h : v ≤ m.toNat) : (cts xs m).getD v 0 = ((cP (fun i => xs.getD i 0 == (v : Int)) xs.length : Nat) : Int) := by
 unfold cts
 rw [ctP_at h, flt_cP]
theorem cts_len {xs : List Int} {m : Int} : (cts xs m).length = m.toNat + 1 := ctP_len
def ysC (q : Int) (xs : List Int) (v : Nat) : Nat := cP (fun i => xs.getD i 0 == (v : Int) && hasB q (i : Int)) xs.length
def nsC (q : Int) (xs : List Int) (v : Nat) : Nat := cP (fun i => xs.getD i 0 == (v : Int) && !(hasB q (i : Int))) xs.length
theorem cP_split (p q : Nat → Bool) : ∀ k, cP (fun i => p i && q i) k + cP (fun i => p i && !(q i)) k = cP p k
 | 0 => rfl
 | k + 1 => by
  have := cP_split p q k
  simp only [cP]
  cases p k <;> cases q k <;> simp <;> omega
def ysL (q : Int) (xs : List Int) (m : Int) : List Int := (List.range (m.toNat + 1)).map fun (v : Nat) => ((ysC q xs v : Nat) : Int)
theorem ysL_at {q : Int} {xs : List Int} {m : Int} {v : Nat} (h : v ≤ m.toNat) : (ysL q xs m).getD v 0 = ((ysC q xs v : Nat) : Int) := by
 unfold ysL; rw [List.getD_eq_getElem?_getD, List.getElem?_map, List.getElem?_range (by omega)]; rfl
theorem cts_ans {xs : List Int} {m q : Int} (h : okS xs m) (y : Bool) {v : Nat} (hv : v ≤ m.toNat) :
  (cts (ansN m q y xs) m).getD v 0 = (((bif y then ysC q xs v else nsC q xs v) + (if 1 ≤ v then (bif y then nsC q xs (v - 1) else ysC q xs (v - 1)) else 0) : Nat) : Int) := by
 rw [cts_at hv, ansN_len]
 congr 1
 have key : ∀ k, k ≤ xs.length → cP (fun i => (ansN m q y xs).getD i 0 == (v : Int)) k = (bif y then cP (fun i => xs.getD i 0 == (v : Int) && hasB q (i : Int)) k else cP (fun i => xs.getD i 0 == (v : Int) && !(hasB q (i : Int))) k) + (if 1 ≤ v then (bif y then cP (fun i => xs.getD i 0 == ((v - 1 : Nat) : Int) && !(hasB q (i : Int))) k else cP (fun i => xs.getD i 0 == ((v - 1 : Nat) : Int) && hasB q (i : Int)) k) else 0) := by
  intro k
  induction k with
  | zero => intro _; cases y <;> simp [cP]
  | succ k ih =>
   intro hk
   have hx := h.2.2.2 k
   have hm := h.2.1
   have ih := ih (by omega)
   have e : ((ansN m q y xs).getD k 0 == (v : Int)) = bif hasB q (k : Int) == y then xs.getD k 0 == (v : Int) else decide (1 ≤ v) && (xs.getD k 0 == ((v - 1 : Nat) : Int)) := by
    rw [ans_getD (by omega)]
    unfold falseB lieN
    cases hq : (hasB q (k : Int) == y) with
    | true => rw [Bool.not_true, if_neg (by simp)]; rfl
    | false =>
     rw [Bool.not_false, cond_false, Bool.eq_iff_iff, beq_iff_eq, Bool.and_eq_true, decide_eq_true_iff, beq_iff_eq]
     by_cases h0 : xs.getD k 0 ≥ 0
     ·rw [if_pos ⟨h0, rfl⟩]
      by_cases c : xs.getD k 0 + 1 > m
      ·rw [if_pos c]; omega
      ·rw [if_neg c]; omega
     ·rw [if_neg (fun hh => h0 hh.1)]; omega
   simp only [cP]
   rw [ih, e]
   by_cases c : 1 ≤ v
   ·rw [if_pos c, if_pos c, decide_eq_true c, Bool.true_and]
    cases y <;> cases hasB q (k : Int) <;> cases xs.getD k 0 == (v : Int) <;> cases xs.getD k 0 == ((v - 1 : Nat) : Int) <;> simp <;> omega
   ·rw [if_neg c, if_neg c, decide_eq_false c, Bool.false_and]
    cases y <;> cases hasB q (k : Int) <;> cases xs.getD k 0 == (v : Int) <;> simp
 exact key _ (Nat.le_refl _)
theorem ys_mem {q : Int} {xs : List Int} {m : Int} : ysL q xs m ∈ splN (cts xs m) (cts xs m).length := by
 refine mem_spl.2 ⟨by rw [cts_len]; simp [ysL], fun i hi => ?_⟩
 rw [cts_len] at hi
 rw [ysL_at (by omega), cts_at (by omega)]
 have := cP_split (fun j => xs.getD j 0 == (i : Int)) (fun j => hasB q (j : Int)) xs.length
 unfold ysC
 omega
theorem ext_getD {a b : List Int} (hl : a.length = b.length) (h : ∀ i, i < a.length → a.getD i 0 = b.getD i 0) : a = b := by
 refine List.ext_getElem hl fun i h1 h2 => ?_
 have := h i h1
 simpa [List.getD_eq_getElem?_getD, h1, h2] using this
theorem lfP_at {x s : List Int} {k i : Nat} (h : i < k) : (lfP x s k).getD i 0 = x.getD i 0 - s.getD i 0 := by
 unfold lfP; rw [List.getD_eq_getElem?_getD, List.getElem?_map, List.getElem?_range h]; rfl
theorem lf_cts {q : Int} {xs : List Int} {m : Int} {i : Nat} (hi : i ≤ m.toNat) : (lfP (cts xs m) (ysL q xs m) (cts xs m).length).getD i 0 = ((nsC q xs i : Nat) : Int) := by
 rw [lfP_at (by rw [cts_len]; omega), ysL_at hi, cts_at hi]
 have := cP_split (fun j => xs.getD j 0 == (i : Int)) (fun j => hasB q (j : Int)) xs.length
 unfold ysC nsC
 omega
theorem ys_len {q : Int} {xs : List Int} {m : Int} : (ysL q xs m).length = m.toNat + 1 := by simp [ysL]
theorem cts_yes {xs : List Int} {m q : Int} (h : okS xs m) : cts (ansN m q true xs) m = yesL (cts xs m) (ysL q xs m) := by
 refine ext_getD (by unfold yesL; rw [mvP_len, ys_len, cts_len]) fun i hi => ?_
 rw [cts_len] at hi
 unfold yesL
 rw [cts_ans h true (by omega), mvP_at (by rw [ys_len]; omega), ysL_at (by omega), cts_len, cond_true, cond_true]
 by_cases c : 1 ≤ i
 ·have := lf_cts (q := q) (xs := xs) (m := m) (i := i - 1) (by omega)
  rw [cts_len] at this
  rw [if_pos c, if_pos ⟨c, hi⟩, this]; omega
 ·rw [if_neg c, if_neg (fun hh => c hh.1)]; omega
theorem cts_no {xs : List Int} {m q : Int} (h : okS xs m) : cts (ansN m q false xs) m = noL (cts xs m) (ysL q xs m) := by
 refine ext_getD (by unfold noL; rw [mvP_len, lfP_len, cts_len, cts_len]) fun i hi => ?_
 rw [cts_len] at hi
 unfold noL
 rw [cts_ans h false (by omega), mvP_at (by rw [lfP_len, cts_len]; omega), lf_cts (by omega), cond_false, cond_false]
 by_cases c : 1 ≤ i
 ·rw [if_pos c, if_pos ⟨c, by rw [cts_len]; omega⟩, ysL_at (by omega)]; omega
 ·rw [if_neg c, if_neg (fun hh => c hh.1)]; omega
theorem Vls_ans {xs : List Int} {m q : Int} {y : Bool} (h : okS xs m) (hv : Vls (cts xs m)) : Vls (cts (ansN m q y xs) m) := by
 have := yes_Vls hv (ys_mem (q := q))
 cases y with
 | true => rw [cts_yes h]; exact this.1
 | false => rw [cts_no h]; exact this.2
theorem need_ans {xs : List Int} {m q : Int} (h : okS xs m) (hv : Vls (cts xs m)) : needS xs m ≤ 1 + max (needS (ansN m q true xs) m) (needS (ansN m q false xs) m) := by
 obtain ⟨i, j, k, ⟨hi, hj, hk⟩, ⟨y0, y1, y2⟩, n0, n1, n2⟩ := tri_split hv (ys_mem (q := q))
 unfold needS
 rw [cts_yes h, cts_no h]
 unfold ndL
 rw [y0, y1, y2, n0, n1, n2]
 rcases ned_all hv.2 hi hj hk with e | e <;> omega
theorem cts_sum {xs : List Int} {m : Int} (h : isStateN xs m = true) : sum3 (cts xs m) = (((openN xs).length : Nat) : Int) := by
 have hs := state_len h
 have := ct_sum h xs.length (Nat.le_refl _)
 rw [← sumP_eq (by rw [cts_len]; omega), cts_len]
 exact this
theorem cts_Vls {xs : List Int} {m : Int} (h : isStateN xs m = true) (h8 : (openN xs).length ≤ 8) : Vls (cts xs m) := by
 have hs := state_len h
 have hsum := cts_sum h
 have hl : 1 ≤ (cts xs m).length ∧ (cts xs m).length ≤ 3 := by rw [cts_len]; omega
 have h0 : ∀ i, 0 ≤ (cts xs m).getD i 0 := fun i => by
  by_cases hi : i ≤ m.toNat
  ·rw [cts_at hi]; omega
  ·rw [List.getD_eq_getElem?_getD, List.getElem?_eq_none (by rw [cts_len]; omega)]; simp
 refine ⟨hl, ?_⟩
 unfold sum3 at hsum
 rcases list3 hl with ⟨c, e⟩ | ⟨b, c, e⟩ | ⟨a, b, c, e⟩ <;> rw [e] at hsum h0 ⊢
 ·have := h0 0
  exact ⟨Int.le_refl _, Int.le_refl _, this, by omega⟩
 ·have := h0 0
  have := h0 1
  exact ⟨Int.le_refl _, h0 0, h0 1, by omega⟩
 ·exact ⟨h0 0, h0 1, h0 2, by omega⟩
theorem need_told {xs : List Int} {m : Int} (h : isStateN xs m = true) (hv : Vls (cts xs m)) : (openN xs).length < 2 ↔ needS xs m = 0 := by
 have hs := cts_sum h
 have hv2 := hv.2
 unfold sum3 at hs
 constructor
 ·intro h2
  exact ned_told hv2 (by omega)
 ·intro h0
  apply Classical.byContradiction
  intro hc
  have := (ned_two hv2 (by omega)).1.1
  unfold needS ndL at h0
  omega
def okN (xs : List Int) (m : Int) : Prop := isStateN xs m = true ∧ Vls (cts xs m)
theorem okN_ans {xs : List Int} {m q : Int} {y : Bool} (h : okN xs m) : okN (ansN m q y xs) m :=
 ⟨isState_ok (okS_ans (okS_of h.1)) (by rw [ansN_len]; exact (state_len h.1).1), Vls_ans (okS_of h.1) h.2⟩
def hdB (m q : Int) (xs : List Int) : Bool := decide (needS (ansN m q true xs) m > needS (ansN m q false xs) m)
def hpS (m : Int) (qs xs : List Int) : Nat → List Int
 | 0 => xs
 | k + 1 => ansN m (qs.getD k 0) (hdB m (qs.getD k 0) (hpS m qs xs k)) (hpS m qs xs k)
def hpA (m : Int) (qs xs : List Int) (k : Nat) : List Bool := (List.range k).map fun (i : Nat) => hdB m (qs.getD i 0) (hpS m qs xs i)
theorem hpA_len {m : Int} {qs xs : List Int} {k : Nat} : (hpA m qs xs k).length = k := by simp [hpA]
theorem hpA_succ {m : Int} {qs xs : List Int} {k : Nat} : hpA m qs xs (k + 1) = hpA m qs xs k ++ [hdB m (qs.getD k 0) (hpS m qs xs k)] := by unfold hpA; rw [List.range_succ, List.map_append]; rfl
theorem hpA_at {m : Int} {qs xs : List Int} {k i : Nat} (h : i < k) : (hpA m qs xs k).getD i false = hdB m (qs.getD i 0) (hpS m qs xs i) := by
 unfold hpA; rw [List.getD_eq_getElem?_getD, List.getElem?_map, List.getElem?_range h]; rfl
theorem hpS_len {m : Int} {qs xs : List Int} : ∀ k, (hpS m qs xs k).length = xs.length
 | 0 => rfl
 | k + 1 => by rw [hpS, ansN_len, hpS_len k]
theorem okN_hp {m : Int} {qs xs : List Int} (h : okN xs m) : ∀ k, okN (hpS m qs xs k) m
 | 0 => h
 | k + 1 => by rw [hpS]; exact okN_ans (okN_hp h k)
theorem need_hold {xs : List Int} {m q : Int} (h : okN xs m) : needS xs m ≤ 1 + needS (ansN m q (hdB m q xs) xs) m := by
 have := need_ans (q := q) (okS_of h.1) h.2
 unfold hdB
 by_cases c : needS (ansN m q true xs) m > needS (ansN m q false xs) m
 ·rw [decide_eq_true c]; omega
 ·rw [decide_eq_false c]; omega
theorem need_hp {m : Int} {qs xs : List Int} (h : okN xs m) : ∀ k : Nat, needS xs m ≤ (k : Int) + needS (hpS m qs xs k) m
 | 0 => by rw [hpS]; omega
 | k + 1 => by
  have := need_hp (qs := qs) h k
  have := need_hold (q := qs.getD k 0) (okN_hp (qs := qs) h k)
  rw [hpS]; omega
theorem eP_hp {m : Int} {qs xs : List Int} {n : Nat} : ∀ k, k ≤ n → eP m qs (hpA m qs xs n) xs k = hpS m qs xs k
 | 0, _ => rfl
 | k + 1, hk => by rw [eP, hpS, eP_hp k (by omega), hpA_at (by omega)]
def hvB (xs : List Int) (m : Int) (qs : List Int) : Bool := gdH xs m qs && decide ((openN xs).length ≤ 8)
theorem hvB_in {xs : List Int} {m : Int} {qs : List Int} (h : hvB xs m qs = true) : gdH xs m qs = true ∧ okN xs m ∧ qs.length ≤ 8 := by
 unfold hvB at h
 rw [Bool.and_eq_true, decide_eq_true_iff] at h
 have hg := gdH_in h.1
 exact ⟨h.1, ⟨hg.1, cts_Vls hg.1 h.2⟩, hg.2.2.1⟩
def okD (l : List (K3 × Int)) : Prop := ∀ a b c, V3 a b c → tget l (a, b, c) = some (nedI a b c)
theorem iOf_eq {l : List (K3 × Int)} (hl : okD l) {xs : List Int} (h : Vls xs) : F_impl_needer_of (fun u0 u1 => F_impl_bothWays u0 u1) l xs = some (ndL xs) := by
 unfold F_impl_needer_of
 rw [chk_pos h.1]
 simp only [nam]
 rw [hl _ _ _ h.2]
 rfl
theorem iHold0_eq {l : List (K3 × Int)} (hl : okD l) {xs : List Int} {m q : Int} (h : okN xs m) : F_impl_State_hold xs m (fun u0 u1 => F_impl_bothWays u0 u1) l q = some (hdB m q xs) := by
 unfold F_impl_State_hold
 have h1 := okN_ans (q := q) (y := true) h
 have h2 := okN_ans (q := q) (y := false) h
 have c1 : F_impl_State_counts (ansN m q true xs) m = some (cts (ansN m q true xs) m) := iStCounts_eq h1.1
 have c2 : F_impl_State_counts (ansN m q false xs) m = some (cts (ansN m q false xs) m) := iStCounts_eq h2.1
 rw [chk_pos (okS_of h.1), bnd1_eq c1, bnd1_eq (iOf_eq hl h1.2), bnd1_eq c2, bnd1_eq (iOf_eq hl h2.2)]
 rfl
theorem iHoldPlay_eq (xs : List Int) (m : Int) (qs : List Int) (hx : xs.length ≤ 1000) : F_impl_HoldPlay xs m qs = bif hvB xs m qs then some (hpA m qs xs qs.length, hpS m qs xs qs.length, m, true) else some ([], [], 0, false) := by
 unfold F_impl_HoldPlay
 refine jn_is (fun J => J (!(hvB xs m qs))) (fun J => ?_) ?_
 ·rw [bnd1_eq (iListed_eq xs m qs hx)]
  unfold hvB
  cases gdH xs m qs with
  | false => rfl
  | true =>
   rw [Bool.not_true, ite_f rfl, chk_pos (by omega), Bool.true_and]
   congr 1
   by_cases c : (openN xs).length ≤ 8
   ·rw [decide_eq_true c, decide_eq_false (by omega)]; rfl
   ·rw [decide_eq_false c, decide_eq_true (by omega)]; rfl
 ·cases hv : hvB xs m qs with
  | false => rfl
  | true =>
   obtain ⟨hg, hn, hq⟩ := hvB_in hv
   obtain ⟨l, e, hl⟩ := iNeeder_ok
   rw [Bool.not_true, ite_f rfl, bnd1_eq e, chk_pos (okS_of hn.1), after_no, cond_true]
   refine jn_is (fun J => J (hpA m qs xs qs.length) (hpS m qs xs qs.length)) (fun J => ?_) rfl
   refine loop_up (fun n i (s : List Bool × List Int) => F_impl_HoldPlay_L1 m qs l J n s.1 s.2 i) ((qs.length : Nat) : Int) (fun i => (hpA m qs xs i.toNat, hpS m qs xs i.toNat)) _ ?_ ?_ (by omega) fuel (by have := fuel_ge; omega)
   ·intro n i i0 i1
    obtain ⟨k, rfl⟩ := int_nat i0
    have e1 : ((k : Int) + 1).toNat = k + 1 := by omega
    have hk := okN_hp (qs := qs) hn k
    simp only [e1, Int.toNat_natCast]
    rw [F_impl_HoldPlay_L1, ite_t (decide_eq_true i1), chk_pos ⟨i0, i1⟩, Int.toNat_natCast, bnd1_eq (iHold0_eq hl hk), hpA_len, chk_pos ⟨by omega, by simp only [maxLen]; omega⟩, chk_pos (okS_of hk.1), chk_pos (by unfold I64; omega), hpA_succ, hpS]
   ·intro n
    simp only [Int.toNat_natCast]
    rw [F_impl_HoldPlay_L1, ite_f (decide_eq_false (by omega))]
theorem sHold0_eq {L : List Int} {xs : List Int} {m q : Int} (h : okN xs m) (hL : L.length = 9 ^ (m.toNat + 1)) (hl : ∀ xs, Vls xs → xs.length = m.toNat + 1 → L.getD (keyN xs).toNat 0 = ndL xs) : F_spec_l8Hold xs m q L = some (hdB m q xs) := by
 unfold F_spec_l8Hold
 have h1 := okN_ans (q := q) (y := true) h
 have h2 := okN_ans (q := q) (y := false) h
 have k1 := key_in h1.2
 have k2 := key_in h2.2
 rw [cts_len] at k1 k2
 have hLl : ((L.length : Nat) : Int) = 9 ^ (m.toNat + 1) := by rw [hL]; norm_cast
 have g1 := hl _ h1.2 cts_len
 have g2 := hl _ h2.2 cts_len
 have c1 : F_spec_l2Counts (ansN m q true xs) m = some (cts (ansN m q true xs) m) := sL2Counts_eq h1.1
 have c2 : F_spec_l2Counts (ansN m q false xs) m = some (cts (ansN m q false xs) m) := sL2Counts_eq h2.1
 rw [chk_pos (okS_of h.1), bnd1_eq c1, bnd1_eq c2, bnd1_eq (sKeyV h1.2), chk_pos (show 0 ≤ keyN (cts (ansN m q true xs) m) ∧ _ from ⟨by omega, by omega⟩), bnd1_eq (sKeyV h2.2), chk_pos (show 0 ≤ keyN (cts (ansN m q false xs) m) ∧ _ from ⟨by omega, by omega⟩)]
 show some (decide (L.getD (keyN (cts (ansN m q true xs) m)).toNat 0 > L.getD (keyN (cts (ansN m q false xs) m)).toNat 0)) = _
 rw [g1, g2]; rfl
theorem sHoldPlay_eq (xs : List Int) (m : Int) (qs : List Int) (hx : xs.length ≤ 1000) (hq : qs.length ≤ 1000) : F_spec_HoldPlay xs m qs = bif hvB xs m qs then some (hpA m qs xs qs.length, hpS m qs xs qs.length, m, true) else some ([], [], 0, false) := by
 unfold F_spec_HoldPlay
 refine jn_is (fun J => J (!(hvB xs m qs))) (fun J => ?_) ?_
 ·rw [bnd1_eq (sGood_eq xs m qs hx hq)]
  unfold hvB
  cases gdH xs m qs with
  | false => rfl
  | true =>
   rw [Bool.not_true, ite_f rfl, bnd1_eq (sOpenL_eq xs m (by omega)), Bool.true_and]
   congr 1
   by_cases c : (openN xs).length ≤ 8
   ·rw [decide_eq_true c, decide_eq_false (by omega)]; rfl
   ·rw [decide_eq_false c, decide_eq_true (by omega)]; rfl
 ·cases hv : hvB xs m qs with
  | false => rfl
  | true =>
   obtain ⟨hg, hn, hq⟩ := hvB_in hv
   have hs := state_len hn.1
   obtain ⟨L, e, hL, hl⟩ := sNeeds_ok (p := m.toNat + 1) ⟨by omega, by omega⟩
   rw [show ((m.toNat + 1 : Nat) : Int) = m + 1 by omega] at e
   rw [Bool.not_true, ite_f rfl, chk_pos (by unfold I64; omega), bnd1_eq e, chk_pos (by omega), cond_true]
   refine jn_is (fun J => J (hpS m qs xs qs.length) (hpA m qs xs qs.length)) (fun J => ?_) rfl
   refine loop_up (fun n i (s : List Int × List Bool) => F_spec_HoldPlay_L1 m qs L J n s.1 s.2 i) ((qs.length : Nat) : Int) (fun i => (hpS m qs xs i.toNat, hpA m qs xs i.toNat)) _ ?_ ?_ (by omega) fuel (by have := fuel_ge; omega)
   ·intro n i i0 i1
    obtain ⟨k, rfl⟩ := int_nat i0
    have e1 : ((k : Int) + 1).toNat = k + 1 := by omega
    have hk := okN_hp (qs := qs) hn k
    simp only [e1, Int.toNat_natCast]
    rw [F_spec_HoldPlay_L1, ite_t (decide_eq_true i1), chk_pos ⟨i0, i1⟩, Int.toNat_natCast, bnd1_eq (sHold0_eq hk hL hl), hpA_len, chk_pos ⟨by omega, by simp only [maxLen]; omega⟩, chk_pos (okS_of hk.1), chk_pos (by unfold I64; omega), hpA_succ, hpS]
   ·intro n
    simp only [Int.toNat_natCast]
    rw [F_spec_HoldPlay_L1, ite_f (decide_eq_false (by omega))]
def haB (xs : List Int) (m q : Int) : Bool := isStateN xs m && (isQ ((xs.length : Nat) : Int) q && decide ((openN xs).length ≤ 8))
def haV (xs : List Int) (m q : Int) : Bool := bif haB xs m q then hdB m q xs else false
theorem iHoldAnswer_eq (xs : List Int) (m q : Int) (hx : xs.length ≤ 1000) : F_impl_HoldAnswer xs m q = some (haV xs m q, haB xs m q) := by
 unfold F_impl_HoldAnswer haV
 have eg : gdH xs m [q] = (isStateN xs m && isQ ((xs.length : Nat) : Int) q) := by
  unfold gdH
  simp
 refine jn_is (fun J => J (!(haB xs m q))) (fun J => ?_) ?_
 ·rw [bnd1_eq (iListed_eq xs m [q] hx), eg]
  unfold haB
  cases isStateN xs m with
  | false => rfl
  | true =>
   cases isQ ((xs.length : Nat) : Int) q with
   | false => rfl
   | true =>
    rw [Bool.true_and, Bool.not_true, ite_f rfl, chk_pos (by omega), Bool.true_and, Bool.true_and]
    congr 1
    by_cases c : (openN xs).length ≤ 8
    ·rw [decide_eq_true c, decide_eq_false (by omega)]; rfl
    ·rw [decide_eq_false c, decide_eq_true (by omega)]; rfl
 ·cases hv : haB xs m q with
  | false => rfl
  | true =>
   unfold haB at hv
   rw [Bool.and_eq_true, Bool.and_eq_true, decide_eq_true_iff] at hv
   obtain ⟨l, e, hl⟩ := iNeeder_ok
   rw [Bool.not_true, ite_f rfl, bnd1_eq e, bnd1_eq (iHold0_eq hl ⟨hv.1, cts_Vls hv.1 hv.2.2⟩)]
   rfl
theorem sHoldAnswer_eq (xs : List Int) (m q : Int) (hx : xs.length ≤ 1000) : F_spec_HoldAnswer xs m q = some (haV xs m q, haB xs m q) := by
 unfold F_spec_HoldAnswer haV
 refine jn_is (fun J => J (!(haB xs m q))) (fun J => ?_) ?_
 ·rw [chk_pos (by omega)]
  unfold haB
  cases isStateN xs m with
  | false => rfl
  | true =>
   cases isQ ((xs.length : Nat) : Int) q with
   | false => rfl
   | true =>
    rw [Bool.not_true, ite_f rfl, ite_f rfl, bnd1_eq (sOpenL_eq xs m (by omega)), Bool.true_and, Bool.true_and]
    congr 1
    by_cases c : (openN xs).length ≤ 8
    ·rw [decide_eq_true c, decide_eq_false (by omega)]; rfl
    ·rw [decide_eq_false c, decide_eq_true (by omega)]; rfl
 ·cases hv : haB xs m q with
  | false => rfl
  | true =>
   unfold haB at hv
   rw [Bool.and_eq_true, Bool.and_eq_true, decide_eq_true_iff] at hv
   have hs := state_len hv.1
   obtain ⟨L, e, hL, hl⟩ := sNeeds_ok (p := m.toNat + 1) ⟨by omega, by omega⟩
   rw [show ((m.toNat + 1 : Nat) : Int) = m + 1 by omega] at e
   rw [Bool.not_true, ite_f rfl, chk_pos (by unfold I64; omega), bnd1_eq e, bnd1_eq (sHold0_eq ⟨hv.1, cts_Vls hv.1 hv.2.2⟩ hL hl)]
   rfl
def seA (qs : List Int) (s : Int) (k : Nat) : List Bool := (List.range k).map fun (i : Nat) => hasB (qs.getD i 0) s
theorem seA_len {qs : List Int} {s : Int} {k : Nat} : (seA qs s k).length = k := by simp [seA]
theorem seA_succ {qs : List Int} {s : Int} {k : Nat} : seA qs s (k + 1) = seA qs s k ++ [hasB (qs.getD k 0) s] := by unfold seA; rw [List.range_succ, List.map_append]; rfl
theorem seA_at {qs : List Int} {s : Int} {k i : Nat} (h : i < k) : (seA qs s k).getD i false = hasB (qs.getD i 0) s := by
 unfold seA; rw [List.getD_eq_getElem?_getD, List.getElem?_map, List.getElem?_range h]; rfl
def seB (xs : List Int) (m : Int) (qs : List Int) (s : Int) : Bool := gdH xs m qs && opB xs s
def seV (xs : List Int) (m : Int) (qs : List Int) (s : Int) : List Bool := bif seB xs m qs s then seA qs s qs.length else []
theorem opB_in {xs : List Int} {s : Int} (h : opB xs s = true) : ∃ k : Nat, s = (k : Int) ∧ k < xs.length ∧ 0 ≤ xs.getD k 0 := by
 unfold opB at h
 simp only [Bool.and_eq_true, decide_eq_true_eq] at h
 obtain ⟨k, rfl⟩ := int_nat h.1.1
 exact ⟨k, rfl, by omega, by simpa using h.2⟩
theorem opB_of {xs : List Int} {k : Nat} (h1 : k < xs.length) (h2 : 0 ≤ xs.getD k 0) : opB xs (k : Int) = true := by
 unfold opB
 rw [Int.toNat_natCast, decide_eq_true (by omega), decide_eq_true (by omega), decide_eq_true h2]; rfl
theorem iSecretAnswers_eq (xs : List Int) (m : Int) (qs : List Int) (s : Int) (hx : xs.length ≤ 1000) : F_impl_SecretAnswers xs m qs s = some (seV xs m qs s, seB xs m qs s) := by
 unfold F_impl_SecretAnswers seV
 refine jn_is (fun J => J (!(seB xs m qs s))) (fun J => ?_) ?_
 ·rw [bnd1_eq (iListed_eq xs m qs hx)]
  unfold seB
  cases hg : gdH xs m qs with
  | false => rfl
  | true =>
   have := (gdH_in hg).2.1.1
   rw [Bool.not_true, ite_f rfl, chk_pos (by omega), Bool.true_and]
 ·cases hv : seB xs m qs s with
  | false => rfl
  | true =>
   have hv2 := hv
   unfold seB at hv2
   rw [Bool.and_eq_true] at hv2
   obtain ⟨k, rfl, h1, h2⟩ := opB_in hv2.2
   have hq := (gdH_in hv2.1).2.2.1
   rw [Bool.not_true, ite_f rfl, cond_true]
   refine jn_is (fun J => J (seA qs k qs.length)) (fun J => ?_) rfl
   refine loop_up (fun n i (o : List Bool) => F_impl_SecretAnswers_L1 qs (k : Int) J n o i) ((qs.length : Nat) : Int) (fun i => seA qs k i.toNat) _ ?_ ?_ (by omega) fuel (by have := fuel_ge; omega)
   ·intro n i i0 i1
    obtain ⟨j, rfl⟩ := int_nat i0
    have e1 : ((j : Int) + 1).toNat = j + 1 := by omega
    simp only [e1, Int.toNat_natCast]
    rw [F_impl_SecretAnswers_L1, ite_t (decide_eq_true i1), chk_pos ⟨i0, i1⟩, chk_pos (by omega), seA_len, chk_pos ⟨by omega, by simp only [maxLen]; omega⟩, chk_pos (by unfold I64; omega), seA_succ, Int.toNat_natCast]
   ·intro n
    simp only [Int.toNat_natCast]
    rw [F_impl_SecretAnswers_L1, ite_f (decide_eq_false (by omega))]
theorem sSecret_eq (xs : List Int) (m : Int) (qs : List Int) (s : Int) (hx : xs.length ≤ 1000) (hq : qs.length ≤ 1000) : F_spec_l8Secret xs m qs s = some (seB xs m qs s) := by
 unfold F_spec_l8Secret seB
 rw [bnd1_eq (sGood_eq xs m qs hx hq)]
 cases gdH xs m qs with
 | false => rfl
 | true =>
  rw [ite_t rfl, chk_pos (by unfold I64; omega), Bool.true_and]
  simp only [nam]
  unfold opB
  by_cases c : s ≥ 0 ∧ s ≤ ((xs.length : Nat) : Int) - 1
  ·rw [ite_t (by rw [decide_eq_true c.1, decide_eq_true c.2]; rfl), chk_pos ⟨c.1, by omega⟩, decide_eq_true (show 0 ≤ s from c.1), decide_eq_true c.2]; rfl
  ·have : (decide (0 ≤ s) && decide (s ≤ ((xs.length : Nat) : Int) - 1)) = false := by
    rw [Bool.and_eq_false_iff, decide_eq_false_iff_not, decide_eq_false_iff_not]; omega
   rw [ite_f this, this]; rfl
theorem sSecretAnswers_eq (xs : List Int) (m : Int) (qs : List Int) (s : Int) (hx : xs.length ≤ 1000) (hq : qs.length ≤ 1000) : F_spec_SecretAnswers xs m qs s = some (seV xs m qs s, seB xs m qs s) := by
 unfold F_spec_SecretAnswers seV
 rw [bnd1_eq (sSecret_eq xs m qs s hx hq)]
 cases hv : seB xs m qs s with
 | false => rfl
 | true =>
  have hv2 := hv
  unfold seB at hv2
  rw [Bool.and_eq_true] at hv2
  obtain ⟨k, rfl, h1, h2⟩ := opB_in hv2.2
  have hq8 := (gdH_in hv2.1).2.2.1
  have hx12 := (gdH_in hv2.1).2.1.1
  rw [Bool.not_true, ite_f rfl, cond_true]
  refine jn_is (fun J => J (seA qs k qs.length)) (fun J => ?_) rfl
  refine loop_up (fun n i (o : List Bool) => F_spec_SecretAnswers_L1 qs (k : Int) J n o i) ((qs.length : Nat) : Int) (fun i => seA qs k i.toNat) _ ?_ ?_ (by omega) fuel (by have := fuel_ge; omega)
  ·intro n i i0 i1
   obtain ⟨j, rfl⟩ := int_nat i0
   have e1 : ((j : Int) + 1).toNat = j + 1 := by omega
   simp only [e1, Int.toNat_natCast (n := j)]
   rw [F_spec_SecretAnswers_L1, ite_t (decide_eq_true i1), chk_pos ⟨i0, i1⟩, chk_pos ⟨by omega, by omega⟩]
   simp only [nam]
   rw [seA_len, chk_pos ⟨by omega, by simp only [maxLen]; omega⟩, chk_pos (by unfold I64; omega), has_raw (by omega) (by omega), seA_succ, Int.toNat_natCast (n := j)]
  ·intro n
   simp only [Int.toNat_natCast]
   rw [F_spec_SecretAnswers_L1, ite_f (decide_eq_false (by omega))]
def csV (xs : List Int) (m : Int) (qs : List Int) (s : Int) : Int := bif seB xs m qs s then wtN m ((qs.length : Nat) : Int) (xs.getD s.toNat 0) else 0
theorem iCountSecret_eq (xs : List Int) (m : Int) (qs : List Int) (s : Int) (hx : xs.length ≤ 1000) : F_impl_CountSecretAnswers xs m qs s = some (csV xs m qs s, seB xs m qs s) := by
 unfold F_impl_CountSecretAnswers csV
 refine jn_is (fun J => J (!(seB xs m qs s))) (fun J => ?_) ?_
 ·rw [bnd1_eq (iListed_eq xs m qs hx)]
  unfold seB
  cases hg : gdH xs m qs with
  | false => rfl
  | true =>
   have := (gdH_in hg).2.1.1
   rw [Bool.not_true, ite_f rfl, chk_pos (by omega), Bool.true_and]
 ·cases hv : seB xs m qs s with
  | false => rfl
  | true =>
   have hv2 := hv
   unfold seB at hv2
   rw [Bool.and_eq_true] at hv2
   obtain ⟨k, rfl, h1, h2⟩ := opB_in hv2.2
   have hg := gdH_in hv2.1
   rw [Bool.not_true, ite_f rfl, cond_true, bnd1_eq (iWeight_eq hg.2.1 (by omega) (by omega) h1), Int.toNat_natCast]
theorem sCountSecret_eq (xs : List Int) (m : Int) (qs : List Int) (s : Int) (hx : xs.length ≤ 1000) (hq : qs.length ≤ 1000) : F_spec_CountSecretAnswers xs m qs s = some (csV xs m qs s, seB xs m qs s) := by
 unfold F_spec_CountSecretAnswers csV
 rw [bnd1_eq (sSecret_eq xs m qs s hx hq)]
 cases hv : seB xs m qs s with
 | false => rfl
 | true =>
  have hv2 := hv
  unfold seB at hv2
  rw [Bool.and_eq_true] at hv2
  obtain ⟨k, rfl, h1, h2⟩ := opB_in hv2.2
  obtain ⟨hs, hok, hq8, _⟩ := gdH_in hv2.1
  have hxk := hok.2.2.2 k
  have hm2 := hok.2.2.1
  obtain ⟨d, hd⟩ := int_nat (i := m - xs.getD k 0) (by omega)
  rw [Bool.not_true, ite_f rfl, cond_true, Int.toNat_natCast]
  have hw : wtN m ((qs.length : Nat) : Int) (xs.getD k 0) = ((baP qs.length (min d qs.length + 1) : Nat) : Int) := by
   unfold wtN
   rw [if_neg (by omega), hd, Int.toNat_natCast, Int.toNat_natCast, baP_ba]
   by_cases c : d ≤ qs.length
   ·rw [Nat.min_eq_left c]
   ·rw [Nat.min_eq_right (by omega), ba_over _ (by omega)]
  rw [hw]
  refine jn_is (fun J => J ((baP qs.length (min d qs.length + 1) : Nat) : Int)) (fun J => ?_) rfl
  have key := loop_up (fun n i (o : Int × Int) => F_spec_CountSecretAnswers_L1 xs m qs (k : Int) J n i o.1 o.2) ((min d qs.length + 1 : Nat) : Int) (fun i => ((ch qs.length i.toNat : Nat), (baP qs.length i.toNat : Nat))) (J ((baP qs.length (min d qs.length + 1) : Nat) : Int)) ?_ ?_ (by omega) fuel (by have := fuel_ge; omega)
  ·have e0 : ((ch qs.length (Int.toNat 0) : Nat) : Int) = 1 := by rw [show Int.toNat 0 = 0 from rfl, ch_zero]; rfl
   have e00 : ((baP qs.length (Int.toNat 0) : Nat) : Int) = 0 := rfl
   have key2 : F_spec_CountSecretAnswers_L1 xs m qs (k : Int) J fuel 0 ((ch qs.length (Int.toNat 0) : Nat) : Int) ((baP qs.length (Int.toNat 0) : Nat) : Int) = J ((baP qs.length (min d qs.length + 1) : Nat) : Int) := key
   rw [e0, e00] at key2
   exact key2
  ·intro n i i0 i1
   obtain ⟨j, rfl⟩ := int_nat i0
   have e1 : ((j : Int) + 1).toNat = j + 1 := by omega
   simp only [e1, Int.toNat_natCast (n := j)]
   have b1 := baP_le qs.length j
   have b2 := ch_le qs.length j
   have b3 : 2 ^ qs.length ≤ 2 ^ 8 := Nat.pow_le_pow_right (by decide) hq8
   rw [F_spec_CountSecretAnswers_L1]
   refine jn_is (fun J2 => J2 true) (fun J2 => ?_) ?_
   ·rw [chk_pos ⟨by omega, by omega⟩, Int.toNat_natCast, hd, chk_pos (by unfold I64; omega), ite_t (decide_eq_true (by omega)), decide_eq_true (by omega)]
   ·rw [ite_t rfl, chk_pos (by unfold I64; omega)]
    have hjl : j ≤ qs.length := by omega
    by_cases c : j < qs.length
    ·obtain ⟨w1, w2, w3, w4⟩ := ways_step (n := qs.length) (k := j) (by omega) c
     simp only [nam]
     rw [chk_pos w1, chk_pos w2, chk_pos (by unfold I64; omega), w3, chk_pos w4, chk_pos (by omega)]
     show F_spec_CountSecretAnswers_L1 xs m qs (k : Int) J n _ _ _ = _
     congr 1
    ·have e : j = qs.length := by omega
     subst e
     simp only [nam]
     rw [Int.sub_self, Int.mul_zero, Int.zero_tdiv, chk_pos (by unfold I64; omega), chk_pos (by unfold I64; omega), chk_pos (by unfold I64; omega), chk_pos (by unfold I64; omega), chk_pos (by omega), ch_over qs.length (qs.length + 1) (by omega)]
     show F_spec_CountSecretAnswers_L1 xs m qs (k : Int) J n _ _ _ = _
     congr 1
  ·intro n
   simp only [Int.toNat_natCast]
   rw [F_spec_CountSecretAnswers_L1]
   refine jn_is (fun J2 => J2 false) (fun J2 => ?_) ?_
   ·rw [chk_pos ⟨by omega, by omega⟩, Int.toNat_natCast, hd, chk_pos (by unfold I64; omega)]
    by_cases c : d < qs.length
    ·rw [ite_f (decide_eq_false (by omega))]
    ·by_cases c2 : ((min d qs.length + 1 : Nat) : Int) ≤ (d : Int)
     ·rw [ite_t (decide_eq_true c2), decide_eq_false (by omega)]
     ·rw [ite_f (decide_eq_false c2)]
   ·rw [ite_f rfl]
def smZ (f : Nat → Int) : Nat → Int
 | 0 => 0
 | k + 1 => smZ f k + f k
theorem smZ_congr {f g : Nat → Int} : ∀ k, (∀ i, i < k → f i = g i) → smZ f k = smZ g k
 | 0, _ => rfl
 | k + 1, h => by rw [smZ, smZ, smZ_congr k (fun i hi => h i (by omega)), h k (by omega)]
theorem smZ_add (f : Nat → Int) (a : Nat) : ∀ b, smZ f (a + b) = smZ f a + smZ (fun i => f (a + i)) b
 | 0 => by simp [smZ]
 | b + 1 => by rw [← Nat.add_assoc, smZ, smZ, smZ_add f a b]; omega
theorem smZ_both (f g : Nat → Int) : ∀ k, smZ f k + smZ g k = smZ (fun i => f i + g i) k
 | 0 => rfl
 | k + 1 => by rw [smZ, smZ, smZ, ← smZ_both f g k]; omega
def lbA (c : Int) (k : Nat) : List Bool := (List.range k).map fun (i : Nat) => hasB c (i : Int)
theorem lbA_len {c : Int} {k : Nat} : (lbA c k).length = k := by simp [lbA]
theorem lbA_succ {c : Int} {k : Nat} : lbA c (k + 1) = lbA c k ++ [hasB c (k : Int)] := by unfold lbA; rw [List.range_succ, List.map_append]; rfl
theorem lbA_at {c : Int} {k i : Nat} (h : i < k) : (lbA c k).getD i false = hasB c (i : Int) := by
 unfold lbA; rw [List.getD_eq_getElem?_getD, List.getElem?_map, List.getElem?_range h]; rfl
theorem eP_congr {m : Int} {qs xs : List Int} {a b : List Bool} : ∀ k, (∀ i, i < k → a.getD i false = b.getD i false) → eP m qs a xs k = eP m qs b xs k
 | 0, _ => rfl
 | k + 1, h => by rw [eP, eP, eP_congr k (fun i hi => h i (by omega)), h k (by omega)]
theorem bit_low {c j i : Nat} (hi : i < j) (hj : j ≤ 20) : hasB ((2 ^ j + c : Nat) : Int) (i : Int) = hasB (c : Int) (i : Int) := by
 rw [has_nat (by omega), has_nat (by omega), Nat.testBit_two_pow_add_gt hi]
theorem bit_top {c j : Nat} (hc : c < 2 ^ j) (hj : j ≤ 20) : hasB ((2 ^ j + c : Nat) : Int) (j : Int) = true ∧ hasB (c : Int) (j : Int) = false := by
 rw [has_nat (by omega), has_nat (by omega), Nat.testBit_two_pow_add_eq, Nat.testBit_lt_two_pow hc]
 exact ⟨rfl, rfl⟩
theorem sum_lists {xs : List Int} {m : Int} {qs : List Int} (h : okS xs m) (hq : qs.length ≤ 20) : ∀ j, j ≤ qs.length → smZ (fun c => wtA (eP m qs (lbA (c : Int) qs.length) xs j) m ((qs.length - j : Nat) : Int)) (2 ^ j) = wtA xs m ((qs.length : Nat) : Int)
 | 0, _ => by
  show 0 + wtA xs m _ = _
  rw [Nat.sub_zero]; omega
 | j + 1, hj => by
  rw [← sum_lists h hq j (by omega), Nat.pow_succ, Nat.mul_two, smZ_add, smZ_both]
  refine smZ_congr _ fun c hc => ?_
  have e1 : eP m qs (lbA ((2 ^ j + c : Nat) : Int) qs.length) xs j = eP m qs (lbA (c : Int) qs.length) xs j := eP_congr j fun i hi => by
   rw [lbA_at (by omega), lbA_at (by omega), bit_low hi (by omega)]
  have ⟨b1, b2⟩ := bit_top hc (j := j) (by omega)
  have hb := wt_both (m := m) (q := qs.getD j 0) (k := ((qs.length - j : Nat) : Int)) (okS_eP (qs := qs) (av := lbA (c : Int) qs.length) h j) (by omega)
  rw [eP, eP, e1, lbA_at (by omega), lbA_at (by omega), b1, b2, ← hb]
  rw [show (((qs.length - (j + 1) : Nat)) : Int) = ((qs.length - j : Nat) : Int) - 1 by omega]
  omega
theorem wt_zero {xs : List Int} {m : Int} : ∀ k, wtP xs m 0 k = ((openP xs k).length : Int)
 | 0 => rfl
 | k + 1 => by
  rw [wtP, wt_zero k]
  unfold wtN
  by_cases c : xs.getD k 0 ≥ 0
  ·rw [if_neg (by omega), open_yes c, List.length_append, List.length_singleton]
   have : ba (0 : Int).toNat (m - xs.getD k 0).toNat = 1 := by
    show ba 0 _ = 1
    rw [ba_over 0 (Nat.zero_le _)]; rfl
   rw [this]; omega
  ·rw [if_pos (by omega), open_no c]; omega
theorem open_sum {xs : List Int} {m : Int} {qs : List Int} (h : okS xs m) (hq : qs.length ≤ 20) : smZ (fun c => (((openN (endL m qs (lbA (c : Int) qs.length) xs)).length : Nat) : Int)) (2 ^ qs.length) = wtA xs m ((qs.length : Nat) : Int) := by
 rw [← sum_lists h hq qs.length (Nat.le_refl _)]
 refine smZ_congr _ fun c _ => ?_
 rw [Nat.sub_self]
 unfold wtA endL openN
 exact (wt_zero _).symm
def sumF (f : Int → Int) (l : List Int) : Nat → Int
 | 0 => 0
 | i + 1 => sumF f l i + f (l.getD i 0)
theorem sumF_app (f : Int → Int) (l : List Int) (x : Int) : ∀ i, i ≤ l.length → sumF f (l ++ [x]) i = sumF f l i
 | 0, _ => rfl
 | i + 1, h => by
  rw [sumF, sumF, sumF_app f l x i (by omega), List.getD_eq_getElem?_getD, List.getElem?_append_left (by omega), ← List.getD_eq_getElem?_getD]
theorem open_wt {xs : List Int} {m q : Int} : ∀ k, sumF (fun s => wtN m q (xs.getD s.toNat 0)) (openP xs k) (openP xs k).length = wtP xs m q k
 | 0 => rfl
 | k + 1 => by
  by_cases c : xs.getD k 0 ≥ 0
  ·rw [open_yes c, List.length_append, List.length_singleton, sumF, sumF_app _ _ _ _ (Nat.le_refl _), open_wt k, wtP]
   simp
  ·rw [open_no c, open_wt k, wtP]
   unfold wtN
   rw [if_pos (by omega)]; omega
theorem sumF_in {f : Int → Int} {l : List Int} {B : Int} (h : ∀ x, 0 ≤ f x ∧ f x ≤ B) : ∀ i : Nat, 0 ≤ sumF f l i ∧ sumF f l i ≤ B * i
 | 0 => by simp [sumF]
 | i + 1 => by
  have := sumF_in (l := l) h i
  have := h (l.getD i 0)
  rw [sumF, show B * ((i + 1 : Nat) : Int) = B * (i : Int) + B by rw [Int.natCast_add, Int.mul_add]; simp]
  omega
theorem smZ_in {f : Nat → Int} {B : Int} (h : ∀ i, 0 ≤ f i ∧ f i ≤ B) : ∀ k : Nat, 0 ≤ smZ f k ∧ smZ f k ≤ B * k
 | 0 => by simp [smZ]
 | k + 1 => by
  have := smZ_in h k
  have := h k
  rw [smZ, show B * ((k + 1 : Nat) : Int) = B * (k : Int) + B by rw [Int.natCast_add, Int.mul_add]; simp]
  omega
theorem end_state2 {xs : List Int} {m : Int} {qs : List Int} {av : List Bool} (h : isStateN xs m = true) : isStateN (endL m qs av xs) m = true :=
 isState_ok (okS_eP (okS_of h) _) (by unfold endL; rw [eP_len]; exact (isStateN_iff.1 h).1.1)
theorem secret_stays {xs : List Int} {m : Int} {qs : List Int} {s : Nat} (hs : s < xs.length) (av : List Bool) : ∀ k, k ≤ qs.length → (∀ i, i < k → av.getD i false = hasB (qs.getD i 0) (s : Int)) → (eP m qs av xs k).getD s 0 = xs.getD s 0
 | 0, _, _ => rfl
 | k + 1, hk, h => by
  rw [eP, ansN_at (by rw [eP_len]; exact hs), h k (by omega)]
  have : falseB (qs.getD k 0) (hasB (qs.getD k 0) (s : Int)) (s : Int) = false := by unfold falseB; rw [beq_self_eq_true]; rfl
  rw [this, lie_no rfl]
  exact secret_stays hs av k (by omega) fun i hi => h i (by omega)
theorem drawAL_ok {bs : List Int} (hy : okY bs) : ∃ xs m qs av, F_spec_DrawAnswerList bs = some (xs, m, qs, av) ∧ xs.length ≤ 13 ∧ qs.length ≤ 20 ∧ av.length ≤ 21 := by
 unfold F_spec_DrawAnswerList
 obtain ⟨xs, m, qs, p, s, e, h1, h2, h3, h4⟩ := fixed2_ok (s := 0) (p := 0) hy (by omega) (by omega)
 rw [bnd6_eq e]
 let Q : Option (List Int × Int × List Int × List Bool) → Prop := fun o => ∃ xs m qs av, o = some (xs, m, qs, av) ∧ xs.length ≤ 13 ∧ qs.length ≤ 20 ∧ av.length ≤ 21
 show Q _
 unfold jn
 refine loop_m (fun n (z : Int × Int × List Bool × Int) => F_spec_DrawAnswerList_L1 qs _ n bs z.1 z.2.1 z.2.2.1 z.2.2.2) (fun z => 0 ≤ z.2.2.2 ∧ z.2.2.2 ≤ qs.length ∧ (z.2.2.1.length : Int) = z.2.2.2 ∧ 0 ≤ z.1 ∧ z.1 ≤ 2000 + 4 * z.2.2.2) (fun z => (qs.length - z.2.2.2.toNat)) Q ?_ fuel (p, s, [], 0) ⟨by dsimp only; omega, by dsimp only; omega, rfl, h3, by dsimp only; omega⟩ (by have := fuel_ge; dsimp only; omega)
 rintro n ⟨pp, ss, av, i⟩ ⟨i0, i1, i2, i3, i4⟩
 dsimp only at i0 i1 i2 i3 i4 ⊢
 rw [F_spec_DrawAnswerList_L1]
 by_cases hi : i < (qs.length : Int)
 ·obtain ⟨b, p2, s2, e2, b1, b2⟩ := one_ok (s := ss) (n := 2) hy (p := pp) i3 (by omega)
  rw [ite_t (decide_eq_true hi), bnd4_eq e2, chk_pos ⟨by omega, by simp only [maxLen]; omega⟩, chk_pos (by unfold I64; omega)]
  exact .inl ⟨(p2, s2, av ++ [b], i + 1), ⟨by dsimp only; omega, by dsimp only; omega, by simp only [List.length_append, List.length_singleton]; omega, by dsimp only; omega, by dsimp only; omega⟩, by dsimp only; omega, rfl⟩
 ·right
  rw [ite_f (decide_eq_false hi)]
  obtain ⟨b, p2, s2, e2, b1, b2⟩ := one_ok (s := ss) (n := 24) hy (p := pp) i3 (by omega)
  rw [bnd4_eq e2]
  cases b with
  | true =>
   rw [ite_t rfl, chk_pos ⟨by omega, by simp only [maxLen]; omega⟩]
   exact ⟨_, _, _, _, rfl, h1, h2, by simp only [List.length_append, List.length_singleton]; omega⟩
  | false => exact ⟨_, _, _, _, rfl, h1, h2, by omega⟩
theorem drawHP_ok {bs : List Int} (hy : okY bs) : ∃ xs m qs, F_spec_DrawHoldPlay bs = some (xs, m, qs) ∧ xs.length ≤ 13 ∧ qs.length ≤ 20 := by
 unfold F_spec_DrawHoldPlay F_spec_DrawCountFair
 obtain ⟨xs, m, qs, p, s, e, h1, h2⟩ := fixed_ok (s := 0) (p := 0) hy (by omega) (by omega)
 rw [bnd6_eq e]
 exact ⟨_, _, _, rfl, h1, h2⟩
theorem drawHA_ok {bs : List Int} (hy : okY bs) : ∃ xs m q, F_spec_DrawHoldAnswer bs = some (xs, m, q) ∧ xs.length ≤ 13 := by
 unfold F_spec_DrawHoldAnswer
 obtain ⟨xs, m, q, e, h, _⟩ := drawVain_ok hy
 rw [bnd3_eq e]
 exact ⟨_, _, _, rfl, h.2.2.1⟩
theorem drawSA_ok {bs : List Int} (hy : okY bs) : ∃ xs m qs s, F_spec_DrawSecretAnswers bs = some (xs, m, qs, s) ∧ xs.length ≤ 13 ∧ qs.length ≤ 20 := by
 unfold F_spec_DrawSecretAnswers
 obtain ⟨xs, m, qs, p, s, e, h1, h2, h3, h4⟩ := fixed2_ok (s := 0) (p := 0) hy (by omega) (by omega)
 have a1 := maxN_in (a := 1) (b := ((List.length xs : Nat) : Int))
 obtain ⟨u, p3, s3, e3, w0, w1, w2, w3⟩ := pick_ok (s := s) (p := p) (n := maxN 1 ((List.length xs : Nat) : Int)) hy (by omega) (by omega)
 obtain ⟨v, p4, s4, e4, y0, y1, y2, y3⟩ := pick_ok (s := s3) (p := p3) (n := 24) hy (by omega) (by omega)
 have w3 := w3 (by omega)
 have y3 := y3 (by omega)
 have hd : 0 ≤ Int.tdiv v 23 ∧ Int.tdiv v 23 ≤ 1 := by rw [Int.tdiv_eq_ediv_of_nonneg (by omega)]; omega
 rw [bnd6_eq e, bnd4_eq e3, bnd4_eq e4, chk_pos (by unfold I64; omega), chk_pos (by unfold I64; omega)]
 exact ⟨_, _, _, _, rfl, h1, h2⟩
theorem iAreCounts_eq {xs : List Int} (h : Vls xs) : F_impl_AreCounts xs = some true := by
 unfold F_impl_AreCounts
 have hl := h.1
 have hb := Vls_bd h
 rw [ite_t (by rw [decide_eq_true (by omega), decide_eq_true (by omega)]; rfl), chk_pos (by omega)]
 have hany : (List.any xs fun x => !(decide (0 ≤ x) && decide (x ≤ 8))) = false := by
  rw [List.any_eq_false]
  intro x hx
  obtain ⟨i, hi, rfl⟩ := List.getElem_of_mem hx
  have h8 := hb.2.1 i
  have h0 := hb.2.2 i
  rw [List.getD_eq_getElem?_getD, List.getElem?_eq_getElem hi] at h8 h0
  simp only [Option.getD_some] at h8 h0
  rw [decide_eq_true h0, decide_eq_true h8]; simp
 have hin : ∀ i, i ≤ xs.length → 0 ≤ sumP xs i ∧ sumP xs i ≤ 8 * i := sumP_in (B := 8) fun x hx => by
  obtain ⟨i, hi, rfl⟩ := List.getElem_of_mem hx
  have h8 := hb.2.1 i
  have h0 := hb.2.2 i
  rw [List.getD_eq_getElem?_getD, List.getElem?_eq_getElem hi] at h8 h0
  exact ⟨h0, h8⟩
 have es : F_impl_sum xs = some (sum3 xs) := by
  unfold F_impl_sum
  refine jn_is (fun J => J (sum3 xs)) (fun J => ?_) rfl
  rw [← sumP_eq hl]
  refine loop_up (fun n i (s : Int) => F_impl_sum_L1 xs J n i s) ((xs.length : Nat) : Int) (fun i => sumP xs i.toNat) _ ?_ ?_ (by omega) fuel (by have := fuel_ge; omega)
  ·intro n i i0 i1
   obtain ⟨k, rfl⟩ := int_nat i0
   have e1 : ((k : Int) + 1).toNat = k + 1 := by omega
   have h1 := hin k (by omega)
   have h2 := hb.2.1 k
   have h3 := hb.2.2 k
   simp only [e1, Int.toNat_natCast]
   rw [F_impl_sum_L1, ite_t (decide_eq_true i1), chk_pos ⟨i0, i1⟩, Int.toNat_natCast, chk_pos (by unfold I64; omega), chk_pos (by unfold I64; omega), sumP]
  ·intro n
   simp only [Int.toNat_natCast]
   rw [F_impl_sum_L1, ite_f (decide_eq_false (by omega))]
 have h4 := h.2.2.2.2
 rw [hany, Bool.not_false, ite_t rfl, bnd1_eq es, decide_eq_true (by unfold sum3; omega)]
theorem iNeedOf_eq {xs : List Int} (h : Vls xs) : F_impl_NeedOf xs = some (ndL xs, true) := by
 unfold F_impl_NeedOf
 obtain ⟨l, e, hl⟩ := iNeeder_ok
 rw [bnd1_eq (iAreCounts_eq h), Bool.not_true, ite_f rfl, bnd1_eq e, bnd1_eq (iOf_eq hl h)]
def alB (xs : List Int) (m : Int) (qs : List Int) (av : List Bool) : Bool := gdH xs m qs && (av.length == qs.length)
theorem iAL_eq (xs : List Int) (m : Int) (qs : List Int) (av : List Bool) (hx : xs.length ≤ 1000) (hq : qs.length ≤ 1000) : F_impl_AnswerList xs m qs av = bif alB xs m qs av then some (endL m qs av xs, m, true) else some ([], 0, false) := by
 cases hv : alB xs m qs av with
 | true =>
  unfold alB at hv
  rw [Bool.and_eq_true, beq_iff_eq] at hv
  rw [iAnswerList_eq hv.1 hv.2]; rfl
 | false =>
  unfold F_impl_AnswerList
  refine jn_is (fun J => J true) (fun J => ?_) rfl
  rw [bnd1_eq (iListed_eq xs m qs hx)]
  unfold alB at hv
  cases hg : gdH xs m qs with
  | false => rfl
  | true =>
   rw [hg, Bool.true_and, beq_eq_false_iff_ne] at hv
   rw [Bool.not_true, ite_f rfl]
   congr 1
   rw [bne_iff_ne]; omega
theorem sAL_eq (xs : List Int) (m : Int) (qs : List Int) (av : List Bool) (hx : xs.length ≤ 1000) (hq : qs.length ≤ 1000) : F_spec_AnswerList xs m qs av = bif alB xs m qs av then some (endL m qs av xs, m, true) else some ([], 0, false) := by
 unfold F_spec_AnswerList
 refine jn_is (fun J => J (!(alB xs m qs av))) (fun J => ?_) ?_
 ·rw [bnd1_eq (sGood_eq xs m qs hx hq)]
  unfold alB
  cases hg : gdH xs m qs with
  | false => rfl
  | true =>
   rw [Bool.not_true, ite_f rfl, Bool.true_and]
   congr 1
   rw [Bool.eq_iff_iff, bne_iff_ne, Bool.not_eq_true', beq_eq_false_iff_ne]; omega
 ·cases hv : alB xs m qs av with
  | false => rfl
  | true =>
   unfold alB at hv
   rw [Bool.and_eq_true, beq_iff_eq] at hv
   have hg := gdH_in hv.1
   rw [Bool.not_true, ite_f rfl, chk_pos (by omega), bnd2_eq (sEnd_eq hg.2.1 hv.2 (by omega))]; rfl
theorem an_L1 {xs : List Int} {m : Int} {qs : List Int} (hg : gdH xs m qs = true) (J : Int → Option Bool) : F_laws_FnAnswerers_L1 xs m qs (openN xs) J fuel 0 0 = J (wtA xs m ((qs.length : Nat) : Int)) := by
 obtain ⟨hs, hok, hq, _⟩ := gdH_in hg
 have hx := hok.1
 have hol := openN_le xs
 have hin := sumF_in (f := fun s => wtN m ((qs.length : Nat) : Int) (xs.getD s.toNat 0)) (l := openN xs) (B := 1073741824) (fun x => wtN_in (by omega))
 have key := loop_up (fun n i (s : Int) => F_laws_FnAnswerers_L1 xs m qs (openN xs) J n i s) (((openN xs).length : Nat) : Int) (fun i => sumF (fun s => wtN m ((qs.length : Nat) : Int) (xs.getD s.toNat 0)) (openN xs) i.toNat) (J (wtA xs m ((qs.length : Nat) : Int))) ?_ ?_ (by omega) fuel (by have := fuel_ge; omega)
 ·exact key
 ·intro n i i0 i1
  obtain ⟨k, rfl⟩ := int_nat i0
  have e1 : ((k : Int) + 1).toNat = k + 1 := by omega
  have hk : k < (openN xs).length := by omega
  obtain ⟨v, v1, v2, v3⟩ := mem_open.1 (getD_mem (d := 0) hk)
  have hse : seB xs m qs ((openN xs).getD k 0) = true := by
   unfold seB
   rw [hg, Bool.true_and, v3]; exact opB_of v1 v2
  have h1 := hin k
  have h2 := hin (k + 1)
  rw [sumF] at h2
  simp only [e1, Int.toNat_natCast]
  rw [F_laws_FnAnswerers_L1, ite_t (decide_eq_true i1), chk_pos ⟨i0, i1⟩, Int.toNat_natCast, bnd2_eq (iCountSecret_eq xs m qs _ (by omega)), hse, Bool.not_true, ite_f rfl]
  unfold csV
  rw [hse, cond_true, chk_pos (by unfold I64; omega), chk_pos (by unfold I64; omega), sumF]
 ·intro n
  simp only [Int.toNat_natCast]
  rw [F_laws_FnAnswerers_L1, ite_f (decide_eq_false (by omega))]
  have := open_wt (xs := xs) (m := m) (q := ((qs.length : Nat) : Int)) xs.length
  unfold openN wtA
  rw [this]
theorem an_L3 {qs : List Int} {c : Int} (hq : qs.length ≤ 8) (J : List Bool → Option Bool) : F_laws_FnAnswerers_L3 qs c J fuel [] 0 = J (lbA c qs.length) := by
 have key := loop_up (fun n i (o : List Bool) => F_laws_FnAnswerers_L3 qs c J n o i) ((qs.length : Nat) : Int) (fun i => lbA c i.toNat) (J (lbA c qs.length)) ?_ ?_ (by omega) fuel (by have := fuel_ge; omega)
 ·exact key
 ·intro n i i0 i1
  obtain ⟨k, rfl⟩ := int_nat i0
  have e1 : ((k : Int) + 1).toNat = k + 1 := by omega
  simp only [e1, Int.toNat_natCast (n := k)]
  rw [F_laws_FnAnswerers_L3, ite_t (decide_eq_true i1), chk_pos ⟨i0, by omega⟩]
  simp only [nam]
  rw [lbA_len, chk_pos ⟨by omega, by simp only [maxLen]; omega⟩, chk_pos (by unfold I64; omega), has_raw i0 (by omega), lbA_succ]
 ·intro n
  simp only [Int.toNat_natCast]
  rw [F_laws_FnAnswerers_L3, ite_f (decide_eq_false (by omega))]
theorem an_L2 {xs : List Int} {m : Int} {qs : List Int} (hg : gdH xs m qs = true) (J : Int → Option Bool) : F_laws_FnAnswerers_L2 xs m qs J fuel 0 0 = J (wtA xs m ((qs.length : Nat) : Int)) := by
 obtain ⟨hs, hok, hq, _⟩ := gdH_in hg
 have hx := hok.1
 have hp : (2 : Nat) ^ qs.length ≤ 2 ^ 8 := Nat.pow_le_pow_right (by decide) hq
 have hp1 : 1 ≤ (2 : Nat) ^ qs.length := Nat.one_le_two_pow
 have pc : ((1 : Int) * 2 ^ Int.toNat ((List.length qs : Nat) : Int)) = ((2 ^ qs.length : Nat) : Int) := by rw [Int.toNat_natCast, Int.one_mul]; norm_cast
 let f : Nat → Int := fun c => (((openN (endL m qs (lbA (c : Int) qs.length) xs)).length : Nat) : Int)
 have hf : ∀ c, 0 ≤ f c ∧ f c ≤ 12 := fun c => by
  have := openN_le (endL m qs (lbA (c : Int) qs.length) xs)
  unfold endL at this
  rw [eP_len] at this
  show 0 ≤ (((openN (endL m qs (lbA (c : Int) qs.length) xs)).length : Nat) : Int) ∧ (((openN (endL m qs (lbA (c : Int) qs.length) xs)).length : Nat) : Int) ≤ 12
  unfold endL
  omega
 have hin := smZ_in hf
 rw [← open_sum (qs := qs) hok (by omega)]
 have key := loop_up (fun n i (s : Int) => F_laws_FnAnswerers_L2 xs m qs J n i s) ((2 ^ qs.length : Nat) : Int) (fun i => smZ f i.toNat) (J (smZ f (2 ^ qs.length))) ?_ ?_ (by omega) fuel (by have := fuel_ge; omega)
 ·exact key
 ·intro n i i0 i1
  obtain ⟨k, rfl⟩ := int_nat i0
  have e1 : ((k : Int) + 1).toNat = k + 1 := by omega
  have h1 := hin k
  have h2 := hf k
  simp only [e1, Int.toNat_natCast (n := k)]
  rw [F_laws_FnAnswerers_L2, pc, chk_pos ⟨by omega, by omega, by unfold I64; omega⟩, ite_t (decide_eq_true i1)]
  refine jn_is (fun J3 => J3 (smZ f (k + 1))) (fun J3 => ?_) (by rw [chk_pos (by unfold I64; omega)])
  refine jn_is (fun J4 => J4 (lbA (k : Int) qs.length)) (fun J4 => an_L3 hq J4) ?_
  have hst := end_state2 (qs := qs) (av := lbA (k : Int) qs.length) hs
  have hel : (endL m qs (lbA (k : Int) qs.length) xs).length ≤ 1048576 := by unfold endL; rw [eP_len]; omega
  have hop : opV (endL m qs (lbA (k : Int) qs.length) xs) m = openN (endL m qs (lbA (k : Int) qs.length) xs) := by unfold opV; rw [hst]; rfl
  rw [bnd3_eq (iAnswerList_eq hg lbA_len), bnd2_eq (iOpenNumbers_eq _ m hel), hst, hop]
  refine jn_is (fun J4 => J4 false) (fun J4 => rfl) ?_
  rw [ite_f rfl]
  show chk (I64 (smZ f k + f k)) _ = _
  rw [chk_pos (by unfold I64; omega), smZ]
 ·intro n
  simp only [Int.toNat_natCast]
  rw [F_laws_FnAnswerers_L2, pc, chk_pos ⟨by omega, by omega, by unfold I64; omega⟩, ite_f (decide_eq_false (by omega))]
theorem law_answerers {bs : List Int} (hy : okY bs) (hl : bs.length ≤ 9223372036854775807) : F_laws_FnAnswerers bs = some true := by
 unfold F_laws_FnAnswerers
 rw [chk_pos hl]
 by_cases h : ((bs.length : Nat) : Int) > 65536
 ·rw [ite_t (decide_eq_true h)]
 rw [ite_f (decide_eq_false h)]
 obtain ⟨xs, m, qs, av, d1, hx, hq, ha⟩ := drawAL_ok hy
 obtain ⟨ys, k, ps, d2, hy1, hp⟩ := drawHP_ok hy
 obtain ⟨zs, j, q, d3, hz⟩ := drawHA_ok hy
 obtain ⟨ws, l, rs, s, d4, hw, hr⟩ := drawSA_ok hy
 obtain ⟨r1, r2, r3, e1, e2, hr1, hr3⟩ : ∃ r1 r2 r3, F_impl_AnswerList xs m qs av = some (r1, r2, r3) ∧ F_spec_AnswerList xs m qs av = some (r1, r2, r3) ∧ r1.length ≤ 1000 ∧ (r3 = true → r1.length = xs.length) := by
  rw [iAL_eq xs m qs av (by omega) (by omega), sAL_eq xs m qs av (by omega) (by omega)]
  cases alB xs m qs av with
  | true => exact ⟨_, _, _, rfl, rfl, by unfold endL; rw [eP_len]; omega, fun _ => by unfold endL; rw [eP_len]⟩
  | false => exact ⟨_, _, _, rfl, rfl, by simp, fun hh => by cases hh⟩
 rw [bnd4_eq d1, bnd3_eq e1, bnd3_eq e2]
 refine jn_is (fun J => J false) (fun J => by rw [beq_self_eq_true, Bool.not_true, ite_f rfl, bnd1_eq (rState_same _ _ hr1)]; rfl) ?_
 rw [ite_f rfl, bnd3_eq d2]
 obtain ⟨p1, p2, p3, p4, e3, e4, hp1, hp2, hp4⟩ : ∃ p1 p2 p3 p4, F_impl_HoldPlay ys k ps = some (p1, p2, p3, p4) ∧ F_spec_HoldPlay ys k ps = some (p1, p2, p3, p4) ∧ p1.length ≤ 1000 ∧ p2.length ≤ 1000 ∧ (p4 = true → hvB ys k ps = true ∧ p1 = hpA k ps ys ps.length ∧ p2 = hpS k ps ys ps.length ∧ p3 = k) := by
  rw [iHoldPlay_eq ys k ps (by omega), sHoldPlay_eq ys k ps (by omega) (by omega)]
  cases hvB ys k ps with
  | true => exact ⟨_, _, _, _, rfl, rfl, by rw [hpA_len]; omega, by rw [hpS_len]; omega, fun _ => ⟨rfl, rfl, rfl, rfl⟩⟩
  | false => exact ⟨_, _, _, _, rfl, rfl, by simp, by simp, fun hh => by cases hh⟩
 rw [bnd4_eq e3, bnd4_eq e4]
 refine jn_is (fun J => J false) (fun J => by rw [beq_self_eq_true, Bool.not_true, ite_f rfl, bnd1_eq (rBools_self _ (by omega)), Bool.not_true, ite_f rfl, bnd1_eq (rState_same _ _ hp2)]; rfl) ?_
 rw [ite_f rfl, bnd3_eq d3, bnd2_eq (iHoldAnswer_eq zs j q (by omega)), bnd2_eq (sHoldAnswer_eq zs j q (by omega))]
 refine jn_is (fun J => J false) (fun J => by rw [beq_self_eq_true, Bool.not_true, ite_f rfl, beq_self_eq_true]; rfl) ?_
 rw [ite_f rfl, bnd4_eq d4, bnd2_eq (iSecretAnswers_eq ws l rs s (by omega)), bnd2_eq (sSecretAnswers_eq ws l rs s (by omega) (by omega))]
 have hsel : (seV ws l rs s).length ≤ 1000 := by
  unfold seV
  cases seB ws l rs s with
  | true => rw [cond_true, seA_len]; omega
  | false => simp
 refine jn_is (fun J => J false) (fun J => by rw [beq_self_eq_true, Bool.not_true, ite_f rfl, bnd1_eq (rBools_self _ (by omega))]; rfl) ?_
 rw [ite_f rfl, bnd2_eq (iCountSecret_eq ws l rs s (by omega)), bnd2_eq (sCountSecret_eq ws l rs s (by omega) (by omega))]
 refine jn_is (fun J => J false) (fun J => ?_) ?_
 ·rw [bne_self_eq_false, ite_f rfl, beq_self_eq_true, Bool.not_true, ite_f rfl, ite_f rfl]
  cases hse : seB ws l rs s with
  | false => rfl
  | true =>
   have hv2 := hse
   unfold seB at hv2
   rw [Bool.and_eq_true] at hv2
   obtain ⟨v, rfl, h1, h2⟩ := opB_in hv2.2
   rw [ite_t rfl]
   congr 1
   unfold csV
   rw [hse, cond_true, Int.toNat_natCast]
   unfold wtN
   rw [if_neg (by omega), decide_eq_false_iff_not]
   have := ba_pos (Int.toNat ((rs.length : Nat) : Int)) (l - ws.getD v 0).toNat
   omega
 rw [ite_f rfl]
 refine jn_is (fun J => J ()) (fun J => ?_) ?_
 ·cases hse : seB ws l rs s with
  | false => rfl
  | true =>
   have hv2 := hse
   unfold seB at hv2
   rw [Bool.and_eq_true] at hv2
   obtain ⟨v, rfl, h1, h2⟩ := opB_in hv2.2
   have hg := hv2.1
   obtain ⟨hs, hok, hq8, _⟩ := gdH_in hg
   have hsv : seV ws l rs (v : Int) = seA rs v rs.length := by unfold seV; rw [hse]; rfl
   have hst := secret_stays (xs := ws) (m := l) (qs := rs) h1 (seA rs v rs.length) rs.length (Nat.le_refl _) (fun i hi => seA_at hi)
   have hop : opV ws l = openN ws := by unfold opV; rw [hs]; rfl
   rw [ite_t rfl, hsv, bnd3_eq (iAnswerList_eq hg seA_len)]
   refine jn_is (fun K => K false) (fun K => ?_) ?_
   ·rw [Bool.not_true, ite_f rfl, chk_pos ⟨by omega, by unfold endL; rw [eP_len]; omega⟩, chk_pos ⟨by omega, by omega⟩, Int.toNat_natCast]
    unfold endL
    rw [hst, bne_self_eq_false]
   rw [ite_f rfl, bnd2_eq (iOpenNumbers_eq ws l (by omega)), hs, hop, Bool.not_true, ite_f rfl]
   refine jn_is (fun K => K (wtA ws l ((rs.length : Nat) : Int))) (fun K => an_L1 hg K) ?_
   refine jn_is (fun K => K (wtA ws l ((rs.length : Nat) : Int))) (fun K => an_L2 hg K) ?_
   rw [bne_self_eq_false, ite_f rfl]
 refine jn_is (fun J => J ()) (fun J => ?_) ?_
 ·cases hp5 : p4 with
  | false => rfl
  | true =>
   obtain ⟨hv, rfl, rfl, rfl⟩ := hp4 hp5
   obtain ⟨hg, hn, hq8⟩ := hvB_in hv
   have hend : endL p3 ps (hpA p3 ps ys ps.length) ys = hpS p3 ps ys ps.length := eP_hp _ (Nat.le_refl _)
   have hls := okN_hp (qs := ps) hn ps.length
   have hop : opV (hpS p3 ps ys ps.length) p3 = openN (hpS p3 ps ys ps.length) := by unfold opV; rw [hls.1]; rfl
   have hct : ctV ys p3 = cts ys p3 := by unfold ctV; rw [hn.1]; rfl
   rw [ite_t rfl, bnd3_eq (iAnswerList_eq hg hpA_len), hend, bnd2_eq (iCountsOf_eq ys p3 (by omega)), hct, bnd2_eq (iNeedOf_eq hn.2), bnd2_eq (iOpenNumbers_eq _ p3 (by omega)), hls.1, hop, hn.1]
   refine jn_is (fun K => K false) (fun K => ?_) rfl
   rw [Bool.not_true, ite_f rfl, ite_f rfl, ite_f rfl, ite_f rfl, bnd1_eq (rState_same _ _ hp2), Bool.not_true, ite_f rfl]
   by_cases c : ((ps.length : Nat) : Int) < ndL (cts ys p3)
   ·rw [ite_t (decide_eq_true c)]
    congr 1
    rw [decide_eq_false_iff_not]
    intro h2
    have h0 := (need_told hls.1 hls.2).1 (by omega)
    have := need_hp (qs := ps) hn ps.length
    unfold needS at this h0
    omega
   ·rw [ite_f (decide_eq_false c)]
 cases r3 with
 | false => rfl
 | true =>
  rw [hr3 rfl]
  show some (((xs.length : Nat) : Int) == ((xs.length : Nat) : Int)) = some true
  rw [beq_self_eq_true]
end Go.Tl
