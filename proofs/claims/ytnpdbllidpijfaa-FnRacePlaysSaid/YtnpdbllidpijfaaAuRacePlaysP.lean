/-
  Plain laws of the printed functions: no program here.
-/
import Derived.Test.YtnpdbllidpijfaaAuRacePlaysF
namespace Go.Tl
set_option linter.unusedVariables false
set_option linter.unusedSimpArgs false
theorem loop_m {σ R : Type} (L : Nat → σ → Option R) (I : σ → Prop) (μ : σ → Nat) (Q : Option R → Prop)
  (step : ∀ n s, I s → (∃ s', I s' ∧ μ s' < μ s ∧ L (n + 1) s = L n s') ∨ Q (L (n + 1) s)) : ∀ n s, I s → μ s < n → Q (L n s) := by
 intro n
 induction n with
 | zero => intro s _ h; omega
 | succ n ih =>
  intro s hI hm
  rcases step n s hI with ⟨s', h1, h2, h3⟩ | h
  ·rw [h3]; exact ih s' h1 (by omega)
  ·exact h
theorem loop_up {σ R : Type} (L : Nat → Int → σ → Option R) (N : Int) (st : Int → σ) (r : Option R)
  (step : ∀ n i, 0 ≤ i → i < N → L (n + 1) i (st i) = L n (i + 1) (st (i + 1))) (fin : ∀ n, L (n + 1) N (st N) = r) (h0 : 0 ≤ N) (n : Nat) (hn : N.toNat < n) : L n 0 (st 0) = r := by
 have key : ∀ (k : Nat) (n : Nat) (i : Int), 0 ≤ i → i + k = N → k < n → L n i (st i) = r := by
  intro k
  induction k with
  | zero =>
   intro n i h1 h2 h3; obtain ⟨n, rfl⟩ : ∃ m, n = m + 1 := ⟨n - 1, by omega⟩; have e : i = N := by omega
   subst e; exact fin n
  | succ k ih =>
   intro n i h1 h2 h3
   obtain ⟨n, rfl⟩ : ∃ m, n = m + 1 := ⟨n - 1, by omega⟩
   rw [step n i h1 (by omega)]
   exact ih n (i + 1) (by omega) (by omega) (by omega)
 exact key N.toNat n 0 (Int.le_refl _) (by omega) hn
theorem loop_all {R : Type} (L : Nat → Int → Option R) (N : Int) (p : Int → Bool) (no yes : Option R)
  (step : ∀ n i, 0 ≤ i → i < N → p i = true → L (n + 1) i = L n (i + 1)) (stop : ∀ n i, 0 ≤ i → i < N → p i = false → L (n + 1) i = no) (fin : ∀ n, L (n + 1) N = yes) (h0 : 0 ≤ N) (n : Nat) (hn : N.toNat < n) :
  (L n 0 = yes ∧ ∀ i, 0 ≤ i → i < N → p i = true) ∨ (L n 0 = no ∧ ∃ i, 0 ≤ i ∧ i < N ∧ p i = false ∧ ∀ j, 0 ≤ j → j < i → p j = true) := by
 have key : ∀ (k : Nat) (n : Nat) (i : Int), 0 ≤ i → i + k = N → k < n → (∀ j, 0 ≤ j → j < i → p j = true) → (L n i = yes ∧ ∀ i, 0 ≤ i → i < N → p i = true) ∨ (L n i = no ∧ ∃ i, 0 ≤ i ∧ i < N ∧ p i = false ∧ ∀ j, 0 ≤ j → j < i → p j = true) := by
  intro k
  induction k with
  | zero =>
   intro n i h1 h2 h3 h4; obtain ⟨n, rfl⟩ : ∃ m, n = m + 1 := ⟨n - 1, by omega⟩; have e : i = N := by omega
   subst e; exact .inl ⟨fin n, h4⟩
  | succ k ih =>
   intro n i h1 h2 h3 h4
   obtain ⟨n, rfl⟩ : ∃ m, n = m + 1 := ⟨n - 1, by omega⟩
   cases hp : p i with
   | false => exact .inr ⟨stop n i h1 (by omega) hp, i, h1, by omega, hp, h4⟩
   | true =>
    rw [step n i h1 (by omega) hp]
    refine ih n (i + 1) (by omega) (by omega) (by omega) fun j k1 k2 => ?_
    by_cases e : j = i
    ·rw [e]; exact hp
    ·exact h4 j k1 (by omega)
 exact key N.toNat n 0 (Int.le_refl _) (by omega) hn fun j h1 h2 => by omega
theorem ite_t {α : Type} {c : Bool} (h : c = true) (x y : α) : (bif c then x else y) = x := by rw [h]; rfl
theorem ite_f {α : Type} {c : Bool} (h : c = false) (x y : α) : (bif c then x else y) = y := by rw [h]; rfl
theorem ite_c {α : Type} {P : α → Prop} {c : Bool} {x y : α} (h1 : c = true → P x) (h2 : c = false → P y) : P (bif c then x else y) := by
 cases c
 ·exact h2 rfl
 ·exact h1 rfl
theorem getD_in {xs : List Int} {i : Nat} {P : Int → Prop} (h : i < xs.length) (hP : ∀ x ∈ xs, P x) : P (xs.getD i 0) := by
 rw [List.getD_eq_getElem?_getD, List.getElem?_eq_getElem h]; exact hP _ (List.getElem_mem h)
theorem maxN_in {a b : Int} : a ≤ maxN a b ∧ b ≤ maxN a b ∧ (maxN a b = a ∨ maxN a b = b) := by unfold maxN; split <;> omega
theorem minN_in {a b : Int} : minN a b ≤ a ∧ minN a b ≤ b ∧ (minN a b = a ∨ minN a b = b) := by unfold minN; split <;> omega
theorem next_ok {bs : List Int} {p s : Int} (hy : okY bs) (h0 : 0 ≤ p) (h1 : p ≤ 1000000000000) : ∃ v s', F_p_spec_l1Cur_next bs p s = some (v, bs, p + 1, s') ∧ 0 ≤ v ∧ v ≤ 255 := by
 unfold F_p_spec_l1Cur_next
 have hb := hy p.toNat
 have fin : ∀ v3 : Int, 0 ≤ v3 → v3 ≤ 255 → ∃ v s', (chk (I64 (p + (1 : Int))) <| nam (IntKind.wrap .u64 (s * (6364136223846793005 : Int))) fun n37 => nam (IntKind.wrap .u64 (n37 + (IntKind.wrap .u64 v3))) fun n40 => (bif (decide ((p + (1 : Int)) ≤ ((List.length bs : Nat) : Int))) then some (v3, bs, (p + (1 : Int)), (IntKind.wrap .u64 (n40 + (462197 : Int)))) else nam (bits .and .u64 ((IntKind.wrap .u64 (n40 + (462197 : Int))) / 2 ^ Int.toNat (40 : Int)) (255 : Int)) fun n60 => chk (I64 n60) <| some (n60, bs, (p + (1 : Int)), (IntKind.wrap .u64 (n40 + (462197 : Int)))))) = some (v, bs, p + 1, s') ∧ 0 ≤ v ∧ v ≤ 255 := by
  intro v3 k0 k1
  rw [chk_pos (by unfold I64; omega)]
  simp only [nam]
  refine ite_c (P := fun o => ∃ v s', o = some (v, bs, p + 1, s') ∧ 0 ≤ v ∧ v ≤ 255) (fun _ => ?_) (fun _ => ?_)
  ·exact ⟨_, _, rfl, k0, k1⟩
  ·have h2 := and255 ((IntKind.wrap .u64 ((IntKind.wrap .u64 ((IntKind.wrap .u64 (s * (6364136223846793005 : Int))) + (IntKind.wrap .u64 v3))) + (462197 : Int))) / 2 ^ Int.toNat (40 : Int))
   rw [chk_pos (by unfold I64; omega)]
   exact ⟨_, _, rfl, h2.1, h2.2⟩
 simp only [jn]
 refine ite_c (P := fun o => ∃ v s', o = some (v, bs, p + 1, s') ∧ 0 ≤ v ∧ v ≤ 255) (fun h => ?_) (fun _ => ?_)
 ·have h := of_decide_eq_true h
  rw [chk_pos (by omega), chk_pos (by unfold I64; omega)]
  exact fin _ hb.1 hb.2
 ·exact fin 0 (by omega) (by omega)
theorem tmod_in {a n : Int} (h0 : 0 ≤ a) (h1 : 0 < n) : 0 ≤ Int.tmod a n ∧ Int.tmod a n < n := ⟨Int.tmod_nonneg _ h0, Int.tmod_lt_of_pos _ h1⟩
theorem pick_ok {bs : List Int} {p s n : Int} (hy : okY bs) (h0 : 0 ≤ p) (h1 : p ≤ 900000000000) : ∃ v p' s', F_p_spec_l1Cur_pick bs p s n = some (v, bs, p', s') ∧ p ≤ p' ∧ p' ≤ p + 2 ∧ 0 ≤ v ∧ (1 ≤ n → v < n) := by
 unfold F_p_spec_l1Cur_pick
 rcases Bool.eq_false_or_eq_true (decide (n ≤ (1 : Int))) with h | h
 ·have h := of_decide_eq_true h
  rw [ite_t (decide_eq_true h)]
  exact ⟨0, p, s, rfl, by omega, by omega, by omega, fun _ => by omega⟩
 ·rw [ite_f h]
  have h := of_decide_eq_false h
  obtain ⟨v, s', e, g0, g1⟩ := next_ok (s := s) hy h0 (by omega)
  rw [bnd4_eq e]
  simp only [jn]
  rcases Bool.eq_false_or_eq_true (decide (n > (200 : Int))) with h4 | h4
  ·rw [ite_t h4]
   obtain ⟨v2, s2, e2, k0, k1⟩ := next_ok (s := s') hy (p := p + 1) (by omega) (by omega)
   rw [chk_pos (by unfold I64; omega), bnd4_eq e2, chk_pos (by unfold I64; omega), chk_pos (by omega)]
   have := tmod_in (a := v * 256 + v2) (n := n) (by omega) (by omega)
   exact ⟨_, _, _, rfl, by omega, by omega, this.1, fun _ => this.2⟩
  ·rw [ite_f h4]
   rw [chk_pos (by omega)]
   have := tmod_in (a := v) (n := n) (by omega) (by omega)
   exact ⟨_, _, _, rfl, by omega, by omega, this.1, fun _ => this.2⟩
theorem one_ok {bs : List Int} {p s n : Int} (hy : okY bs) (h0 : 0 ≤ p) (h1 : p ≤ 900000000000) : ∃ b p' s', F_p_spec_l1Cur_one bs p s n = some (b, bs, p', s') ∧ p ≤ p' ∧ p' ≤ p + 2 := by
 unfold F_p_spec_l1Cur_one
 obtain ⟨v, p', s', e, g0, g1, g2, g3⟩ := pick_ok (s := s) (n := n) hy h0 h1
 rw [bnd4_eq e]
 exact ⟨_, _, _, rfl, g0, g1⟩
theorem among_ok {bs : List Int} {p s : Int} {xs : List Int} (hy : okY bs) (h0 : 0 ≤ p) (h1 : p ≤ 900000000000) (hx : 0 < xs.length) : ∃ v p' s', F_p_spec_l1Cur_among bs p s xs = some (v, bs, p', s') ∧ p ≤ p' ∧ p' ≤ p + 2 ∧ v ∈ xs := by
 unfold F_p_spec_l1Cur_among
 obtain ⟨v, p', s', e, g0, g1, g2, g3⟩ := pick_ok (s := s) (n := ((List.length xs : Nat) : Int)) hy h0 h1
 rw [bnd4_eq e, chk_pos ⟨g2, g3 (by omega)⟩]
 refine ⟨_, _, _, rfl, g0, g1, ?_⟩
 have := g3 (by omega)
 exact getD_in (P := fun x => x ∈ xs) (by omega) fun x hx => hx
theorem many_ok {bs : List Int} {p s : Int} (hy : okY bs) (h0 : 0 ≤ p) (h1 : p ≤ 900000000000) : ∃ v p' s', F_p_spec_l1Cur_many bs p s = some (v, bs, p', s') ∧ p ≤ p' ∧ p' ≤ p + 2 ∧ 0 ≤ v ∧ v ≤ 13 := by
 unfold F_p_spec_l1Cur_many
 obtain ⟨v, p', s', e, g0, g1, g2⟩ := among_ok (s := s) (xs := [(4 : Int), (6 : Int), (8 : Int), (3 : Int), (5 : Int), (2 : Int), (7 : Int), (12 : Int), (1 : Int), (0 : Int), (13 : Int), (4 : Int), (6 : Int), (8 : Int), (3 : Int), (5 : Int)]) hy h0 h1 (by decide)
 rw [bnd4_eq e]
 refine ⟨_, _, _, rfl, g0, g1, ?_⟩
 simp only [List.mem_cons, List.not_mem_nil, or_false] at g2
 omega
theorem lies_ok {bs : List Int} {p s : Int} (hy : okY bs) (h0 : 0 ≤ p) (h1 : p ≤ 900000000000) : ∃ v p' s', F_p_spec_l1Cur_lies bs p s = some (v, bs, p', s') ∧ p ≤ p' ∧ p' ≤ p + 2 ∧ -1 ≤ v ∧ v ≤ 3 := by
 unfold F_p_spec_l1Cur_lies
 obtain ⟨v, p', s', e, g0, g1, g2⟩ := among_ok (s := s) (xs := [(1 : Int), (1 : Int), (2 : Int), (0 : Int), (1 : Int), (2 : Int), (1 : Int), (3 : Int), (-1 : Int), (1 : Int), (2 : Int), (0 : Int)]) hy h0 h1 (by decide)
 rw [bnd4_eq e]
 refine ⟨_, _, _, rfl, g0, g1, ?_⟩
 simp only [List.mem_cons, List.not_mem_nil, or_false] at g2
 omega
theorem pow13 {n : Int} (h0 : 0 ≤ n) (h1 : n ≤ 13) : 1 ≤ (2 : Int) ^ n.toNat ∧ (2 : Int) ^ n.toNat ≤ 8192 := by
 obtain ⟨k, rfl⟩ : ∃ k : Nat, n = k := ⟨n.toNat, by omega⟩
 have : k ≤ 13 := by omega
 simp only [Int.toNat_natCast]
 match k, this with
 | 0, _ | 1, _ | 2, _ | 3, _ | 4, _ | 5, _ | 6, _ | 7, _ | 8, _ | 9, _ | 10, _ | 11, _ | 12, _ | 13, _ => decide
theorem question_ok {bs : List Int} {p s n : Int} (hy : okY bs) (h0 : 0 ≤ p) (h1 : p ≤ 800000000000) : ∃ v p' s', F_p_spec_l1Cur_question bs p s n = some (v, bs, p', s') ∧ p ≤ p' ∧ p' ≤ p + 4 ∧ -1 ≤ v ∧ v ≤ 4611686018427387904 := by
 unfold F_p_spec_l1Cur_question
 obtain ⟨v, p', s', e, g0, g1⟩ := one_ok (s := s) (n := 24) hy h0 (by omega)
 rw [bnd4_eq e]
 have a1 := minN_in (a := n) (b := 13)
 have a2 := maxN_in (a := 0) (b := minN n 13)
 have a3 := minN_in (a := n) (b := 12)
 have a4 := maxN_in (a := 0) (b := minN n 12)
 have b1 := pow13 (n := maxN 0 (minN n 13)) (by omega) (by omega)
 have b2 := pow13 (n := maxN 0 (minN n 12)) (by omega) (by omega)
 rcases Bool.eq_false_or_eq_true v with h4 | h4
 ·rw [ite_t h4]
  rw [chk_pos ⟨by omega, by omega, by unfold I64; omega⟩]
  obtain ⟨v2, p2, s2, e2, k0, k1, k2⟩ := among_ok (s := s') (xs := [(-1 : Int), ((1 : Int) * 2 ^ Int.toNat (maxN (0 : Int) (minN n (13 : Int)))), (4611686018427387904 : Int)]) hy (p := p') (by omega) (by omega) (by simp)
  rw [bnd4_eq e2]
  refine ⟨_, _, _, rfl, by omega, by omega, ?_⟩
  simp only [List.mem_cons, List.not_mem_nil, or_false] at k2
  omega
 ·rw [ite_f h4]
  rw [chk_pos ⟨by omega, by omega, by unfold I64; omega⟩]
  obtain ⟨v2, p2, s2, e2, k0, k1, k2, k3⟩ := pick_ok (s := s') (n := (1 : Int) * 2 ^ Int.toNat (maxN (0 : Int) (minN n (12 : Int)))) hy (p := p') (by omega) (by omega)
  rw [bnd4_eq e2]
  have := k3 (by omega)
  exact ⟨_, _, _, rfl, by omega, by omega, by omega, by omega⟩
theorem state_ok {bs : List Int} {p s : Int} (hy : okY bs) (h0 : 0 ≤ p) (h1 : p ≤ 700000000000) : ∃ xs m p' s', F_p_spec_l1Cur_state bs p s = some (xs, m, bs, p', s') ∧ p ≤ p' ∧ p' ≤ p + 100 ∧ -1 ≤ m ∧ m ≤ 3 ∧ xs.length ≤ 13 ∧ (∀ x ∈ xs, -1 ≤ x ∧ x ≤ 4) := by
 unfold F_p_spec_l1Cur_state
 obtain ⟨m, p1, s1, e1, g0, g1, g2, g3⟩ := lies_ok (s := s) hy h0 (by omega)
 obtain ⟨k, p2, s2, e2, k0, k1, k2, k3⟩ := many_ok (s := s1) hy (p := p1) (by omega) (by omega)
 rw [bnd4_eq e1, bnd4_eq e2]
 simp only [jn]
 let Q : Option (List Int × Int × List Int × Int × Int) → Prop := fun o => ∃ xs m p' s', o = some (xs, m, bs, p', s') ∧ p ≤ p' ∧ p' ≤ p + 100 ∧ -1 ≤ m ∧ m ≤ 3 ∧ xs.length ≤ 13 ∧ (∀ x ∈ xs, -1 ≤ x ∧ x ≤ 4)
 have fin2 : ∀ (xs : List Int) (pp ss : Int), p ≤ pp → pp ≤ p + 56 → xs.length = k.toNat → (∀ x ∈ xs, -1 ≤ x ∧ x ≤ 4) → Q (F_p_spec_l1Cur_state_L2 m k (fun o500d o500e o500g o12b => some (o12b, m, o500d, o500e, o500g)) fuel bs pp ss xs 0) := by
  intro xs pp ss hp1 hp2 hl hx
  refine loop_m (fun n (z : Int × Int × List Int × Int) => F_p_spec_l1Cur_state_L2 m k (fun o500d o500e o500g o12b => some (o12b, m, o500d, o500e, o500g)) n bs z.1 z.2.1 z.2.2.1 z.2.2.2) (fun z => 0 ≤ z.2.2.2 ∧ z.2.2.2 ≤ k ∧ p ≤ z.1 ∧ z.1 ≤ p + 56 + 2 * z.2.2.2 ∧ z.2.2.1.length = k.toNat ∧ ∀ x ∈ z.2.2.1, -1 ≤ x ∧ x ≤ 4) (fun z => (k - z.2.2.2).toNat) Q ?_ fuel (pp, ss, xs, 0) ⟨by simp only; omega, by simp only; omega, hp1, by simp only; omega, hl, hx⟩ (by have := fuel_ge; simp only; omega)
  rintro n ⟨pp, ss, xs, i⟩ ⟨i0, i1, q0, q1, ql, qx⟩
  simp only at i0 i1 q0 q1 ql qx ⊢
  rw [F_p_spec_l1Cur_state_L2]
  by_cases hi : i < k
  ·rw [ite_t (decide_eq_true hi)]
   simp only [jn]
   rw [chk_pos (by omega)]
   have stay : ∀ pp', p ≤ pp' → pp' ≤ p + 56 + 2 * (i + 1) → ∀ ss' (b : Bool), (∃ s' : Int × Int × List Int × Int, (0 ≤ s'.2.2.2 ∧ s'.2.2.2 ≤ k ∧ p ≤ s'.1 ∧ s'.1 ≤ p + 56 + 2 * s'.2.2.2 ∧ s'.2.2.1.length = k.toNat ∧ ∀ x ∈ s'.2.2.1, -1 ≤ x ∧ x ≤ 4) ∧ (k - s'.2.2.2).toNat < (k - i).toNat ∧
     (bif b then chk (0 ≤ i ∧ i < ((List.length xs : Nat) : Int)) <| chk (I64 (i + (1 : Int))) <| F_p_spec_l1Cur_state_L2 m k (fun o500d o500e o500g o12b => some (o12b, m, o500d, o500e, o500g)) n bs pp' ss' (List.set xs (Int.toNat i) (-1 : Int)) (i + (1 : Int)) else chk (I64 (i + (1 : Int))) <| F_p_spec_l1Cur_state_L2 m k (fun o500d o500e o500g o12b => some (o12b, m, o500d, o500e, o500g)) n bs pp' ss' xs (i + (1 : Int))) = F_p_spec_l1Cur_state_L2 m k (fun o500d o500e o500g o12b => some (o12b, m, o500d, o500e, o500g)) n bs s'.1 s'.2.1 s'.2.2.1 s'.2.2.2) := by
    intro pp' r0 r1 ss' b
    cases b
    ·rw [ite_f rfl, chk_pos (by unfold I64; omega)]
     exact ⟨(pp', ss', xs, i + 1), ⟨by simp only; omega, by simp only; omega, r0, r1, ql, qx⟩, by simp only; omega, rfl⟩
    ·rw [ite_t rfl, chk_pos (by omega), chk_pos (by unfold I64; omega)]
     refine ⟨(pp', ss', List.set xs (Int.toNat i) (-1), i + 1), ⟨by simp only; omega, by simp only; omega, r0, r1, by simp only [List.length_set]; exact ql, fun x hx => ?_⟩, by simp only; omega, rfl⟩
     rcases List.mem_or_eq_of_mem_set hx with h | h
     ·exact qx x h
     ·subst h; omega
   rcases Bool.eq_false_or_eq_true (decide (List.getD xs (Int.toNat i) 0 > m)) with h4 | h4
   ·rw [ite_t h4]
    obtain ⟨b, p4, s4, e4, w0, w1⟩ := one_ok (s := ss) (n := 30) hy (p := pp) (by omega) (by omega)
    rw [bnd4_eq e4]
    exact .inl (stay p4 (by omega) (by omega) s4 (!b))
   ·rw [ite_f h4]
    exact .inl (stay pp (by omega) (by omega) ss false)
  ·rw [ite_f (decide_eq_false hi)]
   exact .inr ⟨_, _, _, _, rfl, by omega, by omega, g2, g3, by omega, qx⟩
 refine loop_m (fun n (z : Int × Int × List Int × Int) => F_p_spec_l1Cur_state_L1 m k (fun o500 o500b o500c o12 => F_p_spec_l1Cur_state_L2 m k (fun o500d o500e o500g o12b => some (o12b, m, o500d, o500e, o500g)) fuel o500 o500b o500c o12 0) n bs z.1 z.2.1 z.2.2.1 z.2.2.2) (fun z => 0 ≤ z.2.2.2 ∧ z.2.2.2 ≤ k ∧ p ≤ z.1 ∧ z.1 ≤ p + 4 + 4 * z.2.2.2 ∧ z.2.2.1.length = z.2.2.2.toNat ∧ ∀ x ∈ z.2.2.1, -1 ≤ x ∧ x ≤ 4) (fun z => (k - z.2.2.2).toNat) Q ?_ fuel (p2, s2, [], 0) ⟨by simp, by simp only; omega, by simp only; omega, by simp only; omega, rfl, fun x hx => by simp at hx⟩ (by have := fuel_ge; simp only; omega)
 rintro n ⟨pp, ss, xs, i⟩ ⟨i0, i1, q0, q1, ql, qx⟩
 simp only at i0 i1 q0 q1 ql qx ⊢
 rw [F_p_spec_l1Cur_state_L1]
 by_cases hi : i < k
 ·rw [ite_t (decide_eq_true hi), chk_pos (by unfold I64; omega)]
  have a2 := maxN_in (a := 1) (b := m + 2)
  obtain ⟨v, p4, s4, e4, w0, w1, w2, w3⟩ := pick_ok (s := ss) (n := maxN 1 (m + 2)) hy (p := pp) (by omega) (by omega)
  obtain ⟨v5, p5, s5, e5, y0, y1, y2, y3⟩ := pick_ok (s := s4) (n := 6) hy (p := p4) (by omega) (by omega)
  have hd := d5_in y2 (y3 (by omega))
  unfold d5 at hd
  have hv := w3 (by omega)
  rw [bnd4_eq e4, bnd4_eq e5, chk_pos (by unfold I64; omega), chk_pos (by unfold I64; omega), chk_pos ⟨by omega, by simp only [maxLen]; omega⟩, chk_pos (by unfold I64; omega)]
  refine .inl ⟨(p5, s5, xs ++ [v - Int.tdiv v5 5], i + 1), ⟨by simp only; omega, by simp only; omega, by simp only; omega, by simp only; omega, by simp only [List.length_append, List.length_cons, List.length_nil]; omega, fun x hx => ?_⟩, by simp only; omega, rfl⟩
  rcases List.mem_append.1 hx with h | h
  ·exact qx x h
  ·simp only [List.mem_cons, List.not_mem_nil, or_false] at h
   omega
 ·rw [ite_f (decide_eq_false hi)]
  exact .inr (fin2 xs pp ss q0 (by omega) (by omega) qx)
theorem jn_is {γ δ : Type} {f : γ} {g : γ → Option δ} {r : Option δ} (k : γ → Option δ) (h : ∀ J, g J = k J) (h2 : k f = r) : jn f g = r := by
 unfold jn; rw [h f]; exact h2
def fl (p : Nat → Bool) (k : Nat) : List Int := ((List.range k).filter p).map fun (i : Nat) => (i : Int)
theorem fl_yes {p : Nat → Bool} {k : Nat} (h : p k = true) : fl p (k + 1) = fl p k ++ [(k : Int)] := by
 unfold fl; rw [List.range_succ, List.filter_append, List.map_append, List.filter_cons, if_pos h]; rfl
theorem fl_no {p : Nat → Bool} {k : Nat} (h : p k = false) : fl p (k + 1) = fl p k := by
 unfold fl; rw [List.range_succ, List.filter_append, List.map_append, List.filter_cons, if_neg (by rw [h]; simp)]; simp
theorem fl_len (p : Nat → Bool) (k : Nat) : (fl p k).length ≤ k := by
 unfold fl; rw [List.length_map]; exact Nat.le_trans (List.length_filter_le _ _) (by simp)
theorem mem_fl {p : Nat → Bool} {k : Nat} {x : Int} : x ∈ fl p k ↔ ∃ i : Nat, i < k ∧ p i = true ∧ x = (i : Int) := by
 unfold fl
 simp only [List.mem_map, List.mem_filter, List.mem_range]
 constructor
 ·rintro ⟨i, ⟨h1, h2⟩, rfl⟩; exact ⟨i, h1, h2, rfl⟩
 ·rintro ⟨i, h1, h2, rfl⟩; exact ⟨i, ⟨h1, h2⟩, rfl⟩
theorem fl_getD {p : Nat → Bool} {k i : Nat} (h : i < (fl p k).length) : ∃ j : Nat, j < k ∧ p j = true ∧ (fl p k).getD i 0 = (j : Int) := by
 have : (fl p k).getD i 0 ∈ fl p k := getD_in (P := fun x => x ∈ fl p k) h fun x hx => hx
 obtain ⟨j, h1, h2, h3⟩ := mem_fl.1 this
 exact ⟨j, h1, h2, h3⟩
theorem openN_fl (xs : List Int) : openN xs = fl (fun i => decide (xs.getD i 0 ≥ 0)) xs.length := rfl
theorem int_nat {i : Int} (h : 0 ≤ i) : ∃ k : Nat, i = (k : Int) := ⟨i.toNat, by omega⟩
theorem has_raw {q k : Int} (h0 : 0 ≤ k) (h1 : k < 64) : (bits .and .i64 (q / 2 ^ Int.toNat k) (1 : Int) == (1 : Int)) = hasB q k := by
 unfold hasB
 rw [Nat.min_eq_left (by omega), Int.fdiv_eq_ediv_of_nonneg _ (Int.le_of_lt (Int.pow_pos (by decide)))]
theorem and1_has {q k : Int} (h0 : 0 ≤ k) (h1 : k < 64) : bits .and .i64 (q / 2 ^ Int.toNat k) (1 : Int) = bif hasB q k then 1 else 0 := by
 rw [← has_raw h0 h1, and1]
 have : q / 2 ^ k.toNat % 2 = 0 ∨ q / 2 ^ k.toNat % 2 = 1 := by omega
 rcases this with h | h <;> rw [h] <;> rfl
def cntL (p : Int → Bool) (l : List Int) : Nat → Int
 | 0 => 0
 | i + 1 => cntL p l i + (bif p (l.getD i 0) then 1 else 0)
theorem cntL_in (p : Int → Bool) (l : List Int) : ∀ i : Nat, 0 ≤ cntL p l i ∧ cntL p l i ≤ (i : Int)
 | 0 => by simp [cntL]
 | i + 1 => by
  have := cntL_in p l i
  unfold cntL
  cases p (l.getD i 0) <;> simp only [cond_true, cond_false] <;> omega
theorem openN_le (xs : List Int) : (openN xs).length ≤ xs.length := fl_len _ _
theorem state_len {xs : List Int} {m : Int} (h : isStateN xs m = true) : 1 ≤ xs.length ∧ xs.length ≤ 12 ∧ 0 ≤ m ∧ m ≤ 2 := by
 have := isStateN_iff.1 h; omega
theorem sOpenL_eq (xs : List Int) (m : Int) (hx : xs.length ≤ 1048576) : F_spec_l2Open xs m = some (openN xs) := by
 unfold F_spec_l2Open
 simp only [jn]
 rw [openN_fl]
 have hl := fun k => fl_len (fun i => decide (xs.getD i 0 ≥ 0)) k
 refine (loop_up (fun m i (s : List Int) => F_spec_l2Open_L1 xs (fun o5 => some o5) m s i) (xs.length : Int) (fun i => fl (fun i => decide (xs.getD i 0 ≥ 0)) i.toNat) _ ?_ ?_ (by omega) fuel (by have := fuel_ge; omega))
 ·intro m i i0 i1
  obtain ⟨k, rfl⟩ := int_nat i0
  have hlk := hl k
  have e1 : ((k : Int) + 1).toNat = k + 1 := by omega
  simp only [Int.toNat_natCast, e1]
  rw [F_spec_l2Open_L1, ite_t (decide_eq_true i1), chk_pos ⟨i0, i1⟩]
  simp only [Int.toNat_natCast]
  by_cases hb : xs.getD k 0 ≥ 0
  ·rw [ite_t (decide_eq_true hb), fl_yes (p := fun i => decide (xs.getD i 0 ≥ 0)) (decide_eq_true hb), chk_pos ⟨by omega, by simp only [maxLen]; omega⟩, chk_pos (by unfold I64; omega)]
  ·rw [ite_f (decide_eq_false hb), fl_no (p := fun i => decide (xs.getD i 0 ≥ 0)) (decide_eq_false hb), chk_pos (by unfold I64; omega)]
 ·intro m
  rw [F_spec_l2Open_L1, ite_f (decide_eq_false (by omega))]
  simp only [Int.toNat_natCast]
def opV (xs : List Int) (m : Int) : List Int := bif isStateN xs m then openN xs else []
theorem iOpenNumbers_eq (xs : List Int) (m : Int) (hx : xs.length ≤ 1048576) : F_impl_OpenNumbers xs m = some (opV xs m, isStateN xs m) := by
 unfold F_impl_OpenNumbers opV
 rw [chk_pos (by omega)]
 cases h : isStateN xs m with
 | false => rfl
 | true => rw [ite_f (by rfl), chk_pos (by omega), ite_t rfl]
def inN (xs : List Int) (q : Int) : Int := cntL (fun k => hasB q k) (openN xs) (openN xs).length
def vainN (xs : List Int) (q : Int) : Bool := inN xs q == 0 || inN xs q == ((openN xs).length : Int)
theorem openN_in {xs : List Int} {i : Nat} (h : i < (openN xs).length) : 0 ≤ (openN xs).getD i 0 ∧ (openN xs).getD i 0 < xs.length := by
 obtain ⟨j, h1, _, h3⟩ := fl_getD (p := fun i => decide (xs.getD i 0 ≥ 0)) (k := xs.length) h
 rw [openN_fl]; omega
theorem iIsVain_eq (xs : List Int) (m q : Int) (hx : xs.length ≤ 60) : F_impl_State_isVain xs m q = some (vainN xs q) := by
 unfold F_impl_State_isVain
 rw [chk_pos (by omega)]
 have hol := openN_le xs
 simp only [jn]
 refine (loop_up (fun n i (s : Int) => F_impl_State_isVain_L1 xs q (fun v5 => bif (v5 == (0 : Int)) then some true else some (v5 == ((List.length (openN xs) : Nat) : Int))) n i s) ((openN xs).length : Int) (fun i => cntL (fun k => hasB q k) (openN xs) i.toNat) _ ?_ ?_ (by omega) fuel (by have := fuel_ge; omega))
 ·intro n i i0 i1
  obtain ⟨k, rfl⟩ := int_nat i0
  have hc := cntL_in (fun k => hasB q k) (openN xs) k
  have ho := openN_in (xs := xs) (i := k) (by omega)
  have e1 : ((k : Int) + 1).toNat = k + 1 := by omega
  simp only [Int.toNat_natCast, e1]
  rw [F_impl_State_isVain_L1, ite_t (decide_eq_true i1), chk_pos ⟨i0, i1⟩]
  simp only [Int.toNat_natCast]
  rw [chk_pos ho.1, cntL]
  rcases Bool.eq_false_or_eq_true (hasB q ((openN xs).getD k 0)) with hb | hb
  ·rw [ite_t hb, chk_pos (by unfold I64; omega), chk_pos (by unfold I64; omega), ite_t hb]
  ·rw [ite_f hb, chk_pos (by unfold I64; omega), ite_f hb, Int.add_zero]
 ·intro n
  rw [F_impl_State_isVain_L1, ite_f (decide_eq_false (by omega))]
  simp only [Int.toNat_natCast]
  unfold vainN inN
  cases (cntL (fun k => hasB q k) (openN xs) (openN xs).length == (0 : Int)) <;> rfl
theorem sIsVain_eq (xs : List Int) (m q : Int) (hx : xs.length ≤ 60) : F_spec_l2Vain xs m q = some (vainN xs q) := by
 unfold F_spec_l2Vain
 rw [bnd1_eq (sOpenL_eq xs m (by omega))]
 have hol := openN_le xs
 simp only [jn]
 refine (loop_up (fun n i (s : Int) => F_spec_l2Vain_L1 q (openN xs) (fun v5 => bif (v5 == (0 : Int)) then some true else some (v5 == ((List.length (openN xs) : Nat) : Int))) n i s) ((openN xs).length : Int) (fun i => cntL (fun k => hasB q k) (openN xs) i.toNat) _ ?_ ?_ (by omega) fuel (by have := fuel_ge; omega))
 ·intro n i i0 i1
  obtain ⟨k, rfl⟩ := int_nat i0
  have hc := cntL_in (fun k => hasB q k) (openN xs) k
  have ho := openN_in (xs := xs) (i := k) (by omega)
  have e1 : ((k : Int) + 1).toNat = k + 1 := by omega
  simp only [e1]
  rw [F_spec_l2Vain_L1, ite_t (decide_eq_true i1), chk_pos ⟨i0, i1⟩]
  simp only [nam]
  rw [Int.toNat_natCast, chk_pos ⟨ho.1, by omega⟩, and1_has ho.1 (by omega), cntL]
  rcases Bool.eq_false_or_eq_true (hasB q ((openN xs).getD k 0)) with hb | hb
  ·rw [ite_t hb, chk_pos (by unfold I64; omega), chk_pos (by unfold I64; omega)]
  ·rw [ite_f hb, chk_pos (by unfold I64; omega), chk_pos (by unfold I64; omega)]
 ·intro n
  rw [F_spec_l2Vain_L1, ite_f (decide_eq_false (by omega))]
  simp only [Int.toNat_natCast]
  unfold vainN inN
  cases (cntL (fun k => hasB q k) (openN xs) (openN xs).length == (0 : Int)) <;> rfl
theorem jn_q {γ δ : Type} {Q0 : Option δ → Prop} {f : γ} {g : γ → Option δ} (k : γ → Option δ) (h : ∀ J, g J = k J) (h2 : Q0 (k f)) : Q0 (jn f g) := by
 unfold jn; rw [h f]; exact h2
theorem loop_st {σ R : Type} (L : Nat → Int → σ → Option R) (N : Nat) (I : Nat → σ → Prop) (Q : Option R → Prop)
  (step : ∀ m (i : Nat) s, i < N → I i s → (∃ s', I (i + 1) s' ∧ L (m + 1) (i : Int) s = L m ((i + 1 : Nat) : Int) s') ∨ Q (L (m + 1) (i : Int) s)) (fin : ∀ m s, I N s → Q (L (m + 1) (N : Int) s)) (s0 : σ) (h0 : I 0 s0) (n : Nat) (hn : N < n) : Q (L n 0 s0) := by
 have key : ∀ (k : Nat) (n i : Nat) (s : σ), i + k = N → k < n → I i s → Q (L n (i : Int) s) := by
  intro k
  induction k with
  | zero =>
   intro n i s h1 h2 h3
   obtain ⟨n, rfl⟩ : ∃ m, n = m + 1 := ⟨n - 1, by omega⟩
   have e : i = N := by omega
   subst e
   exact fin n s h3
  | succ k ih =>
   intro n i s h1 h2 h3
   obtain ⟨n, rfl⟩ : ∃ m, n = m + 1 := ⟨n - 1, by omega⟩
   rcases step n i s (by omega) h3 with ⟨s', h4, h5⟩ | h4
   ·rw [h5]; exact ih n (i + 1) s' (by omega) (by omega) h4
   ·exact h4
 exact key N n 0 s0 (by omega) hn h0
theorem fair_len {m q : Int} {xs : List Int} : (fairN m q xs).length ≤ 2 := fairP_len 2
def digP (b : Int) (xs : List Int) : Nat → Int
 | 0 => 0
 | k + 1 => digP b xs k * b + xs.getD k 0 + 1
theorem digP_in {b : Int} {xs : List Int} (hb : b = 2 ∨ b = 3) (hx : ∀ i : Nat, -1 ≤ xs.getD i 0 ∧ xs.getD i 0 ≤ b - 2) : ∀ k : Nat, 0 ≤ digP b xs k ∧ digP b xs k + 1 ≤ b ^ k
 | 0 => by simp [digP]
 | k + 1 => by
  have ih := digP_in hb hx k
  have := hx k
  rw [digP, Int.pow_succ]
  rcases hb with rfl | rfl <;> omega
theorem digP_inj {b : Int} {xs ys : List Int} (hb : b = 2 ∨ b = 3) (hx : ∀ i : Nat, -1 ≤ xs.getD i 0 ∧ xs.getD i 0 ≤ b - 2) (hy : ∀ i : Nat, -1 ≤ ys.getD i 0 ∧ ys.getD i 0 ≤ b - 2) : ∀ k : Nat, digP b xs k = digP b ys k → ∀ i, i < k → xs.getD i 0 = ys.getD i 0
 | 0, _, i, hi => by omega
 | k + 1, h, i, hi => by
  have h1 := hx k
  have h2 := hy k
  rw [digP, digP] at h
  have hk : digP b xs k = digP b ys k ∧ xs.getD k 0 = ys.getD k 0 := by rcases hb with rfl | rfl <;> omega
  by_cases e : i = k
  ·rw [e]; exact hk.2
  ·exact digP_inj hb hx hy k hk.1 i (by omega)
theorem getD_ext {xs ys : List Int} (hl : xs.length = ys.length) (h : ∀ i, i < xs.length → xs.getD i 0 = ys.getD i 0) : xs = ys := by
 apply List.ext_getElem hl
 intro i h1 h2
 have := h i h1
 simpa [List.getD_eq_getElem?_getD, h1, h2] using this
def okR (n : Nat) (m : Int) (xs : List Int) : Prop := xs.length = n ∧ okS xs m
theorem okR_dig {n : Nat} {m b : Int} {xs : List Int} (h : okR n m xs) (hb : m + 2 ≤ b) : ∀ i : Nat, -1 ≤ xs.getD i 0 ∧ xs.getD i 0 ≤ b - 2 := fun i => by have := h.2.2.2.2 i; omega
theorem okR_ans {n : Nat} {m q : Int} {y : Bool} {xs : List Int} (h : okR n m xs) : okR n m (ansN m q y xs) := ⟨by rw [ansN_len]; exact h.1, okS_ans h.2⟩
theorem dig_inj {n : Nat} {m b : Int} {xs ys : List Int} (hb : b = 2 ∨ b = 3) (hm : m + 2 ≤ b) (hx : okR n m xs) (hy : okR n m ys) (h : digP b xs n = digP b ys n) : xs = ys :=
 getD_ext (hx.1.trans hy.1.symm) fun i hi => digP_inj hb (okR_dig hx hm) (okR_dig hy hm) n h i (by rw [← hx.1]; exact hi)
theorem ans_getD {m q : Int} {y : Bool} {xs : List Int} {i : Nat} (h : i < xs.length) : (ansN m q y xs).getD i 0 = lieN m (falseB q y (i : Int)) (xs.getD i 0) := by
 unfold ansN afterN; simp [h]
def muP (m : Int) (xs : List Int) : Nat → Nat
 | 0 => 0
 | k + 1 => muP m xs k + (if 0 ≤ xs.getD k 0 then (m + 1 - xs.getD k 0).toNat else 0)
theorem muP_ans {m q : Int} {y : Bool} {xs : List Int} (h : okS xs m) : ∀ k, k ≤ xs.length → muP m (ansN m q y xs) k ≤ muP m xs k ∧ ((∃ i : Nat, i < k ∧ 0 ≤ xs.getD i 0 ∧ falseB q y (i : Int) = true) → muP m (ansN m q y xs) k < muP m xs k)
 | 0, _ => ⟨Nat.le_refl _, fun ⟨i, hi, _⟩ => by omega⟩
 | k + 1, hk => by
  obtain ⟨ih1, ih2⟩ := muP_ans (q := q) (y := y) h k (by omega)
  have hb := h.2.2.2 k
  have e := ans_getD (m := m) (q := q) (y := y) (xs := xs) (i := k) (by omega)
  have hm := h.2.1
  rw [muP, muP, e]
  have key : (if 0 ≤ lieN m (falseB q y (k : Int)) (xs.getD k 0) then (m + 1 - lieN m (falseB q y (k : Int)) (xs.getD k 0)).toNat else 0) ≤ (if 0 ≤ xs.getD k 0 then (m + 1 - xs.getD k 0).toNat else 0) ∧
    (0 ≤ xs.getD k 0 ∧ falseB q y (k : Int) = true → (if 0 ≤ lieN m (falseB q y (k : Int)) (xs.getD k 0) then (m + 1 - lieN m (falseB q y (k : Int)) (xs.getD k 0)).toNat else 0) < (if 0 ≤ xs.getD k 0 then (m + 1 - xs.getD k 0).toNat else 0)) := by
   by_cases h0 : 0 ≤ xs.getD k 0
   ·rw [if_pos h0]
    cases hf : falseB q y (k : Int) with
    | false => rw [lie_no rfl, if_pos h0]; exact ⟨Nat.le_refl _, fun hh => by cases hh.2⟩
    | true =>
     by_cases h1 : xs.getD k 0 + 1 > m
     ·rw [lie_over h0 rfl h1, if_neg (by decide)]; exact ⟨Nat.zero_le _, fun _ => by omega⟩
     ·rw [lie_up h0 rfl h1, if_pos (by omega)]; exact ⟨by omega, fun _ => by omega⟩
   ·rw [lie_neg h0, if_neg h0]; exact ⟨Nat.le_refl _, fun hh => absurd hh.1 h0⟩
  refine ⟨by omega, fun ⟨i, hi, h1, h2⟩ => ?_⟩
  by_cases e : i = k
  ·subst e
   have := key.2 ⟨h1, h2⟩
   omega
  ·have := ih2 ⟨i, by omega, h1, h2⟩
   omega
def mu (m : Int) (xs : List Int) : Nat := muP m xs xs.length
theorem mu_le {m : Int} {xs : List Int} (h : okS xs m) (hm : m ≤ 1) : mu m xs ≤ 2 * xs.length := by
 have : ∀ k, muP m xs k ≤ 2 * k := by
  intro k
  induction k with
  | zero => exact Nat.le_refl _
  | succ k ih => rw [muP]; split <;> omega
 exact this _
theorem cntL_none {p : Int → Bool} {l : List Int} (h : ∀ x ∈ l, p x = false) : ∀ i : Nat, i ≤ l.length → cntL p l i = 0
 | 0, _ => rfl
 | i + 1, hi => by rw [cntL, cntL_none h i (by omega), h _ (getD_in (P := fun z => z ∈ l) (by omega) fun z hz => hz)]; rfl
theorem cntL_all {p : Int → Bool} {l : List Int} (h : ∀ x ∈ l, p x = true) : ∀ i : Nat, i ≤ l.length → cntL p l i = (i : Int)
 | 0, _ => rfl
 | i + 1, hi => by rw [cntL, cntL_all h i (by omega), h _ (getD_in (P := fun z => z ∈ l) (by omega) fun z hz => hz)]; simp only [cond_true]; omega
theorem mem_open {xs : List Int} {x : Int} : x ∈ openN xs ↔ ∃ i : Nat, i < xs.length ∧ 0 ≤ xs.getD i 0 ∧ x = (i : Int) := by
 rw [openN_fl, mem_fl]
 constructor
 ·rintro ⟨i, h1, h2, h3⟩; exact ⟨i, h1, by simpa using h2, h3⟩
 ·rintro ⟨i, h1, h2, h3⟩; exact ⟨i, h1, by simpa using h2, h3⟩
theorem not_vain {xs : List Int} {q : Int} (h : vainN xs q = false) : (∃ i : Nat, i < xs.length ∧ 0 ≤ xs.getD i 0 ∧ hasB q (i : Int) = true) ∧ ∃ i : Nat, i < xs.length ∧ 0 ≤ xs.getD i 0 ∧ hasB q (i : Int) = false := by
 unfold vainN at h
 simp only [Bool.or_eq_false_iff, beq_eq_false_iff_ne, ne_eq] at h
 constructor
 ·apply Classical.byContradiction
  intro hn
  refine h.1 (cntL_none (fun x hx => ?_) _ (Nat.le_refl _))
  obtain ⟨i, h1, h2, rfl⟩ := mem_open.1 hx
  exact Bool.eq_false_iff.2 fun e => hn ⟨i, h1, h2, e⟩
 ·apply Classical.byContradiction
  intro hn
  refine h.2 (cntL_all (fun x hx => ?_) _ (Nat.le_refl _))
  obtain ⟨i, h1, h2, rfl⟩ := mem_open.1 hx
  rcases Bool.eq_false_or_eq_true (hasB q (i : Int)) with e | e
  ·exact e
  ·exact absurd ⟨i, h1, h2, e⟩ hn
theorem vain_few {xs : List Int} {q : Int} (h : (openN xs).length < 2) : vainN xs q = true := by
 have := cntL_in (fun k => hasB q k) (openN xs) (openN xs).length
 unfold vainN inN
 simp; omega
theorem mu_less {m q : Int} {y : Bool} {xs : List Int} (h : okS xs m) (hv : vainN xs q = false) : mu m (ansN m q y xs) < mu m xs := by
 unfold mu
 rw [ansN_len]
 refine (muP_ans h xs.length (Nat.le_refl _)).2 ?_
 obtain ⟨⟨i, a1, a2, a3⟩, ⟨j, b1, b2, b3⟩⟩ := not_vain hv
 cases y with
 | true => exact ⟨j, b1, b2, by unfold falseB; rw [b3]; rfl⟩
 | false => exact ⟨i, a1, a2, by unfold falseB; rw [a3]; rfl⟩
theorem fair_both {m q : Int} {xs : List Int} (h : okS xs m) (hv : vainN xs q = false) : fairN m q xs = [false, true] := by
 have key : ∀ y, (∃ i : Nat, i < xs.length ∧ 0 ≤ xs.getD i 0 ∧ hasB q (i : Int) = y) → decide ((((openN (ansN m q y xs)).length : Nat) : Int) > (0 : Int)) = true := by
  rintro y ⟨i, a1, a2, a3⟩
  have : (i : Int) ∈ openN (ansN m q y xs) := mem_open.2 ⟨i, by rw [ansN_len]; exact a1, by rw [ans_getD a1, lie_no (by unfold falseB; rw [a3]; simp)]; exact a2, rfl⟩
  have := List.length_pos_of_mem this
  exact decide_eq_true (by omega)
 obtain ⟨h1, h2⟩ := not_vain hv
 rw [fair_two (key false h2) (key true h1)]; rfl
def chN (qs xs : List Int) : List Int := qs.filter fun q => !vainN xs q
theorem mem_ch {qs xs : List Int} {q : Int} : q ∈ chN qs xs ↔ q ∈ qs ∧ vainN xs q = false := by unfold chN; simp
theorem ch_few {qs xs : List Int} (h : (openN xs).length < 2) : chN qs xs = [] := by
 unfold chN
 rw [List.filter_eq_nil_iff]
 intro q _
 rw [vain_few h]; decide
def stp (acc x : Int × Int × Int) : Int × Int × Int := (max acc.1 (x.1 + 1), if acc.2.1 < 0 ∨ x.2.1 + 1 < acc.2.1 then x.2.1 + 1 else acc.2.1, acc.2.2 + x.2.2)
def raW (m : Int) (qs : List Int) (rec : List Int → Bool × Int × Int × Int) (xs : List Int) : Bool :=
 (chN qs xs).any fun q => (fairN m q xs).all fun y => !(decide (2 ≤ (openN (ansN m q y xs)).length) && (rec (ansN m q y xs)).1)
def raI (m : Int) (rec : List Int → Bool × Int × Int × Int) (xs : List Int) (q : Int) (acc : Int × Int × Int) : Int × Int × Int := (fairN m q xs).foldl (fun a y => stp a (rec (ansN m q y xs)).2) acc
def raS (m : Int) (qs : List Int) (rec : List Int → Bool × Int × Int × Int) (xs : List Int) : Int × Int × Int :=
 if chN qs xs = [] then (0, 0, 1) else (chN qs xs).foldl (fun a q => raI m rec xs q a) (0, -1, 0)
def raT (m : Int) (qs : List Int) : Nat → List Int → Bool × Int × Int × Int
 | 0, _ => (false, 0, 0, 1)
 | d + 1, xs => (raW m qs (raT m qs d) xs, raS m qs (raT m qs d) xs)
theorem foldl_congr' {α β : Type} {f g : α → β → α} : ∀ {l : List β} {a : α}, (∀ b ∈ l, ∀ a, f a b = g a b) → l.foldl f a = l.foldl g a
 | [], _, _ => rfl
 | b :: l, a, h => by rw [List.foldl_cons, List.foldl_cons, h b List.mem_cons_self]; exact foldl_congr' fun c hc => h c (List.mem_cons_of_mem _ hc)
theorem ra_congr {m : Int} {qs xs : List Int} {r r' : List Int → Bool × Int × Int × Int} (h : ∀ q ∈ chN qs xs, ∀ y, r (ansN m q y xs) = r' (ansN m q y xs)) : raW m qs r xs = raW m qs r' xs ∧ raS m qs r xs = raS m qs r' xs := by
 constructor
 ·unfold raW
  rw [Bool.eq_iff_iff, List.any_eq_true, List.any_eq_true]
  constructor
  ·rintro ⟨q, h1, h2⟩; exact ⟨q, h1, by simpa only [h q h1] using h2⟩
  ·rintro ⟨q, h1, h2⟩; exact ⟨q, h1, by simpa only [h q h1] using h2⟩
 ·unfold raS
  split
  ·rfl
  ·exact foldl_congr' fun q hq a => by unfold raI; exact foldl_congr' fun y _ b => by rw [h q hq y]
theorem mu_zero_ch {m : Int} {qs xs : List Int} (h : okS xs m) (h0 : mu m xs = 0) : chN qs xs = [] := by
 unfold chN
 rw [List.filter_eq_nil_iff]
 intro q _ hv
 have hv : vainN xs q = false := by simpa using hv
 have := mu_less (y := true) h hv
 omega
theorem ra_stable {n : Nat} {m : Int} {qs : List Int} : ∀ (d d' : Nat) (xs : List Int), okR n m xs → mu m xs ≤ d → mu m xs ≤ d' → raT m qs d xs = raT m qs d' xs := by
 have nil : ∀ (d : Nat) (xs : List Int), okR n m xs → mu m xs = 0 → raT m qs d xs = (false, 0, 0, 1) := by
  intro d xs h h0
  cases d with
  | zero => rfl
  | succ d =>
   have hc := mu_zero_ch (qs := qs) h.2 h0
   rw [raT]; unfold raW raS
   rw [hc]; rfl
 intro d
 induction d with
 | zero => intro d' xs h h1 h2; rw [nil d' xs h (by omega)]; rfl
 | succ d ih =>
  intro d' xs h h1 h2
  cases d' with
  | zero => rw [nil (d + 1) xs h (by omega)]; rfl
  | succ d' =>
   have hc := ra_congr (m := m) (qs := qs) (xs := xs) (r := raT m qs d) (r' := raT m qs d') (fun q hq y => by
    have := mu_less (y := y) h.2 (mem_ch.1 hq).2
    exact ih d' _ (okR_ans h) (by omega) (by omega))
   rw [raT, raT, hc.1, hc.2]
def raV (m : Int) (qs : List Int) (xs : List Int) : Bool × Int × Int × Int := raT m qs 20 xs
theorem raV_eq {n : Nat} {m : Int} {qs xs : List Int} (hn : n ≤ 5) (hm : m ≤ 1) (h : okR n m xs) : raV m qs xs = (raW m qs (raV m qs) xs, raS m qs (raV m qs) xs) := by
 have hmu := mu_le h.2 hm
 have hl := h.1
 have hc := ra_congr (m := m) (qs := qs) (xs := xs) (r := raT m qs 19) (r' := raV m qs) (fun q hq y => by
  have := mu_less (y := y) h.2 (mem_ch.1 hq).2
  exact ra_stable 19 20 _ (okR_ans h) (by omega) (by omega))
 show raT m qs 20 xs = _
 rw [raT, hc.1, hc.2]
def accP (d : Nat) (B : Int) (j : Nat) (acc : Int × Int × Int) : Prop := (j = 0 ∧ acc = (0, -1, 0)) ∨ (1 ≤ j ∧ 1 ≤ acc.2.1 ∧ acc.2.1 ≤ acc.1 ∧ acc.1 ≤ (d : Int) ∧ 1 ≤ acc.2.2 ∧ acc.2.2 ≤ (j : Int) * B)
theorem accP_step {d j : Nat} {B : Int} {acc x : Int × Int × Int} (h : accP d B j acc) (h1 : 0 ≤ x.2.1) (h2 : x.2.1 ≤ x.1) (h3 : x.1 + 1 ≤ (d : Int)) (h4 : 1 ≤ x.2.2) (h5 : x.2.2 ≤ B) : accP d B (j + 1) (stp acc x) := by
 have e : ((j + 1 : Nat) : Int) * B = (j : Int) * B + B := by rw [Int.natCast_succ, Int.add_mul, Int.one_mul]
 rcases h with ⟨rfl, rfl⟩ | ⟨g1, g2, g3, g4, g5, g6⟩
 ·refine .inr ⟨by omega, ?_, ?_, ?_, ?_, ?_⟩ <;> unfold stp <;> simp <;> omega
 ·refine .inr ⟨by omega, ?_, ?_, ?_, ?_, ?_⟩
  ·unfold stp; dsimp only; split <;> omega
  ·unfold stp; dsimp only; split <;> omega
  ·unfold stp; dsimp only; omega
  ·unfold stp; dsimp only; omega
  ·unfold stp; dsimp only; rw [e]; omega
theorem raI_two {m q : Int} {xs : List Int} {rec : List Int → Bool × Int × Int × Int} {acc : Int × Int × Int} (h : okS xs m) (hv : vainN xs q = false) : raI m rec xs q acc = stp (stp acc (rec (ansN m q false xs)).2) (rec (ansN m q true xs)).2 := by
 unfold raI; rw [fair_both h hv]; rfl
def good3 (d : Nat) (x : Int × Int × Int) : Prop := 0 ≤ x.2.1 ∧ x.2.1 ≤ x.1 ∧ x.1 ≤ (d : Int) ∧ 1 ≤ x.2.2 ∧ x.2.2 ≤ 10 ^ d
theorem pow10 (d : Nat) : (1 : Int) ≤ 10 ^ d := Int.pow_pos (by decide)
theorem pow10_le {d : Nat} (h : d ≤ 10) : (10 : Int) ^ d ≤ 10000000000 := by
 match d, h with
 | 0, _ | 1, _ | 2, _ | 3, _ | 4, _ | 5, _ | 6, _ | 7, _ | 8, _ | 9, _ | 10, _ => decide
theorem ra_good {n : Nat} {m : Int} {qs : List Int} (hn : n ≤ 5) (hm : m ≤ 1) (hq : qs.length ≤ 5) : ∀ (d : Nat) (xs : List Int), okR n m xs → mu m xs ≤ d → good3 d (raV m qs xs).2 ∧ ((raV m qs xs).2.1 = 0 ↔ chN qs xs = []) := by
 intro d
 induction d with
 | zero =>
  intro xs h h0
  have hc := mu_zero_ch (qs := qs) h.2 (by omega)
  rw [raV_eq hn hm h]
  unfold raS
  rw [if_pos hc]
  exact ⟨⟨Int.le_refl 0, Int.le_refl 0, Int.le_refl 0, Int.le_refl 1, Int.le_refl 1⟩, by simp [hc]⟩
 | succ d ih =>
  intro xs h h0
  rw [raV_eq hn hm h]
  unfold raS
  by_cases hc : chN qs xs = []
  ·rw [if_pos hc]
   have := pow10 (d + 1)
   exact ⟨⟨Int.le_refl 0, Int.le_refl 0, show (0 : Int) ≤ ((d + 1 : Nat) : Int) by omega, Int.le_refl 1, this⟩, by simp [hc]⟩
  ·rw [if_neg hc]
   have key : ∀ (l : List Int) (j : Nat) (acc : Int × Int × Int), (∀ q ∈ l, q ∈ chN qs xs) → accP (d + 1) (10 ^ d) j acc → accP (d + 1) (10 ^ d) (j + 2 * l.length) (l.foldl (fun a q => raI m (raV m qs) xs q a) acc) := by
    intro l
    induction l with
    | nil => intro j acc _ hp; exact hp
    | cons q l ihl =>
     intro j acc hl hp
     have hv := (mem_ch.1 (hl q List.mem_cons_self)).2
     have c1 := (ih _ (okR_ans h) (by have := mu_less (y := false) h.2 hv; omega : mu m (ansN m q false xs) ≤ d)).1
     have c2 := (ih _ (okR_ans h) (by have := mu_less (y := true) h.2 hv; omega : mu m (ansN m q true xs) ≤ d)).1
     rw [List.foldl_cons, raI_two h.2 hv, List.length_cons, show j + 2 * (l.length + 1) = (j + 1 + 1) + 2 * l.length by omega]
     refine ihl (j + 1 + 1) _ (fun q hq => hl q (List.mem_cons_of_mem _ hq)) ?_
     refine accP_step (accP_step hp c1.1 c1.2.1 ?_ c1.2.2.2.1 c1.2.2.2.2) c2.1 c2.2.1 ?_ c2.2.2.2.1 c2.2.2.2.2
     ·have := c1.2.2.1; omega
     ·have := c2.2.2.1; omega
   have k := key (chN qs xs) 0 (0, -1, 0) (fun q hq => hq) (.inl ⟨rfl, rfl⟩)
   have hl : (chN qs xs).length ≤ 5 := Nat.le_trans (List.length_filter_le _ _) hq
   have hp : 1 ≤ (chN qs xs).length := List.length_pos_iff.2 hc
   generalize (chN qs xs).foldl (fun a q => raI m (raV m qs) xs q a) (0, -1, 0) = R at k
   rcases k with ⟨k1, _⟩ | ⟨_, k2, k3, k4, k5, k6⟩
   ·omega
   ·have hB := pow10 d
    refine ⟨⟨by dsimp only; omega, by dsimp only; omega, by dsimp only; omega, k5, ?_⟩, ?_⟩
    ·have : ((0 + 2 * (chN qs xs).length : Nat) : Int) * 10 ^ d ≤ 10 * 10 ^ d := Int.mul_le_mul_of_nonneg_right (by omega) (by omega)
     rw [Int.pow_succ]; dsimp only; omega
    ·constructor
     ·intro e; dsimp only at e; omega
     ·intro e; exact absurd e hc
def loL (m : Int) (qs xs : List Int) (q : Int) : List Bool := (fairN m q xs).filter fun y => decide (2 ≤ (openN (ansN m q y xs)).length) && (raV m qs (ansN m q y xs)).1
def wiL (m : Int) (qs xs : List Int) : List Int := (chN qs xs).filter fun q => (loL m qs xs q).length == 0
theorem wi_win {n : Nat} {m : Int} {qs xs : List Int} (hn : n ≤ 5) (hm : m ≤ 1) (h : okR n m xs) : (raV m qs xs).1 = decide (0 < (wiL m qs xs).length) := by
 rw [raV_eq hn hm h]
 show raW m qs (raV m qs) xs = _
 unfold raW wiL
 rw [Bool.eq_iff_iff, List.any_eq_true, decide_eq_true_iff, List.length_pos_iff_exists_mem]
 constructor
 ·rintro ⟨q, h1, h2⟩
  refine ⟨q, List.mem_filter.2 ⟨h1, ?_⟩⟩
  rw [beq_iff_eq, List.length_eq_zero_iff]
  unfold loL
  rw [List.filter_eq_nil_iff]
  intro y hy hh
  have := List.all_eq_true.1 h2 y hy
  rw [hh] at this; cases this
 ·rintro ⟨q, hq⟩
  obtain ⟨h1, h2⟩ := List.mem_filter.1 hq
  rw [beq_iff_eq, List.length_eq_zero_iff] at h2
  unfold loL at h2
  rw [List.filter_eq_nil_iff] at h2
  refine ⟨q, h1, List.all_eq_true.2 fun y hy => ?_⟩
  have := h2 y hy
  cases hc : decide (2 ≤ (openN (ansN m q y xs)).length) && (raV m qs (ansN m q y xs)).1 with
  | true => rw [hc] at this; exact absurd rfl this
  | false => rfl
/-! the set of questions -/
def chB (n : Int) (qs : List Int) : Bool := decide (1 ≤ qs.length) && decide (qs.length ≤ 5) && (List.range qs.length).all fun (i : Nat) => isQ n (qs.getD i 0) && (decide (i = 0) || decide (qs.getD (i - 1) 0 < qs.getD i 0))
def rgB (xs : List Int) (m : Int) (qs : List Int) : Bool := raceN xs m && chB ((xs.length : Nat) : Int) qs
theorem chB_in {n : Int} {qs : List Int} (h : chB n qs = true) : 1 ≤ qs.length ∧ qs.length ≤ 5 ∧ ∀ q ∈ qs, isQ n q = true := by
 unfold chB at h
 simp only [Bool.and_eq_true, decide_eq_true_eq] at h
 refine ⟨h.1.1, h.1.2, fun q hq => ?_⟩
 obtain ⟨i, hi, rfl⟩ := List.getElem_of_mem hq
 have := List.all_eq_true.1 h.2 i (List.mem_range.2 hi)
 simp only [Bool.and_eq_true] at this
 simpa [List.getD_eq_getElem?_getD, hi] using this.1
theorem rg_in {xs : List Int} {m : Int} {qs : List Int} (h : rgB xs m qs = true) : okR xs.length m xs ∧ 1 ≤ xs.length ∧ xs.length ≤ 5 ∧ 0 ≤ m ∧ m ≤ 1 ∧ 2 ≤ (openN xs).length ∧ 1 ≤ qs.length ∧ qs.length ≤ 5 ∧ isStateN xs m = true ∧ raceN xs m = true ∧ ∀ q ∈ qs, isQ ((xs.length : Nat) : Int) q = true := by
 unfold rgB at h
 rw [Bool.and_eq_true] at h
 have hc := chB_in h.2
 have hr := h.1
 unfold raceN shortN at hr
 simp only [Bool.and_eq_true, decide_eq_true_eq] at hr
 have hs := state_len hr.1.1.1
 exact ⟨⟨rfl, okS_of hr.1.1.1⟩, hs.1, by omega, hs.2.2.1, hr.1.2, by omega, hc.1, hc.2.1, hr.1.1.1, h.1, hc.2.2⟩
theorem iCode_eq {n : Nat} {m : Int} {xs : List Int} (hn : n ≤ 5) (hm : m ≤ 1) (h : okR n m xs) (M : Int) : F_impl_State_code xs M = some (digP 3 xs n) := by
 unfold F_impl_State_code
 simp only [jn]
 have hd := okR_dig (b := 3) h (by omega)
 refine loop_up (fun k i s => F_impl_State_code_L1 xs (fun v3 => some v3) k i s) (n : Int) (fun i => digP 3 xs i.toNat) _ ?_ ?_ (by omega) fuel (by have := fuel_ge; omega)
 ·intro k i i0 i1
  obtain ⟨j, rfl⟩ := int_nat i0
  have e1 : ((j : Int) + 1).toNat = j + 1 := by omega
  have hb := digP_in (.inr rfl) hd j
  have hp : (3 : Int) ^ j ≤ 81 := by
   have : j ≤ 4 := by omega
   match j, this with
   | 0, _ | 1, _ | 2, _ | 3, _ | 4, _ => decide
  have hj := hd j
  have hl := h.1
  simp only [Int.toNat_natCast, e1]
  rw [F_impl_State_code_L1, ite_t (decide_eq_true (by omega)), chk_pos ⟨i0, by omega⟩, chk_pos (by unfold I64; omega)]
  simp only [nam, Int.toNat_natCast]
  rw [chk_pos (by unfold I64; omega), chk_pos (by unfold I64; omega), chk_pos (by unfold I64; omega), digP]
 ·intro k
  have hl := h.1
  try simp only [Int.toNat_natCast]
  rw [F_impl_State_code_L1, ite_f (decide_eq_false (by omega))]
theorem b23 {m : Int} (h0 : 0 ≤ m) (hm : m ≤ 1) : m + 2 = 2 ∨ m + 2 = 3 := by omega
theorem pow23 {b : Int} (hb : b = 2 ∨ b = 3) {j : Nat} (h : j ≤ 5) : 1 ≤ b ^ j ∧ b ^ j ≤ 243 := by
 rcases hb with rfl | rfl
 ·match j, h with
  | 0, _ | 1, _ | 2, _ | 3, _ | 4, _ | 5, _ => decide
 ·match j, h with
  | 0, _ | 1, _ | 2, _ | 3, _ | 4, _ | 5, _ => decide
theorem sKey_eq {n : Nat} {m : Int} {xs : List Int} (hn : n ≤ 5) (hm : m ≤ 1) (h : okR n m xs) : F_spec_l6Key xs m = some (digP (m + 2) xs n) := by
 unfold F_spec_l6Key
 simp only [jn]
 have hd := okR_dig (b := m + 2) h (by omega)
 have hb := b23 h.2.2.1 hm
 refine loop_up (fun k i s => F_spec_l6Key_L1 xs m (fun v3 => some v3) k i s) (n : Int) (fun i => digP (m + 2) xs i.toNat) _ ?_ ?_ (by omega) fuel (by have := fuel_ge; omega)
 ·intro k i i0 i1
  obtain ⟨j, rfl⟩ := int_nat i0
  have e1 : ((j : Int) + 1).toNat = j + 1 := by omega
  have hc := digP_in hb hd j
  have hp := pow23 hb (j := j) (by omega)
  have hj := hd j
  have hl := h.1
  have hmul : 0 ≤ digP (m + 2) xs j * (m + 2) ∧ digP (m + 2) xs j * (m + 2) ≤ 729 := by rcases hb with e | e <;> rw [e] at hp hc ⊢ <;> omega
  simp only [Int.toNat_natCast, e1]
  rw [F_spec_l6Key_L1, ite_t (decide_eq_true (by omega)), chk_pos (by unfold I64; omega), chk_pos (by unfold I64; omega), chk_pos ⟨i0, by omega⟩]
  simp only [nam, Int.toNat_natCast]
  rw [chk_pos (by unfold I64; omega), chk_pos (by unfold I64; omega), chk_pos (by unfold I64; omega), digP]
 ·intro k
  have hl := h.1
  try simp only [Int.toNat_natCast]
  rw [F_spec_l6Key_L1, ite_f (decide_eq_false (by omega))]
theorem filter_take_suc {α : Type} {p : α → Bool} {l : List α} {d : α} {i : Nat} (h : i < l.length) : (l.take (i + 1)).filter p = (l.take i).filter p ++ (if p (l.getD i d) = true then [l.getD i d] else []) := by
 have hg : l.getD i d = l[i] := by rw [List.getD_eq_getElem?_getD, List.getElem?_eq_getElem h]; rfl
 rw [List.take_succ_eq_append_getElem h, List.filter_append, hg]
 congr 1
 cases hp : p l[i] <;> simp [hp]
theorem iChoices_eq {qs xs : List Int} (m : Int) (w : List (Int × Bool)) (sp : List (Int × Int × Int × Int)) (hx : xs.length ≤ 60) (hq : qs.length ≤ 1000) : F_p_impl_race_choices qs w sp xs m = some (chN qs xs, w, sp) := by
 unfold F_p_impl_race_choices
 simp only [jn]
 refine loop_up (fun k i s => F_p_impl_race_choices_L1 qs xs m (fun o8 => some (o8, w, sp)) k s i) ((qs.length : Nat) : Int) (fun i => (qs.take i.toNat).filter fun q => !vainN xs q) _ ?_ ?_ (by omega) fuel (by have := fuel_ge; omega)
 ·intro k i i0 i1
  obtain ⟨j, rfl⟩ := int_nat i0
  have e1 : ((j : Int) + 1).toNat = j + 1 := by omega
  have hj : j < qs.length := by omega
  have hl : ((qs.take j).filter fun q => !vainN xs q).length ≤ qs.length := Nat.le_trans (List.length_filter_le _ _) (by rw [List.length_take]; omega)
  simp only [Int.toNat_natCast, e1]
  rw [F_p_impl_race_choices_L1, ite_t (decide_eq_true (by omega)), chk_pos ⟨i0, by omega⟩, Int.toNat_natCast, bnd1_eq (iIsVain_eq xs m _ hx), filter_take_suc (d := 0) hj]
  cases vainN xs (qs.getD j 0) with
  | true => rw [ite_f (show (!true) = false from rfl), chk_pos (by unfold I64; omega)]; simp
  | false => rw [ite_t (show (!false) = true from rfl), chk_pos ⟨by omega, by simp only [maxLen]; omega⟩, chk_pos (by unfold I64; omega)]; simp
 ·intro k
  try simp only [Int.toNat_natCast]
  rw [F_p_impl_race_choices_L1, ite_f (decide_eq_false (by omega)), List.take_length]; rfl
theorem sChoices_eq {qs xs : List Int} (m : Int) (hx : xs.length ≤ 60) (hq : qs.length ≤ 1000) : F_spec_l11Choices xs m qs = some (chN qs xs) := by
 unfold F_spec_l11Choices
 simp only [jn]
 refine loop_up (fun k i s => F_spec_l11Choices_L1 xs m qs (fun o7 => some o7) k s i) ((qs.length : Nat) : Int) (fun i => (qs.take i.toNat).filter fun q => !vainN xs q) _ ?_ ?_ (by omega) fuel (by have := fuel_ge; omega)
 ·intro k i i0 i1
  obtain ⟨j, rfl⟩ := int_nat i0
  have e1 : ((j : Int) + 1).toNat = j + 1 := by omega
  have hj : j < qs.length := by omega
  have hl : ((qs.take j).filter fun q => !vainN xs q).length ≤ qs.length := Nat.le_trans (List.length_filter_le _ _) (by rw [List.length_take]; omega)
  simp only [Int.toNat_natCast, e1]
  rw [F_spec_l11Choices_L1, ite_t (decide_eq_true (by omega)), chk_pos ⟨i0, by omega⟩, Int.toNat_natCast, bnd1_eq (sIsVain_eq xs m _ hx), filter_take_suc (d := 0) hj]
  cases vainN xs (qs.getD j 0) with
  | true => rw [ite_f (show (!true) = false from rfl), chk_pos (by unfold I64; omega)]; simp
  | false => rw [ite_t (show (!false) = true from rfl), chk_pos ⟨by omega, by simp only [maxLen]; omega⟩, chk_pos (by unfold I64; omega)]; simp
 ·intro k
  try simp only [Int.toNat_natCast]
  rw [F_spec_l11Choices_L1, ite_f (decide_eq_false (by omega)), List.take_length]; rfl
def WI (n : Nat) (m : Int) (qs : List Int) (w : List (Int × Bool)) : Prop := ∀ ys, okR n m ys → ∀ b, mget w (digP 3 ys n) = some b → b = (raV m qs ys).1
theorem WI_put {n : Nat} {m : Int} {qs xs : List Int} {w : List (Int × Bool)} (hm : m ≤ 1) (h : WI n m qs w) (hx : okR n m xs) : WI n m qs (mput w (digP 3 xs n) (raV m qs xs).1) := by
 intro ys hy b hb
 rw [mget_put] at hb
 split at hb
 ·rename_i e
  have := dig_inj (.inr rfl) (by omega) hy hx e
  subst this
  exact (Option.some.inj hb).symm
 ·exact h ys hy b hb
abbrev WinF : Type := (List Int) → (List (Int × Bool)) → (List (Int × Int × Int × Int)) → (List Int) → Int → Option ((List Int) × (List (Int × Bool)) × (List (Int × Int × Int × Int)))
def WinOk (n : Nat) (m : Int) (qs : List Int) (self : WinF) (xs : List Int) : Prop := ∀ w sp, WI n m qs w → ∃ w', self qs w sp xs m = some (wiL m qs xs, w', sp) ∧ WI n m qs w'
theorem iWin_step {n : Nat} {m : Int} {qs xs : List Int} {self : WinF} (hn : n ≤ 5) (hm : m ≤ 1) (h : okR n m xs) (H : WinOk n m qs self xs) (w : List (Int × Bool)) (sp : List (Int × Int × Int × Int)) (hw : WI n m qs w) :
  ∃ w', F_p_impl_race_win_B self qs w sp xs m = some ((raV m qs xs).1, w', sp) ∧ WI n m qs w' := by
 unfold F_p_impl_race_win_B
 have hc := iCode_eq hn hm h m
 rw [bnd1_eq hc]
 simp only [nam]
 cases hg : mget w (digP 3 xs n) with
 | some b =>
  rw [ite_t (show (some b).isSome = true from rfl)]
  exact ⟨w, by rw [← hw xs h b hg]; rfl, hw⟩
 | none =>
  obtain ⟨w', e, hw'⟩ := H w sp hw
  rw [ite_f (show (none : Option Bool).isSome = false from rfl), bnd3_eq e, bnd1_eq hc]
  have hwin := wi_win (qs := qs) hn hm h
  have e2 : decide (((List.length (wiL m qs xs) : Nat) : Int) > 0) = (raV m qs xs).1 := by
   rw [hwin]
   by_cases h0 : 0 < (wiL m qs xs).length
   ·rw [decide_eq_true h0, decide_eq_true (by omega)]
   ·rw [decide_eq_false h0, decide_eq_false (by omega)]
  rw [e2]
  exact ⟨_, rfl, WI_put hm hw' h⟩
theorem iLosing_step {n : Nat} {m q : Int} {qs xs : List Int} {self : WinF} (hn : n ≤ 5) (hm : m ≤ 1) (h : okR n m xs) (H : ∀ y, 2 ≤ (openN (ansN m q y xs)).length → WinOk n m qs self (ansN m q y xs)) (w : List (Int × Bool)) (sp : List (Int × Int × Int × Int)) (hw : WI n m qs w) :
  ∃ w', F_p_impl_race_losing_B self qs w sp xs m q = some (loL m qs xs q, w', sp) ∧ WI n m qs w' := by
 unfold F_p_impl_race_losing_B
 simp only [jn]
 rw [chk_pos h.2]
 have hfl := fair_len (m := m) (q := q) (xs := xs)
 refine loop_st (fun k i (s : List Bool × List (Int × Bool) × List (Int × Int × Int × Int)) => F_p_impl_race_losing_B_L1 qs xs m q self (fun o11 o501 o502 => some (o11, o501, o502)) k s.1 s.2.1 s.2.2 i) (fairN m q xs).length
  (fun i s => s.1 = ((fairN m q xs).take i).filter (fun y => decide (2 ≤ (openN (ansN m q y xs)).length) && (raV m qs (ansN m q y xs)).1) ∧ s.2.2 = sp ∧ WI n m qs s.2.1)
  (fun o => ∃ w', o = some (loL m qs xs q, w', sp) ∧ WI n m qs w') ?_ ?_ ([], w, sp) ⟨rfl, rfl, hw⟩ fuel (by have := fuel_ge; omega)
 ·rintro k i ⟨o, w1, sp1⟩ hi ⟨h1, h2, h3⟩
  dsimp only at h1 h2 h3 ⊢
  subst h1 h2
  have hl : (((fairN m q xs).take i).filter (fun y => decide (2 ≤ (openN (ansN m q y xs)).length) && (raV m qs (ansN m q y xs)).1)).length ≤ 2 := Nat.le_trans (List.length_filter_le _ _) (by rw [List.length_take]; omega)
  have hal := h.1
  rw [F_p_impl_race_losing_B_L1, ite_t (decide_eq_true (by omega)), chk_pos ⟨by omega, by omega⟩, Int.toNat_natCast]
  simp only [jn, nam]
  generalize hy : (fairN m q xs).getD i false = y
  have hok : okR n m (ansN m q y xs) := okR_ans h
  rw [chk_pos (by rw [ansN_len]; omega)]
  left
  have ei : ((i : Int) + 1) = ((i + 1 : Nat) : Int) := by omega
  by_cases h2o : 2 ≤ (openN (ansN m q y xs)).length
  ·obtain ⟨w2, e2, hw2⟩ := iWin_step hn hm hok (H y h2o) w1 sp1 h3
   rw [ite_t (decide_eq_true (by omega)), bnd3_eq e2]
   refine ⟨(((fairN m q xs).take (i + 1)).filter (fun y => decide (2 ≤ (openN (ansN m q y xs)).length) && (raV m qs (ansN m q y xs)).1), w2, sp1), ⟨rfl, rfl, hw2⟩, ?_⟩
   rw [filter_take_suc (d := false) hi, hy, decide_eq_true h2o]
   cases (raV m qs (ansN m q y xs)).1 with
   | true => rw [ite_t rfl, chk_pos ⟨by omega, by simp only [maxLen]; omega⟩, chk_pos (by unfold I64; omega), ei]; rfl
   | false => rw [ite_f rfl, chk_pos (by unfold I64; omega), ei]; simp
  ·rw [ite_f (decide_eq_false (by omega)), ite_f rfl, chk_pos (by unfold I64; omega), ei]
   refine ⟨(((fairN m q xs).take (i + 1)).filter (fun y => decide (2 ≤ (openN (ansN m q y xs)).length) && (raV m qs (ansN m q y xs)).1), w1, sp1), ⟨rfl, rfl, h3⟩, ?_⟩
   rw [filter_take_suc (d := false) hi, hy, decide_eq_false h2o]
   simp
 ·rintro k ⟨o, w1, sp1⟩ ⟨h1, h2, h3⟩
  dsimp only at h1 h2 h3 ⊢
  subst h1 h2
  rw [F_p_impl_race_losing_B_L1, ite_f (decide_eq_false (by omega)), List.take_length]
  exact ⟨w1, rfl, h3⟩
theorem iWinning_step {n : Nat} {m : Int} {qs xs : List Int} {self : WinF} (hn : n ≤ 5) (hm : m ≤ 1) (hq : qs.length ≤ 5) (h : okR n m xs) (H : ∀ q ∈ chN qs xs, ∀ y, 2 ≤ (openN (ansN m q y xs)).length → WinOk n m qs self (ansN m q y xs)) (w : List (Int × Bool)) (sp : List (Int × Int × Int × Int)) (hw : WI n m qs w) :
  ∃ w', F_p_impl_race_winning_B self qs w sp xs m = some (wiL m qs xs, w', sp) ∧ WI n m qs w' := by
 unfold F_p_impl_race_winning_B
 simp only [jn]
 have hcl : (chN qs xs).length ≤ 5 := Nat.le_trans (List.length_filter_le _ _) hq
 have hl5 := h.1
 rw [bnd3_eq (iChoices_eq m w sp (by omega) (by omega))]
 refine loop_st (fun k i (s : List Int × List (Int × Bool) × List (Int × Int × Int × Int)) => F_p_impl_race_winning_B_L1 qs xs m self (fun o8 o501 o502 => some (o8, o501, o502)) (chN qs xs) k s.1 s.2.1 s.2.2 i) (chN qs xs).length
  (fun i s => s.1 = ((chN qs xs).take i).filter (fun q => (loL m qs xs q).length == 0) ∧ s.2.2 = sp ∧ WI n m qs s.2.1)
  (fun o => ∃ w', o = some (wiL m qs xs, w', sp) ∧ WI n m qs w') ?_ ?_ ([], w, sp) ⟨rfl, rfl, hw⟩ fuel (by have := fuel_ge; omega)
 ·rintro k i ⟨o, w1, sp1⟩ hi ⟨h1, h2, h3⟩
  dsimp only at h1 h2 h3 ⊢
  subst h1 h2
  have hl : (((chN qs xs).take i).filter (fun q => (loL m qs xs q).length == 0)).length ≤ 5 := Nat.le_trans (List.length_filter_le _ _) (by rw [List.length_take]; omega)
  have hmem : (chN qs xs).getD i 0 ∈ chN qs xs := getD_in (P := fun z => z ∈ chN qs xs) hi fun z hz => hz
  rw [F_p_impl_race_winning_B_L1, ite_t (decide_eq_true (by omega)), chk_pos ⟨by omega, by omega⟩, Int.toNat_natCast]
  obtain ⟨w2, e2, hw2⟩ := iLosing_step hn hm h (H _ hmem) w1 sp1 h3
  rw [bnd3_eq e2]
  left
  have ei : ((i : Int) + 1) = ((i + 1 : Nat) : Int) := by omega
  refine ⟨(((chN qs xs).take (i + 1)).filter (fun q => (loL m qs xs q).length == 0), w2, sp1), ⟨rfl, rfl, hw2⟩, ?_⟩
  rw [filter_take_suc (d := 0) hi]
  generalize (chN qs xs).getD i 0 = q
  rcases Nat.eq_zero_or_pos (loL m qs xs q).length with h0 | h0
  ·rw [ite_t (by rw [h0]; rfl), chk_pos ⟨by omega, by simp only [maxLen]; omega⟩, chk_pos (by unfold I64; omega), ei, h0]; rfl
  ·rw [ite_f (beq_eq_false_iff_ne.2 (by omega)), chk_pos (by unfold I64; omega), ei, if_neg (fun e => by rw [beq_iff_eq] at e; omega)]; simp
 ·rintro k ⟨o, w1, sp1⟩ ⟨h1, h2, h3⟩
  dsimp only at h1 h2 h3 ⊢
  subst h1 h2
  rw [F_p_impl_race_winning_B_L1, ite_f (decide_eq_false (by omega)), List.take_length]
  exact ⟨w1, rfl, h3⟩
theorem iWinning_eq {n : Nat} {m : Int} {qs : List Int} (hn : n ≤ 5) (hm : m ≤ 1) (hq : qs.length ≤ 5) : ∀ (k g : Nat) (xs : List Int), okR n m xs → mu m xs ≤ k → k < g → WinOk n m qs (F_p_impl_race_winning g) xs := by
 intro k
 induction k with
 | zero =>
  intro g xs h h0 hg w sp hw
  obtain ⟨g, rfl⟩ : ∃ x, g = x + 1 := ⟨g - 1, by omega⟩
  rw [F_p_impl_race_winning]
  refine iWinning_step hn hm hq h (fun q hqq => ?_) w sp hw
  rw [mu_zero_ch h.2 (by omega)] at hqq; cases hqq
 | succ k ih =>
  intro g xs h h0 hg w sp hw
  obtain ⟨g, rfl⟩ : ∃ x, g = x + 1 := ⟨g - 1, by omega⟩
  rw [F_p_impl_race_winning]
  refine iWinning_step hn hm hq h (fun q hqq y _ => ?_) w sp hw
  have := mu_less (y := y) h.2 (mem_ch.1 hqq).2
  exact ih g _ (okR_ans h) (by omega) (by omega)
theorem iWinning_top {n : Nat} {m : Int} {qs xs : List Int} (hn : n ≤ 5) (hm : m ≤ 1) (hq : qs.length ≤ 5) (h : okR n m xs) : WinOk n m qs (F_p_impl_race_winning fuel) xs :=
 iWinning_eq hn hm hq (mu m xs) fuel xs h (Nat.le_refl _) (by have := mu_le h.2 hm; have := h.1; have := fuel_ge; omega)
theorem WI_nil (n : Nat) (m : Int) (qs : List Int) : WI n m qs [] := fun ys hy b hb => by cases hb
theorem chB_iff {n : Int} {qs : List Int} (h1 : 1 ≤ qs.length) (h2 : qs.length ≤ 5) : chB n qs = true ↔ ∀ i : Nat, i < qs.length → isQ n (qs.getD i 0) = true ∧ (i = 0 ∨ qs.getD (i - 1) 0 < qs.getD i 0) := by
 unfold chB
 rw [decide_eq_true h1, decide_eq_true h2, Bool.true_and, Bool.true_and, List.all_eq_true]
 simp only [List.mem_range, Bool.and_eq_true, Bool.or_eq_true, decide_eq_true_eq]
def chP (n : Int) (qs : List Int) (i : Int) : Bool := isQ n (qs.getD i.toNat 0) && (decide (i = 0) || decide (qs.getD (i - 1).toNat 0 < qs.getD i.toNat 0))
theorem iAreChoices_eq {n : Int} {qs : List Int} (hq : qs.length ≤ 1048576) : F_impl_areChoices n qs = some (chB n qs) := by
 unfold F_impl_areChoices
 simp only [jn]
 have body : ∀ (k : Nat) (i : Int), 0 ≤ i → i < (qs.length : Int) → F_impl_areChoices_L1 n qs (fun _ => some (decide ((1 : Int) ≤ ((List.length qs : Nat) : Int)) && decide (((List.length qs : Nat) : Int) ≤ (5 : Int)))) (k + 1) i = bif chP n qs i then F_impl_areChoices_L1 n qs (fun _ => some (decide ((1 : Int) ≤ ((List.length qs : Nat) : Int)) && decide (((List.length qs : Nat) : Int) ≤ (5 : Int)))) k (i + 1) else some false := by
  intro k i i0 i1
  rw [F_impl_areChoices_L1, ite_t (decide_eq_true i1), chk_pos ⟨i0, i1⟩]
  simp only [jn]
  unfold chP
  cases isQ n (qs.getD i.toNat 0) with
  | false => rfl
  | true =>
   rw [ite_f (show (!true) = false from rfl), Bool.true_and]
   by_cases h0 : i = 0
   ·subst h0
    rw [ite_f (decide_eq_false (by omega)), ite_f rfl, chk_pos (by unfold I64; omega)]; rfl
   ·rw [ite_t (decide_eq_true (by omega)), chk_pos (by unfold I64; omega), chk_pos ⟨by omega, by omega⟩, decide_eq_false h0, Bool.false_or]
    by_cases h1 : qs.getD (i - 1).toNat 0 < qs.getD i.toNat 0
    ·rw [ite_f (decide_eq_false (by omega)), chk_pos (by unfold I64; omega), decide_eq_true h1]; rfl
    ·rw [ite_t (decide_eq_true (by omega)), decide_eq_false h1]; rfl
 have hi : ∀ (i : Nat), chP n qs (i : Int) = true ↔ isQ n (qs.getD i 0) = true ∧ (i = 0 ∨ qs.getD (i - 1) 0 < qs.getD i 0) := by
  intro i
  unfold chP
  rw [Int.toNat_natCast, show ((i : Int) - 1).toNat = i - 1 by omega, Bool.and_eq_true, Bool.or_eq_true, decide_eq_true_iff, decide_eq_true_iff]
  rw [show ((i : Int) = 0) ↔ i = 0 by omega]
 refine Or.elim (loop_all (fun k i => F_impl_areChoices_L1 n qs (fun _ => some (decide ((1 : Int) ≤ ((List.length qs : Nat) : Int)) && decide (((List.length qs : Nat) : Int) ≤ (5 : Int)))) k i) (qs.length : Int) (chP n qs) (some false) (some (decide ((1 : Int) ≤ ((List.length qs : Nat) : Int)) && decide (((List.length qs : Nat) : Int) ≤ (5 : Int)))) ?_ ?_ ?_ (by omega) fuel (by have := fuel_ge; omega)) ?_ ?_
 ·intro k i i0 i1 hp
  rw [body k i i0 i1, hp]; rfl
 ·intro k i i0 i1 hp
  rw [body k i i0 i1, hp]; rfl
 ·intro k
  rw [F_impl_areChoices_L1, ite_f (decide_eq_false (by omega))]
 ·rintro ⟨e, h⟩
  rw [e]
  congr 1
  by_cases h1 : 1 ≤ qs.length ∧ qs.length ≤ 5
  ·have : chB n qs = true := (chB_iff h1.1 h1.2).2 fun i hii => (hi i).1 (h i (by omega) (by omega))
   rw [this, decide_eq_true (by omega), decide_eq_true (by omega)]; rfl
  ·have : chB n qs = false := by
    unfold chB
    have : (decide (1 ≤ qs.length) && decide (qs.length ≤ 5)) = false := by
     rw [Bool.and_eq_false_iff]
     by_cases h2 : 1 ≤ qs.length
     ·exact .inr (decide_eq_false (by omega))
     ·exact .inl (decide_eq_false h2)
    rw [this]; rfl
   rw [this]
   rw [Bool.and_eq_false_iff]
   by_cases h2 : 1 ≤ qs.length
   ·exact .inr (decide_eq_false (by omega))
   ·exact .inl (decide_eq_false (by omega))
 ·rintro ⟨e, i, i0, i1, i2, _⟩
  rw [e]
  congr 1
  symm
  rw [Bool.eq_false_iff]
  intro hc
  have hcc := chB_in hc
  obtain ⟨j, rfl⟩ := int_nat i0
  have := (hi j).2 ((chB_iff hcc.1 hcc.2.1).1 hc j (by omega))
  rw [this] at i2; cases i2
theorem iGood_eq (xs : List Int) (m : Int) (qs : List Int) (hx : xs.length ≤ 1048576) (hq : qs.length ≤ 1048576) : F_impl_areRaced xs m qs = some (rgB xs m qs) := by
 unfold F_impl_areRaced rgB
 rw [chk_pos (by omega)]
 cases raceN xs m with
 | true => rw [ite_t rfl, bnd1_eq (iAreChoices_eq hq)]; rfl
 | false => rfl
theorem sChoice_eq {xs qs : List Int} (m : Int) (hx : xs.length ≤ 1048576) (hq : qs.length ≤ 1048576) : F_spec_l11Choice xs m qs = some (chB ((xs.length : Nat) : Int) qs) := by
 unfold F_spec_l11Choice
 simp only [jn]
 have eA : (decide (((List.length qs : Nat) : Int) ≥ (1 : Int)) && decide (((List.length qs : Nat) : Int) ≤ (5 : Int))) = (decide ((1 : Int) ≤ ((List.length qs : Nat) : Int)) && decide (((List.length qs : Nat) : Int) ≤ (5 : Int))) := rfl
 rw [eA]
 generalize hn : ((xs.length : Nat) : Int) = n
 have body : ∀ (k : Nat) (i : Int), 0 ≤ i → i < (qs.length : Int) → i ≤ 5 → F_spec_l11Choice_L1 xs qs (fun _ => some (decide ((1 : Int) ≤ ((List.length qs : Nat) : Int)) && decide (((List.length qs : Nat) : Int) ≤ (5 : Int)))) (k + 1) i = bif chP n qs i then F_spec_l11Choice_L1 xs qs (fun _ => some (decide ((1 : Int) ≤ ((List.length qs : Nat) : Int)) && decide (((List.length qs : Nat) : Int) ≤ (5 : Int)))) k (i + 1) else some false := by
  intro k i i0 i1 i5
  rw [F_spec_l11Choice_L1]
  simp only [jn]
  rw [ite_t (decide_eq_true i1), decide_eq_true i5, ite_t rfl, chk_pos ⟨i0, i1⟩, chk_pos (by omega), hn]
  unfold chP
  cases isQ n (qs.getD i.toNat 0) with
  | false => rfl
  | true =>
   rw [ite_f (show (!true) = false from rfl), Bool.true_and]
   by_cases h0 : i = 0
   ·subst h0
    rw [ite_f (decide_eq_false (by omega)), ite_f rfl, chk_pos (by unfold I64; omega)]; rfl
   ·rw [ite_t (decide_eq_true (by omega)), chk_pos (by unfold I64; omega), chk_pos ⟨by omega, by omega⟩, decide_eq_false h0, Bool.false_or]
    by_cases h1 : qs.getD (i - 1).toNat 0 < qs.getD i.toNat 0
    ·rw [ite_f (decide_eq_false (by omega)), chk_pos (by unfold I64; omega), decide_eq_true h1]; rfl
    ·rw [ite_t (decide_eq_true (by omega)), decide_eq_false h1]; rfl
 have stop : ∀ (k : Nat) (i : Int), 0 ≤ i → ¬ (i < (qs.length : Int) ∧ i ≤ 5) → F_spec_l11Choice_L1 xs qs (fun _ => some (decide ((1 : Int) ≤ ((List.length qs : Nat) : Int)) && decide (((List.length qs : Nat) : Int) ≤ (5 : Int)))) (k + 1) i = some (decide ((1 : Int) ≤ ((List.length qs : Nat) : Int)) && decide (((List.length qs : Nat) : Int) ≤ (5 : Int))) := by
  intro k i i0 hh
  rw [F_spec_l11Choice_L1]
  simp only [jn]
  by_cases h1 : i < (qs.length : Int)
  ·rw [ite_t (decide_eq_true h1), decide_eq_false (by omega), ite_f rfl]
  ·rw [ite_f (decide_eq_false h1), ite_f rfl]
 have hi : ∀ (i : Nat), chP n qs (i : Int) = true ↔ isQ n (qs.getD i 0) = true ∧ (i = 0 ∨ qs.getD (i - 1) 0 < qs.getD i 0) := by
  intro i
  unfold chP
  rw [Int.toNat_natCast, show ((i : Int) - 1).toNat = i - 1 by omega, Bool.and_eq_true, Bool.or_eq_true, decide_eq_true_iff, decide_eq_true_iff]
  rw [show ((i : Int) = 0) ↔ i = 0 by omega]
 have hmin : ∃ N : Nat, (N : Int) ≤ qs.length ∧ N ≤ 6 ∧ (N = qs.length ∨ N = 6) := by
  by_cases h6 : qs.length ≤ 6
  ·exact ⟨qs.length, by omega, h6, .inl rfl⟩
  ·exact ⟨6, by omega, by omega, .inr rfl⟩
 obtain ⟨N, n1, n2, n3⟩ := hmin
 refine Or.elim (loop_all (fun k i => F_spec_l11Choice_L1 xs qs (fun _ => some (decide ((1 : Int) ≤ ((List.length qs : Nat) : Int)) && decide (((List.length qs : Nat) : Int) ≤ (5 : Int)))) k i) (N : Int) (chP n qs) (some false) (some (decide ((1 : Int) ≤ ((List.length qs : Nat) : Int)) && decide (((List.length qs : Nat) : Int) ≤ (5 : Int)))) ?_ ?_ ?_ (by omega) fuel (by have := fuel_ge; omega)) ?_ ?_
 ·intro k i i0 i1 hp
  rw [body k i i0 (by omega) (by omega), hp]; rfl
 ·intro k i i0 i1 hp
  rw [body k i i0 (by omega) (by omega), hp]; rfl
 ·intro k
  exact stop k N (by omega) (by omega)
 ·rintro ⟨e, h⟩
  rw [e]
  congr 1
  by_cases h1 : 1 ≤ qs.length ∧ qs.length ≤ 5
  ·have : chB n qs = true := (chB_iff h1.1 h1.2).2 fun i hii => (hi i).1 (h i (by omega) (by omega))
   rw [this, decide_eq_true (by omega), decide_eq_true (by omega)]; rfl
  ·have : chB n qs = false := by
    unfold chB
    have : (decide (1 ≤ qs.length) && decide (qs.length ≤ 5)) = false := by
     rw [Bool.and_eq_false_iff]
     by_cases h2 : 1 ≤ qs.length
     ·exact .inr (decide_eq_false (by omega))
     ·exact .inl (decide_eq_false h2)
    rw [this]; rfl
   rw [this]
   rw [Bool.and_eq_false_iff]
   by_cases h2 : 1 ≤ qs.length
   ·exact .inr (decide_eq_false (by omega))
   ·exact .inl (decide_eq_false (by omega))
 ·rintro ⟨e, i, i0, i1, i2, _⟩
  rw [e]
  congr 1
  symm
  rw [Bool.eq_false_iff]
  intro hc
  have hcc := chB_in hc
  obtain ⟨j, rfl⟩ := int_nat i0
  have := (hi j).2 ((chB_iff hcc.1 hcc.2.1).1 hc j (by omega))
  rw [this] at i2; cases i2
theorem sGood_eq (xs : List Int) (m : Int) (qs : List Int) (hx : xs.length ≤ 1048576) (hq : qs.length ≤ 1048576) : F_spec_l11Good xs m qs = some (rgB xs m qs) := by
 unfold F_spec_l11Good rgB
 rw [chk_pos (by omega)]
 cases raceN xs m with
 | true => rw [ite_t rfl, bnd1_eq (sChoice_eq m hx hq)]; rfl
 | false => rfl
theorem span_in {d j : Nat} {acc x : Int × Int × Int} (hd : d ≤ 9) (hj : j ≤ 10) (ha : accP (d + 1) (10 ^ d) j acc) (hx : good3 d x) {R : Type} (K : Int → Int → Int → Option R) :
  (chk (I64 (x.1 + (1 : Int))) <| jn (fun (o8i : Int) => chk (I64 (acc.2.2 + x.2.2)) <| K (max acc.1 (x.1 + (1 : Int))) o8i (acc.2.2 + x.2.2)) (fun J3 => jn (fun (v78 : Bool) => (bif v78 then chk (I64 (x.2.1 + (1 : Int))) <| J3 (x.2.1 + (1 : Int)) else J3 acc.2.1)) (fun J4 => (bif decide (acc.2.1 < (0 : Int)) then J4 true else chk (I64 (x.2.1 + (1 : Int))) <| J4 (decide ((x.2.1 + (1 : Int)) < acc.2.1)))))) = K (stp acc x).1 (stp acc x).2.1 (stp acc x).2.2 := by
 obtain ⟨h1, h2, h3, h4, h5⟩ := hx
 have hB := pow10_le (d := d) (by omega)
 have hB1 := pow10 d
 have hc : 0 ≤ acc.2.2 ∧ acc.2.2 ≤ 10 * 10 ^ d ∧ -1 ≤ acc.2.1 := by
  rcases ha with ⟨_, rfl⟩ | ⟨_, g2, g3, g4, g5, g6⟩
  ·refine ⟨Int.le_refl 0, ?_, Int.le_refl _⟩; show (0 : Int) ≤ _; omega
  ·have : ((j : Nat) : Int) * 10 ^ d ≤ 10 * 10 ^ d := Int.mul_le_mul_of_nonneg_right (by omega) (by omega)
   omega
 simp only [jn]
 rw [chk_pos (by unfold I64; omega)]
 unfold stp
 dsimp only
 by_cases ha0 : acc.2.1 < 0
 ·rw [ite_t (decide_eq_true ha0), ite_t rfl, chk_pos (by unfold I64; omega), chk_pos (by unfold I64; omega), if_pos (.inl ha0)]
 ·rw [ite_f (decide_eq_false ha0), chk_pos (by unfold I64; omega)]
  by_cases hb0 : x.2.1 + 1 < acc.2.1
  ·rw [decide_eq_true hb0, ite_t rfl, chk_pos (by unfold I64; omega), chk_pos (by unfold I64; omega), if_pos (.inr hb0)]
  ·rw [decide_eq_false hb0, ite_f rfl, chk_pos (by unfold I64; omega), if_neg (by omega)]
theorem foldl_take_suc {α β : Type} {f : β → α → β} {l : List α} {a : β} {d : α} {i : Nat} (h : i < l.length) : (l.take (i + 1)).foldl f a = f ((l.take i).foldl f a) (l.getD i d) := by
 rw [List.take_succ_eq_append_getElem h, List.foldl_append, List.getD_eq_getElem?_getD, List.getElem?_eq_getElem h]; rfl
def SI (n : Nat) (m : Int) (qs : List Int) (s : List (Int × Int × Int × Int)) : Prop := ∀ ys, okR n m ys → ∀ b, mget s (digP 3 ys n) = some b → b = (raV m qs ys).2
theorem SI_put {n : Nat} {m : Int} {qs xs : List Int} {s : List (Int × Int × Int × Int)} (hm : m ≤ 1) (h : SI n m qs s) (hx : okR n m xs) : SI n m qs (mput s (digP 3 xs n) (raV m qs xs).2) := by
 intro ys hy b hb
 rw [mget_put] at hb
 split at hb
 ·rename_i e
  have := dig_inj (.inr rfl) (by omega) hy hx e
  subst this
  exact (Option.some.inj hb).symm
 ·exact h ys hy b hb
abbrev SpanF : Type := (List Int) → (List (Int × Bool)) → (List (Int × Int × Int × Int)) → (List Int) → Int → Option (Int × Int × Int × (List (Int × Bool)) × (List (Int × Int × Int × Int)))
def SpanOk (n : Nat) (m : Int) (qs : List Int) (self : SpanF) (xs : List Int) : Prop := ∀ w s, SI n m qs s → ∃ s', self qs w s xs m = some ((raV m qs xs).2.1, (raV m qs xs).2.2.1, (raV m qs xs).2.2.2, w, s') ∧ SI n m qs s'
theorem iSpan_step {n d : Nat} {m : Int} {qs xs : List Int} {self : SpanF} (hn : n ≤ 5) (hm : m ≤ 1) (hq : qs.length ≤ 5) (h : okR n m xs) (hd : d ≤ 9) (hmu : mu m xs ≤ d + 1) (H : ∀ q ∈ chN qs xs, ∀ y, SpanOk n m qs self (ansN m q y xs)) (w : List (Int × Bool)) (sp : List (Int × Int × Int × Int)) (hs : SI n m qs sp) :
  ∃ s', F_p_impl_race_span_B self qs w sp xs m = some ((raV m qs xs).2.1, (raV m qs xs).2.2.1, (raV m qs xs).2.2.2, w, s') ∧ SI n m qs s' := by
 unfold F_p_impl_race_span_B
 have hl5 := h.1
 have hcl : (chN qs xs).length ≤ 5 := Nat.le_trans (List.length_filter_le _ _) hq
 rw [bnd3_eq (iChoices_eq m w sp (by omega) (by omega))]
 have hcode := iCode_eq hn hm h m
 have hval := raV_eq (qs := qs) hn hm h
 by_cases hc : chN qs xs = []
 ·refine jn_q (Q0 := fun o => ∃ s', o = some ((raV m qs xs).2.1, (raV m qs xs).2.2.1, (raV m qs xs).2.2.2, w, s') ∧ SI n m qs s') (fun J => J true) (fun J => ?_) ?_
  ·rw [chk_pos (by omega)]
   by_cases ho : (openN xs).length < 2
   ·rw [ite_t (decide_eq_true (by omega))]
   ·rw [ite_f (decide_eq_false (by omega)), hc]; rfl
  ·rw [hval]; unfold raS; rw [if_pos hc]
   exact ⟨sp, rfl, hs⟩
 ·have ho : ¬ (openN xs).length < 2 := fun e => hc (ch_few e)
  have hp : 1 ≤ (chN qs xs).length := List.length_pos_iff.2 hc
  refine jn_q (Q0 := fun o => ∃ s', o = some ((raV m qs xs).2.1, (raV m qs xs).2.2.1, (raV m qs xs).2.2.2, w, s') ∧ SI n m qs s') (fun J => J false) (fun J => ?_) ?_
  ·rw [chk_pos (by omega), ite_f (decide_eq_false (by omega)), beq_eq_false_iff_ne.2 (by omega)]
  rw [ite_f rfl, bnd1_eq hcode]
  simp only [nam]
  cases hg : mget sp (digP 3 xs n) with
  | some b =>
   rw [ite_t (show (some b).isSome = true from rfl)]
   exact ⟨sp, by rw [← hs xs h b hg]; rfl, hs⟩
  | none =>
   rw [ite_f (show (none : Option (Int × Int × Int)).isSome = false from rfl)]
   have hS : (raV m qs xs).2 = (chN qs xs).foldl (fun a q => raI m (raV m qs) xs q a) (0, -1, 0) := by rw [hval]; show raS m qs (raV m qs) xs = _; unfold raS; rw [if_neg hc]
   refine jn_q (Q0 := fun o => ∃ s', o = some ((raV m qs xs).2.1, (raV m qs xs).2.2.1, (raV m qs xs).2.2.2, w, s') ∧ SI n m qs s') _ (fun J => rfl) ?_
   refine loop_st (fun k i (s : (Int × Int × Int) × List (Int × Bool) × List (Int × Int × Int × Int)) => F_p_impl_race_span_B_L1 qs xs m self (chN qs xs) (fun o8 o8b o8c o501 o502 => bnd1 (F_impl_State_code xs m) fun r96 => some (o8, o8b, o8c, o501, mput o502 r96 (o8, o8b, o8c))) k s.1.1 s.1.2.1 s.1.2.2 s.2.1 s.2.2 i) (chN qs xs).length
    (fun i s => s.1 = ((chN qs xs).take i).foldl (fun a q => raI m (raV m qs) xs q a) (0, -1, 0) ∧ accP (d + 1) (10 ^ d) (2 * i) s.1 ∧ s.2.1 = w ∧ SI n m qs s.2.2)
    (fun o => ∃ s', o = some ((raV m qs xs).2.1, (raV m qs xs).2.2.1, (raV m qs xs).2.2.2, w, s') ∧ SI n m qs s') ?_ ?_ ((0, -1, 0), w, sp) ⟨rfl, .inl ⟨rfl, rfl⟩, rfl, hs⟩ fuel (by have := fuel_ge; omega)
   ·rintro k i ⟨acc, w1, sp1⟩ hi ⟨h1, h2, h3, h4⟩
    dsimp only at h1 h2 h3 h4 ⊢
    subst h3
    have hmem : (chN qs xs).getD i 0 ∈ chN qs xs := getD_in (P := fun z => z ∈ chN qs xs) hi fun z hz => hz
    have hv := (mem_ch.1 hmem).2
    have hfb := fair_both h.2 hv
    have g1 : good3 d (raV m qs (ansN m ((chN qs xs).getD i 0) false xs)).2 := (ra_good hn hm hq d _ (okR_ans h) (by have := mu_less (y := false) h.2 hv; omega)).1
    have g2 : good3 d (raV m qs (ansN m ((chN qs xs).getD i 0) true xs)).2 := (ra_good hn hm hq d _ (okR_ans h) (by have := mu_less (y := true) h.2 hv; omega)).1
    have p1 := accP_step h2 g1.1 g1.2.1 (show _ + 1 ≤ ((d + 1 : Nat) : Int) by have := g1.2.2.1; omega) g1.2.2.2.1 g1.2.2.2.2
    have p2 := accP_step p1 g2.1 g2.2.1 (show _ + 1 ≤ ((d + 1 : Nat) : Int) by have := g2.2.2.1; omega) g2.2.2.2.1 g2.2.2.2.2
    rw [F_p_impl_race_span_B_L1, ite_t (decide_eq_true (by omega))]
    left
    have hfold : ((chN qs xs).take (i + 1)).foldl (fun a q => raI m (raV m qs) xs q a) (0, -1, 0) = stp (stp acc (raV m qs (ansN m ((chN qs xs).getD i 0) false xs)).2) (raV m qs (ansN m ((chN qs xs).getD i 0) true xs)).2 := by
     rw [foldl_take_suc (d := 0) hi, ← h1, raI_two h.2 hv]
    obtain ⟨s1, e1, i1⟩ := H _ hmem false w1 sp1 h4
    obtain ⟨s2, e2, i2⟩ := H _ hmem true w1 s1 i1
    obtain ⟨f, hf⟩ : ∃ f, fuel = f + 1 + 1 + 1 := ⟨fuel - 3, by have := fuel_ge; omega⟩
    refine ⟨(((chN qs xs).take (i + 1)).foldl (fun a q => raI m (raV m qs) xs q a) (0, -1, 0), w1, s2), ⟨rfl, ?_, rfl, i2⟩, ?_⟩
    ·rw [hfold, show 2 * (i + 1) = 2 * i + 1 + 1 by omega]; exact p2
    ·rw [hfold]
     refine jn_is _ (fun J => rfl) ?_
     have hl2 : (fairN m ((chN qs xs).getD i 0) xs).length = 2 := by rw [hfb]; rfl
     have hg0 : (fairN m ((chN qs xs).getD i 0) xs).getD 0 false = false := by rw [hfb]; rfl
     have hg1 : (fairN m ((chN qs xs).getD i 0) xs).getD 1 false = true := by rw [hfb]; rfl
     have t0 : Int.toNat 0 = 0 := rfl
     have t1 : Int.toNat (0 + 1) = 1 := rfl
     rw [chk_pos ⟨by omega, by omega⟩, chk_pos h.2, hf]
     rw [F_p_impl_race_span_B_L2]
     simp only [Int.toNat_natCast]
     rw [ite_t (decide_eq_true (by omega)), chk_pos ⟨by omega, by omega⟩, t0, hg0, bnd5_eq e1, span_in hd (by omega) h2 g1 (fun a b c => chk (I64 ((0 : Int) + 1)) <| F_p_impl_race_span_B_L2 qs xs m self (chN qs xs) (i : Int) _ (f + 1 + 1) a b c w1 s1 ((0 : Int) + 1)), chk_pos (by unfold I64; omega)]
     rw [F_p_impl_race_span_B_L2]
     simp only [Int.toNat_natCast]
     rw [ite_t (decide_eq_true (by omega)), chk_pos ⟨by omega, by omega⟩, t1, hg1, bnd5_eq e2, span_in hd (by omega) p1 g2 (fun a b c => chk (I64 ((0 : Int) + 1 + 1)) <| F_p_impl_race_span_B_L2 qs xs m self (chN qs xs) (i : Int) _ (f + 1) a b c w1 s2 ((0 : Int) + 1 + 1)), chk_pos (by unfold I64; omega)]
     rw [F_p_impl_race_span_B_L2]
     simp only [Int.toNat_natCast]
     rw [ite_f (decide_eq_false (by omega)), chk_pos (by unfold I64; omega)]
     rfl
   ·rintro k ⟨acc, w1, sp1⟩ ⟨h1, h2, h3, h4⟩
    dsimp only at h1 h2 h3 h4 ⊢
    subst h3
    rw [F_p_impl_race_span_B_L1, ite_f (decide_eq_false (by omega)), bnd1_eq hcode]
    rw [List.take_length, ← hS] at h1
    subst h1
    exact ⟨_, rfl, SI_put hm h4 h⟩
theorem sFair_eq {m q : Int} {xs : List Int} (h : okS xs m) : F_spec_l11Fair xs m q = some (fairN m q xs) := by
 unfold F_spec_l11Fair
 simp only [jn]
 have hl := h.1
 rw [chk_pos h, bnd1_eq (sOpenL_eq _ m (by rw [ansN_len]; omega))]
 have ht := @fair_two m q xs _ _ rfl rfl
 rw [ht]
 by_cases h1 : ((((openN (ansN m q false xs)).length : Nat) : Int) > (0 : Int))
 ·rw [ite_t (decide_eq_true h1), chk_pos h, bnd1_eq (sOpenL_eq _ m (by rw [ansN_len]; omega)), if_pos (decide_eq_true h1)]
  by_cases h2 : ((((openN (ansN m q true xs)).length : Nat) : Int) > (0 : Int))
  ·rw [ite_t (decide_eq_true h2), chk_pos ⟨by decide, by decide⟩, if_pos (decide_eq_true h2)]
  ·rw [ite_f (decide_eq_false h2), if_neg (by rw [decide_eq_false h2]; decide)]; rfl
 ·rw [ite_f (decide_eq_false h1), chk_pos h, bnd1_eq (sOpenL_eq _ m (by rw [ansN_len]; omega)), if_neg (by rw [decide_eq_false h1]; decide)]
  by_cases h2 : ((((openN (ansN m q true xs)).length : Nat) : Int) > (0 : Int))
  ·rw [ite_t (decide_eq_true h2), chk_pos ⟨by decide, by decide⟩, if_pos (decide_eq_true h2)]
  ·rw [ite_f (decide_eq_false h2), if_neg (by rw [decide_eq_false h2]; decide)]; rfl
abbrev Fct : Type := Bool × Bool × Int × Int × Int
def keyI (n : Nat) (m : Int) (ys : List Int) : Nat := (digP (m + 2) ys n).toNat
def factN (n : Nat) (m : Int) (facts : List Fct) (ys : List Int) : Fct := facts.getD (keyI n m ys) (false, false, 0, 0, 0)
structure FI (n : Nat) (m : Int) (qs : List Int) (facts : List Fct) : Prop where
 len : facts.length = ((m + 2) ^ n).toNat
 fact : ∀ ys, okR n m ys → (factN n m facts ys).1 = true → factN n m facts ys = (true, raV m qs ys)
 next : ∀ ys, okR n m ys → (factN n m facts ys).1 = true → ∀ q ∈ chN qs ys, ∀ y, (factN n m facts (ansN m q y ys)).1 = true
def more (n : Nat) (m : Int) (f f' : List Fct) : Prop := ∀ ys, okR n m ys → (factN n m f ys).1 = true → (factN n m f' ys).1 = true
abbrev FillF : Type := (List Int) → Int → (List Int) → (List Fct) → Option (Bool × Bool × Int × Int × Int × (List Fct))
def FillOk (n : Nat) (m : Int) (qs : List Int) (self : FillF) (xs : List Int) : Prop := ∀ f, FI n m qs f → ∃ f', self xs m qs f = some (true, (raV m qs xs).1, (raV m qs xs).2.1, (raV m qs xs).2.2.1, (raV m qs xs).2.2.2, f') ∧ FI n m qs f' ∧ more n m f f' ∧ (factN n m f' xs).1 = true
theorem key_lt {n : Nat} {m : Int} {xs : List Int} {f : List Fct} {qs : List Int} (hn : n ≤ 5) (hm : m ≤ 1) (h : okR n m xs) (hf : FI n m qs f) : 0 ≤ digP (m + 2) xs n ∧ digP (m + 2) xs n < (f.length : Int) := by
 have hb := b23 h.2.2.1 hm
 have hd := digP_in hb (okR_dig (b := m + 2) h (by omega)) n
 have hp := pow23 hb hn
 have := hf.len
 omega
theorem key_ne {n : Nat} {m : Int} {xs ys : List Int} (hm : m ≤ 1) (hx : okR n m xs) (hy : okR n m ys) (h : keyI n m xs = keyI n m ys) : xs = ys := by
 have hb := b23 hx.2.2.1 hm
 have h1 := digP_in hb (okR_dig (b := m + 2) hx (by omega)) n
 have h2 := digP_in hb (okR_dig (b := m + 2) hy (by omega)) n
 unfold keyI at h
 exact dig_inj hb (Int.le_refl _) hx hy (by omega)
theorem factN_set {n : Nat} {m : Int} {qs xs : List Int} {f : List Fct} (hn : n ≤ 5) (hm : m ≤ 1) (hx : okR n m xs) (hf : FI n m qs f) (v : Fct) : factN n m (f.set (keyI n m xs) v) xs = v ∧ ∀ ys, okR n m ys → ys ≠ xs → factN n m (f.set (keyI n m xs) v) ys = factN n m f ys := by
 have hk := key_lt hn hm hx hf
 unfold factN
 constructor
 ·exact set_getD _ _ _ _ (by unfold keyI; omega)
 ·intro ys hy hne
  rw [List.getD_eq_getElem?_getD, List.getElem?_set_ne (fun e => hne (key_ne hm hy hx e.symm)), ← List.getD_eq_getElem?_getD]
theorem FI_put {n : Nat} {m : Int} {qs xs : List Int} {f : List Fct} (hn : n ≤ 5) (hm : m ≤ 1) (hx : okR n m xs) (hf : FI n m qs f) (hc : ∀ q ∈ chN qs xs, ∀ y, (factN n m f (ansN m q y xs)).1 = true) :
  FI n m qs (f.set (keyI n m xs) (true, raV m qs xs)) ∧ more n m f (f.set (keyI n m xs) (true, raV m qs xs)) ∧ (factN n m (f.set (keyI n m xs) (true, raV m qs xs)) xs).1 = true := by
 obtain ⟨e1, e2⟩ := factN_set hn hm hx hf (true, raV m qs xs)
 have hmore : more n m f (f.set (keyI n m xs) (true, raV m qs xs)) := by
  intro ys hy h1
  by_cases e : ys = xs
  ·rw [e, e1]
  ·rw [e2 ys hy e]; exact h1
 refine ⟨⟨by rw [List.length_set]; exact hf.len, fun ys hy h1 => ?_, fun ys hy h1 q hq y => ?_⟩, hmore, by rw [e1]⟩
 ·by_cases e : ys = xs
  ·rw [e, e1]
  ·rw [e2 ys hy e] at h1 ⊢; exact hf.fact ys hy h1
 ·refine hmore _ (okR_ans hy) ?_
  by_cases e : ys = xs
  ·subst e; exact hc q hq y
  ·rw [e2 ys hy e] at h1; exact hf.next ys hy h1 q hq y
theorem maxN_maxR (a b : Int) : maxN a b = max a b := by unfold maxN; split <;> omega
theorem safe_in {α : Type} {safe W : Bool} {l : List Int} (hl : l.length ≤ 1048576) (J : Bool → Option α) : (bif safe then chk (l.length ≤ 1048576) <| (bif decide (((List.length (openN l) : Nat) : Int) < (2 : Int)) then J true else J !W) else J false) = J (safe && !(decide (2 ≤ (openN l).length) && W)) := by
 cases safe with
 | false => rfl
 | true =>
  rw [ite_t rfl, chk_pos hl]
  by_cases h : (openN l).length < 2
  ·rw [ite_t (decide_eq_true (by omega)), decide_eq_false (by omega)]; rfl
  ·rw [ite_f (decide_eq_false (by omega)), decide_eq_true (by omega)]; cases W <;> rfl
theorem sFill_step {n d : Nat} {m : Int} {qs xs : List Int} {self : FillF} (hn : n ≤ 5) (hm : m ≤ 1) (hq : qs.length ≤ 5) (h : okR n m xs) (hd : d ≤ 9) (hmu : mu m xs ≤ d + 1) (H : ∀ q ∈ chN qs xs, ∀ y, FillOk n m qs self (ansN m q y xs)) : FillOk n m qs (fun a b c e => F_spec_l11Fill_B self a b c e) xs := by
 intro f hf
 show ∃ f', F_spec_l11Fill_B self xs m qs f = _ ∧ _
 unfold F_spec_l11Fill_B
 have hl5 := h.1
 have hcl : (chN qs xs).length ≤ 5 := Nat.le_trans (List.length_filter_le _ _) hq
 have hk := key_lt hn hm h hf
 have hval := raV_eq (qs := qs) hn hm h
 rw [bnd1_eq (sKey_eq hn hm h), bnd1_eq (sChoices_eq m (by omega) (by omega)), chk_pos hk]
 have hfact : List.getD f (Int.toNat (digP (m + 2) xs n)) (false, false, 0, 0, 0) = factN n m f xs := rfl
 rw [hfact]
 cases hr : (factN n m f xs).1 with
 | true =>
  rw [ite_t rfl]
  have e := hf.fact xs h hr
  rw [e]
  exact ⟨f, rfl, hf, fun _ _ h => h, hr⟩
 | false =>
  rw [ite_f rfl]
  refine jn_q (Q0 := fun o => ∃ f', o = some (true, (raV m qs xs).1, (raV m qs xs).2.1, (raV m qs xs).2.2.1, (raV m qs xs).2.2.2, f') ∧ FI n m qs f' ∧ more n m f f' ∧ (factN n m f' xs).1 = true) (fun J => J (if chN qs xs = [] then 0 else -1) (if chN qs xs = [] then 1 else 0) (chN qs xs)) (fun J => ?_) ?_
  ·refine jn_is (fun K => K (decide (chN qs xs = []))) (fun K => ?_) ?_
   ·rw [chk_pos (by omega)]
    by_cases ho : (openN xs).length < 2
    ·rw [ite_t (decide_eq_true (by omega)), decide_eq_true (ch_few ho)]
    ·rw [ite_f (decide_eq_false (by omega))]
     by_cases hc : chN qs xs = []
     ·rw [decide_eq_true hc, hc]; rfl
     ·rw [decide_eq_false hc, beq_eq_false_iff_ne.2 (by have := List.length_pos_iff.2 hc; omega)]
   ·by_cases hc : chN qs xs = []
    ·rw [decide_eq_true hc, if_pos hc, if_pos hc, hc]; rfl
    ·rw [decide_eq_false hc, if_neg hc, if_neg hc]; rfl
  refine jn_q (Q0 := fun o => ∃ f', o = some (true, (raV m qs xs).1, (raV m qs xs).2.1, (raV m qs xs).2.2.1, (raV m qs xs).2.2.2, f') ∧ FI n m qs f' ∧ more n m f f' ∧ (factN n m f' xs).1 = true) _ (fun J => rfl) ?_
  let Pq : Int → Bool := fun q => (fairN m q xs).all fun y => !(decide (2 ≤ (openN (ansN m q y xs)).length) && (raV m qs (ansN m q y xs)).1)
  refine loop_st (fun k i (s : List Fct × Bool × (Int × Int × Int)) => F_spec_l11Fill_B_L1 xs m qs self (chN qs xs) _ k s.1 s.2.1 s.2.2.1 s.2.2.2.1 s.2.2.2.2 i) (chN qs xs).length
   (fun i s => FI n m qs s.1 ∧ more n m f s.1 ∧ (∀ q ∈ (chN qs xs).take i, ∀ y, (factN n m s.1 (ansN m q y xs)).1 = true) ∧ s.2.1 = ((chN qs xs).take i).any Pq ∧ ((chN qs xs = [] ∧ s.2.2 = (0, 0, 1)) ∨ (¬ chN qs xs = [] ∧ s.2.2 = ((chN qs xs).take i).foldl (fun a q => raI m (raV m qs) xs q a) (0, -1, 0) ∧ accP (d + 1) (10 ^ d) (2 * i) s.2.2)))
   (fun o => ∃ f', o = some (true, (raV m qs xs).1, (raV m qs xs).2.1, (raV m qs xs).2.2.1, (raV m qs xs).2.2.2, f') ∧ FI n m qs f' ∧ more n m f f' ∧ (factN n m f' xs).1 = true) ?_ ?_ (f, false, (0, if chN qs xs = [] then 0 else -1, if chN qs xs = [] then 1 else 0)) ?_ fuel (by have := fuel_ge; omega)
  ·rintro k i ⟨f1, w1, acc⟩ hi ⟨h1, h2, h3, h4, h5⟩
   dsimp only at h1 h2 h3 h4 h5 ⊢
   left
   have hne : ¬ chN qs xs = [] := fun e => by rw [e] at hi; cases hi
   rcases h5 with ⟨e, _⟩ | ⟨_, h5, h6⟩
   ·exact absurd e hne
   have hmem : (chN qs xs).getD i 0 ∈ chN qs xs := getD_in (P := fun z => z ∈ chN qs xs) hi fun z hz => hz
   have htk : (chN qs xs).take (i + 1) = (chN qs xs).take i ++ [(chN qs xs).getD i 0] := by
    rw [List.take_succ_eq_append_getElem hi, List.getD_eq_getElem?_getD, List.getElem?_eq_getElem hi]; rfl
   have hfold : ((chN qs xs).take (i + 1)).foldl (fun a q => raI m (raV m qs) xs q a) (0, -1, 0) = raI m (raV m qs) xs ((chN qs xs).getD i 0) acc := by
    rw [foldl_take_suc (d := 0) hi, ← h5]
   have hany : ((chN qs xs).take (i + 1)).any Pq = (w1 || Pq ((chN qs xs).getD i 0)) := by
    rw [htk, List.any_append, h4]; simp
   generalize hqe : (chN qs xs).getD i 0 = q at hmem htk hfold hany
   have hv := (mem_ch.1 hmem).2
   have hfb := fair_both h.2 hv
   have g1 : good3 d (raV m qs (ansN m q false xs)).2 := (ra_good hn hm hq d _ (okR_ans h) (by have := mu_less (y := false) h.2 hv; omega)).1
   have g2 : good3 d (raV m qs (ansN m q true xs)).2 := (ra_good hn hm hq d _ (okR_ans h) (by have := mu_less (y := true) h.2 hv; omega)).1
   have p1 := accP_step h6 g1.1 g1.2.1 (show _ + 1 ≤ ((d + 1 : Nat) : Int) by have := g1.2.2.1; omega) g1.2.2.2.1 g1.2.2.2.2
   have p2 := accP_step p1 g2.1 g2.2.1 (show _ + 1 ≤ ((d + 1 : Nat) : Int) by have := g2.2.2.1; omega) g2.2.2.2.1 g2.2.2.2.2
   obtain ⟨f2, e2, i2, m2, r2⟩ := H _ hmem false f1 h1
   obtain ⟨f3, e3, i3, m3, r3⟩ := H _ hmem true f2 i2
   have hPq : Pq q = ((true && !(decide (2 ≤ (openN (ansN m q false xs)).length) && (raV m qs (ansN m q false xs)).1)) && !(decide (2 ≤ (openN (ansN m q true xs)).length) && (raV m qs (ansN m q true xs)).1)) := by
    show (fairN m q xs).all _ = _
    rw [hfb]; simp
   refine ⟨(f3, w1 || Pq q, stp (stp acc (raV m qs (ansN m q false xs)).2) (raV m qs (ansN m q true xs)).2), ⟨i3, fun ys hy hh => m3 ys hy (m2 ys hy (h2 ys hy hh)), fun q' hq' y => ?_, hany.symm, .inr ⟨hne, by rw [hfold, raI_two h.2 hv], by rw [show 2 * (i + 1) = 2 * i + 1 + 1 by omega]; exact p2⟩⟩, ?_⟩
   ·rw [htk] at hq'
    rcases List.mem_append.1 hq' with h9 | h9
    ·exact m3 _ (okR_ans h) (m2 _ (okR_ans h) (h3 q' h9 y))
    ·have : q' = q := by simpa using h9
     subst this
     cases y with
     | false => exact m3 _ (okR_ans h) r2
     | true => exact r3
   ·obtain ⟨fu, hfu⟩ : ∃ fu, fuel = fu + 1 + 1 + 1 := ⟨fuel - 3, by have := fuel_ge; omega⟩
    have hl2 : (fairN m q xs).length = 2 := by rw [hfb]; rfl
    have hg0 : (fairN m q xs).getD 0 false = false := by rw [hfb]; rfl
    have hg1 : (fairN m q xs).getD 1 false = true := by rw [hfb]; rfl
    have t0 : Int.toNat 0 = 0 := rfl
    have t1 : Int.toNat (0 + 1) = 1 := rfl
    have lf : f2.length = f1.length := by rw [i2.len, h1.len]
    have lf3 : f3.length = f2.length := by rw [i2.len, i3.len]
    rw [F_spec_l11Fill_B_L1, ite_t (decide_eq_true (by omega))]
    refine jn_is _ (fun J => rfl) ?_
    rw [chk_pos ⟨by omega, by omega⟩, Int.toNat_natCast, hqe, bnd1_eq (sFair_eq h.2)]
    refine jn_is _ (fun J => rfl) ?_
    rw [hfu, F_spec_l11Fill_B_L2]
    simp only [Int.toNat_natCast, hqe, t0, hg0]
    rw [ite_t (decide_eq_true (by omega)), chk_pos ⟨by omega, by omega⟩, chk_pos h.2, bnd6_eq e2, chk_pos lf]
    refine jn_is _ (fun J => safe_in (by rw [ansN_len]; omega) J) ?_
    simp only [maxN_maxR]
    rw [span_in hd (by omega) h6 g1 (fun a b c => chk (I64 ((0 : Int) + 1)) <| F_spec_l11Fill_B_L2 xs m qs self (chN qs xs) (i : Int) (fairN m q xs) _ (fu + 1 + 1) f2 a b c ((0 : Int) + 1) (true && !(decide (2 ≤ (openN (ansN m q false xs)).length) && (raV m qs (ansN m q false xs)).1))), chk_pos (by unfold I64; omega)]
    rw [F_spec_l11Fill_B_L2]
    simp only [Int.toNat_natCast, hqe, t1, hg1]
    rw [ite_t (decide_eq_true (by omega)), chk_pos ⟨by omega, by omega⟩, chk_pos h.2, bnd6_eq e3, chk_pos lf3]
    refine jn_is _ (fun J => safe_in (by rw [ansN_len]; omega) J) ?_
    simp only [maxN_maxR]
    rw [← hPq, span_in hd (by omega) p1 g2 (fun a b c => chk (I64 ((0 : Int) + 1 + 1)) <| F_spec_l11Fill_B_L2 xs m qs self (chN qs xs) (i : Int) (fairN m q xs) _ (fu + 1) f3 a b c ((0 : Int) + 1 + 1) (Pq q)), chk_pos (by unfold I64; omega)]
    rw [F_spec_l11Fill_B_L2]
    simp only [Int.toNat_natCast]
    rw [ite_f (decide_eq_false (by omega))]
    cases w1 with
    | true => rw [ite_t rfl, chk_pos (by unfold I64; omega)]; rfl
    | false => rw [ite_f rfl, chk_pos (by unfold I64; omega)]; rfl
  ·rintro k ⟨f1, w1, acc⟩ ⟨h1, h2, h3, h4, h5⟩
   dsimp only at h1 h2 h3 h4 h5 ⊢
   rw [List.take_length] at h3 h4 h5
   have hw : w1 = (raV m qs xs).1 := by rw [hval, h4]; rfl
   have hacc : acc = (raV m qs xs).2 := by
    rw [hval]
    show acc = raS m qs (raV m qs) xs
    unfold raS
    rcases h5 with ⟨e, e'⟩ | ⟨e, e', _⟩
    ·rw [if_pos e]; exact e'
    ·rw [if_neg e]; exact e'
   have hk1 := key_lt hn hm h h1
   rw [F_spec_l11Fill_B_L1, ite_f (decide_eq_false (by omega)), chk_pos hk1]
   subst hw hacc
   obtain ⟨q1, q2, q3⟩ := FI_put hn hm h h1 h3
   exact ⟨_, rfl, q1, fun ys hy hh => q2 ys hy (h2 ys hy hh), q3⟩
  ·refine ⟨hf, fun _ _ h => h, fun q hq => by simp at hq, rfl, ?_⟩
   by_cases hc : chN qs xs = []
   ·rw [if_pos hc, if_pos hc]; exact .inl ⟨hc, rfl⟩
   ·rw [if_neg hc, if_neg hc]; exact .inr ⟨hc, rfl, .inl ⟨rfl, rfl⟩⟩
theorem sFill_eq {n : Nat} {m : Int} {qs : List Int} (hn : n ≤ 5) (hm : m ≤ 1) (hq : qs.length ≤ 5) : ∀ (k g : Nat) (xs : List Int), okR n m xs → mu m xs ≤ k → k ≤ 10 → k < g → FillOk n m qs (F_spec_l11Fill g) xs := by
 intro k
 induction k with
 | zero =>
  intro g xs h h0 hk hg f hf
  obtain ⟨g, rfl⟩ : ∃ x, g = x + 1 := ⟨g - 1, by omega⟩
  rw [F_spec_l11Fill]
  refine sFill_step (d := 0) hn hm hq h (by omega) (by omega) (fun q hqq => ?_) f hf
  rw [mu_zero_ch h.2 (by omega)] at hqq; cases hqq
 | succ k ih =>
  intro g xs h h0 hk hg f hf
  obtain ⟨g, rfl⟩ : ∃ x, g = x + 1 := ⟨g - 1, by omega⟩
  rw [F_spec_l11Fill]
  refine sFill_step (d := k) hn hm hq h (by omega) h0 (fun q hqq y => ?_) f hf
  have := mu_less (y := y) h.2 (mem_ch.1 hqq).2
  exact ih g _ (okR_ans h) (by omega) (by omega) (by omega)
theorem sFacts_eq {n : Nat} {m : Int} {qs xs : List Int} (hn : n ≤ 5) (hm : m ≤ 1) (hq : qs.length ≤ 5) (h : okR n m xs) : ∃ f, F_spec_l11Facts xs m qs = some f ∧ FI n m qs f ∧ (factN n m f xs).1 = true := by
 unfold F_spec_l11Facts
 have hb := b23 h.2.2.1 hm
 have hl5 := h.1
 have hp := pow23 hb hn
 refine jn_q (Q0 := fun o => ∃ f, o = some f ∧ FI n m qs f ∧ (factN n m f xs).1 = true) (fun J => J ((m + 2) ^ n)) (fun J => ?_) ?_
 ·rw [show F_spec_l11Facts_L1 xs m J fuel 0 1 = F_spec_l11Facts_L1 xs m J fuel 0 ((m + 2) ^ Int.toNat 0) from by rw [show Int.toNat 0 = 0 from rfl, Int.pow_zero]]
  refine loop_up (fun k i s => F_spec_l11Facts_L1 xs m J k i s) (n : Int) (fun i => (m + 2) ^ i.toNat) _ ?_ ?_ (by omega) fuel (by have := fuel_ge; omega)
  ·intro k i i0 i1
   obtain ⟨j, rfl⟩ := int_nat i0
   have e1 : ((j : Int) + 1).toNat = j + 1 := by omega
   have hpj := pow23 hb (j := j) (by omega)
   have hpj1 := pow23 hb (j := j + 1) (by omega)
   simp only [Int.toNat_natCast, e1]
   rw [F_spec_l11Facts_L1, ite_t (decide_eq_true (by omega)), chk_pos (by unfold I64; omega), show (m + 2) ^ j * (m + 2) = (m + 2) ^ (j + 1) from (Int.pow_succ _ _).symm, chk_pos (by unfold I64; omega), chk_pos (by unfold I64; omega)]
  ·intro k
   simp only [Int.toNat_natCast]
   rw [F_spec_l11Facts_L1, ite_f (decide_eq_false (by omega))]
 ·rw [chk_pos ⟨by omega, by omega, by omega, by simp only [maxLen]; omega⟩]
  have hf0 : FI n m qs (List.replicate (Int.toNat ((m + 2) ^ n)) (false, false, (0 : Int), (0 : Int), (0 : Int))) := by
   have hno : ∀ ys, (factN n m (List.replicate (Int.toNat ((m + 2) ^ n)) (false, false, (0 : Int), (0 : Int), (0 : Int))) ys).1 = false := by
    intro ys
    unfold factN
    rw [List.getD_eq_getElem?_getD, List.getElem?_replicate]
    split <;> rfl
   exact ⟨by simp, fun ys _ e => (by rw [hno] at e; cases e), fun ys _ e => (by rw [hno] at e; cases e)⟩
  have hmu := mu_le h.2 hm
  obtain ⟨f', e, h1, h2, h3⟩ := sFill_eq hn hm hq (mu m xs) fuel xs h (Nat.le_refl _) (by omega) (by have := fuel_ge; omega) _ hf0
  rw [bnd6_eq e, chk_pos (by rw [h1.len, hf0.len])]
  exact ⟨f', rfl, h1, h3⟩
theorem fact_at {n : Nat} {m : Int} {qs xs : List Int} {f : List Fct} (hf : FI n m qs f) (h : okR n m xs) (hr : (factN n m f xs).1 = true) : List.getD f (Int.toNat (digP (m + 2) xs n)) (false, false, 0, 0, 0) = (true, raV m qs xs) := hf.fact xs h hr
theorem sLosing_eq {n : Nat} {m q : Int} {qs xs : List Int} {f : List Fct} (hn : n ≤ 5) (hm : m ≤ 1) (h : okR n m xs) (hf : FI n m qs f) (hc : ∀ y, (factN n m f (ansN m q y xs)).1 = true) : F_spec_l11Losing xs m q f = some (loL m qs xs q) := by
 unfold F_spec_l11Losing
 rw [bnd1_eq (sFair_eq h.2)]
 simp only [jn]
 have hfl : (fairN m q xs).length ≤ 2 := fairP_len 2
 have hl5 := h.1
 refine loop_st (fun k i (s : List Bool) => F_spec_l11Losing_L1 xs m q f (fairN m q xs) (fun o11 => some o11) k s i) (fairN m q xs).length
  (fun i s => s = ((fairN m q xs).take i).filter (fun y => decide (2 ≤ (openN (ansN m q y xs)).length) && (raV m qs (ansN m q y xs)).1))
  (fun o => o = some (loL m qs xs q)) ?_ ?_ [] rfl fuel (by have := fuel_ge; omega)
 ·rintro k i o hi rfl
  have hl : (((fairN m q xs).take i).filter (fun y => decide (2 ≤ (openN (ansN m q y xs)).length) && (raV m qs (ansN m q y xs)).1)).length ≤ 2 := Nat.le_trans (List.length_filter_le _ _) (by rw [List.length_take]; omega)
  left
  refine ⟨_, rfl, ?_⟩
  rw [filter_take_suc (d := false) hi, F_spec_l11Losing_L1, ite_t (decide_eq_true (by omega)), chk_pos ⟨by omega, by omega⟩, chk_pos h.2]
  obtain ⟨y, hye⟩ : ∃ y, (fairN m q xs).getD i false = y := ⟨_, rfl⟩
  simp only [Int.toNat_natCast, hye]
  have hok : okR n m (ansN m q y xs) := okR_ans h
  have ei : ((i : Int) + 1) = ((i + 1 : Nat) : Int) := by omega
  refine jn_is (fun J => J (decide (2 ≤ (openN (ansN m q y xs)).length) && (raV m qs (ansN m q y xs)).1)) (fun J => ?_) ?_
  ·rw [chk_pos (by rw [ansN_len]; omega)]
   by_cases h2 : (openN (ansN m q y xs)).length < 2
   ·rw [decide_eq_true (show (((openN (ansN m q y xs)).length : Nat) : Int) < 2 by omega), ite_f (show (!true) = false from rfl), decide_eq_false (by omega)]; rfl
   ·rw [decide_eq_false (show ¬ (((openN (ansN m q y xs)).length : Nat) : Int) < 2 by omega), ite_t (show (!false) = true from rfl), bnd1_eq (sKey_eq hn hm hok), chk_pos (key_lt hn hm hok hf), fact_at hf hok (hc y), decide_eq_true (by omega)]; rfl
  ·cases decide (2 ≤ (openN (ansN m q y xs)).length) && (raV m qs (ansN m q y xs)).1 with
   | true => rw [ite_t rfl, chk_pos ⟨by omega, by simp only [maxLen]; omega⟩, chk_pos (by unfold I64; omega), ei]; rfl
   | false => rw [ite_f rfl, chk_pos (by unfold I64; omega), ei]; simp
 ·rintro k o rfl
  rw [F_spec_l11Losing_L1, ite_f (decide_eq_false (by omega)), List.take_length]
  rfl
theorem sWinning_eq {n : Nat} {m : Int} {qs xs : List Int} {f : List Fct} (hn : n ≤ 5) (hm : m ≤ 1) (hq : qs.length ≤ 5) (h : okR n m xs) (hf : FI n m qs f) (hr : (factN n m f xs).1 = true) : F_spec_l11Winning xs m qs f = some (wiL m qs xs) := by
 unfold F_spec_l11Winning
 have hl5 := h.1
 rw [bnd1_eq (sChoices_eq m (by omega) (by omega))]
 simp only [jn]
 have hcl : (chN qs xs).length ≤ 5 := Nat.le_trans (List.length_filter_le _ _) hq
 refine loop_st (fun k i (s : List Int) => F_spec_l11Winning_L1 xs m f (chN qs xs) (fun o10 => some o10) k s i) (chN qs xs).length
  (fun i s => s = ((chN qs xs).take i).filter (fun q => (loL m qs xs q).length == 0))
  (fun o => o = some (wiL m qs xs)) ?_ ?_ [] rfl fuel (by have := fuel_ge; omega)
 ·rintro k i o hi rfl
  have hl : (((chN qs xs).take i).filter (fun q => (loL m qs xs q).length == 0)).length ≤ 5 := Nat.le_trans (List.length_filter_le _ _) (by rw [List.length_take]; omega)
  have hmem : (chN qs xs).getD i 0 ∈ chN qs xs := getD_in (P := fun z => z ∈ chN qs xs) hi fun z hz => hz
  left
  refine ⟨_, rfl, ?_⟩
  rw [filter_take_suc (d := 0) hi, F_spec_l11Winning_L1, ite_t (decide_eq_true (by omega)), chk_pos ⟨by omega, by omega⟩, Int.toNat_natCast]
  generalize (chN qs xs).getD i 0 = q at hmem
  have ei : ((i : Int) + 1) = ((i + 1 : Nat) : Int) := by omega
  rw [bnd1_eq (sLosing_eq hn hm h hf (hf.next xs h hr q hmem))]
  rcases Nat.eq_zero_or_pos (loL m qs xs q).length with h0 | h0
  ·rw [ite_t (by rw [h0]; rfl), chk_pos ⟨by omega, by simp only [maxLen]; omega⟩, chk_pos (by unfold I64; omega), ei, h0]; rfl
  ·rw [ite_f (beq_eq_false_iff_ne.2 (by omega)), chk_pos (by unfold I64; omega), ei, if_neg (fun e => by rw [beq_iff_eq] at e; omega)]; simp
 ·rintro k o rfl
  rw [F_spec_l11Winning_L1, ite_f (decide_eq_false (by omega)), List.take_length]
  rfl
def rwV (xs : List Int) (m : Int) (qs : List Int) : Bool := rgB xs m qs && (raV m qs xs).1
theorem iRaceWins_eq (xs : List Int) (m : Int) (qs : List Int) (hx : xs.length ≤ 1048576) (hq : qs.length ≤ 1048576) : F_impl_RaceWins xs m qs = some (rwV xs m qs, rgB xs m qs) := by
 unfold F_impl_RaceWins rwV F_impl_newRace
 rw [bnd1_eq (iGood_eq xs m qs hx hq)]
 rcases Bool.eq_false_or_eq_true (rgB xs m qs) with h | h
 ·obtain ⟨g1, g2, g3, g4, g5, g6, g7, g8, _⟩ := rg_in h
  obtain ⟨w', e, _⟩ := iWin_step g3 g5 g1 (iWinning_top g3 g5 g8 g1) [] [] (WI_nil _ _ _)
  rw [h, ite_f (show (!true) = false from rfl), bnd3_eq rfl, bnd3_eq e]; rfl
 ·rw [h]; rfl
theorem iSpan_eq {n : Nat} {m : Int} {qs : List Int} (hn : n ≤ 5) (hm : m ≤ 1) (hq : qs.length ≤ 5) : ∀ (k g : Nat) (xs : List Int), okR n m xs → mu m xs ≤ k → k ≤ 10 → k < g → SpanOk n m qs (F_p_impl_race_span g) xs := by
 intro k
 induction k with
 | zero =>
  intro g xs h h0 hk hg w s hs
  obtain ⟨g, rfl⟩ : ∃ x, g = x + 1 := ⟨g - 1, by omega⟩
  rw [F_p_impl_race_span]
  refine iSpan_step (d := 0) hn hm hq h (by omega) (by omega) (fun q hqq => ?_) w s hs
  rw [mu_zero_ch h.2 (by omega)] at hqq; cases hqq
 | succ k ih =>
  intro g xs h h0 hk hg w s hs
  obtain ⟨g, rfl⟩ : ∃ x, g = x + 1 := ⟨g - 1, by omega⟩
  rw [F_p_impl_race_span]
  refine iSpan_step (d := k) hn hm hq h (by omega) h0 (fun q hqq y => ?_) w s hs
  have := mu_less (y := y) h.2 (mem_ch.1 hqq).2
  exact ih g _ (okR_ans h) (by omega) (by omega) (by omega)
def spV (xs : List Int) (m : Int) (qs : List Int) : Int × Int × Int := bif rgB xs m qs then (raV m qs xs).2 else (0, 0, 0)
theorem iSpanOf_eq (xs : List Int) (m : Int) (qs : List Int) (i : Int) (hi : 0 ≤ i ∧ i < 3) (hx : xs.length ≤ 1048576) (hq : qs.length ≤ 1048576) : F_impl_spanOf xs m qs i = some (idx3 (spV xs m qs).1 (spV xs m qs).2.1 (spV xs m qs).2.2 i, rgB xs m qs) := by
 unfold F_impl_spanOf spV F_impl_newRace
 rw [bnd1_eq (iGood_eq xs m qs hx hq)]
 rcases Bool.eq_false_or_eq_true (rgB xs m qs) with h | h
 ·obtain ⟨g1, g2, g3, g4, g5, g6, g7, g8, _⟩ := rg_in h
  have hmu := mu_le g1.2 g5
  obtain ⟨s', e, _⟩ := iSpan_eq g3 g5 g8 (mu m xs) fuel xs g1 (Nat.le_refl _) (by omega) (by have := fuel_ge; omega) [] [] (fun ys hy b hb => by cases hb)
  rw [h, ite_f (show (!true) = false from rfl), bnd3_eq rfl, bnd5_eq e, chk_pos hi]; rfl
 ·rw [h]
  rw [ite_t (show (!false) = true from rfl)]
  congr 2
  unfold idx3
  show (0 : Int) = if i = 0 then 0 else if i = 1 then 0 else 0
  split <;> (try split) <;> rfl
theorem iLongestRace_eq (xs : List Int) (m : Int) (qs : List Int) (hx : xs.length ≤ 1048576) (hq : qs.length ≤ 1048576) : F_impl_LongestRace xs m qs = some ((spV xs m qs).1, rgB xs m qs) := by
 unfold F_impl_LongestRace; rw [bnd2_eq (iSpanOf_eq xs m qs 0 (by omega) hx hq)]; rfl
theorem iShortestRace_eq (xs : List Int) (m : Int) (qs : List Int) (hx : xs.length ≤ 1048576) (hq : qs.length ≤ 1048576) : F_impl_ShortestRace xs m qs = some ((spV xs m qs).2.1, rgB xs m qs) := by
 unfold F_impl_ShortestRace; rw [bnd2_eq (iSpanOf_eq xs m qs 1 (by omega) hx hq)]; rfl
theorem sHas_eq (xs : List Int) (x : Int) (hx : xs.length ≤ 1048576) : F_spec_l1Has xs x = some (decide (x ∈ xs)) := by
 unfold F_spec_l1Has
 simp only [jn]
 refine Or.elim (loop_all (fun m i => F_spec_l1Has_L1 xs x (fun _ => some false) m i) (xs.length : Int) (fun i => !(xs.getD i.toNat 0 == x)) (some true) (some false) ?_ ?_ ?_ (by omega) fuel (by have := fuel_ge; omega)) ?_ ?_
 ·intro m i i0 i1 hp
  rw [F_spec_l1Has_L1, ite_t (decide_eq_true i1), chk_pos ⟨i0, i1⟩, ite_f (by simpa using hp), chk_pos (by unfold I64; omega)]
 ·intro m i i0 i1 hp
  rw [F_spec_l1Has_L1, ite_t (decide_eq_true i1), chk_pos ⟨i0, i1⟩, ite_t (by simpa using hp)]
 ·intro m
  rw [F_spec_l1Has_L1, ite_f (decide_eq_false (by omega))]
 ·rintro ⟨e, h⟩
  rw [e, decide_eq_false]
  intro hm
  obtain ⟨i, hi, rfl⟩ := List.getElem_of_mem hm
  have := h i (by omega) (by omega)
  simp [List.getD_eq_getElem?_getD, hi] at this
 ·rintro ⟨e, i, i0, i1, hp, _⟩
  rw [e, decide_eq_true]
  have : xs.getD i.toNat 0 = x := by simpa using hp
  rw [← this]
  exact getD_in (P := fun z => z ∈ xs) (by omega) fun z hz => hz
def laB (xs : List Int) (m : Int) (qs : List Int) (q : Int) : Bool := rgB xs m qs && decide (q ∈ chN qs xs)
def laV (xs : List Int) (m : Int) (qs : List Int) (q : Int) : List Bool := bif laB xs m qs q then loL m qs xs q else []
theorem laV_len (xs : List Int) (m : Int) (qs : List Int) (q : Int) : (laV xs m qs q).length ≤ 2 := by
 unfold laV
 cases laB xs m qs q with
 | true => exact Nat.le_trans (List.length_filter_le _ _) fair_len
 | false => exact Nat.zero_le _
theorem iLA_eq (xs : List Int) (m : Int) (qs : List Int) (q : Int) (hx : xs.length ≤ 1048576) (hq : qs.length ≤ 1048576) : F_impl_LosingAnswers xs m qs q = some (laV xs m qs q, laB xs m qs q) := by
 unfold F_impl_LosingAnswers laV laB F_impl_newRace
 rw [bnd1_eq (iGood_eq xs m qs hx hq)]
 rcases Bool.eq_false_or_eq_true (rgB xs m qs) with h | h
 ·obtain ⟨g1, g2, g3, g4, g5, g6, g7, g8, _⟩ := rg_in h
  obtain ⟨w', e, _⟩ := iLosing_step (q := q) g3 g5 g1 (fun y hy => iWinning_top g3 g5 g8 (okR_ans g1)) [] [] (WI_nil _ _ _)
  rw [h, ite_f (show (!true) = false from rfl), bnd3_eq rfl]
  have hcl : (chN qs xs).length ≤ 5 := Nat.le_trans (List.length_filter_le _ _) g8
  simp only [jn]
  rw [bnd3_eq (iChoices_eq m [] [] (by omega) (by omega))]
  refine Or.elim (loop_all (fun k i => F_impl_LosingAnswers_L1 xs m q qs (fun _ => some (([] : List Bool), false)) (chN qs xs) [] [] k i) ((chN qs xs).length : Int) (fun i => !((chN qs xs).getD i.toNat 0 == q)) (some (loL m qs xs q, true)) (some ([], false)) ?_ ?_ ?_ (by omega) fuel (by have := fuel_ge; omega)) ?_ ?_
  ·intro k i i0 i1 hp
   rw [F_impl_LosingAnswers_L1, ite_t (decide_eq_true i1), chk_pos ⟨i0, i1⟩, ite_f (by simpa using hp), chk_pos (by unfold I64; omega)]
  ·intro k i i0 i1 hp
   rw [F_impl_LosingAnswers_L1, ite_t (decide_eq_true i1), chk_pos ⟨i0, i1⟩, ite_t (by simpa using hp), bnd3_eq e]
  ·intro k
   rw [F_impl_LosingAnswers_L1, ite_f (decide_eq_false (by omega))]
  ·rintro ⟨e, h⟩
   rw [e, decide_eq_false]
   ·rfl
   intro hm
   obtain ⟨i, hi, rfl⟩ := List.getElem_of_mem hm
   have := h i (by omega) (by omega)
   simp [List.getD_eq_getElem?_getD, hi] at this
  ·rintro ⟨e, i, i0, i1, hp, _⟩
   rw [e, decide_eq_true]
   ·rfl
   have : (chN qs xs).getD i.toNat 0 = q := by simpa using hp
   rw [← this]
   exact getD_in (P := fun z => z ∈ chN qs xs) (by omega) fun z hz => hz
 ·rw [h]; rfl
theorem sLA_eq (xs : List Int) (m : Int) (qs : List Int) (q : Int) (hx : xs.length ≤ 1048576) (hq : qs.length ≤ 1048576) : F_spec_LosingAnswers xs m qs q = some (laV xs m qs q, laB xs m qs q) := by
 unfold F_spec_LosingAnswers laV laB
 simp only [jn]
 rw [bnd1_eq (sGood_eq xs m qs hx hq)]
 rcases Bool.eq_false_or_eq_true (rgB xs m qs) with h | h
 ·obtain ⟨g1, g2, g3, g4, g5, g6, g7, g8, _⟩ := rg_in h
  obtain ⟨f, e, hf, hr⟩ := sFacts_eq g3 g5 g8 g1
  have hcl : (chN qs xs).length ≤ 5 := Nat.le_trans (List.length_filter_le _ _) g8
  rw [h, ite_f (show (!true) = false from rfl), bnd1_eq (sChoices_eq m (by omega) (by omega)), bnd1_eq (sHas_eq _ q (by omega))]
  by_cases hm : q ∈ chN qs xs
  ·rw [decide_eq_true hm, ite_f (show (!true) = false from rfl), bnd1_eq e, bnd1_eq (sLosing_eq g3 g5 g1 hf (hf.next xs g1 hr q hm))]; rfl
  ·rw [decide_eq_false hm, ite_t (show (!false) = true from rfl)]; rfl
 ·rw [h]; rfl
theorem tm2 (k : Nat) : 0 ≤ Int.tmod ((k : Nat) : Int) 2 ∧ Int.tmod ((k : Nat) : Int) 2 ≤ 1 := by
 have h1 := Int.tmod_nonneg (a := ((k : Nat) : Int)) 2 (by omega)
 have h2 := Int.tmod_lt_of_pos ((k : Nat) : Int) (b := 2) (by omega)
 omega
def fstQ (m : Int) (qs xs : List Int) : Int := (wiL m qs xs ++ chN qs xs).getD 0 0
def fstY (m : Int) (qs xs : List Int) : Bool := (loL m qs xs (fstQ m qs xs) ++ fairN m (fstQ m qs xs) xs).getD 0 false
def pyR (m : Int) (qs : List Int) : Nat → List Int → List (Int × Bool) → List (Int × Bool) × Int
 | 0, _, as => (as, 0)
 | k + 1, xs, as => if chN qs xs = [] then (as, 1 - Int.tmod ((as.length : Nat) : Int) 2) else
   if (openN (ansN m (fstQ m qs xs) (fstY m qs xs) xs)).length < 2 then (as ++ [(fstQ m qs xs, fstY m qs xs)], Int.tmod ((as.length : Nat) : Int) 2)
   else pyR m qs k (ansN m (fstQ m qs xs) (fstY m qs xs) xs) (as ++ [(fstQ m qs xs, fstY m qs xs)])
theorem fstQ_in {m : Int} {qs xs : List Int} (h : chN qs xs ≠ []) : fstQ m qs xs ∈ chN qs xs ∧ (wiL m qs xs ≠ [] → fstQ m qs xs ∈ wiL m qs xs) := by
 unfold fstQ
 cases hw : wiL m qs xs with
 | nil =>
  cases hc : chN qs xs with
  | nil => exact absurd hc h
  | cons a l => exact ⟨List.mem_cons_self, fun h => absurd rfl h⟩
 | cons a l =>
  have : a ∈ wiL m qs xs := by rw [hw]; exact List.mem_cons_self
  exact ⟨(List.mem_filter.1 this).1, fun _ => List.mem_cons_self⟩
theorem fstY_in {m : Int} {qs xs : List Int} (hl : loL m qs xs (fstQ m qs xs) ≠ []) : fstY m qs xs ∈ loL m qs xs (fstQ m qs xs) := by
 unfold fstY
 cases hw : loL m qs xs (fstQ m qs xs) with
 | nil => exact absurd hw hl
 | cons a l => exact List.mem_cons_self
theorem wi_len {m : Int} {qs xs : List Int} (hq : qs.length ≤ 5) : (wiL m qs xs).length ≤ 5 ∧ (chN qs xs).length ≤ 5 := by
 have h2 : (chN qs xs).length ≤ 5 := Nat.le_trans (List.length_filter_le _ _) hq
 exact ⟨Nat.le_trans (List.length_filter_le _ _) h2, h2⟩
theorem lo_len {m q : Int} {qs xs : List Int} : (loL m qs xs q).length ≤ 2 := Nat.le_trans (List.length_filter_le _ _) fair_len
theorem iPlay_eq {n : Nat} {m : Int} {qs : List Int} (hn : n ≤ 5) (hm : m ≤ 1) (hq : qs.length ≤ 5) : ∀ (k g : Nat) (xs : List Int) (as : List (Int × Bool)) (w : List (Int × Bool)) (sp : List (Int × Int × Int × Int)), okR n m xs → mu m xs ≤ k → k < g → as.length + k ≤ 100 → WI n m qs w → F_impl_PlayRace_L1 m qs g xs as w sp = some ((pyR m qs (k + 1) xs as).1, (pyR m qs (k + 1) xs as).2, true) := by
 intro k
 induction k with
 | zero =>
  intro g xs as w sp h h0 hg ha hw
  obtain ⟨g, rfl⟩ : ∃ x, g = x + 1 := ⟨g - 1, by omega⟩
  have hl := h.1
  have ht := tm2 as.length
  have hc := mu_zero_ch (qs := qs) h.2 (by omega)
  rw [F_impl_PlayRace_L1, pyR, if_pos hc]
  simp only [nam]
  rw [bnd3_eq (iChoices_eq m w sp (by omega) (by omega)), hc, ite_t (show (((List.length ([] : List Int) : Nat) : Int) == 0) = true from rfl), chk_pos (by unfold I64; omega)]
 | succ k ih =>
  intro g xs as w sp h h0 hg ha hw
  obtain ⟨g, rfl⟩ : ∃ x, g = x + 1 := ⟨g - 1, by omega⟩
  have hl := h.1
  have ht := tm2 as.length
  rw [F_impl_PlayRace_L1, pyR]
  simp only [nam]
  rw [bnd3_eq (iChoices_eq m w sp (by omega) (by omega))]
  by_cases hc : chN qs xs = []
  ·rw [if_pos hc, hc, ite_t (show (((List.length ([] : List Int) : Nat) : Int) == 0) = true from rfl), chk_pos (by unfold I64; omega)]
  ·have hcl : 0 < (chN qs xs).length := List.length_pos_iff.2 hc
   obtain ⟨w', e, hw'⟩ := iWinning_top hn hm hq h w sp hw
   have hq1 := wi_len (m := m) (xs := xs) hq
   have hmem := (fstQ_in (m := m) hc).1
   have hv := (mem_ch.1 hmem).2
   have hfb := fair_both h.2 hv
   obtain ⟨w2, e2, hw2⟩ := iLosing_step (q := fstQ m qs xs) hn hm h (fun y hy => iWinning_top hn hm hq (okR_ans h)) w' sp hw'
   have hll := lo_len (m := m) (q := fstQ m qs xs) (qs := qs) (xs := xs)
   have hfl : (fairN m (fstQ m qs xs) xs).length = 2 := by rw [hfb]; rfl
   have hmu := mu_less (y := fstY m qs xs) h.2 hv
   rw [if_neg hc, ite_f (beq_eq_false_iff_ne.2 (by omega)), bnd3_eq e, chk_pos ⟨by omega, by simp only [maxLen]; omega⟩, chk_pos ⟨by omega, by omega⟩]
   simp only [show (wiL m qs xs ++ chN qs xs).getD 0 0 = fstQ m qs xs from rfl]
   rw [bnd3_eq e2, chk_pos h.2, chk_pos ⟨by omega, by simp only [maxLen]; omega⟩, chk_pos ⟨by omega, by omega⟩, chk_pos ⟨by omega, by simp only [maxLen]; omega⟩]
   simp only [show (loL m qs xs (fstQ m qs xs) ++ fairN m (fstQ m qs xs) xs).getD 0 false = fstY m qs xs from rfl]
   rw [chk_pos (by rw [ansN_len]; omega)]
   by_cases h2 : (openN (ansN m (fstQ m qs xs) (fstY m qs xs) xs)).length < 2
   ·rw [if_pos h2, ite_t (decide_eq_true (by omega))]
   ·rw [if_neg h2, ite_f (decide_eq_false (by omega))]
    exact ih g _ _ _ _ (okR_ans h) (by omega) (by omega) (by rw [List.length_append, List.length_singleton]; omega) hw2
theorem sPlay_eq {n : Nat} {m : Int} {qs : List Int} {f : List Fct} (hn : n ≤ 5) (hm : m ≤ 1) (hq : qs.length ≤ 5) (hf : FI n m qs f) : ∀ (k g : Nat) (xs : List Int) (as : List (Int × Bool)), okR n m xs → mu m xs ≤ k → k < g → as.length + k ≤ 100 → (factN n m f xs).1 = true → F_spec_PlayRace_L1 m qs f g xs as = some ((pyR m qs (k + 1) xs as).1, (pyR m qs (k + 1) xs as).2, true) := by
 intro k
 induction k with
 | zero =>
  intro g xs as h h0 hg ha hr
  obtain ⟨g, rfl⟩ : ∃ x, g = x + 1 := ⟨g - 1, by omega⟩
  have hl := h.1
  have ht := tm2 as.length
  have hc := mu_zero_ch (qs := qs) h.2 (by omega)
  have hwz : wiL m qs xs = [] := by unfold wiL; rw [hc]; rfl
  rw [F_spec_PlayRace_L1, pyR, if_pos hc]
  simp only [nam]
  rw [bnd1_eq (sWinning_eq hn hm hq h hf hr), bnd1_eq (sChoices_eq m (by omega) (by omega)), hc, hwz, chk_pos ⟨by decide, by decide⟩, ite_t (show (((List.length ([] : List Int) + List.length ([] : List Int) : Nat) : Int) == 0) = true from rfl), chk_pos (by unfold I64; omega)]
 | succ k ih =>
  intro g xs as h h0 hg ha hr
  obtain ⟨g, rfl⟩ : ∃ x, g = x + 1 := ⟨g - 1, by omega⟩
  have hl := h.1
  have ht := tm2 as.length
  have hq1 := wi_len (m := m) (xs := xs) hq
  rw [F_spec_PlayRace_L1, pyR]
  simp only [nam]
  rw [bnd1_eq (sWinning_eq hn hm hq h hf hr), bnd1_eq (sChoices_eq m (by omega) (by omega)), chk_pos ⟨by omega, by simp only [maxLen]; omega⟩]
  by_cases hc : chN qs xs = []
  ·have hwz : wiL m qs xs = [] := by unfold wiL; rw [hc]; rfl
   rw [if_pos hc, hc, hwz, ite_t (show (((List.length ([] : List Int) + List.length ([] : List Int) : Nat) : Int) == 0) = true from rfl), chk_pos (by unfold I64; omega)]
  ·have hcl : 0 < (chN qs xs).length := List.length_pos_iff.2 hc
   have hmem := (fstQ_in (m := m) hc).1
   have hv := (mem_ch.1 hmem).2
   have hfb := fair_both h.2 hv
   have hll := lo_len (m := m) (q := fstQ m qs xs) (qs := qs) (xs := xs)
   have hfl : (fairN m (fstQ m qs xs) xs).length = 2 := by rw [hfb]; rfl
   have hmu := mu_less (y := fstY m qs xs) h.2 hv
   rw [if_neg hc, ite_f (beq_eq_false_iff_ne.2 (by omega)), chk_pos ⟨by omega, by omega⟩]
   simp only [show (wiL m qs xs ++ chN qs xs).getD 0 0 = fstQ m qs xs from rfl]
   rw [bnd1_eq (sLosing_eq hn hm h hf (hf.next xs h hr _ hmem)), bnd1_eq (sFair_eq h.2), chk_pos ⟨by omega, by simp only [maxLen]; omega⟩, chk_pos ⟨by omega, by omega⟩, chk_pos h.2, chk_pos ⟨by omega, by simp only [maxLen]; omega⟩]
   simp only [show (loL m qs xs (fstQ m qs xs) ++ fairN m (fstQ m qs xs) xs).getD 0 false = fstY m qs xs from rfl]
   rw [chk_pos (by rw [ansN_len]; omega)]
   by_cases h2 : (openN (ansN m (fstQ m qs xs) (fstY m qs xs) xs)).length < 2
   ·rw [if_pos h2, ite_t (decide_eq_true (by omega)), chk_pos (by unfold I64; omega), show (((List.length as + 1 : Nat) : Int) - 1) = ((as.length : Nat) : Int) by omega]
   ·rw [if_neg h2, ite_f (decide_eq_false (by omega))]
    exact ih g _ _ (okR_ans h) (by omega) (by omega) (by rw [List.length_append, List.length_singleton]; omega) (hf.next xs h hr _ hmem _)
def pyV (xs : List Int) (m : Int) (qs : List Int) : List (Int × Bool) × Int := bif rgB xs m qs then pyR m qs (mu m xs + 1) xs [] else ([], 0)
theorem iPR_eq (xs : List Int) (m : Int) (qs : List Int) (hx : xs.length ≤ 1048576) (hq : qs.length ≤ 1048576) : F_impl_PlayRace xs m qs = some ((pyV xs m qs).1, (pyV xs m qs).2, rgB xs m qs) := by
 unfold F_impl_PlayRace pyV F_impl_newRace
 rw [bnd1_eq (iGood_eq xs m qs hx hq)]
 rcases Bool.eq_false_or_eq_true (rgB xs m qs) with h | h
 ·obtain ⟨g1, g2, g3, g4, g5, g6, g7, g8, _⟩ := rg_in h
  have hmu := mu_le g1.2 g5
  rw [h, ite_f (show (!true) = false from rfl), bnd3_eq rfl, iPlay_eq g3 g5 g8 (mu m xs) fuel xs [] [] [] g1 (Nat.le_refl _) (by have := fuel_ge; omega) (by simp only [List.length_nil]; omega) (WI_nil _ _ _)]; rfl
 ·rw [h]; rfl
theorem sPR_eq (xs : List Int) (m : Int) (qs : List Int) (hx : xs.length ≤ 1048576) (hq : qs.length ≤ 1048576) : F_spec_PlayRace xs m qs = some ((pyV xs m qs).1, (pyV xs m qs).2, rgB xs m qs) := by
 unfold F_spec_PlayRace pyV
 rw [bnd1_eq (sGood_eq xs m qs hx hq)]
 rcases Bool.eq_false_or_eq_true (rgB xs m qs) with h | h
 ·obtain ⟨g1, g2, g3, g4, g5, g6, g7, g8, _⟩ := rg_in h
  have hmu := mu_le g1.2 g5
  obtain ⟨f, e, hf, hr⟩ := sFacts_eq g3 g5 g8 g1
  rw [h, ite_f (show (!true) = false from rfl), bnd1_eq e, sPlay_eq g3 g5 g8 hf (mu m xs) fuel xs [] g1 (Nat.le_refl _) (by have := fuel_ge; omega) (by simp only [List.length_nil]; omega) hr]; rfl
 ·rw [h]; rfl
theorem pyR_len (m : Int) (qs : List Int) : ∀ (k : Nat) (xs : List Int) (as : List (Int × Bool)), (pyR m qs k xs as).1.length ≤ as.length + k
 | 0, _, _ => Nat.le_refl _
 | k + 1, xs, as => by
  rw [pyR]
  split
  ·dsimp only; omega
  ·split
   ·simp only [List.length_append, List.length_singleton]; omega
   ·have := pyR_len m qs k (ansN m (fstQ m qs xs) (fstY m qs xs) xs) (as ++ [(fstQ m qs xs, fstY m qs xs)])
    rw [List.length_append, List.length_singleton] at this; omega
theorem pyV_len (xs : List Int) (m : Int) (qs : List Int) : (pyV xs m qs).1.length ≤ 11 := by
 unfold pyV
 rcases Bool.eq_false_or_eq_true (rgB xs m qs) with h | h
 ·obtain ⟨g1, g2, g3, g4, g5, g6, g7, g8, _⟩ := rg_in h
  have hmu := mu_le g1.2 g5
  have := pyR_len m qs (mu m xs + 1) xs []
  rw [h]; simp only [cond_true, List.length_nil] at *; omega
 ·rw [h]; exact Nat.zero_le _
theorem jn_p {γ δ : Type} {Q0 : Option δ → Prop} {f : γ} {g : γ → Option δ} (P : γ → Prop) (hf : P f) (hg : ∀ J, P J → Q0 (g J)) : Q0 (jn f g) := by
 unfold jn; exact hg f hf
theorem sPutL_ok (xs : List Int) (x : Int) (hx : xs.length ≤ 1000) (J : Int → Option (List Int)) (Q : Option (List Int) → Prop) (hJ : ∀ i : Nat, i ≤ xs.length → Q (J (i : Int))) : Q (F_spec_l1Put_L1 xs x J fuel 0) := by
 refine loop_st (fun k i (_ : Unit) => F_spec_l1Put_L1 xs x J k i) xs.length (fun _ _ => True) Q ?_ ?_ () trivial fuel (by have := fuel_ge; omega)
 ·rintro k i ⟨⟩ hi _
  rw [F_spec_l1Put_L1]
  simp only [jn]
  rw [ite_t (decide_eq_true (by omega)), chk_pos ⟨by omega, by omega⟩]
  rcases Bool.eq_false_or_eq_true (decide (List.getD xs (Int.toNat (i : Int)) 0 < x)) with h | h
  ·left
   rw [ite_t h, chk_pos (by unfold I64; omega)]
   exact ⟨(), trivial, rfl⟩
  ·right
   rw [ite_f h]
   exact hJ i (by omega)
 ·rintro k ⟨⟩ _
  rw [F_spec_l1Put_L1]
  simp only [jn]
  rw [ite_f (decide_eq_false (by omega)), ite_f rfl]
  exact hJ _ (Nat.le_refl _)
theorem sPut_ok (xs : List Int) (x : Int) (hx : xs.length ≤ 1000) (hn : x ∉ xs) : ∃ r, F_spec_l1Put xs x = some r ∧ r.length = xs.length + 1 := by
 unfold F_spec_l1Put
 refine jn_q (Q0 := fun o => ∃ r : List Int, o = some r ∧ r.length = xs.length + 1) (fun J : Int → Option (List Int) => F_spec_l1Put_L1 xs x J fuel 0) (fun J => rfl) ?_
 refine sPutL_ok xs x hx _ (fun o => ∃ r : List Int, o = some r ∧ r.length = xs.length + 1) fun i hi => ?_
 refine jn_q (Q0 := fun o => ∃ r : List Int, o = some r ∧ r.length = xs.length + 1) (fun J : Bool → Option (List Int) => J false) (fun J => ?_) ?_
 ·by_cases h : (i : Int) < ((xs.length : Nat) : Int)
  ·rw [ite_t (decide_eq_true h), chk_pos ⟨by omega, h⟩, Int.toNat_natCast, beq_eq_false_iff_ne.2]
   intro e
   exact hn (e ▸ getD_in (P := fun z => z ∈ xs) (by omega) fun z hz => hz)
  ·rw [ite_f (decide_eq_false h)]
 ·have e1 : (List.take (Int.toNat (i : Int) - Int.toNat 0) (List.drop (Int.toNat 0) xs)).length = i := by simp; omega
  have e2 : (List.take (Int.toNat ((List.length xs : Nat) : Int) - Int.toNat (i : Int)) (List.drop (Int.toNat (i : Int)) xs)).length = xs.length - i := by simp
  rw [ite_f rfl, chk_pos ⟨by omega, by omega, by omega⟩, chk_pos ⟨by omega, by simp only [maxLen]; omega⟩, chk_pos ⟨by omega, by simp only [maxLen]; omega⟩, chk_pos ⟨by omega, by omega, by omega⟩, chk_pos ⟨by omega, by simp only [maxLen]; omega⟩]
  exact ⟨_, rfl, by rw [List.length_append, List.length_append, e1, e2, List.length_singleton]; omega⟩
theorem shortC_ok {bs : List Int} {p s : Int} (hy : okY bs) (h0 : 0 ≤ p) (h1 : p ≤ 600000000000) : ∃ xs m p' s', F_p_spec_l1Cur_short bs p s = some (xs, m, bs, p', s') ∧ p ≤ p' ∧ p' ≤ p + 110 ∧ -1 ≤ m ∧ m ≤ 3 ∧ xs.length ≤ 13 ∧ (∀ x ∈ xs, -1 ≤ x ∧ x ≤ 4) := by
 unfold F_p_spec_l1Cur_short
 obtain ⟨b, p1, s1, e1, g0, g1⟩ := one_ok (s := s) (n := 12) hy h0 (by omega)
 rw [bnd4_eq e1]
 cases b with
 | true =>
  obtain ⟨xs, m, p2, s2, e2, k0, k1, k2⟩ := state_ok (s := s1) (p := p1) hy (by omega) (by omega)
  rw [ite_t rfl, bnd5_eq e2]
  exact ⟨_, _, _, _, rfl, by omega, by omega, k2⟩
 | false =>
  obtain ⟨m, p2, s2, e2, k0, k1, k2, k3⟩ := pick_ok (s := s1) (n := 2) hy (p := p1) (by omega) (by omega)
  have k3 := k3 (by omega)
  rw [ite_f rfl, bnd4_eq e2]
  let Q : Option (List Int × Int × List Int × Int × Int) → Prop := fun o => ∃ xs m p' s', o = some (xs, m, bs, p', s') ∧ p ≤ p' ∧ p' ≤ p + 110 ∧ -1 ≤ m ∧ m ≤ 3 ∧ xs.length ≤ 13 ∧ (∀ x ∈ xs, -1 ≤ x ∧ x ≤ 4)
  refine jn_p (Q0 := Q) (fun J => ∀ pp ss xs, p ≤ pp → pp ≤ p + 110 → xs.length ≤ 13 → (∀ x ∈ xs, -1 ≤ x ∧ x ≤ 4) → Q (J bs pp ss xs)) (fun pp ss xs a1 a2 a3 a4 => ⟨_, _, _, _, rfl, a1, a2, by omega, by omega, a3, a4⟩) fun J hJ => ?_
  obtain ⟨k, p3, s3, e3, w0, w1, w2⟩ := among_ok (s := s2) (p := p2) (xs := [(4 : Int), (5 : Int), (3 : Int), (3 : Int), (2 : Int), (1 : Int), (4 : Int), (6 : Int)]) hy (by omega) (by omega) (by decide)
  have hk : 1 ≤ k ∧ k ≤ 6 := by
   simp only [List.mem_cons, List.not_mem_nil, or_false] at w2
   omega
  rw [bnd4_eq e3]
  refine loop_m (fun n (z : Int × Int × List Int × Int) => F_p_spec_l1Cur_short_L1 m J n bs z.1 z.2.1 z.2.2.1 z.2.2.2) (fun z => 0 ≤ z.2.2.2 ∧ z.2.2.2 ≤ k ∧ p ≤ z.1 ∧ z.1 ≤ p + 10 + 2 * (k - z.2.2.2) ∧ (z.2.2.1.length : Int) = k - z.2.2.2 ∧ ∀ x ∈ z.2.2.1, -1 ≤ x ∧ x ≤ 4) (fun z => z.2.2.2.toNat) Q ?_ fuel (p3, s3, [], k) ⟨by simp only; omega, by simp only; omega, by simp only; omega, by simp only; omega, by simp, fun x hx => by cases hx⟩ (by have := fuel_ge; simp only; omega)
  rintro n ⟨pp, ss, xs, i⟩ ⟨i0, i1, q0, q1, ql, qx⟩
  simp only at i0 i1 q0 q1 ql qx ⊢
  rw [F_p_spec_l1Cur_short_L1]
  by_cases hi : i > 0
  ·obtain ⟨v, p4, s4, e4, y0, y1, y2⟩ := among_ok (s := ss) (p := pp) (xs := [(0 : Int), (0 : Int), m, (-1 : Int), (0 : Int)]) hy (by omega) (by omega) (by simp)
   have hv : -1 ≤ v ∧ v ≤ 4 := by
    simp only [List.mem_cons, List.not_mem_nil, or_false] at y2
    omega
   rw [ite_t (decide_eq_true hi), bnd4_eq e4, chk_pos ⟨by omega, by simp only [maxLen]; omega⟩, chk_pos (by unfold I64; omega)]
   refine .inl ⟨(p4, s4, xs ++ [v], i - 1), ⟨by simp only; omega, by simp only; omega, by simp only; omega, by simp only; omega, by simp only [List.length_append, List.length_singleton]; omega, fun x hx => ?_⟩, by simp only; omega, rfl⟩
   rcases List.mem_append.1 hx with h | h
   ·exact qx x h
   ·simp only [List.mem_cons, List.not_mem_nil, or_false] at h
    omega
  ·rw [ite_f (decide_eq_false hi)]
   exact .inr (hJ pp ss xs q0 (by omega) (by omega) qx)
theorem start_ok (n m : Int) (h0 : 0 ≤ n) (h1 : n ≤ 100) : F_spec_l2Start n m = some (List.replicate n.toNat 0, m) := by
 unfold F_spec_l2Start
 rw [chk_pos ⟨h0, by omega, by omega, by simp only [maxLen]; omega⟩]
theorem raceL_ok {bs ys : List Int} {p s k : Int} (hy : okY bs) (h0 : 0 ≤ p) (h1 : p ≤ 700000000000) (hk : 1 ≤ k ∧ k ≤ 3) (J : List Int → Int → Int → List Int → Option (List Int × Int × List Int × List Int × Int × Int)) (Q : Option (List Int × Int × List Int × List Int × Int × Int) → Prop) (hJ : ∀ pp ss xs, p ≤ pp → pp ≤ p + 12 → 1 ≤ xs.length → xs.length ≤ 3 → Q (J bs pp ss xs)) : Q (F_p_spec_l1Cur_race_L1 ys J fuel bs p s [] k) := by
 refine loop_m (fun n (z : Int × Int × List Int × Int) => F_p_spec_l1Cur_race_L1 ys J n bs z.1 z.2.1 z.2.2.1 z.2.2.2) (fun z => 0 ≤ z.2.2.2 ∧ z.2.2.2 ≤ k ∧ p ≤ z.1 ∧ z.1 ≤ p + 4 * (k - z.2.2.2) ∧ (z.2.2.1.length : Int) ≤ k - z.2.2.2 ∧ (z.2.2.2 = k ∨ 1 ≤ z.2.2.1.length)) (fun z => z.2.2.2.toNat) Q ?_ fuel (p, s, [], k) ⟨by simp only; omega, by simp only; omega, by simp only; omega, by simp only; omega, by simp, .inl rfl⟩ (by have := fuel_ge; simp only; omega)
 rintro n ⟨pp, ss, xs, i⟩ ⟨i0, i1, q0, q1, ql, qx⟩
 simp only at i0 i1 q0 q1 ql qx ⊢
 rw [F_p_spec_l1Cur_race_L1]
 by_cases hi : i > 0
 ·obtain ⟨v, p4, s4, e4, y0, y1, y2⟩ := question_ok (s := ss) (p := pp) (n := ((List.length ys : Nat) : Int)) hy (by omega) (by omega)
  rw [ite_t (decide_eq_true hi), bnd4_eq e4, bnd1_eq (sHas_eq xs v (by omega))]
  by_cases hv : v ∈ xs
  ·have := List.length_pos_of_mem hv
   rw [decide_eq_true hv, ite_f (show (!true) = false from rfl), chk_pos (by unfold I64; omega)]
   exact .inl ⟨(p4, s4, xs, i - 1), ⟨by simp only; omega, by simp only; omega, by simp only; omega, by simp only; omega, by simp only; omega, by simp only; omega⟩, by simp only; omega, rfl⟩
  ·obtain ⟨r, er, hr⟩ := sPut_ok xs v (by omega) hv
   rw [decide_eq_false hv, ite_t (show (!false) = true from rfl), bnd1_eq er, chk_pos (by unfold I64; omega)]
   exact .inl ⟨(p4, s4, r, i - 1), ⟨by simp only; omega, by simp only; omega, by simp only; omega, by simp only; omega, by simp only; omega, by simp only; omega⟩, by simp only; omega, rfl⟩
 ·rw [ite_f (decide_eq_false hi)]
  exact .inr (hJ pp ss xs q0 (by omega) (by omega) (by omega))
theorem raceC_ok {bs : List Int} {p s : Int} (hy : okY bs) (h0 : 0 ≤ p) (h1 : p ≤ 500000000000) : ∃ xs m qs p' s', F_p_spec_l1Cur_race bs p s = some (xs, m, qs, bs, p', s') ∧ p ≤ p' ∧ p' ≤ p + 200 ∧ -1 ≤ m ∧ m ≤ 3 ∧ xs.length ≤ 13 ∧ (∀ x ∈ xs, -1 ≤ x ∧ x ≤ 4) ∧ qs.length ≤ 6 := by
 unfold F_p_spec_l1Cur_race
 obtain ⟨xs, m, p1, s1, e1, g0, g1, g2, g3, g4, g5⟩ := shortC_ok (s := s) (p := p) hy h0 (by omega)
 rw [bnd5_eq e1]
 let Q : Option (List Int × Int × List Int × List Int × Int × Int) → Prop := fun o => ∃ xs m qs p' s', o = some (xs, m, qs, bs, p', s') ∧ p ≤ p' ∧ p' ≤ p + 200 ∧ -1 ≤ m ∧ m ≤ 3 ∧ xs.length ≤ 13 ∧ (∀ x ∈ xs, -1 ≤ x ∧ x ≤ 4) ∧ qs.length ≤ 6
 refine jn_p (Q0 := Q) (fun J => ∀ pp ss xs m, p ≤ pp → pp ≤ p + 120 → -1 ≤ m → m ≤ 3 → xs.length ≤ 13 → (∀ x ∈ xs, -1 ≤ x ∧ x ≤ 4) → Q (J bs pp ss xs m)) (fun pp ss xs m a1 a2 a3 a4 a5 a6 => ?_) fun J hJ => ?_
 ·refine jn_p (Q0 := Q) (fun J => ∀ pp ss qs, p ≤ pp → pp ≤ p + 150 → 1 ≤ qs.length → qs.length ≤ 3 → Q (J bs pp ss qs)) (fun pp ss qs b1 b2 b3 b4 => ?_) fun J hJ => ?_
  ·refine jn_p (Q0 := Q) (fun J => ∀ pp ss qs, p ≤ pp → pp ≤ p + 200 → qs.length ≤ 6 → Q (J bs pp ss qs)) (fun pp ss qs b1 b2 b3 => ⟨_, _, _, _, _, rfl, b1, b2, a3, a4, a5, a6, b3⟩) fun J hJ => ?_
   obtain ⟨v, p4, s4, e4, y0, y1, y2⟩ := pick_ok (s := ss) (p := pp) (n := 40) hy (by omega) (by omega)
   rw [bnd4_eq e4]
   rcases Bool.eq_false_or_eq_true (v == (0 : Int)) with h | h
   ·rw [ite_t h]; exact hJ _ _ _ (by omega) (by omega) (by simp)
   ·rw [ite_f h]
    rcases Bool.eq_false_or_eq_true (v == (1 : Int)) with h | h
    ·rw [ite_t h, chk_pos ⟨by omega, by omega⟩, chk_pos ⟨by omega, by simp only [maxLen]; omega⟩]; exact hJ _ _ _ (by omega) (by omega) (by rw [List.length_append, List.length_singleton]; omega)
    ·rw [ite_f h]
     rcases Bool.eq_false_or_eq_true (v == (2 : Int)) with h | h
     ·rw [ite_t h]; exact hJ _ _ _ (by omega) (by omega) (by simp)
     ·rw [ite_f h]; exact hJ _ _ _ (by omega) (by omega) (by omega)
  ·obtain ⟨k, p3, s3, e3, w0, w1, w2⟩ := among_ok (s := ss) (p := pp) (xs := [(2 : Int), (1 : Int), (3 : Int), (2 : Int), (1 : Int)]) hy (by omega) (by omega) (by decide)
   have hk : 1 ≤ k ∧ k ≤ 3 := by
    simp only [List.mem_cons, List.not_mem_nil, or_false] at w2
    omega
   rw [bnd4_eq e3]
   exact raceL_ok hy (by omega) (by omega) hk J Q fun pp ss qs c1 c2 c3 c4 => hJ _ _ _ (by omega) (by omega) c3 c4
 ·obtain ⟨b, p2, s2, e2, k0, k1⟩ := one_ok (s := s1) (p := p1) (n := 3) hy (by omega) (by omega)
  rw [bnd4_eq e2]
  cases b with
  | false => rw [ite_f rfl]; exact hJ _ _ _ _ (by omega) (by omega) g2 g3 g4 g5
  | true =>
   obtain ⟨u, p3, s3, e3, w0, w1, w2, w3⟩ := pick_ok (s := s2) (p := p2) (n := 3) hy (by omega) (by omega)
   obtain ⟨v, p4, s4, e4, y0, y1, y2, y3⟩ := pick_ok (s := s3) (p := p3) (n := 2) hy (by omega) (by omega)
   have w3 := w3 (by omega)
   have y3 := y3 (by omega)
   rw [ite_t rfl, bnd4_eq e3, chk_pos (by unfold I64; omega), bnd4_eq e4, bnd2_eq (start_ok (2 + u) v (by omega) (by omega))]
   refine hJ _ _ _ _ (by omega) (by omega) (by omega) (by omega) (by rw [List.length_replicate]; omega) fun x hx => ?_
   have := List.eq_of_mem_replicate hx
   omega
theorem drawIsChoice_ok {bs : List Int} (hy : okY bs) : ∃ xs m qs, F_spec_DrawIsChoice bs = some (xs, m, qs) ∧ -1 ≤ m ∧ m ≤ 3 ∧ xs.length ≤ 13 ∧ (∀ x ∈ xs, -1 ≤ x ∧ x ≤ 4) ∧ qs.length ≤ 6 := by
 unfold F_spec_DrawIsChoice
 obtain ⟨xs, m, qs, p', s', e, h1, h2, h3⟩ := raceC_ok (s := 0) (p := 0) hy (by omega) (by omega)
 rw [bnd6_eq e]
 exact ⟨_, _, _, rfl, h3⟩
theorem rg_chB {xs : List Int} {m : Int} {qs : List Int} (h : rgB xs m qs = true) : chB ((xs.length : Nat) : Int) qs = true := by
 unfold rgB at h; rw [Bool.and_eq_true] at h; exact h.2
theorem ra_all {n : Nat} {m : Int} {qs xs : List Int} (hn : n ≤ 5) (hm : m ≤ 1) (hq : qs.length ≤ 5) (h : okR n m xs) :
  0 ≤ (raV m qs xs).2.2.1 ∧ (raV m qs xs).2.2.1 ≤ (raV m qs xs).2.1 ∧ (raV m qs xs).2.1 ≤ 10 ∧ 1 ≤ (raV m qs xs).2.2.2 ∧ ((raV m qs xs).2.1 = 0 ↔ chN qs xs = []) := by
 have hmu := mu_le h.2 hm
 have hl := h.1
 obtain ⟨⟨a1, a2, a3, a4, a5⟩, a6⟩ := ra_good (qs := qs) hn hm hq 10 xs h (by omega)
 exact ⟨a1, a2, by omega, a4, a6⟩
theorem ok_state {n : Nat} {m : Int} {xs : List Int} (h : okR n m xs) (h1 : 1 ≤ n) : isStateN xs m = true := isState_ok h.2 (by rw [h.1]; exact h1)
def hitR (x a : Int × Int × Int) : Prop := x.1 + 1 ≤ a.1 ∧ 0 ≤ a.2.1 ∧ a.2.1 ≤ x.2.1 + 1
theorem stp_hit {a x : Int × Int × Int} (hx : 0 ≤ x.2.1) : hitR x (stp a x) := by
 unfold hitR stp
 dsimp only
 refine ⟨by omega, ?_, ?_⟩
 ·split <;> omega
 ·split <;> omega
theorem stp_keep {a x z : Int × Int × Int} (h : hitR x a) (hz : 0 ≤ z.2.1) : hitR x (stp a z) := by
 obtain ⟨h1, h2, h3⟩ := h
 unfold hitR stp
 dsimp only
 refine ⟨by omega, ?_, ?_⟩
 ·split <;> omega
 ·split <;> omega
theorem ra_hit {n : Nat} {m : Int} {qs xs : List Int} (hn : n ≤ 5) (hm : m ≤ 1) (hq : qs.length ≤ 5) (h : okR n m xs) {q : Int} (hc : q ∈ chN qs xs) (y : Bool) : hitR (raV m qs (ansN m q y xs)).2 (raV m qs xs).2 := by
 have hne : chN qs xs ≠ [] := fun e => by rw [e] at hc; cases hc
 have e2 : (raV m qs xs).2 = (chN qs xs).foldl (fun a q => raI m (raV m qs) xs q a) (0, -1, 0) := by
  rw [raV_eq hn hm h]
  show raS m qs (raV m qs) xs = _
  unfold raS; rw [if_neg hne]
 rw [e2]
 have pos : ∀ q' y', 0 ≤ (raV m qs (ansN m q' y' xs)).2.2.1 := fun q' y' => (ra_all hn hm hq (okR_ans h)).1
 have keep : ∀ (l : List Int) (a : Int × Int × Int), (∀ z ∈ l, z ∈ chN qs xs) → hitR (raV m qs (ansN m q y xs)).2 a → hitR (raV m qs (ansN m q y xs)).2 (l.foldl (fun a q => raI m (raV m qs) xs q a) a) := by
  intro l
  induction l with
  | nil => intro a _ hh; exact hh
  | cons z l ih =>
   intro a hl hh
   rw [List.foldl_cons, raI_two h.2 (mem_ch.1 (hl z List.mem_cons_self)).2]
   exact ih _ (fun w hw => hl w (List.mem_cons_of_mem _ hw)) (stp_keep (stp_keep hh (pos _ _)) (pos _ _))
 have go : ∀ (l : List Int) (a : Int × Int × Int), (∀ z ∈ l, z ∈ chN qs xs) → q ∈ l → hitR (raV m qs (ansN m q y xs)).2 (l.foldl (fun a q => raI m (raV m qs) xs q a) a) := by
  intro l
  induction l with
  | nil => intro a _ hh; cases hh
  | cons z l ih =>
   intro a hl hh
   rw [List.foldl_cons]
   by_cases e : q = z
   ·subst e
    refine keep l _ (fun w hw => hl w (List.mem_cons_of_mem _ hw)) ?_
    rw [raI_two h.2 (mem_ch.1 hc).2]
    cases y with
    | false => exact stp_keep (stp_hit (pos _ _)) (pos _ _)
    | true => exact stp_hit (pos _ _)
   ·rcases List.mem_cons.1 hh with h9 | h9
    ·exact absurd h9 e
    ·exact ih _ (fun w hw => hl w (List.mem_cons_of_mem _ hw)) h9
 exact go _ _ (fun z hz => hz) hc
def trc (m : Int) (qs : List Int) : List Int → List (Int × Bool) → Prop
 | _, [] => True
 | xs, a :: l => a.1 ∈ chN qs xs ∧ 1 ≤ (openN (ansN m a.1 a.2 xs)).length ∧ (l ≠ [] → 2 ≤ (openN (ansN m a.1 a.2 xs)).length) ∧ trc m qs (ansN m a.1 a.2 xs) l
theorem tm2_up (k : Nat) : Int.tmod (((k + 1 : Nat)) : Int) 2 = 1 - Int.tmod ((k : Nat) : Int) 2 := by
 rw [Int.tmod_eq_emod_of_nonneg (by omega), Int.tmod_eq_emod_of_nonneg (by omega)]; omega
theorem fair_open {m q : Int} {xs : List Int} (h : okS xs m) (hv : vainN xs q = false) (y : Bool) : 1 ≤ (openN (ansN m q y xs)).length := by
 obtain ⟨⟨i, a1, a2, a3⟩, ⟨j, b1, b2, b3⟩⟩ := not_vain hv
 cases y with
 | true => exact List.length_pos_of_mem (mem_open.2 ⟨i, by rw [ansN_len]; exact a1, by rw [ans_getD a1, lie_no (by unfold falseB; rw [a3]; rfl)]; exact a2, rfl⟩)
 | false => exact List.length_pos_of_mem (mem_open.2 ⟨j, by rw [ansN_len]; exact b1, by rw [ans_getD b1, lie_no (by unfold falseB; rw [b3]; rfl)]; exact b2, rfl⟩)
theorem pyR_ok {n : Nat} {m : Int} {qs : List Int} (hn : n ≤ 5) (hm : m ≤ 1) (hq : qs.length ≤ 5) : ∀ (k : Nat) (xs : List Int) (as : List (Int × Bool)), okR n m xs → mu m xs < k → ∃ l w, pyR m qs k xs as = (as ++ l, w) ∧ trc m qs xs l ∧ (raV m qs xs).2.2.1 ≤ (l.length : Int) ∧ (l.length : Int) ≤ (raV m qs xs).2.1 ∧ (w = Int.tmod ((as.length : Nat) : Int) 2 ∨ w = 1 - Int.tmod ((as.length : Nat) : Int) 2) ∧ ((raV m qs xs).1 = true ↔ w = Int.tmod ((as.length : Nat) : Int) 2) := by
 intro k
 induction k with
 | zero => intro xs as h h0; omega
 | succ k ih =>
  intro xs as h h0
  have ht := tm2 as.length
  obtain ⟨a1, a2, a3, a4, a5⟩ := ra_all (qs := qs) hn hm hq h
  rw [pyR]
  by_cases hc : chN qs xs = []
  ·rw [if_pos hc]
   have hz := a5.2 hc
   have hw : (raV m qs xs).1 = false := by
    rw [wi_win hn hm h]
    have : wiL m qs xs = [] := by unfold wiL; rw [hc]; rfl
    rw [this]; rfl
   refine ⟨[], _, by rw [List.append_nil], trivial, by simp only [List.length_nil]; omega, by simp only [List.length_nil]; omega, .inr rfl, ?_⟩
   rw [hw]
   constructor
   ·intro e; cases e
   ·intro e; omega
  ·rw [if_neg hc]
   obtain ⟨hqc, hqw⟩ := fstQ_in (m := m) hc
   have hv := (mem_ch.1 hqc).2
   have hfb := fair_both h.2 hv
   have hit := ra_hit hn hm hq h hqc (fstY m qs xs)
   have ho := fair_open h.2 hv (fstY m qs xs)
   have hmu := mu_less (y := fstY m qs xs) h.2 hv
   have hok : okR n m (ansN m (fstQ m qs xs) (fstY m qs xs) xs) := okR_ans h
   obtain ⟨c1, c2, c3, c4, c5⟩ := ra_all (qs := qs) hn hm hq hok
   obtain ⟨t1, t2, t3⟩ := hit
   have hwin : (raV m qs xs).1 = true → ¬ (2 ≤ (openN (ansN m (fstQ m qs xs) (fstY m qs xs) xs)).length ∧ (raV m qs (ansN m (fstQ m qs xs) (fstY m qs xs) xs)).1 = true) := by
    rintro hW ⟨u1, u2⟩
    rw [wi_win hn hm h, decide_eq_true_iff] at hW
    have hm2 := hqw (List.length_pos_iff.1 hW)
    have hlo := (List.mem_filter.1 hm2).2
    rw [beq_iff_eq, List.length_eq_zero_iff] at hlo
    unfold loL at hlo
    rw [List.filter_eq_nil_iff] at hlo
    have hy : fstY m qs xs ∈ fairN m (fstQ m qs xs) xs := by
     rw [hfb]; cases fstY m qs xs <;> simp
    exact hlo _ hy (by rw [decide_eq_true u1, u2]; rfl)
   have hlose : (raV m qs xs).1 = false → 2 ≤ (openN (ansN m (fstQ m qs xs) (fstY m qs xs) xs)).length ∧ (raV m qs (ansN m (fstQ m qs xs) (fstY m qs xs) xs)).1 = true := by
    intro hW
    rw [wi_win hn hm h, decide_eq_false_iff_not] at hW
    have hnl : loL m qs xs (fstQ m qs xs) ≠ [] := by
     intro e
     have : fstQ m qs xs ∈ wiL m qs xs := List.mem_filter.2 ⟨hqc, by rw [e]; rfl⟩
     exact hW (List.length_pos_of_mem this)
    have := (List.mem_filter.1 (fstY_in hnl)).2
    rw [Bool.and_eq_true, decide_eq_true_iff] at this
    exact this
   by_cases h2 : (openN (ansN m (fstQ m qs xs) (fstY m qs xs) xs)).length < 2
   ·rw [if_pos h2]
    have hz := c5.2 (ch_few h2)
    refine ⟨[(fstQ m qs xs, fstY m qs xs)], _, rfl, ⟨hqc, ho, fun e => absurd rfl e, trivial⟩, by simp only [List.length_singleton]; omega, by simp only [List.length_singleton]; omega, .inl rfl, ?_⟩
    constructor
    ·intro _; rfl
    ·intro _
     cases hW : (raV m qs xs).1 with
     | true => rfl
     | false => have := (hlose hW).1; omega
   ·rw [if_neg h2]
    obtain ⟨l, w, e, r1, r2, r3, r4, r5⟩ := ih _ (as ++ [(fstQ m qs xs, fstY m qs xs)]) hok (by omega)
    rw [List.length_append, List.length_singleton, tm2_up] at r4 r5
    refine ⟨(fstQ m qs xs, fstY m qs xs) :: l, w, by rw [e, List.append_assoc]; rfl, ⟨hqc, ho, fun _ => by dsimp only; omega, r1⟩, by simp only [List.length_cons]; omega, by simp only [List.length_cons]; omega, by omega, ?_⟩
    constructor
    ·intro hW
     rcases r4 with r4 | r4
     ·exact absurd ⟨by omega, r5.2 r4⟩ (hwin hW)
     ·omega
    ·intro hw
     cases hW : (raV m qs xs).1 with
     | true => rfl
     | false =>
      have := r5.1 (hlose hW).2
      omega
theorem fair_mem {m q : Int} {xs : List Int} {y : Bool} (h : y ∈ fairN m q xs) : 0 < (openN (ansN m q y xs)).length := by
 rw [fair_two rfl rfl, List.mem_append] at h
 rcases h with h | h
 ·split at h
  ·rename_i h2
   have h2 := of_decide_eq_true h2
   simp only [List.mem_singleton] at h
   subst h; omega
  ·cases h
 ·split at h
  ·rename_i h2
   have h2 := of_decide_eq_true h2
   simp only [List.mem_singleton] at h
   subst h; omega
  ·cases h
theorem fair_some {m q : Int} {xs : List Int} (ho : 0 < (openN xs).length) : 0 < (fairN m q xs).length := by
 obtain ⟨x, hx⟩ := List.exists_mem_of_length_pos ho
 obtain ⟨i, a1, a2, rfl⟩ := mem_open.1 hx
 have key : ∀ y, hasB q (i : Int) = y → decide ((((openN (ansN m q y xs)).length : Nat) : Int) > (0 : Int)) = true := by
  intro y a3
  have : (i : Int) ∈ openN (ansN m q y xs) := mem_open.2 ⟨i, by rw [ansN_len]; exact a1, by rw [ans_getD a1, lie_no (by unfold falseB; rw [a3]; simp)]; exact a2, rfl⟩
  have := List.length_pos_of_mem this
  exact decide_eq_true (by omega)
 cases hh : hasB q (i : Int) with
 | false =>
  rw [fair_two (key false hh) rfl, if_pos rfl, List.length_append, List.length_singleton]; omega
 | true =>
  rw [fair_two rfl (key true hh), if_pos rfl, List.length_append, List.length_singleton]; omega
theorem rAsked_self (xs : List (Int × Bool)) (hx : xs.length ≤ 1048576) : F_laws_rAsked xs xs = some true := by
 unfold F_laws_rAsked
 rw [ite_f (bne_self_eq_false _)]
 simp only [jn]
 refine loop_up (fun k i (_ : Unit) => F_laws_rAsked_L1 xs xs (fun _ => some true) k i) (xs.length : Int) (fun _ => ()) (some true) ?_ ?_ (by omega) fuel (by have := fuel_ge; omega)
 ·intro k i i0 i1
  rw [F_laws_rAsked_L1, ite_t (decide_eq_true i1), chk_pos ⟨i0, i1⟩, chk_pos ⟨i0, i1⟩]
  simp only [nam, beq_self_eq_true, Bool.and_self, Bool.not_true, cond_false]
  rw [chk_pos (by unfold I64; omega)]
 ·intro k
  rw [F_laws_rAsked_L1, ite_f (decide_eq_false (by omega))]
theorem rBools_self (xs : List Bool) (hx : xs.length ≤ 1048576) : F_laws_rBools xs xs = some true := by
 unfold F_laws_rBools
 rw [ite_f (bne_self_eq_false _)]
 simp only [jn]
 refine loop_up (fun k i (_ : Unit) => F_laws_rBools_L1 xs xs (fun _ => some true) k i) (xs.length : Int) (fun _ => ()) (some true) ?_ ?_ (by omega) fuel (by have := fuel_ge; omega)
 ·intro k i i0 i1
  rw [F_laws_rBools_L1, ite_t (decide_eq_true i1), chk_pos ⟨i0, i1⟩, chk_pos ⟨i0, i1⟩, ite_f (by rw [beq_self_eq_true]; rfl), chk_pos (by unfold I64; omega)]
 ·intro k
  rw [F_laws_rBools_L1, ite_f (decide_eq_false (by omega))]
theorem drawPlay_ok {bs : List Int} (hy : okY bs) : ∃ xs m qs, F_spec_DrawPlayRace bs = some (xs, m, qs) ∧ -1 ≤ m ∧ m ≤ 3 ∧ xs.length ≤ 13 ∧ (∀ x ∈ xs, -1 ≤ x ∧ x ≤ 4) ∧ qs.length ≤ 6 := by
 unfold F_spec_DrawPlayRace
 obtain ⟨xs, m, qs, e, h⟩ := drawIsChoice_ok hy
 rw [bnd3_eq e]
 exact ⟨_, _, _, rfl, h⟩
theorem drawFair_ok {bs : List Int} (hy : okY bs) : ∃ xs m q, F_spec_DrawFairAnswers bs = some (xs, m, q) ∧ xs.length ≤ 13 := by
 unfold F_spec_DrawFairAnswers
 obtain ⟨xs, m, p1, s1, e1, g0, g1, g2, g3, g4, g5⟩ := shortC_ok (s := 0) (p := 0) hy (by omega) (by omega)
 obtain ⟨q, p2, s2, e2, k0, k1, k2, k3⟩ := question_ok (s := s1) (p := p1) (n := ((List.length xs : Nat) : Int)) hy (by omega) (by omega)
 rw [bnd5_eq e1, bnd4_eq e2]
 exact ⟨_, _, _, rfl, g4⟩
theorem drawLosing_ok {bs : List Int} (hy : okY bs) : ∃ xs m qs q, F_spec_DrawLosingAnswers bs = some (xs, m, qs, q) ∧ xs.length ≤ 13 ∧ qs.length ≤ 6 := by
 unfold F_spec_DrawLosingAnswers
 obtain ⟨xs, m, qs, p1, s1, e1, g0, g1, g2, g3, g4, g5, g6⟩ := raceC_ok (s := 0) (p := 0) hy (by omega) (by omega)
 rw [bnd6_eq e1]
 let Q : Option (List Int × Int × List Int × Int) → Prop := fun o => ∃ xs m qs q, o = some (xs, m, qs, q) ∧ xs.length ≤ 13 ∧ qs.length ≤ 6
 refine jn_p (Q0 := Q) (fun J => ∀ pp ss b, p1 ≤ pp → pp ≤ p1 + 2 → (b = true → 0 < qs.length) → Q (J bs pp ss b)) (fun pp ss b a1 a2 a3 => ?_) fun J hJ => ?_
 ·cases b with
  | true =>
   obtain ⟨v, p4, s4, e4, y0, y1, y2, y3⟩ := pick_ok (s := ss) (p := pp) (n := ((List.length qs : Nat) : Int)) hy (by omega) (by omega)
   have a3 := a3 rfl
   have y3 := y3 (by omega)
   rw [ite_t rfl, bnd4_eq e4, chk_pos ⟨y2, y3⟩]
   exact ⟨_, _, _, _, rfl, g4, g6⟩
  | false =>
   obtain ⟨q, p2, s2, e2, k0, k1, k2, k3⟩ := question_ok (s := ss) (p := pp) (n := ((List.length xs : Nat) : Int)) hy (by omega) (by omega)
   rw [ite_f rfl, bnd4_eq e2]
   exact ⟨_, _, _, _, rfl, g4, g6⟩
 ·by_cases h : ((List.length qs : Nat) : Int) > 0
  ·obtain ⟨b, p2, s2, e2, k0, k1⟩ := one_ok (s := s1) (p := p1) (n := 8) hy (by omega) (by omega)
   rw [ite_t (decide_eq_true h), bnd4_eq e2]
   exact hJ _ _ _ k0 k1 fun _ => by omega
  ·rw [ite_f (decide_eq_false h)]
   exact hJ _ _ _ (by omega) (by omega) fun h => by cases h
theorem getD_mem {α : Type} {l : List α} {d : α} {i : Nat} (h : i < l.length) : l.getD i d ∈ l := by
 simp [List.getD_eq_getElem?_getD, h]
theorem rgB_ans {xs : List Int} {m q : Int} {y : Bool} {qs : List Int} (h : rgB xs m qs = true) (h2 : 2 ≤ (openN (ansN m q y xs)).length) : rgB (ansN m q y xs) m qs = true := by
 obtain ⟨g1, g2, g3, g4, g5, g6, g7, g8, g9, g10, g11⟩ := rg_in h
 have hs := ok_state (okR_ans (q := q) (y := y) g1) g2
 unfold rgB raceN shortN
 rw [hs, ansN_len, rg_chB h, decide_eq_true (show ((xs.length : Nat) : Int) ≤ 5 by omega), decide_eq_true g5, decide_eq_true (show (((openN (ansN m q y xs)).length : Nat) : Int) ≥ 2 by omega)]; rfl
theorem drop_getD {α : Type} {l : List α} {d : α} {i : Nat} (h : i < l.length) : l.drop i = l.getD i d :: l.drop (i + 1) := by
 rw [List.drop_eq_getElem_cons h]; simp [List.getD_eq_getElem?_getD, h]
theorem law_raceplays {bs : List Int} (hy : okY bs) (hl : bs.length ≤ 9223372036854775807) : F_laws_FnRacePlays bs = some true := by
 unfold F_laws_FnRacePlays
 rw [chk_pos hl]
 by_cases h : ((bs.length : Nat) : Int) > 65536
 ·rw [ite_t (decide_eq_true h)]
 rw [ite_f (decide_eq_false h)]
 obtain ⟨xs, m, qs, e, hm1, hm2, hx, hxs, hq⟩ := drawPlay_ok hy
 have X : xs.length ≤ 1048576 := by omega
 have Y : qs.length ≤ 1048576 := by omega
 rw [bnd3_eq e, bnd3_eq (iPR_eq xs m qs X Y), bnd3_eq (sPR_eq xs m qs X Y)]
 have hpl := pyV_len xs m qs
 refine jn_is (fun J => J false) (fun J => ?_) ?_
 ·simp only [bne_self_eq_false, beq_self_eq_true, Bool.not_true, cond_false]
  rw [bnd1_eq (rAsked_self _ (by omega))]; rfl
 rw [ite_f rfl]
 obtain ⟨ys, k, r, e2, j1⟩ := drawFair_ok hy
 rw [bnd3_eq e2, chk_pos (by omega)]
 have hfl := faL_len (xs := ys) (m := k) (q := r)
 refine jn_is (fun J => J false) (fun J => ?_) ?_
 ·rw [bnd1_eq (rBools_self _ (by omega)), ite_f (show (!true) = false from rfl)]
  rcases Bool.eq_false_or_eq_true (faB ys k r) with hf | hf
  ·have hr : raceN ys k = true := by unfold faB at hf; rw [Bool.and_eq_true] at hf; exact hf.1
   have ho : 0 < (openN ys).length := by unfold raceN at hr; rw [Bool.and_eq_true, decide_eq_true_iff] at hr; omega
   have he : faL ys k r = fairN k r ys := by unfold faL; rw [if_pos hf]
   have := fair_some (m := k) (q := r) ho
   rw [hf, ite_t rfl, he, beq_eq_false_iff_ne.2 (by omega)]
  ·rw [hf]; rfl
 rw [ite_f rfl]
 obtain ⟨zs, u, ps, v, e3, i1, i2⟩ := drawLosing_ok hy
 have X3 : zs.length ≤ 1048576 := by omega
 have Y3 : ps.length ≤ 1048576 := by omega
 have hll := laV_len zs u ps v
 rw [bnd4_eq e3, bnd2_eq (iLA_eq zs u ps v X3 Y3), bnd2_eq (sLA_eq zs u ps v X3 Y3)]
 refine jn_is (fun J => J false) (fun J => ?_) ?_
 ·simp only [beq_self_eq_true, Bool.not_true, cond_false]
  rw [bnd1_eq (rBools_self _ (by omega))]; rfl
 rw [ite_f rfl]
 refine jn_is (fun J => J ()) (fun J => ?_) ?_
 ·rcases Bool.eq_false_or_eq_true (laB zs u ps v) with hB | hB
  ·have hB2 := hB
   unfold laB at hB2
   rw [Bool.and_eq_true, decide_eq_true_iff] at hB2
   obtain ⟨g1, g2, g3, g4, g5, g6, g7, g8, g9, g10, g11⟩ := rg_in hB2.1
   have hv := (mem_ch.1 hB2.2).2
   have hq' := g11 v (mem_ch.1 hB2.2).1
   have hfa : faB zs u v = true := by unfold faB; rw [g10, hq']; rfl
   have hfe : faL zs u v = [false, true] := by unfold faL; rw [if_pos hfa]; exact fair_both g1.2 hv
   have has : asB zs u v = true := by unfold asB; rw [g9, hq']; rfl
   have hLV : laV zs u ps v = loL u ps zs v := by unfold laV; rw [hB]; rfl
   rw [hB, ite_t rfl, chk_pos (by omega)]
   refine jn_is (fun K => K false) (fun K => ?_) ?_
   ·rw [hfa, hfe, ite_f (show (!true) = false from rfl), ite_f (show (((List.length [false, true] : Nat) : Int) != 2) = false from rfl), decide_eq_false (by omega)]
   ·rw [ite_f rfl, hLV]
    rw [hLV] at hll
    refine loop_up (fun k i (_ : Unit) => F_laws_FnRacePlays_L1 zs u ps v (loL u ps zs v) J k i) ((loL u ps zs v).length : Int) (fun _ => ()) (J ()) ?_ ?_ (by omega) fuel (by have := fuel_ge; omega)
    ·intro k i i0 i1
     have hmem : (loL u ps zs v).getD i.toNat false ∈ loL u ps zs v := getD_mem (by omega)
     rw [F_laws_FnRacePlays_L1, ite_t (decide_eq_true i1), chk_pos ⟨i0, i1⟩]
     generalize (loL u ps zs v).getD i.toNat false = y at hmem
     have hh := (List.mem_filter.1 hmem).2
     rw [Bool.and_eq_true, decide_eq_true_iff] at hh
     have hrg := rgB_ans hB2.1 hh.1
     have hrw : rwV (ansN u v y zs) u ps = true := by unfold rwV; rw [hrg, hh.2]; rfl
     have ea : asL zs u v y = ansN u v y zs := by unfold asL; rw [if_pos has]
     have em : asM zs u v y = u := by unfold asM; rw [if_pos has]
     rw [ea, em, bnd2_eq (iRaceWins_eq _ u ps (by rw [ansN_len]; omega) Y3), hrg, hrw, has]
     refine jn_is (fun K => K false) (fun K => rfl) ?_
     rw [ite_f rfl, chk_pos (by unfold I64; omega)]
    ·intro k
     rw [F_laws_FnRacePlays_L1, ite_f (decide_eq_false (by omega))]
  ·rw [hB]; rfl
 refine jn_is (fun J => J ()) (fun J => ?_) ?_
 ·rcases Bool.eq_false_or_eq_true (faB ys k r) with hf | hf
  ·have hf2 := hf
   unfold faB at hf2
   rw [Bool.and_eq_true] at hf2
   have hsh := hf2.1
   unfold raceN shortN at hsh
   simp only [Bool.and_eq_true, decide_eq_true_eq] at hsh
   have hst := hsh.1.1.1
   have has : asB ys k r = true := by unfold asB; rw [hst, hf2.2]; rfl
   have he : faL ys k r = fairN k r ys := by unfold faL; rw [if_pos hf]
   rw [hf, ite_t rfl]
   refine loop_up (fun n i (_ : Unit) => F_laws_FnRacePlays_L2 ys k r J n i) ((faL ys k r).length : Int) (fun _ => ()) (J ()) ?_ ?_ (by omega) fuel (by have := fuel_ge; omega)
   ·intro n i i0 i1
    have hmem : (faL ys k r).getD i.toNat false ∈ faL ys k r := getD_mem (by omega)
    rw [F_laws_FnRacePlays_L2, ite_t (decide_eq_true i1), chk_pos ⟨i0, i1⟩]
    obtain ⟨y, hye⟩ : ∃ y, (faL ys k r).getD i.toNat false = y := ⟨_, rfl⟩
    rw [hye, he] at hmem
    have ho := fair_mem hmem
    have ea : asL ys k r y = ansN k r y ys := by unfold asL; rw [if_pos has]
    have ec : F_impl_CanAnswer ys k r y = some (true, true) := by
     unfold F_impl_CanAnswer
     rw [chk_pos (by omega), ea, chk_pos (by rw [ansN_len]; omega), has, decide_eq_true (by omega)]
    rw [hye, bnd2_eq ec]
    refine jn_is (fun K => K false) (fun K => rfl) ?_
    rw [ite_f rfl, chk_pos (by unfold I64; omega)]
   ·intro n
    rw [F_laws_FnRacePlays_L2, ite_f (decide_eq_false (by omega))]
  ·rw [hf]; rfl
 rcases Bool.eq_false_or_eq_true (rgB xs m qs) with hB | hB
 ·obtain ⟨g1, g2, g3, g4, g5, g6, g7, g8, g9, g10, g11⟩ := rg_in hB
  obtain ⟨l, w, ep, t1, t2, t3, t4, t5⟩ := pyR_ok (qs := qs) g3 g5 g8 (mu m xs + 1) xs [] g1 (by omega)
  have hpy : pyV xs m qs = (l, w) := by unfold pyV; rw [hB, cond_true, ep]; rfl
  rw [hpy] at hpl ⊢
  have hsp : spV xs m qs = (raV m qs xs).2 := by unfold spV; rw [hB]; rfl
  have hrw : rwV xs m qs = (raV m qs xs).1 := by unfold rwV; rw [hB]; rfl
  rw [hB, ite_f (show (!true) = false from rfl), bnd2_eq (iRaceWins_eq xs m qs X Y), bnd2_eq (iLongestRace_eq xs m qs X Y), bnd2_eq (iShortestRace_eq xs m qs X Y), hsp, hrw, hB]
  refine jn_is (fun J => J false) (fun J => ?_) ?_
  ·have hw : ((raV m qs xs).1 == (w == 0)) = true := by
    rw [beq_iff_eq, Bool.eq_iff_iff, t5, beq_iff_eq]; rfl
   simp only [Bool.not_true, cond_false, hw]
   rw [ite_f (decide_eq_false (by omega)), decide_eq_false (by omega)]
  rw [ite_f rfl]
  refine jn_is (fun J => J ()) (fun J => ?_) rfl
  dsimp only at hpl ⊢
  refine loop_st (fun n i (s : List Int × Int) => F_laws_FnRacePlays_L3 l J n s.1 s.2 i) l.length (fun i s => s.2 = m ∧ okR xs.length m s.1 ∧ trc m qs s.1 (l.drop i)) (fun o => o = J ()) ?_ ?_ (xs, m) ⟨rfl, g1, t1⟩ fuel (by have := fuel_ge; omega)
  ·rintro n i ⟨s, m'⟩ hi ⟨rfl, ho, ht⟩
   dsimp only at ho ht ⊢
   left
   rw [drop_getD (d := (0, false)) hi] at ht
   rw [F_laws_FnRacePlays_L3, ite_t (decide_eq_true (by omega)), chk_pos ⟨by omega, by omega⟩, Int.toNat_natCast]
   generalize l.getD i (0, false) = a at ht
   obtain ⟨c1, c2, c3, c4⟩ := ht
   have hst := ok_state ho g2
   have hst2 := ok_state (okR_ans (q := a.1) (y := a.2) ho) g2
   have has : asB s m' a.1 = true := by unfold asB; rw [hst, ho.1, g11 _ (mem_ch.1 c1).1]; rfl
   have ea : asL s m' a.1 a.2 = ansN m' a.1 a.2 s := by unfold asL; rw [if_pos has]
   have em : asM s m' a.1 a.2 = m' := by unfold asM; rw [if_pos has]
   have hol := ho.1
   have hop : opV (ansN m' a.1 a.2 s) m' = openN (ansN m' a.1 a.2 s) := by unfold opV; rw [hst2]; rfl
   refine ⟨(ansN m' a.1 a.2 s, m'), ⟨rfl, okR_ans ho, c4⟩, ?_⟩
   rw [ea, em, chk_pos (by omega), bnd2_eq (iOpenNumbers_eq _ m' (by rw [ansN_len]; omega)), hop, hst2, has]
   refine jn_is (fun K => K false) (fun K => ?_) ?_
   ·rw [ite_f (show (!true) = false from rfl), ite_f (show (!true) = false from rfl), ite_f (beq_eq_false_iff_ne.2 (by omega))]
    by_cases h1 : (openN (ansN m' a.1 a.2 s)).length = 1
    ·have hd : l.drop (i + 1) = [] := by
      apply Classical.byContradiction
      intro hne
      have := c3 hne; omega
     rw [List.drop_eq_nil_iff] at hd
     rw [ite_t (by rw [h1]; rfl), chk_pos (by unfold I64; omega), decide_eq_false (by omega)]
    ·rw [ite_f (beq_eq_false_iff_ne.2 (by omega))]
   ·rw [ite_f rfl, chk_pos (by unfold I64; omega)]; rfl
  ·rintro n ⟨s, m'⟩ _
   dsimp only
   rw [F_laws_FnRacePlays_L3, ite_f (decide_eq_false (by omega))]
 ·rw [hB]; rfl
end Go.Tl
