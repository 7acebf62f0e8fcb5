/-
  Plain laws of the printed functions: no program here.
-/
import Derived.Test.YtopodonemnnjdaaGreatAuCoF
namespace Go.Tl
set_option linter.unusedVariables false
set_option linter.unusedSimpArgs false
theorem loop_m {σ R : Type} (L : Nat → σ → Option R) (I : σ → Prop) (μ : σ → Nat) (Q : Option R → Prop)
  (step : ∀ n s, I s → (∃ s', I s' ∧ μ s' < μ s ∧ L (n + 1) s = L n s') ∨ Q (L (n + 1) s)) : ∀ n s, I s → μ s < n → Q (L n s) := by
 intro n
 induction n with
 | zero => intro s _ h; omega
 | succ n ih =>
  intro s hI hm
  rcases step n s hI with ⟨s', h1, h2, h3⟩ | h
  ·rw [h3]; exact ih s' h1 (by omega)
  ·exact h
theorem loop_up {σ R : Type} (L : Nat → Int → σ → Option R) (N : Int) (st : Int → σ) (r : Option R)
  (step : ∀ n i, 0 ≤ i → i < N → L (n + 1) i (st i) = L n (i + 1) (st (i + 1))) (fin : ∀ n, L (n + 1) N (st N) = r) (h0 : 0 ≤ N) (n : Nat) (hn : N.toNat < n) : L n 0 (st 0) = r := by
 have key : ∀ (k : Nat) (n : Nat) (i : Int), 0 ≤ i → i + k = N → k < n → L n i (st i) = r := by
  intro k
  induction k with
  | zero =>
   intro n i h1 h2 h3; obtain ⟨n, rfl⟩ : ∃ m, n = m + 1 := ⟨n - 1, by omega⟩; have e : i = N := by omega
   subst e; exact fin n
  | succ k ih =>
   intro n i h1 h2 h3
   obtain ⟨n, rfl⟩ : ∃ m, n = m + 1 := ⟨n - 1, by omega⟩
   rw [step n i h1 (by omega)]
   exact ih n (i + 1) (by omega) (by omega) (by omega)
 exact key N.toNat n 0 (Int.le_refl _) (by omega) hn
theorem loop_all {R : Type} (L : Nat → Int → Option R) (N : Int) (p : Int → Bool) (no yes : Option R)
  (step : ∀ n i, 0 ≤ i → i < N → p i = true → L (n + 1) i = L n (i + 1)) (stop : ∀ n i, 0 ≤ i → i < N → p i = false → L (n + 1) i = no) (fin : ∀ n, L (n + 1) N = yes) (h0 : 0 ≤ N) (n : Nat) (hn : N.toNat < n) :
  (L n 0 = yes ∧ ∀ i, 0 ≤ i → i < N → p i = true) ∨ (L n 0 = no ∧ ∃ i, 0 ≤ i ∧ i < N ∧ p i = false ∧ ∀ j, 0 ≤ j → j < i → p j = true) := by
 have key : ∀ (k : Nat) (n : Nat) (i : Int), 0 ≤ i → i + k = N → k < n → (∀ j, 0 ≤ j → j < i → p j = true) → (L n i = yes ∧ ∀ i, 0 ≤ i → i < N → p i = true) ∨ (L n i = no ∧ ∃ i, 0 ≤ i ∧ i < N ∧ p i = false ∧ ∀ j, 0 ≤ j → j < i → p j = true) := by
  intro k
  induction k with
  | zero =>
   intro n i h1 h2 h3 h4; obtain ⟨n, rfl⟩ : ∃ m, n = m + 1 := ⟨n - 1, by omega⟩; have e : i = N := by omega
   subst e; exact .inl ⟨fin n, h4⟩
  | succ k ih =>
   intro n i h1 h2 h3 h4
   obtain ⟨n, rfl⟩ : ∃ m, n = m + 1 := ⟨n - 1, by omega⟩
   cases hp : p i with
   | false => exact .inr ⟨stop n i h1 (by omega) hp, i, h1, by omega, hp, h4⟩
   | true =>
    rw [step n i h1 (by omega) hp]
    refine ih n (i + 1) (by omega) (by omega) (by omega) fun j k1 k2 => ?_
    by_cases e : j = i
    ·rw [e]; exact hp
    ·exact h4 j k1 (by omega)
 exact key N.toNat n 0 (Int.le_refl _) (by omega) hn fun j h1 h2 => by omega
theorem ite_t {α : Type} {c : Bool} (h : c = true) (x y : α) : (bif c then x else y) = x := by rw [h]; rfl
theorem ite_f {α : Type} {c : Bool} (h : c = false) (x y : α) : (bif c then x else y) = y := by rw [h]; rfl
theorem ite_c {α : Type} {P : α → Prop} {c : Bool} {x y : α} (h1 : c = true → P x) (h2 : c = false → P y) : P (bif c then x else y) := by
 cases c
 ·exact h2 rfl
 ·exact h1 rfl
theorem getD_in {xs : List Int} {i : Nat} {P : Int → Prop} (h : i < xs.length) (hP : ∀ x ∈ xs, P x) : P (xs.getD i 0) := by
 rw [List.getD_eq_getElem?_getD, List.getElem?_eq_getElem h]; exact hP _ (List.getElem_mem h)
theorem maxN_in {a b : Int} : a ≤ maxN a b ∧ b ≤ maxN a b ∧ (maxN a b = a ∨ maxN a b = b) := by unfold maxN; split <;> omega
theorem next_ok {bs : List Int} {p s : Int} (hy : okY bs) (h0 : 0 ≤ p) (h1 : p ≤ 1000000000000) : ∃ v s', F_pc_next bs p s = some (v, bs, p + 1, s') ∧ 0 ≤ v ∧ v ≤ 255 := by
 unfold F_pc_next
 have hb := hy p.toNat
 have fin : ∀ v3 : Int, 0 ≤ v3 → v3 ≤ 255 → ∃ v s', (chk (I64 (p + (1 : Int))) <| nam (IntKind.wrap .u64 (s * (6364136223846793005 : Int))) fun n37 => nam (IntKind.wrap .u64 (n37 + (IntKind.wrap .u64 v3))) fun n40 => (bif (decide ((p + (1 : Int)) ≤ ((List.length bs : Nat) : Int))) then some (v3, bs, (p + (1 : Int)), (IntKind.wrap .u64 (n40 + (462197 : Int)))) else nam (bits .and .u64 ((IntKind.wrap .u64 (n40 + (462197 : Int))) / 2 ^ Int.toNat (40 : Int)) (255 : Int)) fun n60 => chk (I64 n60) <| some (n60, bs, (p + (1 : Int)), (IntKind.wrap .u64 (n40 + (462197 : Int)))))) = some (v, bs, p + 1, s') ∧ 0 ≤ v ∧ v ≤ 255 := by
  intro v3 k0 k1
  rw [chk_pos (by unfold I64; omega)]
  simp only [nam]
  refine ite_c (P := fun o => ∃ v s', o = some (v, bs, p + 1, s') ∧ 0 ≤ v ∧ v ≤ 255) (fun _ => ?_) (fun _ => ?_)
  ·exact ⟨_, _, rfl, k0, k1⟩
  ·have h2 := and255 ((IntKind.wrap .u64 ((IntKind.wrap .u64 ((IntKind.wrap .u64 (s * (6364136223846793005 : Int))) + (IntKind.wrap .u64 v3))) + (462197 : Int))) / 2 ^ Int.toNat (40 : Int))
   rw [chk_pos (by unfold I64; omega)]
   exact ⟨_, _, rfl, h2.1, h2.2⟩
 simp only [jn]
 refine ite_c (P := fun o => ∃ v s', o = some (v, bs, p + 1, s') ∧ 0 ≤ v ∧ v ≤ 255) (fun h => ?_) (fun _ => ?_)
 ·have h := of_decide_eq_true h
  rw [chk_pos (by omega), chk_pos (by unfold I64; omega)]
  exact fin _ hb.1 hb.2
 ·exact fin 0 (by omega) (by omega)
theorem tmod_in {a n : Int} (h0 : 0 ≤ a) (h1 : 0 < n) : 0 ≤ Int.tmod a n ∧ Int.tmod a n < n := ⟨Int.tmod_nonneg _ h0, Int.tmod_lt_of_pos _ h1⟩
theorem pick_ok {bs : List Int} {p s n : Int} (hy : okY bs) (h0 : 0 ≤ p) (h1 : p ≤ 900000000000) : ∃ v p' s', F_pc_pick bs p s n = some (v, bs, p', s') ∧ p ≤ p' ∧ p' ≤ p + 2 ∧ 0 ≤ v ∧ (1 ≤ n → v < n) := by
 unfold F_pc_pick
 rcases Bool.eq_false_or_eq_true (decide (n ≤ (1 : Int))) with h | h
 ·have h := of_decide_eq_true h
  rw [ite_t (decide_eq_true h)]
  exact ⟨0, p, s, rfl, by omega, by omega, by omega, fun _ => by omega⟩
 ·rw [ite_f h]
  have h := of_decide_eq_false h
  obtain ⟨v, s', e, g0, g1⟩ := next_ok (s := s) hy h0 (by omega)
  rw [bnd4_eq e]
  simp only [jn]
  rcases Bool.eq_false_or_eq_true (decide (n > (200 : Int))) with h4 | h4
  ·rw [ite_t h4]
   obtain ⟨v2, s2, e2, k0, k1⟩ := next_ok (s := s') hy (p := p + 1) (by omega) (by omega)
   rw [chk_pos (by unfold I64; omega), bnd4_eq e2, chk_pos (by unfold I64; omega), chk_pos (by omega)]
   have := tmod_in (a := v * 256 + v2) (n := n) (by omega) (by omega)
   exact ⟨_, _, _, rfl, by omega, by omega, this.1, fun _ => this.2⟩
  ·rw [ite_f h4]
   rw [chk_pos (by omega)]
   have := tmod_in (a := v) (n := n) (by omega) (by omega)
   exact ⟨_, _, _, rfl, by omega, by omega, this.1, fun _ => this.2⟩
theorem one_ok {bs : List Int} {p s n : Int} (hy : okY bs) (h0 : 0 ≤ p) (h1 : p ≤ 900000000000) : ∃ b p' s', F_pc_one bs p s n = some (b, bs, p', s') ∧ p ≤ p' ∧ p' ≤ p + 2 := by
 unfold F_pc_one
 obtain ⟨v, p', s', e, g0, g1, g2, g3⟩ := pick_ok (s := s) (n := n) hy h0 h1
 rw [bnd4_eq e]
 exact ⟨_, _, _, rfl, g0, g1⟩
theorem among_ok {bs : List Int} {p s : Int} {xs : List Int} (hy : okY bs) (h0 : 0 ≤ p) (h1 : p ≤ 900000000000) (hx : 0 < xs.length) : ∃ v p' s', F_pc_among bs p s xs = some (v, bs, p', s') ∧ p ≤ p' ∧ p' ≤ p + 2 ∧ v ∈ xs := by
 unfold F_pc_among
 obtain ⟨v, p', s', e, g0, g1, g2, g3⟩ := pick_ok (s := s) (n := ((List.length xs : Nat) : Int)) hy h0 h1
 rw [bnd4_eq e, chk_pos ⟨g2, g3 (by omega)⟩]
 refine ⟨_, _, _, rfl, g0, g1, ?_⟩
 have := g3 (by omega)
 exact getD_in (P := fun x => x ∈ xs) (by omega) fun x hx => hx
theorem many_ok {bs : List Int} {p s : Int} (hy : okY bs) (h0 : 0 ≤ p) (h1 : p ≤ 900000000000) : ∃ v p' s', F_pc_many bs p s = some (v, bs, p', s') ∧ p ≤ p' ∧ p' ≤ p + 2 ∧ 0 ≤ v ∧ v ≤ 13 := by
 unfold F_pc_many
 obtain ⟨v, p', s', e, g0, g1, g2⟩ := among_ok (s := s) (xs := [(4 : Int), (6 : Int), (8 : Int), (3 : Int), (5 : Int), (2 : Int), (7 : Int), (12 : Int), (1 : Int), (0 : Int), (13 : Int), (4 : Int), (6 : Int), (8 : Int), (3 : Int), (5 : Int)]) hy h0 h1 (by decide)
 rw [bnd4_eq e]
 refine ⟨_, _, _, rfl, g0, g1, ?_⟩
 simp only [List.mem_cons, List.not_mem_nil, or_false] at g2
 omega
theorem lies_ok {bs : List Int} {p s : Int} (hy : okY bs) (h0 : 0 ≤ p) (h1 : p ≤ 900000000000) : ∃ v p' s', F_pc_lies bs p s = some (v, bs, p', s') ∧ p ≤ p' ∧ p' ≤ p + 2 ∧ -1 ≤ v ∧ v ≤ 3 := by
 unfold F_pc_lies
 obtain ⟨v, p', s', e, g0, g1, g2⟩ := among_ok (s := s) (xs := [(1 : Int), (1 : Int), (2 : Int), (0 : Int), (1 : Int), (2 : Int), (1 : Int), (3 : Int), (-1 : Int), (1 : Int), (2 : Int), (0 : Int)]) hy h0 h1 (by decide)
 rw [bnd4_eq e]
 refine ⟨_, _, _, rfl, g0, g1, ?_⟩
 simp only [List.mem_cons, List.not_mem_nil, or_false] at g2
 omega
theorem state_ok {bs : List Int} {p s : Int} (hy : okY bs) (h0 : 0 ≤ p) (h1 : p ≤ 700000000000) : ∃ xs m p' s', F_pc_state bs p s = some (xs, m, bs, p', s') ∧ p ≤ p' ∧ p' ≤ p + 100 ∧ -1 ≤ m ∧ m ≤ 3 ∧ xs.length ≤ 13 ∧ (∀ x ∈ xs, -1 ≤ x ∧ x ≤ 4) := by
 unfold F_pc_state
 obtain ⟨m, p1, s1, e1, g0, g1, g2, g3⟩ := lies_ok (s := s) hy h0 (by omega)
 obtain ⟨k, p2, s2, e2, k0, k1, k2, k3⟩ := many_ok (s := s1) hy (p := p1) (by omega) (by omega)
 rw [bnd4_eq e1, bnd4_eq e2]
 simp only [jn]
 let Q : Option (List Int × Int × List Int × Int × Int) → Prop := fun o => ∃ xs m p' s', o = some (xs, m, bs, p', s') ∧ p ≤ p' ∧ p' ≤ p + 100 ∧ -1 ≤ m ∧ m ≤ 3 ∧ xs.length ≤ 13 ∧ (∀ x ∈ xs, -1 ≤ x ∧ x ≤ 4)
 have fin2 : ∀ (xs : List Int) (pp ss : Int), p ≤ pp → pp ≤ p + 56 → xs.length = k.toNat → (∀ x ∈ xs, -1 ≤ x ∧ x ≤ 4) → Q (F_pc_state_L2 m k (fun o500d o500e o500g o12b => some (o12b, m, o500d, o500e, o500g)) fuel bs pp ss xs 0) := by
  intro xs pp ss hp1 hp2 hl hx
  refine loop_m (fun n (z : Int × Int × List Int × Int) => F_pc_state_L2 m k (fun o500d o500e o500g o12b => some (o12b, m, o500d, o500e, o500g)) n bs z.1 z.2.1 z.2.2.1 z.2.2.2) (fun z => 0 ≤ z.2.2.2 ∧ z.2.2.2 ≤ k ∧ p ≤ z.1 ∧ z.1 ≤ p + 56 + 2 * z.2.2.2 ∧ z.2.2.1.length = k.toNat ∧ ∀ x ∈ z.2.2.1, -1 ≤ x ∧ x ≤ 4) (fun z => (k - z.2.2.2).toNat) Q ?_ fuel (pp, ss, xs, 0) ⟨by simp only; omega, by simp only; omega, hp1, by simp only; omega, hl, hx⟩ (by have := fuel_ge; simp only; omega)
  rintro n ⟨pp, ss, xs, i⟩ ⟨i0, i1, q0, q1, ql, qx⟩
  simp only at i0 i1 q0 q1 ql qx ⊢
  rw [F_pc_state_L2]
  by_cases hi : i < k
  ·rw [ite_t (decide_eq_true hi)]
   simp only [jn]
   rw [chk_pos (by omega)]
   have stay : ∀ pp', p ≤ pp' → pp' ≤ p + 56 + 2 * (i + 1) → ∀ ss' (b : Bool), (∃ s' : Int × Int × List Int × Int, (0 ≤ s'.2.2.2 ∧ s'.2.2.2 ≤ k ∧ p ≤ s'.1 ∧ s'.1 ≤ p + 56 + 2 * s'.2.2.2 ∧ s'.2.2.1.length = k.toNat ∧ ∀ x ∈ s'.2.2.1, -1 ≤ x ∧ x ≤ 4) ∧ (k - s'.2.2.2).toNat < (k - i).toNat ∧
     (bif b then chk (0 ≤ i ∧ i < ((List.length xs : Nat) : Int)) <| chk (I64 (i + (1 : Int))) <| F_pc_state_L2 m k (fun o500d o500e o500g o12b => some (o12b, m, o500d, o500e, o500g)) n bs pp' ss' (List.set xs (Int.toNat i) (-1 : Int)) (i + (1 : Int)) else chk (I64 (i + (1 : Int))) <| F_pc_state_L2 m k (fun o500d o500e o500g o12b => some (o12b, m, o500d, o500e, o500g)) n bs pp' ss' xs (i + (1 : Int))) = F_pc_state_L2 m k (fun o500d o500e o500g o12b => some (o12b, m, o500d, o500e, o500g)) n bs s'.1 s'.2.1 s'.2.2.1 s'.2.2.2) := by
    intro pp' r0 r1 ss' b
    cases b
    ·rw [ite_f rfl, chk_pos (by unfold I64; omega)]
     exact ⟨(pp', ss', xs, i + 1), ⟨by simp only; omega, by simp only; omega, r0, r1, ql, qx⟩, by simp only; omega, rfl⟩
    ·rw [ite_t rfl, chk_pos (by omega), chk_pos (by unfold I64; omega)]
     refine ⟨(pp', ss', List.set xs (Int.toNat i) (-1), i + 1), ⟨by simp only; omega, by simp only; omega, r0, r1, by simp only [List.length_set]; exact ql, fun x hx => ?_⟩, by simp only; omega, rfl⟩
     rcases List.mem_or_eq_of_mem_set hx with h | h
     ·exact qx x h
     ·subst h; omega
   rcases Bool.eq_false_or_eq_true (decide (List.getD xs (Int.toNat i) 0 > m)) with h4 | h4
   ·rw [ite_t h4]
    obtain ⟨b, p4, s4, e4, w0, w1⟩ := one_ok (s := ss) (n := 30) hy (p := pp) (by omega) (by omega)
    rw [bnd4_eq e4]
    exact .inl (stay p4 (by omega) (by omega) s4 (!b))
   ·rw [ite_f h4]
    exact .inl (stay pp (by omega) (by omega) ss false)
  ·rw [ite_f (decide_eq_false hi)]
   exact .inr ⟨_, _, _, _, rfl, by omega, by omega, g2, g3, by omega, qx⟩
 refine loop_m (fun n (z : Int × Int × List Int × Int) => F_pc_state_L1 m k (fun o500 o500b o500c o12 => F_pc_state_L2 m k (fun o500d o500e o500g o12b => some (o12b, m, o500d, o500e, o500g)) fuel o500 o500b o500c o12 0) n bs z.1 z.2.1 z.2.2.1 z.2.2.2) (fun z => 0 ≤ z.2.2.2 ∧ z.2.2.2 ≤ k ∧ p ≤ z.1 ∧ z.1 ≤ p + 4 + 4 * z.2.2.2 ∧ z.2.2.1.length = z.2.2.2.toNat ∧ ∀ x ∈ z.2.2.1, -1 ≤ x ∧ x ≤ 4) (fun z => (k - z.2.2.2).toNat) Q ?_ fuel (p2, s2, [], 0) ⟨by simp, by simp only; omega, by simp only; omega, by simp only; omega, rfl, fun x hx => by simp at hx⟩ (by have := fuel_ge; simp only; omega)
 rintro n ⟨pp, ss, xs, i⟩ ⟨i0, i1, q0, q1, ql, qx⟩
 simp only at i0 i1 q0 q1 ql qx ⊢
 rw [F_pc_state_L1]
 by_cases hi : i < k
 ·rw [ite_t (decide_eq_true hi), chk_pos (by unfold I64; omega)]
  have a2 := maxN_in (a := 1) (b := m + 2)
  obtain ⟨v, p4, s4, e4, w0, w1, w2, w3⟩ := pick_ok (s := ss) (n := maxN 1 (m + 2)) hy (p := pp) (by omega) (by omega)
  obtain ⟨v5, p5, s5, e5, y0, y1, y2, y3⟩ := pick_ok (s := s4) (n := 6) hy (p := p4) (by omega) (by omega)
  have hd := d5_in y2 (y3 (by omega))
  unfold d5 at hd
  have hv := w3 (by omega)
  rw [bnd4_eq e4, bnd4_eq e5, chk_pos (by unfold I64; omega), chk_pos (by unfold I64; omega), chk_pos ⟨by omega, by simp only [maxLen]; omega⟩, chk_pos (by unfold I64; omega)]
  refine .inl ⟨(p5, s5, xs ++ [v - Int.tdiv v5 5], i + 1), ⟨by simp only; omega, by simp only; omega, by simp only; omega, by simp only; omega, by simp only [List.length_append, List.length_cons, List.length_nil]; omega, fun x hx => ?_⟩, by simp only; omega, rfl⟩
  rcases List.mem_append.1 hx with h | h
  ·exact qx x h
  ·simp only [List.mem_cons, List.not_mem_nil, or_false] at h
   omega
 ·rw [ite_f (decide_eq_false hi)]
  exact .inr (fin2 xs pp ss q0 (by omega) (by omega) qx)
theorem jn_is {γ δ : Type} {f : γ} {g : γ → Option δ} {r : Option δ} (k : γ → Option δ) (h : ∀ J, g J = k J) (h2 : k f = r) : jn f g = r := by
 unfold jn; rw [h f]; exact h2
def fl (p : Nat → Bool) (k : Nat) : List Int := ((List.range k).filter p).map fun (i : Nat) => (i : Int)
theorem fl_yes {p : Nat → Bool} {k : Nat} (h : p k = true) : fl p (k + 1) = fl p k ++ [(k : Int)] := by
 unfold fl; rw [List.range_succ, List.filter_append, List.map_append, List.filter_cons, if_pos h]; rfl
theorem fl_no {p : Nat → Bool} {k : Nat} (h : p k = false) : fl p (k + 1) = fl p k := by
 unfold fl; rw [List.range_succ, List.filter_append, List.map_append, List.filter_cons, if_neg (by rw [h]; simp)]; simp
theorem fl_len (p : Nat → Bool) (k : Nat) : (fl p k).length ≤ k := by
 unfold fl; rw [List.length_map]; exact Nat.le_trans (List.length_filter_le _ _) (by simp)
theorem mem_fl {p : Nat → Bool} {k : Nat} {x : Int} : x ∈ fl p k ↔ ∃ i : Nat, i < k ∧ p i = true ∧ x = (i : Int) := by
 unfold fl
 simp only [List.mem_map, List.mem_filter, List.mem_range]
 constructor
 ·rintro ⟨i, ⟨h1, h2⟩, rfl⟩; exact ⟨i, h1, h2, rfl⟩
 ·rintro ⟨i, h1, h2, rfl⟩; exact ⟨i, ⟨h1, h2⟩, rfl⟩
theorem openN_fl (xs : List Int) : openN xs = fl (fun i => decide (xs.getD i 0 ≥ 0)) xs.length := rfl
theorem int_nat {i : Int} (h : 0 ≤ i) : ∃ k : Nat, i = (k : Int) := ⟨i.toNat, by omega⟩
def numsP (q : Int) (k : Nat) : List Int := fl (fun i => hasB q (i : Int)) k
def numsN (n q : Int) : List Int := bif isQ n q then numsP q n.toNat else []
theorem iNumbersOf_eq (n q : Int) : F_i_NumbersOf n q = some (numsN n q, isQ n q) := by
 unfold F_i_NumbersOf numsN
 cases h : isQ n q with
 | false => rfl
 | true =>
  obtain ⟨⟨h0, h1, h2⟩, h3, h4⟩ := isQ_in h
  rw [ite_f (by rfl), ite_t rfl]
  simp only [jn]
  have hl := fun k => fl_len (fun i => hasB q (i : Int)) k
  refine loop_up (fun m i (s : List Int) => F_i_NumbersOf_L1 n q (fun o12 => some (o12, true)) m s i) n (fun i => numsP q i.toNat) _ ?_ ?_ h0 fuel (by have := fuel_ge; omega)
  ·intro m i i0 i1
   obtain ⟨k, rfl⟩ := int_nat i0
   have hlk := hl k
   have e1 : ((k : Int) + 1).toNat = k + 1 := by omega
   simp only [Int.toNat_natCast, e1]
   rw [F_i_NumbersOf_L1, ite_t (decide_eq_true i1), chk_pos i0]
   unfold numsP
   cases hb : hasB q (k : Int) with
   | true => rw [ite_t rfl, fl_yes hb, chk_pos ⟨by omega, by simp only [maxLen]; omega⟩, chk_pos (by unfold I64; omega)]
   | false => rw [ite_f rfl, fl_no hb, chk_pos (by unfold I64; omega)]
  ·intro m
   rw [F_i_NumbersOf_L1, ite_f (decide_eq_false (by omega))]
theorem rInts_eq (xs ys : List Int) (hx : xs.length ≤ 1048576) : F_laws_rInts xs ys = some (xs == ys) := by
 unfold F_laws_rInts
 by_cases hl : xs.length = ys.length
 ·rw [ite_f (by rw [hl]; simp)]
  simp only [jn]
  refine Or.elim (loop_all (fun m i => F_laws_rInts_L1 xs ys (fun _ => some true) m i) (xs.length : Int) (fun i => xs.getD i.toNat 0 == ys.getD i.toNat 0) (some false) (some true) ?_ ?_ ?_ (by omega) fuel (by have := fuel_ge; omega)) ?_ ?_
  ·intro m i i0 i1 hp
   rw [F_laws_rInts_L1, ite_t (decide_eq_true i1), chk_pos ⟨i0, i1⟩, chk_pos ⟨i0, by omega⟩, ite_f (by simpa [bne] using hp), chk_pos (by unfold I64; omega)]
  ·intro m i i0 i1 hp
   rw [F_laws_rInts_L1, ite_t (decide_eq_true i1), chk_pos ⟨i0, i1⟩, chk_pos ⟨i0, by omega⟩, ite_t (by simpa [bne] using hp)]
  ·intro m
   rw [F_laws_rInts_L1, ite_f (decide_eq_false (by omega))]
  ·rintro ⟨e, h⟩
   rw [e]
   have : xs = ys := by
    refine List.ext_getElem hl fun i h1 h2 => ?_
    have := h (i : Int) (by omega) (by omega)
    simp only [Int.toNat_natCast, beq_iff_eq] at this
    simpa [List.getD_eq_getElem?_getD, h1, h2] using this
   rw [this]; simp
  ·rintro ⟨e, i, i0, i1, i2, _⟩
   rw [e]
   have : (xs == ys) = false := by
    rw [beq_eq_false_iff_ne]
    intro hh
    subst hh
    simp at i2
   rw [this]
 ·rw [ite_t (by simp; omega)]
  have : (xs == ys) = false := by
   rw [beq_eq_false_iff_ne]; intro hh; exact hl (by rw [hh])
  rw [this]
def cntL (p : Int → Bool) (l : List Int) : Nat → Int
 | 0 => 0
 | i + 1 => cntL p l i + (bif p (l.getD i 0) then 1 else 0)
theorem cntL_in (p : Int → Bool) (l : List Int) : ∀ i : Nat, 0 ≤ cntL p l i ∧ cntL p l i ≤ (i : Int)
 | 0 => by simp [cntL]
 | i + 1 => by
  have := cntL_in p l i
  unfold cntL
  cases p (l.getD i 0) <;> simp only [cond_true, cond_false] <;> omega
def sumP (l : List Int) : Nat → Int
 | 0 => 0
 | i + 1 => sumP l i + l.getD i 0
theorem sumP_set {l : List Int} {v : Nat} {x : Int} (hv : v < l.length) : ∀ n : Nat, sumP (l.set v x) n = sumP l n + (if v < n then x - l.getD v 0 else 0)
 | 0 => by simp [sumP]
 | n + 1 => by
  unfold sumP
  rw [sumP_set hv n]
  by_cases e : n = v
  ·subst e
   rw [set_getD _ _ _ _ hv, if_neg (by omega), if_pos (by omega)]; omega
  ·have : (l.set v x).getD n 0 = l.getD n 0 := by
    rw [List.getD_eq_getElem?_getD, List.getElem?_set_ne (by omega), ← List.getD_eq_getElem?_getD]
   rw [this]
   by_cases e2 : v < n
   ·rw [if_pos e2, if_pos (by omega)]; omega
   ·rw [if_neg e2, if_neg (by omega)]; omega
theorem sumP_in {l : List Int} {B : Int} (h : ∀ x ∈ l, 0 ≤ x ∧ x ≤ B) : ∀ i : Nat, i ≤ l.length → 0 ≤ sumP l i ∧ sumP l i ≤ B * i
 | 0, _ => by simp [sumP]
 | i + 1, hi => by
  have := sumP_in h i (by omega)
  have h2 := getD_in (P := fun x => 0 ≤ x ∧ x ≤ B) (i := i) (by omega) h
  unfold sumP
  have e : B * ((i + 1 : Nat) : Int) = B * i + B := by rw [Int.natCast_succ, Int.mul_add, Int.mul_one]
  rw [e]; omega
theorem openN_le (xs : List Int) : (openN xs).length ≤ xs.length := fl_len _ _
theorem state_len {xs : List Int} {m : Int} (h : isStateN xs m = true) : 1 ≤ xs.length ∧ xs.length ≤ 12 ∧ 0 ≤ m ∧ m ≤ 2 := by
 have := isStateN_iff.1 h; omega
def ctP (xs : List Int) (m : Int) (k : Nat) : List Int := (List.range (m.toNat + 1)).map fun (a : Nat) => ((((List.range k).filter fun i => xs.getD i 0 == (a : Int)).length : Nat) : Int)
def ctV (xs : List Int) (m : Int) : List Int := bif isStateN xs m then ctP xs m xs.length else []
theorem ctP_len {xs : List Int} {m : Int} {k : Nat} : (ctP xs m k).length = m.toNat + 1 := by simp [ctP]
theorem ctP_at {xs : List Int} {m : Int} {k v : Nat} (h : v ≤ m.toNat) : (ctP xs m k).getD v 0 = (((List.range k).filter fun i => xs.getD i 0 == (v : Int)).length : Int) := by
 unfold ctP
 rw [List.getD_eq_getElem?_getD, List.getElem?_map, List.getElem?_range (by omega)]; rfl
theorem ctP_zero (xs : List Int) {m : Int} (h : 0 ≤ m) : List.replicate (Int.toNat (m + 1)) (0 : Int) = ctP xs m 0 := by
 unfold ctP
 have e : (m + 1).toNat = m.toNat + 1 := by omega
 rw [e]
 refine List.ext_getElem (by simp) fun i h1 h2 => by simp
theorem ctP_no {xs : List Int} {m : Int} {k : Nat} (h : ¬ xs.getD k 0 ≥ 0) : ctP xs m (k + 1) = ctP xs m k := by
 unfold ctP
 refine List.map_congr_left fun a ha => ?_
 rw [List.range_succ, List.filter_append, List.filter_cons, if_neg (by simp only [beq_iff_eq]; omega)]; simp
theorem ctP_yes {xs : List Int} {m : Int} {k v : Nat} (h : xs.getD k 0 = (v : Int)) (hv : v ≤ m.toNat) : ctP xs m (k + 1) = List.set (ctP xs m k) v ((ctP xs m k).getD v 0 + 1) := by
 have e : ∀ i j, i < m.toNat + 1 → (ctP xs m j)[i]? = some ((((List.range j).filter fun z => xs.getD z 0 == (i : Int)).length : Nat) : Int) := fun i j hi => by
  unfold ctP; rw [List.getElem?_map, List.getElem?_range hi]; rfl
 refine List.ext_getElem? fun i => ?_
 by_cases hi : i < m.toNat + 1
 ·rw [e i (k + 1) hi, List.range_succ, List.filter_append, List.length_append, List.filter_cons, h]
  by_cases e2 : v = i
  ·subst e2
   rw [if_pos (by simp), List.getElem?_set_self (by rw [ctP_len]; exact hi), ctP_at hv]
   simp
  ·rw [if_neg (by simp only [beq_iff_eq]; omega), List.getElem?_set_ne (by omega), e i k hi]
   simp
 ·rw [List.getElem?_eq_none (by rw [ctP_len]; omega), List.getElem?_eq_none (by rw [List.length_set, ctP_len]; omega)]
theorem ctP_bd {xs : List Int} {m : Int} {k v : Nat} (h : v ≤ m.toNat) : 0 ≤ (ctP xs m k).getD v 0 ∧ (ctP xs m k).getD v 0 ≤ k := by
 rw [ctP_at h]
 have := List.length_filter_le (fun i => xs.getD i 0 == (v : Int)) (List.range k)
 rw [List.length_range] at this
 omega
theorem ct_step {xs : List Int} {m : Int} (h : isStateN xs m = true) {L : Nat → List Int → Int → Option (List Int)} {k : Nat} (i1 : (k : Int) < xs.length) (n : Nat)
  (e : L (n + 1) (ctP xs m k) k = (bif (decide ((List.getD xs k 0) ≥ (0 : Int))) then chk (0 ≤ (List.getD xs k 0) ∧ (List.getD xs k 0) < ((List.length (ctP xs m k) : Nat) : Int)) <| chk (I64 ((List.getD (ctP xs m k) (Int.toNat (List.getD xs k 0)) 0) + (1 : Int))) <| chk (I64 ((k : Int) + (1 : Int))) <| L n (List.set (ctP xs m k) (Int.toNat (List.getD xs k 0)) ((List.getD (ctP xs m k) (Int.toNat (List.getD xs k 0)) 0) + (1 : Int))) ((k : Int) + (1 : Int)) else chk (I64 ((k : Int) + (1 : Int))) <| L n (ctP xs m k) ((k : Int) + (1 : Int)))) :
  L (n + 1) (ctP xs m k) k = L n (ctP xs m (k + 1)) ((k : Int) + 1) := by
 obtain ⟨⟨l1, l2⟩, ⟨m0, m1⟩, hall⟩ := isStateN_iff.1 h
 have hk := hall k (by omega)
 rw [e]
 by_cases hb : xs.getD k 0 ≥ 0
 ·obtain ⟨v, hv⟩ := int_nat hb
  have hbd := ctP_bd (xs := xs) (m := m) (k := k) (v := v) (by omega)
  rw [ite_t (decide_eq_true hb), hv, Int.toNat_natCast, chk_pos ⟨by omega, by rw [ctP_len]; omega⟩, chk_pos (by unfold I64; omega), chk_pos (by unfold I64; omega), ctP_yes hv (by omega)]
 ·rw [ite_f (decide_eq_false hb), ctP_no hb, chk_pos (by unfold I64; omega)]
theorem ct_sum {xs : List Int} {m : Int} (h : isStateN xs m = true) : ∀ k, k ≤ xs.length → sumP (ctP xs m k) (m.toNat + 1) = ((openP xs k).length : Int)
 | 0, _ => by
  have hs := state_len h
  have : ctP xs m 0 = List.replicate (m.toNat + 1) 0 := by rw [← ctP_zero xs hs.2.2.1]; congr 1; omega
  rw [this]
  have hz : ∀ n, n ≤ m.toNat + 1 → sumP (List.replicate (m.toNat + 1) (0 : Int)) n = 0 := by
   intro n
   induction n with
   | zero => intro _; rfl
   | succ n ih => intro hn; unfold sumP; rw [ih (by omega), List.getD_eq_getElem?_getD, List.getElem?_replicate, if_pos (by omega)]; rfl
  rw [hz _ (Nat.le_refl _)]; simp [openP]
 | k + 1, hk => by
  have ih := ct_sum h k (by omega)
  obtain ⟨⟨l1, l2⟩, ⟨m0, m1⟩, hall⟩ := isStateN_iff.1 h
  have hk2 := hall k (by omega)
  by_cases hb : xs.getD k 0 ≥ 0
  ·obtain ⟨v, hv⟩ := int_nat hb
   rw [ctP_yes hv (by omega), sumP_set (by rw [ctP_len]; omega), if_pos (by omega), open_yes hb, ih, List.length_append]
   simp only [List.length_cons, List.length_nil]; omega
  ·rw [ctP_no hb, open_no hb, ih]
theorem iStCounts_eq {xs : List Int} {m : Int} (h : isStateN xs m = true) : F_iS_counts xs m = some (ctP xs m xs.length) := by
 have hs := state_len h
 unfold F_iS_counts
 rw [chk_pos (by unfold I64; omega), chk_pos ⟨by omega, by omega, by omega, by simp only [maxLen]; omega⟩]
 simp only [jn]
 rw [ctP_zero xs hs.2.2.1]
 refine (loop_up (fun n i (s : List Int) => F_iS_counts_L1 xs (fun o9 => some o9) n s i) (xs.length : Int) (fun i => ctP xs m i.toNat) _ ?_ ?_ (by omega) fuel (by have := fuel_ge; omega))
 ·intro n i i0 i1
  obtain ⟨k, rfl⟩ := int_nat i0
  have e1 : ((k : Int) + 1).toNat = k + 1 := by omega
  simp only [Int.toNat_natCast, e1]
  refine ct_step (L := fun n s i => F_iS_counts_L1 xs (fun o9 => some o9) n s i) h i1 n ?_
  rw [F_iS_counts_L1, ite_t (decide_eq_true i1), chk_pos ⟨i0, i1⟩]
  simp only [nam, Int.toNat_natCast]
 ·intro n
  rw [F_iS_counts_L1, ite_f (decide_eq_false (by omega))]
  simp only [Int.toNat_natCast]
theorem iCountsOf_eq (xs : List Int) (m : Int) (hx : xs.length ≤ 1048576) : F_i_CountsOf xs m = some (ctV xs m, isStateN xs m) := by
 unfold F_i_CountsOf ctV
 rw [chk_pos (by omega)]
 cases h : isStateN xs m with
 | false => rfl
 | true =>
  have hs := state_len h
  rw [ite_f (by rfl), ite_t rfl]
  rw [bnd1_eq (iStCounts_eq h)]
def inN (xs : List Int) (q : Int) : Int := cntL (fun k => hasB q k) (openN xs) (openN xs).length
def vainN (xs : List Int) (q : Int) : Bool := inN xs q == 0 || inN xs q == ((openN xs).length : Int)
theorem jn_q {γ δ : Type} {Q0 : Option δ → Prop} {f : γ} {g : γ → Option δ} (k : γ → Option δ) (h : ∀ J, g J = k J) (h2 : Q0 (k f)) : Q0 (jn f g) := by
 unfold jn; rw [h f]; exact h2
theorem loop_st {σ R : Type} (L : Nat → Int → σ → Option R) (N : Nat) (I : Nat → σ → Prop) (Q : Option R → Prop)
  (step : ∀ m (i : Nat) s, i < N → I i s → (∃ s', I (i + 1) s' ∧ L (m + 1) (i : Int) s = L m ((i + 1 : Nat) : Int) s') ∨ Q (L (m + 1) (i : Int) s)) (fin : ∀ m s, I N s → Q (L (m + 1) (N : Int) s)) (s0 : σ) (h0 : I 0 s0) (n : Nat) (hn : N < n) : Q (L n 0 s0) := by
 have key : ∀ (k : Nat) (n i : Nat) (s : σ), i + k = N → k < n → I i s → Q (L n (i : Int) s) := by
  intro k
  induction k with
  | zero =>
   intro n i s h1 h2 h3
   obtain ⟨n, rfl⟩ : ∃ m, n = m + 1 := ⟨n - 1, by omega⟩
   have e : i = N := by omega
   subst e
   exact fin n s h3
  | succ k ih =>
   intro n i s h1 h2 h3
   obtain ⟨n, rfl⟩ : ∃ m, n = m + 1 := ⟨n - 1, by omega⟩
   rcases step n i s (by omega) h3 with ⟨s', h4, h5⟩ | h4
   ·rw [h5]; exact ih n (i + 1) s' (by omega) (by omega) h4
   ·exact h4
 exact key N n 0 s0 (by omega) hn h0
def digP (b : Int) (xs : List Int) : Nat → Int
 | 0 => 0
 | k + 1 => digP b xs k * b + xs.getD k 0 + 1
theorem digP_in {b : Int} {xs : List Int} (hb : b = 2 ∨ b = 3) (hx : ∀ i : Nat, -1 ≤ xs.getD i 0 ∧ xs.getD i 0 ≤ b - 2) : ∀ k : Nat, 0 ≤ digP b xs k ∧ digP b xs k + 1 ≤ b ^ k
 | 0 => by simp [digP]
 | k + 1 => by
  have ih := digP_in hb hx k
  have := hx k
  rw [digP, Int.pow_succ]
  rcases hb with rfl | rfl <;> omega
theorem digP_inj {b : Int} {xs ys : List Int} (hb : b = 2 ∨ b = 3) (hx : ∀ i : Nat, -1 ≤ xs.getD i 0 ∧ xs.getD i 0 ≤ b - 2) (hy : ∀ i : Nat, -1 ≤ ys.getD i 0 ∧ ys.getD i 0 ≤ b - 2) : ∀ k : Nat, digP b xs k = digP b ys k → ∀ i, i < k → xs.getD i 0 = ys.getD i 0
 | 0, _, i, hi => by omega
 | k + 1, h, i, hi => by
  have h1 := hx k
  have h2 := hy k
  rw [digP, digP] at h
  have hk : digP b xs k = digP b ys k ∧ xs.getD k 0 = ys.getD k 0 := by rcases hb with rfl | rfl <;> omega
  by_cases e : i = k
  ·rw [e]; exact hk.2
  ·exact digP_inj hb hx hy k hk.1 i (by omega)
theorem getD_ext {xs ys : List Int} (hl : xs.length = ys.length) (h : ∀ i, i < xs.length → xs.getD i 0 = ys.getD i 0) : xs = ys := by
 apply List.ext_getElem hl
 intro i h1 h2
 have := h i h1
 simpa [List.getD_eq_getElem?_getD, h1, h2] using this
def okR (n : Nat) (m : Int) (xs : List Int) : Prop := xs.length = n ∧ okS xs m
theorem okR_dig {n : Nat} {m b : Int} {xs : List Int} (h : okR n m xs) (hb : m + 2 ≤ b) : ∀ i : Nat, -1 ≤ xs.getD i 0 ∧ xs.getD i 0 ≤ b - 2 := fun i => by have := h.2.2.2.2 i; omega
theorem okR_ans {n : Nat} {m q : Int} {y : Bool} {xs : List Int} (h : okR n m xs) : okR n m (ansN m q y xs) := ⟨by rw [ansN_len]; exact h.1, okS_ans h.2⟩
theorem dig_inj {n : Nat} {m b : Int} {xs ys : List Int} (hb : b = 2 ∨ b = 3) (hm : m + 2 ≤ b) (hx : okR n m xs) (hy : okR n m ys) (h : digP b xs n = digP b ys n) : xs = ys :=
 getD_ext (hx.1.trans hy.1.symm) fun i hi => digP_inj hb (okR_dig hx hm) (okR_dig hy hm) n h i (by rw [← hx.1]; exact hi)
theorem ans_getD {m q : Int} {y : Bool} {xs : List Int} {i : Nat} (h : i < xs.length) : (ansN m q y xs).getD i 0 = lieN m (falseB q y (i : Int)) (xs.getD i 0) := by
 unfold ansN afterN; simp [h]
def muP (m : Int) (xs : List Int) : Nat → Nat
 | 0 => 0
 | k + 1 => muP m xs k + (if 0 ≤ xs.getD k 0 then (m + 1 - xs.getD k 0).toNat else 0)
theorem muP_ans {m q : Int} {y : Bool} {xs : List Int} (h : okS xs m) : ∀ k, k ≤ xs.length → muP m (ansN m q y xs) k ≤ muP m xs k ∧ ((∃ i : Nat, i < k ∧ 0 ≤ xs.getD i 0 ∧ falseB q y (i : Int) = true) → muP m (ansN m q y xs) k < muP m xs k)
 | 0, _ => ⟨Nat.le_refl _, fun ⟨i, hi, _⟩ => by omega⟩
 | k + 1, hk => by
  obtain ⟨ih1, ih2⟩ := muP_ans (q := q) (y := y) h k (by omega)
  have hb := h.2.2.2 k
  have e := ans_getD (m := m) (q := q) (y := y) (xs := xs) (i := k) (by omega)
  have hm := h.2.1
  rw [muP, muP, e]
  have key : (if 0 ≤ lieN m (falseB q y (k : Int)) (xs.getD k 0) then (m + 1 - lieN m (falseB q y (k : Int)) (xs.getD k 0)).toNat else 0) ≤ (if 0 ≤ xs.getD k 0 then (m + 1 - xs.getD k 0).toNat else 0) ∧
    (0 ≤ xs.getD k 0 ∧ falseB q y (k : Int) = true → (if 0 ≤ lieN m (falseB q y (k : Int)) (xs.getD k 0) then (m + 1 - lieN m (falseB q y (k : Int)) (xs.getD k 0)).toNat else 0) < (if 0 ≤ xs.getD k 0 then (m + 1 - xs.getD k 0).toNat else 0)) := by
   by_cases h0 : 0 ≤ xs.getD k 0
   ·rw [if_pos h0]
    cases hf : falseB q y (k : Int) with
    | false => rw [lie_no rfl, if_pos h0]; exact ⟨Nat.le_refl _, fun hh => by cases hh.2⟩
    | true =>
     by_cases h1 : xs.getD k 0 + 1 > m
     ·rw [lie_over h0 rfl h1, if_neg (by decide)]; exact ⟨Nat.zero_le _, fun _ => by omega⟩
     ·rw [lie_up h0 rfl h1, if_pos (by omega)]; exact ⟨by omega, fun _ => by omega⟩
   ·rw [lie_neg h0, if_neg h0]; exact ⟨Nat.le_refl _, fun hh => absurd hh.1 h0⟩
  refine ⟨by omega, fun ⟨i, hi, h1, h2⟩ => ?_⟩
  by_cases e : i = k
  ·subst e
   have := key.2 ⟨h1, h2⟩
   omega
  ·have := ih2 ⟨i, by omega, h1, h2⟩
   omega
def mu (m : Int) (xs : List Int) : Nat := muP m xs xs.length
theorem mu_le {m : Int} {xs : List Int} (h : okS xs m) (hm : m ≤ 1) : mu m xs ≤ 2 * xs.length := by
 have : ∀ k, muP m xs k ≤ 2 * k := by
  intro k
  induction k with
  | zero => exact Nat.le_refl _
  | succ k ih => rw [muP]; split <;> omega
 exact this _
theorem cntL_none {p : Int → Bool} {l : List Int} (h : ∀ x ∈ l, p x = false) : ∀ i : Nat, i ≤ l.length → cntL p l i = 0
 | 0, _ => rfl
 | i + 1, hi => by rw [cntL, cntL_none h i (by omega), h _ (getD_in (P := fun z => z ∈ l) (by omega) fun z hz => hz)]; rfl
theorem cntL_all {p : Int → Bool} {l : List Int} (h : ∀ x ∈ l, p x = true) : ∀ i : Nat, i ≤ l.length → cntL p l i = (i : Int)
 | 0, _ => rfl
 | i + 1, hi => by rw [cntL, cntL_all h i (by omega), h _ (getD_in (P := fun z => z ∈ l) (by omega) fun z hz => hz)]; simp only [cond_true]; omega
theorem mem_open {xs : List Int} {x : Int} : x ∈ openN xs ↔ ∃ i : Nat, i < xs.length ∧ 0 ≤ xs.getD i 0 ∧ x = (i : Int) := by
 rw [openN_fl, mem_fl]
 constructor
 ·rintro ⟨i, h1, h2, h3⟩; exact ⟨i, h1, by simpa using h2, h3⟩
 ·rintro ⟨i, h1, h2, h3⟩; exact ⟨i, h1, by simpa using h2, h3⟩
theorem not_vain {xs : List Int} {q : Int} (h : vainN xs q = false) : (∃ i : Nat, i < xs.length ∧ 0 ≤ xs.getD i 0 ∧ hasB q (i : Int) = true) ∧ ∃ i : Nat, i < xs.length ∧ 0 ≤ xs.getD i 0 ∧ hasB q (i : Int) = false := by
 unfold vainN at h
 simp only [Bool.or_eq_false_iff, beq_eq_false_iff_ne, ne_eq] at h
 constructor
 ·apply Classical.byContradiction
  intro hn
  refine h.1 (cntL_none (fun x hx => ?_) _ (Nat.le_refl _))
  obtain ⟨i, h1, h2, rfl⟩ := mem_open.1 hx
  exact Bool.eq_false_iff.2 fun e => hn ⟨i, h1, h2, e⟩
 ·apply Classical.byContradiction
  intro hn
  refine h.2 (cntL_all (fun x hx => ?_) _ (Nat.le_refl _))
  obtain ⟨i, h1, h2, rfl⟩ := mem_open.1 hx
  rcases Bool.eq_false_or_eq_true (hasB q (i : Int)) with e | e
  ·exact e
  ·exact absurd ⟨i, h1, h2, e⟩ hn
theorem mu_less {m q : Int} {y : Bool} {xs : List Int} (h : okS xs m) (hv : vainN xs q = false) : mu m (ansN m q y xs) < mu m xs := by
 unfold mu
 rw [ansN_len]
 refine (muP_ans h xs.length (Nat.le_refl _)).2 ?_
 obtain ⟨⟨i, a1, a2, a3⟩, ⟨j, b1, b2, b3⟩⟩ := not_vain hv
 cases y with
 | true => exact ⟨j, b1, b2, by unfold falseB; rw [b3]; rfl⟩
 | false => exact ⟨i, a1, a2, by unfold falseB; rw [a3]; rfl⟩
/-! the set of questions -/
theorem iCode_eq {n : Nat} {m : Int} {xs : List Int} (hn : n ≤ 5) (hm : m ≤ 1) (h : okR n m xs) (M : Int) : F_iS_code xs M = some (digP 3 xs n) := by
 unfold F_iS_code
 simp only [jn]
 have hd := okR_dig (b := 3) h (by omega)
 refine loop_up (fun k i s => F_iS_code_L1 xs (fun v3 => some v3) k i s) (n : Int) (fun i => digP 3 xs i.toNat) _ ?_ ?_ (by omega) fuel (by have := fuel_ge; omega)
 ·intro k i i0 i1
  obtain ⟨j, rfl⟩ := int_nat i0
  have e1 : ((j : Int) + 1).toNat = j + 1 := by omega
  have hb := digP_in (.inr rfl) hd j
  have hp : (3 : Int) ^ j ≤ 81 := by
   have : j ≤ 4 := by omega
   match j, this with
   | 0, _ | 1, _ | 2, _ | 3, _ | 4, _ => decide
  have hj := hd j
  have hl := h.1
  simp only [Int.toNat_natCast, e1]
  rw [F_iS_code_L1, ite_t (decide_eq_true (by omega)), chk_pos ⟨i0, by omega⟩, chk_pos (by unfold I64; omega)]
  simp only [nam, Int.toNat_natCast]
  rw [chk_pos (by unfold I64; omega), chk_pos (by unfold I64; omega), chk_pos (by unfold I64; omega), digP]
 ·intro k
  have hl := h.1
  try simp only [Int.toNat_natCast]
  rw [F_iS_code_L1, ite_f (decide_eq_false (by omega))]
theorem b23 {m : Int} (h0 : 0 ≤ m) (hm : m ≤ 1) : m + 2 = 2 ∨ m + 2 = 3 := by omega
theorem pow23 {b : Int} (hb : b = 2 ∨ b = 3) {j : Nat} (h : j ≤ 5) : 1 ≤ b ^ j ∧ b ^ j ≤ 243 := by
 rcases hb with rfl | rfl
 ·match j, h with
  | 0, _ | 1, _ | 2, _ | 3, _ | 4, _ | 5, _ => decide
 ·match j, h with
  | 0, _ | 1, _ | 2, _ | 3, _ | 4, _ | 5, _ => decide
theorem sKey_eq {n : Nat} {m : Int} {xs : List Int} (hn : n ≤ 5) (hm : m ≤ 1) (h : okR n m xs) : F_s_l6Key xs m = some (digP (m + 2) xs n) := by
 unfold F_s_l6Key
 simp only [jn]
 have hd := okR_dig (b := m + 2) h (by omega)
 have hb := b23 h.2.2.1 hm
 refine loop_up (fun k i s => F_s_l6Key_L1 xs m (fun v3 => some v3) k i s) (n : Int) (fun i => digP (m + 2) xs i.toNat) _ ?_ ?_ (by omega) fuel (by have := fuel_ge; omega)
 ·intro k i i0 i1
  obtain ⟨j, rfl⟩ := int_nat i0
  have e1 : ((j : Int) + 1).toNat = j + 1 := by omega
  have hc := digP_in hb hd j
  have hp := pow23 hb (j := j) (by omega)
  have hj := hd j
  have hl := h.1
  have hmul : 0 ≤ digP (m + 2) xs j * (m + 2) ∧ digP (m + 2) xs j * (m + 2) ≤ 729 := by rcases hb with e | e <;> rw [e] at hp hc ⊢ <;> omega
  simp only [Int.toNat_natCast, e1]
  rw [F_s_l6Key_L1, ite_t (decide_eq_true (by omega)), chk_pos (by unfold I64; omega), chk_pos (by unfold I64; omega), chk_pos ⟨i0, by omega⟩]
  simp only [nam, Int.toNat_natCast]
  rw [chk_pos (by unfold I64; omega), chk_pos (by unfold I64; omega), chk_pos (by unfold I64; omega), digP]
 ·intro k
  have hl := h.1
  try simp only [Int.toNat_natCast]
  rw [F_s_l6Key_L1, ite_f (decide_eq_false (by omega))]
theorem jn_p {γ δ : Type} {Q0 : Option δ → Prop} {f : γ} {g : γ → Option δ} (P : γ → Prop) (hf : P f) (hg : ∀ J, P J → Q0 (g J)) : Q0 (jn f g) := by
 unfold jn; exact hg f hf
theorem shortC_ok {bs : List Int} {p s : Int} (hy : okY bs) (h0 : 0 ≤ p) (h1 : p ≤ 600000000000) : ∃ xs m p' s', F_pc_short bs p s = some (xs, m, bs, p', s') ∧ p ≤ p' ∧ p' ≤ p + 110 ∧ -1 ≤ m ∧ m ≤ 3 ∧ xs.length ≤ 13 ∧ (∀ x ∈ xs, -1 ≤ x ∧ x ≤ 4) := by
 unfold F_pc_short
 obtain ⟨b, p1, s1, e1, g0, g1⟩ := one_ok (s := s) (n := 12) hy h0 (by omega)
 rw [bnd4_eq e1]
 cases b with
 | true =>
  obtain ⟨xs, m, p2, s2, e2, k0, k1, k2⟩ := state_ok (s := s1) (p := p1) hy (by omega) (by omega)
  rw [ite_t rfl, bnd5_eq e2]
  exact ⟨_, _, _, _, rfl, by omega, by omega, k2⟩
 | false =>
  obtain ⟨m, p2, s2, e2, k0, k1, k2, k3⟩ := pick_ok (s := s1) (n := 2) hy (p := p1) (by omega) (by omega)
  have k3 := k3 (by omega)
  rw [ite_f rfl, bnd4_eq e2]
  let Q : Option (List Int × Int × List Int × Int × Int) → Prop := fun o => ∃ xs m p' s', o = some (xs, m, bs, p', s') ∧ p ≤ p' ∧ p' ≤ p + 110 ∧ -1 ≤ m ∧ m ≤ 3 ∧ xs.length ≤ 13 ∧ (∀ x ∈ xs, -1 ≤ x ∧ x ≤ 4)
  refine jn_p (Q0 := Q) (fun J => ∀ pp ss xs, p ≤ pp → pp ≤ p + 110 → xs.length ≤ 13 → (∀ x ∈ xs, -1 ≤ x ∧ x ≤ 4) → Q (J bs pp ss xs)) (fun pp ss xs a1 a2 a3 a4 => ⟨_, _, _, _, rfl, a1, a2, by omega, by omega, a3, a4⟩) fun J hJ => ?_
  obtain ⟨k, p3, s3, e3, w0, w1, w2⟩ := among_ok (s := s2) (p := p2) (xs := [(4 : Int), (5 : Int), (3 : Int), (3 : Int), (2 : Int), (1 : Int), (4 : Int), (6 : Int)]) hy (by omega) (by omega) (by decide)
  have hk : 1 ≤ k ∧ k ≤ 6 := by
   simp only [List.mem_cons, List.not_mem_nil, or_false] at w2
   omega
  rw [bnd4_eq e3]
  refine loop_m (fun n (z : Int × Int × List Int × Int) => F_pc_short_L1 m J n bs z.1 z.2.1 z.2.2.1 z.2.2.2) (fun z => 0 ≤ z.2.2.2 ∧ z.2.2.2 ≤ k ∧ p ≤ z.1 ∧ z.1 ≤ p + 10 + 2 * (k - z.2.2.2) ∧ (z.2.2.1.length : Int) = k - z.2.2.2 ∧ ∀ x ∈ z.2.2.1, -1 ≤ x ∧ x ≤ 4) (fun z => z.2.2.2.toNat) Q ?_ fuel (p3, s3, [], k) ⟨by simp only; omega, by simp only; omega, by simp only; omega, by simp only; omega, by simp, fun x hx => by cases hx⟩ (by have := fuel_ge; simp only; omega)
  rintro n ⟨pp, ss, xs, i⟩ ⟨i0, i1, q0, q1, ql, qx⟩
  simp only at i0 i1 q0 q1 ql qx ⊢
  rw [F_pc_short_L1]
  by_cases hi : i > 0
  ·obtain ⟨v, p4, s4, e4, y0, y1, y2⟩ := among_ok (s := ss) (p := pp) (xs := [(0 : Int), (0 : Int), m, (-1 : Int), (0 : Int)]) hy (by omega) (by omega) (by simp)
   have hv : -1 ≤ v ∧ v ≤ 4 := by
    simp only [List.mem_cons, List.not_mem_nil, or_false] at y2
    omega
   rw [ite_t (decide_eq_true hi), bnd4_eq e4, chk_pos ⟨by omega, by simp only [maxLen]; omega⟩, chk_pos (by unfold I64; omega)]
   refine .inl ⟨(p4, s4, xs ++ [v], i - 1), ⟨by simp only; omega, by simp only; omega, by simp only; omega, by simp only; omega, by simp only [List.length_append, List.length_singleton]; omega, fun x hx => ?_⟩, by simp only; omega, rfl⟩
   rcases List.mem_append.1 hx with h | h
   ·exact qx x h
   ·simp only [List.mem_cons, List.not_mem_nil, or_false] at h
    omega
  ·rw [ite_f (decide_eq_false hi)]
   exact .inr (hJ pp ss xs q0 (by omega) (by omega) qx)
theorem rBools_self (xs : List Bool) (hx : xs.length ≤ 1048576) : F_laws_rBools xs xs = some true := by
 unfold F_laws_rBools
 rw [ite_f (bne_self_eq_false _)]
 simp only [jn]
 refine loop_up (fun k i (_ : Unit) => F_laws_rBools_L1 xs xs (fun _ => some true) k i) (xs.length : Int) (fun _ => ()) (some true) ?_ ?_ (by omega) fuel (by have := fuel_ge; omega)
 ·intro k i i0 i1
  rw [F_laws_rBools_L1, ite_t (decide_eq_true i1), chk_pos ⟨i0, i1⟩, chk_pos ⟨i0, i1⟩, ite_f (by rw [beq_self_eq_true]; rfl), chk_pos (by unfold I64; omega)]
 ·intro k
  rw [F_laws_rBools_L1, ite_f (decide_eq_false (by omega))]
def lqK (k : Nat) : Int := (1 : Int) * 2 ^ k - 1
theorem lqK_in {k : Nat} (h : k ≤ 12) : 0 ≤ lqK k ∧ lqK k ≤ 4095 := by
 unfold lqK
 match k, h with
 | 0, _ | 1, _ | 2, _ | 3, _ | 4, _ | 5, _ | 6, _ | 7, _ | 8, _ | 9, _ | 10, _ | 11, _ | 12, _ => decide
theorem cntL_zero {p : Int → Bool} {l : List Int} : ∀ i : Nat, cntL p l i = 0 → ∀ j, j < i → p (l.getD j 0) = false
 | 0, _, j, hj => by omega
 | i + 1, h, j, hj => by
  rw [cntL] at h
  have := cntL_in p l i
  cases hp : p (l.getD i 0) with
  | true => rw [hp] at h; simp only [cond_true] at h; omega
  | false =>
   rw [hp] at h; simp only [cond_false] at h
   by_cases e : j = i
   ·rw [e]; exact hp
   ·exact cntL_zero i (by omega) j (by omega)
theorem cntL_full {p : Int → Bool} {l : List Int} : ∀ i : Nat, cntL p l i = (i : Int) → ∀ j, j < i → p (l.getD j 0) = true
 | 0, _, j, hj => by omega
 | i + 1, h, j, hj => by
  rw [cntL] at h
  have := cntL_in p l i
  cases hp : p (l.getD i 0) with
  | false => rw [hp] at h; simp only [cond_false] at h; omega
  | true =>
   rw [hp] at h; simp only [cond_true] at h
   by_cases e : j = i
   ·rw [e]; exact hp
   ·exact cntL_full i (by omega) j (by omega)
theorem getD_of_mem {l : List Int} {x : Int} (h : x ∈ l) : ∃ i, i < l.length ∧ l.getD i 0 = x := by
 obtain ⟨i, hi, rfl⟩ := List.getElem_of_mem h
 exact ⟨i, hi, by simp [List.getD_eq_getElem?_getD, hi]⟩
theorem vain_back {m q : Int} {xs : List Int} (h : okS xs m) : vainN xs q = true ↔ (ansN m q false xs = xs ∨ ansN m q true xs = xs) := by
 constructor
 ·intro hv
  unfold vainN inN at hv
  rw [Bool.or_eq_true, beq_iff_eq, beq_iff_eq] at hv
  rcases hv with hv | hv
  ·left
   refine getD_ext ansN_len fun i hi => ?_
   rw [ansN_len] at hi
   rw [ans_getD hi]
   by_cases h0 : xs.getD i 0 ≥ 0
   ·obtain ⟨j, hj, e⟩ := getD_of_mem (mem_open.2 ⟨i, hi, h0, rfl⟩)
    have := cntL_zero _ hv j hj
    rw [e] at this
    exact lie_no (by unfold falseB; rw [this]; rfl)
   ·exact lie_neg h0
  ·right
   refine getD_ext ansN_len fun i hi => ?_
   rw [ansN_len] at hi
   rw [ans_getD hi]
   by_cases h0 : xs.getD i 0 ≥ 0
   ·obtain ⟨j, hj, e⟩ := getD_of_mem (mem_open.2 ⟨i, hi, h0, rfl⟩)
    have := cntL_full _ hv j hj
    rw [e] at this
    exact lie_no (by unfold falseB; rw [this]; rfl)
   ·exact lie_neg h0
 ·intro hh
  cases hv : vainN xs q with
  | true => rfl
  | false =>
   rcases hh with e | e
   ·have := mu_less (y := false) h hv; rw [e] at this; omega
   ·have := mu_less (y := true) h hv; rw [e] at this; omega
def ndO (rec : List Int → Int) (m : Int) (xs : List Int) (k : Nat) : Int := 1 + max (rec (ansN m (lqK k) false xs)) (rec (ansN m (lqK k) true xs))
def ndS (rec : List Int → Int) (m : Int) (xs : List Int) (b : Int) (k : Nat) : Int := if vainN xs (lqK k) = true then b else if b < 0 ∨ ndO rec m xs k < b then ndO rec m xs k else b
def lsB (rec : List Int → Int) (m : Int) (xs : List Int) : Nat → Int
 | 0 => -1
 | k + 1 => ndS rec m xs (lsB rec m xs k) (k + 1)
def ndT (m : Int) : Nat → List Int → Int
 | 0, _ => 0
 | d + 1, xs => if (openN xs).length < 2 then 0 else lsB (ndT m d) m xs (xs.length - 1)
theorem lsB_congr {m : Int} {xs : List Int} {r r' : List Int → Int} (h : ∀ k y, vainN xs (lqK k) = false → r (ansN m (lqK k) y xs) = r' (ansN m (lqK k) y xs)) : ∀ k, lsB r m xs k = lsB r' m xs k
 | 0 => rfl
 | k + 1 => by
  rw [lsB, lsB, lsB_congr h k]
  unfold ndS
  cases hv : vainN xs (lqK (k + 1)) with
  | true => rw [if_pos rfl, if_pos rfl]
  | false =>
   have : ndO r m xs (k + 1) = ndO r' m xs (k + 1) := by unfold ndO; rw [h _ _ hv, h _ _ hv]
   rw [this]
theorem hasB_lq {k i : Nat} (hk : k ≤ 12) (hi : i ≤ 12) : hasB (lqK k) (i : Int) = decide (i < k) := by
 have key : ∀ k : Fin 13, ∀ i : Fin 13, hasB (lqK k.1) ((i.1 : Nat) : Int) = decide (i.1 < k.1) := by decide +kernel
 exact key ⟨k, by omega⟩ ⟨i, by omega⟩
theorem fl_sorted (p : Nat → Bool) : ∀ k, (fl p k).Pairwise (· < ·)
 | 0 => by simp [fl]
 | k + 1 => by
  cases hp : p k with
  | true =>
   rw [fl_yes hp, List.pairwise_append]
   refine ⟨fl_sorted p k, by simp, fun a ha b hb => ?_⟩
   obtain ⟨i, h1, h2, rfl⟩ := mem_fl.1 ha
   simp only [List.mem_singleton] at hb
   omega
  | false => rw [fl_no hp]; exact fl_sorted p k
theorem parts_two {n : Nat} {m : Int} {xs : List Int} (hn : n ≤ 5) (h : okR n m xs) (h2 : 2 ≤ (openN xs).length) : ∃ k, 1 ≤ k ∧ k ≤ n - 1 ∧ vainN xs (lqK k) = false := by
 have hl := h.1
 apply Classical.byContradiction
 intro hno
 have hall : ∀ k, 1 ≤ k → k ≤ n - 1 → vainN xs (lqK k) = true := fun k h1 h3 => by
  cases hv : vainN xs (lqK k) with
  | true => rfl
  | false => exact absurd ⟨k, h1, h3, hv⟩ hno
 have hnd : ∃ i j : Nat, i < j ∧ j < xs.length ∧ 0 ≤ xs.getD i 0 ∧ 0 ≤ xs.getD j 0 := by
  apply Classical.byContradiction
  intro hn2
  have hone : ∀ a ∈ openN xs, ∀ b ∈ openN xs, a = b := by
   intro a ha b hb
   obtain ⟨i, i1, i2, rfl⟩ := mem_open.1 ha
   obtain ⟨j, j1, j2, rfl⟩ := mem_open.1 hb
   rcases Nat.lt_trichotomy i j with c | c | c
   ·exact absurd ⟨i, j, c, j1, i2, j2⟩ hn2
   ·rw [c]
   ·exact absurd ⟨j, i, c, i1, j2, i2⟩ hn2
  have hd : (openN xs).Pairwise (· < ·) := by rw [openN_fl]; exact fl_sorted _ _
  match ho : openN xs with
  | [] => rw [ho] at h2; simp at h2
  | [a] => rw [ho] at h2; simp at h2
  | a :: b :: l =>
   rw [ho] at hd hone
   have e := hone a (by simp) b (by simp)
   have := List.rel_of_pairwise_cons hd (show b ∈ b :: l by simp)
   omega
 obtain ⟨i, j, c1, c2, c3, c4⟩ := hnd
 have hv := hall (i + 1) (by omega) (by omega)
 rw [vain_back (m := m) h.2] at hv
 rcases hv with e | e
 ·have e1 : (ansN m (lqK (i + 1)) false xs).getD i 0 = xs.getD i 0 := by rw [e]
  rw [ans_getD (by omega)] at e1
  have hf : falseB (lqK (i + 1)) false (i : Int) = true := by unfold falseB; rw [hasB_lq (by omega) (by omega), decide_eq_true (by omega)]; rfl
  by_cases ho : xs.getD i 0 + 1 > m
  ·rw [lie_over c3 hf ho] at e1; omega
  ·rw [lie_up c3 hf ho] at e1; omega
 ·have e1 : (ansN m (lqK (i + 1)) true xs).getD j 0 = xs.getD j 0 := by rw [e]
  rw [ans_getD (by omega)] at e1
  have hf : falseB (lqK (i + 1)) true (j : Int) = true := by unfold falseB; rw [hasB_lq (by omega) (by omega), decide_eq_false (by omega)]; rfl
  by_cases ho : xs.getD j 0 + 1 > m
  ·rw [lie_over c4 hf ho] at e1; omega
  ·rw [lie_up c4 hf ho] at e1; omega
theorem lsB_fact {rec : List Int → Int} {m : Int} {xs : List Int} (hpos : ∀ k y, vainN xs (lqK k) = false → 0 ≤ rec (ansN m (lqK k) y xs)) : ∀ K : Nat,
  (lsB rec m xs K = -1 ∧ ∀ k, 1 ≤ k → k ≤ K → vainN xs (lqK k) = true) ∨ (1 ≤ lsB rec m xs K ∧ (∀ k, 1 ≤ k → k ≤ K → vainN xs (lqK k) = false → lsB rec m xs K ≤ ndO rec m xs k) ∧ ∃ k, 1 ≤ k ∧ k ≤ K ∧ vainN xs (lqK k) = false ∧ lsB rec m xs K = ndO rec m xs k)
 | 0 => .inl ⟨rfl, fun k h1 h2 => by omega⟩
 | K + 1 => by
  have ih := lsB_fact hpos K
  rw [lsB]
  unfold ndS
  cases hv : vainN xs (lqK (K + 1)) with
  | true =>
   rw [if_pos rfl]
   rcases ih with ⟨h1, h2⟩ | ⟨h1, h2, k, h3, h4, h5, h6⟩
   ·refine .inl ⟨h1, fun k k1 k2 => ?_⟩
    by_cases e : k = K + 1
    ·rw [e]; exact hv
    ·exact h2 k k1 (by omega)
   ·refine .inr ⟨h1, fun k k1 k2 k3 => ?_, k, h3, by omega, h5, h6⟩
    by_cases e : k = K + 1
    ·rw [e, hv] at k3; cases k3
    ·exact h2 k k1 (by omega) k3
  | false =>
   have p0 := hpos (K + 1) false hv
   have hone : 1 ≤ ndO rec m xs (K + 1) := by unfold ndO; omega
   rw [if_neg (by simp)]
   by_cases hc : lsB rec m xs K < 0 ∨ ndO rec m xs (K + 1) < lsB rec m xs K
   ·rw [if_pos hc]
    refine .inr ⟨hone, fun k k1 k2 k3 => ?_, K + 1, by omega, Nat.le_refl _, hv, rfl⟩
    by_cases e : k = K + 1
    ·rw [e]; exact Int.le_refl _
    ·rcases ih with ⟨h1, h2⟩ | ⟨h1, h2, _⟩
     ·have := h2 k k1 (by omega); rw [k3] at this; cases this
     ·have := h2 k k1 (by omega) k3; omega
   ·rw [if_neg hc]
    rcases ih with ⟨h1, h2⟩ | ⟨h1, h2, k, h3, h4, h5, h6⟩
    ·omega
    ·refine .inr ⟨h1, fun k k1 k2 k3 => ?_, k, h3, by omega, h5, h6⟩
     by_cases e : k = K + 1
     ·rw [e]; omega
     ·exact h2 k k1 (by omega) k3
theorem nd_stable {n : Nat} {m : Int} (hn : n ≤ 5) : ∀ (d d' : Nat) (xs : List Int), okR n m xs → mu m xs ≤ d → mu m xs ≤ d' → ndT m d xs = ndT m d' xs := by
 have nil : ∀ (d : Nat) (xs : List Int), okR n m xs → mu m xs = 0 → ndT m d xs = 0 := by
  intro d xs h h0
  cases d with
  | zero => rfl
  | succ d =>
   rw [ndT, if_pos]
   apply Classical.byContradiction
   intro hc
   obtain ⟨k, _, _, hv⟩ := parts_two hn h (by omega)
   have := mu_less (y := true) h.2 hv
   omega
 intro d
 induction d with
 | zero => intro d' xs h h1 h2; rw [nil d' xs h (by omega)]; rfl
 | succ d ih =>
  intro d' xs h h1 h2
  cases d' with
  | zero => rw [nil (d + 1) xs h (by omega)]; rfl
  | succ d' =>
   rw [ndT, ndT, lsB_congr (r := ndT m d) (r' := ndT m d') (fun k y hv => by
    have := mu_less (y := y) h.2 hv
    exact ih d' _ (okR_ans h) (by omega) (by omega))]
def nd (m : Int) (xs : List Int) : Int := ndT m 20 xs
theorem lnd_eq {n : Nat} {m : Int} {xs : List Int} (hn : n ≤ 5) (hm : m ≤ 1) (h : okR n m xs) : nd m xs = if (openN xs).length < 2 then 0 else lsB (nd m) m xs (xs.length - 1) := by
 have hmu := mu_le h.2 hm
 have hl := h.1
 show ndT m 20 xs = _
 rw [ndT, lsB_congr (r := ndT m 19) (r' := nd m) (fun k y hv => by
  have := mu_less (y := y) h.2 hv
  exact nd_stable hn 19 20 _ (okR_ans h) (by omega) (by omega))]
theorem nd_all {n : Nat} {m : Int} (hn : n ≤ 5) (hm : m ≤ 1) : ∀ (d : Nat) (xs : List Int), okR n m xs → mu m xs ≤ d → 0 ≤ nd m xs ∧ nd m xs ≤ (d : Int) ∧ ((openN xs).length < 2 → nd m xs = 0) ∧ (2 ≤ (openN xs).length → 1 ≤ nd m xs ∧ (∀ k, 1 ≤ k → k ≤ n - 1 → vainN xs (lqK k) = false → nd m xs ≤ ndO (nd m) m xs k) ∧ ∃ k, 1 ≤ k ∧ k ≤ n - 1 ∧ vainN xs (lqK k) = false ∧ nd m xs = ndO (nd m) m xs k) := by
 intro d
 induction d with
 | zero =>
  intro xs h h0
  have hc : (openN xs).length < 2 := by
   apply Classical.byContradiction
   intro hc
   obtain ⟨k, _, _, hv⟩ := parts_two hn h (by omega)
   have := mu_less (y := true) h.2 hv
   omega
  rw [lnd_eq hn hm h, if_pos hc]
  exact ⟨Int.le_refl _, Int.le_refl _, fun _ => rfl, fun h2 => by omega⟩
 | succ d ih =>
  intro xs h h0
  have hl := h.1
  rw [lnd_eq hn hm h]
  by_cases hc : (openN xs).length < 2
  ·rw [if_pos hc]
   exact ⟨Int.le_refl _, by omega, fun _ => rfl, fun h2 => by omega⟩
  ·rw [if_neg hc, hl]
   have hpos : ∀ k y, vainN xs (lqK k) = false → 0 ≤ nd m (ansN m (lqK k) y xs) ∧ nd m (ansN m (lqK k) y xs) ≤ (d : Int) := fun k y hv => by
    have := mu_less (y := y) h.2 hv
    have := ih _ (okR_ans (q := lqK k) (y := y) h) (by omega)
    exact ⟨this.1, this.2.1⟩
   rcases lsB_fact (rec := nd m) (m := m) (xs := xs) (fun k y hv => (hpos k y hv).1) (n - 1) with ⟨h1, h2⟩ | ⟨h1, h2, k, h3, h4, h5, h6⟩
   ·obtain ⟨k, k1, k2, hv⟩ := parts_two hn h (by omega)
    have := h2 k k1 k2; rw [hv] at this; cases this
   ·have p1 := hpos k false h5
    have p2 := hpos k true h5
    refine ⟨by omega, ?_, fun hh => absurd hh hc, fun _ => ⟨h1, h2, k, h3, h4, h5, h6⟩⟩
    rw [h6]; unfold ndO; omega
theorem nd_in {n : Nat} {m : Int} {xs : List Int} (hn : n ≤ 5) (hm : m ≤ 1) (h : okR n m xs) : 0 ≤ nd m xs ∧ nd m xs ≤ 10 := by
 have hmu := mu_le h.2 hm
 have hl := h.1
 have := nd_all hn hm 10 xs h (by omega)
 exact ⟨this.1, this.2.1⟩
theorem nd_two {n : Nat} {m : Int} {xs : List Int} (hn : n ≤ 5) (hm : m ≤ 1) (h : okR n m xs) (h2 : 2 ≤ (openN xs).length) : 1 ≤ nd m xs ∧ (∀ k, 1 ≤ k → k ≤ n - 1 → vainN xs (lqK k) = false → nd m xs ≤ ndO (nd m) m xs k) ∧ ∃ k, 1 ≤ k ∧ k ≤ n - 1 ∧ vainN xs (lqK k) = false ∧ nd m xs = ndO (nd m) m xs k := by
 have hmu := mu_le h.2 hm
 have hl := h.1
 exact (nd_all hn hm 10 xs h (by omega)).2.2.2 h2
theorem nd_few {n : Nat} {m : Int} {xs : List Int} (hn : n ≤ 5) (hm : m ≤ 1) (h : okR n m xs) (h2 : (openN xs).length < 2) : nd m xs = 0 := by
 rw [lnd_eq hn hm h, if_pos h2]
theorem iLess_eq {k : Nat} (h : k ≤ 12) : F_i_less (k : Int) = some (lqK k) := by
 have := lqK_in h
 have hp : (1 : Int) * 2 ^ k = lqK k + 1 := by unfold lqK; omega
 unfold F_i_less
 simp only [nam, Int.toNat_natCast]
 rw [hp, chk_pos ⟨by omega, by omega, by unfold I64; omega⟩, chk_pos (by unfold I64; omega), show lqK k + 1 - 1 = lqK k by omega]
def NI (n : Nat) (m : Int) (w : List (Int × Int)) : Prop := ∀ ys, okR n m ys → ∀ b, mget w (digP 3 ys n) = some b → b = nd m ys
theorem NI_nil (n : Nat) (m : Int) : NI n m [] := fun ys hy b hb => by cases hb
theorem NI_put {n : Nat} {m : Int} {xs : List Int} {w : List (Int × Int)} (hm : m ≤ 1) (h : NI n m w) (hx : okR n m xs) : NI n m (mput w (digP 3 xs n) (nd m xs)) := by
 intro ys hy b hb
 rw [mget_put] at hb
 split at hb
 ·rename_i e
  have := dig_inj (.inr rfl) (by omega) hy hx e
  subst this
  exact (Option.some.inj hb).symm
 ·exact h ys hy b hb
abbrev NeedF := List (Int × Int) → List Int → Int → Option (Int × List (Int × Int))
def NeedOk (n : Nat) (m : Int) (self : NeedF) (xs : List Int) : Prop := ∀ w, NI n m w → ∃ w', self w xs m = some (nd m xs, w') ∧ NI n m w'
theorem iEqual_eq {n : Nat} {m : Int} {xs ys : List Int} (hn : n ≤ 5) (hm : m ≤ 1) (h : okR n m xs) (h2 : okR n m ys) : F_iS_isEqual ys m xs m = some (decide (ys = xs)) := by
 unfold F_iS_isEqual
 rw [bnd1_eq (iCode_eq hn hm h2 m), bnd1_eq (iCode_eq hn hm h m)]
 congr 1
 rw [Bool.eq_iff_iff, beq_iff_eq, decide_eq_true_iff]
 exact ⟨fun e => dig_inj (.inr rfl) (by omega) h2 h e, fun e => by rw [e]⟩
theorem iOfLess_step {n k : Nat} {m : Int} {xs : List Int} {self : NeedF} (hn : n ≤ 5) (hm : m ≤ 1) (h : okR n m xs) (hk : k ≤ 12) (H : vainN xs (lqK k) = false → ∀ y, NeedOk n m self (ansN m (lqK k) y xs)) (w : List (Int × Int)) (hw : NI n m w) :
  ∃ w', F_il_ofLess_B self w xs m (k : Int) = some (if vainN xs (lqK k) = true then 0 else ndO (nd m) m xs k, !vainN xs (lqK k), w') ∧ NI n m w' := by
 unfold F_il_ofLess_B
 rw [bnd1_eq (iLess_eq hk), chk_pos h.2]
 have e1 := iEqual_eq hn hm h (okR_ans (q := lqK k) (y := false) h)
 have e2 := iEqual_eq hn hm h (okR_ans (q := lqK k) (y := true) h)
 refine jn_q (Q0 := fun o => ∃ w', o = some (if vainN xs (lqK k) = true then 0 else ndO (nd m) m xs k, !vainN xs (lqK k), w') ∧ NI n m w') (fun J : Bool → Option (Int × Bool × List (Int × Int)) => J (vainN xs (lqK k))) (fun J => ?_) ?_
 ·rw [bnd1_eq e1]
  have hvb := vain_back (m := m) (q := lqK k) h.2
  by_cases c1 : ansN m (lqK k) false xs = xs
  ·rw [decide_eq_true c1, ite_t rfl, hvb.2 (.inl c1)]
  ·rw [decide_eq_false c1, ite_f rfl, bnd1_eq e2]
   by_cases c2 : ansN m (lqK k) true xs = xs
   ·rw [decide_eq_true c2, hvb.2 (.inr c2)]
   ·rw [decide_eq_false c2]
    cases hv : vainN xs (lqK k) with
    | false => rfl
    | true =>
     rcases hvb.1 hv with c | c
     ·exact absurd c c1
     ·exact absurd c c2
 ·cases hv : vainN xs (lqK k) with
  | true => exact ⟨w, rfl, hw⟩
  | false =>
   obtain ⟨w1, g1, hw1⟩ := H hv false w hw
   obtain ⟨w2, g2, hw2⟩ := H hv true w1 hw1
   have b1 := nd_in hn hm (okR_ans (q := lqK k) (y := false) h)
   have b2 := nd_in hn hm (okR_ans (q := lqK k) (y := true) h)
   rw [ite_f rfl, bnd2_eq g1, bnd2_eq g2, chk_pos (by unfold I64; omega)]
   exact ⟨w2, rfl, hw2⟩
theorem iNeed_step {n : Nat} {m : Int} {xs : List Int} {self : NeedF} (hn : n ≤ 5) (hm : m ≤ 1) (h : okR n m xs) (H : ∀ k, vainN xs (lqK k) = false → ∀ y, NeedOk n m self (ansN m (lqK k) y xs)) : NeedOk n m (F_il_need_B self) xs := by
 intro w hw
 have hl := h.1
 unfold F_il_need_B
 rw [chk_pos (by omega)]
 by_cases h2 : (openN xs).length < 2
 ·rw [ite_t (decide_eq_true (by omega)), nd_few hn hm h h2]
  exact ⟨w, rfl, hw⟩
 ·rw [ite_f (decide_eq_false (by omega)), bnd1_eq (iCode_eq hn hm h m)]
  simp only [nam]
  cases hg : mget w (digP 3 xs n) with
  | some b =>
   rw [ite_t (show (some b).isSome = true from rfl), hw xs h b hg]
   exact ⟨w, rfl, hw⟩
  | none =>
   rw [ite_f (show (none : Option Int).isSome = false from rfl)]
   simp only [jn]
   refine loop_st (fun g i (s : List (Int × Int) × Int) => F_il_need_B_L1 xs m self (fun o500 v7 => bnd1 (F_iS_code xs m) fun r53 => some (v7, mput o500 r53 v7)) g s.1 (i + 1) s.2) (n - 1)
    (fun i s => s.2 = lsB (nd m) m xs i ∧ NI n m s.1) (fun o => ∃ w', o = some (nd m xs, w') ∧ NI n m w') ?_ ?_ (w, -1) ⟨rfl, hw⟩ fuel (by have := fuel_ge; omega)
   ·rintro g i ⟨w1, v⟩ hi ⟨rfl, hw1⟩
    dsimp only at hw1 ⊢
    have ei : (i : Int) + 1 = ((i + 1 : Nat) : Int) := by omega
    obtain ⟨w2, e2, hw2⟩ := iOfLess_step (k := i + 1) hn hm h (by omega) (H (i + 1)) w1 hw1
    left
    refine ⟨(w2, lsB (nd m) m xs (i + 1)), ⟨rfl, hw2⟩, ?_⟩
    rw [ei, F_il_need_B_L1, ite_t (decide_eq_true (by omega)), bnd3_eq e2, lsB]
    unfold ndS
    cases hv : vainN xs (lqK (i + 1)) with
    | true =>
     refine jn_is (fun J => J false) (fun J => rfl) ?_
     rw [ite_f rfl, chk_pos (by unfold I64; omega)]; rfl
    | false =>
     by_cases hc : lsB (nd m) m xs i < 0 ∨ ndO (nd m) m xs (i + 1) < lsB (nd m) m xs i
     ·refine jn_is (fun J => J true) (fun J => ?_) ?_
      ·rw [ite_t (show (!false) = true from rfl)]
       rcases Int.lt_or_le (lsB (nd m) m xs i) 0 with c | c
       ·rw [ite_t (decide_eq_true c)]
       ·rw [ite_f (decide_eq_false (by omega)), if_neg (by simp), decide_eq_true (by omega)]
      ·rw [ite_t rfl, chk_pos (by unfold I64; omega), if_neg (by simp), if_neg (by simp), if_pos hc]
     ·refine jn_is (fun J => J false) (fun J => ?_) ?_
      ·rw [ite_t (show (!false) = true from rfl), ite_f (decide_eq_false (by omega)), if_neg (by simp), decide_eq_false (by omega)]
      ·rw [ite_f rfl, chk_pos (by unfold I64; omega), if_neg (by simp), if_neg hc]
   ·rintro g ⟨w1, v⟩ ⟨rfl, hw1⟩
    dsimp only at hw1 ⊢
    have he : lsB (nd m) m xs (n - 1) = nd m xs := by rw [lnd_eq hn hm h, if_neg h2, hl]
    rw [F_il_need_B_L1, ite_f (decide_eq_false (by omega)), bnd1_eq (iCode_eq hn hm h m), he]
    exact ⟨_, rfl, NI_put hm hw1 h⟩
theorem iNeed_eq {n : Nat} {m : Int} (hn : n ≤ 5) (hm : m ≤ 1) : ∀ (d g : Nat) (xs : List Int), okR n m xs → mu m xs ≤ d → d < g → NeedOk n m (F_il_need g) xs := by
 intro d
 induction d with
 | zero =>
  intro g xs h h0 hg
  obtain ⟨g, rfl⟩ : ∃ x, g = x + 1 := ⟨g - 1, by omega⟩
  intro w hw
  rw [F_il_need]
  refine iNeed_step hn hm h (fun k hv => ?_) w hw
  have := mu_less (y := true) h.2 hv
  omega
 | succ d ih =>
  intro g xs h h0 hg
  obtain ⟨g, rfl⟩ : ∃ x, g = x + 1 := ⟨g - 1, by omega⟩
  intro w hw
  rw [F_il_need]
  refine iNeed_step hn hm h (fun k hv y => ?_) w hw
  have := mu_less (y := y) h.2 hv
  exact ih g _ (okR_ans h) (by omega) (by omega)
theorem iNeed_top {n : Nat} {m : Int} {xs : List Int} (hn : n ≤ 5) (hm : m ≤ 1) (h : okR n m xs) : NeedOk n m (F_il_need fuel) xs :=
 iNeed_eq hn hm (mu m xs) fuel xs h (Nat.le_refl _) (by have := mu_le h.2 hm; have := h.1; have := fuel_ge; omega)
theorem sStart_eq (n : Nat) (m : Int) (h : n ≤ 60) : F_s_l2Start (n : Int) m = some (List.replicate n 0, m) := by
 unfold F_s_l2Start
 rw [chk_pos ⟨by omega, by omega, by omega, by simp only [maxLen]; omega⟩, Int.toNat_natCast]
theorem sOfL_eq {n : Nat} {m b : Int} (hn : n ≤ 5) (hm : 0 ≤ m ∧ m ≤ 1) (hb : b = m + 2) : ∀ (i g : Nat) (l : List Int) (key : Int), i ≤ n → i < g → l.length = n → 0 ≤ key → key < b ^ i →
  ∃ ys : List Int, F_s_l6Of_L1 m (fun o => some (o, m)) g l ((i : Int) - 1) key = some (ys, m) ∧ ys.length = n ∧ (∀ j, i ≤ j → ys.getD j 0 = l.getD j 0) ∧ (∀ j, j < i → -1 ≤ ys.getD j 0 ∧ ys.getD j 0 ≤ m) ∧ digP b ys i = key := by
 intro i
 induction i with
 | zero =>
  intro g l key _ hg hl h0 h1
  obtain ⟨g, rfl⟩ : ∃ x, g = x + 1 := ⟨g - 1, by omega⟩
  rw [F_s_l6Of_L1, ite_f (decide_eq_false (by omega))]
  simp only [Int.pow_zero] at h1
  exact ⟨l, rfl, hl, fun j _ => rfl, fun j hj => by omega, by simp only [digP]; omega⟩
 | succ i ih =>
  intro g l key hi hg hl h0 h1
  obtain ⟨g, rfl⟩ : ∃ x, g = x + 1 := ⟨g - 1, by omega⟩
  have hb2 : b = 2 ∨ b = 3 := by omega
  have hp := pow23 hb2 (j := i) (by omega)
  have hp1 := pow23 hb2 (j := i + 1) (by omega)
  rw [Int.pow_succ] at h1 hp1
  have et : Int.tmod key b = key % b := Int.tmod_eq_emod_of_nonneg h0
  have ed : Int.tdiv key b = key / b := Int.tdiv_eq_ediv_of_nonneg h0
  have hmod := Int.emod_nonneg key (b := b) (by omega)
  have hmod2 := Int.emod_lt_of_pos key (b := b) (by omega)
  have hdm := Int.emod_add_mul_ediv key b
  have hd0 : 0 ≤ key / b := Int.ediv_nonneg h0 (by omega)
  have hd1 : key / b < b ^ i := Int.ediv_lt_of_lt_mul (by omega) h1
  obtain ⟨ys, e, k1, k2, k3, k4⟩ := ih g (l.set i (key % b - 1)) (key / b) (by omega) (by omega) (by rw [List.length_set]; exact hl) hd0 hd1
  have hyi : ys.getD i 0 = key % b - 1 := by rw [k2 i (Nat.le_refl _), set_getD _ _ _ _ (by omega)]
  have hib : key ≤ 243 := by omega
  rw [F_s_l6Of_L1, ite_t (decide_eq_true (by omega)), chk_pos (by unfold I64; omega), chk_pos (by omega), ← hb, et, ed, chk_pos (by unfold I64; omega)]
  simp only [nam]
  have hdle : key / b ≤ 243 := by omega
  rw [chk_pos ⟨by omega, by omega⟩, chk_pos (by unfold I64; omega), chk_pos (by unfold I64; omega), show (((i + 1 : Nat) : Int) - 1).toNat = i by omega, show ((i + 1 : Nat) : Int) - 1 - 1 = (i : Int) - 1 by omega]
  refine ⟨ys, e, k1, fun j hj => ?_, fun j hj => ?_, ?_⟩
  ·rw [k2 j (by omega), List.getD_eq_getElem?_getD, List.getElem?_set_ne (by omega), ← List.getD_eq_getElem?_getD]
  ·by_cases ej : j = i
   ·rw [ej, hyi]; omega
   ·exact k3 j (by omega)
  ·rw [digP, k4, hyi]
   have : key / b * b = b * (key / b) := Int.mul_comm _ _
   omega
theorem sOf_ex {n : Nat} {m key : Int} (hn : n ≤ 5) (hm : 0 ≤ m ∧ m ≤ 1) (h0 : 0 ≤ key) (h1 : key < (m + 2) ^ n) : ∃ ys : List Int, F_s_l6Of key (n : Int) m = some (ys, m) ∧ okR n m ys ∧ digP (m + 2) ys n = key := by
 obtain ⟨ys, e, k1, k2, k3, k4⟩ := sOfL_eq hn hm rfl n fuel (List.replicate n 0) key (Nat.le_refl _) (by have := fuel_ge; omega) (by rw [List.length_replicate]) h0 h1
 refine ⟨ys, ?_, ⟨k1, by omega, by omega, by omega, fun i => ?_⟩, k4⟩
 ·unfold F_s_l6Of
  rw [bnd2_eq (sStart_eq n m (by omega))]
  simp only [jn]
  rw [chk_pos (by unfold I64; omega), e]
 ·by_cases hi : i < n
  ·exact k3 i hi
  ·rw [List.getD_eq_getElem?_getD, List.getElem?_eq_none (by omega)]
   simp only [Option.getD_none]; omega
noncomputable def stK (n : Nat) (m key : Int) : List Int := Classical.epsilon fun ys => okR n m ys ∧ digP (m + 2) ys n = key
theorem sOf_eq {n : Nat} {m key : Int} (hn : n ≤ 5) (hm : 0 ≤ m ∧ m ≤ 1) (h0 : 0 ≤ key) (h1 : key < (m + 2) ^ n) : F_s_l6Of key (n : Int) m = some (stK n m key, m) ∧ okR n m (stK n m key) ∧ digP (m + 2) (stK n m key) n = key := by
 obtain ⟨ys, e, h2, h3⟩ := sOf_ex hn hm h0 h1
 have hs := Classical.epsilon_spec (p := fun ys => okR n m ys ∧ digP (m + 2) ys n = key) ⟨ys, h2, h3⟩
 have : stK n m key = ys := dig_inj (b23 hm.1 hm.2) (Int.le_refl _) hs.1 h2 (hs.2.trans h3.symm)
 rw [this]
 exact ⟨e, h2, h3⟩
theorem stK_dig {n : Nat} {m : Int} {xs : List Int} (hm : 0 ≤ m ∧ m ≤ 1) (h : okR n m xs) : stK n m (digP (m + 2) xs n) = xs := by
 have hs := Classical.epsilon_spec (p := fun ys => okR n m ys ∧ digP (m + 2) ys n = digP (m + 2) xs n) ⟨xs, h, rfl⟩
 exact dig_inj (b23 hm.1 hm.2) (Int.le_refl _) hs.1 h hs.2
theorem sAfterK_eq {n k : Nat} {m : Int} {xs : List Int} (h : okR n m xs) (hk : k ≤ 12) (y : Bool) : F_s_l6After xs m (k : Int) y = some (ansN m (lqK k) y xs, m) := by
 have := lqK_in hk
 have hp : (1 : Int) * 2 ^ k = lqK k + 1 := by unfold lqK; omega
 unfold F_s_l6After
 simp only [nam, Int.toNat_natCast]
 rw [hp, chk_pos ⟨by omega, by omega, by unfold I64; omega⟩, chk_pos (by unfold I64; omega), chk_pos h.2, show lqK k + 1 - 1 = lqK k by omega]
noncomputable def ndK (n : Nat) (m key : Int) : Int := nd m (stK n m key)
def NTr (n : Nat) (m : Int) (r : Int) (f : List Int) : Prop := (f.length : Int) = (m + 2) ^ n ∧ ∀ key : Nat, (key : Int) < (m + 2) ^ n → f.getD key 0 = if ndK n m key < r then ndK n m key else -1
noncomputable def lfR (n : Nat) (m : Int) (r : Int) : List Int := ((List.range ((m + 2) ^ n).toNat).map fun (k : Nat) => (k : Int)).filter fun key => decide (r ≤ ndK n m key)
theorem lfR_mem {n : Nat} {m r key : Int} (h : key ∈ lfR n m r) : 0 ≤ key ∧ key < (m + 2) ^ n ∧ r ≤ ndK n m key := by
 unfold lfR at h
 rw [List.mem_filter, List.mem_map] at h
 obtain ⟨⟨k, h1, rfl⟩, h2⟩ := h
 rw [List.mem_range] at h1
 exact ⟨by omega, by omega, of_decide_eq_true h2⟩
theorem lfR_len {n : Nat} {m r : Int} (hn : n ≤ 5) (hm : 0 ≤ m ∧ m ≤ 1) : (lfR n m r).length ≤ 243 := by
 have := pow23 (b23 hm.1 hm.2) hn
 unfold lfR
 refine Nat.le_trans (List.length_filter_le _ _) ?_
 rw [List.length_map, List.length_range]; omega
theorem ndK_in {n : Nat} {m key : Int} (hn : n ≤ 5) (hm : 0 ≤ m ∧ m ≤ 1) (h0 : 0 ≤ key) (h1 : key < (m + 2) ^ n) : 0 ≤ ndK n m key ∧ ndK n m key ≤ 10 := nd_in hn hm.2 (sOf_eq hn hm h0 h1).2.1
theorem NTr_at {n : Nat} {m r : Int} {f xs : List Int} (hn : n ≤ 5) (hm : 0 ≤ m ∧ m ≤ 1) (hf : NTr n m r f) (h : okR n m xs) : 0 ≤ digP (m + 2) xs n ∧ digP (m + 2) xs n < ((f.length : Nat) : Int) ∧ f.getD (digP (m + 2) xs n).toNat 0 = if nd m xs < r then nd m xs else -1 := by
 have hd := digP_in (b23 hm.1 hm.2) (okR_dig h (Int.le_refl _)) n
 obtain ⟨k, hk⟩ := int_nat hd.1
 have := hf.2 k (by omega)
 refine ⟨hd.1, by rw [hf.1]; omega, ?_⟩
 rw [hk, Int.toNat_natCast, this]
 unfold ndK
 rw [← hk, stK_dig hm h]
theorem found_iff {n : Nat} {m r : Int} {xs : List Int} (hn : n ≤ 5) (hm : 0 ≤ m ∧ m ≤ 1) (h : okR n m xs) (h1 : 1 ≤ r) (hr : r ≤ nd m xs) : (∃ k, 1 ≤ k ∧ k ≤ n - 1 ∧ nd m (ansN m (lqK k) true xs) < r ∧ nd m (ansN m (lqK k) false xs) < r) ↔ nd m xs = r := by
 have h2 : 2 ≤ (openN xs).length := by
  apply Classical.byContradiction
  intro hc
  have := nd_few hn hm.2 h (by omega)
  omega
 obtain ⟨g1, g2, k0, g3, g4, g5, g6⟩ := nd_two hn hm.2 h h2
 constructor
 ·rintro ⟨k, k1, k2, k3, k4⟩
  have hv : vainN xs (lqK k) = false := by
   cases hv : vainN xs (lqK k) with
   | false => rfl
   | true =>
    rcases (vain_back (m := m) h.2).1 hv with e | e
    ·rw [e] at k4; omega
    ·rw [e] at k3; omega
  have := g2 k k1 k2 hv
  unfold ndO at this
  omega
 ·intro e
  unfold ndO at g6
  exact ⟨k0, g3, g4, by omega, by omega⟩
theorem sL5_eq {n : Nat} {m r : Int} {f xs : List Int} (hn : n ≤ 5) (hm : 0 ≤ m ∧ m ≤ 1) (hf : NTr n m r f) (h : okR n m xs) (h1 : 1 ≤ r) (hr : r ≤ nd m xs) (J : Bool → Option (List Int)) : F_s6N_L5 (n : Int) f xs m J fuel 1 false = J (decide (nd m xs = r)) := by
 have hfi := found_iff hn hm h h1 hr
 let gd : Nat → Prop := fun k => nd m (ansN m (lqK k) true xs) < r ∧ nd m (ansN m (lqK k) false xs) < r
 have hbound : ∀ k y, 0 ≤ nd m (ansN m (lqK k) y xs) := fun k y => (nd_in hn hm.2 (okR_ans h)).1
 refine loop_st (fun g i (b : Bool) => F_s6N_L5 (n : Int) f xs m J g (i + 1) b) (n - 1) (fun i b => (b = false ∧ ∀ k, 1 ≤ k → k ≤ i → ¬ gd k) ∨ (b = true ∧ nd m xs = r)) (fun o => o = J (decide (nd m xs = r))) ?_ ?_ false (.inl ⟨rfl, fun k a b => by omega⟩) fuel (by have := fuel_ge; omega)
 ·rintro g i b hi hb
  have ei : (i : Int) + 1 = ((i + 1 : Nat) : Int) := by omega
  rcases hb with ⟨rfl, hno⟩ | ⟨rfl, hyes⟩
  ·have a1 := NTr_at hn hm hf (okR_ans (q := lqK (i + 1)) (y := true) h)
   have a2 := NTr_at hn hm hf (okR_ans (q := lqK (i + 1)) (y := false) h)
   have p1 := hbound (i + 1) true
   have p2 := hbound (i + 1) false
   left
   rw [ei, F_s6N_L5]
   simp only [jn]
   rw [ite_t (decide_eq_true (by omega)), ite_t (show (!false) = true from rfl), bnd2_eq (sAfterK_eq h (by omega) true), bnd1_eq (sKey_eq hn hm.2 (okR_ans h)), chk_pos ⟨a1.1, a1.2.1⟩]
   by_cases c1 : nd m (ansN m (lqK (i + 1)) true xs) < r
   ·rw [ite_t (decide_eq_true (by rw [a1.2.2, if_pos c1]; exact p1)), bnd2_eq (sAfterK_eq h (by omega) false), bnd1_eq (sKey_eq hn hm.2 (okR_ans h)), chk_pos ⟨a2.1, a2.2.1⟩, chk_pos (by unfold I64; omega)]
    by_cases c2 : nd m (ansN m (lqK (i + 1)) false xs) < r
    ·refine ⟨true, .inr ⟨rfl, hfi.1 ⟨i + 1, by omega, by omega, c1, c2⟩⟩, ?_⟩
     rw [decide_eq_true (by rw [a2.2.2, if_pos c2]; exact p2)]
    ·refine ⟨false, .inl ⟨rfl, fun k k1 k2 => ?_⟩, ?_⟩
     ·by_cases e : k = i + 1
      ·rw [e]; exact fun hh => c2 hh.2
      ·exact hno k k1 (by omega)
     ·rw [decide_eq_false (by rw [a2.2.2, if_neg c2]; omega)]
   ·refine ⟨false, .inl ⟨rfl, fun k k1 k2 => ?_⟩, ?_⟩
    ·by_cases e : k = i + 1
     ·rw [e]; exact fun hh => c1 hh.1
     ·exact hno k k1 (by omega)
    ·rw [ite_f (decide_eq_false (by rw [a1.2.2, if_neg c1]; omega)), chk_pos (by unfold I64; omega)]
  ·right
   rw [F_s6N_L5]
   simp only [jn]
   rw [decide_eq_true hyes]
   cases decide ((i : Int) + 1 < (n : Int)) with
   | true => rw [ite_t rfl, ite_f (show (!true) = false from rfl)]
   | false => rw [ite_f rfl, ite_f rfl]
 ·rintro g b hb
  rw [F_s6N_L5]
  simp only [jn]
  rw [ite_f (decide_eq_false (by omega)), ite_f rfl]
  rcases hb with ⟨rfl, hno⟩ | ⟨rfl, hyes⟩
  ·rw [decide_eq_false]
   intro e
   obtain ⟨k, k1, k2, k3, k4⟩ := hfi.2 e
   exact hno k k1 k2 ⟨k3, k4⟩
  ·rw [decide_eq_true hyes]
theorem filter_take_suc2 {α : Type} {p : α → Bool} {l : List α} {d : α} {i : Nat} (h : i < l.length) : (l.take (i + 1)).filter p = (l.take i).filter p ++ (if p (l.getD i d) = true then [l.getD i d] else []) := by
 have e : l.take (i + 1) = l.take i ++ [l.getD i d] := by
  rw [List.take_add_one]; simp [List.getD_eq_getElem?_getD, h]
 rw [e, List.filter_append, List.filter_cons]
 split <;> simp
theorem sL4_eq {n : Nat} {m r : Int} {f : List Int} (hn : n ≤ 5) (hm : 0 ≤ m ∧ m ≤ 1) (hf : NTr n m r f) (h1 : 1 ≤ r) (J : List Int → List Int → Option (List Int)) : F_s6N_L4 (n : Int) m f (lfR n m r) J fuel [] [] 0 = J ((lfR n m r).filter fun key => decide (ndK n m key = r)) ((lfR n m r).filter fun key => !decide (ndK n m key = r)) := by
 have hll := lfR_len (r := r) hn hm
 refine loop_st (fun g i (s : List Int × List Int) => F_s6N_L4 (n : Int) m f (lfR n m r) J g s.1 s.2 i) (lfR n m r).length
  (fun i s => s.1 = ((lfR n m r).take i).filter (fun key => decide (ndK n m key = r)) ∧ s.2 = ((lfR n m r).take i).filter (fun key => !decide (ndK n m key = r)))
  (fun o => o = J ((lfR n m r).filter fun key => decide (ndK n m key = r)) ((lfR n m r).filter fun key => !decide (ndK n m key = r))) ?_ ?_ ([], []) ⟨rfl, rfl⟩ fuel (by have := fuel_ge; omega)
 ·rintro g i ⟨a, b⟩ hi ⟨rfl, rfl⟩
  have hmem : (lfR n m r).getD i 0 ∈ lfR n m r := getD_in (P := fun z => z ∈ lfR n m r) hi fun z hz => hz
  have la : (((lfR n m r).take i).filter (fun key => decide (ndK n m key = r))).length ≤ 243 := Nat.le_trans (List.length_filter_le _ _) (by rw [List.length_take]; omega)
  have lb : (((lfR n m r).take i).filter (fun key => !decide (ndK n m key = r))).length ≤ 243 := Nat.le_trans (List.length_filter_le _ _) (by rw [List.length_take]; omega)
  left
  refine ⟨(((lfR n m r).take (i + 1)).filter (fun key => decide (ndK n m key = r)), ((lfR n m r).take (i + 1)).filter (fun key => !decide (ndK n m key = r))), ⟨rfl, rfl⟩, ?_⟩
  rw [filter_take_suc2 (d := 0) hi, filter_take_suc2 (d := 0) hi]
  dsimp only
  rw [F_s6N_L4]
  obtain ⟨key, hkey⟩ : ∃ key, (lfR n m r).getD i 0 = key := ⟨_, rfl⟩
  rw [hkey] at hmem
  simp only [Int.toNat_natCast, hkey]
  obtain ⟨q1, q2, q3⟩ := lfR_mem hmem
  obtain ⟨e1, e2, e3⟩ := sOf_eq hn hm q1 q2
  have ei : ((i : Int) + 1) = ((i + 1 : Nat) : Int) := by omega
  simp only [jn]
  rw [ite_t (decide_eq_true (by omega)), chk_pos ⟨by omega, by omega⟩, bnd2_eq e1, sL5_eq hn hm hf e2 h1 q3]
  by_cases c : ndK n m key = r
  ·rw [decide_eq_true (show nd m (stK n m key) = r from c), ite_t rfl, chk_pos ⟨by omega, by simp only [maxLen]; omega⟩, chk_pos (by unfold I64; omega), ei, decide_eq_true c, if_pos rfl, if_neg (by simp), List.append_nil]
  ·rw [decide_eq_false (show ¬ nd m (stK n m key) = r from c), ite_f rfl, chk_pos ⟨by omega, by simp only [maxLen]; omega⟩, chk_pos (by unfold I64; omega), ei, decide_eq_false c, if_neg (by simp), if_pos (show (!false) = true from rfl), List.append_nil]
 ·rintro g ⟨a, b⟩ ⟨rfl, rfl⟩
  dsimp only
  rw [F_s6N_L4, ite_f (decide_eq_false (by omega)), List.take_length]
theorem mem_take_suc {l : List Int} {i : Nat} {x : Int} (h : i < l.length) : x ∈ l.take (i + 1) ↔ x ∈ l.take i ∨ x = l.getD i 0 := by
 have e : l.take (i + 1) = l.take i ++ [l.getD i 0] := by
  rw [List.take_add_one]; simp [List.getD_eq_getElem?_getD, h]
 rw [e, List.mem_append, List.mem_singleton]
theorem sL6_eq {r : Int} {f l : List Int} (hf : f.length ≤ 243) (hl : l.length ≤ 243) (hin : ∀ key ∈ l, 0 ≤ key ∧ key < (f.length : Int)) (J : List Int → Option (List Int)) : ∃ f', F_s6N_L6 r l J fuel f 0 = J f' ∧ f'.length = f.length ∧ ∀ key : Nat, key < f.length → f'.getD key 0 = if (key : Int) ∈ l then r else f.getD key 0 := by
 refine loop_st (fun g i (s : List Int) => F_s6N_L6 r l J g s i) l.length (fun i s => s.length = f.length ∧ ∀ key : Nat, key < f.length → s.getD key 0 = if (key : Int) ∈ l.take i then r else f.getD key 0)
  (fun o => ∃ f', o = J f' ∧ f'.length = f.length ∧ ∀ key : Nat, key < f.length → f'.getD key 0 = if (key : Int) ∈ l then r else f.getD key 0) ?_ ?_ f ⟨rfl, fun key hk => by simp⟩ fuel (by have := fuel_ge; omega)
 ·rintro g i s hi ⟨h1, h2⟩
  have hmem : l.getD i 0 ∈ l := getD_in (P := fun z => z ∈ l) hi fun z hz => hz
  obtain ⟨q1, q2⟩ := hin _ hmem
  obtain ⟨k, hk⟩ := int_nat q1
  have ei : ((i : Int) + 1) = ((i + 1 : Nat) : Int) := by omega
  left
  refine ⟨s.set k r, ⟨by rw [List.length_set]; exact h1, fun key hkey => ?_⟩, ?_⟩
  ·by_cases e : key = k
   ·subst e
    rw [set_getD _ _ _ _ (by omega), if_pos ((mem_take_suc hi).2 (.inr hk.symm))]
   ·rw [List.getD_eq_getElem?_getD, List.getElem?_set_ne (by omega), ← List.getD_eq_getElem?_getD, h2 key hkey]
    by_cases hc : (key : Int) ∈ l.take i
    ·rw [if_pos hc, if_pos ((mem_take_suc hi).2 (.inl hc))]
    ·rw [if_neg hc, if_neg]
     intro hh
     rcases (mem_take_suc hi).1 hh with hh | hh
     ·exact hc hh
     ·rw [hk] at hh; omega
  ·rw [F_s6N_L6, ite_t (decide_eq_true (by omega)), chk_pos ⟨by omega, by omega⟩, Int.toNat_natCast, hk, chk_pos ⟨by omega, by omega⟩, chk_pos (by unfold I64; omega), Int.toNat_natCast, ei]
 ·rintro g s ⟨h1, h2⟩
  rw [List.take_length] at h2
  rw [F_s6N_L6, ite_f (decide_eq_false (by omega))]
  exact ⟨s, rfl, h1, h2⟩
theorem NTr_next {n : Nat} {m r : Int} {f f' : List Int} (hf : NTr n m r f) (h1 : f'.length = f.length) (h2 : ∀ key : Nat, key < f.length → f'.getD key 0 = if (key : Int) ∈ (lfR n m r).filter (fun key => decide (ndK n m key = r)) then r else f.getD key 0) : NTr n m (r + 1) f' := by
 refine ⟨by rw [h1]; exact hf.1, fun key hk => ?_⟩
 rw [h2 key (by have := hf.1; omega), hf.2 key hk]
 by_cases c : ndK n m key = r
 ·rw [if_pos, if_pos (by omega), c]
  rw [List.mem_filter]
  refine ⟨?_, decide_eq_true c⟩
  unfold lfR
  rw [List.mem_filter, List.mem_map]
  exact ⟨⟨key, by rw [List.mem_range]; omega, rfl⟩, decide_eq_true (by omega)⟩
 ·rw [if_neg]
  ·by_cases c2 : ndK n m key < r
   ·rw [if_pos c2, if_pos (by omega)]
   ·rw [if_neg c2, if_neg (by omega)]
  ·intro hh
   exact c (of_decide_eq_true (List.mem_filter.1 hh).2)
theorem lfR_next {n : Nat} {m r : Int} : (lfR n m r).filter (fun key => !decide (ndK n m key = r)) = lfR n m (r + 1) := by
 unfold lfR
 rw [List.filter_filter]
 congr 1
 funext key
 rw [Bool.eq_iff_iff, Bool.and_eq_true, decide_eq_true_iff, decide_eq_true_iff, Bool.not_eq_true', decide_eq_false_iff_not]
 omega
def NT (n : Nat) (m : Int) (f : List Int) : Prop := NTr n m 11 f
theorem NTr_done {n : Nat} {m r : Int} {f : List Int} (hn : n ≤ 5) (hm : 0 ≤ m ∧ m ≤ 1) (hf : NTr n m r f) (h : lfR n m r = []) : NT n m f := by
 refine ⟨hf.1, fun key hk => ?_⟩
 have h2 := ndK_in hn hm (show (0 : Int) ≤ (key : Int) by omega) hk
 have hlt : ndK n m key < r := by
  apply Classical.byContradiction
  intro hc
  have : (key : Int) ∈ lfR n m r := by
   unfold lfR
   rw [List.mem_filter, List.mem_map]
   exact ⟨⟨key, by rw [List.mem_range]; omega, rfl⟩, decide_eq_true (by omega)⟩
  rw [h] at this; cases this
 rw [hf.2 key hk, if_pos hlt, if_pos (by omega)]
theorem sL3_eq {n : Nat} {m : Int} (hn : n ≤ 5) (hm : 0 ≤ m ∧ m ≤ 1) {f : List Int} (hf : NTr n m 1 f) : ∃ f', F_s6N_L3 (n : Int) m (fun o28b => some o28b) fuel f (lfR n m 1) 1 = some f' ∧ NT n m f' := by
 have hb := pow23 (b23 hm.1 hm.2) hn
 refine loop_m (fun g (s : List Int × Int) => F_s6N_L3 (n : Int) m (fun o28b => some o28b) g s.1 (lfR n m s.2) s.2) (fun s => 1 ≤ s.2 ∧ s.2 ≤ 11 ∧ NTr n m s.2 s.1) (fun s => (12 - s.2).toNat) (fun o => ∃ f', o = some f' ∧ NT n m f') ?_ fuel (f, 1) ⟨Int.le_refl 1, show (1 : Int) ≤ 11 by decide, hf⟩ (by have := fuel_ge; simp only; omega)
 rintro g ⟨f1, r⟩ ⟨h1, h2, h3⟩
 dsimp only at h1 h2 h3 ⊢
 rw [F_s6N_L3]
 by_cases hc : lfR n m r = []
 ·right
  rw [hc, ite_f (by rfl)]
  exact ⟨f1, rfl, NTr_done hn hm h3 hc⟩
 ·left
  have hpos := List.length_pos_iff.2 hc
  have hll := lfR_len (r := r) hn hm
  have hr : r ≤ 10 := by
   obtain ⟨key, hk⟩ := List.exists_mem_of_length_pos hpos
   obtain ⟨q1, q2, q3⟩ := lfR_mem hk
   have := ndK_in hn hm q1 q2
   omega
  have hfl := h3.1
  obtain ⟨f2, e2, l2, g2⟩ := sL6_eq (r := r) (f := f1) (l := (lfR n m r).filter fun key => decide (ndK n m key = r)) (by omega) (Nat.le_trans (List.length_filter_le _ _) hll) (fun key hk => by
   obtain ⟨q1, q2, q3⟩ := lfR_mem (List.mem_filter.1 hk).1
   exact ⟨q1, by omega⟩) (fun o28c => chk (I64 (r + (1 : Int))) <| F_s6N_L3 (n : Int) m (fun o28b => some o28b) g o28c (lfR n m (r + 1)) (r + (1 : Int)))
  refine ⟨(f2, r + 1), ⟨by dsimp only; omega, by dsimp only; omega, NTr_next h3 l2 g2⟩, by dsimp only; omega, ?_⟩
  rw [ite_t (decide_eq_true (by omega))]
  simp only [jn]
  rw [sL4_eq hn hm h3 h1, lfR_next, e2, chk_pos (by unfold I64; omega)]
theorem sNeeds_eq {n : Nat} {m : Int} (hn : n ≤ 5) (hm : 0 ≤ m ∧ m ≤ 1) : ∃ f, F_s6N (n : Int) m = some f ∧ NT n m f := by
 unfold F_s6N
 have hb := b23 hm.1 hm.2
 have hp := pow23 hb hn
 refine jn_q (Q0 := fun o => ∃ f, o = some f ∧ NT n m f) (fun J => J ((m + 2) ^ n)) (fun J => ?_) ?_
 ·rw [show F_s6N_L1 (n : Int) m J fuel 0 1 = F_s6N_L1 (n : Int) m J fuel 0 ((m + 2) ^ Int.toNat 0) from by rw [show Int.toNat 0 = 0 from rfl, Int.pow_zero]]
  refine loop_up (fun k i s => F_s6N_L1 (n : Int) m J k i s) (n : Int) (fun i => (m + 2) ^ i.toNat) _ ?_ ?_ (by omega) fuel (by have := fuel_ge; omega)
  ·intro k i i0 i1
   obtain ⟨j, rfl⟩ := int_nat i0
   have e1 : ((j : Int) + 1).toNat = j + 1 := by omega
   have hpj := pow23 hb (j := j) (by omega)
   have hpj1 := pow23 hb (j := j + 1) (by omega)
   simp only [Int.toNat_natCast, e1]
   rw [F_s6N_L1, ite_t (decide_eq_true (by omega)), chk_pos (by unfold I64; omega), show (m + 2) ^ j * (m + 2) = (m + 2) ^ (j + 1) from (Int.pow_succ _ _).symm, chk_pos (by unfold I64; omega), chk_pos (by unfold I64; omega)]
  ·intro k
   simp only [Int.toNat_natCast]
   rw [F_s6N_L1, ite_f (decide_eq_false (by omega))]
 ·obtain ⟨T, hT⟩ : ∃ T : Nat, (m + 2) ^ n = (T : Int) := int_nat (by omega)
  rw [hT] at hp
  rw [hT, chk_pos ⟨by omega, by omega, by omega, by simp only [maxLen]; omega⟩]
  simp only [jn, Int.toNat_natCast]
  have key : ∀ J : List Int → List Int → Option (List Int), ∃ f, F_s6N_L2 (n : Int) m (T : Int) J fuel (List.replicate T 0) [] 0 = J f (lfR n m 1) ∧ NTr n m 1 f := by
   intro J
   refine loop_st (fun g i (s : List Int × List Int) => F_s6N_L2 (n : Int) m (T : Int) J g s.1 s.2 i) T
    (fun i s => s.1.length = T ∧ (∀ k : Nat, k < i → s.1.getD k 0 = if ndK n m k < 1 then ndK n m k else -1) ∧ s.2 = (((List.range i).map fun (k : Nat) => (k : Int)).filter fun key => decide (1 ≤ ndK n m key)))
    (fun o => ∃ f, o = J f (lfR n m 1) ∧ NTr n m 1 f) ?_ ?_ (List.replicate T 0, []) ⟨by rw [List.length_replicate], fun k hk => by omega, rfl⟩ fuel (by have := fuel_ge; omega)
   ·rintro g i ⟨f, l⟩ hi ⟨a1, a2, rfl⟩
    dsimp only at a1 a2 ⊢
    have hll : (((List.range i).map fun (k : Nat) => (k : Int)).filter fun key => decide (1 ≤ ndK n m key)).length ≤ 243 := Nat.le_trans (List.length_filter_le _ _) (by rw [List.length_map, List.length_range]; omega)
    obtain ⟨e1, e2, e3⟩ := sOf_eq hn hm (show (0 : Int) ≤ (i : Int) by omega) (by omega)
    have hl := e2.1
    have ei : ((i : Int) + 1) = ((i + 1 : Nat) : Int) := by omega
    left
    rw [F_s6N_L2, ite_t (decide_eq_true (by omega)), chk_pos ⟨by omega, by omega⟩, bnd2_eq e1, chk_pos (by omega), Int.toNat_natCast]
    by_cases c : (openN (stK n m i)).length < 2
    ·have hz : ndK n m i = 0 := nd_few hn hm.2 e2 c
     rw [ite_t (decide_eq_true (by omega)), chk_pos (by unfold I64; omega), ei]
     refine ⟨((f.set i (-1)).set i 0, _), ⟨by rw [List.length_set, List.length_set]; exact a1, fun k hk => ?_, rfl⟩, ?_⟩
     ·by_cases e : k = i
      ·rw [e, set_getD _ _ _ _ (by rw [List.length_set]; omega), hz]; rfl
      ·rw [List.getD_eq_getElem?_getD, List.getElem?_set_ne (by omega), List.getElem?_set_ne (by omega), ← List.getD_eq_getElem?_getD]
       exact a2 k (by omega)
     ·rw [List.range_succ, List.map_append, List.filter_append]
      simp [hz]
    ·have hz := (nd_two hn hm.2 e2 (by omega)).1
     rw [ite_f (decide_eq_false (by omega)), chk_pos ⟨by omega, by simp only [maxLen]; omega⟩, chk_pos (by unfold I64; omega), ei]
     refine ⟨(f.set i (-1), _), ⟨by rw [List.length_set]; exact a1, fun k hk => ?_, rfl⟩, ?_⟩
     ·by_cases e : k = i
      ·rw [e, set_getD _ _ _ _ (by omega), if_neg (show ¬ ndK n m i < 1 from by unfold ndK; omega)]
      ·rw [List.getD_eq_getElem?_getD, List.getElem?_set_ne (by omega), ← List.getD_eq_getElem?_getD]
       exact a2 k (by omega)
     ·rw [List.range_succ, List.map_append, List.filter_append]
      have : decide (1 ≤ ndK n m i) = true := decide_eq_true hz
      simp [this]
   ·rintro g ⟨f, l⟩ ⟨a1, a2, rfl⟩
    dsimp only at a1 a2 ⊢
    rw [F_s6N_L2, ite_f (decide_eq_false (by omega))]
    refine ⟨f, ?_, by omega, fun k hk => a2 k (by omega)⟩
    unfold lfR
    rw [hT, Int.toNat_natCast]
  obtain ⟨f, e, hf⟩ := key _
  rw [e]
  exact sL3_eq hn hm hf
theorem sSame_eq (xs ys : List Int) (hl : xs.length = ys.length) (hx : xs.length ≤ 1000) : F_s_l1Same xs ys = some (decide (xs = ys)) := by
 unfold F_s_l1Same
 rw [ite_f (by rw [hl]; simp)]
 simp only [jn]
 refine Or.elim (loop_all (fun g i => F_s_l1Same_L1 xs ys (fun _ => some true) g i) (xs.length : Int) (fun i => xs.getD i.toNat 0 == ys.getD i.toNat 0) (some false) (some true) ?_ ?_ ?_ (by omega) fuel (by have := fuel_ge; omega)) ?_ ?_
 ·intro g i i0 i1 hp
  rw [F_s_l1Same_L1, ite_t (decide_eq_true i1), chk_pos ⟨i0, i1⟩, chk_pos ⟨i0, by omega⟩, ite_f (by simpa [bne] using hp), chk_pos (by unfold I64; omega)]
 ·intro g i i0 i1 hp
  rw [F_s_l1Same_L1, ite_t (decide_eq_true i1), chk_pos ⟨i0, i1⟩, chk_pos ⟨i0, by omega⟩, ite_t (by simpa [bne] using hp)]
 ·intro g
  rw [F_s_l1Same_L1, ite_f (decide_eq_false (by omega))]
 ·rintro ⟨e, h⟩
  rw [e, decide_eq_true]
  refine getD_ext hl fun i hi => ?_
  have := h (i : Int) (by omega) (by omega)
  simpa using this
 ·rintro ⟨e, i, i0, i1, i2, _⟩
  rw [e, decide_eq_false]
  intro hh
  rw [hh] at i2
  simp at i2
theorem maxN_mx (a b : Int) : maxN a b = max a b := by
 unfold maxN; split <;> omega
theorem sNeedOf_eq {n k : Nat} {m : Int} {xs f : List Int} (hn : n ≤ 5) (hm : 0 ≤ m ∧ m ≤ 1) (h : okR n m xs) (hk : k ≤ 12) (hf : NT n m f) : F_s_l6NeedOf xs m (k : Int) f = some (if vainN xs (lqK k) = true then -1 else ndO (nd m) m xs k) := by
 unfold F_s_l6NeedOf
 have hl := h.1
 have a1 := NTr_at hn hm hf (okR_ans (q := lqK k) (y := true) h)
 have a2 := NTr_at hn hm hf (okR_ans (q := lqK k) (y := false) h)
 have b1 := nd_in hn hm.2 (okR_ans (q := lqK k) (y := true) h)
 have b2 := nd_in hn hm.2 (okR_ans (q := lqK k) (y := false) h)
 have hvb := vain_back (m := m) (q := lqK k) h.2
 rw [bnd2_eq (sAfterK_eq h hk true), bnd2_eq (sAfterK_eq h hk false)]
 refine jn_is (fun J => J (vainN xs (lqK k))) (fun J => ?_) ?_
 ·rw [bnd1_eq (sSame_eq _ xs (by rw [ansN_len]) (by rw [ansN_len]; omega))]
  by_cases c1 : ansN m (lqK k) true xs = xs
  ·rw [decide_eq_true c1, ite_t rfl, hvb.2 (.inr c1)]
  ·rw [decide_eq_false c1, ite_f rfl, bnd1_eq (sSame_eq _ xs (by rw [ansN_len]) (by rw [ansN_len]; omega))]
   by_cases c2 : ansN m (lqK k) false xs = xs
   ·rw [decide_eq_true c2, hvb.2 (.inl c2)]
   ·rw [decide_eq_false c2]
    cases hv : vainN xs (lqK k) with
    | false => rfl
    | true =>
     rcases hvb.1 hv with c | c
     ·exact absurd c c2
     ·exact absurd c c1
 ·cases hv : vainN xs (lqK k) with
  | true => rfl
  | false =>
   rw [ite_f rfl, bnd1_eq (sKey_eq hn hm.2 (okR_ans h)), chk_pos ⟨a1.1, a1.2.1⟩, bnd1_eq (sKey_eq hn hm.2 (okR_ans h)), chk_pos ⟨a2.1, a2.2.1⟩, a1.2.2, a2.2.2, if_pos (by omega), if_pos (by omega), maxN_mx, chk_pos (by unfold I64; omega), if_neg (by simp)]
   simp only [nam]
   unfold ndO
   rw [Int.max_comm]
def gdB (m : Int) (xs : List Int) (k : Nat) : Prop := vainN xs (lqK k) = false ∧ ndO (nd m) m xs k = nd m xs
def isB (n : Nat) (m : Int) (xs : List Int) (k : Nat) : Prop := 1 ≤ k ∧ k ≤ n - 1 ∧ gdB m xs k ∧ ∀ j, 1 ≤ j → j < k → ¬ gdB m xs j
noncomputable def bkN (n : Nat) (m : Int) (xs : List Int) : Nat := Classical.epsilon (isB n m xs)
theorem least_ex {p : Nat → Prop} : ∀ k, p k → ∃ j, j ≤ k ∧ p j ∧ ∀ i, i < j → ¬ p i := by
 intro k
 induction k using Nat.strongRecOn with
 | _ k ih =>
  intro hk
  by_cases hc : ∃ i, i < k ∧ p i
  ·obtain ⟨i, h1, h2⟩ := hc
   obtain ⟨j, j1, j2, j3⟩ := ih i h1 h2
   exact ⟨j, by omega, j2, j3⟩
  ·exact ⟨k, Nat.le_refl _, hk, fun i hi hp => hc ⟨i, hi, hp⟩⟩
theorem bk_ex {n : Nat} {m : Int} {xs : List Int} (hn : n ≤ 5) (hm : m ≤ 1) (h : okR n m xs) (h2 : 2 ≤ (openN xs).length) : isB n m xs (bkN n m xs) := by
 obtain ⟨_, _, k, k1, k2, k3, k4⟩ := nd_two hn hm h h2
 obtain ⟨j, j1, ⟨j2, j3⟩, j4⟩ := least_ex (p := fun k => 1 ≤ k ∧ gdB m xs k) k ⟨k1, k3, k4.symm⟩
 exact Classical.epsilon_spec (p := isB n m xs) ⟨j, j2, by omega, j3, fun i i1 i2 hg => j4 i i2 ⟨i1, hg⟩⟩
theorem bk_is {n k : Nat} {m : Int} {xs : List Int} (h : isB n m xs k) : bkN n m xs = k := by
 have hs := Classical.epsilon_spec (p := isB n m xs) ⟨k, h⟩
 have hs : isB n m xs (bkN n m xs) := hs
 rcases Nat.lt_trichotomy (bkN n m xs) k with c | c | c
 ·exact absurd hs.2.2.1 (h.2.2.2 _ hs.1 c)
 ·exact c
 ·exact absurd h.2.2.1 (hs.2.2.2 _ h.1 c)
theorem iBest_eq {n : Nat} {m : Int} {xs : List Int} (hn : n ≤ 5) (hm : m ≤ 1) (h : okR n m xs) (h2 : 2 ≤ (openN xs).length) (w : List (Int × Int)) (hw : NI n m w) : ∃ w', F_il_best w xs m = some (((bkN n m xs : Nat) : Int), w') ∧ NI n m w' := by
 have hB := bk_ex hn hm h h2
 have hl := h.1
 unfold F_il_best
 simp only [jn]
 refine loop_st (fun g i (s : List (Int × Int)) => F_il_best_L1 xs m (fun o500 => some (0, o500)) g s (i + 1)) (n - 1) (fun i s => NI n m s ∧ ∀ j, 1 ≤ j → j ≤ i → ¬ gdB m xs j) (fun o => ∃ w', o = some (((bkN n m xs : Nat) : Int), w') ∧ NI n m w') ?_ ?_ w ⟨hw, fun j h1 h2 => by omega⟩ fuel (by have := fuel_ge; omega)
 ·rintro g i w1 hi ⟨hw1, hno⟩
  have ei : (i : Int) + 1 = ((i + 1 : Nat) : Int) := by omega
  obtain ⟨w2, e2, hw2⟩ := iOfLess_step (k := i + 1) (self := F_il_need fuel) hn hm h (by omega) (fun hv y => iNeed_top hn hm (okR_ans h)) w1 hw1
  rw [ei, F_il_best_L1, ite_t (decide_eq_true (by omega)), bnd3_eq e2]
  simp only [jn]
  cases hv : vainN xs (lqK (i + 1)) with
  | true =>
   left
   rw [ite_f (show (!true) = false from rfl), ite_f rfl, chk_pos (by unfold I64; omega)]
   refine ⟨w2, ⟨hw2, fun j h1 h3 => ?_⟩, rfl⟩
   by_cases e : j = i + 1
   ·rw [e]; intro hg; rw [hg.1] at hv; cases hv
   ·exact hno j h1 (by omega)
  | false =>
   obtain ⟨w3, e3, hw3⟩ := iNeed_top hn hm h w2 hw2
   rw [ite_t (show (!false) = true from rfl), bnd2_eq e3, if_neg (by simp)]
   by_cases c : ndO (nd m) m xs (i + 1) = nd m xs
   ·right
    have hb : isB n m xs (i + 1) := ⟨by omega, by omega, ⟨hv, c⟩, fun j h1 h3 => hno j h1 (by omega)⟩
    rw [ite_t (by rw [c]; exact beq_self_eq_true _), bk_is hb]
    exact ⟨w3, rfl, hw3⟩
   ·left
    rw [ite_f (beq_eq_false_iff_ne.2 c), chk_pos (by unfold I64; omega)]
    refine ⟨w3, ⟨hw3, fun j h1 h3 => ?_⟩, rfl⟩
    by_cases e : j = i + 1
    ·rw [e]; intro hg; exact c hg.2
    ·exact hno j h1 (by omega)
 ·rintro g w1 ⟨hw1, hno⟩
  exact absurd hB.2.2.1 (hno _ hB.1 hB.2.1)
theorem sBest_eq {n : Nat} {m : Int} {xs f : List Int} (hn : n ≤ 5) (hm : 0 ≤ m ∧ m ≤ 1) (h : okR n m xs) (h2 : 2 ≤ (openN xs).length) (hf : NT n m f) : F_s_l6Best xs m f = some ((bkN n m xs : Nat) : Int) := by
 have hB := bk_ex hn hm.2 h h2
 have hl := h.1
 have a0 := NTr_at hn hm hf h
 have b0 := nd_in hn hm.2 h
 have hone := (nd_two hn hm.2 h h2).1
 unfold F_s_l6Best
 simp only [jn]
 refine loop_st (fun g i (_ : Unit) => F_s_l6Best_L1 xs m f (fun v5 => some v5) g (i + 1)) (n - 1) (fun i _ => ∀ j, 1 ≤ j → j ≤ i → ¬ gdB m xs j) (fun o => o = some ((bkN n m xs : Nat) : Int)) ?_ ?_ () (fun j h1 h2 => by omega) fuel (by have := fuel_ge; omega)
 ·rintro g i ⟨⟩ hi hno
  have ei : (i : Int) + 1 = ((i + 1 : Nat) : Int) := by omega
  rw [ei, F_s_l6Best_L1, bnd1_eq (sNeedOf_eq hn hm h (by omega) hf), bnd1_eq (sKey_eq hn hm.2 h), chk_pos ⟨a0.1, a0.2.1⟩, a0.2.2, if_pos (show nd m xs < 11 by omega)]
  cases hv : vainN xs (lqK (i + 1)) with
  | true =>
   left
   rw [if_pos rfl, ite_t (by rw [bne_iff_ne]; omega), chk_pos (by unfold I64; omega)]
   refine ⟨(), fun j h1 h3 => ?_, rfl⟩
   by_cases e : j = i + 1
   ·rw [e]; intro hg; rw [hg.1] at hv; cases hv
   ·exact hno j h1 (by omega)
  | false =>
   rw [if_neg (by simp)]
   by_cases c : ndO (nd m) m xs (i + 1) = nd m xs
   ·right
    have hb : isB n m xs (i + 1) := ⟨by omega, by omega, ⟨hv, c⟩, fun j h1 h3 => hno j h1 (by omega)⟩
    rw [c, ite_f (bne_self_eq_false _), bk_is hb]
   ·left
    rw [ite_t (by rw [bne_iff_ne]; exact c), chk_pos (by unfold I64; omega)]
    refine ⟨(), fun j h1 h3 => ?_, rfl⟩
    by_cases e : j = i + 1
    ·rw [e]; intro hg; exact c hg.2
    ·exact hno j h1 (by omega)
 ·rintro g ⟨⟩ hno
  exact absurd hB.2.2.1 (hno _ hB.1 hB.2.1)
def cP (p : Nat → Bool) : Nat → Nat
 | 0 => 0
 | k + 1 => cP p k + (bif p k then 1 else 0)
def nedT : Nat := 16749092092326603173040754463859007108659040053202167232965232816440955884337922658686601876495720316118689806365722447263241505493967467310172146740224558301037681644954770648922275721173403502794171241539212492622636008611940640239745826286557237092098263125094596847643809050186833179730586592449213000459270346514888707475442955734877829886391912403741774534252867285096487365014353962465163003126475396916082689130232306725408963520243824046928042753297417186749075006767456605360483061595596497031433900943478326837678701204796884891111012868263263451865547995274404956178421965481533209913464446218014793937084421372955725289245090433560978579796119220240607799608860402284241173987460014156789312158584286481616776717426465057125617394221851243504836622597496712038630695168
def nedK (k : Nat) : Nat := (nedT >>> (4 * k)) &&& 15
def ned (a b c : Nat) : Nat := nedK (81 * a + 9 * b + c)
def ndAll (p : Nat → Bool) : Nat → Bool
 | 0 => true
 | n + 1 => p n && ndAll p n
def ndAny (p : Nat → Bool) : Nat → Bool
 | 0 => false
 | n + 1 => p n || ndAny p n
theorem ndAll_in {p : Nat → Bool} : ∀ {n : Nat}, ndAll p n = true → ∀ i, i < n → p i = true
 | 0, _, i, hi => by omega
 | n + 1, h, i, hi => by
  unfold ndAll at h
  rw [Bool.and_eq_true] at h
  by_cases e : i = n
  ·rw [e]; exact h.1
  ·exact ndAll_in h.2 i (by omega)
theorem ndAny_in {p : Nat → Bool} : ∀ {n : Nat}, ndAny p n = true → ∃ i, i < n ∧ p i = true
 | 0, h => by cases h
 | n + 1, h => by
  unfold ndAny at h
  rw [Bool.or_eq_true] at h
  rcases h with h | h
  ·exact ⟨n, by omega, h⟩
  ·obtain ⟨i, h1, h2⟩ := ndAny_in h; exact ⟨i, by omega, h2⟩
def cerS (a b c : Nat) : Bool := ndAny (fun i => ndAny (fun j => ndAny (fun k => Nat.blt (ned i (j + a - i) (k + b - j)) (ned a b c) && Nat.blt (ned (a - i) (b - j + i) (c - k + j)) (ned a b c)) (c + 1)) (b + 1)) (a + 1)
def cerA (a b c : Nat) : Bool := ndAll (fun i => ndAll (fun j => ndAll (fun k => Nat.ble (ned a b c) (1 + ned i (j + a - i) (k + b - j)) || Nat.ble (ned a b c) (1 + ned (a - i) (b - j + i) (c - k + j))) (c + 1)) (b + 1)) (a + 1)
def cer (a b c : Nat) : Bool := bif Nat.ble (a + b + c) 1 then Nat.beq (ned a b c) 0 && cerA a b c else (Nat.ble 1 (ned a b c) && Nat.ble (ned a b c) 9) && (cerS a b c && cerA a b c)
theorem cert : ndAll (fun a => ndAll (fun b => ndAll (fun c => cer a b c) (9 - a - b)) (9 - a)) 9 = true := by decide +kernel
theorem cert_at {a b c : Nat} (h : a + b + c ≤ 8) : cer a b c = true := ndAll_in (ndAll_in (ndAll_in cert a (by omega)) b (by omega)) c (by omega)
def nedI (a b c : Int) : Int := ((ned a.toNat b.toNat c.toNat : Nat) : Int)
def V3 (a b c : Int) : Prop := 0 ≤ a ∧ 0 ≤ b ∧ 0 ≤ c ∧ a + b + c ≤ 8
theorem V3_nat {a b c : Int} (h : V3 a b c) : ∃ x y z : Nat, a = x ∧ b = y ∧ c = z ∧ x + y + z ≤ 8 := by
 obtain ⟨h1, h2, h3, h4⟩ := h
 exact ⟨a.toNat, b.toNat, c.toNat, by omega, by omega, by omega, by omega⟩
theorem ned_told {a b c : Int} (h : V3 a b c) (h1 : a + b + c ≤ 1) : nedI a b c = 0 := by
 obtain ⟨x, y, z, rfl, rfl, rfl, h2⟩ := V3_nat h
 have := cert_at h2
 unfold cer at this
 rw [show Nat.ble (x + y + z) 1 = true from Nat.ble_eq_true_of_le (by omega), cond_true, Bool.and_eq_true] at this
 have := Nat.eq_of_beq_eq_true this.1
 unfold nedI
 simp only [Int.toNat_natCast]
 omega
theorem ned_two {a b c : Int} (h : V3 a b c) (h1 : 2 ≤ a + b + c) : (1 ≤ nedI a b c ∧ nedI a b c ≤ 9) ∧ ∃ i j k : Int, (0 ≤ i ∧ i ≤ a) ∧ (0 ≤ j ∧ j ≤ b) ∧ (0 ≤ k ∧ k ≤ c) ∧ nedI i (j + (a - i)) (k + (b - j)) < nedI a b c ∧ nedI (a - i) (b - j + i) (c - k + j) < nedI a b c := by
 obtain ⟨x, y, z, rfl, rfl, rfl, h2⟩ := V3_nat h
 have := cert_at h2
 unfold cer at this
 have hb : Nat.ble (x + y + z) 1 = false := by
  cases hc : Nat.ble (x + y + z) 1 with
  | false => rfl
  | true => have := Nat.le_of_ble_eq_true hc; omega
 rw [hb, cond_false] at this
 simp only [Bool.and_eq_true] at this
 obtain ⟨⟨e1, e2⟩, e3, e4⟩ := this
 have e1 := Nat.le_of_ble_eq_true e1
 have e2 := Nat.le_of_ble_eq_true e2
 unfold cerS at e3
 obtain ⟨i, i1, e3⟩ := ndAny_in e3
 obtain ⟨j, j1, e3⟩ := ndAny_in e3
 obtain ⟨k, k1, e3⟩ := ndAny_in e3
 rw [Bool.and_eq_true] at e3
 have f1 := Nat.le_of_ble_eq_true e3.1
 have f2 := Nat.le_of_ble_eq_true e3.2
 refine ⟨⟨by unfold nedI; simp only [Int.toNat_natCast]; omega, by unfold nedI; simp only [Int.toNat_natCast]; omega⟩, i, j, k, by omega, by omega, by omega, ?_, ?_⟩
 ·unfold nedI
  rw [show ((j : Int) + ((x : Int) - (i : Int))).toNat = j + x - i by omega, show ((k : Int) + ((y : Int) - (j : Int))).toNat = k + y - j by omega]
  simp only [Int.toNat_natCast]
  omega
 ·unfold nedI
  rw [show ((x : Int) - (i : Int)).toNat = x - i by omega, show ((y : Int) - (j : Int) + (i : Int)).toNat = y - j + i by omega, show ((z : Int) - (k : Int) + (j : Int)).toNat = z - k + j by omega]
  simp only [Int.toNat_natCast]
  omega
theorem ned_in {a b c : Int} (h : V3 a b c) : 0 ≤ nedI a b c ∧ nedI a b c ≤ 9 := by
 by_cases h1 : a + b + c ≤ 1
 ·rw [ned_told h h1]; omega
 ·have := (ned_two h (by omega)).1; omega
theorem ned_all {a b c i j k : Int} (h : V3 a b c) (hi : 0 ≤ i ∧ i ≤ a) (hj : 0 ≤ j ∧ j ≤ b) (hk : 0 ≤ k ∧ k ≤ c) : nedI a b c ≤ 1 + nedI i (j + (a - i)) (k + (b - j)) ∨ nedI a b c ≤ 1 + nedI (a - i) (b - j + i) (c - k + j) := by
 obtain ⟨x, y, z, rfl, rfl, rfl, h2⟩ := V3_nat h
 obtain ⟨i, rfl⟩ := int_nat hi.1
 obtain ⟨j, rfl⟩ := int_nat hj.1
 obtain ⟨k, rfl⟩ := int_nat hk.1
 have := cert_at h2
 have hA : cerA x y z = true := by
  unfold cer at this
  cases hb : Nat.ble (x + y + z) 1 with
  | true => rw [hb, cond_true, Bool.and_eq_true] at this; exact this.2
  | false => rw [hb, cond_false] at this; simp only [Bool.and_eq_true] at this; exact this.2.2
 unfold cerA at hA
 have hA := ndAll_in (ndAll_in (ndAll_in hA i (by omega)) j (by omega)) k (by omega)
 rw [Bool.or_eq_true] at hA
 unfold nedI
 rw [show ((j : Int) + ((x : Int) - (i : Int))).toNat = j + x - i by omega, show ((k : Int) + ((y : Int) - (j : Int))).toNat = k + y - j by omega, show ((x : Int) - (i : Int)).toNat = x - i by omega, show ((y : Int) - (j : Int) + (i : Int)).toNat = y - j + i by omega, show ((z : Int) - (k : Int) + (j : Int)).toNat = z - k + j by omega]
 simp only [Int.toNat_natCast]
 rcases hA with hA | hA
 ·have := Nat.le_of_ble_eq_true hA; left; omega
 ·have := Nat.le_of_ble_eq_true hA; right; omega
def spG (xs : List Int) (r : Nat) (p : List Int) : List (List Int) := (List.range (xs.getD r 0 + 1).toNat).map fun (k : Nat) => p ++ [(k : Int)]
def splN (xs : List Int) : Nat → List (List Int)
 | 0 => [[]]
 | r + 1 => (splN xs r).flatMap (spG xs r)
theorem getD_app (p : List Int) (x : Int) (i : Nat) : (p ++ [x]).getD i 0 = if i < p.length then p.getD i 0 else if i = p.length then x else 0 := by
 simp only [List.getD_eq_getElem?_getD]
 by_cases h : i < p.length
 ·rw [if_pos h, List.getElem?_append_left h]
 ·rw [if_neg h, List.getElem?_append_right (by omega)]
  by_cases h2 : i = p.length
  ·rw [if_pos h2, h2]; simp
  ·rw [if_neg h2, List.getElem?_eq_none (by simp; omega)]; rfl
theorem mem_spl {xs : List Int} : ∀ {r : Nat} {s : List Int}, s ∈ splN xs r ↔ s.length = r ∧ ∀ i, i < r → 0 ≤ s.getD i 0 ∧ s.getD i 0 ≤ xs.getD i 0
 | 0, s => by
  simp only [splN, List.mem_singleton]
  constructor
  ·rintro rfl; exact ⟨rfl, fun i hi => by omega⟩
  ·intro h; exact List.length_eq_zero_iff.1 h.1
 | r + 1, s => by
  simp only [splN, spG, List.mem_flatMap, List.mem_map, List.mem_range]
  constructor
  ·rintro ⟨p, hp, k, hk, rfl⟩
   have ⟨h1, h2⟩ := mem_spl.1 hp
   refine ⟨by simp [h1], fun i hi => ?_⟩
   rw [getD_app]
   by_cases e : i < r
   ·rw [if_pos (by omega)]; exact h2 i e
   ·rw [if_neg (by omega), if_pos (by omega)]
    have : i = r := by omega
    subst this
    omega
  ·rintro ⟨h1, h2⟩
   rcases List.eq_nil_or_concat s with rfl | ⟨p, x, rfl⟩
   ·simp at h1
   ·rw [List.concat_eq_append] at h1 h2 ⊢
    have hl : p.length = r := by simpa using h1
    have hx := h2 r (by omega)
    rw [getD_app, if_neg (by omega), if_pos (by omega)] at hx
    refine ⟨p, mem_spl.2 ⟨hl, fun i hi => ?_⟩, x.toNat, by omega, by rw [show ((x.toNat : Nat) : Int) = x by omega]⟩
    have := h2 i (by omega)
    rw [getD_app, if_pos (by omega)] at this
    exact this
theorem fm_len {α β : Type} {l : List α} {f : α → List β} {B : Nat} (h : ∀ p, (f p).length ≤ B) : (l.flatMap f).length ≤ B * l.length := by
 induction l with
 | nil => simp
 | cons a l ih =>
  rw [List.flatMap_cons, List.length_append, List.length_cons, Nat.mul_succ]
  have := h a
  omega
theorem spG_len {xs : List Int} {r : Nat} (h : ∀ i, xs.getD i 0 ≤ 8) (p : List Int) : (spG xs r p).length ≤ 9 := by
 unfold spG
 rw [List.length_map, List.length_range]
 have := h r
 omega
theorem spl_len {xs : List Int} (h : ∀ i, xs.getD i 0 ≤ 8) : ∀ r, (splN xs r).length ≤ 9 ^ r
 | 0 => by simp [splN]
 | r + 1 => by
  have := fm_len (l := splN xs r) (spG_len (r := r) h)
  have := spl_len h r
  rw [splN, Nat.pow_succ]
  omega
theorem spl_len3 {xs : List Int} (h : ∀ i, xs.getD i 0 ≤ 8) {r : Nat} (hr : r ≤ 3) : (splN xs r).length ≤ 729 := by
 have h1 := spl_len h r
 have : 9 ^ r ≤ 9 ^ 3 := Nat.pow_le_pow_right (by decide) hr
 omega
theorem getD_mem {α : Type} {d : α} {l : List α} {i : Nat} (h : i < l.length) : l.getD i d ∈ l := by
 rw [List.getD_eq_getElem?_getD, List.getElem?_eq_getElem h]; exact List.getElem_mem h
theorem take_getD {α : Type} {d : α} {l : List α} {i : Nat} (h : i < l.length) : l.take (i + 1) = l.take i ++ [l.getD i d] := by
 rw [List.take_add_one, List.getD_eq_getElem?_getD, List.getElem?_eq_getElem h]; rfl
theorem iSp3 {o11 : List (List Int)} {xs : List Int} {r j : Nat} (J : List (List Int) → Option (List (List Int))) (hx : ∀ i, xs.getD i 0 ≤ 8) (h0 : 0 ≤ xs.getD r 0) (hl : (o11.getD j []).length ≤ 100) (o : List (List Int)) (ho : o.length ≤ 100000) :
  F_i_splits_L3 o11 (j : Int) J (xs.getD r 0 + 1) fuel o 0 = J (o ++ spG xs r (o11.getD j [])) := by
 have hx := hx r
 have key := loop_up (fun n i (s : List (List Int)) => F_i_splits_L3 o11 (j : Int) J (xs.getD r 0 + 1) n s i) (xs.getD r 0 + 1) (fun i => o ++ (List.range i.toNat).map fun (k : Nat) => o11.getD j [] ++ [(k : Int)]) (J (o ++ spG xs r (o11.getD j []))) ?_ ?_ (by omega) fuel (by have := fuel_ge; omega)
 ·simpa using key
 ·intro n i i0 i1
  obtain ⟨k, rfl⟩ := int_nat i0
  have e1 : ((k : Int) + 1).toNat = k + 1 := by omega
  simp only [e1, Int.toNat_natCast]
  rw [F_i_splits_L3, ite_t (decide_eq_true i1)]
  simp only [Int.toNat_natCast]
  rw [chk_pos (by omega), chk_pos ⟨by omega, by simp only [maxLen]; omega⟩, List.length_append, List.length_map, List.length_range, chk_pos ⟨by omega, by simp only [maxLen]; omega⟩, chk_pos (by unfold I64; omega), List.range_succ, List.map_append, List.append_assoc]
  rfl
 ·intro n
  rw [F_i_splits_L3, ite_f (decide_eq_false (by omega))]
  rfl
theorem iSp2 {o11 : List (List Int)} {xs : List Int} {r : Nat} (J : List (List Int) → Option (List (List Int))) (hx : ∀ i, xs.getD i 0 ≤ 8) (h0 : 0 ≤ xs.getD r 0) (hr : r < xs.length) (hl : ∀ p ∈ o11, p.length ≤ 100) (ho : o11.length ≤ 1000) :
  F_i_splits_L2 xs o11 (r : Int) J fuel [] 0 = J (o11.flatMap (spG xs r)) := by
 have hx2 := hx r
 have key := loop_up (fun n i (s : List (List Int)) => F_i_splits_L2 xs o11 (r : Int) J n s i) ((o11.length : Nat) : Int) (fun i => (o11.take i.toNat).flatMap (spG xs r)) (J (o11.flatMap (spG xs r))) ?_ ?_ (by omega) fuel (by have := fuel_ge; omega)
 ·simpa using key
 ·intro n i i0 i1
  obtain ⟨k, rfl⟩ := int_nat i0
  have e1 : ((k : Int) + 1).toNat = k + 1 := by omega
  have hk : k < o11.length := by omega
  simp only [e1, Int.toNat_natCast]
  have hlen := fm_len (l := o11.take k) (spG_len (r := r) hx)
  have htl : (o11.take k).length ≤ 1000 := by rw [List.length_take]; omega
  rw [F_i_splits_L2, ite_t (decide_eq_true i1)]
  refine jn_is (fun J4 => J4 ((o11.take (k + 1)).flatMap (spG xs r))) (fun J4 => ?_) ?_
  ·rw [chk_pos ⟨i0, i1⟩, Int.toNat_natCast, chk_pos (by unfold I64; omega)]
   simp only [nam]
   rw [iSp3 J4 hx h0 (hl _ (getD_mem hk)) _ (by omega), take_getD (d := []) hk, List.flatMap_append]
   simp
  ·rw [chk_pos (by unfold I64; omega)]
 ·intro n
  rw [F_i_splits_L2, ite_f (decide_eq_false (by omega))]
  simp
theorem iSplits_eq {xs : List Int} (hx : ∀ i, xs.getD i 0 ≤ 8) (h0 : ∀ i, 0 ≤ xs.getD i 0) (hl : xs.length ≤ 3) : F_i_splits xs = some (splN xs xs.length) := by
 unfold F_i_splits
 refine jn_is (fun J => J (splN xs xs.length)) (fun J => ?_) rfl
 refine loop_up (fun n i (s : List (List Int)) => F_i_splits_L1 xs J n s i) ((xs.length : Nat) : Int) (fun i => splN xs i.toNat) _ ?_ ?_ (by omega) fuel (by have := fuel_ge; omega)
 ·intro n i i0 i1
  obtain ⟨k, rfl⟩ := int_nat i0
  have e1 : ((k : Int) + 1).toNat = k + 1 := by omega
  have hk : k < xs.length := by omega
  simp only [e1, Int.toNat_natCast]
  rw [F_i_splits_L1, ite_t (decide_eq_true i1)]
  refine jn_is (fun J2 => J2 (splN xs (k + 1))) (fun J2 => ?_) ?_
  ·rw [chk_pos ⟨i0, i1⟩]
   refine jn_is (fun J3 => J3 (splN xs (k + 1))) (fun J3 => ?_) rfl
   exact iSp2 J3 hx (h0 k) hk (fun p hp => by have := (mem_spl.1 hp).1; omega) (by have := spl_len3 hx (r := k) (by omega); omega)
  ·rw [chk_pos (by unfold I64; omega)]
 ·intro n
  simp only [Int.toNat_natCast]
  rw [F_i_splits_L1, ite_f (decide_eq_false (by omega))]
theorem sSp3 {o11 : List (List Int)} {xs : List Int} {r j : Nat} (J : List (List Int) → Option (List (List Int))) (hx : ∀ i, xs.getD i 0 ≤ 8) (h0 : 0 ≤ xs.getD r 0) (hr : r < xs.length) (hj : j < o11.length) (hl : (o11.getD j []).length ≤ 100) (o : List (List Int)) (ho : o.length ≤ 100000) :
  F_s4S_L3 xs o11 (r : Int) (j : Int) J fuel o 0 = J (o ++ spG xs r (o11.getD j [])) := by
 have hx := hx r
 have key := loop_up (fun n i (s : List (List Int)) => F_s4S_L3 xs o11 (r : Int) (j : Int) J n s i) (xs.getD r 0 + 1) (fun i => o ++ (List.range i.toNat).map fun (k : Nat) => o11.getD j [] ++ [(k : Int)]) (J (o ++ spG xs r (o11.getD j []))) ?_ ?_ (by omega) fuel (by have := fuel_ge; omega)
 ·simpa using key
 ·intro n i i0 i1
  obtain ⟨k, rfl⟩ := int_nat i0
  have e1 : ((k : Int) + 1).toNat = k + 1 := by omega
  simp only [e1, Int.toNat_natCast]
  rw [F_s4S_L3, chk_pos ⟨by omega, by omega⟩]
  simp only [Int.toNat_natCast]
  rw [ite_t (decide_eq_true (by omega)), chk_pos ⟨by omega, by omega⟩, chk_pos (by omega), chk_pos ⟨by omega, by simp only [maxLen]; omega⟩, List.length_append, List.length_map, List.length_range, chk_pos ⟨by omega, by simp only [maxLen]; omega⟩, chk_pos (by unfold I64; omega), List.range_succ, List.map_append, List.append_assoc]
  rfl
 ·intro n
  rw [F_s4S_L3, chk_pos ⟨by omega, by omega⟩]
  simp only [Int.toNat_natCast]
  rw [ite_f (decide_eq_false (by omega))]
  rfl
theorem sSp2 {o11 : List (List Int)} {xs : List Int} {r : Nat} (J : List (List Int) → Option (List (List Int))) (hx : ∀ i, xs.getD i 0 ≤ 8) (h0 : 0 ≤ xs.getD r 0) (hr : r < xs.length) (hl : ∀ p ∈ o11, p.length ≤ 100) (ho : o11.length ≤ 1000) :
  F_s4S_L2 xs o11 (r : Int) J fuel [] 0 = J (o11.flatMap (spG xs r)) := by
 have hx2 := hx r
 have key := loop_up (fun n i (s : List (List Int)) => F_s4S_L2 xs o11 (r : Int) J n s i) ((o11.length : Nat) : Int) (fun i => (o11.take i.toNat).flatMap (spG xs r)) (J (o11.flatMap (spG xs r))) ?_ ?_ (by omega) fuel (by have := fuel_ge; omega)
 ·simpa using key
 ·intro n i i0 i1
  obtain ⟨k, rfl⟩ := int_nat i0
  have e1 : ((k : Int) + 1).toNat = k + 1 := by omega
  have hk : k < o11.length := by omega
  simp only [e1, Int.toNat_natCast]
  have hlen := fm_len (l := o11.take k) (spG_len (r := r) hx)
  have htl : (o11.take k).length ≤ 1000 := by rw [List.length_take]; omega
  rw [F_s4S_L2, ite_t (decide_eq_true i1)]
  refine jn_is (fun J4 => J4 ((o11.take (k + 1)).flatMap (spG xs r))) (fun J4 => ?_) ?_
  ·rw [sSp3 J4 hx h0 hr hk (hl _ (getD_mem hk)) _ (by omega), take_getD (d := []) hk, List.flatMap_append]
   simp
  ·rw [chk_pos (by unfold I64; omega)]
 ·intro n
  rw [F_s4S_L2, ite_f (decide_eq_false (by omega))]
  simp
theorem sSplits_eq {xs : List Int} (hx : ∀ i, xs.getD i 0 ≤ 8) (h0 : ∀ i, 0 ≤ xs.getD i 0) (hl : xs.length ≤ 3) : F_s4S xs = some (splN xs xs.length) := by
 unfold F_s4S
 refine jn_is (fun J => J (splN xs xs.length)) (fun J => ?_) rfl
 refine loop_up (fun n i (s : List (List Int)) => F_s4S_L1 xs J n s i) ((xs.length : Nat) : Int) (fun i => splN xs i.toNat) _ ?_ ?_ (by omega) fuel (by have := fuel_ge; omega)
 ·intro n i i0 i1
  obtain ⟨k, rfl⟩ := int_nat i0
  have e1 : ((k : Int) + 1).toNat = k + 1 := by omega
  have hk : k < xs.length := by omega
  simp only [e1, Int.toNat_natCast]
  rw [F_s4S_L1, ite_t (decide_eq_true i1)]
  refine jn_is (fun J2 => J2 (splN xs (k + 1))) (fun J2 => ?_) ?_
  ·refine jn_is (fun J3 => J3 (splN xs (k + 1))) (fun J3 => ?_) rfl
   exact sSp2 J3 hx (h0 k) hk (fun p hp => by have := (mem_spl.1 hp).1; omega) (by have := spl_len3 hx (r := k) (by omega); omega)
  ·rw [chk_pos (by unfold I64; omega)]
 ·intro n
  simp only [Int.toNat_natCast]
  rw [F_s4S_L1, ite_f (decide_eq_false (by omega))]
def lfP (x s : List Int) (k : Nat) : List Int := (List.range k).map fun (j : Nat) => x.getD j 0 - s.getD j 0
theorem lfP_len {x s : List Int} {k : Nat} : (lfP x s k).length = k := by simp [lfP]
theorem lfP_succ {x s : List Int} {k : Nat} : lfP x s (k + 1) = lfP x s k ++ [x.getD k 0 - s.getD k 0] := by unfold lfP; rw [List.range_succ, List.map_append]; rfl
def bdL (x : List Int) : Prop := x.length ≤ 3 ∧ ∀ i, -1000 ≤ x.getD i 0 ∧ x.getD i 0 ≤ 1000
def mvP (x y : List Int) (k : Nat) : List Int := (List.range x.length).map fun (j : Nat) => if 1 ≤ j ∧ j < k then x.getD j 0 + y.getD (j - 1) 0 else x.getD j 0
theorem mvP_len {x y : List Int} {k : Nat} : (mvP x y k).length = x.length := by simp [mvP]
theorem mvP_at {x y : List Int} {k j : Nat} (h : j < x.length) : (mvP x y k).getD j 0 = if 1 ≤ j ∧ j < k then x.getD j 0 + y.getD (j - 1) 0 else x.getD j 0 := by
 unfold mvP; rw [List.getD_eq_getElem?_getD, List.getElem?_map, List.getElem?_range h]; rfl
theorem mvP_one {x y : List Int} : mvP x y 1 = x := by
 refine List.ext_getElem mvP_len fun i h1 h2 => ?_
 have := mvP_at (x := x) (y := y) (k := 1) h2
 rw [if_neg (by omega)] at this
 simpa [List.getD_eq_getElem?_getD, h1, h2] using this
theorem mvP_set {x y : List Int} {k : Nat} (hk : 1 ≤ k) : (mvP x y k).set k (x.getD k 0 + y.getD (k - 1) 0) = mvP x y (k + 1) := by
 refine List.ext_getElem? fun i => ?_
 by_cases hi : i < x.length
 ·have h1 : (mvP x y (k + 1))[i]? = some (if 1 ≤ i ∧ i < k + 1 then x.getD i 0 + y.getD (i - 1) 0 else x.getD i 0) := by
   unfold mvP; rw [List.getElem?_map, List.getElem?_range hi]; rfl
  rw [h1]
  by_cases e : k = i
  ·subst e
   rw [List.getElem?_set_self (by rw [mvP_len]; exact hi), if_pos ⟨hk, by omega⟩]
  ·rw [List.getElem?_set_ne e]
   unfold mvP; rw [List.getElem?_map, List.getElem?_range hi]
   show some (if 1 ≤ i ∧ i < k then _ else _) = some _
   congr 1
   by_cases c : 1 ≤ i ∧ i < k
   ·rw [if_pos c, if_pos (by omega)]
   ·rw [if_neg c, if_neg (by omega)]
 ·rw [List.getElem?_eq_none (by rw [List.length_set, mvP_len]; omega), List.getElem?_eq_none (by rw [mvP_len]; omega)]
theorem iLeft_eq {x s : List Int} (hx : bdL x) (hs : bdL s) (hl : s.length = x.length) : F_i_left x s = some (lfP x s x.length) := by
 unfold F_i_left
 have hxl := hx.1
 refine jn_is (fun J => J (lfP x s x.length)) (fun J => ?_) rfl
 refine loop_up (fun n i (o : List Int) => F_i_left_L1 x s J n o i) ((x.length : Nat) : Int) (fun i => lfP x s i.toNat) _ ?_ ?_ (by omega) fuel (by have := fuel_ge; omega)
 ·intro n i i0 i1
  obtain ⟨k, rfl⟩ := int_nat i0
  have e1 : ((k : Int) + 1).toNat = k + 1 := by omega
  have b1 := hx.2 k
  have b2 := hs.2 k
  simp only [e1, Int.toNat_natCast]
  rw [F_i_left_L1, ite_t (decide_eq_true (by omega)), chk_pos ⟨i0, by omega⟩, chk_pos ⟨i0, by omega⟩, Int.toNat_natCast, chk_pos (by unfold I64; omega)]
  simp only [nam]
  rw [lfP_len, chk_pos ⟨by omega, by simp only [maxLen]; omega⟩, chk_pos (by unfold I64; omega), lfP_succ]
 ·intro n
  simp only [Int.toNat_natCast]
  rw [F_i_left_L1, ite_f (decide_eq_false (by omega))]
theorem iMoved_eq {x y : List Int} (hx : bdL x) (hy : bdL y) (hl : y.length = x.length) (h1 : 1 ≤ x.length) : F_i_moved x y = some (mvP x y x.length) := by
 unfold F_i_moved
 have hxl := hx.1
 rw [chk_pos (by omega)]
 refine jn_is (fun J => J (mvP x y x.length)) (fun J => ?_) rfl
 have key := loop_up (fun n i (o : List Int) => F_i_moved_L1 y J n o (i + 1)) ((x.length : Nat) - 1 : Int) (fun i => mvP x y (i + 1).toNat) (J (mvP x y x.length)) ?_ ?_ (by omega) fuel (by have := fuel_ge; omega)
 ·have e : mvP x y ((0 : Int) + 1).toNat = x := mvP_one
  simpa [mvP_one] using key
 ·intro n i i0 i1
  obtain ⟨k, rfl⟩ := int_nat i0
  have e1 : ((k : Int) + 1).toNat = k + 1 := by omega
  have e2 : ((k : Int) + 1 + 1).toNat = k + 2 := by omega
  have e3 : ((k : Int) + 1 - 1).toNat = k := by omega
  have b1 := hx.2 (k + 1)
  have b2 := hy.2 k
  have hat := mvP_at (x := x) (y := y) (k := k + 1) (j := k + 1) (by omega)
  rw [if_neg (by omega)] at hat
  simp only [e1, e2]
  rw [F_i_moved_L1, mvP_len, ite_t (decide_eq_true (by omega)), chk_pos ⟨by omega, by omega⟩, chk_pos (by unfold I64; omega), chk_pos ⟨by omega, by omega⟩, e1, e3, hat, chk_pos (by unfold I64; omega)]
  simp only [nam]
  rw [chk_pos (by unfold I64; omega)]
  have := mvP_set (x := x) (y := y) (k := k + 1) (by omega)
  rw [show k + 1 - 1 = k by omega] at this
  rw [this]
 ·intro n
  have e1 : (((x.length : Nat) : Int) - 1 + 1).toNat = x.length := by omega
  simp only [e1]
  rw [F_i_moved_L1, mvP_len, ite_f (decide_eq_false (by omega))]
theorem sRest_eq {x s : List Int} (hx : bdL x) (hs : bdL s) (hl : s.length = x.length) : F_s_l4Rest x s = some (lfP x s x.length) := by
 unfold F_s_l4Rest
 have hxl := hx.1
 refine jn_is (fun J => J (lfP x s x.length)) (fun J => ?_) rfl
 refine loop_up (fun n i (o : List Int) => F_s_l4Rest_L1 x s J n o i) ((x.length : Nat) : Int) (fun i => lfP x s i.toNat) _ ?_ ?_ (by omega) fuel (by have := fuel_ge; omega)
 ·intro n i i0 i1
  obtain ⟨k, rfl⟩ := int_nat i0
  have e1 : ((k : Int) + 1).toNat = k + 1 := by omega
  have b1 := hx.2 k
  have b2 := hs.2 k
  simp only [e1, Int.toNat_natCast]
  rw [F_s_l4Rest_L1, ite_t (decide_eq_true (by omega)), chk_pos ⟨i0, by omega⟩, chk_pos ⟨i0, by omega⟩, Int.toNat_natCast, chk_pos (by unfold I64; omega)]
  simp only [nam]
  rw [lfP_len, chk_pos ⟨by omega, by simp only [maxLen]; omega⟩, chk_pos (by unfold I64; omega), lfP_succ]
 ·intro n
  simp only [Int.toNat_natCast]
  rw [F_s_l4Rest_L1, ite_f (decide_eq_false (by omega))]
theorem sMoved_eq {x y : List Int} (J : List Int → Option (List Int)) (hx : bdL x) (hy : bdL y) (hl : y.length = x.length) (h1 : 1 ≤ x.length) : F_s_l4Yes_L1 y J fuel x 1 = J (mvP x y x.length) := by
 have hxl := hx.1
 have key := loop_up (fun n i (o : List Int) => F_s_l4Yes_L1 y J n o (i + 1)) ((x.length : Nat) - 1 : Int) (fun i => mvP x y (i + 1).toNat) (J (mvP x y x.length)) ?_ ?_ (by omega) fuel (by have := fuel_ge; omega)
 ·have e : mvP x y ((0 : Int) + 1).toNat = x := mvP_one
  simpa [mvP_one] using key
 ·intro n i i0 i1
  obtain ⟨k, rfl⟩ := int_nat i0
  have e1 : ((k : Int) + 1).toNat = k + 1 := by omega
  have e2 : ((k : Int) + 1 + 1).toNat = k + 2 := by omega
  have e3 : ((k : Int) + 1 - 1).toNat = k := by omega
  have b1 := hx.2 (k + 1)
  have b2 := hy.2 k
  have hat := mvP_at (x := x) (y := y) (k := k + 1) (j := k + 1) (by omega)
  rw [if_neg (by omega)] at hat
  simp only [e1, e2]
  rw [F_s_l4Yes_L1, mvP_len, ite_t (decide_eq_true (by omega)), chk_pos ⟨by omega, by omega⟩, chk_pos (by unfold I64; omega), chk_pos ⟨by omega, by omega⟩, e1, e3, hat, chk_pos (by unfold I64; omega)]
  simp only [nam]
  rw [chk_pos (by unfold I64; omega)]
  have := mvP_set (x := x) (y := y) (k := k + 1) (by omega)
  rw [show k + 1 - 1 = k by omega] at this
  rw [this]
 ·intro n
  have e1 : (((x.length : Nat) : Int) - 1 + 1).toNat = x.length := by omega
  simp only [e1]
  rw [F_s_l4Yes_L1, mvP_len, ite_f (decide_eq_false (by omega))]
theorem sYes_eq {x s : List Int} (hx : bdL x) (hs : bdL s) (hy : bdL (lfP x s x.length)) (hl : s.length = x.length) (h1 : 1 ≤ x.length) : F_s_l4Yes x s = some (mvP s (lfP x s x.length) x.length) := by
 unfold F_s_l4Yes
 have := hs.1
 rw [bnd1_eq (sRest_eq hx hs hl), chk_pos (by omega)]
 refine jn_is (fun J => J (mvP s (lfP x s x.length) x.length)) (fun J => ?_) rfl
 have := sMoved_eq J hs hy (by rw [lfP_len, hl]) (by omega)
 rw [this, hl]
def ndL (xs : List Int) : Int := nedI (tri xs 0) (tri xs 1) (tri xs 2)
def Vls (xs : List Int) : Prop := (1 ≤ xs.length ∧ xs.length ≤ 3) ∧ V3 (tri xs 0) (tri xs 1) (tri xs 2)
def yesL (xs s : List Int) : List Int := mvP s (lfP xs s xs.length) xs.length
def noL (xs s : List Int) : List Int := mvP (lfP xs s xs.length) s xs.length
theorem list3 {xs : List Int} (h : 1 ≤ xs.length ∧ xs.length ≤ 3) : (∃ c, xs = [c]) ∨ (∃ b c, xs = [b, c]) ∨ ∃ a b c, xs = [a, b, c] := by
 match xs, h with
 | [], h => simp at h
 | [c], _ => exact .inl ⟨c, rfl⟩
 | [b, c], _ => exact .inr (.inl ⟨b, c, rfl⟩)
 | [a, b, c], _ => exact .inr (.inr ⟨a, b, c, rfl⟩)
 | _ :: _ :: _ :: _ :: _, h => simp at h
theorem len2 {s : List Int} (h : s.length = 2) : ∃ j k, s = [j, k] := by
 match s, h with
 | [j, k], _ => exact ⟨j, k, rfl⟩
theorem len3 {s : List Int} (h : s.length = 3) : ∃ i j k, s = [i, j, k] := by
 match s, h with
 | [i, j, k], _ => exact ⟨i, j, k, rfl⟩
theorem Vls_bd {xs : List Int} (h : Vls xs) : bdL xs ∧ (∀ i, xs.getD i 0 ≤ 8) ∧ ∀ i, 0 ≤ xs.getD i 0 := by
 have key : ∀ i, 0 ≤ xs.getD i 0 ∧ xs.getD i 0 ≤ 8 := by
  intro i
  obtain ⟨hl, h1, h2, h3, h4⟩ := h
  rcases list3 hl with ⟨c, rfl⟩ | ⟨b, c, rfl⟩ | ⟨a, b, c, rfl⟩
  ·have h3 : 0 ≤ c := h3
   have h4 : 0 + 0 + c ≤ 8 := h4
   match i with
   | 0 => exact ⟨h3, by show c ≤ 8; omega⟩
   | i + 1 => exact ⟨by simp, by simp⟩
  ·have h2 : 0 ≤ b := h2
   have h3 : 0 ≤ c := h3
   have h4 : 0 + b + c ≤ 8 := h4
   match i with
   | 0 => exact ⟨h2, by show b ≤ 8; omega⟩
   | 1 => exact ⟨h3, by show c ≤ 8; omega⟩
   | i + 2 => exact ⟨by simp, by simp⟩
  ·have h1 : 0 ≤ a := h1
   have h2 : 0 ≤ b := h2
   have h3 : 0 ≤ c := h3
   have h4 : a + b + c ≤ 8 := h4
   match i with
   | 0 => exact ⟨h1, by show a ≤ 8; omega⟩
   | 1 => exact ⟨h2, by show b ≤ 8; omega⟩
   | 2 => exact ⟨h3, by show c ≤ 8; omega⟩
   | i + 3 => exact ⟨by simp, by simp⟩
 exact ⟨⟨h.1.2, fun i => by have := key i; omega⟩, fun i => (key i).2, fun i => (key i).1⟩
theorem spl_bd {xs s : List Int} (h : Vls xs) (hs : s ∈ splN xs xs.length) : s.length = xs.length ∧ bdL s ∧ bdL (lfP xs s xs.length) := by
 obtain ⟨hb, h8, h0⟩ := Vls_bd h
 obtain ⟨h1, h2⟩ := mem_spl.1 hs
 have hl := h.1
 have key : ∀ i, 0 ≤ s.getD i 0 ∧ s.getD i 0 ≤ 8 := fun i => by
  by_cases hi : i < xs.length
  ·have := h2 i hi; have := h8 i; omega
  ·rw [List.getD_eq_getElem?_getD, List.getElem?_eq_none (by omega)]; simp
 refine ⟨h1, ⟨by omega, fun i => by have := key i; omega⟩, by rw [lfP_len]; omega, fun i => ?_⟩
 by_cases hi : i < xs.length
 ·have e : (lfP xs s xs.length).getD i 0 = xs.getD i 0 - s.getD i 0 := by
   unfold lfP; rw [List.getD_eq_getElem?_getD, List.getElem?_map, List.getElem?_range hi]; rfl
  have := key i; have := h8 i; have := h0 i
  rw [e]; omega
 ·rw [List.getD_eq_getElem?_getD, List.getElem?_eq_none (by rw [lfP_len]; omega)]; simp
theorem tri_split {xs s : List Int} (h : Vls xs) (hs : s ∈ splN xs xs.length) : ∃ i j k : Int, ((0 ≤ i ∧ i ≤ tri xs 0) ∧ (0 ≤ j ∧ j ≤ tri xs 1) ∧ (0 ≤ k ∧ k ≤ tri xs 2)) ∧
  (tri (yesL xs s) 0 = i ∧ tri (yesL xs s) 1 = j + (tri xs 0 - i) ∧ tri (yesL xs s) 2 = k + (tri xs 1 - j)) ∧ (tri (noL xs s) 0 = tri xs 0 - i ∧ tri (noL xs s) 1 = tri xs 1 - j + i ∧ tri (noL xs s) 2 = tri xs 2 - k + j) := by
 obtain ⟨h1, h2⟩ := mem_spl.1 hs
 rcases list3 h.1 with ⟨c, rfl⟩ | ⟨b, c, rfl⟩ | ⟨a, b, c, rfl⟩
 ·obtain ⟨k, rfl⟩ : ∃ k, s = [k] := List.length_eq_one_iff.1 h1
  have f0 : 0 ≤ k ∧ k ≤ c := h2 0 (by simp)
  exact ⟨0, 0, k, ⟨⟨Int.le_refl _, Int.le_refl _⟩, ⟨Int.le_refl _, Int.le_refl _⟩, f0⟩, ⟨rfl, rfl, by show k = k + (0 - 0); omega⟩, rfl, rfl, by show c - k = c - k + 0; omega⟩
 ·obtain ⟨j, k, rfl⟩ : ∃ j k, s = [j, k] := len2 h1
  have f0 : 0 ≤ j ∧ j ≤ b := h2 0 (by simp)
  have f1 : 0 ≤ k ∧ k ≤ c := h2 1 (by simp)
  exact ⟨0, j, k, ⟨⟨Int.le_refl _, Int.le_refl _⟩, f0, f1⟩, ⟨rfl, by show j = j + (0 - 0); omega, rfl⟩, rfl, by show b - j = b - j + 0; omega, rfl⟩
 ·obtain ⟨i, j, k, rfl⟩ : ∃ i j k, s = [i, j, k] := len3 h1
  have f0 : 0 ≤ i ∧ i ≤ a := h2 0 (by simp)
  have f1 : 0 ≤ j ∧ j ≤ b := h2 1 (by simp)
  have f2 : 0 ≤ k ∧ k ≤ c := h2 2 (by simp)
  exact ⟨i, j, k, ⟨f0, f1, f2⟩, ⟨rfl, rfl, rfl⟩, rfl, rfl, rfl⟩
theorem split_tri {xs : List Int} (h : Vls xs) {i j k : Int} (hi : 0 ≤ i ∧ i ≤ tri xs 0) (hj : 0 ≤ j ∧ j ≤ tri xs 1) (hk : 0 ≤ k ∧ k ≤ tri xs 2) : ∃ s, s ∈ splN xs xs.length ∧ 
  (tri (yesL xs s) 0 = i ∧ tri (yesL xs s) 1 = j + (tri xs 0 - i) ∧ tri (yesL xs s) 2 = k + (tri xs 1 - j)) ∧ (tri (noL xs s) 0 = tri xs 0 - i ∧ tri (noL xs s) 1 = tri xs 1 - j + i ∧ tri (noL xs s) 2 = tri xs 2 - k + j) := by
 rcases list3 h.1 with ⟨c, rfl⟩ | ⟨b, c, rfl⟩ | ⟨a, b, c, rfl⟩
 ·have hi : 0 ≤ i ∧ i ≤ 0 := hi
  have hj : 0 ≤ j ∧ j ≤ 0 := hj
  have hk : 0 ≤ k ∧ k ≤ c := hk
  have ei : i = 0 := by omega
  have ej : j = 0 := by omega
  subst ei; subst ej
  refine ⟨[k], mem_spl.2 ⟨rfl, fun z hz => ?_⟩, ⟨rfl, rfl, by show k = k + (0 - 0); omega⟩, rfl, rfl, by show c - k = c - k + 0; omega⟩
  match z, hz with
  | 0, _ => exact hk
 ·have hi : 0 ≤ i ∧ i ≤ 0 := hi
  have hj : 0 ≤ j ∧ j ≤ b := hj
  have hk : 0 ≤ k ∧ k ≤ c := hk
  have ei : i = 0 := by omega
  subst ei
  refine ⟨[j, k], mem_spl.2 ⟨rfl, fun z hz => ?_⟩, ⟨rfl, by show j = j + (0 - 0); omega, rfl⟩, rfl, by show b - j = b - j + 0; omega, rfl⟩
  match z, hz with
  | 0, _ => exact hj
  | 1, _ => exact hk
 ·have hi : 0 ≤ i ∧ i ≤ a := hi
  have hj : 0 ≤ j ∧ j ≤ b := hj
  have hk : 0 ≤ k ∧ k ≤ c := hk
  refine ⟨[i, j, k], mem_spl.2 ⟨rfl, fun z hz => ?_⟩, ⟨rfl, rfl, rfl⟩, rfl, rfl, rfl⟩
  match z, hz with
  | 0, _ => exact hi
  | 1, _ => exact hj
  | 2, _ => exact hk
theorem yes_Vls {xs s : List Int} (h : Vls xs) (hs : s ∈ splN xs xs.length) : Vls (yesL xs s) ∧ Vls (noL xs s) := by
 obtain ⟨i, j, k, ⟨hi, hj, hk⟩, ⟨y0, y1, y2⟩, n0, n1, n2⟩ := tri_split h hs
 obtain ⟨hl, g1, g2, g3, g4⟩ := h
 have hsl := (mem_spl.1 hs).1
 refine ⟨⟨by unfold yesL; rw [mvP_len]; omega, ?_⟩, by unfold noL; rw [mvP_len, lfP_len]; exact hl, ?_⟩
 ·rw [y0, y1, y2]; exact ⟨by omega, by omega, by omega, by omega⟩
 ·rw [n0, n1, n2]; exact ⟨by omega, by omega, by omega, by omega⟩
theorem ndL_within {xs : List Int} {n : Int} (h : Vls xs) (h2 : 2 ≤ tri xs 0 + tri xs 1 + tri xs 2) : (∃ s, s ∈ splN xs xs.length ∧ ndL (yesL xs s) < n ∧ ndL (noL xs s) < n) ↔ ndL xs ≤ n := by
 constructor
 ·rintro ⟨s, hs, h3, h4⟩
  obtain ⟨i, j, k, ⟨hi, hj, hk⟩, ⟨y0, y1, y2⟩, n0, n1, n2⟩ := tri_split h hs
  unfold ndL at h3 h4 ⊢
  rw [y0, y1, y2] at h3
  rw [n0, n1, n2] at h4
  rcases ned_all h.2 hi hj hk with e | e <;> omega
 ·intro h3
  obtain ⟨_, i, j, k, hi, hj, hk, h4, h5⟩ := ned_two h.2 h2
  obtain ⟨s, hs, ⟨y0, y1, y2⟩, n0, n1, n2⟩ := split_tri h hi hj hk
  unfold ndL at h3 ⊢
  refine ⟨s, hs, ?_, ?_⟩
  ·rw [y0, y1, y2]; omega
  ·rw [n0, n1, n2]; omega
theorem ndL_in {xs : List Int} (h : Vls xs) : 0 ≤ ndL xs ∧ ndL xs ≤ 9 := ned_in h.2
theorem idx_core {α : Type} {d : α} {l : List α} {L : Nat → Int → Option Int} {pB : α → Bool} {r : Option Int} (hl : l.length ≤ 1000000)
  (step : ∀ n (k : Nat), k < l.length → L (n + 1) (k : Int) = bif pB (l.getD k d) then some (k : Int) else L n ((k : Int) + 1)) (fin : ∀ n, L (n + 1) ((l.length : Nat) : Int) = r) :
  (∃ k : Nat, k < l.length ∧ pB (l.getD k d) = true ∧ (∀ j, j < k → pB (l.getD j d) = false) ∧ L fuel 0 = some (k : Int)) ∨ ((∀ k, k < l.length → pB (l.getD k d) = false) ∧ L fuel 0 = r) := by
 have key : ∀ (m : Nat) (n k : Nat), k + m = l.length → m < n → (∀ j, j < k → pB (l.getD j d) = false) → (∃ i : Nat, i < l.length ∧ pB (l.getD i d) = true ∧ (∀ j, j < i → pB (l.getD j d) = false) ∧ L n (k : Int) = some (i : Int)) ∨ ((∀ i, i < l.length → pB (l.getD i d) = false) ∧ L n (k : Int) = r) := by
  intro m
  induction m with
  | zero =>
   intro n k h1 h2 h3
   obtain ⟨n, rfl⟩ : ∃ m, n = m + 1 := ⟨n - 1, by omega⟩
   have e : k = l.length := by omega
   subst e
   exact .inr ⟨h3, fin n⟩
  | succ m ih =>
   intro n k h1 h2 h3
   obtain ⟨n, rfl⟩ : ∃ m, n = m + 1 := ⟨n - 1, by omega⟩
   rw [step n k (by omega)]
   cases hp : pB (l.getD k d) with
   | true => exact .inl ⟨k, by omega, hp, h3, rfl⟩
   | false =>
    refine ih n (k + 1) (by omega) (by omega) fun j hj => ?_
    by_cases e : j = k
    ·rw [e]; exact hp
    ·exact h3 j (by omega)
 have := fuel_ge
 exact key l.length fuel 0 (by omega) (by omega) fun j hj => by omega
theorem any_yes {α : Type} {d : α} {l : List α} {p : α → Bool} {k : Nat} (h : k < l.length) (hp : p (l.getD k d) = true) : l.any p = true := List.any_eq_true.2 ⟨_, getD_mem h, hp⟩
theorem any_no {α : Type} {d : α} {l : List α} {p : α → Bool} (h : ∀ k, k < l.length → p (l.getD k d) = false) : l.any p = false := by
 rw [List.any_eq_false]
 intro x hx
 obtain ⟨i, hi, rfl⟩ := List.getElem_of_mem hx
 have := h i hi
 rw [List.getD_eq_getElem?_getD, List.getElem?_eq_getElem hi] at this
 simpa using this
theorem iContF_eq {l : List (List Int)} {p1 : List Int → Option Bool} {pB : List Int → Bool} (hl : l.length ≤ 100000) (hp : ∀ s ∈ l, p1 s = some (pB s)) : F_sCi l p1 = some (l.any pB) := by
 unfold F_sCi F_sIi
 have key := idx_core (d := []) (l := l) (L := fun n i => F_sIi_L1 l p1 (fun _ => some (-1 : Int)) n i) (pB := pB) (r := some (-1)) (by omega) (fun n k hk => by
  try dsimp only
  rw [F_sIi_L1, ite_t (decide_eq_true (by omega)), chk_pos ⟨by omega, by omega⟩, Int.toNat_natCast, bnd1_eq (hp _ (getD_mem hk)), chk_pos (by unfold I64; omega)]) (fun n => by
  try dsimp only
  rw [F_sIi_L1, ite_f (decide_eq_false (by omega))])
 try dsimp only [jn] at key ⊢
 rcases key with ⟨k, h1, h2, _, h4⟩ | ⟨h1, h2⟩
 ·rw [h4, any_yes h1 h2]
  show some (decide ((k : Int) ≥ 0)) = some true
  rw [decide_eq_true (by omega)]
 ·rw [h2, any_no h1]; rfl
theorem iContT_eq {l : List Nd} (a b c : Int) (hl : l.length ≤ 100000) : F_sCt l a b c = some (l.any fun t => t == (a, b, c)) := by
 unfold F_sCt F_sJt
 have key := idx_core (d := (0, 0, 0)) (l := l) (L := fun n i => F_sJt_L1 l a b c (fun _ => some (-1 : Int)) n i) (pB := fun t => t == (a, b, c)) (r := some (-1)) (by omega) (fun n k hk => by
  try dsimp only
  rw [F_sJt_L1, ite_t (decide_eq_true (by omega)), chk_pos ⟨by omega, by omega⟩, Int.toNat_natCast, chk_pos (by unfold I64; omega)]
  simp only [nam]
  have e : ((a == ((List.getD l k (0, 0, 0)).1)) && ((b == ((List.getD l k (0, 0, 0)).2.1)) && ((c == ((List.getD l k (0, 0, 0)).2.2)) && (true)))) = (List.getD l k (0, 0, 0) == (a, b, c)) := by
   obtain ⟨x, y, z⟩ := List.getD l k (0, 0, 0)
   rw [Bool.eq_iff_iff]
   simp only [Bool.and_eq_true, beq_iff_eq, Prod.mk.injEq, and_true]
   constructor
   ·rintro ⟨rfl, rfl, rfl⟩; exact ⟨rfl, rfl, rfl⟩
   ·rintro ⟨rfl, rfl, rfl⟩; exact ⟨rfl, rfl, rfl⟩
  rw [e]) (fun n => by
  try dsimp only
  rw [F_sJt_L1, ite_f (decide_eq_false (by omega))])
 try dsimp only [jn] at key ⊢
 rcases key with ⟨k, h1, h2, _, h4⟩ | ⟨h1, h2⟩
 ·rw [h4, any_yes h1 h2]
  show some (decide ((k : Int) ≥ 0)) = some true
  rw [decide_eq_true (by omega)]
 ·rw [h2, any_no h1]; rfl
theorem iDelT_eq {l : List Nd} {p1 : Int → Int → Int → Option Bool} {pB : Nd → Bool} (hl : l.length ≤ 100000) (hp : ∀ a b c, p1 a b c = some (pB (a, b, c))) : F_sDt l p1 = some (l.filter fun t => !(pB t)) := by
 unfold F_sDt F_sIt
 have key := idx_core (d := (0, 0, 0)) (l := l) (L := fun n i => F_sIt_L1 l p1 (fun _ => some (-1 : Int)) n i) (pB := pB) (r := some (-1)) (by omega) (fun n k hk => by
  try dsimp only
  rw [F_sIt_L1, ite_t (decide_eq_true (by omega)), chk_pos ⟨by omega, by omega⟩, Int.toNat_natCast, bnd1_eq (hp _ _ _), chk_pos (by unfold I64; omega)]) (fun n => by
  try dsimp only
  rw [F_sIt_L1, ite_f (decide_eq_false (by omega))])
 try dsimp only [jn] at key ⊢
 have noall : ∀ i, i ≤ l.length → (∀ j, j < i → pB (l.getD j (0, 0, 0)) = false) → (l.take i).filter (fun t => !(pB t)) = l.take i := by
  intro i hi hj
  rw [List.filter_eq_self]
  intro x hx
  obtain ⟨j, h1, rfl⟩ := List.getElem_of_mem hx
  rw [List.length_take] at h1
  have := hj j (by omega)
  rw [List.getD_eq_getElem?_getD, List.getElem?_eq_getElem (by omega)] at this
  rw [List.getElem_take]
  simp only [Option.getD_some] at this
  rw [this]; rfl
 rcases key with ⟨k, h1, h2, h3, h4⟩ | ⟨h1, h2⟩
 ·rw [h4, bnd1_eq rfl, ite_f (by rw [beq_eq_false_iff_ne]; omega), chk_pos (by unfold I64; omega)]
  refine loop_m (fun n (s : List Nd × Int × Int) => F_sDt_L1 p1 (fun (o500 : List Nd) (v5 : Int) => chk (0 ≤ v5 ∧ v5 ≤ ((List.length o500 : Nat) : Int) ∧ ((List.length o500 : Nat) : Int) ≤ ((List.length o500 : Nat) : Int)) <| chk (0 ≤ v5 ∧ v5 ≤ ((List.length o500 : Nat) : Int)) <| some (List.take (Int.toNat v5) o500)) n s.1 s.2.1 s.2.2)
   (fun s => ∃ i w : Nat, s.2.1 = i ∧ s.2.2 = w ∧ w < i ∧ i ≤ l.length ∧ s.1.length = l.length ∧ s.1.take w = (l.take i).filter (fun t => !(pB t)) ∧ s.1.drop i = l.drop i) (fun s => l.length - s.2.1.toNat) (fun o => o = some (l.filter fun t => !(pB t))) ?_ fuel (l, (k : Int) + 1, (k : Int)) ⟨k + 1, k, by simp, rfl, by omega, by omega, rfl, ?_, rfl⟩ (by have := fuel_ge; dsimp only; omega)
  ·rintro n ⟨o, v, u⟩ ⟨i, w, rfl, rfl, hw, hi, hlen, htk, hdr⟩
   dsimp only at hlen htk hdr ⊢
   rw [F_sDt_L1]
   by_cases hc : i < l.length
   ·left
    have hg : o.getD i (0, 0, 0) = l.getD i (0, 0, 0) := by
     have e := congrArg (fun z => z[0]?) hdr
     simp only [List.getElem?_drop, Nat.add_zero] at e
     rw [List.getD_eq_getElem?_getD, List.getD_eq_getElem?_getD, e]
    have hd2 : o.drop (i + 1) = l.drop (i + 1) := by
     have e := congrArg (List.drop 1) hdr
     simpa [List.drop_drop] using e
    rw [ite_t (decide_eq_true (by omega)), chk_pos ⟨by omega, by omega⟩, Int.toNat_natCast, bnd1_eq (hp _ _ _), Int.toNat_natCast, chk_pos ⟨by omega, by omega⟩, chk_pos (by unfold I64; omega), chk_pos (by unfold I64; omega), hg]
    cases hb : pB (l.getD i (0, 0, 0)) with
    | true =>
     refine ⟨(o, ((i : Int) + 1), (w : Int)), ⟨i + 1, w, by simp, rfl, by omega, by omega, hlen, ?_, hd2⟩, by dsimp only; omega, ?_⟩
     ·rw [take_getD (d := (0, 0, 0)) hc, List.filter_append, htk, List.filter_cons, hb]
      simp
     ·show chk _ _ = _
      rw [chk_pos (by unfold I64; omega)]
    | false =>
     refine ⟨(o.set w (l.getD i (0, 0, 0)), ((i : Int) + 1), ((w : Int) + 1)), ⟨i + 1, w + 1, by simp, by simp, by omega, by omega, by rw [List.length_set]; exact hlen, ?_, ?_⟩, by dsimp only; omega, ?_⟩
     ·dsimp only
      rw [take_getD (d := (0, 0, 0)) hc, List.filter_append, ← htk, take_getD (d := (0, 0, 0)) (by rw [List.length_set]; omega), List.take_set_of_le (Nat.le_refl _)]
      rw [List.filter_cons, hb, List.getD_eq_getElem?_getD (l := List.set _ _ _), List.getElem?_set_self (by omega)]
      simp
     ·dsimp only
      rw [List.drop_set_of_lt (by omega), hd2]
     ·rfl
   ·right
    have e : i = l.length := by omega
    subst e
    rw [ite_f (decide_eq_false (by omega)), chk_pos ⟨by omega, by omega, by omega⟩, chk_pos ⟨by omega, by omega⟩, Int.toNat_natCast, htk, List.take_length]
  ·dsimp only
   rw [take_getD (d := (0, 0, 0)) h1, List.filter_append, noall k (by omega) h3, List.filter_cons, h2]
   simp
 ·rw [h2, bnd1_eq rfl, ite_t (show ((-1 : Int) == -1) = true from rfl)]
  have := noall l.length (Nat.le_refl _) h1
  rw [List.take_length] at this
  rw [this]
theorem iBoth_eq {xs s : List Int} (h : Vls xs) (hs : s ∈ splN xs xs.length) : F_i_bothWays xs s = some (yesL xs s, noL xs s) := by
 obtain ⟨h1, h2, h3⟩ := spl_bd h hs
 have hb := (Vls_bd h).1
 have hl := h.1
 unfold F_i_bothWays yesL noL
 rw [bnd1_eq (iLeft_eq hb h2 h1), bnd1_eq (iMoved_eq h2 h3 (by rw [lfP_len, h1]) (by omega)), bnd1_eq (iMoved_eq h3 h2 (by rw [lfP_len, h1]) (by rw [lfP_len]; omega)), lfP_len, h1]
abbrev triK (xs : List Int) : K3 := (tri xs 0, tri xs 1, tri xs 2)
def okM (n : Int) (out : List (K3 × Int)) : Prop := ∀ a b c, V3 a b c → tget out (a, b, c) = if nedI a b c < n then some (nedI a b c) else none
def winB (xs : List Int) (out : List (K3 × Int)) (s : List Int) : Bool := (tget out (triK (yesL xs s))).isSome && (tget out (triK (noL xs s))).isSome
theorem iN1_eq {a b c : Int} {s : List Int} {out : List (K3 × Int)} (h : Vls [a, b, c]) (hs : s ∈ splN [a, b, c] 3) : F_i_needs_1 s (fun u0 u1 => F_i_bothWays u0 u1) a b c out = some (winB [a, b, c] out s) := by
 unfold F_i_needs_1
 have h3 : s ∈ splN [a, b, c] [a, b, c].length := hs
 obtain ⟨⟨y1, _⟩, ⟨n1, _⟩⟩ := yes_Vls h h3
 rw [bnd2_eq (iBoth_eq h h3), chk_pos y1]
 simp only [nam]
 rw [chk_pos n1]
 unfold winB
 cases (tget out (tri (yesL [a, b, c] s) 0, tri (yesL [a, b, c] s) 1, tri (yesL [a, b, c] s) 2)).isSome <;> rfl
theorem win_iff {xs : List Int} {out : List (K3 × Int)} {n : Int} (h : Vls xs) (h2 : 2 ≤ tri xs 0 + tri xs 1 + tri xs 2) (hm : okM n out) : (splN xs xs.length).any (winB xs out) = decide (ndL xs ≤ n) := by
 have one : ∀ s, s ∈ splN xs xs.length → (winB xs out s = true ↔ ndL (yesL xs s) < n ∧ ndL (noL xs s) < n) := by
  intro s hs
  obtain ⟨⟨_, y⟩, ⟨_, z⟩⟩ := yes_Vls h hs
  unfold winB
  rw [Bool.and_eq_true, hm _ _ _ y, hm _ _ _ z]
  unfold ndL
  constructor
  ·rintro ⟨h3, h4⟩
   constructor
   ·split at h3
    ·assumption
    ·cases h3
   ·split at h4
    ·assumption
    ·cases h4
  ·rintro ⟨h3, h4⟩
   rw [if_pos h3, if_pos h4]; exact ⟨rfl, rfl⟩
 rw [Bool.eq_iff_iff, decide_eq_true_iff, ← ndL_within h h2, List.any_eq_true]
 constructor
 ·rintro ⟨s, h3, h4⟩; exact ⟨s, h3, (one s h3).1 h4⟩
 ·rintro ⟨s, h3, h4⟩; exact ⟨s, h3, (one s h3).2 h4⟩
abbrev NbS := List Nd × List (K3 × Int)
def nb3 (a b : Int) : Nat → NbS → NbS
 | 0, s => s
 | c + 1, s => bif decide (a + b + (c : Int) ≤ 1) then ((nb3 a b c s).1, tput (nb3 a b c s).2 (a, b, (c : Int)) 0) else ((nb3 a b c s).1 ++ [(a, b, (c : Int))], (nb3 a b c s).2)
def nb2 (a : Int) (N : Nat) : Nat → NbS → NbS
 | 0, s => s
 | b + 1, s => nb3 a (b : Int) (N - b) (nb2 a N b s)
def nb1 : Nat → NbS
 | 0 => ([], [])
 | a + 1 => nb2 (a : Int) (9 - a) (9 - a) (nb1 a)
theorem nb3_len (a b : Int) (s : NbS) : ∀ c, (nb3 a b c s).1.length ≤ s.1.length + c
 | 0 => Nat.le_refl _
 | c + 1 => by
  have := nb3_len a b s c
  unfold nb3
  cases decide (a + b + (c : Int) ≤ 1) with
  | true => rw [cond_true]; dsimp only; omega
  | false => rw [cond_false]; simp only [List.length_append, List.length_singleton]; omega
theorem nb2_len (a : Int) {N : Nat} (hN : N ≤ 9) (s : NbS) : ∀ b, (nb2 a N b s).1.length ≤ s.1.length + 9 * b
 | 0 => Nat.le_refl _
 | b + 1 => by
  have h1 := nb2_len a hN s b
  have h2 := nb3_len a (b : Int) (nb2 a N b s) (N - b)
  unfold nb2; omega
theorem nb1_len : ∀ a, (nb1 a).1.length ≤ 81 * a
 | 0 => Nat.le_refl _
 | a + 1 => by
  have h1 := nb1_len a
  have h2 := nb2_len (a : Int) (N := 9 - a) (by omega) (nb1 a) (9 - a)
  unfold nb1; omega
theorem needs_L3 (a b : Nat) (hab : a + b ≤ 9) (J : List Nd → List (K3 × Int) → Option (List (K3 × Int))) (s : NbS) (hs : s.1.length ≤ 10000) : F_i_needs_L3 (a : Int) (b : Int) J fuel s.1 s.2 0 = J (nb3 a b (9 - a - b) s).1 (nb3 a b (9 - a - b) s).2 := by
 have key := loop_up (fun n i (s : NbS) => F_i_needs_L3 (a : Int) (b : Int) J n s.1 s.2 i) (((9 - a - b : Nat) : Int)) (fun i => nb3 a b i.toNat s) (J (nb3 a b (9 - a - b) s).1 (nb3 a b (9 - a - b) s).2) ?_ ?_ (by omega) fuel (by have := fuel_ge; omega)
 ·exact key
 ·intro n i i0 i1
  obtain ⟨c, rfl⟩ := int_nat i0
  have e1 : ((c : Int) + 1).toNat = c + 1 := by omega
  have hl := nb3_len a b s c
  simp only [e1, Int.toNat_natCast]
  rw [F_i_needs_L3, ite_t (decide_eq_true (by omega)), chk_pos (by unfold I64; omega), chk_pos (by unfold I64; omega)]
  by_cases hc : (a : Int) + (b : Int) + (c : Int) ≤ 1
  ·rw [ite_t (decide_eq_true hc), chk_pos (by unfold I64; omega), nb3, decide_eq_true hc]; rfl
  ·rw [ite_f (decide_eq_false hc), chk_pos ⟨by omega, by simp only [maxLen]; omega⟩, chk_pos (by unfold I64; omega), nb3, decide_eq_false hc]; rfl
 ·intro n
  simp only [Int.toNat_natCast]
  rw [F_i_needs_L3, ite_f (decide_eq_false (by omega))]
theorem needs_L2 (a : Nat) (ha : a ≤ 9) (J : List Nd → List (K3 × Int) → Option (List (K3 × Int))) (s : NbS) (hs : s.1.length ≤ 5000) : F_i_needs_L2 (a : Int) J fuel s.1 s.2 0 = J (nb2 a (9 - a) (9 - a) s).1 (nb2 a (9 - a) (9 - a) s).2 := by
 have key := loop_up (fun n i (s : NbS) => F_i_needs_L2 (a : Int) J n s.1 s.2 i) (((9 - a : Nat) : Int)) (fun i => nb2 a (9 - a) i.toNat s) (J (nb2 a (9 - a) (9 - a) s).1 (nb2 a (9 - a) (9 - a) s).2) ?_ ?_ (by omega) fuel (by have := fuel_ge; omega)
 ·exact key
 ·intro n i i0 i1
  obtain ⟨c, rfl⟩ := int_nat i0
  have e1 : ((c : Int) + 1).toNat = c + 1 := by omega
  have hl := nb2_len (a : Int) (N := 9 - a) (by omega) s c
  simp only [e1, Int.toNat_natCast]
  rw [F_i_needs_L2, ite_t (decide_eq_true (by omega))]
  refine jn_is (fun J3 => J3 (nb3 a c (9 - a - c) (nb2 a (9 - a) c s)).1 (nb3 a c (9 - a - c) (nb2 a (9 - a) c s)).2) (fun J3 => ?_) ?_
  ·rw [chk_pos (by unfold I64; omega), needs_L3 a c (by omega) J3 _ (by omega)]
  ·rw [chk_pos (by unfold I64; omega), nb2]
 ·intro n
  simp only [Int.toNat_natCast]
  rw [F_i_needs_L2, ite_f (decide_eq_false (by omega))]
theorem needs_L1 (J : List Nd → List (K3 × Int) → Option (List (K3 × Int))) : F_i_needs_L1 J fuel [] [] 0 = J (nb1 9).1 (nb1 9).2 := by
 have key := loop_up (fun n i (s : NbS) => F_i_needs_L1 J n s.1 s.2 i) 9 (fun i => nb1 i.toNat) (J (nb1 9).1 (nb1 9).2) ?_ ?_ (by omega) fuel (by have := fuel_ge; omega)
 ·exact key
 ·intro n i i0 i1
  obtain ⟨c, rfl⟩ := int_nat i0
  have e1 : ((c : Int) + 1).toNat = c + 1 := by omega
  have hl := nb1_len c
  simp only [e1, Int.toNat_natCast]
  rw [F_i_needs_L1, ite_t (decide_eq_true (by omega))]
  refine jn_is (fun J3 => J3 (nb2 c (9 - c) (9 - c) (nb1 c)).1 (nb2 c (9 - c) (9 - c) (nb1 c)).2) (fun J3 => ?_) ?_
  ·rw [chk_pos (by unfold I64; omega), needs_L2 c (by omega) J3 _ (by omega)]
  ·rw [chk_pos (by unfold I64; omega), nb1]
 ·intro n
  rw [F_i_needs_L1, ite_f (decide_eq_false (by omega))]
  rfl
def nbC : Bool := ndAll (fun a => ndAll (fun b => ndAll (fun c => bif Nat.ble (a + b + c) 1 then (tget (nb1 9).2 ((a : Int), (b : Int), (c : Int)) == some 0) else (nb1 9).1.any (fun t => t == ((a : Int), (b : Int), (c : Int))) && (tget (nb1 9).2 ((a : Int), (b : Int), (c : Int)) == none)) (9 - a - b)) (9 - a)) 9
theorem nbC_ok : nbC = true := by decide +kernel
theorem nbA_ok : ((nb1 9).1.all fun t => (decide (0 ≤ t.1) && decide (0 ≤ t.2.1)) && ((decide (0 ≤ t.2.2) && decide (t.1 + t.2.1 + t.2.2 ≤ 8)) && decide (2 ≤ t.1 + t.2.1 + t.2.2))) = true := by decide +kernel
def okO (n : Int) (o : List Nd) : Prop := o.length ≤ 1000 ∧ ∀ a b c, (a, b, c) ∈ o ↔ V3 a b c ∧ 2 ≤ a + b + c ∧ n ≤ nedI a b c
theorem nb_start : okO 1 (nb1 9).1 ∧ okM 1 (nb1 9).2 := by
 have hC : ∀ x y z : Nat, x + y + z ≤ 8 → (bif Nat.ble (x + y + z) 1 then (tget (nb1 9).2 ((x : Int), (y : Int), (z : Int)) == some 0) else (nb1 9).1.any (fun t => t == ((x : Int), (y : Int), (z : Int))) && (tget (nb1 9).2 ((x : Int), (y : Int), (z : Int)) == none)) = true := fun x y z h => ndAll_in (ndAll_in (ndAll_in nbC_ok x (by omega)) y (by omega)) z (by omega)
 refine ⟨⟨by have := nb1_len 9; omega, fun a b c => ⟨fun h => ?_, fun ⟨h1, h2, h3⟩ => ?_⟩⟩, fun a b c h => ?_⟩
 ·have := List.all_eq_true.1 nbA_ok _ h
  simp only [Bool.and_eq_true, decide_eq_true_eq] at this
  obtain ⟨⟨a1, a2⟩, ⟨a3, a4⟩, a5⟩ := this
  have hv : V3 a b c := ⟨a1, a2, a3, a4⟩
  exact ⟨hv, a5, (ned_two hv a5).1.1⟩
 ·obtain ⟨x, y, z, rfl, rfl, rfl, h4⟩ := V3_nat h1
  have := hC x y z h4
  rw [show Nat.ble (x + y + z) 1 = false by
   cases hc : Nat.ble (x + y + z) 1 with
   | false => rfl
   | true => have := Nat.le_of_ble_eq_true hc; omega, cond_false, Bool.and_eq_true, List.any_eq_true] at this
  obtain ⟨⟨t, h5, h6⟩, _⟩ := this
  rw [beq_iff_eq] at h6
  rw [← h6]; exact h5
 ·obtain ⟨x, y, z, rfl, rfl, rfl, h4⟩ := V3_nat h
  have := hC x y z h4
  by_cases hc : x + y + z ≤ 1
  ·rw [Nat.ble_eq_true_of_le hc, cond_true, beq_iff_eq] at this
   have e := ned_told h (by omega)
   rw [this, e, if_pos (by omega)]
  ·rw [show Nat.ble (x + y + z) 1 = false by
    cases hc : Nat.ble (x + y + z) 1 with
    | false => rfl
    | true => have := Nat.le_of_ble_eq_true hc; omega, cond_false, Bool.and_eq_true, beq_iff_eq] at this
   have e := (ned_two h (by omega)).1
   rw [this.2, if_neg (by omega)]
def wonB (out : List (K3 × Int)) (t : Nd) : Bool := (splN [t.1, t.2.1, t.2.2] 3).any (winB [t.1, t.2.1, t.2.2] out)
theorem V3_ls {a b c : Int} (h : V3 a b c) : Vls [a, b, c] := ⟨⟨by simp, by simp⟩, h⟩
theorem needs_L5 {o : List Nd} {out : List (K3 × Int)} {n0 : Int} (ho : okO n0 o) (J : List Nd → Option (List (K3 × Int))) : F_i_needs_L5 (fun u0 u1 => F_i_bothWays u0 u1) o out J fuel [] 0 = J (o.filter (wonB out)) := by
 have hol := ho.1
 have key := loop_up (fun n i (s : List Nd) => F_i_needs_L5 (fun u0 u1 => F_i_bothWays u0 u1) o out J n s i) ((o.length : Nat) : Int) (fun i => (o.take i.toNat).filter (wonB out)) (J (o.filter (wonB out))) ?_ ?_ (by omega) fuel (by have := fuel_ge; omega)
 ·simpa using key
 ·intro n i i0 i1
  obtain ⟨k, rfl⟩ := int_nat i0
  have e1 : ((k : Int) + 1).toNat = k + 1 := by omega
  have hk : k < o.length := by omega
  simp only [e1, Int.toNat_natCast]
  have hmem : o.getD k (0, 0, 0) ∈ o := getD_mem hk
  have hlen := List.length_filter_le (wonB out) (o.take k)
  rw [List.length_take] at hlen
  rw [F_i_needs_L5, ite_t (decide_eq_true i1), chk_pos ⟨i0, i1⟩, take_getD (d := (0, 0, 0)) hk, List.filter_append, List.filter_cons, List.filter_nil, Int.toNat_natCast]
  generalize o.getD k (0, 0, 0) = t at hmem ⊢
  obtain ⟨a, b, c⟩ := t
  dsimp only
  have hv := V3_ls ((ho.2 a b c).1 hmem).1
  have hb := Vls_bd hv
  have h9 := spl_len3 hb.2.1 (r := 3) (by omega)
  rw [bnd1_eq (iSplits_eq hb.2.1 hb.2.2 (by simp)), show [a, b, c].length = 3 from rfl, bnd1_eq (iContF_eq (pB := winB [a, b, c] out) (by show (splN [a, b, c] 3).length ≤ _; omega) fun s hs => iN1_eq hv hs)]
  show (bif wonB out (a, b, c) then _ else _) = _
  cases hw : wonB out (a, b, c) with
  | true => rw [ite_t rfl, chk_pos ⟨by omega, by simp only [maxLen]; omega⟩, chk_pos (by unfold I64; omega), if_pos rfl]
  | false => rw [ite_f rfl, chk_pos (by unfold I64; omega), if_neg (by simp), List.append_nil]
 ·intro n
  simp only [Int.toNat_natCast, List.take_length]
  rw [F_i_needs_L5, ite_f (decide_eq_false (by omega))]
def putA (n : Int) (out : List (K3 × Int)) (ts : List Nd) : List (K3 × Int) := ts.foldl (fun o t => tput o t n) out
theorem putA_get (n : Int) (k : K3) : ∀ (ts : List Nd) (out : List (K3 × Int)), tget (putA n out ts) k = if k ∈ ts then some n else tget out k
 | [], out => by simp [putA]
 | t :: ts, out => by
  show tget (putA n (tput out t n) ts) k = _
  rw [putA_get n k ts, tget_put]
  by_cases h1 : k ∈ ts
  ·rw [if_pos h1, if_pos (by simp [h1])]
  ·rw [if_neg h1]
   by_cases h2 : k = t
   ·rw [if_pos h2, if_pos (by simp [h2])]
   ·rw [if_neg h2, if_neg (by simp [h1, h2])]
theorem needs_L6 {n0 : Int} {ts : List Nd} (hl : ts.length ≤ 1000) (out : List (K3 × Int)) (J : List (K3 × Int) → Option (List (K3 × Int))) : F_i_needs_L6 n0 ts J fuel out 0 = J (putA n0 out ts) := by
 have key := loop_up (fun n i (s : List (K3 × Int)) => F_i_needs_L6 n0 ts J n s i) ((ts.length : Nat) : Int) (fun i => putA n0 out (ts.take i.toNat)) (J (putA n0 out ts)) ?_ ?_ (by omega) fuel (by have := fuel_ge; omega)
 ·exact key
 ·intro n i i0 i1
  obtain ⟨k, rfl⟩ := int_nat i0
  have e1 : ((k : Int) + 1).toNat = k + 1 := by omega
  have hk : k < ts.length := by omega
  simp only [e1, Int.toNat_natCast]
  rw [F_i_needs_L6, ite_t (decide_eq_true i1), chk_pos ⟨i0, i1⟩, chk_pos (by unfold I64; omega), take_getD (d := (0, 0, 0)) hk, Int.toNat_natCast]
  unfold putA
  rw [List.foldl_append]; rfl
 ·intro n
  simp only [Int.toNat_natCast, List.take_length]
  rw [F_i_needs_L6, ite_f (decide_eq_false (by omega))]
theorem nb_ex : ∃ o out, (∀ J, F_i_needs_L1 J fuel [] [] 0 = J o out) ∧ okO 1 o ∧ okM 1 out := ⟨_, _, needs_L1, nb_start⟩
theorem iNeeds_ok : ∃ l, F_i_needs (fun u0 u1 => F_i_bothWays u0 u1) = some l ∧ ∀ a b c, V3 a b c → tget l (a, b, c) = some (nedI a b c) := by
 unfold F_i_needs
 obtain ⟨o0, u0, e0, s1, s2⟩ := nb_ex
 refine jn_q (Q0 := fun o => ∃ l, o = some l ∧ ∀ a b c, V3 a b c → tget l (a, b, c) = some (nedI a b c)) (fun J => J o0 u0) (fun J => e0 J) ?_
 simp only [jn]
 refine loop_m (fun n (s : List Nd × List (K3 × Int) × Int) => F_i_needs_L4 (fun u0 u1 => F_i_bothWays u0 u1) (fun o15b => some o15b) n s.1 s.2.1 s.2.2) (fun s => 1 ≤ s.2.2 ∧ s.2.2 ≤ 10 ∧ okO s.2.2 s.1 ∧ okM s.2.2 s.2.1) (fun s => (10 - s.2.2).toNat) (fun o => ∃ l, o = some l ∧ ∀ a b c, V3 a b c → tget l (a, b, c) = some (nedI a b c)) ?_ fuel (o0, u0, 1) ⟨Int.le_refl _, by dsimp only; omega, s1, s2⟩ (by have := fuel_ge; dsimp only; omega)
 rintro f ⟨o, out, n⟩ ⟨n1, n2, ho, hm⟩
 dsimp only at n1 n2 ho hm ⊢
 have hol := ho.1
 rw [F_i_needs_L4]
 by_cases hc : 0 < o.length
 ·left
  have hn9 : n ≤ 9 := by
   have hmem : o.getD 0 (0, 0, 0) ∈ o := getD_mem hc
   generalize o.getD 0 (0, 0, 0) = t at hmem
   obtain ⟨a, b, c⟩ := t
   obtain ⟨v, _, h3⟩ := (ho.2 a b c).1 hmem
   have := ned_in v; omega
  have hwon : ∀ a b c, (a, b, c) ∈ o → wonB out (a, b, c) = decide (nedI a b c ≤ n) := fun a b c h => by
   obtain ⟨v, h2, _⟩ := (ho.2 a b c).1 h
   exact win_iff (xs := [a, b, c]) (V3_ls v) h2 hm
  have hdl := List.length_filter_le (wonB out) o
  have hdone : ∀ a b c, (a, b, c) ∈ o.filter (wonB out) ↔ V3 a b c ∧ 2 ≤ a + b + c ∧ nedI a b c = n := fun a b c => by
   rw [List.mem_filter]
   constructor
   ·rintro ⟨h1, h2⟩
    rw [hwon a b c h1, decide_eq_true_iff] at h2
    obtain ⟨v, h3, h4⟩ := (ho.2 a b c).1 h1
    exact ⟨v, h3, by omega⟩
   ·rintro ⟨v, h3, h4⟩
    have h1 := (ho.2 a b c).2 ⟨v, h3, by omega⟩
    exact ⟨h1, by rw [hwon a b c h1, decide_eq_true_iff]; omega⟩
  refine ⟨(o.filter (fun t => !((o.filter (wonB out)).any fun u => u == t)), putA n out (o.filter (wonB out)), n + 1), ⟨by dsimp only; omega, by dsimp only; omega, ⟨?_, fun a b c => ?_⟩, fun a b c v => ?_⟩, by dsimp only; omega, ?_⟩
  ·have := List.length_filter_le (fun t => !((o.filter (wonB out)).any fun u => u == t)) o
   dsimp only; omega
  ·dsimp only
   rw [List.mem_filter, Bool.not_eq_true', List.any_eq_false]
   constructor
   ·rintro ⟨h1, h2⟩
    obtain ⟨v, h3, h4⟩ := (ho.2 a b c).1 h1
    refine ⟨v, h3, ?_⟩
    by_cases e : nedI a b c = n
    ·exact absurd (beq_self_eq_true _) (h2 (a, b, c) ((hdone a b c).2 ⟨v, h3, e⟩))
    ·omega
   ·rintro ⟨v, h3, h4⟩
    refine ⟨(ho.2 a b c).2 ⟨v, h3, by omega⟩, fun u hu he => ?_⟩
    rw [beq_iff_eq] at he
    subst he
    have := ((hdone a b c).1 hu).2.2
    omega
  ·dsimp only
   rw [putA_get, hm a b c v]
   by_cases e : (a, b, c) ∈ o.filter (wonB out)
   ·have h2 := ((hdone a b c).1 e).2.2
    rw [if_pos e, if_pos (by omega), h2]
   ·rw [if_neg e]
    by_cases h2 : nedI a b c < n
    ·rw [if_pos h2, if_pos (by omega)]
    ·rw [if_neg h2]
     have h3 : 2 ≤ a + b + c := by
      apply Classical.byContradiction
      intro h3
      have := ned_told v (by omega)
      omega
     have : nedI a b c ≠ n := fun h4 => e ((hdone a b c).2 ⟨v, h3, h4⟩)
     rw [if_neg (by omega)]
  ·dsimp only
   rw [ite_t (decide_eq_true (by omega))]
   refine jn_is (fun J2 => J2 (o.filter (fun t => !((o.filter (wonB out)).any fun u => u == t))) (putA n out (o.filter (wonB out)))) (fun J2 => ?_) (by rw [chk_pos (by unfold I64; omega)])
   refine jn_is (fun J3 => J3 (o.filter (wonB out))) (fun J3 => needs_L5 ho J3) ?_
   refine jn_is (fun J3 => J3 (putA n out (o.filter (wonB out)))) (fun J3 => needs_L6 (by omega) out J3) ?_
   rw [bnd1_eq (iDelT_eq (pB := fun t => (o.filter (wonB out)).any fun u => u == t) (by omega) fun a b c => by
    unfold F_i_needs_2
    rw [bnd1_eq (iContT_eq a b c (by omega))])]
 ·right
  rw [ite_f (decide_eq_false (by omega))]
  refine ⟨out, rfl, fun a b c v => ?_⟩
  have e : o = [] := List.length_eq_zero_iff.1 (by omega)
  subst e
  have h1 := ho.2 a b c
  rw [hm a b c v]
  by_cases h2 : nedI a b c < n
  ·rw [if_pos h2]
  ·exfalso
   have h3 : 2 ≤ a + b + c := by
    apply Classical.byContradiction
    intro h3
    have := ned_told v (by omega)
    omega
   have := h1.2 ⟨v, h3, by omega⟩
   cases this
theorem iNeeder_ok : ∃ l, F_i_neederOf (fun u0 u1 => F_i_bothWays u0 u1) = some l ∧ ∀ a b c, V3 a b c → tget l (a, b, c) = some (nedI a b c) := by
 obtain ⟨l, e, h⟩ := iNeeds_ok
 exact ⟨l, by unfold F_i_neederOf; rw [bnd1_eq e], h⟩
def keyN (xs : List Int) : Int := 81 * tri xs 0 + 9 * tri xs 1 + tri xs 2
def sum3 (xs : List Int) : Int := tri xs 0 + tri xs 1 + tri xs 2
def keyQ (l : List Int) : Nat → Int
 | 0 => 0
 | i + 1 => keyQ l i * 9 + l.getD i 0
theorem keyQ_eq {xs : List Int} (h : 1 ≤ xs.length ∧ xs.length ≤ 3) : keyQ xs xs.length = keyN xs := by
 rcases list3 h with ⟨c, rfl⟩ | ⟨b, c, rfl⟩ | ⟨a, b, c, rfl⟩
 ·show (0 * 9 + c : Int) = 81 * 0 + 9 * 0 + c
  omega
 ·show ((0 * 9 + b) * 9 + c : Int) = 81 * 0 + 9 * b + c
  omega
 ·show (((0 * 9 + a) * 9 + b) * 9 + c : Int) = 81 * a + 9 * b + c
  omega
theorem keyQ_in {l : List Int} (h8 : ∀ i, l.getD i 0 ≤ 8) (h0 : ∀ i, 0 ≤ l.getD i 0) : ∀ i, 0 ≤ keyQ l i ∧ keyQ l i < 9 ^ i
 | 0 => by simp [keyQ]
 | i + 1 => by
  have := keyQ_in h8 h0 i
  have a := h8 i
  have b := h0 i
  have e : (9 : Int) ^ (i + 1) = 9 ^ i * 9 := Int.pow_succ ..
  rw [keyQ, e]
  omega
theorem sumP_eq {xs : List Int} (h : 1 ≤ xs.length ∧ xs.length ≤ 3) : sumP xs xs.length = sum3 xs := by
 rcases list3 h with ⟨c, rfl⟩ | ⟨b, c, rfl⟩ | ⟨a, b, c, rfl⟩
 ·show (0 + c : Int) = 0 + 0 + c
  omega
 ·show (0 + b + c : Int) = 0 + b + c
  omega
 ·show (0 + a + b + c : Int) = a + b + c
  omega
theorem pow9 {p : Nat} (h : p ≤ 3) : (1 : Int) ≤ 9 ^ p ∧ (9 : Int) ^ p ≤ 729 := by
 match p, h with
 | 0, _ | 1, _ | 2, _ | 3, _ => decide
theorem key_in {xs : List Int} (h : Vls xs) : 0 ≤ keyN xs ∧ keyN xs < 9 ^ xs.length := by
 obtain ⟨_, h8, h0⟩ := Vls_bd h
 rw [← keyQ_eq h.1]
 exact keyQ_in h8 h0 _
theorem key_inj {xs ys : List Int} (h : Vls xs) (h2 : Vls ys) (hl : xs.length = ys.length) (e : keyN xs = keyN ys) : xs = ys := by
 obtain ⟨hx, a1, a2, a3, a4⟩ := h
 obtain ⟨hy, b1, b2, b3, b4⟩ := h2
 unfold keyN at e
 have e0 : tri xs 0 = tri ys 0 := by omega
 have e1 : tri xs 1 = tri ys 1 := by omega
 have e2 : tri xs 2 = tri ys 2 := by omega
 rcases list3 hx with ⟨c, rfl⟩ | ⟨b, c, rfl⟩ | ⟨a, b, c, rfl⟩ <;> rcases list3 hy with ⟨c', rfl⟩ | ⟨b', c', rfl⟩ | ⟨a', b', c', rfl⟩ <;> first | (simp at hl; done) | skip
 ·have e2 : c = c' := e2
  rw [e2]
 ·have e1 : b = b' := e1
  have e2 : c = c' := e2
  rw [e1, e2]
 ·have e0 : a = a' := e0
  have e1 : b = b' := e1
  have e2 : c = c' := e2
  rw [e0, e1, e2]
def dgL (p : Nat) (k : Int) : List Int := if p = 1 then [k % 9] else if p = 2 then [k / 9 % 9, k % 9] else [k / 9 / 9 % 9, k / 9 % 9, k % 9]
theorem dgL_len {p : Nat} {k : Int} (hp : 1 ≤ p ∧ p ≤ 3) : (dgL p k).length = p := by
 have : p = 1 ∨ p = 2 ∨ p = 3 := by omega
 rcases this with rfl | rfl | rfl <;> rfl
theorem dgL_tri {p : Nat} {k : Int} (hp : 1 ≤ p ∧ p ≤ 3) (h0 : 0 ≤ k) (hk : k < 9 ^ p) : tri (dgL p k) 0 = k / 81 ∧ tri (dgL p k) 1 = k / 9 % 9 ∧ tri (dgL p k) 2 = k % 9 := by
 have : p = 1 ∨ p = 2 ∨ p = 3 := by omega
 rcases this with rfl | rfl | rfl
 ·have hk : k < 9 := hk
  refine ⟨?_, ?_, rfl⟩
  ·show (0 : Int) = _
   omega
  ·show (0 : Int) = _
   omega
 ·have hk : k < 81 := hk
  refine ⟨?_, rfl, rfl⟩
  show (0 : Int) = _
  omega
 ·have hk : k < 729 := hk
  refine ⟨?_, rfl, rfl⟩
  show k / 9 / 9 % 9 = _
  omega
theorem dgL_bd {p : Nat} {k : Int} (hp : 1 ≤ p ∧ p ≤ 3) : ∀ i, 0 ≤ (dgL p k).getD i 0 ∧ (dgL p k).getD i 0 ≤ 8 := by
 have : p = 1 ∨ p = 2 ∨ p = 3 := by omega
 intro i
 rcases this with rfl | rfl | rfl
 ·match i with
  | 0 => show 0 ≤ k % 9 ∧ k % 9 ≤ 8; omega
  | i + 1 => exact ⟨by simp [dgL], by simp [dgL]⟩
 ·match i with
  | 0 => show 0 ≤ k / 9 % 9 ∧ k / 9 % 9 ≤ 8; omega
  | 1 => show 0 ≤ k % 9 ∧ k % 9 ≤ 8; omega
  | i + 2 => exact ⟨by simp [dgL], by simp [dgL]⟩
 ·match i with
  | 0 => show 0 ≤ k / 9 / 9 % 9 ∧ k / 9 / 9 % 9 ≤ 8; omega
  | 1 => show 0 ≤ k / 9 % 9 ∧ k / 9 % 9 ≤ 8; omega
  | 2 => show 0 ≤ k % 9 ∧ k % 9 ≤ 8; omega
  | i + 3 => exact ⟨by simp [dgL], by simp [dgL]⟩
theorem dgL_key {p : Nat} {k : Int} (hp : 1 ≤ p ∧ p ≤ 3) (h0 : 0 ≤ k) (hk : k < 9 ^ p) : keyN (dgL p k) = k := by
 obtain ⟨e0, e1, e2⟩ := dgL_tri hp h0 hk
 unfold keyN
 rw [e0, e1, e2]; omega
theorem dgL_Vls {p : Nat} {k : Int} (hp : 1 ≤ p ∧ p ≤ 3) (h0 : 0 ≤ k) (hk : k < 9 ^ p) (hs : sum3 (dgL p k) ≤ 8) : Vls (dgL p k) := by
 obtain ⟨e0, e1, e2⟩ := dgL_tri hp h0 hk
 refine ⟨by rw [dgL_len hp]; exact hp, ?_⟩
 unfold sum3 at hs
 rw [e0, e1, e2] at hs ⊢
 exact ⟨by omega, by omega, by omega, hs⟩
theorem key_dgL {xs : List Int} (h : Vls xs) : dgL xs.length (keyN xs) = xs := by
 have hk := key_in h
 have e := dgL_key h.1 hk.1 hk.2
 have hl := dgL_len (k := keyN xs) h.1
 refine key_inj (dgL_Vls h.1 hk.1 hk.2 ?_) h hl e
 obtain ⟨e0, e1, e2⟩ := dgL_tri h.1 hk.1 hk.2
 obtain ⟨_, a1, a2, a3, a4⟩ := h
 unfold sum3
 rw [e0, e1, e2]
 unfold keyN
 generalize tri xs 0 = a at *
 generalize tri xs 1 = b at *
 generalize tri xs 2 = c at *
 have d2 : (81 * a + 9 * b + c) / 81 = a := by omega
 have d3 : (81 * a + 9 * b + c) / 9 = 9 * a + b := by omega
 have d4 : (81 * a + 9 * b + c) % 9 = c := by omega
 have d5 : (9 * a + b) % 9 = b := by omega
 rw [d2, d3, d4, d5]
 exact a4
theorem sC_step {J : List Int → Option (List Int)} {n : Nat} {o : List Int} {i v : Int} (h0 : 0 ≤ i) (h1 : i < ((o.length : Nat) : Int)) (h2 : i ≤ 10) (hv : 0 ≤ v ∧ v ≤ 1000000) : F_s_l4Counted_L1 J (n + 1) o i v = F_s_l4Counted_L1 J n (o.set i.toNat (v % 9)) (i - 1) (v / 9) := by
 rw [F_s_l4Counted_L1, ite_t (decide_eq_true (by omega)), chk_pos ⟨h0, h1⟩, Int.tdiv_eq_ediv_of_nonneg hv.1, Int.tmod_eq_emod_of_nonneg hv.1, chk_pos (by unfold I64; omega), chk_pos (by unfold I64; omega)]
theorem sCounted_eq {p : Nat} (hp : 1 ≤ p ∧ p ≤ 3) {k : Int} (h0 : 0 ≤ k) (hk : k < 9 ^ p) : F_s_l4Counted k (p : Int) = some (dgL p k) := by
 have h9 := pow9 hp.2
 unfold F_s_l4Counted
 rw [chk_pos ⟨by omega, by omega, by omega, by simp only [maxLen]; omega⟩]
 refine jn_is (fun J => J (dgL p k)) (fun J => ?_) rfl
 rw [chk_pos (by unfold I64; omega)]
 have := fuel_ge
 obtain ⟨f, hf⟩ : ∃ f, fuel = f + 4 := ⟨fuel - 4, by omega⟩
 have : p = 1 ∨ p = 2 ∨ p = 3 := by omega
 rw [hf]
 rcases this with rfl | rfl | rfl
 ·rw [sC_step (by decide) (by decide) (by decide) ⟨h0, by omega⟩, F_s_l4Counted_L1, ite_f (by decide)]
  rfl
 ·rw [sC_step (by decide) (by decide) (by decide) ⟨h0, by omega⟩, sC_step (by decide) (by simp) (by decide) ⟨by omega, by omega⟩, F_s_l4Counted_L1, ite_f (by decide)]
  rfl
 ·rw [sC_step (by decide) (by decide) (by decide) ⟨h0, by omega⟩, sC_step (by decide) (by simp) (by decide) ⟨by omega, by omega⟩, sC_step (by decide) (by simp) (by decide) ⟨by omega, by omega⟩, F_s_l4Counted_L1, ite_f (by decide)]
  rfl
theorem sTold_eq {xs : List Int} (hl : 1 ≤ xs.length ∧ xs.length ≤ 3) (hb : ∀ i, 0 ≤ xs.getD i 0 ∧ xs.getD i 0 ≤ 8) : F_s_l4Told xs = some (decide (sum3 xs ≤ 1)) := by
 unfold F_s_l4Told
 refine jn_is (fun J => J (sum3 xs)) (fun J => ?_) rfl
 rw [← sumP_eq hl]
 have hin : ∀ i, i ≤ xs.length → 0 ≤ sumP xs i ∧ sumP xs i ≤ 8 * i := sumP_in (B := 8) fun x hx => by
  obtain ⟨i, hi, rfl⟩ := List.getElem_of_mem hx
  have := hb i
  rw [List.getD_eq_getElem?_getD, List.getElem?_eq_getElem hi] at this
  exact this
 refine loop_up (fun n i (s : Int) => F_s_l4Told_L1 xs J n i s) ((xs.length : Nat) : Int) (fun i => sumP xs i.toNat) _ ?_ ?_ (by omega) fuel (by have := fuel_ge; omega)
 ·intro n i i0 i1
  obtain ⟨k, rfl⟩ := int_nat i0
  have e1 : ((k : Int) + 1).toNat = k + 1 := by omega
  have h1 := hin k (by omega)
  have h2 := hb k
  simp only [e1, Int.toNat_natCast]
  rw [F_s_l4Told_L1, ite_t (decide_eq_true i1), chk_pos ⟨i0, i1⟩, Int.toNat_natCast, chk_pos (by unfold I64; omega), chk_pos (by unfold I64; omega), sumP]
 ·intro n
  simp only [Int.toNat_natCast]
  rw [F_s_l4Told_L1, ite_f (decide_eq_false (by omega))]
theorem sCounts_eq {xs : List Int} (hl : 1 ≤ xs.length ∧ xs.length ≤ 3) (hb : ∀ i, 0 ≤ xs.getD i 0 ∧ xs.getD i 0 ≤ 8) : F_s_l4Counts xs = some (decide (sum3 xs ≤ 8)) := by
 unfold F_s_l4Counts
 rw [ite_f (by rw [decide_eq_true (by omega), decide_eq_true (by omega)]; rfl)]
 refine jn_is (fun J => J (sum3 xs)) (fun J => ?_) rfl
 rw [← sumP_eq hl]
 have hin : ∀ i, i ≤ xs.length → 0 ≤ sumP xs i ∧ sumP xs i ≤ 8 * i := sumP_in (B := 8) fun x hx => by
  obtain ⟨i, hi, rfl⟩ := List.getElem_of_mem hx
  have := hb i
  rw [List.getD_eq_getElem?_getD, List.getElem?_eq_getElem hi] at this
  exact this
 refine loop_up (fun n i (s : Int) => F_s_l4Counts_L1 xs J n i s) ((xs.length : Nat) : Int) (fun i => sumP xs i.toNat) _ ?_ ?_ (by omega) fuel (by have := fuel_ge; omega)
 ·intro n i i0 i1
  obtain ⟨k, rfl⟩ := int_nat i0
  have e1 : ((k : Int) + 1).toNat = k + 1 := by omega
  have h1 := hin k (by omega)
  have h2 := hb k
  simp only [e1, Int.toNat_natCast]
  rw [F_s_l4Counts_L1, ite_t (decide_eq_true i1), chk_pos ⟨i0, i1⟩, Int.toNat_natCast, ite_f (by rw [decide_eq_true (by omega), decide_eq_true (by omega)]; rfl), chk_pos (by unfold I64; omega), chk_pos (by unfold I64; omega), sumP]
 ·intro n
  simp only [Int.toNat_natCast]
  rw [F_s_l4Counts_L1, ite_f (decide_eq_false (by omega))]
theorem sKey_eq4 {xs : List Int} (hl : 1 ≤ xs.length ∧ xs.length ≤ 3) (hb : ∀ i, 0 ≤ xs.getD i 0 ∧ xs.getD i 0 ≤ 8) : F_s_l4Key xs = some (keyN xs) := by
 unfold F_s_l4Key
 refine jn_is (fun J => J (keyN xs)) (fun J => ?_) rfl
 rw [← keyQ_eq hl]
 refine loop_up (fun n i (s : Int) => F_s_l4Key_L1 xs J n i s) ((xs.length : Nat) : Int) (fun i => keyQ xs i.toNat) _ ?_ ?_ (by omega) fuel (by have := fuel_ge; omega)
 ·intro n i i0 i1
  obtain ⟨k, rfl⟩ := int_nat i0
  have e1 : ((k : Int) + 1).toNat = k + 1 := by omega
  have h1 := keyQ_in (fun i => (hb i).2) (fun i => (hb i).1) k
  have h3 := pow9 (p := k) (by omega)
  have h2 := hb k
  simp only [e1, Int.toNat_natCast]
  rw [F_s_l4Key_L1, ite_t (decide_eq_true i1), chk_pos (by unfold I64; omega), chk_pos ⟨i0, i1⟩, Int.toNat_natCast, chk_pos (by unfold I64; omega)]
  simp only [nam]
  rw [chk_pos (by unfold I64; omega), keyQ]
 ·intro n
  simp only [Int.toNat_natCast]
  rw [F_s_l4Key_L1, ite_f (decide_eq_false (by omega))]
theorem Vls_bd2 {xs : List Int} (h : Vls xs) : ∀ i, 0 ≤ xs.getD i 0 ∧ xs.getD i 0 ≤ 8 := fun i => ⟨(Vls_bd h).2.2 i, (Vls_bd h).2.1 i⟩
theorem sKeyV {xs : List Int} (h : Vls xs) : F_s_l4Key xs = some (keyN xs) := sKey_eq4 h.1 (Vls_bd2 h)
theorem lfP_back {x s : List Int} (h : s.length = x.length) : lfP x (lfP x s x.length) x.length = s := by
 refine List.ext_getElem (by rw [lfP_len, h]) fun i h1 h2 => ?_
 have hi : i < x.length := by rw [lfP_len] at h1; exact h1
 have e : ∀ y : List Int, (lfP x y x.length)[i]? = some (x.getD i 0 - y.getD i 0) := fun y => by
  unfold lfP; rw [List.getElem?_map, List.getElem?_range hi]; rfl
 have e1 := e (lfP x s x.length)
 rw [List.getD_eq_getElem?_getD (l := lfP x s x.length), e s] at e1
 rw [List.getElem?_eq_getElem h1] at e1
 have e2 := Option.some.inj e1
 rw [e2]
 have : s.getD i 0 = s[i] := by simp [List.getD_eq_getElem?_getD, h2]
 rw [← this]
 simp only [Option.getD_some]
 omega
theorem sNo_eq {xs s : List Int} (h : Vls xs) (hs : s ∈ splN xs xs.length) : F_s_l4Yes xs s = some (yesL xs s) ∧ F_s_l4No xs s = some (noL xs s) := by
 obtain ⟨h1, h2, h3⟩ := spl_bd h hs
 have hb := (Vls_bd h).1
 have hl := h.1
 refine ⟨sYes_eq hb h2 h3 h1 (by omega), ?_⟩
 unfold F_s_l4No
 have hy := sYes_eq hb h3 (by rw [lfP_back h1]; exact h2) (by rw [lfP_len]) (by omega)
 rw [lfP_back h1] at hy
 rw [bnd1_eq (sRest_eq hb h2 h1), bnd1_eq hy]
 rfl
def okT (p : Nat) (n : Int) (L : List Int) : Prop := L.length = 9 ^ p ∧ ∀ xs, Vls xs → xs.length = p → L.getD (keyN xs).toNat 0 = if ndL xs < n then ndL xs else -1
theorem sWithin_eq {p : Nat} {n : Int} {L xs : List Int} (h : Vls xs) (hp : xs.length = p) (h2 : 2 ≤ sum3 xs) (ht : okT p n L) : F_s_l4Within xs L = some (decide (ndL xs ≤ n)) := by
 have hb := Vls_bd h
 have hl := h.1
 unfold F_s_l4Within
 have h9 := spl_len3 hb.2.1 (r := xs.length) (by omega)
 rw [bnd1_eq (sSplits_eq hb.2.1 hb.2.2 hl.2)]
 simp only [jn]
 have hLl : ((L.length : Nat) : Int) = 9 ^ p := by rw [ht.1]; norm_cast
 have one : ∀ i : Int, 0 ≤ i → i < (((splN xs xs.length).length : Nat) : Int) → ∀ m, F_s_l4Within_L1 xs L (splN xs xs.length) (fun _ => some false) (m + 1) i = bif (decide (ndL (yesL xs ((splN xs xs.length).getD i.toNat [])) < n) && decide (ndL (noL xs ((splN xs xs.length).getD i.toNat [])) < n)) then some true else F_s_l4Within_L1 xs L (splN xs xs.length) (fun _ => some false) m (i + 1) := by
  intro i i0 i1 m
  obtain ⟨k, rfl⟩ := int_nat i0
  rw [Int.toNat_natCast]
  have hm : (splN xs xs.length).getD k [] ∈ splN xs xs.length := getD_mem (by omega)
  rw [F_s_l4Within_L1, ite_t (decide_eq_true i1), Int.toNat_natCast]
  generalize (splN xs xs.length).getD k [] = s at hm ⊢
  obtain ⟨vy, vn⟩ := yes_Vls h hm
  obtain ⟨ey, en⟩ := sNo_eq h hm
  have ly : (yesL xs s).length = p := by unfold yesL; rw [mvP_len, (spl_bd h hm).1, hp]
  have ln : (noL xs s).length = p := by unfold noL; rw [mvP_len, lfP_len, hp]
  have ky := key_in vy
  have kn := key_in vn
  rw [ly] at ky
  rw [ln] at kn
  have gy := ht.2 _ vy ly
  have gn := ht.2 _ vn ln
  have ny := ndL_in vy
  have nn := ndL_in vn
  refine jn_is (fun J => J (decide (ndL (yesL xs s) < n) && decide (ndL (noL xs s) < n))) (fun J => ?_) ?_
  ·rw [chk_pos ⟨i0, i1⟩, bnd1_eq ey, bnd1_eq (sKeyV vy), chk_pos ⟨by omega, by omega⟩, gy]
   by_cases c : ndL (yesL xs s) < n
   ·rw [if_pos c, ite_t (decide_eq_true (by omega)), bnd1_eq en, bnd1_eq (sKeyV vn), chk_pos ⟨by omega, by omega⟩, gn, decide_eq_true c, Bool.true_and]
    by_cases c2 : ndL (noL xs s) < n
    ·rw [if_pos c2, decide_eq_true c2, decide_eq_true (by omega)]
    ·rw [if_neg c2, decide_eq_false c2, decide_eq_false (by omega)]
   ·rw [if_neg c, ite_f (decide_eq_false (by omega)), decide_eq_false c]; rfl
  ·rw [chk_pos (by unfold I64; omega)]
 rcases loop_all (F_s_l4Within_L1 xs L (splN xs xs.length) (fun _ => some false)) (((splN xs xs.length).length : Nat) : Int) (fun i => !(decide (ndL (yesL xs ((splN xs xs.length).getD i.toNat [])) < n) && decide (ndL (noL xs ((splN xs xs.length).getD i.toNat [])) < n))) (some true) (some false) (fun m i i0 i1 hh => by
   rw [one i i0 i1 m]
   rw [Bool.not_eq_true'] at hh
   rw [hh]; rfl) (fun m i i0 i1 hh => by
   rw [one i i0 i1 m]
   rw [Bool.not_eq_false'] at hh
   rw [hh]; rfl) (fun m => by
   rw [F_s_l4Within_L1, ite_f (decide_eq_false (by omega))]) (by omega) fuel (by have := fuel_ge; omega) with ⟨e, hh⟩ | ⟨e, i, i0, i1, hh, _⟩
 ·rw [e]
  congr 1
  symm
  rw [decide_eq_false_iff_not, ← ndL_within h h2]
  rintro ⟨s, hs, h3, h4⟩
  obtain ⟨k, hk, rfl⟩ := List.getElem_of_mem hs
  have := hh (k : Int) (by omega) (by omega)
  rw [Int.toNat_natCast, List.getD_eq_getElem?_getD, List.getElem?_eq_getElem hk, Bool.not_eq_true', Bool.and_eq_false_iff] at this
  rcases this with this | this
  ·exact absurd h3 (of_decide_eq_false this)
  ·exact absurd h4 (of_decide_eq_false this)
 ·rw [e]
  congr 1
  symm
  rw [decide_eq_true_iff, ← ndL_within h h2]
  rw [Bool.not_eq_false', Bool.and_eq_true, decide_eq_true_iff, decide_eq_true_iff] at hh
  exact ⟨_, getD_mem (by omega), hh⟩
def okQ (p : Nat) (n : Int) (o : List Int) : Prop := o.length ≤ 729 ∧ ∀ k, k ∈ o ↔ ∃ xs, Vls xs ∧ xs.length = p ∧ 2 ≤ sum3 xs ∧ n ≤ ndL xs ∧ k = keyN xs
def tb0 (p : Nat) (i : Nat) : List Int := (List.range (9 ^ p)).map fun (j : Nat) => if j < i then (if sum3 (dgL p (j : Int)) ≤ 1 then 0 else -1) else 0
def qB0 (p : Nat) (j : Nat) : Bool := !(decide (sum3 (dgL p (j : Int)) ≤ 1)) && decide (sum3 (dgL p (j : Int)) ≤ 8)
theorem tb0_len {p i : Nat} : (tb0 p i).length = 9 ^ p := by simp [tb0]
theorem tb0_set {p i : Nat} (x : Int) (hx : x = if sum3 (dgL p (i : Int)) ≤ 1 then 0 else -1) : (tb0 p i).set i x = tb0 p (i + 1) := by
 refine List.ext_getElem? fun j => ?_
 by_cases hj : j < 9 ^ p
 ·have e : ∀ k, (tb0 p k)[j]? = some (if j < k then (if sum3 (dgL p (j : Int)) ≤ 1 then 0 else -1) else 0) := fun k => by
   unfold tb0; rw [List.getElem?_map, List.getElem?_range hj]; rfl
  by_cases c : i = j
  ·subst c
   rw [List.getElem?_set_self (by rw [tb0_len]; exact hj), e, if_pos (by omega), hx]
  ·rw [List.getElem?_set_ne c, e, e]
   by_cases c2 : j < i
   ·rw [if_pos c2, if_pos (show j < i + 1 by omega)]
   ·rw [if_neg c2, if_neg (show ¬ j < i + 1 by omega)]
 ·rw [List.getElem?_eq_none (by rw [List.length_set, tb0_len]; omega), List.getElem?_eq_none (by rw [tb0_len]; omega)]
theorem s4_start {p : Nat} (hp : 1 ≤ p ∧ p ≤ 3) (J : List Int → List Int → Option (List Int)) : F_s4N_L2 (p : Int) (9 ^ p) J fuel (List.replicate (Int.toNat (9 ^ p)) 0) [] 0 = J (tb0 p (9 ^ p)) (fl (qB0 p) (9 ^ p)) := by
 have h9 := pow9 hp.2
 have hc : ((9 ^ p : Nat) : Int) = (9 : Int) ^ p := by norm_cast
 have key := loop_up (fun n i (s : List Int × List Int) => F_s4N_L2 (p : Int) (9 ^ p) J n s.1 s.2 i) ((9 ^ p : Nat) : Int) (fun i => (tb0 p i.toNat, fl (qB0 p) i.toNat)) (J (tb0 p (9 ^ p)) (fl (qB0 p) (9 ^ p))) ?_ ?_ (by omega) fuel (by have := fuel_ge; omega)
 ·have e : List.replicate (Int.toNat (9 ^ p)) (0 : Int) = tb0 p 0 := by
   refine List.ext_getElem (by rw [tb0_len, List.length_replicate]; omega) fun i h1 h2 => by simp [tb0]
  rw [e]
  exact key
 ·intro n i i0 i1
  obtain ⟨k, rfl⟩ := int_nat i0
  have e1 : ((k : Int) + 1).toNat = k + 1 := by omega
  have hl := fl_len (qB0 p) k
  simp only [e1, Int.toNat_natCast]
  have hlen := dgL_len (k := (k : Int)) hp
  have hbd := dgL_bd (k := (k : Int)) hp
  rw [F_s4N_L2, ite_t (decide_eq_true (by omega))]
  refine jn_is (fun J2 => J2 (tb0 p (k + 1)) (fl (qB0 p) (k + 1))) (fun J2 => ?_) ?_
  ·rw [chk_pos ⟨i0, by rw [tb0_len]; omega⟩, bnd1_eq (sCounted_eq hp i0 (by omega)), bnd1_eq (sTold_eq (by omega) hbd), Int.toNat_natCast]
   by_cases c : sum3 (dgL p (k : Int)) ≤ 1
   ·rw [ite_t (decide_eq_true c), List.set_set, tb0_set 0 (by rw [if_pos c]), fl_no (by unfold qB0; rw [decide_eq_true c]; rfl)]
   ·rw [ite_f (decide_eq_false c), bnd1_eq (sCounts_eq (by omega) hbd), tb0_set (-1) (by rw [if_neg c])]
    by_cases c2 : sum3 (dgL p (k : Int)) ≤ 8
    ·rw [ite_t (decide_eq_true c2), chk_pos ⟨by omega, by simp only [maxLen]; omega⟩, fl_yes (by unfold qB0; rw [decide_eq_false c, decide_eq_true c2]; rfl)]
    ·rw [ite_f (decide_eq_false c2), fl_no (by unfold qB0; rw [decide_eq_false c, decide_eq_false c2]; rfl)]
  ·rw [chk_pos (by unfold I64; omega)]
 ·intro n
  simp only [Int.toNat_natCast]
  rw [F_s4N_L2, ite_f (decide_eq_false (by omega))]
theorem s4_ok {p : Nat} (hp : 1 ≤ p ∧ p ≤ 3) : okT p 1 (tb0 p (9 ^ p)) ∧ okQ p 1 (fl (qB0 p) (9 ^ p)) := by
 have h9 := pow9 hp.2
 have hc : ((9 ^ p : Nat) : Int) = (9 : Int) ^ p := by norm_cast
 refine ⟨⟨tb0_len, fun xs h hl => ?_⟩, by have := fl_len (qB0 p) (9 ^ p); omega, fun k => ?_⟩
 ·have hk := key_in h
  have hd := key_dgL h
  rw [hl] at hk hd
  have e : (tb0 p (9 ^ p)).getD (keyN xs).toNat 0 = if sum3 xs ≤ 1 then 0 else -1 := by
   have hlt : (keyN xs).toNat < 9 ^ p := by omega
   unfold tb0
   rw [List.getD_eq_getElem?_getD, List.getElem?_map, List.getElem?_range hlt]
   show (if (keyN xs).toNat < 9 ^ p then _ else _) = _
   rw [if_pos hlt, show (((keyN xs).toNat : Nat) : Int) = keyN xs by omega, hd]
  rw [e]
  have hin := ndL_in h
  by_cases c : sum3 xs ≤ 1
  ·have e0 : ndL xs = 0 := ned_told h.2 c
   rw [if_pos c, e0, if_pos (by omega)]
  ·have := (ned_two h.2 (show 2 ≤ tri xs 0 + tri xs 1 + tri xs 2 by unfold sum3 at c; omega)).1
   rw [if_neg c, if_neg (show ¬ ndL xs < 1 by unfold ndL; omega)]
 ·rw [mem_fl]
  constructor
  ·rintro ⟨i, hi, h1, rfl⟩
   unfold qB0 at h1
   rw [Bool.and_eq_true, Bool.not_eq_true', decide_eq_false_iff_not, decide_eq_true_iff] at h1
   have hv := dgL_Vls hp (k := (i : Int)) (by omega) (by omega) h1.2
   have hs : 2 ≤ sum3 (dgL p (i : Int)) := by omega
   exact ⟨dgL p (i : Int), hv, dgL_len hp, hs, (ned_two hv.2 hs).1.1, (dgL_key hp (by omega) (by omega)).symm⟩
  ·rintro ⟨xs, h, hl, h2, h3, rfl⟩
   have hk := key_in h
   have hd := key_dgL h
   rw [hl] at hk hd
   refine ⟨(keyN xs).toNat, by omega, ?_, by omega⟩
   unfold qB0
   rw [show (((keyN xs).toNat : Nat) : Int) = keyN xs by omega, hd, decide_eq_false (by omega), decide_eq_true (by have := h.2.2.2.2; unfold sum3; omega)]; rfl
def wonQ (p : Nat) (n : Int) (k : Int) : Bool := decide (ndL (dgL p k) ≤ n)
theorem s4_L4 {p : Nat} {n0 : Int} {o L : List Int} (hp : 1 ≤ p ∧ p ≤ 3) (ho : okQ p n0 o) (ht : okT p n0 L) (J : List Int → List Int → Option (List Int)) : F_s4N_L4 (p : Int) L o J fuel [] [] 0 = J (o.filter (wonQ p n0)) (o.filter fun k => !(wonQ p n0 k)) := by
 have h9 := pow9 hp.2
 have hol := ho.1
 have key := loop_up (fun n i (s : List Int × List Int) => F_s4N_L4 (p : Int) L o J n s.1 s.2 i) ((o.length : Nat) : Int) (fun i => ((o.take i.toNat).filter (wonQ p n0), (o.take i.toNat).filter fun k => !(wonQ p n0 k))) (J (o.filter (wonQ p n0)) (o.filter fun k => !(wonQ p n0 k))) ?_ ?_ (by omega) fuel (by have := fuel_ge; omega)
 ·simpa using key
 ·intro n i i0 i1
  obtain ⟨k, rfl⟩ := int_nat i0
  have e1 : ((k : Int) + 1).toNat = k + 1 := by omega
  have hk : k < o.length := by omega
  simp only [e1, Int.toNat_natCast]
  have hm : o.getD k 0 ∈ o := getD_mem hk
  have q1 := List.length_filter_le (wonQ p n0) (o.take k)
  have q2 := List.length_filter_le (fun k => !(wonQ p n0 k)) (o.take k)
  rw [List.length_take] at q1 q2
  rw [F_s4N_L4, ite_t (decide_eq_true i1), chk_pos ⟨i0, i1⟩, take_getD (d := 0) hk, List.filter_append, List.filter_append, List.filter_cons, List.filter_nil, List.filter_cons, List.filter_nil, Int.toNat_natCast]
  obtain ⟨xs, v, hl, h2, h3, e⟩ := (ho.2 _).1 hm
  have hki := key_in v
  have hd := key_dgL v
  rw [hl] at hki hd
  have hw : wonQ p n0 (o.getD k 0) = decide (ndL xs ≤ n0) := by unfold wonQ; rw [e, hd]
  rw [e] at hw ⊢
  rw [bnd1_eq (sCounted_eq hp hki.1 hki.2), hd, bnd1_eq (sWithin_eq v hl h2 ht), hw]
  by_cases c : ndL xs ≤ n0
  ·rw [ite_t (decide_eq_true c), decide_eq_true c, chk_pos ⟨by omega, by simp only [maxLen]; omega⟩, chk_pos (by unfold I64; omega), if_pos rfl, if_neg (by simp), List.append_nil]
  ·rw [ite_f (decide_eq_false c), decide_eq_false c, chk_pos ⟨by omega, by simp only [maxLen]; omega⟩, chk_pos (by unfold I64; omega), if_neg (by simp), if_pos (show (!false) = true from rfl), List.append_nil]
 ·intro n
  simp only [Int.toNat_natCast, List.take_length]
  rw [F_s4N_L4, ite_f (decide_eq_false (by omega))]
def setA (n : Int) (L : List Int) (ts : List Int) : List Int := ts.foldl (fun o t => o.set t.toNat n) L
theorem setA_len (n : Int) : ∀ (ts L : List Int), (setA n L ts).length = L.length
 | [], L => rfl
 | t :: ts, L => by
  show (setA n (L.set t.toNat n) ts).length = _
  rw [setA_len n ts, List.length_set]
theorem setA_get (n : Int) {k : Int} (h0 : 0 ≤ k) : ∀ (ts L : List Int), (∀ t ∈ ts, 0 ≤ t) → k < ((L.length : Nat) : Int) → (setA n L ts).getD k.toNat 0 = if k ∈ ts then n else L.getD k.toNat 0
 | [], L, _, _ => by simp [setA]
 | t :: ts, L, h, hk => by
  have ht := h t (by simp)
  show (setA n (L.set t.toNat n) ts).getD k.toNat 0 = _
  rw [setA_get n h0 ts _ (fun u hu => h u (by simp [hu])) (by rw [List.length_set]; exact hk)]
  by_cases h1 : k ∈ ts
  ·rw [if_pos h1, if_pos (by simp [h1])]
  ·rw [if_neg h1]
   by_cases h2 : k = t
   ·subst h2
    rw [if_pos (by simp), List.getD_eq_getElem?_getD, List.getElem?_set_self (by omega)]; rfl
   ·rw [if_neg (by simp [h1, h2]), List.getD_eq_getElem?_getD, List.getElem?_set_ne (by omega), ← List.getD_eq_getElem?_getD]
theorem s4_L5 {n0 : Int} {ts L : List Int} (hl : ts.length ≤ 1000) (hb : ∀ t ∈ ts, 0 ≤ t ∧ t < ((L.length : Nat) : Int)) (J : List Int → Option (List Int)) : F_s4N_L5 n0 ts J fuel L 0 = J (setA n0 L ts) := by
 have key := loop_up (fun n i (s : List Int) => F_s4N_L5 n0 ts J n s i) ((ts.length : Nat) : Int) (fun i => setA n0 L (ts.take i.toNat)) (J (setA n0 L ts)) ?_ ?_ (by omega) fuel (by have := fuel_ge; omega)
 ·exact key
 ·intro n i i0 i1
  obtain ⟨k, rfl⟩ := int_nat i0
  have e1 : ((k : Int) + 1).toNat = k + 1 := by omega
  have hk : k < ts.length := by omega
  have hbk := hb _ (getD_mem (d := 0) hk)
  simp only [e1, Int.toNat_natCast]
  rw [F_s4N_L5, ite_t (decide_eq_true i1), chk_pos ⟨i0, i1⟩, Int.toNat_natCast, setA_len, chk_pos hbk, chk_pos (by unfold I64; omega), take_getD (d := 0) hk]
  unfold setA
  rw [List.foldl_append]; rfl
 ·intro n
  simp only [Int.toNat_natCast, List.take_length]
  rw [F_s4N_L5, ite_f (decide_eq_false (by omega))]
theorem sNeeds_ok {p : Nat} (hp : 1 ≤ p ∧ p ≤ 3) : ∃ L : List Int, F_s4N (p : Int) = some L ∧ L.length = 9 ^ p ∧ ∀ xs, Vls xs → xs.length = p → L.getD (keyN xs).toNat 0 = ndL xs := by
 have h9 := pow9 hp.2
 have hc : ((9 ^ p : Nat) : Int) = (9 : Int) ^ p := by norm_cast
 unfold F_s4N
 refine jn_q (Q0 := fun o => ∃ L : List Int, o = some L ∧ L.length = 9 ^ p ∧ ∀ xs, Vls xs → xs.length = p → L.getD (keyN xs).toNat 0 = ndL xs) (fun J => J (9 ^ p)) (fun J => ?_) ?_
 ·refine loop_up (fun n i (s : Int) => F_s4N_L1 (p : Int) J n i s) (p : Int) (fun i => 9 ^ i.toNat) _ ?_ ?_ (by omega) fuel (by have := fuel_ge; omega)
  ·intro n i i0 i1
   obtain ⟨k, rfl⟩ := int_nat i0
   have e1 : ((k : Int) + 1).toNat = k + 1 := by omega
   have hk := pow9 (p := k) (by omega)
   simp only [e1, Int.toNat_natCast]
   rw [F_s4N_L1, ite_t (decide_eq_true i1), chk_pos (by unfold I64; omega), chk_pos (by unfold I64; omega), Int.pow_succ]
  ·intro n
   simp only [Int.toNat_natCast]
   rw [F_s4N_L1, ite_f (decide_eq_false (by omega))]
 rw [chk_pos ⟨by omega, by omega, by omega, by simp only [maxLen]; omega⟩]
 refine jn_q (Q0 := fun o => ∃ L : List Int, o = some L ∧ L.length = 9 ^ p ∧ ∀ xs, Vls xs → xs.length = p → L.getD (keyN xs).toNat 0 = ndL xs) (fun J => J (tb0 p (9 ^ p)) (fl (qB0 p) (9 ^ p))) (fun J => s4_start hp J) ?_
 simp only [jn]
 obtain ⟨s1, s2⟩ := s4_ok hp
 refine loop_m (fun n (s : List Int × List Int × Int) => F_s4N_L3 (p : Int) (fun o22b => some o22b) n s.1 s.2.1 s.2.2) (fun s => 1 ≤ s.2.2 ∧ s.2.2 ≤ 10 ∧ okT p s.2.2 s.1 ∧ okQ p s.2.2 s.2.1) (fun s => (10 - s.2.2).toNat) (fun o => ∃ L : List Int, o = some L ∧ L.length = 9 ^ p ∧ ∀ xs, Vls xs → xs.length = p → L.getD (keyN xs).toNat 0 = ndL xs) ?_ fuel (_, _, 1) ⟨Int.le_refl _, by dsimp only; omega, s1, s2⟩ (by have := fuel_ge; dsimp only; omega)
 rintro f ⟨L, o, n⟩ ⟨n1, n2, ht, ho⟩
 dsimp only at n1 n2 ho ht ⊢
 have hol := ho.1
 rw [F_s4N_L3]
 by_cases hcc : 0 < o.length
 ·left
  have hn9 : n ≤ 9 := by
   obtain ⟨xs, v, _, _, h3, _⟩ := (ho.2 _).1 (getD_mem (d := 0) hcc)
   have := ndL_in v; omega
  have hdl := List.length_filter_le (wonQ p n) o
  have hdl2 := List.length_filter_le (fun k => !(wonQ p n k)) o
  have hwon : ∀ xs, Vls xs → xs.length = p → wonQ p n (keyN xs) = decide (ndL xs ≤ n) := fun xs v hl => by
   have := key_dgL v
   rw [hl] at this
   unfold wonQ; rw [this]
  have hLl : ((L.length : Nat) : Int) = 9 ^ p := by rw [ht.1]; norm_cast
  have hkb : ∀ t ∈ o.filter (wonQ p n), 0 ≤ t ∧ t < ((L.length : Nat) : Int) := fun t h1 => by
   obtain ⟨xs, v, hl, _, _, e⟩ := (ho.2 t).1 (List.mem_filter.1 h1).1
   have := key_in v
   rw [hl] at this
   omega
  refine ⟨(setA n L (o.filter (wonQ p n)), o.filter (fun k => !(wonQ p n k)), n + 1), ⟨by dsimp only; omega, by dsimp only; omega, ⟨by rw [setA_len]; exact ht.1, fun xs v hl => ?_⟩, by dsimp only; omega, fun k => ?_⟩, by dsimp only; omega, ?_⟩
  ·have hki := key_in v
   rw [hl] at hki
   rw [setA_get n hki.1 _ _ (fun t h1 => (hkb t h1).1) (by omega), ht.2 xs v hl]
   by_cases e : keyN xs ∈ o.filter (wonQ p n)
   ·rw [List.mem_filter, hwon xs v hl, decide_eq_true_iff] at e
    obtain ⟨ys, vy, hly, _, h4, h5⟩ := (ho.2 _).1 e.1
    have := key_inj v vy (by omega) h5
    subst this
    rw [if_pos (List.mem_filter.2 ⟨e.1, by rw [hwon xs v hl, decide_eq_true_iff]; exact e.2⟩), if_pos (by dsimp only; omega)]
    omega
   ·rw [if_neg e]
    by_cases h2 : ndL xs < n
    ·rw [if_pos h2, if_pos (by dsimp only; omega)]
    ·rw [if_neg h2]
     have h3 : 2 ≤ sum3 xs := by
      apply Classical.byContradiction
      intro h3
      have : ndL xs = 0 := ned_told v.2 (by unfold sum3 at h3; omega)
      omega
     have h4 : ndL xs ≠ n := fun h4 => e (List.mem_filter.2 ⟨(ho.2 _).2 ⟨xs, v, hl, h3, by omega, rfl⟩, by rw [hwon xs v hl, decide_eq_true_iff]; omega⟩)
     rw [if_neg (by dsimp only; omega)]
  ·dsimp only
   rw [List.mem_filter]
   constructor
   ·rintro ⟨h1, h2⟩
    obtain ⟨xs, v, hl, h3, h4, rfl⟩ := (ho.2 k).1 h1
    rw [hwon xs v hl, Bool.not_eq_true', decide_eq_false_iff_not] at h2
    exact ⟨xs, v, hl, h3, by omega, rfl⟩
   ·rintro ⟨xs, v, hl, h3, h4, rfl⟩
    refine ⟨(ho.2 _).2 ⟨xs, v, hl, h3, by omega, rfl⟩, ?_⟩
    rw [hwon xs v hl, Bool.not_eq_true', decide_eq_false_iff_not]; omega
  ·dsimp only
   rw [ite_t (decide_eq_true (by omega))]
   refine jn_is (fun J2 => J2 (setA n L (o.filter (wonQ p n))) (o.filter fun k => !(wonQ p n k))) (fun J2 => ?_) (by rw [chk_pos (by unfold I64; omega)])
   refine jn_is (fun J3 => J3 (o.filter (wonQ p n)) (o.filter fun k => !(wonQ p n k))) (fun J3 => s4_L4 hp ho ht J3) ?_
   exact jn_is (fun J3 => J3 (setA n L (o.filter (wonQ p n)))) (fun J3 => s4_L5 (by omega) hkb J3) rfl
 ·right
  rw [ite_f (decide_eq_false (by omega))]
  refine ⟨L, rfl, ht.1, fun xs v hl => ?_⟩
  have e : o = [] := List.length_eq_zero_iff.1 (by omega)
  subst e
  rw [ht.2 xs v hl]
  by_cases h2 : ndL xs < n
  ·rw [if_pos h2]
  ·exfalso
   have h3 : 2 ≤ sum3 xs := by
    apply Classical.byContradiction
    intro h3
    have : ndL xs = 0 := ned_told v.2 (by unfold sum3 at h3; omega)
    have := ndL_in v
    omega
   have := (ho.2 (keyN xs)).2 ⟨xs, v, hl, h3, by omega, rfl⟩
   cases this
def cts (xs : List Int) (m : Int) : List Int := ctP xs m xs.length
def needS (xs : List Int) (m : Int) : Int := ndL (cts xs m)
theorem flt_cP (p : Nat → Bool) : ∀ k, ((List.range k).filter p).length = cP p k
 | 0 => rfl
 | k + 1 => by
  rw [List.range_succ, List.filter_append, List.length_append, flt_cP p k, cP, List.filter_cons]
  cases p k <;> rfl
theorem cts_at {xs : List Int} {m : Int} {v : Nat} (h : v ≤ m.toNat) : (cts xs m).getD v 0 = ((cP (fun i => xs.getD i 0 == (v : Int)) xs.length : Nat) : Int) := by
 unfold cts
 rw [ctP_at h, flt_cP]
theorem cts_len {xs : List Int} {m : Int} : (cts xs m).length = m.toNat + 1 := ctP_len
def ysC (q : Int) (xs : List Int) (v : Nat) : Nat := cP (fun i => xs.getD i 0 == (v : Int) && hasB q (i : Int)) xs.length
def nsC (q : Int) (xs : List Int) (v : Nat) : Nat := cP (fun i => xs.getD i 0 == (v : Int) && !(hasB q (i : Int))) xs.length
theorem cP_split (p q : Nat → Bool) : ∀ k, cP (fun i => p i && q i) k + cP (fun i => p i && !(q i)) k = cP p k
 | 0 => rfl
 | k + 1 => by
  have := cP_split p q k
  simp only [cP]
  cases p k <;> cases q k <;> simp <;> omega
def ysL (q : Int) (xs : List Int) (m : Int) : List Int := (List.range (m.toNat + 1)).map fun (v : Nat) => ((ysC q xs v : Nat) : Int)
theorem ysL_at {q : Int} {xs : List Int} {m : Int} {v : Nat} (h : v ≤ m.toNat) : (ysL q xs m).getD v 0 = ((ysC q xs v : Nat) : Int) := by
 unfold ysL; rw [List.getD_eq_getElem?_getD, List.getElem?_map, List.getElem?_range (by omega)]; rfl
theorem cts_ans {xs : List Int} {m q : Int} (h : okS xs m) (y : Bool) {v : Nat} (hv : v ≤ m.toNat) :
  (cts (ansN m q y xs) m).getD v 0 = (((bif y then ysC q xs v else nsC q xs v) + (if 1 ≤ v then (bif y then nsC q xs (v - 1) else ysC q xs (v - 1)) else 0) : Nat) : Int) := by
 rw [cts_at hv, ansN_len]
 congr 1
 have key : ∀ k, k ≤ xs.length → cP (fun i => (ansN m q y xs).getD i 0 == (v : Int)) k = (bif y then cP (fun i => xs.getD i 0 == (v : Int) && hasB q (i : Int)) k else cP (fun i => xs.getD i 0 == (v : Int) && !(hasB q (i : Int))) k) + (if 1 ≤ v then (bif y then cP (fun i => xs.getD i 0 == ((v - 1 : Nat) : Int) && !(hasB q (i : Int))) k else cP (fun i => xs.getD i 0 == ((v - 1 : Nat) : Int) && hasB q (i : Int)) k) else 0) := by
  intro k
  induction k with
  | zero => intro _; cases y <;> simp [cP]
  | succ k ih =>
   intro hk
   have hx := h.2.2.2 k
   have hm := h.2.1
   have ih := ih (by omega)
   have e : ((ansN m q y xs).getD k 0 == (v : Int)) = bif hasB q (k : Int) == y then xs.getD k 0 == (v : Int) else decide (1 ≤ v) && (xs.getD k 0 == ((v - 1 : Nat) : Int)) := by
    rw [ans_getD (by omega)]
    unfold falseB lieN
    cases hq : (hasB q (k : Int) == y) with
    | true => rw [Bool.not_true, if_neg (by simp)]; rfl
    | false =>
     rw [Bool.not_false, cond_false, Bool.eq_iff_iff, beq_iff_eq, Bool.and_eq_true, decide_eq_true_iff, beq_iff_eq]
     by_cases h0 : xs.getD k 0 ≥ 0
     ·rw [if_pos ⟨h0, rfl⟩]
      by_cases c : xs.getD k 0 + 1 > m
      ·rw [if_pos c]; omega
      ·rw [if_neg c]; omega
     ·rw [if_neg (fun hh => h0 hh.1)]; omega
   simp only [cP]
   rw [ih, e]
   by_cases c : 1 ≤ v
   ·rw [if_pos c, if_pos c, decide_eq_true c, Bool.true_and]
    cases y <;> cases hasB q (k : Int) <;> cases xs.getD k 0 == (v : Int) <;> cases xs.getD k 0 == ((v - 1 : Nat) : Int) <;> simp <;> omega
   ·rw [if_neg c, if_neg c, decide_eq_false c, Bool.false_and]
    cases y <;> cases hasB q (k : Int) <;> cases xs.getD k 0 == (v : Int) <;> simp
 exact key _ (Nat.le_refl _)
theorem ys_mem {q : Int} {xs : List Int} {m : Int} : ysL q xs m ∈ splN (cts xs m) (cts xs m).length := by
 refine mem_spl.2 ⟨by rw [cts_len]; simp [ysL], fun i hi => ?_⟩
 rw [cts_len] at hi
 rw [ysL_at (by omega), cts_at (by omega)]
 have := cP_split (fun j => xs.getD j 0 == (i : Int)) (fun j => hasB q (j : Int)) xs.length
 unfold ysC
 omega
theorem ext_getD {a b : List Int} (hl : a.length = b.length) (h : ∀ i, i < a.length → a.getD i 0 = b.getD i 0) : a = b := by
 refine List.ext_getElem hl fun i h1 h2 => ?_
 have := h i h1
 simpa [List.getD_eq_getElem?_getD, h1, h2] using this
theorem lfP_at {x s : List Int} {k i : Nat} (h : i < k) : (lfP x s k).getD i 0 = x.getD i 0 - s.getD i 0 := by
 unfold lfP; rw [List.getD_eq_getElem?_getD, List.getElem?_map, List.getElem?_range h]; rfl
theorem lf_cts {q : Int} {xs : List Int} {m : Int} {i : Nat} (hi : i ≤ m.toNat) : (lfP (cts xs m) (ysL q xs m) (cts xs m).length).getD i 0 = ((nsC q xs i : Nat) : Int) := by
 rw [lfP_at (by rw [cts_len]; omega), ysL_at hi, cts_at hi]
 have := cP_split (fun j => xs.getD j 0 == (i : Int)) (fun j => hasB q (j : Int)) xs.length
 unfold ysC nsC
 omega
theorem ys_len {q : Int} {xs : List Int} {m : Int} : (ysL q xs m).length = m.toNat + 1 := by simp [ysL]
theorem cts_yes {xs : List Int} {m q : Int} (h : okS xs m) : cts (ansN m q true xs) m = yesL (cts xs m) (ysL q xs m) := by
 refine ext_getD (by unfold yesL; rw [mvP_len, ys_len, cts_len]) fun i hi => ?_
 rw [cts_len] at hi
 unfold yesL
 rw [cts_ans h true (by omega), mvP_at (by rw [ys_len]; omega), ysL_at (by omega), cts_len, cond_true, cond_true]
 by_cases c : 1 ≤ i
 ·have := lf_cts (q := q) (xs := xs) (m := m) (i := i - 1) (by omega)
  rw [cts_len] at this
  rw [if_pos c, if_pos ⟨c, hi⟩, this]; omega
 ·rw [if_neg c, if_neg (fun hh => c hh.1)]; omega
theorem cts_no {xs : List Int} {m q : Int} (h : okS xs m) : cts (ansN m q false xs) m = noL (cts xs m) (ysL q xs m) := by
 refine ext_getD (by unfold noL; rw [mvP_len, lfP_len, cts_len, cts_len]) fun i hi => ?_
 rw [cts_len] at hi
 unfold noL
 rw [cts_ans h false (by omega), mvP_at (by rw [lfP_len, cts_len]; omega), lf_cts (by omega), cond_false, cond_false]
 by_cases c : 1 ≤ i
 ·rw [if_pos c, if_pos ⟨c, by rw [cts_len]; omega⟩, ysL_at (by omega)]; omega
 ·rw [if_neg c, if_neg (fun hh => c hh.1)]; omega
theorem need_ans {xs : List Int} {m q : Int} (h : okS xs m) (hv : Vls (cts xs m)) : needS xs m ≤ 1 + max (needS (ansN m q true xs) m) (needS (ansN m q false xs) m) := by
 obtain ⟨i, j, k, ⟨hi, hj, hk⟩, ⟨y0, y1, y2⟩, n0, n1, n2⟩ := tri_split hv (ys_mem (q := q))
 unfold needS
 rw [cts_yes h, cts_no h]
 unfold ndL
 rw [y0, y1, y2, n0, n1, n2]
 rcases ned_all hv.2 hi hj hk with e | e <;> omega
theorem cts_sum {xs : List Int} {m : Int} (h : isStateN xs m = true) : sum3 (cts xs m) = (((openN xs).length : Nat) : Int) := by
 have hs := state_len h
 have := ct_sum h xs.length (Nat.le_refl _)
 rw [← sumP_eq (by rw [cts_len]; omega), cts_len]
 exact this
theorem cts_Vls {xs : List Int} {m : Int} (h : isStateN xs m = true) (h8 : (openN xs).length ≤ 8) : Vls (cts xs m) := by
 have hs := state_len h
 have hsum := cts_sum h
 have hl : 1 ≤ (cts xs m).length ∧ (cts xs m).length ≤ 3 := by rw [cts_len]; omega
 have h0 : ∀ i, 0 ≤ (cts xs m).getD i 0 := fun i => by
  by_cases hi : i ≤ m.toNat
  ·rw [cts_at hi]; omega
  ·rw [List.getD_eq_getElem?_getD, List.getElem?_eq_none (by rw [cts_len]; omega)]; simp
 refine ⟨hl, ?_⟩
 unfold sum3 at hsum
 rcases list3 hl with ⟨c, e⟩ | ⟨b, c, e⟩ | ⟨a, b, c, e⟩ <;> rw [e] at hsum h0 ⊢
 ·have := h0 0
  exact ⟨Int.le_refl _, Int.le_refl _, this, by omega⟩
 ·have := h0 0
  have := h0 1
  exact ⟨Int.le_refl _, h0 0, h0 1, by omega⟩
 ·exact ⟨h0 0, h0 1, h0 2, by omega⟩
theorem need_told {xs : List Int} {m : Int} (h : isStateN xs m = true) (hv : Vls (cts xs m)) : (openN xs).length < 2 ↔ needS xs m = 0 := by
 have hs := cts_sum h
 have hv2 := hv.2
 unfold sum3 at hs
 constructor
 ·intro h2
  exact ned_told hv2 (by omega)
 ·intro h0
  apply Classical.byContradiction
  intro hc
  have := (ned_two hv2 (by omega)).1.1
  unfold needS ndL at h0
  omega
def okN (xs : List Int) (m : Int) : Prop := isStateN xs m = true ∧ Vls (cts xs m)
def okD (l : List (K3 × Int)) : Prop := ∀ a b c, V3 a b c → tget l (a, b, c) = some (nedI a b c)
theorem iOf_eq {l : List (K3 × Int)} (hl : okD l) {xs : List Int} (h : Vls xs) : F_i_needer_of (fun u0 u1 => F_i_bothWays u0 u1) l xs = some (ndL xs) := by
 unfold F_i_needer_of
 rw [chk_pos h.1]
 simp only [nam]
 rw [hl _ _ _ h.2]
 rfl
theorem iAreCounts_eq {xs : List Int} (h : Vls xs) : F_i_AreCounts xs = some true := by
 unfold F_i_AreCounts
 have hl := h.1
 have hb := Vls_bd h
 rw [ite_t (by rw [decide_eq_true (by omega), decide_eq_true (by omega)]; rfl), chk_pos (by omega)]
 have hany : (List.any xs fun x => !(decide (0 ≤ x) && decide (x ≤ 8))) = false := by
  rw [List.any_eq_false]
  intro x hx
  obtain ⟨i, hi, rfl⟩ := List.getElem_of_mem hx
  have h8 := hb.2.1 i
  have h0 := hb.2.2 i
  rw [List.getD_eq_getElem?_getD, List.getElem?_eq_getElem hi] at h8 h0
  simp only [Option.getD_some] at h8 h0
  rw [decide_eq_true h0, decide_eq_true h8]; simp
 have hin : ∀ i, i ≤ xs.length → 0 ≤ sumP xs i ∧ sumP xs i ≤ 8 * i := sumP_in (B := 8) fun x hx => by
  obtain ⟨i, hi, rfl⟩ := List.getElem_of_mem hx
  have h8 := hb.2.1 i
  have h0 := hb.2.2 i
  rw [List.getD_eq_getElem?_getD, List.getElem?_eq_getElem hi] at h8 h0
  exact ⟨h0, h8⟩
 have es : F_i_sum xs = some (sum3 xs) := by
  unfold F_i_sum
  refine jn_is (fun J => J (sum3 xs)) (fun J => ?_) rfl
  rw [← sumP_eq hl]
  refine loop_up (fun n i (s : Int) => F_i_sum_L1 xs J n i s) ((xs.length : Nat) : Int) (fun i => sumP xs i.toNat) _ ?_ ?_ (by omega) fuel (by have := fuel_ge; omega)
  ·intro n i i0 i1
   obtain ⟨k, rfl⟩ := int_nat i0
   have e1 : ((k : Int) + 1).toNat = k + 1 := by omega
   have h1 := hin k (by omega)
   have h2 := hb.2.1 k
   have h3 := hb.2.2 k
   simp only [e1, Int.toNat_natCast]
   rw [F_i_sum_L1, ite_t (decide_eq_true i1), chk_pos ⟨i0, i1⟩, Int.toNat_natCast, chk_pos (by unfold I64; omega), chk_pos (by unfold I64; omega), sumP]
  ·intro n
   simp only [Int.toNat_natCast]
   rw [F_i_sum_L1, ite_f (decide_eq_false (by omega))]
 have h4 := h.2.2.2.2
 rw [hany, Bool.not_false, ite_t rfl, bnd1_eq es, decide_eq_true (by unfold sum3; omega)]
theorem iNeedOf_eq {xs : List Int} (h : Vls xs) : F_i_NeedOf xs = some (ndL xs, true) := by
 unfold F_i_NeedOf
 obtain ⟨l, e, hl⟩ := iNeeder_ok
 rw [bnd1_eq (iAreCounts_eq h), Bool.not_true, ite_f rfl, bnd1_eq e, bnd1_eq (iOf_eq hl h)]
theorem short_in {xs : List Int} {m : Int} (h : shortN xs m = true) : okR xs.length m xs ∧ 1 ≤ xs.length ∧ xs.length ≤ 5 ∧ 0 ≤ m ∧ m ≤ 1 ∧ isStateN xs m = true := by
 have h2 := h
 unfold shortN at h2
 simp only [Bool.and_eq_true, decide_eq_true_eq] at h2
 have hs := state_len h2.1.1
 exact ⟨⟨rfl, okS_of h2.1.1⟩, hs.1, by omega, hs.2.2.1, h2.2, h2.1.1⟩
theorem okR_okN {n : Nat} {m : Int} {xs : List Int} (hn : n ≤ 5) (h1 : 1 ≤ n) (h : okR n m xs) : okN xs m := by
 have hl := h.1
 have hst : isStateN xs m = true := isState_ok h.2 (by omega)
 have ho := openN_le xs
 exact ⟨hst, cts_Vls hst (by omega)⟩
theorem sets_le {n : Nat} {m : Int} (hn : n ≤ 5) (hm : m ≤ 1) (h1 : 1 ≤ n) : ∀ (d : Nat) (xs : List Int), okR n m xs → nd m xs ≤ (d : Int) → needS xs m ≤ nd m xs := by
 intro d
 induction d with
 | zero =>
  intro xs h h0
  have hN := okR_okN hn h1 h
  by_cases h2 : 2 ≤ (openN xs).length
  ·have := (nd_two hn hm h h2).1; omega
  ·have := (need_told hN.1 hN.2).1 (by omega)
   have := nd_in hn hm h
   omega
 | succ d ih =>
  intro xs h h0
  have hN := okR_okN hn h1 h
  by_cases h2 : 2 ≤ (openN xs).length
  ·obtain ⟨_, _, k, k1, k2, hv, e⟩ := nd_two hn hm h h2
   unfold ndO at e
   have a := need_ans (q := lqK k) h.2 hN.2
   have i1 := ih _ (okR_ans (q := lqK k) (y := true) h) (by omega)
   have i2 := ih _ (okR_ans (q := lqK k) (y := false) h) (by omega)
   omega
  ·have := (need_told hN.1 hN.2).1 (by omega)
   have := nd_in hn hm h
   omega
theorem sets_less {n : Nat} {m : Int} {xs : List Int} (hn : n ≤ 5) (hm : m ≤ 1) (h1 : 1 ≤ n) (h : okR n m xs) : needS xs m ≤ nd m xs := by
 have := nd_in hn hm h
 exact sets_le hn hm h1 (nd m xs).toNat xs h (by omega)
theorem NT_at {n : Nat} {m : Int} {f xs : List Int} (hn : n ≤ 5) (hm : 0 ≤ m ∧ m ≤ 1) (hf : NT n m f) (h : okR n m xs) : 0 ≤ digP (m + 2) xs n ∧ digP (m + 2) xs n < ((f.length : Nat) : Int) ∧ f.getD (digP (m + 2) xs n).toNat 0 = nd m xs := by
 obtain ⟨a, b, c⟩ := NTr_at hn hm hf h
 have := nd_in hn hm.2 h
 rw [if_pos (by omega)] at c
 exact ⟨a, b, c⟩
theorem okR_rep {n : Nat} {m : Int} (hn : n ≤ 5) (hm : 0 ≤ m ∧ m ≤ 1) : okR n m (List.replicate n 0) := by
 refine ⟨by simp, by simp; omega, hm.1, by omega, fun i => ?_⟩
 have : (List.replicate n (0 : Int)).getD i 0 = 0 := by
  rw [List.getD_eq_getElem?_getD, List.getElem?_replicate]; split <;> rfl
 omega
def lnV (xs : List Int) (m : Int) : Int := bif shortN xs m then nd m xs else 0
theorem iLNd_eq (xs : List Int) (m : Int) (hx : xs.length ≤ 1000) : F_i_LessNeed xs m = some (lnV xs m, shortN xs m) := by
 unfold F_i_LessNeed lnV
 rw [chk_pos (by omega)]
 cases hs : shortN xs m with
 | false => rfl
 | true =>
  obtain ⟨g1, g2, g3, g4, g5, g6⟩ := short_in hs
  obtain ⟨w, e, _⟩ := iNeed_top g3 g5 g1 [] (NI_nil _ _)
  rw [ite_f (show (!true) = false from rfl), show F_i_newLesser = some [] from rfl, bnd1_eq rfl, bnd2_eq e]; rfl
theorem sLNd_eq (xs : List Int) (m : Int) (hx : xs.length ≤ 1000) : F_s_LessNeed xs m = some (lnV xs m, shortN xs m) := by
 unfold F_s_LessNeed lnV
 rw [chk_pos (by omega)]
 cases hs : shortN xs m with
 | false => rfl
 | true =>
  obtain ⟨g1, g2, g3, g4, g5, g6⟩ := short_in hs
  obtain ⟨f, e, hf⟩ := sNeeds_eq (n := xs.length) g3 ⟨g4, g5⟩
  obtain ⟨k1, k2, k3⟩ := NT_at g3 ⟨g4, g5⟩ hf g1
  rw [ite_f (show (!true) = false from rfl), bnd1_eq e, bnd1_eq (sKey_eq g3 g5 g1), chk_pos ⟨k1, k2⟩, k3]; rfl
def bbB (xs : List Int) (m : Int) : Bool := shortN xs m && decide (2 ≤ (openN xs).length)
noncomputable def bbV (xs : List Int) (m : Int) : Int := bif bbB xs m then ((bkN xs.length m xs : Nat) : Int) else 0
theorem bbB_in {xs : List Int} {m : Int} (h : bbB xs m = true) : shortN xs m = true ∧ 2 ≤ (openN xs).length := by
 unfold bbB at h
 rw [Bool.and_eq_true, decide_eq_true_iff] at h
 exact h
theorem iBestLess_eq (xs : List Int) (m : Int) (hx : xs.length ≤ 1000) : F_i_BestLess xs m = some (bbV xs m, bbB xs m) := by
 unfold F_i_BestLess bbV
 refine jn_is (fun J => J (!(bbB xs m))) (fun J => ?_) ?_
 ·rw [chk_pos (by omega)]
  unfold bbB
  cases shortN xs m with
  | false => rfl
  | true =>
   rw [Bool.not_true, ite_f rfl, chk_pos (by omega), Bool.true_and]
   congr 1
   by_cases c : 2 ≤ (openN xs).length
   ·rw [decide_eq_true c, decide_eq_false (by omega)]; rfl
   ·rw [decide_eq_false c, decide_eq_true (by omega)]; rfl
 ·cases hv : bbB xs m with
  | false => rfl
  | true =>
   obtain ⟨hs, h2⟩ := bbB_in hv
   obtain ⟨g1, g2, g3, g4, g5, g6⟩ := short_in hs
   obtain ⟨w, e, _⟩ := iBest_eq g3 g5 g1 h2 [] (NI_nil _ _)
   rw [Bool.not_true, ite_f rfl, show F_i_newLesser = some [] from rfl, bnd1_eq rfl, bnd2_eq e]; rfl
theorem sBestLess_eq (xs : List Int) (m : Int) (hx : xs.length ≤ 1000) : F_s_BestLess xs m = some (bbV xs m, bbB xs m) := by
 unfold F_s_BestLess bbV
 refine jn_is (fun J => J (!(bbB xs m))) (fun J => ?_) ?_
 ·rw [chk_pos (by omega)]
  unfold bbB
  cases shortN xs m with
  | false => rfl
  | true =>
   rw [Bool.not_true, ite_f rfl, chk_pos (by omega), Bool.true_and]
   congr 1
   by_cases c : 2 ≤ (openN xs).length
   ·rw [decide_eq_true c, decide_eq_false (by omega)]; rfl
   ·rw [decide_eq_false c, decide_eq_true (by omega)]; rfl
 ·cases hv : bbB xs m with
  | false => rfl
  | true =>
   obtain ⟨hs, h2⟩ := bbB_in hv
   obtain ⟨g1, g2, g3, g4, g5, g6⟩ := short_in hs
   obtain ⟨f, e, hf⟩ := sNeeds_eq (n := xs.length) g3 ⟨g4, g5⟩
   rw [Bool.not_true, ite_f rfl, bnd1_eq e, bnd1_eq (sBest_eq g3 ⟨g4, g5⟩ g1 h2 hf)]; rfl
def wsB (m : Int) (xs : List Int) (k : Nat) : Bool := decide (nd m (ansN m (lqK k) false xs) + 1 < nd m xs)
noncomputable def wsL (n : Nat) (m : Int) : Nat → List Int → List Bool
 | 0, _ => []
 | d + 1, xs => wsB m xs (bkN n m xs) :: wsL n m d (ansN m (lqK (bkN n m xs)) (wsB m xs (bkN n m xs)) xs)
theorem wsL_len (n : Nat) (m : Int) : ∀ d xs, (wsL n m d xs).length = d
 | 0, _ => rfl
 | d + 1, xs => by rw [wsL, List.length_cons, wsL_len n m d]
theorem bk_fact {n : Nat} {m : Int} {xs : List Int} (hn : n ≤ 5) (hm : m ≤ 1) (h : okR n m xs) (h2 : 2 ≤ (openN xs).length) : bkN n m xs ≤ 4 ∧ 1 ≤ bkN n m xs ∧ bkN n m xs ≤ n - 1 ∧ vainN xs (lqK (bkN n m xs)) = false ∧ 1 + max (nd m (ansN m (lqK (bkN n m xs)) false xs)) (nd m (ansN m (lqK (bkN n m xs)) true xs)) = nd m xs := by
 obtain ⟨k1, k2, ⟨k3, k4⟩, _⟩ := bk_ex hn hm h h2
 exact ⟨by omega, k1, k2, k3, k4⟩
theorem ws_next {n : Nat} {m : Int} {xs : List Int} (hn : n ≤ 5) (hm : m ≤ 1) (h : okR n m xs) (h2 : 2 ≤ (openN xs).length) : nd m (ansN m (lqK (bkN n m xs)) (wsB m xs (bkN n m xs)) xs) = nd m xs - 1 := by
 have hb := (bk_fact hn hm h h2).2.2.2.2
 unfold wsB
 by_cases c : nd m (ansN m (lqK (bkN n m xs)) false xs) + 1 < nd m xs
 ·rw [decide_eq_true c]; omega
 ·rw [decide_eq_false c]; omega
theorem iWs_eq {n : Nat} {m : Int} (hn : n ≤ 5) (hm : m ≤ 1) (J : List Bool → Option (List Bool × Bool)) : ∀ (d g : Nat) (xs : List Int) (o : List Bool) (w : List (Int × Int)), okR n m xs → nd m xs = (d : Int) → d < g → o.length + d ≤ 50 → NI n m w → F_i_LessWorst_L1 m J g xs o w (d : Int) = J (o ++ wsL n m d xs) := by
 intro d
 induction d with
 | zero =>
  intro g xs o w h h0 hg ho hw
  obtain ⟨g, rfl⟩ : ∃ k, g = k + 1 := ⟨g - 1, by omega⟩
  rw [F_i_LessWorst_L1, ite_f (decide_eq_false (by omega)), wsL, List.append_nil]
 | succ d ih =>
  intro g xs o w h h0 hg ho hw
  obtain ⟨g, rfl⟩ : ∃ k, g = k + 1 := ⟨g - 1, by omega⟩
  have h2 : 2 ≤ (openN xs).length := by
   apply Classical.byContradiction
   intro hc
   have := nd_few hn hm h (by omega)
   omega
  obtain ⟨b4, b1, b2, b3, hb⟩ := bk_fact hn hm h h2
  have hnx := ws_next hn hm h h2
  obtain ⟨w1, e1, hw1⟩ := iBest_eq hn hm h h2 w hw
  obtain ⟨w2, e2, hw2⟩ := iNeed_top hn hm (okR_ans (q := lqK (bkN n m xs)) (y := false) h) w1 hw1
  have hd : ((d + 1 : Nat) : Int) - 1 = (d : Int) := by omega
  rw [F_i_LessWorst_L1, ite_t (decide_eq_true (by omega)), bnd2_eq e1, bnd1_eq (iLess_eq (by omega)), chk_pos h.2, bnd2_eq e2, hd, chk_pos (by unfold I64; omega), chk_pos ⟨by omega, by simp only [maxLen]; omega⟩]
  have hwb : (nd m (ansN m (lqK (bkN n m xs)) false xs) != (d : Int)) = wsB m xs (bkN n m xs) := by
   unfold wsB
   rw [Bool.eq_iff_iff, bne_iff_ne, decide_eq_true_iff]; omega
  rw [hwb, wsL]
  have key := fun y (e : wsB m xs (bkN n m xs) = y) => ih g (ansN m (lqK (bkN n m xs)) y xs) (o ++ [wsB m xs (bkN n m xs)]) w2 (okR_ans h) (by rw [← e]; omega) (by omega) (by rw [List.length_append, List.length_singleton]; omega) hw2
  cases hy : wsB m xs (bkN n m xs) with
  | true =>
   have k := key true hy
   rw [hy, List.append_assoc] at k
   rw [ite_t rfl, k]; rfl
  | false =>
   have k := key false hy
   rw [hy, List.append_assoc] at k
   rw [ite_f rfl, k]; rfl
theorem sWs_eq {n : Nat} {m : Int} {f : List Int} (hn : n ≤ 5) (hm : 0 ≤ m ∧ m ≤ 1) (hf : NT n m f) (J : List Bool → Option (List Bool × Bool)) : ∀ (d g : Nat) (xs : List Int) (o : List Bool), okR n m xs → nd m xs = (d : Int) → d < g → o.length + d ≤ 50 → F_s_LessWorst_L1 f J g xs m o = J (o ++ wsL n m d xs) := by
 intro d
 induction d with
 | zero =>
  intro g xs o h h0 hg ho
  obtain ⟨g, rfl⟩ : ∃ k, g = k + 1 := ⟨g - 1, by omega⟩
  have hl := h.1
  have h2 : ¬ 2 ≤ (openN xs).length := fun hc => by
   have := (nd_two hn hm.2 h hc).1
   omega
  rw [F_s_LessWorst_L1, chk_pos (by omega), decide_eq_true (by omega), Bool.not_true, ite_f rfl, wsL, List.append_nil]
 | succ d ih =>
  intro g xs o h h0 hg ho
  obtain ⟨g, rfl⟩ : ∃ k, g = k + 1 := ⟨g - 1, by omega⟩
  have hl := h.1
  have h2 : 2 ≤ (openN xs).length := by
   apply Classical.byContradiction
   intro hc
   have := nd_few hn hm.2 h (by omega)
   omega
  obtain ⟨b4, b1, b2, b3, hb⟩ := bk_fact hn hm.2 h h2
  have hnx := ws_next hn hm.2 h h2
  have hans := okR_ans (q := lqK (bkN n m xs)) (y := false) h
  obtain ⟨k1, k2, k3⟩ := NT_at hn hm hf hans
  obtain ⟨j1, j2, j3⟩ := NT_at hn hm hf h
  have hin := nd_in hn hm.2 hans
  rw [F_s_LessWorst_L1, chk_pos (by omega), decide_eq_false (by omega), Bool.not_false, ite_t rfl, bnd1_eq (sBest_eq hn hm h h2 hf), bnd2_eq (sAfterK_eq h (by omega) false), bnd1_eq (sKey_eq hn hm.2 hans), chk_pos ⟨k1, k2⟩, k3, chk_pos (by unfold I64; omega)]
  simp only [nam]
  rw [bnd1_eq (sKey_eq hn hm.2 h), chk_pos ⟨j1, j2⟩, j3, chk_pos ⟨by omega, by simp only [maxLen]; omega⟩, bnd2_eq (sAfterK_eq h (by omega) _)]
  show F_s_LessWorst_L1 f J g (ansN m (lqK (bkN n m xs)) (wsB m xs (bkN n m xs)) xs) m (o ++ [wsB m xs (bkN n m xs)]) = _
  rw [ih g _ _ (okR_ans h) (by omega) (by omega) (by rw [List.length_append, List.length_singleton]; omega), wsL, List.append_assoc]
  rfl
noncomputable def wwV (xs : List Int) (m : Int) : List Bool := bif shortN xs m then wsL xs.length m (nd m xs).toNat xs else []
theorem iLessWorst_eq (xs : List Int) (m : Int) (hx : xs.length ≤ 1000) : F_i_LessWorst xs m = some (wwV xs m, shortN xs m) := by
 unfold F_i_LessWorst wwV
 rw [chk_pos (by omega)]
 cases hs : shortN xs m with
 | false => rfl
 | true =>
  obtain ⟨g1, g2, g3, g4, g5, g6⟩ := short_in hs
  have hin := nd_in g3 g5 g1
  obtain ⟨w, e, hw⟩ := iNeed_top g3 g5 g1 [] (NI_nil _ _)
  rw [ite_f (show (!true) = false from rfl), show F_i_newLesser = some [] from rfl, bnd1_eq rfl, cond_true]
  refine jn_is (fun J => J (wsL xs.length m (nd m xs).toNat xs)) (fun J => ?_) rfl
  have key := iWs_eq g3 g5 J (nd m xs).toNat fuel xs [] w g1 (by omega) (by have := fuel_ge; omega) (by rw [List.length_nil]; omega) hw
  rw [show (((nd m xs).toNat : Nat) : Int) = nd m xs by omega, List.nil_append] at key
  rw [bnd2_eq e, key]
theorem sLessWorst_eq (xs : List Int) (m : Int) (hx : xs.length ≤ 1000) : F_s_LessWorst xs m = some (wwV xs m, shortN xs m) := by
 unfold F_s_LessWorst wwV
 rw [chk_pos (by omega)]
 cases hs : shortN xs m with
 | false => rfl
 | true =>
  obtain ⟨g1, g2, g3, g4, g5, g6⟩ := short_in hs
  have hin := nd_in g3 g5 g1
  obtain ⟨f, e, hf⟩ := sNeeds_eq (n := xs.length) g3 ⟨g4, g5⟩
  rw [ite_f (show (!true) = false from rfl), bnd1_eq e, cond_true]
  refine jn_is (fun J => J (wsL xs.length m (nd m xs).toNat xs)) (fun J => ?_) rfl
  have key := sWs_eq g3 ⟨g4, g5⟩ hf J (nd m xs).toNat fuel xs [] g1 (by omega) (by have := fuel_ge; omega) (by rw [List.length_nil]; omega)
  rw [List.nil_append] at key
  exact key
def clB (n k : Int) : Bool := (decide (1 ≤ n) && decide (n ≤ 12)) && (decide (1 ≤ k) && decide (k ≤ n - 1))
theorem clB_in {n k : Int} (h : clB n k = true) : ∃ a b : Nat, n = a ∧ k = b ∧ a ≤ 12 ∧ 1 ≤ b ∧ b ≤ a - 1 := by
 unfold clB at h
 simp only [Bool.and_eq_true, decide_eq_true_eq] at h
 exact ⟨n.toNat, k.toNat, by omega, by omega, by omega, by omega, by omega⟩
theorem iIsLess_eq (n k : Int) : F_i_isLess n k = some (clB n k) := by
 unfold F_i_isLess clB
 by_cases c : 1 ≤ n ∧ n ≤ 12
 ·rw [decide_eq_true c.1, decide_eq_true c.2, ite_t (show (true && true) = true from rfl), chk_pos (by unfold I64; omega)]; rfl
 ·have : (decide (1 ≤ n) && decide (n ≤ 12)) = false := by rw [Bool.and_eq_false_iff, decide_eq_false_iff_not, decide_eq_false_iff_not]; omega
  rw [this]; rfl
theorem sCompare_eq (n k : Int) : F_s_l6Compare n k = some (clB n k) := iIsLess_eq n k
def noB (xs : List Int) (m k : Int) : Bool := shortN xs m && (clB ((xs.length : Nat) : Int) k && decide (2 ≤ (openN xs).length))
def noY (xs : List Int) (m k : Int) : Bool := noB xs m k && !(vainN xs (lqK k.toNat))
def noV (xs : List Int) (m k : Int) : Int := bif noY xs m k then ndO (nd m) m xs k.toNat else 0
theorem noB_in {xs : List Int} {m k : Int} (h : noB xs m k = true) : shortN xs m = true ∧ 2 ≤ (openN xs).length ∧ ∃ b : Nat, k = b ∧ 1 ≤ b ∧ b ≤ xs.length - 1 := by
 unfold noB at h
 rw [Bool.and_eq_true, Bool.and_eq_true, decide_eq_true_iff] at h
 obtain ⟨a, b, h1, h2, h3, h4, h5⟩ := clB_in h.2.1
 exact ⟨h.1, h.2.2, b, h2, h4, by omega⟩
theorem iNeedOfLess_eq (xs : List Int) (m k : Int) (hx : xs.length ≤ 1000) : F_i_NeedOfLess xs m k = some (noV xs m k, noY xs m k) := by
 unfold F_i_NeedOfLess
 refine jn_is (fun J => J (!(noB xs m k))) (fun J => ?_) ?_
 ·rw [chk_pos (by omega)]
  unfold noB
  cases shortN xs m with
  | false => rfl
  | true =>
   rw [Bool.not_true, ite_f rfl, bnd1_eq (iIsLess_eq _ k)]
   cases clB ((xs.length : Nat) : Int) k with
   | false => rfl
   | true =>
    rw [Bool.not_true, ite_f rfl, chk_pos (by omega), Bool.true_and, Bool.true_and]
    congr 1
    by_cases c : 2 ≤ (openN xs).length
    ·rw [decide_eq_true c, decide_eq_false (by omega)]; rfl
    ·rw [decide_eq_false c, decide_eq_true (by omega)]; rfl
 ·cases hv : noB xs m k with
  | false => unfold noV noY; rw [hv]; rfl
  | true =>
   obtain ⟨hs, h2, b, rfl, b1, b2⟩ := noB_in hv
   obtain ⟨g1, g2, g3, g4, g5, g6⟩ := short_in hs
   obtain ⟨w, e, _⟩ := iOfLess_step g3 g5 g1 (show b ≤ 12 by omega) (fun _ y => iNeed_top g3 g5 (okR_ans g1)) [] (NI_nil _ _)
   rw [Bool.not_true, ite_f rfl, show F_i_newLesser = some [] from rfl, bnd1_eq rfl, bnd3_eq e]
   unfold noV noY
   rw [hv, Bool.true_and, Int.toNat_natCast]
   cases vainN xs (lqK b) <;> rfl
theorem sNeedOfLess_eq (xs : List Int) (m k : Int) (hx : xs.length ≤ 1000) : F_s_NeedOfLess xs m k = some (noV xs m k, noY xs m k) := by
 unfold F_s_NeedOfLess
 refine jn_is (fun J => J (!(noB xs m k))) (fun J => ?_) ?_
 ·rw [chk_pos (by omega)]
  unfold noB
  cases shortN xs m with
  | false => rfl
  | true =>
   rw [Bool.not_true, ite_f rfl, chk_pos (by omega)]
   by_cases c : 2 ≤ (openN xs).length
   ·rw [decide_eq_true c, ite_f (decide_eq_false (by omega)), bnd1_eq (sCompare_eq _ k), Bool.true_and, Bool.and_true]
   ·rw [decide_eq_false c, ite_t (decide_eq_true (by omega)), Bool.and_false, Bool.and_false]; rfl
 ·cases hv : noB xs m k with
  | false => unfold noV noY; rw [hv]; rfl
  | true =>
   obtain ⟨hs, h2, b, rfl, b1, b2⟩ := noB_in hv
   obtain ⟨g1, g2, g3, g4, g5, g6⟩ := short_in hs
   obtain ⟨f, e, hf⟩ := sNeeds_eq (n := xs.length) g3 ⟨g4, g5⟩
   rw [Bool.not_true, ite_f rfl, bnd1_eq e, bnd1_eq (sNeedOf_eq g3 ⟨g4, g5⟩ g1 (show b ≤ 12 by omega) hf)]
   unfold noV noY
   rw [hv, Bool.true_and, Int.toNat_natCast]
   cases hvn : vainN xs (lqK b) with
   | true => rfl
   | false =>
    have p1 := nd_in g3 g5 (okR_ans (q := lqK b) (y := false) g1)
    have p2 := nd_in g3 g5 (okR_ans (q := lqK b) (y := true) g1)
    have hpos : 0 ≤ ndO (nd m) m xs b := by unfold ndO; omega
    rw [if_neg (by simp), maxN_mx, Int.max_eq_left hpos, decide_eq_true hpos]; rfl
def lqV (n k : Int) : Int := bif clB n k then lqK k.toNat else 0
theorem iLessQ_eq (n k : Int) : F_i_LessQuestion n k = some (lqV n k, clB n k) := by
 unfold F_i_LessQuestion lqV
 rw [bnd1_eq (iIsLess_eq n k)]
 cases h : clB n k with
 | false => rfl
 | true =>
  obtain ⟨a, b, rfl, rfl, h3, h4, h5⟩ := clB_in h
  rw [Bool.not_true, ite_f rfl, bnd1_eq (iLess_eq (by omega)), Int.toNat_natCast]; rfl
theorem sLessQ_eq (n k : Int) : F_s_LessQuestion n k = some (lqV n k, clB n k) := by
 unfold F_s_LessQuestion lqV
 rw [bnd1_eq (sCompare_eq n k)]
 cases h : clB n k with
 | false => rfl
 | true =>
  obtain ⟨a, b, rfl, rfl, h3, h4, h5⟩ := clB_in h
  have := lqK_in (k := b) (by omega)
  have hp : (1 : Int) * 2 ^ b = lqK b + 1 := by unfold lqK; omega
  rw [Bool.not_true, ite_f rfl, Int.toNat_natCast, hp, chk_pos ⟨by omega, by omega, by unfold I64; omega⟩, chk_pos (by unfold I64; omega), show lqK b + 1 - 1 = lqK b by omega]; rfl
theorem isQ_lq12 {n k : Nat} (hn : n ≤ 12) (h1 : 1 ≤ k) (h2 : k ≤ n - 1) : isQ (n : Int) (lqK k) = true := by
 have key : ∀ n : Fin 13, ∀ k : Fin 13, 1 ≤ k.1 → k.1 ≤ n.1 - 1 → isQ ((n.1 : Nat) : Int) (lqK k.1) = true := by decide +kernel
 exact key ⟨n, by omega⟩ ⟨k, by omega⟩ h1 h2
theorem fl_below (k : Nat) : ∀ n : Nat, (fl (fun i => decide (i < k)) n).length = min n k
 | 0 => by simp [fl]
 | n + 1 => by
  by_cases c : n < k
  ·rw [fl_yes (decide_eq_true c), List.length_append, List.length_singleton, fl_below k n]; omega
  ·rw [fl_no (decide_eq_false c), fl_below k n]; omega
theorem fl_congr2 {p q : Nat → Bool} : ∀ n : Nat, (∀ i, i < n → p i = q i) → fl p n = fl q n
 | 0, _ => rfl
 | n + 1, h => by
  have ih := fl_congr2 n fun i hi => h i (by omega)
  cases hp : p n with
  | true => rw [fl_yes hp, fl_yes (by rw [← h n (by omega)]; exact hp), ih]
  | false => rw [fl_no hp, fl_no (by rw [← h n (by omega)]; exact hp), ih]
theorem nums_lq {n k : Nat} (hn : n ≤ 12) (h1 : 1 ≤ k) (h2 : k ≤ n - 1) : (numsN (n : Int) (lqK k)).length = k := by
 unfold numsN numsP
 rw [isQ_lq12 hn h1 h2, cond_true, Int.toNat_natCast, fl_congr2 (q := fun i => decide (i < k)) n (fun i hi => hasB_lq (by omega) (by omega)), fl_below]
 omega
def tbB1 (m : Int) : Bool := decide (0 ≤ m) && decide (m ≤ 1)
def tbL1 (m : Int) (k : Nat) : List Int := (List.range k).map fun (i : Nat) => nd m (List.replicate (i + 1) 0)
def tbV1 (m : Int) : List Int := bif tbB1 m then tbL1 m 5 else []
theorem tbL1_len {m : Int} {k : Nat} : (tbL1 m k).length = k := by simp [tbL1]
theorem tbL1_succ {m : Int} {k : Nat} : tbL1 m (k + 1) = tbL1 m k ++ [nd m (List.replicate (k + 1) 0)] := by unfold tbL1; rw [List.range_succ, List.map_append]; rfl
theorem tbB1_in {m : Int} (h : tbB1 m = true) : 0 ≤ m ∧ m ≤ 1 := by unfold tbB1 at h; simpa using h
theorem iLessTable_eq (m : Int) : F_i_LessTable m = some (tbV1 m, tbB1 m) := by
 unfold F_i_LessTable tbV1
 show (bif !(tbB1 m) then _ else _) = _
 cases h : tbB1 m with
 | false => rfl
 | true =>
  have hm := tbB1_in h
  rw [Bool.not_true, ite_f rfl, cond_true]
  refine jn_is (fun J => J (tbL1 m 5)) (fun J => ?_) rfl
  have key := loop_up (fun n i (s : List Int) => F_i_LessTable_L1 m J n s (i + 1)) 5 (fun i => tbL1 m i.toNat) (J (tbL1 m 5)) ?_ ?_ (by omega) fuel (by have := fuel_ge; omega)
  ·exact key
  ·intro n i i0 i1
   obtain ⟨k, rfl⟩ := int_nat i0
   have e1 : ((k : Int) + 1).toNat = k + 1 := by omega
   obtain ⟨w, e, _⟩ := iNeed_top (n := k + 1) (by omega) hm.2 (okR_rep (by omega) hm) [] (NI_nil _ _)
   simp only [e1, Int.toNat_natCast]
   rw [F_i_LessTable_L1, ite_t (decide_eq_true (by omega)), show F_i_newLesser = some [] from rfl, bnd1_eq rfl, chk_pos (by omega), chk_pos (by omega), e1, bnd2_eq e, tbL1_len, chk_pos ⟨by omega, by simp only [maxLen]; omega⟩, chk_pos (by unfold I64; omega), tbL1_succ]
  ·intro n
   rw [F_i_LessTable_L1, ite_f (decide_eq_false (by omega))]
   rfl
theorem sLessTable_eq (m : Int) : F_s_LessTable m = some (tbV1 m, tbB1 m) := by
 unfold F_s_LessTable tbV1
 show (bif !(tbB1 m) then _ else _) = _
 cases h : tbB1 m with
 | false => rfl
 | true =>
  have hm := tbB1_in h
  rw [Bool.not_true, ite_f rfl, cond_true]
  refine jn_is (fun J => J (tbL1 m 5)) (fun J => ?_) rfl
  have key := loop_up (fun n i (s : List Int) => F_s_LessTable_L1 m J n s (i + 1)) 5 (fun i => tbL1 m i.toNat) (J (tbL1 m 5)) ?_ ?_ (by omega) fuel (by have := fuel_ge; omega)
  ·exact key
  ·intro n i i0 i1
   obtain ⟨k, rfl⟩ := int_nat i0
   have e1 : ((k : Int) + 1).toNat = k + 1 := by omega
   have hr := okR_rep (n := k + 1) (m := m) (by omega) hm
   obtain ⟨f, e, hf⟩ := sNeeds_eq (n := k + 1) (m := m) (by omega) hm
   obtain ⟨k1, k2, k3⟩ := NT_at (by omega) hm hf hr
   have e' : F_s6N ((k : Int) + 1) m = some f := e
   have es : F_s_l2Start ((k : Int) + 1) m = some (List.replicate (k + 1) 0, m) := sStart_eq (k + 1) m (by omega)
   simp only [e1, Int.toNat_natCast]
   rw [F_s_LessTable_L1, ite_t (decide_eq_true (by omega)), bnd1_eq e', bnd2_eq es, bnd1_eq (sKey_eq (by omega) hm.2 hr), chk_pos ⟨k1, k2⟩, k3, tbL1_len, chk_pos ⟨by omega, by simp only [maxLen]; omega⟩, chk_pos (by unfold I64; omega), tbL1_succ]
  ·intro n
   rw [F_s_LessTable_L1, ite_f (decide_eq_false (by omega))]
   rfl
def mtB (n m : Int) : Bool := (decide (1 ≤ n) && decide (n ≤ 5)) && (decide (0 ≤ m) && decide (m ≤ 1))
def frL (n m : Int) : List Int := List.set (List.replicate (Int.toNat (m + 1)) (0 : Int)) 0 n
def mtV (n m : Int) : Int := bif mtB n m then nd m (List.replicate n.toNat 0) - ndL (frL n m) else 0
theorem mtB_in {n m : Int} (h : mtB n m = true) : ∃ k : Nat, n = k ∧ 1 ≤ k ∧ k ≤ 5 ∧ 0 ≤ m ∧ m ≤ 1 := by
 unfold mtB at h
 simp only [Bool.and_eq_true, decide_eq_true_eq] at h
 exact ⟨n.toNat, by omega, by omega, by omega, h.2.1, h.2.2⟩
theorem fr_cts {k : Nat} {m : Int} (hk : k ≤ 5) (hm : 0 ≤ m ∧ m ≤ 1) : frL (k : Int) m = cts (List.replicate k 0) m := by
 have key : ∀ k : Fin 6, frL ((k.1 : Nat) : Int) 0 = cts (List.replicate k.1 0) 0 ∧ frL ((k.1 : Nat) : Int) 1 = cts (List.replicate k.1 0) 1 := by decide +kernel
 have := key ⟨k, by omega⟩
 have hh : m = 0 ∨ m = 1 := by omega
 rcases hh with rfl | rfl
 ·exact this.1
 ·exact this.2
theorem fr_Vls {k : Nat} {m : Int} (h1 : 1 ≤ k) (hk : k ≤ 5) (hm : 0 ≤ m ∧ m ≤ 1) : Vls (frL (k : Int) m) := by
 rw [fr_cts hk hm]
 exact (okR_okN hk h1 (okR_rep hk hm)).2
theorem iFresh_eq {n m : Int} (hm : 0 ≤ m ∧ m ≤ 1) : F_i_countsOf n m = some (frL n m) := by
 unfold F_i_countsOf
 rw [chk_pos (by unfold I64; omega), chk_pos ⟨by omega, by omega, by omega, by simp only [maxLen]; omega⟩, chk_pos ⟨by omega, by omega⟩]
 rfl
theorem iMore_eq (n m : Int) : F_i_MoreThanSets n m = some (mtV n m, mtB n m) := by
 unfold F_i_MoreThanSets mtV
 refine jn_is (fun J => J (!(mtB n m))) (fun J => ?_) ?_
 ·unfold mtB
  cases (decide (1 ≤ n) && decide (n ≤ 5)) with
  | false => rfl
  | true => rfl
 ·cases hv : mtB n m with
  | false => rfl
  | true =>
   obtain ⟨k, rfl, h1, h5, m0, m1⟩ := mtB_in hv
   obtain ⟨w, e, _⟩ := iNeed_top (n := k) h5 m1 (okR_rep h5 ⟨m0, m1⟩) [] (NI_nil _ _)
   obtain ⟨l, e2, hl⟩ := iNeeder_ok
   have hV := fr_Vls h1 h5 ⟨m0, m1⟩
   have b1 := nd_in h5 m1 (okR_rep h5 ⟨m0, m1⟩)
   have b2 := ndL_in hV
   rw [Bool.not_true, ite_f rfl, show F_i_newLesser = some [] from rfl, bnd1_eq rfl, chk_pos (by omega), chk_pos (by omega), Int.toNat_natCast, bnd2_eq e, bnd1_eq e2, bnd1_eq (iFresh_eq ⟨m0, m1⟩), bnd1_eq (iOf_eq hl hV), chk_pos (by unfold I64; omega)]
   rfl
theorem sMore_eq (n m : Int) : F_s_MoreThanSets n m = some (mtV n m, mtB n m) := by
 unfold F_s_MoreThanSets mtV
 refine jn_is (fun J => J (!(mtB n m))) (fun J => ?_) ?_
 ·show (bif !(decide (1 ≤ n) && decide (n ≤ 5)) then J true else J (!(decide (0 ≤ m) && decide (m ≤ 1)))) = _
  unfold mtB
  cases (decide (1 ≤ n) && decide (n ≤ 5)) with
  | false => rfl
  | true => rfl
 ·cases hv : mtB n m with
  | false => rfl
  | true =>
   obtain ⟨k, rfl, h1, h5, m0, m1⟩ := mtB_in hv
   have hr := okR_rep (n := k) (m := m) h5 ⟨m0, m1⟩
   obtain ⟨f, e, hf⟩ := sNeeds_eq (n := k) (m := m) h5 ⟨m0, m1⟩
   obtain ⟨k1, k2, k3⟩ := NT_at h5 ⟨m0, m1⟩ hf hr
   obtain ⟨L, e2, hL, hl⟩ := sNeeds_ok (p := m.toNat + 1) ⟨by omega, by omega⟩
   rw [show ((m.toNat + 1 : Nat) : Int) = m + 1 by omega] at e2
   have hV := fr_Vls h1 h5 ⟨m0, m1⟩
   have hln : (frL (k : Int) m).length = m.toNat + 1 := by unfold frL; rw [List.length_set, List.length_replicate]; omega
   have kk := key_in hV
   rw [hln] at kk
   have hLl : ((L.length : Nat) : Int) = 9 ^ (m.toNat + 1) := by rw [hL]; norm_cast
   have b1 := nd_in h5 m1 hr
   have b2 := ndL_in hV
   have ef : F_s_l4Fresh (k : Int) m = some (frL (k : Int) m) := iFresh_eq ⟨m0, m1⟩
   rw [Bool.not_true, ite_f rfl, bnd1_eq e, bnd2_eq (sStart_eq k m (by omega)), bnd1_eq (sKey_eq h5 m1 hr), chk_pos ⟨k1, k2⟩, chk_pos (by unfold I64; omega), bnd1_eq e2, bnd1_eq ef, bnd1_eq (sKeyV hV), chk_pos ⟨by omega, by omega⟩, k3, hl _ hV hln, chk_pos (by unfold I64; omega), Int.toNat_natCast]
   rfl
theorem more_pos {k : Nat} {m : Int} (h1 : 1 ≤ k) (h5 : k ≤ 5) (hm : 0 ≤ m ∧ m ≤ 1) : ndL (frL (k : Int) m) ≤ nd m (List.replicate k 0) := by
 rw [fr_cts h5 hm]
 exact sets_less h5 hm.2 h1 (okR_rep h5 hm)
theorem more_zero {k : Nat} (h1 : 1 ≤ k) (h5 : k ≤ 5) : nd 0 (List.replicate k 0) = ndL (frL (k : Int) 0) := by
 have key : ∀ k : Fin 5, nd 0 (List.replicate (k.1 + 1) 0) = ndL (frL ((k.1 + 1 : Nat) : Int) 0) := by decide +kernel
 have := key ⟨k - 1, by omega⟩
 rw [show (k - 1 + 1) = k by omega] at this
 exact this
theorem drawLN_ok {bs : List Int} (hy : okY bs) : ∃ xs m, F_s_DrawLessNeed bs = some (xs, m) ∧ xs.length ≤ 13 := by
 unfold F_s_DrawLessNeed
 obtain ⟨xs, m, p2, s2, e2, k0, k1, k2, k3, k4, k5⟩ := shortC_ok (s := 0) (p := 0) hy (by omega) (by omega)
 rw [bnd5_eq e2]
 exact ⟨_, _, rfl, k4⟩
theorem drawNO_ok {bs : List Int} (hy : okY bs) : ∃ xs m k, F_s_DrawNeedOfLess bs = some (xs, m, k) ∧ xs.length ≤ 13 := by
 unfold F_s_DrawNeedOfLess
 obtain ⟨xs, m, p2, s2, e2, k0, k1, k2, k3, k4, k5⟩ := shortC_ok (s := 0) (p := 0) hy (by omega) (by omega)
 have a1 := maxN_in (a := 1) (b := ((List.length xs : Nat) : Int))
 obtain ⟨u, p3, s3, e3, w0, w1, w2, w3⟩ := pick_ok (s := s2) (p := p2) (n := maxN 1 ((List.length xs : Nat) : Int) + 1) hy (by omega) (by omega)
 rw [bnd5_eq e2, chk_pos (by unfold I64; omega)]
 simp only [nam]
 rw [bnd4_eq e3]
 exact ⟨_, _, _, rfl, k4⟩
theorem drawLQ_ok {bs : List Int} (hy : okY bs) : ∃ n k, F_s_DrawLessQuestion bs = some (n, k) := by
 unfold F_s_DrawLessQuestion
 obtain ⟨n, p1, s1, e1, g0, g1, g2, g3⟩ := many_ok (s := 0) (p := 0) hy (by omega) (by omega)
 have a1 := maxN_in (a := 1) (b := n)
 obtain ⟨u, p3, s3, e3, w0, w1, w2, w3⟩ := pick_ok (s := s1) (p := p1) (n := maxN 1 n + 1) hy (by omega) (by omega)
 obtain ⟨v, p4, s4, e4, y0, y1, y2, y3⟩ := pick_ok (s := s3) (p := p3) (n := 24) hy (by omega) (by omega)
 have w3 := w3 (by omega)
 have y3 := y3 (by omega)
 have hd : 0 ≤ Int.tdiv v 23 ∧ Int.tdiv v 23 ≤ 1 := by rw [Int.tdiv_eq_ediv_of_nonneg (by omega)]; omega
 rw [bnd4_eq e1, chk_pos (by unfold I64; omega), bnd4_eq e3, bnd4_eq e4, chk_pos (by unfold I64; omega), chk_pos (by unfold I64; omega)]
 exact ⟨_, _, rfl⟩
theorem drawLT_ok {bs : List Int} (hy : okY bs) : ∃ m, F_s_DrawLessTable bs = some m := by
 unfold F_s_DrawLessTable
 obtain ⟨a, p1, s1, e1, g0, g1, g2⟩ := among_ok (s := 0) (p := 0) (xs := [(0 : Int), (1 : Int), (2 : Int), (-1 : Int), (1 : Int), (0 : Int)]) hy (by omega) (by omega) (by decide)
 rw [bnd4_eq e1]
 exact ⟨_, rfl⟩
theorem drawMT_ok {bs : List Int} (hy : okY bs) : ∃ n m, F_s_DrawMoreThanSets bs = some (n, m) := by
 unfold F_s_DrawMoreThanSets
 obtain ⟨u, p3, s3, e3, w0, w1, w2, w3⟩ := pick_ok (s := 0) (p := 0) (n := 7) hy (by omega) (by omega)
 obtain ⟨a, p1, s1, e1, g0, g1, g2⟩ := among_ok (s := s3) (p := p3) (xs := [(0 : Int), (1 : Int), (2 : Int), (1 : Int), (-1 : Int), (0 : Int)]) hy (by omega) (by omega) (by decide)
 rw [bnd4_eq e3, bnd4_eq e1]
 exact ⟨_, _, rfl⟩
theorem law_comparisons {bs : List Int} (hy : okY bs) (hl : bs.length ≤ 9223372036854775807) : F_laws_FnComparisons bs = some true := by
 unfold F_laws_FnComparisons
 rw [chk_pos hl]
 by_cases h : ((bs.length : Nat) : Int) > 65536
 ·rw [ite_t (decide_eq_true h)]
 rw [ite_f (decide_eq_false h)]
 obtain ⟨xs, m, d1, hx⟩ := drawLN_ok hy
 obtain ⟨ys, l, k, d2, hy1⟩ := drawNO_ok hy
 obtain ⟨n, q, d3⟩ := drawLQ_ok hy
 obtain ⟨t, d4⟩ := drawLT_ok hy
 obtain ⟨a, b, d5⟩ := drawMT_ok hy
 have hwl : (wwV xs m).length ≤ 1048576 ∧ (shortN xs m = true → ((List.length (wwV xs m) : Nat) : Int) = lnV xs m) := by
  unfold wwV lnV
  cases hs : shortN xs m with
  | false => exact ⟨by simp, fun hh => by cases hh⟩
  | true =>
   obtain ⟨g1, g2, g3, g4, g5, g6⟩ := short_in hs
   have := nd_in g3 g5 g1
   rw [cond_true, cond_true, wsL_len]
   exact ⟨by omega, fun _ => by omega⟩
 rw [bnd2_eq d1, bnd2_eq (iLNd_eq xs m (by omega)), bnd2_eq (sLNd_eq xs m (by omega))]
 refine jn_is (fun J => J false) (fun J => by rw [ite_f (bne_self_eq_false _), beq_self_eq_true]; rfl) ?_
 rw [ite_f rfl, bnd2_eq (iBestLess_eq xs m (by omega)), bnd2_eq (sBestLess_eq xs m (by omega))]
 refine jn_is (fun J => J false) (fun J => by rw [ite_f (bne_self_eq_false _), beq_self_eq_true]; rfl) ?_
 rw [ite_f rfl, bnd2_eq (iLessWorst_eq xs m (by omega)), bnd2_eq (sLessWorst_eq xs m (by omega))]
 refine jn_is (fun J => J false) (fun J => ?_) ?_
 ·rw [beq_self_eq_true, Bool.not_true, ite_f rfl, ite_f rfl, bnd1_eq (rBools_self _ hwl.1), Bool.not_true, ite_f rfl]
  cases hs : shortN xs m with
  | false => rfl
  | true =>
   rw [ite_t rfl, hwl.2 hs, bne_self_eq_false]
 rw [ite_f rfl, bnd3_eq d2, bnd2_eq (iNeedOfLess_eq ys l k (by omega)), bnd2_eq (sNeedOfLess_eq ys l k (by omega))]
 refine jn_is (fun J => J false) (fun J => by rw [ite_f (bne_self_eq_false _), beq_self_eq_true]; rfl) ?_
 rw [ite_f rfl, bnd2_eq d3, bnd2_eq (iLessQ_eq n q), bnd2_eq (sLessQ_eq n q)]
 refine jn_is (fun J => J false) (fun J => by rw [ite_f (bne_self_eq_false _), beq_self_eq_true]; rfl) ?_
 have htl : (tbV1 t).length ≤ 1048576 := by
  unfold tbV1
  cases tbB1 t with
  | false => simp
  | true => rw [cond_true, tbL1_len]; omega
 rw [ite_f rfl, bnd1_eq d4, bnd2_eq (iLessTable_eq t), bnd2_eq (sLessTable_eq t)]
 refine jn_is (fun J => J false) (fun J => by rw [beq_self_eq_true, Bool.not_true, ite_f rfl, bnd1_eq (rInts_eq _ _ htl), beq_self_eq_true]; rfl) ?_
 rw [ite_f rfl, bnd2_eq d5, bnd2_eq (iMore_eq a b), bnd2_eq (sMore_eq a b)]
 refine jn_is (fun J => J false) (fun J => ?_) ?_
 ·rw [ite_f (bne_self_eq_false _), beq_self_eq_true, Bool.not_true, ite_f rfl]
  cases hb : mtB a b with
  | false => rfl
  | true =>
   obtain ⟨c, rfl, h1, h5, m0, m1⟩ := mtB_in hb
   have hp := more_pos h1 h5 ⟨m0, m1⟩
   have hv : mtV (c : Int) b = nd b (List.replicate c 0) - ndL (frL (c : Int) b) := by unfold mtV; rw [hb, cond_true, Int.toNat_natCast]
   rw [ite_t rfl, hv, ite_f (decide_eq_false (by omega))]
   by_cases e : b = 0
   ·subst e
    rw [ite_t (by rfl), more_zero h1 h5, Int.sub_self]; rfl
   ·rw [ite_f (by rw [beq_eq_false_iff_ne]; exact e)]
 rw [ite_f rfl]
 refine jn_is (fun J => J ()) (fun J => ?_) ?_
 ·cases hno : noY ys l k with
  | false => rfl
  | true =>
   have hno2 := hno
   unfold noY at hno2
   rw [Bool.and_eq_true, Bool.not_eq_true'] at hno2
   obtain ⟨hs, h2, c, rfl, c1, c2⟩ := noB_in hno2.1
   obtain ⟨g1, g2, g3, g4, g5, g6⟩ := short_in hs
   have hnd := (nd_two g3 g5 g1 h2).2.1 c c1 c2 hno2.2
   have e1 : noV ys l (c : Int) = ndO (nd l) l ys c := by unfold noV; rw [hno, cond_true, Int.toNat_natCast]
   have e2 : lnV ys l = nd l ys := by unfold lnV; rw [hs]; rfl
   rw [ite_t rfl, bnd2_eq (iLNd_eq ys l (by omega)), hs]
   refine jn_is (fun K => K false) (fun K => ?_) rfl
   rw [Bool.not_true, ite_f rfl, e1, e2, decide_eq_false (by omega)]
 refine jn_is (fun J => J ()) (fun J => ?_) ?_
 ·cases hc : clB n q with
  | false => refine jn_is (fun K => K false) (fun K => rfl) rfl
  | true =>
   obtain ⟨c, d, rfl, rfl, c1, c2, c3⟩ := clB_in hc
   refine jn_is (fun K => K true) (fun K => ?_) ?_
   ·rw [ite_t rfl, decide_eq_true (by omega)]
   have e1 : lqV (c : Int) (d : Int) = lqK d := by unfold lqV; rw [hc, cond_true, Int.toNat_natCast]
   rw [ite_t rfl, e1, bnd2_eq (iNumbersOf_eq _ _), isQ_lq12 c1 c2 c3]
   refine jn_is (fun K => K false) (fun K => ?_) rfl
   rw [Bool.not_true, ite_f rfl, nums_lq c1 c2 c3, bne_self_eq_false]
 cases hb : bbB xs m with
 | false => rfl
 | true =>
  obtain ⟨hs, h2⟩ := bbB_in hb
  obtain ⟨g1, g2, g3, g4, g5, g6⟩ := short_in hs
  obtain ⟨k4, k1, k2, k3, k5⟩ := bk_fact g3 g5 g1 h2
  have hN := okR_okN g3 g2 g1
  have e0 : bbV xs m = ((bkN xs.length m xs : Nat) : Int) := by unfold bbV; rw [hb]; rfl
  have hnb : noB xs m ((bkN xs.length m xs : Nat) : Int) = true := by
   unfold noB clB
   rw [hs, decide_eq_true h2, decide_eq_true (by omega), decide_eq_true (by omega), decide_eq_true (by omega), decide_eq_true (by omega)]; rfl
  have hny : noY xs m ((bkN xs.length m xs : Nat) : Int) = true := by unfold noY; rw [hnb, Int.toNat_natCast, k3]; rfl
  have e1 : noV xs m ((bkN xs.length m xs : Nat) : Int) = nd m xs := by
   unfold noV
   rw [hny, cond_true, Int.toNat_natCast]; exact k5
  have e2 : lnV xs m = nd m xs := by unfold lnV; rw [hs]; rfl
  have hct : ctV xs m = cts xs m := by unfold ctV; rw [g6]; rfl
  have hle := sets_less g3 g5 g2 g1
  rw [Bool.not_true, ite_f rfl, e0, bnd2_eq (iNeedOfLess_eq xs m _ (by omega)), bnd2_eq (iCountsOf_eq xs m (by omega)), hct, bnd2_eq (iNeedOf_eq hN.2), hny, g6, e1, e2, ite_t rfl, ite_t rfl, ite_t rfl, beq_self_eq_true, ite_t rfl]
  congr 1
  exact decide_eq_true hle
end Go.Tl
