/-
  Plain laws for trees: what the program's and the reference's readers of a tree return. No statement of the seat is proved here.
-/
import Derived.Test.YtpmifocfmoekdaaTlPure
namespace Go.Tl
set_option linter.unusedVariables false
set_option linter.unusedSimpArgs false

abbrev Nd := Int × Int × Int
def nodeC (x : Nd) : List T := [T.int .i64 x.1, T.int .i64 x.2.1, T.int .i64 x.2.2]
theorem len_node (xs : List Nd) : (List.flatMap nodeC xs).length = xs.length * 3 := by
  induction xs with
  | nil => rfl
  | cons x xs ih => rw [List.flatMap_cons, List.length_append, ih, List.length_cons, Nat.succ_mul, Nat.add_comm]; rfl
theorem drop_node : ∀ (xs : List Nd) (i : Nat), List.drop (i * 3) (List.flatMap nodeC xs) = List.flatMap nodeC (List.drop i xs)
  | xs, 0 => by simp
  | [], i + 1 => by simp
  | x :: xs, i + 1 => by
    rw [List.flatMap_cons, List.drop_succ_cons, ← drop_node xs i, Nat.succ_mul, Nat.add_comm, ← List.drop_drop]
    rfl
theorem at_node {xs : List Nd} {j i : Nat} (hj : j = i * 3) (h : i < xs.length) : T.agg (List.take 3 (List.drop j (List.flatMap nodeC xs))) = T.agg [T.int .i64 (List.getD xs i (0, 0, 0)).1, T.int .i64 (List.getD xs i (0, 0, 0)).2.1, T.int .i64 (List.getD xs i (0, 0, 0)).2.2] := by
  subst hj
  rw [drop_node, List.drop_eq_getElem_cons h, List.flatMap_cons, List.getD_eq_getElem?_getD, List.getElem?_eq_getElem h]
  rfl
theorem fit_node {xs : List Nd} {j i : Nat} (hj : j = i * 3) (h : i < xs.length) : 3 ≤ List.length (List.drop j (List.flatMap nodeC xs)) := by
  subst hj
  rw [List.length_drop, len_node]; omega
def leafB (q y n : Int) : Bool := (q == -1) && ((y == -1) && ((n == -1) && true))
def isQ (n q : Int) : Bool := (decide (1 ≤ n) && decide (n ≤ 12)) && (decide (0 ≤ q) && decide (q ≤ 2 ^ n.toNat - 1))
theorem pow_bd {n : Int} (h0 : 0 ≤ n) (h1 : n ≤ 12) : 1 ≤ (2 : Int) ^ n.toNat ∧ (2 : Int) ^ n.toNat ≤ 4096 := by
  obtain ⟨k, rfl⟩ : ∃ k : Nat, n = k := ⟨n.toNat, by omega⟩
  have : k ≤ 12 := by omega
  simp only [Int.toNat_natCast]
  match k, this with
  | 0, _ | 1, _ | 2, _ | 3, _ | 4, _ | 5, _ | 6, _ | 7, _ | 8, _ | 9, _ | 10, _ | 11, _ | 12, _ => decide
theorem shl_small {n : Int} (h0 : 0 ≤ n) (h1 : n ≤ 12) : T.int .i64 (IntKind.wrap .i64 (1 * 2 ^ (min (Int.toNat n) 64))) = T.int .i64 (2 ^ n.toNat) := by
  have := pow_bd h0 h1
  rw [Nat.min_eq_left (by omega), Int.one_mul, wrap_i64_id (by omega) (by omega)]
def readN (n : Int) (t : List Nd) : Nat → Int → T × Int × Bool
  | 0, _ => (.nilp, 0, false)
  | d + 1, at' =>
    if (decide (0 ≤ at') && decide (at' ≤ (t.length : Int) - 1)) = false then (.nilp, 0, false) else
    let x := t.getD at'.toNat (0, 0, 0)
    if leafB x.1 x.2.1 x.2.2 = true then (.ptr [T.int .i64 0, T.nilp, T.nilp], at' + 1, true) else
    if isQ n x.1 = false ∨ ¬ x.2.1 = at' + 1 then (.nilp, 0, false) else
    let y := readN n t d (at' + 1)
    if y.2.2 = false ∨ ¬ x.2.2 = y.2.1 then (.nilp, 0, false) else
    let z := readN n t d y.2.1
    (.ptr [T.int .i64 x.1, y.1, z.1], z.2.1, z.2.2)
theorem readN_form (n : Int) (t : List Nd) (d : Nat) (a : Int) : (readN n t d a).1 = .nilp ∨ ∃ cs, (readN n t d a).1 = .ptr cs := by
  cases d with
  | zero => exact .inl rfl
  | succ d =>
    rw [readN]
    split
    · exact .inl rfl
    · dsimp only
      split
      · exact .inr ⟨_, rfl⟩
      · split
        · exact .inl rfl
        · split
          · exact .inl rfl
          · exact .inr ⟨_, rfl⟩
theorem readN_end (n : Int) (t : List Nd) : ∀ (d : Nat) (a : Int), 0 ≤ a → (readN n t d a).2.2 = true → a + 1 ≤ (readN n t d a).2.1
  | 0, a, _, h => by simp [readN] at h
  | d + 1, a, ha, h => by
    rw [readN] at h ⊢
    split at h
    · cases h
    · rename_i h1
      rw [if_neg h1]
      dsimp only at h ⊢
      split at h
      · rename_i h2; rw [if_pos h2]; exact Int.le_refl _
      · rename_i h2
        rw [if_neg h2]
        split at h
        · cases h
        · rename_i h3
          rw [if_neg h3]
          split at h
          · cases h
          · rename_i h4
            rw [if_neg h4]
            dsimp only at h ⊢
            have h5 : (readN n t d (a + 1)).2.2 = true := by
              cases hc : (readN n t d (a + 1)).2.2 with
              | true => rfl
              | false => exact absurd (.inl hc) h4
            have h6 := readN_end n t d (a + 1) (by omega) h5
            have h7 := readN_end n t d _ (by omega) h
            omega
def rootN (n : Int) (t : List Nd) : T × Bool :=
  if (decide (1 ≤ n) && decide (n ≤ 12)) = false ∨ (decide (1 ≤ (t.length : Int)) && decide ((t.length : Int) ≤ 127)) = false then (.nilp, false)
  else ((readN n t 7 0).1, (readN n t 7 0).2.2 && ((readN n t 7 0).2.1 == (t.length : Int)))
theorem in_true {lo x hi : Int} (h1 : lo ≤ x) (h2 : x ≤ hi) : (decide (lo ≤ x) && decide (x ≤ hi)) = true := by simp [h1, h2]
theorem in_false {lo x hi : Int} (h : ¬ (lo ≤ x ∧ x ≤ hi)) : (decide (lo ≤ x) && decide (x ≤ hi)) = false := by
  cases hc : (decide (lo ≤ x) && decide (x ≤ hi)) with
  | false => rfl
  | true =>
    simp only [Bool.and_eq_true, decide_eq_true_eq] at hc
    exact absurd hc h
section
variable {n : Int} {t : List Nd} {d : Nat} {a : Int}
theorem readN_deep (h : d = 0) : readN n t d a = (.nilp, 0, false) := by subst h; rfl
theorem readN_out (h : (decide (0 ≤ a) && decide (a ≤ (t.length : Int) - 1)) = false) : readN n t d a = (.nilp, 0, false) := by
  cases d with
  | zero => rfl
  | succ d => rw [readN, if_pos h]
theorem readN_leaf (hd : 0 < d) (h1 : (decide (0 ≤ a) && decide (a ≤ (t.length : Int) - 1)) = true) (h2 : leafB (t.getD a.toNat (0, 0, 0)).1 (t.getD a.toNat (0, 0, 0)).2.1 (t.getD a.toNat (0, 0, 0)).2.2 = true) : readN n t d a = (.ptr [T.int .i64 0, T.nilp, T.nilp], a + 1, true) := by
  obtain ⟨d, rfl⟩ : ∃ e, d = e + 1 := ⟨d - 1, by omega⟩
  rw [readN, if_neg (by rw [h1]; simp)]
  dsimp only
  rw [if_pos h2]
theorem readN_noq (hd : 0 < d) (h1 : (decide (0 ≤ a) && decide (a ≤ (t.length : Int) - 1)) = true) (h2 : leafB (t.getD a.toNat (0, 0, 0)).1 (t.getD a.toNat (0, 0, 0)).2.1 (t.getD a.toNat (0, 0, 0)).2.2 = false)
    (h3 : isQ n (t.getD a.toNat (0, 0, 0)).1 = false ∨ ¬ (t.getD a.toNat (0, 0, 0)).2.1 = a + 1) : readN n t d a = (.nilp, 0, false) := by
  obtain ⟨d, rfl⟩ : ∃ e, d = e + 1 := ⟨d - 1, by omega⟩
  rw [readN, if_neg (by rw [h1]; simp)]
  dsimp only
  rw [if_neg (by rw [h2]; simp), if_pos h3]
theorem readN_bad (hd : 0 < d) (h1 : (decide (0 ≤ a) && decide (a ≤ (t.length : Int) - 1)) = true) (h2 : leafB (t.getD a.toNat (0, 0, 0)).1 (t.getD a.toNat (0, 0, 0)).2.1 (t.getD a.toNat (0, 0, 0)).2.2 = false)
    (h3 : isQ n (t.getD a.toNat (0, 0, 0)).1 = true) (h4 : (t.getD a.toNat (0, 0, 0)).2.1 = a + 1)
    (h5 : (readN n t (d - 1) (a + 1)).2.2 = false ∨ ¬ (t.getD a.toNat (0, 0, 0)).2.2 = (readN n t (d - 1) (a + 1)).2.1) : readN n t d a = (.nilp, 0, false) := by
  obtain ⟨d, rfl⟩ : ∃ e, d = e + 1 := ⟨d - 1, by omega⟩
  rw [readN, if_neg (by rw [h1]; simp)]
  dsimp only
  rw [Nat.add_sub_cancel] at h5
  rw [if_neg (by rw [h2]; simp), if_neg (by rw [h3]; simpa using h4), if_pos h5]
theorem readN_node (hd : 0 < d) (h1 : (decide (0 ≤ a) && decide (a ≤ (t.length : Int) - 1)) = true) (h2 : leafB (t.getD a.toNat (0, 0, 0)).1 (t.getD a.toNat (0, 0, 0)).2.1 (t.getD a.toNat (0, 0, 0)).2.2 = false)
    (h3 : isQ n (t.getD a.toNat (0, 0, 0)).1 = true) (h4 : (t.getD a.toNat (0, 0, 0)).2.1 = a + 1)
    (h5 : (readN n t (d - 1) (a + 1)).2.2 = true) (h6 : (t.getD a.toNat (0, 0, 0)).2.2 = (readN n t (d - 1) (a + 1)).2.1) :
    readN n t d a = (.ptr [T.int .i64 (t.getD a.toNat (0, 0, 0)).1, (readN n t (d - 1) (a + 1)).1, (readN n t (d - 1) (readN n t (d - 1) (a + 1)).2.1).1], (readN n t (d - 1) (readN n t (d - 1) (a + 1)).2.1).2.1, (readN n t (d - 1) (readN n t (d - 1) (a + 1)).2.1).2.2) := by
  obtain ⟨d, rfl⟩ : ∃ e, d = e + 1 := ⟨d - 1, by omega⟩
  rw [readN, if_neg (by rw [h1]; simp)]
  dsimp only
  rw [if_neg (by rw [h2]; simp), if_neg (by rw [h3]; simpa using h4), if_neg (by
    rintro (h | h)
    · rw [Nat.add_sub_cancel] at h5; rw [h5] at h; cases h
    · exact h h6)]
  rfl
end
end Go.Tl
