/-
  Plain laws for walks in a tree: the way to a node, the leaf of a secret, a play of answers. No statement of the seat is proved here.
-/
import Derived.Test.YtpmifocfmoekdaaTlTree
namespace Go.Tl
set_option linter.unusedVariables false
set_option linter.unusedSimpArgs false
abbrev ndOf (t : List Nd) (a : Int) : Nd := t.getD a.toNat (0, 0, 0)
/-- The tree is read well from a node, within d levels. -/
def Ok (n : Int) (t : List Nd) (d : Nat) (a : Int) : Prop := (readN n t d a).2.2 = true
abbrev eN (n : Int) (t : List Nd) (d : Nat) (a : Int) : Int := (readN n t d a).2.1
theorem ok_pos {n : Int} {t : List Nd} {d : Nat} {a : Int} (h : Ok n t d a) : 0 < d := by
  cases d with
  | zero => simp [Ok, readN] at h
  | succ d => omega
theorem ok_in {n : Int} {t : List Nd} {d : Nat} {a : Int} (h : Ok n t d a) : 0 ≤ a ∧ a.toNat < t.length := by
  obtain ⟨d, rfl⟩ : ∃ e, d = e + 1 := ⟨d - 1, by have := ok_pos h; omega⟩
  unfold Ok at h
  rw [readN] at h
  split at h
  · cases h
  · rename_i h1
    simp only [Bool.and_eq_false_iff, decide_eq_false_iff_not] at h1
    omega
theorem ok_end {n : Int} {t : List Nd} {d : Nat} {a : Int} (h : Ok n t d a) : a + 1 ≤ eN n t d a := readN_end n t d a (ok_in h).1 h
theorem leaf_eq {q y n : Int} (h : leafB q y n = true) : q = -1 ∧ y = -1 ∧ n = -1 := by
  simp only [leafB, Bool.and_eq_true, beq_iff_eq, and_true] at h
  exact h
theorem ok_leaf {n : Int} {t : List Nd} {d : Nat} {a : Int} (h : Ok n t d a) (hl : leafB (ndOf t a).1 (ndOf t a).2.1 (ndOf t a).2.2 = true) : eN n t d a = a + 1 := by
  obtain ⟨d, rfl⟩ : ∃ e, d = e + 1 := ⟨d - 1, by have := ok_pos h; omega⟩
  have hi := ok_in h
  unfold eN
  rw [readN_leaf (by omega) (in_true (by omega) (by omega)) hl]
/-- An inner node: its parts are read well. -/
theorem ok_node {n : Int} {t : List Nd} {d : Nat} {a : Int} (h : Ok n t d a) (hl : leafB (ndOf t a).1 (ndOf t a).2.1 (ndOf t a).2.2 = false) :
    isQ n (ndOf t a).1 = true ∧ (ndOf t a).2.1 = a + 1 ∧ (ndOf t a).2.2 = eN n t (d - 1) (a + 1) ∧ Ok n t (d - 1) (a + 1) ∧ Ok n t (d - 1) (ndOf t a).2.2 ∧ eN n t d a = eN n t (d - 1) (ndOf t a).2.2 ∧ 0 < d := by
  obtain ⟨d, rfl⟩ : ∃ e, d = e + 1 := ⟨d - 1, by have := ok_pos h; omega⟩
  have hi := ok_in h
  have h' := h
  unfold Ok at h'
  unfold eN
  rw [readN] at h'
  rw [readN, if_neg (by rw [in_true (by omega) (by omega)]; simp)]
  rw [if_neg (by rw [in_true (by omega) (by omega)]; simp)] at h'
  dsimp only at h' ⊢
  rw [if_neg (by rw [hl]; simp)] at h' ⊢
  split at h'
  · cases h'
  · rename_i h1
    rw [if_neg h1]
    split at h'
    · cases h'
    · rename_i h2
      rw [if_neg h2]
      simp only [not_or, Bool.not_eq_false, Classical.not_not] at h1 h2
      simp only [Nat.add_sub_cancel]
      refine ⟨h1.1, h1.2, h2.2, h2.1, ?_, ?_, by omega⟩
      · unfold Ok ndOf; rw [h2.2]; exact h'
      · unfold ndOf; rw [h2.2]
theorem ok_yes {n : Int} {t : List Nd} {d : Nat} {a : Int} (h : Ok n t d a) : decide ((ndOf t a).2.1 ≥ 0) = !(leafB (ndOf t a).1 (ndOf t a).2.1 (ndOf t a).2.2) := by
  cases hl : leafB (ndOf t a).1 (ndOf t a).2.1 (ndOf t a).2.2 with
  | true => rw [(leaf_eq hl).2.1]; rfl
  | false =>
    have := (ok_node h hl).2.1
    have := (ok_in h).1
    simp only [Bool.not_false, decide_eq_true_eq]
    omega
theorem root_ok {n : Int} {t : List Nd} (h : (rootN n t).2 = true) : Ok n t 7 0 ∧ eN n t 7 0 = (t.length : Int) ∧ 1 ≤ n ∧ n ≤ 12 ∧ t.length ≤ 127 := by
  unfold rootN at h
  split at h
  · cases h
  · rename_i h1
    simp only [Bool.and_eq_true, beq_iff_eq] at h
    simp only [Bool.and_eq_false_iff, decide_eq_false_iff_not] at h1
    exact ⟨h.1, h.2, by omega, by omega, by omega⟩
theorem root_count {n : Int} {t : List Nd} (h : (rootN n t).2 = true) : (decide (1 ≤ n) && decide (n ≤ 12)) = true := by
  have := root_ok h
  exact in_true this.2.2.1 this.2.2.2.1
-- the leaf of a secret
def hasB (q s : Int) : Bool := bits .and .i64 (Int.fdiv q (2 ^ (min (Int.toNat s) 64))) 1 == (1 : Int)
def trueN (t : List Nd) (s : Int) : Nat → Int → Int × Int
  | 0, a => (a, 0)
  | d + 1, a => if leafB (ndOf t a).1 (ndOf t a).2.1 (ndOf t a).2.2 = true then (a, 0) else
    ((trueN t s d (if hasB (ndOf t a).1 s = true then (ndOf t a).2.1 else (ndOf t a).2.2)).1, (trueN t s d (if hasB (ndOf t a).1 s = true then (ndOf t a).2.1 else (ndOf t a).2.2)).2 + 1)
theorem true_leaf {n : Int} {t : List Nd} {s : Int} {d : Nat} {a : Int} (h : Ok n t d a) (hl : leafB (ndOf t a).1 (ndOf t a).2.1 (ndOf t a).2.2 = true) : trueN t s d a = (a, 0) := by
  obtain ⟨d, rfl⟩ : ∃ e, d = e + 1 := ⟨d - 1, by have := ok_pos h; omega⟩
  rw [trueN, if_pos hl]
theorem true_suc (t : List Nd) (s : Int) (d : Nat) (a : Int) : trueN t s (d + 1) a = if leafB (ndOf t a).1 (ndOf t a).2.1 (ndOf t a).2.2 = true then (a, 0) else
    ((trueN t s d (if hasB (ndOf t a).1 s = true then (ndOf t a).2.1 else (ndOf t a).2.2)).1, (trueN t s d (if hasB (ndOf t a).1 s = true then (ndOf t a).2.1 else (ndOf t a).2.2)).2 + 1) := rfl
/-- Where the walk for a secret stands: what is still to come. -/
def TrueAt (n : Int) (t : List Nd) (s : Int) (d : Nat) (a k : Int) : Prop :=
  Ok n t d a ∧ 0 ≤ k ∧ k + d ≤ 7 ∧ trueN t s 7 0 = ((trueN t s d a).1, (trueN t s d a).2 + k)
theorem trueAt_0 {n : Int} {t : List Nd} {s : Int} (h : (rootN n t).2 = true) : TrueAt n t s 7 0 0 := ⟨(root_ok h).1, by omega, by omega, by simp⟩
theorem trueAt_step {n : Int} {t : List Nd} {s : Int} {d : Nat} {a k : Int} (h : TrueAt n t s d a k) (hl : leafB (ndOf t a).1 (ndOf t a).2.1 (ndOf t a).2.2 = false) :
    0 < d ∧ (hasB (ndOf t a).1 s = true → TrueAt n t s (d - 1) (ndOf t a).2.1 (k + 1)) ∧ (hasB (ndOf t a).1 s = false → TrueAt n t s (d - 1) (ndOf t a).2.2 (k + 1)) := by
  obtain ⟨h1, h2, h3, h4⟩ := h
  obtain ⟨n1, n2, n3, n4, n5, n6, n7⟩ := ok_node h1 hl
  obtain ⟨d, rfl⟩ : ∃ e, d = e + 1 := ⟨d - 1, by omega⟩
  rw [true_suc t s d a, if_neg (by rw [hl]; simp)] at h4
  simp only [Nat.add_sub_cancel] at *
  refine ⟨by omega, fun hb => ⟨by rw [n2]; exact n4, by omega, by omega, ?_⟩, fun hb => ⟨n5, by omega, by omega, ?_⟩⟩
  · rw [h4, if_pos hb]; simp only [Prod.mk.injEq, true_and]; omega
  · rw [h4, if_neg (by rw [hb]; simp)]; simp only [Prod.mk.injEq, true_and]; omega
theorem trueAt_in {n : Int} {t : List Nd} {s : Int} {d : Nat} {a k : Int} (h : TrueAt n t s d a k) : 0 ≤ a ∧ a.toNat < t.length ∧ 0 ≤ k ∧ k ≤ 7 := ⟨(ok_in h.1).1, (ok_in h.1).2, h.2.1, by have := h.2.2.1; omega⟩
theorem trueAt_end {n : Int} {t : List Nd} {s : Int} {d : Nat} {a k : Int} (h : TrueAt n t s d a k) (hl : leafB (ndOf t a).1 (ndOf t a).2.1 (ndOf t a).2.2 = true) : trueN t s 7 0 = (a, k) := by
  rw [h.2.2.2, true_leaf h.1 hl]; simp
theorem trueAt_yes {n : Int} {t : List Nd} {s : Int} {d : Nat} {a k : Int} (h : TrueAt n t s d a k) {b : Bool} (hb : decide ((ndOf t a).2.1 ≥ 0) = b) : leafB (ndOf t a).1 (ndOf t a).2.1 (ndOf t a).2.2 = !b := by
  rw [ok_yes h.1] at hb
  rw [← hb]; simp
def numB (n s : Int) : Bool := decide (1 ≤ n) && decide (n ≤ 12) && (decide (0 ≤ s) && decide (s ≤ n - 1))
theorem numB_eq {n s : Int} (h : (decide (1 ≤ n) && decide (n ≤ 12)) = true) : numB n s = (decide (0 ≤ s) && decide (s ≤ n - 1)) := by unfold numB; rw [h]; rfl
theorem numB_in {n s : Int} (h : numB n s = true) : 0 ≤ s ∧ s ≤ n - 1 ∧ 1 ≤ n ∧ n ≤ 12 := by
  simp only [numB, Bool.and_eq_true, decide_eq_true_eq] at h
  omega
def tlB (n : Int) (t : List Nd) (s : Int) : Bool := (rootN n t).2 && numB n s
def tlN (n : Int) (t : List Nd) (s : Int) : Int := if tlB n t s = true then (trueN t s 7 0).1 else 0
theorem tl_tree {n : Int} {t : List Nd} {s : Int} (h : (rootN n t).2 = false) : T.tup [T.int .i64 0, T.bool false] = T.tup [T.int .i64 (tlN n t s), T.bool (tlB n t s)] := by simp [tlN, tlB, h]
theorem tl_num {n : Int} {t : List Nd} {s : Int} (h : numB n s = false) : T.tup [T.int .i64 0, T.bool false] = T.tup [T.int .i64 (tlN n t s), T.bool (tlB n t s)] := by simp [tlN, tlB, h]
theorem tl_good {n : Int} {t : List Nd} {s : Int} (h : (rootN n t).2 = true) (h2 : numB n s = true) : T.tup [T.int .i64 (trueN t s 7 0).1, T.bool true] = T.tup [T.int .i64 (tlN n t s), T.bool (tlB n t s)] := by simp [tlN, tlB, h, h2]
-- the way to a node
def askedC (x : Int × Bool) : List T := [T.int .i64 x.1, T.bool x.2]
theorem len_asked (xs : List (Int × Bool)) : (List.flatMap askedC xs).length = xs.length * 2 := by
  induction xs with
  | nil => rfl
  | cons x xs ih => rw [List.flatMap_cons, List.length_append, ih, List.length_cons, Nat.succ_mul, Nat.add_comm]; rfl
theorem drop_asked : ∀ (xs : List (Int × Bool)) (i : Nat), List.drop (i * 2) (List.flatMap askedC xs) = List.flatMap askedC (List.drop i xs)
  | xs, 0 => by simp
  | [], i + 1 => by simp
  | x :: xs, i + 1 => by
    rw [List.flatMap_cons, List.drop_succ_cons, ← drop_asked xs i, Nat.succ_mul, Nat.add_comm, ← List.drop_drop]
    rfl
theorem at_asked {xs : List (Int × Bool)} {j i : Nat} (hj : j = i * 2) (h : i < xs.length) : T.agg (List.take 2 (List.drop j (List.flatMap askedC xs))) = T.agg [T.int .i64 (List.getD xs i (0, false)).1, T.bool (List.getD xs i (0, false)).2] := by
  subst hj
  rw [drop_asked, List.drop_eq_getElem_cons h, List.flatMap_cons, List.getD_eq_getElem?_getD, List.getElem?_eq_getElem h]
  rfl
theorem fit_asked {xs : List (Int × Bool)} {j i : Nat} (hj : j = i * 2) (h : i < xs.length) : 2 ≤ List.length (List.drop j (List.flatMap askedC xs)) := by
  subst hj
  rw [List.length_drop, len_asked]; omega
def wayN (t : List Nd) (node : Int) : Nat → Int → List (Int × Bool)
  | 0, _ => []
  | d + 1, a => if a = node then [] else ((ndOf t a).1, decide (node < (ndOf t a).2.2)) :: wayN t node d (if node < (ndOf t a).2.2 then (ndOf t a).2.1 else (ndOf t a).2.2)
theorem way_suc (t : List Nd) (node : Int) (d : Nat) (a : Int) : wayN t node (d + 1) a = if a = node then [] else ((ndOf t a).1, decide (node < (ndOf t a).2.2)) :: wayN t node d (if node < (ndOf t a).2.2 then (ndOf t a).2.1 else (ndOf t a).2.2) := rfl
def WayAt (n : Int) (t : List Nd) (node : Int) (d : Nat) (a : Int) (out : List (Int × Bool)) : Prop :=
  Ok n t d a ∧ out.length + d ≤ 7 ∧ a ≤ node ∧ node < eN n t d a ∧ wayN t node 7 0 = out ++ wayN t node d a
theorem wayAt_0 {n : Int} {t : List Nd} {node : Int} (h : (rootN n t).2 = true) (h0 : 0 ≤ node) (h1 : node < (t.length : Int)) : WayAt n t node 7 0 [] :=
  ⟨(root_ok h).1, by simp, h0, by rw [(root_ok h).2.1]; exact h1, by simp⟩
theorem wayAt_end {n : Int} {t : List Nd} {node : Int} {d : Nat} {a : Int} {out : List (Int × Bool)} (h : WayAt n t node d a out) (he : a = node) : wayN t node 7 0 = out := by
  obtain ⟨h1, h2, h3, h4, h5⟩ := h
  obtain ⟨d, rfl⟩ : ∃ e, d = e + 1 := ⟨d - 1, by have := ok_pos h1; omega⟩
  rw [h5, way_suc t node d a, if_pos he]; simp
theorem wayAt_in {n : Int} {t : List Nd} {node : Int} {d : Nat} {a : Int} {out : List (Int × Bool)} (h : WayAt n t node d a out) : 0 ≤ a ∧ a.toNat < t.length ∧ out.length ≤ 7 := ⟨(ok_in h.1).1, (ok_in h.1).2, by have := h.2.1; omega⟩
theorem wayAt_leaf {n : Int} {t : List Nd} {node : Int} {d : Nat} {a : Int} {out : List (Int × Bool)} (h : WayAt n t node d a out) (he : ¬ a = node) : leafB (ndOf t a).1 (ndOf t a).2.1 (ndOf t a).2.2 = false := by
  cases hl : leafB (ndOf t a).1 (ndOf t a).2.1 (ndOf t a).2.2 with
  | false => rfl
  | true => have := ok_leaf h.1 hl; have := h.2.2.1; have := h.2.2.2.1; omega
theorem wayAt_yes {n : Int} {t : List Nd} {node : Int} {d : Nat} {a : Int} {out : List (Int × Bool)} (h : WayAt n t node d a out) (he : ¬ a = node) (hb : node < (ndOf t a).2.2) :
    WayAt n t node (d - 1) (ndOf t a).2.1 (out ++ [((ndOf t a).1, true)]) := by
  obtain ⟨n1, n2, n3, n4, n5, n6, n7⟩ := ok_node h.1 (wayAt_leaf h he)
  obtain ⟨h1, h2, h3, h4, h5⟩ := h
  obtain ⟨d, rfl⟩ : ∃ e, d = e + 1 := ⟨d - 1, by omega⟩
  simp only [Nat.add_sub_cancel] at *
  rw [n2]
  refine ⟨n4, by simp; omega, by omega, by omega, ?_⟩
  rw [h5, way_suc t node d a, if_neg he, if_pos hb, n2, decide_eq_true hb, List.append_assoc]; rfl
theorem wayAt_no {n : Int} {t : List Nd} {node : Int} {d : Nat} {a : Int} {out : List (Int × Bool)} (h : WayAt n t node d a out) (he : ¬ a = node) (hb : ¬ node < (ndOf t a).2.2) :
    WayAt n t node (d - 1) (ndOf t a).2.2 (out ++ [((ndOf t a).1, false)]) := by
  obtain ⟨n1, n2, n3, n4, n5, n6, n7⟩ := ok_node h.1 (wayAt_leaf h he)
  obtain ⟨h1, h2, h3, h4, h5⟩ := h
  obtain ⟨d, rfl⟩ : ∃ e, d = e + 1 := ⟨d - 1, by omega⟩
  simp only [Nat.add_sub_cancel] at *
  refine ⟨n5, by simp; omega, by omega, by omega, ?_⟩
  rw [h5, way_suc t node d a, if_neg he, if_neg hb, decide_eq_false hb, List.append_assoc]; rfl
theorem wayAt_d {n : Int} {t : List Nd} {node : Int} {d : Nat} {a : Int} {out : List (Int × Bool)} (h : WayAt n t node d a out) : 0 < d := ok_pos h.1
def ndB (n : Int) (t : List Nd) (node : Int) : Bool := (rootN n t).2 && (decide (0 ≤ node) && decide (node ≤ (t.length : Int) - 1))
theorem ndB_ok {n : Int} {t : List Nd} {node : Int} (h : ndB n t node = true) : (rootN n t).2 = true ∧ 0 ≤ node ∧ node < (t.length : Int) := by
  simp only [ndB, Bool.and_eq_true, decide_eq_true_eq] at h
  exact ⟨h.1, by omega, by omega⟩
theorem ndB_tree {n : Int} {t : List Nd} {node : Int} (h : (rootN n t).2 = false) : T.bool false = T.bool (ndB n t node) := by simp [ndB, h]
theorem ndB_in {n : Int} {t : List Nd} {node : Int} (h : (rootN n t).2 = true) : T.bool (decide (0 ≤ node) && decide (node ≤ (t.length : Int) - 1)) = T.bool (ndB n t node) := by simp [ndB, h]
def dpN (n : Int) (t : List Nd) (node : Int) : Int := if ndB n t node = true then ((wayN t node 7 0).length : Int) else 0
theorem dp_bad {n : Int} {t : List Nd} {node : Int} (h : ndB n t node = false) : T.tup [T.int .i64 0, T.bool false] = T.tup [T.int .i64 (dpN n t node), T.bool (ndB n t node)] := by simp [dpN, h]
theorem dp_good {n : Int} {t : List Nd} {node : Int} (h : ndB n t node = true) : T.tup [T.int .i64 ((wayN t node 7 0).length : Int), T.bool true] = T.tup [T.int .i64 (dpN n t node), T.bool (ndB n t node)] := by simp [dpN, h]
theorem way_le7 {n : Int} {t : List Nd} {node : Int} : ∀ (d : Nat) (a : Int), (wayN t node d a).length ≤ d
  | 0, a => by simp [wayN]
  | d + 1, a => by
    rw [wayN]; split
    · simp
    · rw [List.length_cons]; have := way_le7 (n := n) (t := t) (node := node) d (if node < (ndOf t a).2.2 then (ndOf t a).2.1 else (ndOf t a).2.2); omega
/-- The way to the leaf of a secret is as long as the walk to it, and the leaf stands in the part. -/
theorem true_way {n : Int} {t : List Nd} {s : Int} : ∀ (d : Nat) (a : Int), Ok n t d a → a ≤ (trueN t s d a).1 ∧ (trueN t s d a).1 < eN n t d a ∧ 0 ≤ (trueN t s d a).2 ∧ (trueN t s d a).2 ≤ d ∧ ((wayN t (trueN t s d a).1 d a).length : Int) = (trueN t s d a).2
  | 0, a, h => by have := ok_pos h; omega
  | d + 1, a, h => by
    have hi := ok_in h
    have he := ok_end h
    cases hl : leafB (ndOf t a).1 (ndOf t a).2.1 (ndOf t a).2.2 with
    | true =>
      rw [true_leaf h hl]
      refine ⟨by omega, by omega, by omega, by omega, ?_⟩
      rw [wayN, if_pos rfl]; rfl
    | false =>
      obtain ⟨n1, n2, n3, n4, n5, n6, n7⟩ := ok_node h hl
      simp only [Nat.add_sub_cancel] at n3 n4 n5 n6
      have e4 := ok_end n4
      have e5 := ok_end n5
      rw [trueN, if_neg (by rw [hl]; simp)]
      cases hb : hasB (ndOf t a).1 s with
      | true =>
        simp only [if_true, n2]
        obtain ⟨g1, g2, g3, g4, g5⟩ := true_way (s := s) d (a + 1) n4
        refine ⟨by omega, by omega, by omega, by omega, ?_⟩
        rw [wayN, if_neg (by omega), if_pos (by omega), n2, List.length_cons]
        omega
      | false =>
        simp only [Bool.false_eq_true, if_false]
        obtain ⟨g1, g2, g3, g4, g5⟩ := true_way (s := s) d (ndOf t a).2.2 n5
        refine ⟨by omega, by omega, by omega, by omega, ?_⟩
        rw [wayN, if_neg (by omega), if_neg (by omega), List.length_cons]
        omega
-- a play of answers
def sumN (f : Nat → Int) : Nat → Int
  | 0 => 0
  | k + 1 => sumN f k + f k
theorem sum_bd {f : Nat → Int} {k : Nat} {b : Int} (h : ∀ j, j < k → 0 ≤ f j ∧ f j ≤ b) (hb : 0 ≤ b) : 0 ≤ sumN f k ∧ sumN f k ≤ k * b := by
  induction k with
  | zero => simp [sumN]
  | succ k ih =>
    obtain ⟨h1, h2⟩ := ih fun j hj => h j (by omega)
    obtain ⟨h3, h4⟩ := h k (by omega)
    rw [sumN]
    have : ((k + 1 : Nat) : Int) * b = k * b + b := by rw [Int.natCast_add, Int.add_mul]; simp
    omega
theorem gcd_step {a b : Int} (hb : 0 ≤ b) : Int.gcd b (Int.tmod a b) = Int.gcd a b := by
  rw [Int.gcd_comm b]
  have : Int.tmod a b = a - b * Int.tdiv a b := Int.tmod_def a b
  rw [this, Int.gcd_comm a b, Int.gcd_comm]
  rw [show a - b * Int.tdiv a b = a + b * (-(Int.tdiv a b)) by rw [Int.mul_neg]; rfl]
  rw [Int.gcd_comm]
  first | exact Int.gcd_add_mul_left_left _ _ _ | exact Int.gcd_add_mul_right_left _ _ _ | (simp; exact Int.gcd_comm _ _)
theorem fld_node {xs : List Nd} {j i k : Nat} {x : T} (hj : j = i * 3) (h : i < xs.length) (hx : (nodeC (List.getD xs i (0, 0, 0)))[k]? = some x) : ((List.drop k (List.drop j (List.flatMap nodeC xs))) : List T)[0]? = some x := by
  subst hj
  rw [drop_node, List.drop_eq_getElem_cons h, List.flatMap_cons, List.getElem?_drop, Nat.add_zero, List.getElem?_append_left]
  · rw [List.getD_eq_getElem?_getD, List.getElem?_eq_getElem h] at hx; exact hx
  · have := (List.getElem?_eq_some_iff.1 hx).1
    simpa [nodeC] using this
theorem fld0_node {xs : List Nd} {j i : Nat} {x : T} (hj : j = i * 3) (h : i < xs.length) (hx : (nodeC (List.getD xs i (0, 0, 0)))[0]? = some x) : ((List.drop j (List.flatMap nodeC xs)) : List T)[0]? = some x := fld_node (k := 0) hj h hx
theorem fld_asked {xs : List (Int × Bool)} {j i k : Nat} {x : T} (hj : j = i * 2) (h : i < xs.length) (hx : (askedC (List.getD xs i (0, false)))[k]? = some x) : ((List.drop k (List.drop j (List.flatMap askedC xs))) : List T)[0]? = some x := by
  subst hj
  rw [drop_asked, List.drop_eq_getElem_cons h, List.flatMap_cons, List.getElem?_drop, Nat.add_zero, List.getElem?_append_left]
  · rw [List.getD_eq_getElem?_getD, List.getElem?_eq_getElem h] at hx; exact hx
  · have := (List.getElem?_eq_some_iff.1 hx).1
    simpa [askedC] using this
theorem fld0_asked {xs : List (Int × Bool)} {j i : Nat} {x : T} (hj : j = i * 2) (h : i < xs.length) (hx : (askedC (List.getD xs i (0, false)))[0]? = some x) : ((List.drop j (List.flatMap askedC xs)) : List T)[0]? = some x := fld_asked (k := 0) hj h hx
end Go.Tl
