/-
  Plain laws for walks in a tree: the way to a node, the leaf of a secret, a play of answers. No statement of the seat is proved here.
-/
import Derived.Test.YtpmifocfmoekdaaTlTree
namespace Go.Tl
set_option linter.unusedVariables false
set_option linter.unusedSimpArgs false
abbrev ndOf (t : List Nd) (a : Int) : Nd := t.getD a.toNat (0, 0, 0)
/-- The tree is read well from a node, within d levels. -/
def Ok (n : Int) (t : List Nd) (d : Nat) (a : Int) : Prop := (readN n t d a).2.2 = true
abbrev eN (n : Int) (t : List Nd) (d : Nat) (a : Int) : Int := (readN n t d a).2.1
theorem ok_pos {n : Int} {t : List Nd} {d : Nat} {a : Int} (h : Ok n t d a) : 0 < d := by
  cases d with
  | zero => simp [Ok, readN] at h
  | succ d => omega
theorem ok_in {n : Int} {t : List Nd} {d : Nat} {a : Int} (h : Ok n t d a) : 0 ≤ a ∧ a.toNat < t.length := by
  obtain ⟨d, rfl⟩ : ∃ e, d = e + 1 := ⟨d - 1, by have := ok_pos h; omega⟩
  unfold Ok at h
  rw [readN] at h
  split at h
  · cases h
  · rename_i h1
    simp only [Bool.and_eq_false_iff, decide_eq_false_iff_not] at h1
    omega
theorem ok_leaf {n : Int} {t : List Nd} {d : Nat} {a : Int} (h : Ok n t d a) (hl : leafB (ndOf t a).1 (ndOf t a).2.1 (ndOf t a).2.2 = true) : eN n t d a = a + 1 := by
  obtain ⟨d, rfl⟩ : ∃ e, d = e + 1 := ⟨d - 1, by have := ok_pos h; omega⟩
  have hi := ok_in h
  unfold eN
  rw [readN_leaf (by omega) (in_true (by omega) (by omega)) hl]
/-- An inner node: its parts are read well. -/
theorem ok_node {n : Int} {t : List Nd} {d : Nat} {a : Int} (h : Ok n t d a) (hl : leafB (ndOf t a).1 (ndOf t a).2.1 (ndOf t a).2.2 = false) :
    isQ n (ndOf t a).1 = true ∧ (ndOf t a).2.1 = a + 1 ∧ (ndOf t a).2.2 = eN n t (d - 1) (a + 1) ∧ Ok n t (d - 1) (a + 1) ∧ Ok n t (d - 1) (ndOf t a).2.2 ∧ eN n t d a = eN n t (d - 1) (ndOf t a).2.2 ∧ 0 < d := by
  obtain ⟨d, rfl⟩ : ∃ e, d = e + 1 := ⟨d - 1, by have := ok_pos h; omega⟩
  have hi := ok_in h
  have h' := h
  unfold Ok at h'
  unfold eN
  rw [readN] at h'
  rw [readN, if_neg (by rw [in_true (by omega) (by omega)]; simp)]
  rw [if_neg (by rw [in_true (by omega) (by omega)]; simp)] at h'
  dsimp only at h' ⊢
  rw [if_neg (by rw [hl]; simp)] at h' ⊢
  split at h'
  · cases h'
  · rename_i h1
    rw [if_neg h1]
    split at h'
    · cases h'
    · rename_i h2
      rw [if_neg h2]
      simp only [not_or, Bool.not_eq_false, Classical.not_not] at h1 h2
      simp only [Nat.add_sub_cancel]
      refine ⟨h1.1, h1.2, h2.2, h2.1, ?_, ?_, by omega⟩
      · unfold Ok ndOf; rw [h2.2]; exact h'
      · unfold ndOf; rw [h2.2]
theorem root_ok {n : Int} {t : List Nd} (h : (rootN n t).2 = true) : Ok n t 7 0 ∧ eN n t 7 0 = (t.length : Int) ∧ 1 ≤ n ∧ n ≤ 12 ∧ t.length ≤ 127 := by
  unfold rootN at h
  split at h
  · cases h
  · rename_i h1
    simp only [Bool.and_eq_true, beq_iff_eq] at h
    simp only [Bool.and_eq_false_iff, decide_eq_false_iff_not] at h1
    exact ⟨h.1, h.2, by omega, by omega, by omega⟩
def hasB (q s : Int) : Bool := bits .and .i64 (Int.fdiv q (2 ^ (min (Int.toNat s) 64))) 1 == (1 : Int)
def askedC (x : Int × Bool) : List T := [T.int .i64 x.1, T.bool x.2]
theorem len_asked (xs : List (Int × Bool)) : (List.flatMap askedC xs).length = xs.length * 2 := by
  induction xs with
  | nil => rfl
  | cons x xs ih => rw [List.flatMap_cons, List.length_append, ih, List.length_cons, Nat.succ_mul, Nat.add_comm]; rfl
theorem drop_asked : ∀ (xs : List (Int × Bool)) (i : Nat), List.drop (i * 2) (List.flatMap askedC xs) = List.flatMap askedC (List.drop i xs)
  | xs, 0 => by simp
  | [], i + 1 => by simp
  | x :: xs, i + 1 => by
    rw [List.flatMap_cons, List.drop_succ_cons, ← drop_asked xs i, Nat.succ_mul, Nat.add_comm, ← List.drop_drop]
    rfl
theorem at_asked {xs : List (Int × Bool)} {j i : Nat} (hj : j = i * 2) (h : i < xs.length) : T.agg (List.take 2 (List.drop j (List.flatMap askedC xs))) = T.agg [T.int .i64 (List.getD xs i (0, false)).1, T.bool (List.getD xs i (0, false)).2] := by
  subst hj
  rw [drop_asked, List.drop_eq_getElem_cons h, List.flatMap_cons, List.getD_eq_getElem?_getD, List.getElem?_eq_getElem h]
  rfl
theorem fit_asked {xs : List (Int × Bool)} {j i : Nat} (hj : j = i * 2) (h : i < xs.length) : 2 ≤ List.length (List.drop j (List.flatMap askedC xs)) := by
  subst hj
  rw [List.length_drop, len_asked]; omega
def wayN (t : List Nd) (node : Int) : Nat → Int → List (Int × Bool)
  | 0, _ => []
  | d + 1, a => if a = node then [] else ((ndOf t a).1, decide (node < (ndOf t a).2.2)) :: wayN t node d (if node < (ndOf t a).2.2 then (ndOf t a).2.1 else (ndOf t a).2.2)
theorem way_suc (t : List Nd) (node : Int) (d : Nat) (a : Int) : wayN t node (d + 1) a = if a = node then [] else ((ndOf t a).1, decide (node < (ndOf t a).2.2)) :: wayN t node d (if node < (ndOf t a).2.2 then (ndOf t a).2.1 else (ndOf t a).2.2) := rfl
def WayAt (n : Int) (t : List Nd) (node : Int) (d : Nat) (a : Int) (out : List (Int × Bool)) : Prop :=
  Ok n t d a ∧ out.length + d ≤ 7 ∧ a ≤ node ∧ node < eN n t d a ∧ wayN t node 7 0 = out ++ wayN t node d a
theorem wayAt_0 {n : Int} {t : List Nd} {node : Int} (h : (rootN n t).2 = true) (h0 : 0 ≤ node) (h1 : node < (t.length : Int)) : WayAt n t node 7 0 [] :=
  ⟨(root_ok h).1, by simp, h0, by rw [(root_ok h).2.1]; exact h1, by simp⟩
theorem wayAt_end {n : Int} {t : List Nd} {node : Int} {d : Nat} {a : Int} {out : List (Int × Bool)} (h : WayAt n t node d a out) (he : a = node) : wayN t node 7 0 = out := by
  obtain ⟨h1, h2, h3, h4, h5⟩ := h
  obtain ⟨d, rfl⟩ : ∃ e, d = e + 1 := ⟨d - 1, by have := ok_pos h1; omega⟩
  rw [h5, way_suc t node d a, if_pos he]; simp
theorem wayAt_leaf {n : Int} {t : List Nd} {node : Int} {d : Nat} {a : Int} {out : List (Int × Bool)} (h : WayAt n t node d a out) (he : ¬ a = node) : leafB (ndOf t a).1 (ndOf t a).2.1 (ndOf t a).2.2 = false := by
  cases hl : leafB (ndOf t a).1 (ndOf t a).2.1 (ndOf t a).2.2 with
  | false => rfl
  | true => have := ok_leaf h.1 hl; have := h.2.2.1; have := h.2.2.2.1; omega
theorem wayAt_yes {n : Int} {t : List Nd} {node : Int} {d : Nat} {a : Int} {out : List (Int × Bool)} (h : WayAt n t node d a out) (he : ¬ a = node) (hb : node < (ndOf t a).2.2) :
    WayAt n t node (d - 1) (ndOf t a).2.1 (out ++ [((ndOf t a).1, true)]) := by
  obtain ⟨n1, n2, n3, n4, n5, n6, n7⟩ := ok_node h.1 (wayAt_leaf h he)
  obtain ⟨h1, h2, h3, h4, h5⟩ := h
  obtain ⟨d, rfl⟩ : ∃ e, d = e + 1 := ⟨d - 1, by omega⟩
  simp only [Nat.add_sub_cancel] at *
  rw [n2]
  refine ⟨n4, by simp; omega, by omega, by omega, ?_⟩
  rw [h5, way_suc t node d a, if_neg he, if_pos hb, n2, decide_eq_true hb, List.append_assoc]; rfl
theorem wayAt_no {n : Int} {t : List Nd} {node : Int} {d : Nat} {a : Int} {out : List (Int × Bool)} (h : WayAt n t node d a out) (he : ¬ a = node) (hb : ¬ node < (ndOf t a).2.2) :
    WayAt n t node (d - 1) (ndOf t a).2.2 (out ++ [((ndOf t a).1, false)]) := by
  obtain ⟨n1, n2, n3, n4, n5, n6, n7⟩ := ok_node h.1 (wayAt_leaf h he)
  obtain ⟨h1, h2, h3, h4, h5⟩ := h
  obtain ⟨d, rfl⟩ : ∃ e, d = e + 1 := ⟨d - 1, by omega⟩
  simp only [Nat.add_sub_cancel] at *
  refine ⟨n5, by simp; omega, by omega, by omega, ?_⟩
  rw [h5, way_suc t node d a, if_neg he, if_neg hb, decide_eq_false hb, List.append_assoc]; rfl
def ndB (n : Int) (t : List Nd) (node : Int) : Bool := (rootN n t).2 && (decide (0 ≤ node) && decide (node ≤ (t.length : Int) - 1))
theorem ndB_ok {n : Int} {t : List Nd} {node : Int} (h : ndB n t node = true) : (rootN n t).2 = true ∧ 0 ≤ node ∧ node < (t.length : Int) := by
  simp only [ndB, Bool.and_eq_true, decide_eq_true_eq] at h
  exact ⟨h.1, by omega, by omega⟩
theorem ndB_tree {n : Int} {t : List Nd} {node : Int} (h : (rootN n t).2 = false) : T.bool false = T.bool (ndB n t node) := by simp [ndB, h]
theorem ndB_in {n : Int} {t : List Nd} {node : Int} (h : (rootN n t).2 = true) : T.bool (decide (0 ≤ node) && decide (node ≤ (t.length : Int) - 1)) = T.bool (ndB n t node) := by simp [ndB, h]
theorem fld_node {xs : List Nd} {j i k : Nat} {x : T} (hj : j = i * 3) (h : i < xs.length) (hx : (nodeC (List.getD xs i (0, 0, 0)))[k]? = some x) : ((List.drop k (List.drop j (List.flatMap nodeC xs))) : List T)[0]? = some x := by
  subst hj
  rw [drop_node, List.drop_eq_getElem_cons h, List.flatMap_cons, List.getElem?_drop, Nat.add_zero, List.getElem?_append_left]
  · rw [List.getD_eq_getElem?_getD, List.getElem?_eq_getElem h] at hx; exact hx
  · have := (List.getElem?_eq_some_iff.1 hx).1
    simpa [nodeC] using this
theorem fld0_node {xs : List Nd} {j i : Nat} {x : T} (hj : j = i * 3) (h : i < xs.length) (hx : (nodeC (List.getD xs i (0, 0, 0)))[0]? = some x) : ((List.drop j (List.flatMap nodeC xs)) : List T)[0]? = some x := fld_node (k := 0) hj h hx
end Go.Tl
