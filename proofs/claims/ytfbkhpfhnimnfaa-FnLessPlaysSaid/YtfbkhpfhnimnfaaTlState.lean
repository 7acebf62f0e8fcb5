/-
  Plain laws of states: what an answer does to them, and which numbers are open. No statement of the seat is proved here.
-/
import Derived.Test.YtfbkhpfhnimnfaaTlLeaf
namespace Go.Tl
set_option linter.unusedVariables false
set_option linter.unusedSimpArgs false

theorem atM {α : Type} {f : α → T} {xs : List α} {d : α} {j i : Nat} (hj : j = i) (h : i < xs.length) : ((List.map f xs) : List T)[j]? = some (f (List.getD xs i d)) := by
  subst hj
  simp [List.getD_eq_getElem?_getD, h]
theorem atM_set {α : Type} {f : α → T} {xs : List α} {v : α} {j i : Nat} (hj : j = i) (h : i < xs.length) : ((List.map f (List.set xs i v)) : List T)[j]? = some (f v) := by
  subst hj
  rw [List.getElem?_map, List.getElem?_set_self h]; rfl
/-- One false answer more for a number. -/
def lieN (m : Int) (b : Bool) (x : Int) : Int := if x ≥ 0 ∧ b = true then (if x + 1 > m then -1 else x + 1) else x
def afterP (m : Int) (p : Nat → Bool) (xs : List Int) (i : Nat) : List Int := ((List.range i).map fun j => lieN m (p j) (xs.getD j 0)) ++ xs.drop i
def afterN (m : Int) (p : Nat → Bool) (xs : List Int) : List Int := (List.range xs.length).map fun j => lieN m (p j) (xs.getD j 0)
section
variable {m : Int} {p : Nat → Bool} {xs : List Int} {i : Nat}
@[simp] theorem afterN_len : (afterN m p xs).length = xs.length := by simp [afterN]
theorem afterP_len (h : i ≤ xs.length) : (afterP m p xs i).length = xs.length := by simp [afterP]; omega
theorem afterP_end (h : i = xs.length) : afterP m p xs i = afterN m p xs := by subst h; simp [afterP, afterN]
theorem afterP_set {v : Int} (h : i < xs.length) (hv : lieN m (p i) (xs.getD i 0) = v) : List.set (afterP m p xs i) i v = afterP m p xs (i + 1) := by
  unfold afterP
  rw [drop_cons h, set_app _ _ _ _ (by simp), List.range_succ, List.map_append]
  simp [← hv]
theorem afterP_at (h : i < xs.length) : (afterP m p xs i).getD i 0 = xs.getD i 0 := by
  unfold afterP
  rw [List.getD_eq_getElem?_getD, List.getElem?_append_right (by simp)]
  simp [List.getD_eq_getElem?_getD]
theorem set_getD {α : Type} (l : List α) (i : Nat) (v d : α) (h : i < l.length) : (l.set i v).getD i d = v := by
  rw [List.getD_eq_getElem?_getD, List.getElem?_set_self h]; rfl
theorem set_same {α : Type} (l : List α) (i : Nat) (d : α) (h : i < l.length) : l.set i (l.getD i d) = l := by
  apply List.ext_getElem?
  intro j
  by_cases e : i = j
  · subst e; rw [List.getElem?_set_self h]; simp [List.getD_eq_getElem?_getD, h]
  · rw [List.getElem?_set_ne e]
theorem afterP_same (h : i < xs.length) (hv : lieN m (p i) (xs.getD i 0) = xs.getD i 0) : afterP m p xs i = afterP m p xs (i + 1) := by
  rw [← afterP_set h hv, ← afterP_at (m := m) (p := p) h, set_same _ _ _ (by rw [afterP_len (by omega)]; exact h)]
theorem lie_neg {b : Bool} {x : Int} (h : ¬ x ≥ 0) : lieN m b x = x := by unfold lieN; rw [if_neg (fun hh => h hh.1)]
theorem lie_no {b : Bool} {x : Int} (h : b = false) : lieN m b x = x := by unfold lieN; rw [if_neg (fun hh => by rw [h] at hh; cases hh.2)]
theorem lie_over {b : Bool} {x : Int} (h : x ≥ 0) (hb : b = true) (h2 : x + 1 > m) : lieN m b x = -1 := by unfold lieN; rw [if_pos ⟨h, hb⟩, if_pos h2]
theorem lie_up {b : Bool} {x : Int} (h : x ≥ 0) (hb : b = true) (h2 : ¬ x + 1 > m) : lieN m b x = x + 1 := by unfold lieN; rw [if_pos ⟨h, hb⟩, if_neg h2]
end
/-- A State within its bounds. -/
def okS (xs : List Int) (m : Int) : Prop := xs.length ≤ 12 ∧ 0 ≤ m ∧ m ≤ 2 ∧ ∀ i : Nat, -1 ≤ xs.getD i 0 ∧ xs.getD i 0 ≤ m
theorem getD_out {α : Type} {xs : List α} {i : Nat} {d : α} (h : xs.length ≤ i) : xs.getD i d = d := by
  rw [List.getD_eq_getElem?_getD, List.getElem?_eq_none h]; rfl
theorem okS_of {xs : List Int} {m : Int} (h : isStateN xs m = true) : okS xs m := by
  obtain ⟨h1, h2, h3⟩ := isStateN_iff.1 h
  refine ⟨h1.2, h2.1, h2.2, fun i => ?_⟩
  by_cases hi : i < xs.length
  · exact h3 i hi
  · rw [getD_out (by omega)]; omega
theorem lie_in {m : Int} {b : Bool} {x : Int} (h0 : -1 ≤ x) (h1 : x ≤ m) (hm : 0 ≤ m) : -1 ≤ lieN m b x ∧ lieN m b x ≤ m := by
  unfold lieN; split
  · split <;> omega
  · omega
theorem okS_after {xs : List Int} {m : Int} {p : Nat → Bool} (h : okS xs m) : okS (afterN m p xs) m := by
  obtain ⟨h1, h2, h3, h4⟩ := h
  refine ⟨by simpa using h1, h2, h3, fun i => ?_⟩
  by_cases hi : i < xs.length
  · have : (afterN m p xs).getD i 0 = lieN m (p i) (xs.getD i 0) := by simp [afterN, hi]
    rw [this]
    exact lie_in (h4 i).1 (h4 i).2 h2
  · rw [getD_out (by simp; omega)]; omega
/-- Is the answer yes = y to the question q false for a number? -/
def falseB (q : Int) (y : Bool) (k : Int) : Bool := !(hasB q k == y)
def ansN (m q : Int) (y : Bool) (xs : List Int) : List Int := afterN m (fun k => falseB q y (k : Int)) xs
@[simp] theorem ansN_len {m q : Int} {y : Bool} {xs : List Int} : (ansN m q y xs).length = xs.length := by simp [ansN]
theorem okS_ans {xs : List Int} {m q : Int} {y : Bool} (h : okS xs m) : okS (ansN m q y xs) m := okS_after h
theorem falseB_comm (q : Int) (y : Bool) (k : Int) : (!(y == (bits .and .i64 (Int.fdiv q (2 ^ (min (Int.toNat k) 64))) 1 == (1 : Int)))) = falseB q y k := by
  unfold falseB hasB
  cases y <;> cases (bits .and .i64 (Int.fdiv q (2 ^ (min (Int.toNat k) 64))) 1 == (1 : Int)) <;> rfl
/-! ### open numbers -/
def openP (xs : List Int) (k : Nat) : List Int := ((List.range k).filter fun i => decide (xs.getD i 0 ≥ 0)).map fun (i : Nat) => (i : Int)
def openN (xs : List Int) : List Int := openP xs xs.length
theorem open_yes {xs : List Int} {k : Nat} (h : xs.getD k 0 ≥ 0) : openP xs (k + 1) = openP xs k ++ [(k : Int)] := by
  unfold openP
  rw [List.range_succ, List.filter_append, List.map_append, List.filter_cons, if_pos (by simpa using h)]; rfl
theorem open_no {xs : List Int} {k : Nat} (h : ¬ xs.getD k 0 ≥ 0) : openP xs (k + 1) = openP xs k := by
  unfold openP
  rw [List.range_succ, List.filter_append, List.map_append, List.filter_cons, if_neg (by simpa using h)]; simp
theorem openP_len (xs : List Int) (k : Nat) : (openP xs k).length ≤ k := by
  unfold openP
  rw [List.length_map]
  exact Nat.le_trans (List.length_filter_le _ _) (by simp)
/-! ### states behind answers, at the nodes of a tree -/
end Go.Tl
