/-
  Plain laws of states: what an answer does to them, and which numbers are open. No statement of the seat is proved here.
-/
import Derived.Test.YtpmifocfmoekdaaTlLeaf
namespace Go.Tl
set_option linter.unusedVariables false
set_option linter.unusedSimpArgs false

theorem atM {α : Type} {f : α → T} {xs : List α} {d : α} {j i : Nat} (hj : j = i) (h : i < xs.length) : ((List.map f xs) : List T)[j]? = some (f (List.getD xs i d)) := by
  subst hj
  simp [List.getD_eq_getElem?_getD, h]
theorem atM_set {α : Type} {f : α → T} {xs : List α} {v : α} {j i : Nat} (hj : j = i) (h : i < xs.length) : ((List.map f (List.set xs i v)) : List T)[j]? = some (f v) := by
  subst hj
  rw [List.getElem?_map, List.getElem?_set_self h]; rfl
/-- One false answer more for a number. -/
def lieN (m : Int) (b : Bool) (x : Int) : Int := if x ≥ 0 ∧ b = true then (if x + 1 > m then -1 else x + 1) else x
def afterP (m : Int) (p : Nat → Bool) (xs : List Int) (i : Nat) : List Int := ((List.range i).map fun j => lieN m (p j) (xs.getD j 0)) ++ xs.drop i
def afterN (m : Int) (p : Nat → Bool) (xs : List Int) : List Int := (List.range xs.length).map fun j => lieN m (p j) (xs.getD j 0)
section
variable {m : Int} {p : Nat → Bool} {xs : List Int} {i : Nat}
@[simp] theorem afterN_len : (afterN m p xs).length = xs.length := by simp [afterN]
theorem afterP_len (h : i ≤ xs.length) : (afterP m p xs i).length = xs.length := by simp [afterP]; omega
theorem afterP_end (h : i = xs.length) : afterP m p xs i = afterN m p xs := by subst h; simp [afterP, afterN]
theorem afterP_set {v : Int} (h : i < xs.length) (hv : lieN m (p i) (xs.getD i 0) = v) : List.set (afterP m p xs i) i v = afterP m p xs (i + 1) := by
  unfold afterP
  rw [drop_cons h, set_app _ _ _ _ (by simp), List.range_succ, List.map_append]
  simp [← hv]
theorem afterP_at (h : i < xs.length) : (afterP m p xs i).getD i 0 = xs.getD i 0 := by
  unfold afterP
  rw [List.getD_eq_getElem?_getD, List.getElem?_append_right (by simp)]
  simp [List.getD_eq_getElem?_getD]
theorem set_same {α : Type} (l : List α) (i : Nat) (d : α) (h : i < l.length) : l.set i (l.getD i d) = l := by
  apply List.ext_getElem?
  intro j
  by_cases e : i = j
  · subst e; rw [List.getElem?_set_self h]; simp [List.getD_eq_getElem?_getD, h]
  · rw [List.getElem?_set_ne e]
theorem afterP_same (h : i < xs.length) (hv : lieN m (p i) (xs.getD i 0) = xs.getD i 0) : afterP m p xs i = afterP m p xs (i + 1) := by
  rw [← afterP_set h hv, ← afterP_at (m := m) (p := p) h, set_same _ _ _ (by rw [afterP_len (by omega)]; exact h)]
theorem lie_neg {b : Bool} {x : Int} (h : ¬ x ≥ 0) : lieN m b x = x := by unfold lieN; rw [if_neg (fun hh => h hh.1)]
theorem lie_no {b : Bool} {x : Int} (h : b = false) : lieN m b x = x := by unfold lieN; rw [if_neg (fun hh => by rw [h] at hh; cases hh.2)]
theorem lie_over {b : Bool} {x : Int} (h : x ≥ 0) (hb : b = true) (h2 : x + 1 > m) : lieN m b x = -1 := by unfold lieN; rw [if_pos ⟨h, hb⟩, if_pos h2]
theorem lie_up {b : Bool} {x : Int} (h : x ≥ 0) (hb : b = true) (h2 : ¬ x + 1 > m) : lieN m b x = x + 1 := by unfold lieN; rw [if_pos ⟨h, hb⟩, if_neg h2]
end
/-- A State within its bounds. -/
def okS (xs : List Int) (m : Int) : Prop := xs.length ≤ 12 ∧ 0 ≤ m ∧ m ≤ 2 ∧ ∀ i : Nat, -1 ≤ xs.getD i 0 ∧ xs.getD i 0 ≤ m
theorem getD_out {α : Type} {xs : List α} {i : Nat} {d : α} (h : xs.length ≤ i) : xs.getD i d = d := by
  rw [List.getD_eq_getElem?_getD, List.getElem?_eq_none h]; rfl
theorem okS_of {xs : List Int} {m : Int} (h : isStateN xs m = true) : okS xs m := by
  obtain ⟨h1, h2, h3⟩ := isStateN_iff.1 h
  refine ⟨h1.2, h2.1, h2.2, fun i => ?_⟩
  by_cases hi : i < xs.length
  · exact h3 i hi
  · rw [getD_out (by omega)]; omega
theorem okS_start {k : Nat} {m : Int} (hk : k ≤ 12) (h0 : 0 ≤ m) (h1 : m ≤ 2) : okS (List.replicate k 0) m := by
  refine ⟨by simpa using hk, h0, h1, fun i => ?_⟩
  have : (List.replicate k (0 : Int)).getD i 0 = 0 := by
    rw [List.getD_eq_getElem?_getD, List.getElem?_replicate]; split <;> rfl
  rw [this]; omega
theorem lie_in {m : Int} {b : Bool} {x : Int} (h0 : -1 ≤ x) (h1 : x ≤ m) (hm : 0 ≤ m) : -1 ≤ lieN m b x ∧ lieN m b x ≤ m := by
  unfold lieN; split
  · split <;> omega
  · omega
theorem okS_after {xs : List Int} {m : Int} {p : Nat → Bool} (h : okS xs m) : okS (afterN m p xs) m := by
  obtain ⟨h1, h2, h3, h4⟩ := h
  refine ⟨by simpa using h1, h2, h3, fun i => ?_⟩
  by_cases hi : i < xs.length
  · have : (afterN m p xs).getD i 0 = lieN m (p i) (xs.getD i 0) := by simp [afterN, hi]
    rw [this]
    exact lie_in (h4 i).1 (h4 i).2 h2
  · rw [getD_out (by simp; omega)]; omega
/-- Is the answer yes = y to the question q false for a number? -/
def falseB (q : Int) (y : Bool) (k : Int) : Bool := !(hasB q k == y)
def ansN (m q : Int) (y : Bool) (xs : List Int) : List Int := afterN m (fun k => falseB q y (k : Int)) xs
@[simp] theorem ansN_len {m q : Int} {y : Bool} {xs : List Int} : (ansN m q y xs).length = xs.length := by simp [ansN]
theorem okS_ans {xs : List Int} {m q : Int} {y : Bool} (h : okS xs m) : okS (ansN m q y xs) m := okS_after h
theorem falseB_comm (q : Int) (y : Bool) (k : Int) : (!(y == (bits .and .i64 (Int.fdiv q (2 ^ (min (Int.toNat k) 64))) 1 == (1 : Int)))) = falseB q y k := by
  unfold falseB hasB
  cases y <;> cases (bits .and .i64 (Int.fdiv q (2 ^ (min (Int.toNat k) 64))) 1 == (1 : Int)) <;> rfl
/-! ### open numbers -/
def openP (xs : List Int) (k : Nat) : List Int := ((List.range k).filter fun i => decide (xs.getD i 0 ≥ 0)).map fun (i : Nat) => (i : Int)
def openN (xs : List Int) : List Int := openP xs xs.length
theorem open_yes {xs : List Int} {k : Nat} (h : xs.getD k 0 ≥ 0) : openP xs (k + 1) = openP xs k ++ [(k : Int)] := by
  unfold openP
  rw [List.range_succ, List.filter_append, List.map_append, List.filter_cons, if_pos (by simpa using h)]; rfl
theorem open_no {xs : List Int} {k : Nat} (h : ¬ xs.getD k 0 ≥ 0) : openP xs (k + 1) = openP xs k := by
  unfold openP
  rw [List.range_succ, List.filter_append, List.map_append, List.filter_cons, if_neg (by simpa using h)]; simp
theorem openP_len (xs : List Int) (k : Nat) : (openP xs k).length ≤ k := by
  unfold openP
  rw [List.length_map]
  exact Nat.le_trans (List.length_filter_le _ _) (by simp)
theorem openN_len (xs : List Int) : (openN xs).length ≤ xs.length := openP_len xs _
/-! ### states behind answers, at the nodes of a tree -/
def allP (n : Int) (m : Int) (qa : List (Int × Bool)) : Nat → List Int
  | 0 => List.replicate n.toNat 0
  | k + 1 => ansN m (qa.getD k (0, false)).1 (qa.getD k (0, false)).2 (allP n m qa k)
def allN (n : Int) (m : Int) (qa : List (Int × Bool)) : List Int := allP n m qa qa.length
theorem allP_succ {n m : Int} {qa : List (Int × Bool)} {k : Nat} : allP n m qa (k + 1) = ansN m (qa.getD k (0, false)).1 (qa.getD k (0, false)).2 (allP n m qa k) := rfl
theorem allP_len {n m : Int} {qa : List (Int × Bool)} : ∀ k, (allP n m qa k).length = n.toNat
  | 0 => by simp [allP]
  | k + 1 => by
    have h1 := allP_len (n := n) (m := m) (qa := qa) k
    rw [allP_succ]; simp [h1]
theorem allN_len {n m : Int} {qa : List (Int × Bool)} : (allN n m qa).length = n.toNat := allP_len _
theorem okS_allP {n m : Int} {qa : List (Int × Bool)} (h1 : n ≤ 12) (h2 : 0 ≤ m) (h3 : m ≤ 2) : ∀ k, okS (allP n m qa k) m
  | 0 => by simpa [allP] using okS_start (k := n.toNat) (m := m) (by omega) h2 h3
  | k + 1 => by rw [allP_succ]; exact okS_ans (okS_allP h1 h2 h3 k)
theorem okS_allN {n m : Int} {qa : List (Int × Bool)} (h1 : n ≤ 12) (h2 : 0 ≤ m) (h3 : m ≤ 2) : okS (allN n m qa) m := okS_allP h1 h2 h3 _
def atN (n : Int) (t : List Nd) (x m : Int) : List Int := allN n m (wayN t x 7 0)
/-- The most numbers that are open at one of some places. -/
def mostP (n : Int) (t : List Nd) (m : Int) (ls : List Int) : Nat → Int
  | 0 => 0
  | k + 1 => max (mostP n t m ls k) ((openN (atN n t (ls.getD k 0) m)).length : Int)
theorem mostP_bd {n m : Int} {t : List Nd} {ls : List Int} (hn : 0 ≤ n ∧ n ≤ 12) : ∀ k, 0 ≤ mostP n t m ls k ∧ mostP n t m ls k ≤ 12
  | 0 => by simp [mostP]
  | k + 1 => by
    have h := mostP_bd (t := t) (m := m) (ls := ls) hn k
    have h2 := openN_len (atN n t (ls.getD k 0) m)
    have h3 : (atN n t (ls.getD k 0) m).length = n.toNat := allN_len
    simp only [mostP]; omega
def mostB (m : Int) : Bool := decide (0 ≤ m) && decide (m ≤ 2)
def mlN (n : Int) (t : List Nd) (m : Int) : Int := mostP n t m (placesN lfI t t.length) (placesN lfI t t.length).length
def mlB (n : Int) (t : List Nd) (m : Int) : Bool := (rootN n t).2 && mostB m
theorem places_in {p : Nd → Bool} {t : List Nd} {k j : Nat} (h : j < (placesN p t k).length) : 0 ≤ (placesN p t k).getD j 0 ∧ (placesN p t k).getD j 0 < (k : Int) := by
  have : (placesN p t k).getD j 0 ∈ placesN p t k := by
    rw [List.getD_eq_getElem?_getD, List.getElem?_eq_getElem h]
    exact List.getElem_mem h
  unfold placesN at this
  simp only [List.mem_map, List.mem_filter, List.mem_range] at this
  obtain ⟨i, ⟨h1, _⟩, h2⟩ := this
  rw [show placesN p t k = ((List.range k).filter fun i => p (t.getD i (0, 0, 0))).map fun (i : Nat) => (i : Int) from rfl, ← h2]
  omega
theorem most_ok {m : Int} (h : mostB m = true) : 0 ≤ m ∧ m ≤ 2 := by simpa [mostB] using h
theorem mostP_maxN {n m : Int} {t : List Nd} {ls : List Int} {k : Nat} : maxN (mostP n t m ls k) ((openN (allN n m (wayN t (ls.getD k 0) 7 0))).length : Int) = mostP n t m ls (k + 1) := by
  simp only [mostP, maxN, atN]; split <;> omega
/-- What MostAtLeaf gives. -/
def mlV (n : Int) (t : List Nd) (m : Int) : Int := if mlB n t m = true then mlN n t m else 0
theorem ml_root {n m : Int} {t : List Nd} (h : (rootN n t).2 = false) : T.tup [T.int .i64 0, T.bool false] = T.tup [T.int .i64 (mlV n t m), T.bool (mlB n t m)] := by simp [mlV, mlB, h]
theorem ml_most {n m : Int} {t : List Nd} (h : mostB m = false) : T.tup [T.int .i64 0, T.bool false] = T.tup [T.int .i64 (mlV n t m), T.bool (mlB n t m)] := by simp [mlV, mlB, h]
theorem ml_good {n m : Int} {t : List Nd} (h : (rootN n t).2 = true) (h2 : mostB m = true) : T.tup [T.int .i64 (mlN n t m), T.bool true] = T.tup [T.int .i64 (mlV n t m), T.bool (mlB n t m)] := by simp [mlV, mlB, h, h2]
/-- What IsGoodTree gives. -/
def gtB (n : Int) (t : List Nd) (m : Int) : Bool := mlB n t m && decide (mlN n t m ≤ 1)
theorem good_root {n m : Int} {t : List Nd} (h : (rootN n t).2 = false) : T.tup [T.bool false, T.bool false] = T.tup [T.bool (gtB n t m), T.bool (mlB n t m)] := by simp [gtB, mlB, h]
theorem good_most {n m : Int} {t : List Nd} (h : mostB m = false) : T.tup [T.bool false, T.bool false] = T.tup [T.bool (gtB n t m), T.bool (mlB n t m)] := by simp [gtB, mlB, h]
theorem good_good {n m : Int} {t : List Nd} (h : (rootN n t).2 = true) (h2 : mostB m = true) : T.tup [T.bool (decide (mlN n t m ≤ 1)), T.bool true] = T.tup [T.bool (gtB n t m), T.bool (mlB n t m)] := by simp [gtB, mlB, h, h2]
/-- What StateAt gives. -/
def saB (n : Int) (t : List Nd) (x m : Int) : Bool := ndB n t x && mostB m
def saL (n : Int) (t : List Nd) (x m : Int) : List Int := if saB n t x m = true then atN n t x m else []
def saM (n : Int) (t : List Nd) (x m : Int) : Int := if saB n t x m = true then m else 0
theorem saL_len {n : Int} {t : List Nd} {x m : Int} : (saL n t x m).length ≤ 12 := by
  unfold saL
  split
  · rename_i h
    have h2 : (rootN n t).2 = true := by
      unfold saB at h
      have : ndB n t x = true := by revert h; cases ndB n t x <;> simp
      exact (ndB_ok this).1
    have hrr := root_ok h2
    have : (atN n t x m).length = n.toNat := allN_len
    omega
  · simp
theorem sa_yes {n : Int} {t : List Nd} {x m : Int} (h : ndB n t x = true) (h2 : mostB m = true) : saB n t x m = true ∧ saL n t x m = atN n t x m ∧ saM n t x m = m := by simp [saL, saM, saB, h, h2]
theorem sa_no1 {n : Int} {t : List Nd} {x m : Int} (h : ndB n t x = false) : saB n t x m = false ∧ saL n t x m = [] ∧ saM n t x m = 0 := by simp [saL, saM, saB, h]
theorem sa_no2 {n : Int} {t : List Nd} {x m : Int} (h : mostB m = false) : saB n t x m = false ∧ saL n t x m = [] ∧ saM n t x m = 0 := by simp [saL, saM, saB, h]
end Go.Tl
