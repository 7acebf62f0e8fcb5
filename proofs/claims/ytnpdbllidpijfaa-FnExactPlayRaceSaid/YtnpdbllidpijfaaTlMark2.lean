/-
  Plain laws of the marks in nodes and answers. No statement of the seat is proved here.
-/
import Derived.Test.YtnpdbllidpijfaaTlMark
namespace Go.Tl
set_option linter.unusedVariables false
set_option linter.unusedSimpArgs false

theorem set_mid {α : Type} (A B C : List α) {n r : Nat} (x : α) (hn : A.length = n) (hr : r < B.length) : List.set (A ++ (B ++ C)) (n + r) x = A ++ (B.set r x ++ C) := by
  subst hn
  rw [List.set_append_right _ _ (by omega), Nat.add_sub_cancel_left, List.set_append_left _ _ hr]
theorem flat_mid {α : Type} (f : α → List T) (a b : List α) (x : α) : List.flatMap f (a ++ x :: b) = List.flatMap f a ++ (f x ++ List.flatMap f b) := by simp
theorem flat_len {α : Type} {f : α → List T} {c : Nat} (hf : ∀ p, (f p).length = c) (xs : List α) : (List.flatMap f xs).length = xs.length * c := by
  induction xs with
  | nil => simp
  | cons x xs ih => rw [List.flatMap_cons, List.length_append, ih, hf, List.length_cons, Nat.succ_mul, Nat.add_comm]
def markNd (k : Int) (n : Nat) : List Nd := (List.range n).map fun (i : Nat) => (k + 3 * (i : Int), k + 3 * (i : Int) + 1, k + 3 * (i : Int) + 2)
@[simp] theorem markNd_len (k : Int) (n : Nat) : (markNd k n).length = n := by simp [markNd]
/-! ### answers -/
def markAs (k : Int) (n : Nat) : List (Int × Bool) := (List.range n).map fun (i : Nat) => (k + 2 * (i : Int), markB (k + 2 * (i : Int) + 1))
@[simp] theorem markAs_len (k : Int) (n : Nat) : (markAs k n).length = n := by simp [markAs]
theorem markAs_succ (k : Int) (n : Nat) : markAs k (n + 1) = markAs k n ++ [(k + 2 * (n : Int), markB (k + 2 * (n : Int) + 1))] := by simp [markAs, List.range_succ]
theorem markAs_step {t : List (Int × Bool)} {k : Int} {i : Nat} (h : i < t.length) : List.set (List.set (List.flatMap askedC (markAs k i ++ t.drop i)) (i * 2 + 0) (T.int .i64 (k + 2 * (i : Int)))) (i * 2 + 1) (T.bool (markB (k + 2 * (i : Int) + 1))) =
    List.flatMap askedC (markAs k (i + 1) ++ t.drop (i + 1)) := by
  rw [drop_cons h, flat_mid, set_mid _ _ _ _ (by rw [flat_len (c := 2) (fun _ => rfl), markAs_len]) (by simp [askedC]), set_mid _ _ _ _ (by rw [flat_len (c := 2) (fun _ => rfl), markAs_len]) (by simp [askedC]), markAs_succ]
  simp [askedC]
theorem markAs_end {t : List (Int × Bool)} {k : Int} {i : Nat} (h : i = t.length) : List.flatMap askedC (markAs k i ++ t.drop i) = List.flatMap askedC (markAs k t.length) := by
  subst h; simp
theorem markAs_fit {t : List (Int × Bool)} {k : Int} {i : Nat} (h : i ≤ t.length) : (List.flatMap askedC (markAs k i ++ t.drop i)).length = t.length * 2 := by
  rw [flat_len (c := 2) (fun _ => rfl)]; simp; omega
def heldAs (t : List (Int × Bool)) (k : Int) : Int := if t == markAs k t.length then k + 2 * t.length else -1
theorem heldAs_mark (k : Int) (n : Nat) : heldAs (markAs k n) k = k + 2 * n := by simp [heldAs]
theorem heldAs_bad {t : List (Int × Bool)} {k : Int} {i : Nat} (hi : i < t.length) (h : ¬ (t.getD i (0, false) = (k + 2 * (i : Int), markB (k + 2 * (i : Int) + 1)))) : T.int .i64 (-1) = T.int .i64 (heldAs t k) := by
  have : (t == markAs k t.length) = false := by
    rw [beq_eq_false_iff_ne]
    intro e
    apply h
    rw [e]
    simp [markAs, hi]
  simp [heldAs, this]
theorem heldAs_bad1 {t : List (Int × Bool)} {k kk : Int} {i : Nat} (hi : i < t.length) (hkk : kk = k + 2 * (i : Int)) (h : ¬ ((t.getD i (0, false)).1 = kk)) : T.int .i64 (-1) = T.int .i64 (heldAs t k) :=
  heldAs_bad hi (fun e => h (by rw [e, hkk]))
theorem heldAs_bad2 {t : List (Int × Bool)} {k kk : Int} {i : Nat} (hi : i < t.length) (hkk : kk = k + 2 * (i : Int)) (h : ¬ ((t.getD i (0, false)).2 = markB (kk + 1))) : T.int .i64 (-1) = T.int .i64 (heldAs t k) :=
  heldAs_bad hi (fun e => h (by rw [e, hkk]))
theorem heldAs_at {t : List (Int × Bool)} {k kk : Int} {i : Nat} (hkk : kk = k + 2 * (i : Int)) (h1 : (t.getD i (0, false)).1 = kk) (h2 : (t.getD i (0, false)).2 = markB (kk + 1)) : t.getD i (0, false) = (k + 2 * (i : Int), markB (k + 2 * (i : Int) + 1)) :=
  Prod.ext (by rw [h1, hkk]) (by rw [h2, hkk])
theorem heldAs_good {t : List (Int × Bool)} {k kk : Int} {i : Nat} (hi : i = t.length) (hkk : kk = k + 2 * (i : Int)) (h : ∀ j, j < i → t.getD j (0, false) = (k + 2 * (j : Int), markB (k + 2 * (j : Int) + 1))) : T.int .i64 kk = T.int .i64 (heldAs t k) := by
  have : t = markAs k t.length := by
    apply List.ext_getElem?
    intro j
    by_cases hj : j < t.length
    · have := h j (by omega)
      simp only [List.getD_eq_getElem?_getD, List.getElem?_eq_getElem hj, Option.getD_some] at this
      rw [List.getElem?_eq_getElem hj, this]
      simp [markAs, hj]
    · rw [List.getElem?_eq_none (by omega), List.getElem?_eq_none (by simp; omega)]
  unfold heldAs
  rw [← this]
  simp [hkk, hi]
theorem eqP_bad {α : Type} [BEq α] [LawfulBEq α] {t u : List α} {d : α} {i : Nat} (h : ¬ (t.getD i d = u.getD i d)) : T.bool false = T.bool (t == u) := by
  have : (t == u) = false := by rw [beq_eq_false_iff_ne]; rintro rfl; exact h rfl
  rw [this]
theorem eqP_len {α : Type} [BEq α] [LawfulBEq α] {t u : List α} (h : ¬ ((t.length : Int) = (u.length : Int))) : T.bool false = T.bool (t == u) := by
  have : (t == u) = false := by rw [beq_eq_false_iff_ne]; rintro rfl; exact h rfl
  rw [this]
theorem eqP_good {α : Type} [BEq α] [LawfulBEq α] {t u : List α} {d : α} {i : Nat} (hall : ∀ j, j < i → t.getD j d = u.getD j d) (h1 : t.length ≤ i) (h2 : t.length = u.length) : T.bool true = T.bool (t == u) := by
  have : t = u := by
    apply List.ext_getElem?
    intro j
    by_cases hj : j < t.length
    · have := hall j (by omega)
      rw [List.getD_eq_getElem?_getD, List.getD_eq_getElem?_getD, List.getElem?_eq_getElem hj, List.getElem?_eq_getElem (by omega)] at this
      rw [List.getElem?_eq_getElem hj, List.getElem?_eq_getElem (by omega)]
      simpa using this
    · rw [List.getElem?_eq_none (by omega), List.getElem?_eq_none (by omega)]
  subst this; simp
/-! ### lists that lean on no memory -/
theorem flats_app : ∀ (a b : List T), T.flats (a ++ b) = (T.flats a && T.flats b)
  | [], b => by simp [T.flats]
  | x :: a, b => by simp [T.flats, flats_app a b, Bool.and_assoc]
theorem flats_int (xs : List Int) : T.flats (List.map (T.int .i64) xs) = true := by induction xs <;> simp_all [T.flats, T.flat]
theorem flats_bool (xs : List Bool) : T.flats (List.map T.bool xs) = true := by induction xs <;> simp_all [T.flats, T.flat]
theorem flats_str (xs : List ByteArray) : T.flats (List.map T.str xs) = true := by induction xs <;> simp_all [T.flats, T.flat]
theorem flats_node (xs : List Nd) : T.flats (List.flatMap nodeC xs) = true := by induction xs <;> simp_all [T.flats, T.flat, nodeC]
theorem flats_asked (xs : List (Int × Bool)) : T.flats (List.flatMap askedC xs) = true := by induction xs <;> simp_all [T.flats, T.flat, askedC]
end Go.Tl
