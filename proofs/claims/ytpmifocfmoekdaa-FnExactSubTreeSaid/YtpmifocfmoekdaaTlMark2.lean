/-
  Plain laws of the marks in nodes and answers. No statement of the seat is proved here.
-/
import Derived.Test.YtpmifocfmoekdaaTlMark
namespace Go.Tl
set_option linter.unusedVariables false
set_option linter.unusedSimpArgs false

theorem set_mid {α : Type} (A B C : List α) {n r : Nat} (x : α) (hn : A.length = n) (hr : r < B.length) : List.set (A ++ (B ++ C)) (n + r) x = A ++ (B.set r x ++ C) := by
  subst hn
  rw [List.set_append_right _ _ (by omega), Nat.add_sub_cancel_left, List.set_append_left _ _ hr]
theorem flat_mid {α : Type} (f : α → List T) (a b : List α) (x : α) : List.flatMap f (a ++ x :: b) = List.flatMap f a ++ (f x ++ List.flatMap f b) := by simp
theorem flat_len {α : Type} {f : α → List T} {c : Nat} (hf : ∀ p, (f p).length = c) (xs : List α) : (List.flatMap f xs).length = xs.length * c := by
  induction xs with
  | nil => simp
  | cons x xs ih => rw [List.flatMap_cons, List.length_append, ih, hf, List.length_cons, Nat.succ_mul, Nat.add_comm]
def markNd (k : Int) (n : Nat) : List Nd := (List.range n).map fun (i : Nat) => (k + 3 * (i : Int), k + 3 * (i : Int) + 1, k + 3 * (i : Int) + 2)
@[simp] theorem markNd_len (k : Int) (n : Nat) : (markNd k n).length = n := by simp [markNd]
theorem markNd_succ (k : Int) (n : Nat) : markNd k (n + 1) = markNd k n ++ [(k + 3 * (n : Int), k + 3 * (n : Int) + 1, k + 3 * (n : Int) + 2)] := by simp [markNd, List.range_succ]
theorem markNd_step {t : List Nd} {k : Int} {i : Nat} (h : i < t.length) : List.set (List.set (List.set (List.flatMap nodeC (markNd k i ++ t.drop i)) (i * 3 + 0) (T.int .i64 (k + 3 * (i : Int)))) (i * 3 + 1) (T.int .i64 (k + 3 * (i : Int) + 1))) (i * 3 + 2) (T.int .i64 (k + 3 * (i : Int) + 1 + 1)) =
    List.flatMap nodeC (markNd k (i + 1) ++ t.drop (i + 1)) := by
  rw [drop_cons h, flat_mid, set_mid _ _ _ _ (by rw [flat_len (c := 3) (fun _ => rfl), markNd_len]) (by simp [nodeC]), set_mid _ _ _ _ (by rw [flat_len (c := 3) (fun _ => rfl), markNd_len]) (by simp [nodeC]),
    set_mid _ _ _ _ (by rw [flat_len (c := 3) (fun _ => rfl), markNd_len]) (by simp [nodeC]), markNd_succ]
  simp [nodeC, Int.add_assoc]
theorem markNd_end {t : List Nd} {k : Int} {i : Nat} (h : i = t.length) : List.flatMap nodeC (markNd k i ++ t.drop i) = List.flatMap nodeC (markNd k t.length) := by
  subst h; simp
theorem markNd_fit {t : List Nd} {k : Int} {i : Nat} (h : i ≤ t.length) : (List.flatMap nodeC (markNd k i ++ t.drop i)).length = t.length * 3 := by
  rw [flat_len (c := 3) (fun _ => rfl)]; simp; omega
def heldNd (t : List Nd) (k : Int) : Int := if t == markNd k t.length then k + 3 * t.length else -1
theorem heldNd_mark (k : Int) (n : Nat) : heldNd (markNd k n) k = k + 3 * n := by simp [heldNd]
theorem heldNd_lt {t : List Nd} {k : Int} (h0 : 0 ≤ k) (h : heldNd t k < 0) : heldNd t k = -1 := by
  unfold heldNd at h ⊢
  split
  · rename_i e; rw [if_pos e] at h; omega
  · rfl
theorem heldNd_bad {t : List Nd} {k : Int} {i : Nat} (hi : i < t.length) (h : ¬ (t.getD i (0, 0, 0) = (k + 3 * (i : Int), k + 3 * (i : Int) + 1, k + 3 * (i : Int) + 2))) : T.int .i64 (-1) = T.int .i64 (heldNd t k) := by
  have : (t == markNd k t.length) = false := by
    rw [beq_eq_false_iff_ne]
    intro e
    apply h
    rw [e]
    simp [markNd, hi]
  simp [heldNd, this]
theorem heldNd_good {t : List Nd} {k kk : Int} {i : Nat} (hi : i = t.length) (hkk : kk = k + 3 * (i : Int)) (h : ∀ j, j < i → t.getD j (0, 0, 0) = (k + 3 * (j : Int), k + 3 * (j : Int) + 1, k + 3 * (j : Int) + 2)) : T.int .i64 kk = T.int .i64 (heldNd t k) := by
  have : t = markNd k t.length := by
    apply List.ext_getElem?
    intro j
    by_cases hj : j < t.length
    · have := h j (by omega)
      simp only [List.getD_eq_getElem?_getD, List.getElem?_eq_getElem hj, Option.getD_some] at this
      rw [List.getElem?_eq_getElem hj, this]
      simp [markNd, hj]
    · rw [List.getElem?_eq_none (by omega), List.getElem?_eq_none (by simp; omega)]
  unfold heldNd
  rw [← this]
  simp [hkk, hi]
theorem heldNd_at {t : List Nd} {k kk : Int} {i : Nat} (hkk : kk = k + 3 * (i : Int)) (h1 : (t.getD i (0, 0, 0)).1 = kk) (h2 : (t.getD i (0, 0, 0)).2.1 = kk + 1) (h3 : (t.getD i (0, 0, 0)).2.2 = kk + 1 + 1) : t.getD i (0, 0, 0) = (k + 3 * (i : Int), k + 3 * (i : Int) + 1, k + 3 * (i : Int) + 2) :=
  Prod.ext (by rw [h1, hkk]) (Prod.ext (by rw [h2, hkk]) (by rw [h3, hkk]; show _ = k + 3 * (i : Int) + 2; omega))
/-! ### answers -/
def markAs (k : Int) (n : Nat) : List (Int × Bool) := (List.range n).map fun (i : Nat) => (k + 2 * (i : Int), markB (k + 2 * (i : Int) + 1))
@[simp] theorem markAs_len (k : Int) (n : Nat) : (markAs k n).length = n := by simp [markAs]
/-! ### lists that lean on no memory -/
theorem flats_app : ∀ (a b : List T), T.flats (a ++ b) = (T.flats a && T.flats b)
  | [], b => by simp [T.flats]
  | x :: a, b => by simp [T.flats, flats_app a b, Bool.and_assoc]
theorem flats_int (xs : List Int) : T.flats (List.map (T.int .i64) xs) = true := by induction xs <;> simp_all [T.flats, T.flat]
theorem flats_bool (xs : List Bool) : T.flats (List.map T.bool xs) = true := by induction xs <;> simp_all [T.flats, T.flat]
theorem flats_str (xs : List ByteArray) : T.flats (List.map T.str xs) = true := by induction xs <;> simp_all [T.flats, T.flat]
theorem flats_node (xs : List Nd) : T.flats (List.flatMap nodeC xs) = true := by induction xs <;> simp_all [T.flats, T.flat, nodeC]
theorem flats_asked (xs : List (Int × Bool)) : T.flats (List.flatMap askedC xs) = true := by induction xs <;> simp_all [T.flats, T.flat, askedC]
end Go.Tl
