/-
  Plain laws of leaves and ways. No statement of the seat is proved here.
-/
import Derived.Test.YtofiecpgfjofdaaTlMark2
namespace Go.Tl
set_option linter.unusedVariables false
set_option linter.unusedSimpArgs false
/-- The places of nodes that a test lets through. -/
def placesN (p : Nd → Bool) (t : List Nd) (k : Nat) : List Int := ((List.range k).filter fun i => p (t.getD i (0, 0, 0))).map fun (i : Nat) => (i : Int)
def lfI (x : Nd) : Bool := leafB x.1 x.2.1 x.2.2
def lfS (x : Nd) : Bool := decide (x.2.1 < 0)
theorem places_yes {p : Nd → Bool} {t : List Nd} {k : Nat} (h : p (t.getD k (0, 0, 0)) = true) : placesN p t (k + 1) = placesN p t k ++ [(k : Int)] := by
  unfold placesN
  rw [List.range_succ, List.filter_append, List.map_append, List.filter_cons, if_pos h]; rfl
theorem places_no {p : Nd → Bool} {t : List Nd} {k : Nat} (h : p (t.getD k (0, 0, 0)) = false) : placesN p t (k + 1) = placesN p t k := by
  unfold placesN
  rw [List.range_succ, List.filter_append, List.map_append, List.filter_cons, if_neg (by rw [h]; simp)]; simp
theorem places_len (p : Nd → Bool) (t : List Nd) (k : Nat) : (placesN p t k).length ≤ k := by
  unfold placesN
  rw [List.length_map]
  exact Nat.le_trans (List.length_filter_le _ _) (by simp)
theorem ok_all {n : Int} {t : List Nd} : ∀ (d : Nat) (a : Int), Ok n t d a → ∀ i : Int, a ≤ i → i < eN n t d a → lfS (ndOf t i) = lfI (ndOf t i)
  | 0, a, h => by have := ok_pos h; omega
  | d + 1, a, h => by
    intro i h1 h2
    have hi := ok_in h
    cases hl : leafB (ndOf t a).1 (ndOf t a).2.1 (ndOf t a).2.2 with
    | true =>
      rw [ok_leaf h hl] at h2
      obtain rfl : i = a := by omega
      have := leaf_eq hl
      simp only [lfS, lfI]; rw [hl, this.2.1]; rfl
    | false =>
      obtain ⟨n1, n2, n3, n4, n5, n6, n7⟩ := ok_node h hl
      simp only [Nat.add_sub_cancel] at *
      by_cases e : i = a
      · subst e
        simp only [lfS, lfI, hl, decide_eq_false_iff_not]; omega
      · by_cases e2 : i < eN n t d (a + 1)
        · exact ok_all d _ n4 i (by omega) e2
        · exact ok_all d _ n5 i (by omega) (by omega)
theorem places_same {n : Int} {t : List Nd} (h : (rootN n t).2 = true) : placesN lfI t t.length = placesN lfS t t.length := by
  have hr := root_ok h
  unfold placesN
  congr 1
  apply List.filter_congr
  intro i hi
  have hi' : i < t.length := by simpa using hi
  have := ok_all 7 0 hr.1 (i : Int) (by omega) (by rw [hr.2.1]; omega)
  unfold ndOf at this
  simp only [Int.toNat_natCast] at this
  exact this.symm
def lvN (n : Int) (t : List Nd) : List Int := if (rootN n t).2 = true then placesN lfI t t.length else []
theorem lvN_len (n : Int) (t : List Nd) : (lvN n t).length ≤ 127 := by
  unfold lvN; split
  · rename_i h; have := (root_ok h).2.2.2.2; have := places_len lfI t t.length; omega
  · simp
theorem lv_bad {n : Int} {t : List Nd} (h : (rootN n t).2 = false) : T.tup [T.list 0 1 [], T.bool false] = T.tup [T.list (lvN n t).length 1 (List.map (T.int .i64) (lvN n t)), T.bool (rootN n t).2] := by simp [lvN, h]
theorem lv_good {n : Int} {t : List Nd} (h : (rootN n t).2 = true) : T.tup [T.list (placesN lfS t t.length).length 1 (List.map (T.int .i64) (placesN lfS t t.length)), T.bool true] = T.tup [T.list (lvN n t).length 1 (List.map (T.int .i64) (lvN n t)), T.bool (rootN n t).2] := by simp [lvN, h, places_same h]
def wyN (n : Int) (t : List Nd) (x : Int) : List (Int × Bool) := if ndB n t x = true then wayN t x 7 0 else []
theorem wyN_len (n : Int) (t : List Nd) (x : Int) : (wyN n t x).length ≤ 7 := by
  unfold wyN; split
  · exact way_le7 (n := n) 7 0
  · simp
theorem wy_bad {n : Int} {t : List Nd} {x : Int} (h : ndB n t x = false) : T.tup [T.list 0 2 [], T.bool false] = T.tup [T.list (wyN n t x).length 2 (List.flatMap askedC (wyN n t x)), T.bool (ndB n t x)] := by simp [wyN, h]
theorem wy_good {n : Int} {t : List Nd} {x : Int} (h : ndB n t x = true) : T.tup [T.list (wayN t x 7 0).length 2 (List.flatMap askedC (wayN t x 7 0)), T.bool true] = T.tup [T.list (wyN n t x).length 2 (List.flatMap askedC (wyN n t x)), T.bool (ndB n t x)] := by simp [wyN, h]
theorem asked_eq {x y : Int × Bool} (h : ((x.1 == y.1) && (x.2 == y.2)) = true) : x = y := by
  simp only [Bool.and_eq_true, beq_iff_eq] at h
  exact Prod.ext h.1 h.2
theorem asked_ne {x y : Int × Bool} (h : ((x.1 == y.1) && (x.2 == y.2)) = false) : ¬ x = y := by
  rintro rfl; simp at h
end Go.Tl
