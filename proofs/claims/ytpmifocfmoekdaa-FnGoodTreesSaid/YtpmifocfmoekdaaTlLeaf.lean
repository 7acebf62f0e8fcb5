/-
  Plain laws of leaves and ways. No statement of the seat is proved here.
-/
import Derived.Test.YtpmifocfmoekdaaTlMark2
namespace Go.Tl
set_option linter.unusedVariables false
set_option linter.unusedSimpArgs false
/-- The places of nodes that a test lets through. -/
def placesN (p : Nd → Bool) (t : List Nd) (k : Nat) : List Int := ((List.range k).filter fun i => p (t.getD i (0, 0, 0))).map fun (i : Nat) => (i : Int)
def lfI (x : Nd) : Bool := leafB x.1 x.2.1 x.2.2
def lfS (x : Nd) : Bool := decide (x.2.1 < 0)
theorem places_yes {p : Nd → Bool} {t : List Nd} {k : Nat} (h : p (t.getD k (0, 0, 0)) = true) : placesN p t (k + 1) = placesN p t k ++ [(k : Int)] := by
  unfold placesN
  rw [List.range_succ, List.filter_append, List.map_append, List.filter_cons, if_pos h]; rfl
theorem places_no {p : Nd → Bool} {t : List Nd} {k : Nat} (h : p (t.getD k (0, 0, 0)) = false) : placesN p t (k + 1) = placesN p t k := by
  unfold placesN
  rw [List.range_succ, List.filter_append, List.map_append, List.filter_cons, if_neg (by rw [h]; simp)]; simp
theorem places_len (p : Nd → Bool) (t : List Nd) (k : Nat) : (placesN p t k).length ≤ k := by
  unfold placesN
  rw [List.length_map]
  exact Nat.le_trans (List.length_filter_le _ _) (by simp)
theorem ok_all {n : Int} {t : List Nd} : ∀ (d : Nat) (a : Int), Ok n t d a → ∀ i : Int, a ≤ i → i < eN n t d a → lfS (ndOf t i) = lfI (ndOf t i)
  | 0, a, h => by have := ok_pos h; omega
  | d + 1, a, h => by
    intro i h1 h2
    have hi := ok_in h
    cases hl : leafB (ndOf t a).1 (ndOf t a).2.1 (ndOf t a).2.2 with
    | true =>
      rw [ok_leaf h hl] at h2
      obtain rfl : i = a := by omega
      have := leaf_eq hl
      simp only [lfS, lfI]; rw [hl, this.2.1]; rfl
    | false =>
      obtain ⟨n1, n2, n3, n4, n5, n6, n7⟩ := ok_node h hl
      simp only [Nat.add_sub_cancel] at *
      by_cases e : i = a
      · subst e
        simp only [lfS, lfI, hl, decide_eq_false_iff_not]; omega
      · by_cases e2 : i < eN n t d (a + 1)
        · exact ok_all d _ n4 i (by omega) e2
        · exact ok_all d _ n5 i (by omega) (by omega)
theorem places_same {n : Int} {t : List Nd} (h : (rootN n t).2 = true) : placesN lfI t t.length = placesN lfS t t.length := by
  have hr := root_ok h
  unfold placesN
  congr 1
  apply List.filter_congr
  intro i hi
  have hi' : i < t.length := by simpa using hi
  have := ok_all 7 0 hr.1 (i : Int) (by omega) (by rw [hr.2.1]; omega)
  unfold ndOf at this
  simp only [Int.toNat_natCast] at this
  exact this.symm
def lvN (n : Int) (t : List Nd) : List Int := if (rootN n t).2 = true then placesN lfI t t.length else []
def wyN (n : Int) (t : List Nd) (x : Int) : List (Int × Bool) := if ndB n t x = true then wayN t x 7 0 else []
theorem wyN_len (n : Int) (t : List Nd) (x : Int) : (wyN n t x).length ≤ 7 := by
  unfold wyN; split
  · exact way_le7 (n := n) 7 0
  · simp
end Go.Tl
