/-
  What the statement on rooms asks of a turn. Plain lists: no program here.
-/
import Derived.Test.YtofiecpgfjofdaaTlOth
import Derived.Test.YtofiecpgfjofdaaTlSame
namespace Go.Tl
theorem sor_pad {xs : List Int} {m k : Int} (h : isStateN xs m = true) (h0 : 0 ≤ k) (h1 : k ≤ 1000) : sorL (pad12 xs) (xs.length : Int) m k = xs ∧ sorM (pad12 xs) (xs.length : Int) m k = m := by
  have hr : isRoomN (pad12 xs) (xs.length : Int) m k = true := by
    rw [isRoom_pad h]; simp only [Bool.and_eq_true, decide_eq_true_eq]; exact ⟨h0, h1⟩
  unfold sorL sorM
  rw [if_pos hr, if_pos hr]
  exact ⟨by simp [pad12], rfl⟩
theorem sor_nr {xs : List Int} {m : Int} (h : isStateN xs m = true) : sorL (nrL xs m) (nrN xs m) (nrM xs m) 0 = xs ∧ sorM (nrL xs m) (nrN xs m) (nrM xs m) 0 = m := by
  simp only [nrL, nrN, nrM, h, if_true]
  exact sor_pad h (by omega) (by omega)
section
variable {lies : List Int} {n m k c a b : Int}
theorem dt_parts (h : dtB lies n m k c a b = true) : isRoomN lies n m k = true ∧ ¬ k = 1000 ∧ tuB (lies.take n.toNat) m c a b = true := by
  simp only [dtB, Bool.and_eq_true, Bool.not_eq_true', decide_eq_false_iff_not] at h
  exact ⟨h.1.1, h.1.2, h.2⟩
theorem dt_told (h : dtB lies n m k c a b = true) : dtL lies n m k c a b = pad12 (dtT lies n m c a b) ∧ dtN lies n m k c a b = ((dtT lies n m c a b).length : Int) ∧ dtM lies n m k c a b = tuM (lies.take n.toNat) m c a b ∧ dtK lies n m k c a b = k + 1 := by
  simp only [dtL, dtN, dtM, dtK, h, if_true, and_self]
theorem sor_dt (h : dtB lies n m k c a b = true) : sorL (dtL lies n m k c a b) (dtN lies n m k c a b) (dtM lies n m k c a b) (dtK lies n m k c a b) = dtT lies n m c a b ∧ sorM (dtL lies n m k c a b) (dtN lies n m k c a b) (dtM lies n m k c a b) (dtK lies n m k c a b) = tuM (lies.take n.toNat) m c a b := by
  obtain ⟨h1, h2, h3⟩ := dt_parts h
  obtain ⟨e1, e2, e3, e4⟩ := dt_told h
  rw [e1, e2, e3, e4]
  have hb := room_in h1
  exact sor_pad (mk_state (room_state h1) h3) (by omega) (by omega)
theorem lie_neg_stays {m : Int} {y : Bool} {x : Int} (h : 0 ≤ lieN m y x) : 0 ≤ x := by
  unfold lieN at h
  by_cases hx : x ≥ 0
  · exact hx
  · rw [if_neg (fun hh => hx hh.1)] at h; exact h
theorem ans_stays {xs : List Int} {m q : Int} {y : Bool} {i : Nat} (hi : i < xs.length) (h : 0 ≤ (ansN m q y xs).getD i 0) : 0 ≤ xs.getD i 0 := by
  unfold ansN afterN at h
  have e : (List.map (fun (j : Nat) => lieN m (falseB q y (j : Int)) (xs.getD j 0)) (List.range xs.length)).getD i 0 = lieN m (falseB q y (i : Int)) (xs.getD i 0) := by
    rw [List.getD_eq_getElem?_getD, List.getElem?_map, List.getElem?_range hi]; rfl
  rw [e] at h
  exact lie_neg_stays h
theorem tu_stays {xs : List Int} {i : Nat} (h : tuB xs m c a b = true) (hc : ¬ c = 5) (hi : i < xs.length) (h0 : 0 ≤ (tuL xs m c a b).getD i 0) : 0 ≤ xs.getD i 0 := by
  unfold tuB at h; unfold tuL at h0
  by_cases h1 : c = 1
  · subst h1; simp only [if_true, Bool.and_eq_true] at h; simp only [if_true, h.1] at h0; exact ans_stays hi h0
  by_cases h2 : c = 2
  · subst h2; simp at h; simp only [h.1] at h0; exact ans_stays hi h0
  by_cases h3 : c = 3
  · subst h3; simp at h; simp only [h.1] at h0
    have h0' : 0 ≤ (xs.set a.toNat (-1)).getD i 0 := h0
    rw [List.getD_eq_getElem?_getD, List.getElem?_set] at h0'
    by_cases he : a.toNat = i
    · rw [if_pos he, if_pos (by omega)] at h0'
      exact absurd h0' (by decide)
    · rw [if_neg he, ← List.getD_eq_getElem?_getD] at h0'
      exact h0'
  by_cases h4 : c = 4
  · subst h4; exact h0
  simp [h1, h2, h3, h4, hc] at h
theorem tu_len2 {xs : List Int} (h : tuB xs m c a b = true) (hc : ¬ c = 5) : (tuL xs m c a b).length = xs.length := by
  unfold tuB at h; unfold tuL
  by_cases h1 : c = 1
  · subst h1; simp only [if_true, Bool.and_eq_true] at h; simp [h.1]
  by_cases h2 : c = 2
  · subst h2; simp at h; simp [h.1]
  by_cases h3 : c = 3
  · subst h3; simp at h; simp [h.1]
  by_cases h4 : c = 4
  · subst h4; simp
  simp [h1, h2, h3, h4, hc] at h
/-- A turn of the kinds one and two, and its mirror. -/
theorem tu_mirror {xs : List Int} (h : tuB xs m c a b = true) (hc : c = 1 ∨ c = 2) : isQ (xs.length : Int) a = true ∧ tuB xs m (3 - c) (othN (xs.length : Int) a) 0 = true ∧ tuL xs m (3 - c) (othN (xs.length : Int) a) 0 = tuL xs m c a b ∧ tuM xs m (3 - c) (othN (xs.length : Int) a) 0 = tuM xs m c a b := by
  rcases hc with hc | hc
  · subst hc
    have hq : isQ (xs.length : Int) a = true := by unfold tuB at h; simp at h; exact h.1
    have ho := isQ_other hq
    refine ⟨hq, ?_, ?_, ?_⟩
    · simp [tuB, ho]
    · have e := ans_other (m := m) (y := true) hq
      simp only [Bool.not_true] at e
      simp [tuL, ho, hq, e]
    · simp [tuM, ho, hq]
  · subst hc
    have hq : isQ (xs.length : Int) a = true := by unfold tuB at h; simp at h; exact h.1
    have ho := isQ_other hq
    refine ⟨hq, ?_, ?_, ?_⟩
    · simp [tuB, ho]
    · have e := ans_other (m := m) (y := false) hq
      simp only [Bool.not_false] at e
      simp [tuL, ho, hq, e]
    · simp [tuM, ho, hq]
end
/-- A room behind turns is a room. -/
theorem r_rooms {l : List Int} {n m k : Int} {ts : List Nd} (hr : isRoomN l n m k = true) : ∀ i, (∀ j, j < i → rB l n m k ts j = true) → isRoomN (rL l n m k ts i) (rN l n m k ts i) (rM l n m k ts i) (rK l n m k ts i) = true
  | 0, _ => hr
  | i + 1, h => r_room (h i (by omega))
theorem cnt_all (p : Nat → Bool) : ∀ f i, (∀ j, j < i → p j = true) → ∀ j, j < cntR p f i → p j = true
  | 0, i, h, j, hj => h j (by simpa [cntR] using hj)
  | f + 1, i, h, j, hj => by
    simp only [cntR] at hj
    split at hj
    · rename_i hp
      refine cnt_all p f (i + 1) (fun x hx => ?_) j hj
      by_cases e : x = i
      · subst e; exact hp
      · exact h x (by omega)
    · exact h j hj
theorem ds_room {l : List Int} {n m k : Int} {ts : List Nd} (h : dsB l n m k = true) : isRoomN (dsL l n m k ts) (dsN l n m k ts) (dsM l n m k ts) (dsK l n m k ts) = true := by
  unfold dsL dsN dsM dsK
  rw [if_pos h, if_pos h, if_pos h, if_pos h]
  refine r_rooms h _ fun j hj => ?_
  unfold dsC at hj
  rw [if_pos h] at hj
  exact cnt_all _ _ _ (fun x hx => by omega) j hj
/-! ### what is drawn, by short names -/
section
variable {lies : List Int} {n m k c a b : Int}
theorem dt_bounds (h : dtB lies n m k c a b = true) : 0 ≤ k ∧ k ≤ 1000 := by
  have := room_in (dt_parts h).1; omega
theorem sor_ro (h : dtB lies n m k c a b = true) : sorL lies n m k = lies.take n.toNat := by
  unfold sorL; rw [if_pos (dt_parts h).1]
theorem dt_len2 (h : dtB lies n m k c a b = true) (hc : ¬ c = 5) : (sorL (dtL lies n m k c a b) (dtN lies n m k c a b) (dtM lies n m k c a b) (dtK lies n m k c a b)).length = (sorL lies n m k).length := by
  rw [(sor_dt h).1, sor_ro h]
  exact tu_len2 (dt_parts h).2.2 hc
theorem dt_out {i : Nat} (h : dtB lies n m k c a b = true) (hc : ¬ c = 5) (hi : i < (sorL lies n m k).length) (h0 : (sorL (dtL lies n m k c a b) (dtN lies n m k c a b) (dtM lies n m k c a b) (dtK lies n m k c a b)).getD i 0 ≥ 0) : ¬ (sorL lies n m k).getD i 0 < 0 := by
  rw [(sor_dt h).1] at h0
  rw [sor_ro h] at hi ⊢
  have := tu_stays (dt_parts h).2.2 hc hi h0
  omega
theorem dt_mirror (h : dtB lies n m k c a b = true) (hc : c = 1 ∨ c = 2) : isQ ((sorL lies n m k).length : Int) a = true ∧ dtB lies n m k (3 - c) (oqV ((sorL lies n m k).length : Int) a) 0 = true
    ∧ dtL lies n m k (3 - c) (oqV ((sorL lies n m k).length : Int) a) 0 = dtL lies n m k c a b ∧ dtN lies n m k (3 - c) (oqV ((sorL lies n m k).length : Int) a) 0 = dtN lies n m k c a b
    ∧ dtM lies n m k (3 - c) (oqV ((sorL lies n m k).length : Int) a) 0 = dtM lies n m k c a b ∧ dtK lies n m k (3 - c) (oqV ((sorL lies n m k).length : Int) a) 0 = dtK lies n m k c a b := by
  obtain ⟨h1, h2, h3⟩ := dt_parts h
  obtain ⟨g1, g2, g3, g4⟩ := tu_mirror h3 hc
  rw [sor_ro h]
  have eo : oqV ((lies.take n.toNat).length : Int) a = othN ((lies.take n.toNat).length : Int) a := by unfold oqV; rw [if_pos g1]
  rw [eo]
  have hb : dtB lies n m k (3 - c) (othN ((lies.take n.toNat).length : Int) a) 0 = true := by
    unfold dtB; rw [h1, g2, decide_eq_false h2]; rfl
  obtain ⟨e1, e2, e3, e4⟩ := dt_told h
  obtain ⟨f1, f2, f3, f4⟩ := dt_told hb
  have et : dtT lies n m (3 - c) (othN ((lies.take n.toNat).length : Int) a) 0 = dtT lies n m c a b := g3
  refine ⟨g1, hb, ?_, ?_, ?_, ?_⟩
  · rw [e1, f1, et]
  · rw [e2, f2, et]
  · rw [e3, f3, g4]
  · rw [e4, f4]
end
end Go.Tl
