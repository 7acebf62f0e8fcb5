/-
  What a turn makes of a room. Plain lists: no program here.
-/
import Derived.Test.YtofiecpgfjofdaaTlState
import Derived.Test.YtofiecpgfjofdaaTlRoomY
namespace Go.Tl
theorem isState_ok {xs : List Int} {m : Int} (h : okS xs m) (h1 : 1 ≤ xs.length) : isStateN xs m = true :=
  isStateN_iff.2 ⟨⟨h1, h.1⟩, ⟨h.2.1, h.2.2.1⟩, fun i _ => h.2.2.2 i⟩
/-- A number that is open. -/
def opB (xs : List Int) (a : Int) : Bool := (decide (0 ≤ a) && decide (a ≤ (xs.length : Int) - 1)) && decide (xs.getD a.toNat 0 ≥ 0)
theorem op_in {xs : List Int} {a : Int} (h : (decide (0 ≤ a) && decide (a ≤ (xs.length : Int) - 1)) = true) : 0 ≤ a ∧ a < (xs.length : Int) := by
  simp only [Bool.and_eq_true, decide_eq_true_eq] at h; omega
theorem op_in2 {xs : List Int} {a : Int} (h : (decide (a ≥ 0) && decide (a ≤ (xs.length : Int) - 1)) = true) : 0 ≤ a ∧ a < (xs.length : Int) := op_in h
theorem op_of {xs : List Int} {a : Int} (h : opB xs a = true) : 0 ≤ a ∧ a < (xs.length : Int) := by
  simp only [opB, Bool.and_eq_true] at h
  exact op_in (by simp only [Bool.and_eq_true]; exact h.1)
theorem count_in {a : Int} (h : (decide (1 ≤ a) && decide (a ≤ 12)) = true) : 1 ≤ a ∧ a ≤ 12 := by
  simpa using h
theorem okS_out {xs : List Int} {m a : Int} (h : okS xs m) : okS (xs.set a.toNat (-1)) m := by
  refine ⟨by simpa using h.1, h.2.1, h.2.2.1, fun i => ?_⟩
  have h4 := h.2.2.2 i
  have h0 := h.2.1
  rw [List.getD_eq_getElem?_getD, List.getElem?_set]
  rw [List.getD_eq_getElem?_getD] at h4
  split
  · split
    · show -1 ≤ (-1 : Int) ∧ (-1 : Int) ≤ m
      omega
    · show -1 ≤ (0 : Int) ∧ (0 : Int) ≤ m
      omega
  · exact h4
theorem okS_more {xs : List Int} {m : Int} (h : okS xs m) (h2 : m + 1 ≤ 2) : okS xs (m + 1) :=
  ⟨h.1, by have := h.2.1; omega, h2, fun i => by have := h.2.2.2 i; omega⟩
/-! ### StartState -/
def ssB (a b : Int) : Bool := (decide (1 ≤ a) && decide (a ≤ 12)) && mostB b
def ssL (a b : Int) : List Int := if ssB a b = true then List.replicate a.toNat 0 else []
def ssM (a b : Int) : Int := if ssB a b = true then b else 0
theorem ss_len {a b : Int} : (ssL a b).length ≤ 12 := by
  unfold ssL; split
  · rename_i h; simp only [ssB, Bool.and_eq_true, decide_eq_true_eq] at h; simp; omega
  · simp
theorem ss_yes {a b : Int} (h : (decide (1 ≤ a) && decide (a ≤ 12)) = true) (h2 : mostB b = true) : ssB a b = true ∧ ssL a b = List.replicate a.toNat 0 ∧ ssM a b = b := by simp [ssL, ssM, ssB, h, h2]
theorem ss_no1 {a b : Int} (h : (decide (1 ≤ a) && decide (a ≤ 12)) = false) : ssB a b = false ∧ ssL a b = [] ∧ ssM a b = 0 := by simp [ssL, ssM, ssB, h]
theorem ss_no2 {a b : Int} (h : mostB b = false) : ssB a b = false ∧ ssL a b = [] ∧ ssM a b = 0 := by simp [ssL, ssM, ssB, h]
theorem ss_state {a b : Int} : ssB a b = true → isStateN (ssL a b) (ssM a b) = true := by
  intro h
  have h' := h
  simp only [ssB, Bool.and_eq_true, decide_eq_true_eq] at h'
  have hm := most_ok h'.2
  rw [ssL, ssM, if_pos h, if_pos h]
  exact isState_ok (okS_start (by omega) hm.1 hm.2) (by simp; omega)
/-! ### AnswerState -/
def asB (xs : List Int) (m q : Int) : Bool := isStateN xs m && isQ (xs.length : Int) q
def asL (xs : List Int) (m q : Int) (y : Bool) : List Int := if asB xs m q = true then ansN m q y xs else []
def asM (xs : List Int) (m q : Int) (_y : Bool) : Int := if asB xs m q = true then m else 0
theorem as_yes {xs : List Int} {m q : Int} {y : Bool} (h : isStateN xs m = true) (h2 : isQ ((xs.length : Nat) : Int) q = true) : asB xs m q = true ∧ asL xs m q y = ansN m q y xs ∧ asM xs m q y = m := by simp [asL, asM, asB, h, h2]
theorem as_no1 {xs : List Int} {m q : Int} {y : Bool} (h : isStateN xs m = false) : asB xs m q = false ∧ asL xs m q y = [] ∧ asM xs m q y = 0 := by simp [asL, asM, asB, h]
theorem as_no2 {xs : List Int} {m q : Int} {y : Bool} (h : isQ ((xs.length : Nat) : Int) q = false) : asB xs m q = false ∧ asL xs m q y = [] ∧ asM xs m q y = 0 := by simp [asL, asM, asB, h]
/-! ### what a turn makes of a state: as it is told, and as it is made -/
def mkL (xs : List Int) (m c a b : Int) : List Int :=
  if c = 1 then (if isQ (xs.length : Int) a = true then ansN m a true xs else xs)
  else if c = 2 then (if isQ (xs.length : Int) a = true then ansN m a false xs else xs)
  else if c = 3 then (if opB xs a = true then xs.set a.toNat (-1) else xs)
  else if c = 4 then xs else if c = 5 then ssL a b else xs
def mkM (_xs : List Int) (m c a b : Int) : Int := if c = 4 then m + 1 else if c = 5 then ssM a b else m
def mkB (xs : List Int) (_m c a b : Int) : Bool :=
  if c = 1 then isQ (xs.length : Int) a && decide (b = 0)
  else if c = 2 then isQ (xs.length : Int) a && decide (b = 0)
  else if c = 3 then opB xs a && decide (b = 0)
  else if c = 4 then decide (a = 0) && decide (b = 0) else if c = 5 then ssB a b else false
def tuL (xs : List Int) (m c a b : Int) : List Int :=
  if c = 1 then (if isQ (xs.length : Int) a = true then ansN m a true xs else [])
  else if c = 2 then (if isQ (xs.length : Int) a = true then ansN m a false xs else [])
  else if c = 3 then (if opB xs a = true then xs.set a.toNat (-1) else [])
  else if c = 4 then xs else if c = 5 then ssL a b else []
def tuM (xs : List Int) (m c a b : Int) : Int :=
  if c = 1 then (if isQ (xs.length : Int) a = true then m else 0)
  else if c = 2 then (if isQ (xs.length : Int) a = true then m else 0)
  else if c = 3 then (if opB xs a = true then m else 0)
  else if c = 4 then m + 1 else if c = 5 then ssM a b else 0
def tuB (xs : List Int) (m c a b : Int) : Bool :=
  if c = 1 then isQ (xs.length : Int) a && decide (b = 0)
  else if c = 2 then isQ (xs.length : Int) a && decide (b = 0)
  else if c = 3 then opB xs a && decide (b = 0)
  else if c = 4 then mostB (m + 1) && decide (a = 0) && decide (b = 0) else if c = 5 then ssB a b else false
theorem tu_mk {xs : List Int} {m c a b : Int} (h : tuB xs m c a b = true) : mkB xs m c a b = true ∧ mkL xs m c a b = tuL xs m c a b ∧ mkM xs m c a b = tuM xs m c a b := by
  unfold tuB at h; unfold mkB mkL mkM tuL tuM
  by_cases h1 : c = 1
  · subst h1; simp only [if_true, Bool.and_eq_true, decide_eq_true_eq] at h ⊢; simp [h.1, h.2]
  by_cases h2 : c = 2
  · subst h2; simp at h; simp [h.1, h.2]
  by_cases h3 : c = 3
  · subst h3; simp at h; simp [h.1, h.2]
  by_cases h4 : c = 4
  · subst h4; simp at h; simp [h.1.2, h.2]
  by_cases h5 : c = 5
  · subst h5; simp at h; simp [h]
  simp [h1, h2, h3, h4, h5] at h
theorem mk_state {xs : List Int} {m c a b : Int} (hs : isStateN xs m = true) (h : tuB xs m c a b = true) : isStateN (tuL xs m c a b) (tuM xs m c a b) = true := by
  have hv := okS_of hs
  have hl := isStateN_len hs
  unfold tuB at h; unfold tuL tuM
  by_cases h1 : c = 1
  · subst h1; simp only [if_true, Bool.and_eq_true, decide_eq_true_eq] at h; simp only [if_true, h.1]; exact isState_ok (okS_ans hv) (by simp; omega)
  by_cases h2 : c = 2
  · subst h2; simp at h; simp only [h.1]; exact isState_ok (okS_ans hv) (by simp; omega)
  by_cases h3 : c = 3
  · subst h3; simp at h; simp only [h.1]; exact isState_ok (okS_out hv) (by simp; omega)
  by_cases h4 : c = 4
  · subst h4; simp at h; have := most_ok h.1.1; exact isState_ok (okS_more hv this.2) (by simp; omega)
  by_cases h5 : c = 5
  · subst h5; simp at h; simpa using ss_state h
  simp [h1, h2, h3, h4, h5] at h
theorem mk_tu {xs : List Int} {m c a b : Int} (_hs : isStateN xs m = true) (h : mkB xs m c a b = true) (hst : isStateN (mkL xs m c a b) (mkM xs m c a b) = true) : tuB xs m c a b = true := by
  unfold mkB at h; unfold tuB
  by_cases h1 : c = 1
  · subst h1; simpa using h
  by_cases h2 : c = 2
  · subst h2; simpa using h
  by_cases h3 : c = 3
  · subst h3; simpa using h
  by_cases h4 : c = 4
  · subst h4; simp at h
    have hv := okS_of hst
    have hm : mkM xs m 4 a b = m + 1 := by simp [mkM]
    rw [hm] at hv
    simp [mostB, h, hv.2.1, hv.2.2.1]
  by_cases h5 : c = 5
  · subst h5; simpa using h
  simp [h1, h2, h3, h4, h5] at h
theorem mk_tuB {xs : List Int} {m c a b : Int} (hs : isStateN xs m = true) : (mkB xs m c a b && isStateN (mkL xs m c a b) (mkM xs m c a b)) = tuB xs m c a b := by
  cases ht : tuB xs m c a b
  · cases h1 : mkB xs m c a b
    · rfl
    · cases h2 : isStateN (mkL xs m c a b) (mkM xs m c a b)
      · rfl
      · rw [mk_tu hs h1 h2] at ht; cases ht
  · obtain ⟨e1, e2, e3⟩ := tu_mk ht
    rw [e1, e2, e3, mk_state hs ht]; rfl
/-! ### lengths -/
theorem mk_len {xs : List Int} {m c a b : Int} (h : xs.length ≤ 12) : (mkL xs m c a b).length ≤ 12 := by
  unfold mkL; have := ss_len (a := a) (b := b)
  (repeat' split) <;> simp <;> omega
theorem tu_len {xs : List Int} {m c a b : Int} (h : xs.length ≤ 12) : (tuL xs m c a b).length ≤ 12 := by
  unfold tuL; have := ss_len (a := a) (b := b)
  (repeat' split) <;> simp <;> omega
/-! ### rooms of states -/
theorem isRoom_pad {xs : List Int} {m k : Int} (h : isStateN xs m = true) : isRoomN (pad12 xs) (xs.length : Int) m k = (decide (0 ≤ k) && decide (k ≤ 1000)) := by
  have hl := isStateN_len h
  have e1 : (pad12 xs).take ((xs.length : Int).toNat) = xs := by simp [pad12]
  have e2 : (pad12 xs).drop ((xs.length : Int).toNat) = List.replicate (12 - xs.length) 0 := by simp [pad12]
  have e3 : (decide (1 ≤ (xs.length : Int)) && decide ((xs.length : Int) ≤ 12)) = true := by
    simp only [Bool.and_eq_true, decide_eq_true_eq]; omega
  unfold isRoomN
  rw [e1, e2, h, e3]
  simp
theorem room_state {lies : List Int} {n m k : Int} (h : isRoomN lies n m k = true) : isStateN (lies.take n.toNat) m = true := by
  simp only [isRoomN, Bool.and_eq_true] at h; exact h.1.2
/-- What DoTurn gives. -/
def dtB (lies : List Int) (n m k c a b : Int) : Bool := isRoomN lies n m k && !(decide (k = 1000)) && tuB (lies.take n.toNat) m c a b
def dtT (lies : List Int) (n m c a b : Int) : List Int := tuL (lies.take n.toNat) m c a b
def dtL (lies : List Int) (n m k c a b : Int) : List Int := if dtB lies n m k c a b = true then pad12 (dtT lies n m c a b) else List.replicate 12 0
def dtN (lies : List Int) (n m k c a b : Int) : Int := if dtB lies n m k c a b = true then (dtT lies n m c a b).length else 0
def dtM (lies : List Int) (n m k c a b : Int) : Int := if dtB lies n m k c a b = true then tuM (lies.take n.toNat) m c a b else 0
def dtK (lies : List Int) (n m k c a b : Int) : Int := if dtB lies n m k c a b = true then k + 1 else 0
theorem dtL_len {lies : List Int} {n m k c a b : Int} : (dtL lies n m k c a b).length = 12 := by
  unfold dtL; split
  · rename_i h
    simp only [dtB, Bool.and_eq_true] at h
    have hr := room_state h.1.1
    exact pad12_len (tu_len (isStateN_len hr).1)
  · simp
/-! ### by cases -/
theorem op_no1 {xs : List Int} {a : Int} (h : (decide (0 ≤ a) && decide (a ≤ (xs.length : Int) - 1)) = false) : opB xs a = false := by unfold opB; rw [h]; rfl
theorem op_no2 {xs : List Int} {a : Int} (h : decide (xs.getD a.toNat 0 < 0) = true) : opB xs a = false := by
  have : ¬ (xs.getD a.toNat 0 ≥ 0) := by have := of_decide_eq_true h; omega
  unfold opB; rw [decide_eq_false this, Bool.and_false]
theorem op_yes {xs : List Int} {a : Int} (h : (decide (0 ≤ a) && decide (a ≤ (xs.length : Int) - 1)) = true) (h2 : decide (xs.getD a.toNat 0 < 0) = false) : opB xs a = true := by
  have : xs.getD a.toNat 0 ≥ 0 := by have := of_decide_eq_false h2; omega
  unfold opB; rw [h, decide_eq_true this]; rfl
section
variable {xs : List Int} {m c a b : Int}
theorem mk_1 (hc : (c == 1) = true) (h : isQ (xs.length : Int) a = true) : mkL xs m c a b = ansN m a true xs ∧ mkM xs m c a b = m ∧ mkB xs m c a b = (b == 0) := by
  have := eq_of_beq hc; subst this; simp [mkL, mkM, mkB, h]; rfl
theorem mk_2 (hc : (c == 2) = true) (h : isQ (xs.length : Int) a = true) : mkL xs m c a b = ansN m a false xs ∧ mkM xs m c a b = m ∧ mkB xs m c a b = (b == 0) := by
  have := eq_of_beq hc; subst this; simp [mkL, mkM, mkB, h]; rfl
theorem mk_1n (hc : (c == 1) = true) (h : isQ (xs.length : Int) a = false) : mkL xs m c a b = xs ∧ mkM xs m c a b = m ∧ mkB xs m c a b = false := by
  have := eq_of_beq hc; subst this; simp [mkL, mkM, mkB, h]
theorem mk_2n (hc : (c == 2) = true) (h : isQ (xs.length : Int) a = false) : mkL xs m c a b = xs ∧ mkM xs m c a b = m ∧ mkB xs m c a b = false := by
  have := eq_of_beq hc; subst this; simp [mkL, mkM, mkB, h]
theorem mk_3 (hc : (c == 3) = true) (h : opB xs a = true) : mkL xs m c a b = xs.set a.toNat (-1) ∧ mkM xs m c a b = m ∧ mkB xs m c a b = (b == 0) := by
  have := eq_of_beq hc; subst this; simp [mkL, mkM, mkB, h]; rfl
theorem mk_3n (hc : (c == 3) = true) (h : opB xs a = false) : mkL xs m c a b = xs ∧ mkM xs m c a b = m ∧ mkB xs m c a b = false := by
  have := eq_of_beq hc; subst this; simp [mkL, mkM, mkB, h]
theorem mk_4 (hc : (c == 4) = true) : mkL xs m c a b = xs ∧ mkM xs m c a b = m + 1 ∧ mkB xs m c a b = ((a == 0) && (b == 0)) := by
  have := eq_of_beq hc; subst this; simp [mkL, mkM, mkB]; rfl
theorem mk_5 (hc : (c == 5) = true) : mkL xs m c a b = ssL a b ∧ mkM xs m c a b = ssM a b ∧ mkB xs m c a b = ssB a b := by
  have := eq_of_beq hc; subst this; simp [mkL, mkM, mkB]
theorem mk_0 (h1 : (c == 1) = false) (h2 : (c == 2) = false) (h3 : (c == 3) = false) (h4 : (c == 4) = false) (h5 : (c == 5) = false) : mkL xs m c a b = xs ∧ mkM xs m c a b = m ∧ mkB xs m c a b = false := by
  simp only [beq_eq_false_iff_ne, ne_eq] at h1 h2 h3 h4 h5
  simp [mkL, mkM, mkB, h1, h2, h3, h4, h5]
theorem tu_1 (hs : isStateN xs m = true) (hc : (c == 1) = true) : tuL xs m c a b = asL xs m a true ∧ tuM xs m c a b = asM xs m a true ∧ tuB xs m c a b = (asB xs m a && (b == 0)) := by
  have := eq_of_beq hc; subst this; cases h : isQ (xs.length : Int) a <;> simp [tuL, tuM, tuB, asL, asM, asB, hs, h]; rfl
theorem tu_2 (hs : isStateN xs m = true) (hc : (c == 2) = true) : tuL xs m c a b = asL xs m a false ∧ tuM xs m c a b = asM xs m a false ∧ tuB xs m c a b = (asB xs m a && (b == 0)) := by
  have := eq_of_beq hc; subst this; cases h : isQ (xs.length : Int) a <;> simp [tuL, tuM, tuB, asL, asM, asB, hs, h]; rfl
theorem tu_3 (hc : (c == 3) = true) (h : opB xs a = true) : tuL xs m c a b = xs.set a.toNat (-1) ∧ tuM xs m c a b = m ∧ tuB xs m c a b = (b == 0) := by
  have := eq_of_beq hc; subst this; simp [tuL, tuM, tuB, h]; rfl
theorem tu_3n (hc : (c == 3) = true) (h : opB xs a = false) : tuL xs m c a b = [] ∧ tuM xs m c a b = 0 ∧ tuB xs m c a b = false := by
  have := eq_of_beq hc; subst this; simp [tuL, tuM, tuB, h]
theorem tu_4 (hc : (c == 4) = true) : tuL xs m c a b = xs ∧ tuM xs m c a b = m + 1 ∧ tuB xs m c a b = (mostB (m + 1) && (a == 0) && (b == 0)) := by
  have := eq_of_beq hc; subst this; simp [tuL, tuM, tuB]; rfl
theorem tu_5 (hc : (c == 5) = true) : tuL xs m c a b = ssL a b ∧ tuM xs m c a b = ssM a b ∧ tuB xs m c a b = ssB a b := by
  have := eq_of_beq hc; subst this; simp [tuL, tuM, tuB]
theorem tu_0 (h1 : (c == 1) = false) (h2 : (c == 2) = false) (h3 : (c == 3) = false) (h4 : (c == 4) = false) (h5 : (c == 5) = false) : tuL xs m c a b = [] ∧ tuM xs m c a b = 0 ∧ tuB xs m c a b = false := by
  simp only [beq_eq_false_iff_ne, ne_eq] at h1 h2 h3 h4 h5
  simp [tuL, tuM, tuB, h1, h2, h3, h4, h5]
end
/-! ### DoTurn by cases -/
section
variable {lies : List Int} {n m k c a b : Int}
theorem dt_1 (hr : isRoomN lies n m k = true) (h : mkB (lies.take n.toNat) m c a b = false) : dtB lies n m k c a b = false := by
  have e := mk_tuB (c := c) (a := a) (b := b) (room_state hr)
  rw [h] at e; unfold dtB; rw [← e]; simp
theorem dt_2 (hr : isRoomN lies n m k = true) (h : isStateN (mkL (lies.take n.toNat) m c a b) (mkM (lies.take n.toNat) m c a b) = false) : dtB lies n m k c a b = false := by
  have e := mk_tuB (c := c) (a := a) (b := b) (room_state hr)
  rw [h] at e; unfold dtB; rw [← e]; simp
theorem dt_3 (hr : isRoomN lies n m k = true) (h1 : isStateN (mkL (lies.take n.toNat) m c a b) (mkM (lies.take n.toNat) m c a b) = true) (h : isRoomN (pad12 (mkL (lies.take n.toNat) m c a b)) ((mkL (lies.take n.toNat) m c a b).length : Int) (mkM (lies.take n.toNat) m c a b) (k + 1) = false) : dtB lies n m k c a b = false := by
  have hb := room_in hr
  rw [isRoom_pad h1] at h
  simp only [Bool.and_eq_false_iff, decide_eq_false_iff_not] at h
  have hk : k = 1000 := by omega
  unfold dtB; rw [decide_eq_true hk]; simp
theorem dt_4 (hr : isRoomN lies n m k = true) (h0 : mkB (lies.take n.toNat) m c a b = true) (h1 : isStateN (mkL (lies.take n.toNat) m c a b) (mkM (lies.take n.toNat) m c a b) = true) (h : isRoomN (pad12 (mkL (lies.take n.toNat) m c a b)) ((mkL (lies.take n.toNat) m c a b).length : Int) (mkM (lies.take n.toNat) m c a b) (k + 1) = true) : dtB lies n m k c a b = true ∧ mkL (lies.take n.toNat) m c a b = dtT lies n m c a b ∧ mkM (lies.take n.toNat) m c a b = tuM (lies.take n.toNat) m c a b := by
  have hb := room_in h
  have e := mk_tuB (c := c) (a := a) (b := b) (room_state hr)
  rw [h0, h1] at e
  have et : tuB (lies.take n.toNat) m c a b = true := e.symm
  have hk : ¬ k = 1000 := by omega
  refine ⟨?_, (tu_mk et).2.1, (tu_mk et).2.2⟩
  unfold dtB; rw [decide_eq_false hk, hr, et]; rfl
theorem dt_5 (hr : isRoomN lies n m k = false) : dtB lies n m k c a b = false := by unfold dtB; rw [hr]; rfl
theorem dt_6 (h : (k == 1000) = true) : dtB lies n m k c a b = false := by unfold dtB; rw [decide_eq_true (eq_of_beq h)]; simp
theorem dt_7 (h : tuB (lies.take n.toNat) m c a b = false) : dtB lies n m k c a b = false := by unfold dtB; rw [h]; simp
theorem dt_8 (hr : isRoomN lies n m k = true) (h6 : (k == 1000) = false) (h : tuB (lies.take n.toNat) m c a b = true) : dtB lies n m k c a b = true := by
  have hk : ¬ k = 1000 := by simpa using h6
  unfold dtB; rw [decide_eq_false hk, hr, h]; rfl
theorem dt_bad (h : dtB lies n m k c a b = false) : T.tup [T.agg [T.int .i64 0, T.int .i64 0, T.int .i64 0, T.int .i64 0, T.int .i64 0, T.int .i64 0, T.int .i64 0, T.int .i64 0, T.int .i64 0, T.int .i64 0, T.int .i64 0, T.int .i64 0, T.int .i64 0, T.int .i64 0, T.int .i64 0], T.bool false] = T.tup [T.agg (List.map (T.int .i64) (dtL lies n m k c a b) ++ [T.int .i64 (dtN lies n m k c a b), T.int .i64 (dtM lies n m k c a b), T.int .i64 (dtK lies n m k c a b)]), T.bool (dtB lies n m k c a b)] := by
  simp [dtL, dtN, dtM, dtK, h]
theorem dt_good (h : dtB lies n m k c a b = true) : T.tup [T.agg (List.map (T.int .i64) (pad12 (tuL (lies.take n.toNat) m c a b)) ++ [T.int .i64 ((tuL (lies.take n.toNat) m c a b).length : Int), T.int .i64 (tuM (lies.take n.toNat) m c a b), T.int .i64 (k + 1)]), T.bool true] = T.tup [T.agg (List.map (T.int .i64) (dtL lies n m k c a b) ++ [T.int .i64 (dtN lies n m k c a b), T.int .i64 (dtM lies n m k c a b), T.int .i64 (dtK lies n m k c a b)]), T.bool (dtB lies n m k c a b)] := by
  simp [dtL, dtN, dtM, dtK, h, dtT]
theorem dt_good2 (hr : isRoomN lies n m k = true) (h0 : mkB (lies.take n.toNat) m c a b = true) (h1 : isStateN (mkL (lies.take n.toNat) m c a b) (mkM (lies.take n.toNat) m c a b) = true) (h : isRoomN (pad12 (mkL (lies.take n.toNat) m c a b)) ((mkL (lies.take n.toNat) m c a b).length : Int) (mkM (lies.take n.toNat) m c a b) (k + 1) = true) : T.tup [T.agg (List.map (T.int .i64) (pad12 (mkL (lies.take n.toNat) m c a b)) ++ [T.int .i64 ((mkL (lies.take n.toNat) m c a b).length : Int), T.int .i64 (mkM (lies.take n.toNat) m c a b), T.int .i64 (k + 1)]), T.bool true] = T.tup [T.agg (List.map (T.int .i64) (dtL lies n m k c a b) ++ [T.int .i64 (dtN lies n m k c a b), T.int .i64 (dtM lies n m k c a b), T.int .i64 (dtK lies n m k c a b)]), T.bool (dtB lies n m k c a b)] := by
  obtain ⟨e1, e2, e3⟩ := dt_4 hr h0 h1 h
  rw [e2, e3]; exact dt_good e1
theorem take_room {xs : List Int} {x y z : T} (h : xs.length ≤ 12) : List.take 15 (List.map (T.int .i64) (pad12 xs) ++ [x, y, z]) = List.map (T.int .i64) (pad12 xs) ++ [x, y, z] := by
  have := pad12_len h
  rw [List.take_of_length_le (by simp [this])]
end
end Go.Tl
