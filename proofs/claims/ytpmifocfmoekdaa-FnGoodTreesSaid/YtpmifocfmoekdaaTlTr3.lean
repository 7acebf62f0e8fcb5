/-
  Plain laws for consoles that begin, and for mean numbers of questions. No statement of the seat is proved here.
-/
import Derived.Test.YtpmifocfmoekdaaTlTr2
namespace Go.Tl
set_option linter.unusedVariables false
set_option linter.unusedSimpArgs false
def maxN (a b : Int) : Int := if a > b then a else b
theorem maxN_yes {a b : Int} (h : decide (a > b) = true) : T.int .i64 a = T.int .i64 (maxN a b) := by unfold maxN; rw [if_pos (of_decide_eq_true h)]
theorem maxN_no {a b : Int} (h : decide (a > b) = false) : T.int .i64 b = T.int .i64 (maxN a b) := by unfold maxN; rw [if_neg (of_decide_eq_false h)]
theorem maxN_one {a : Int} (h : 1 ≤ a) : maxN a 1 = a := by unfold maxN; split <;> omega
theorem maxN_ge {a b : Int} : b ≤ maxN a b := by unfold maxN; split <;> omega
theorem tmod_bd {a b : Int} (ha : 0 ≤ a) (hb : 0 < b) : 0 ≤ Int.tmod a b ∧ Int.tmod a b < b := by
  rw [Int.tmod_eq_emod_of_nonneg ha]
  exact ⟨Int.emod_nonneg _ (by omega), Int.emod_lt_of_pos _ hb⟩
def GcdAt (x y a b : Int) : Prop := 0 ≤ a ∧ 0 ≤ b ∧ Int.gcd a b = Int.gcd x y
theorem gcdAt_step {x y a b : Int} (h : GcdAt x y a b) (hb : ¬ b = 0) : GcdAt x y b (Int.tmod a b) ∧ (Int.tmod a b).toNat < b.toNat := by
  obtain ⟨h1, h2, h3⟩ := h
  have := tmod_bd h1 (show 0 < b by omega)
  exact ⟨⟨h2, this.1, by rw [gcd_step h2]; exact h3⟩, by omega⟩
theorem gcdAt_end {x y a b : Int} (h : GcdAt x y a b) (hy : 1 ≤ y) : b ≤ 0 → a = ((Int.gcd x y : Nat) : Int) ∧ 1 ≤ a := by
  intro hb
  obtain ⟨h1, h2, h3⟩ := h
  have : b = 0 := by omega
  subst this
  rw [Int.gcd_zero_right] at h3
  have hp : 0 < Int.gcd x y := Int.gcd_pos_of_ne_zero_right _ (by omega)
  omega
abbrev depN (t : List Nd) (i : Nat) : Int := (trueN t (i : Int) 7 0).2
theorem dep_bd {n : Int} {t : List Nd} (h : (rootN n t).2 = true) (k : Nat) : 0 ≤ sumN (depN t) k ∧ sumN (depN t) k ≤ k * 7 :=
  sum_bd (fun j _ => by have := true_way (s := (j : Int)) 7 0 (root_ok h).1; exact ⟨this.2.2.1, this.2.2.2.1⟩) (by omega)
theorem true_way7 {n : Int} {t : List Nd} (h : (rootN n t).2 = true) (s : Int) : 0 ≤ (trueN t s 7 0).1 ∧ (trueN t s 7 0).1 < (t.length : Int) ∧ 0 ≤ (trueN t s 7 0).2 ∧ (trueN t s 7 0).2 ≤ 7 ∧ ((wayN t (trueN t s 7 0).1 7 0).length : Int) = (trueN t s 7 0).2 := by
  have := true_way (s := s) 7 0 (root_ok h).1
  rw [(root_ok h).2.1] at this
  exact ⟨this.1, this.2.1, this.2.2.1, this.2.2.2.1, this.2.2.2.2⟩
def mnA (n : Int) (t : List Nd) : Int := if (rootN n t).2 = true then IntKind.wrap .i64 (Int.tdiv (sumN (depN t) n.toNat) ((Int.gcd (sumN (depN t) n.toNat) n : Nat) : Int)) else 0
def mnB (n : Int) (t : List Nd) : Int := if (rootN n t).2 = true then IntKind.wrap .i64 (Int.tdiv n ((Int.gcd (sumN (depN t) n.toNat) n : Nat) : Int)) else 0
theorem mn_bad {n : Int} {t : List Nd} (h : (rootN n t).2 = false) : T.tup [T.agg [T.int .i64 0, T.int .i64 0], T.bool false] = T.tup [T.agg [T.int .i64 (mnA n t), T.int .i64 (mnB n t)], T.bool (rootN n t).2] := by simp [mnA, mnB, h]
theorem mn_good {n : Int} {t : List Nd} {j : Nat} (h : (rootN n t).2 = true) (hj : j = n.toNat) : T.tup [T.agg [T.int .i64 (IntKind.wrap .i64 (Int.tdiv (sumN (depN t) j) ((Int.gcd (sumN (depN t) j) n : Nat) : Int))), T.int .i64 (IntKind.wrap .i64 (Int.tdiv n ((Int.gcd (sumN (depN t) j) n : Nat) : Int)))], T.bool true] = T.tup [T.agg [T.int .i64 (mnA n t), T.int .i64 (mnB n t)], T.bool (rootN n t).2] := by
  subst hj; simp [mnA, mnB, h]
end Go.Tl
