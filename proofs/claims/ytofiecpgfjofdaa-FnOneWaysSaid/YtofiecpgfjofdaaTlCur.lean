/-
  What is drawn from a list of bytes, step by step. Plain lists: no program here.
-/
import Derived.Test.YtofiecpgfjofdaaTlTurns
namespace Go.Tl
theorem and255 (x : Int) : 0 ≤ bits .and .u64 x 255 ∧ bits .and .u64 x 255 ≤ 255 := by
  unfold bits
  rw [IntKind.wrap_u64]
  have h : (BitVec.ofInt IntKind.u64.bits x &&& BitVec.ofInt IntKind.u64.bits 255).toNat ≤ 255 := by
    rw [BitVec.toNat_and]
    exact Nat.le_trans Nat.and_le_right (by decide)
  simp only at h ⊢
  constructor <;> omega
theorem wrapT_u64 {e : Int} (h1 : 0 ≤ e) (h2 : e ≤ 18446744073709551615) : T.int .u64 (IntKind.wrap .u64 e) = T.int .u64 e := by
  rw [IntKind.wrap_u64]; congr 1; omega
def minN (a b : Int) : Int := if a < b then a else b
/-- The list holds bytes. -/
def okY (bs : List Int) : Prop := ∀ i : Nat, 0 ≤ bs.getD i 0 ∧ bs.getD i 0 ≤ 255
/-! ### one byte -/
def evB (bs : List Int) (p : Int) : Int := if decide (p < (bs.length : Int)) = true then bs.getD p.toNat 0 else 0
def nxS (bs : List Int) (p s : Int) : Int := IntKind.wrap .u64 (IntKind.wrap .u64 (IntKind.wrap .u64 (s * 6364136223846793005) + evB bs p) + 462197)
def nxV (bs : List Int) (p s : Int) : Int := if decide (p + 1 ≤ (bs.length : Int)) = true then evB bs p else bits .and .u64 (Int.fdiv (nxS bs p s) (2 ^ (min (Int.toNat 40) 64))) 255
section
variable {bs : List Int} {p s : Int}
theorem ev_in (h : okY bs) : 0 ≤ evB bs p ∧ evB bs p ≤ 255 := by
  unfold evB; split
  · exact h _
  · omega
theorem ev_yes (h : decide (p < (bs.length : Int)) = true) : evB bs p = bs.getD p.toNat 0 := by unfold evB; rw [if_pos h]
theorem ev_no (h : decide (p < (bs.length : Int)) = false) : evB bs p = 0 := by unfold evB; rw [if_neg (by rw [h]; simp)]
theorem nx_in (h : okY bs) : 0 ≤ nxV bs p s ∧ nxV bs p s ≤ 255 := by
  unfold nxV; split
  · exact ev_in h
  · exact and255 _
end
/-! ### a number below another -/
def pkV (bs : List Int) (p s n : Int) : Int :=
  if decide (n ≤ 1) = true then 0
  else if decide (n > 200) = true then Int.tmod (nxV bs p s * 256 + nxV bs (p + 1) (nxS bs p s)) n
  else Int.tmod (nxV bs p s) n
def pkP (_bs : List Int) (p _s n : Int) : Int := if decide (n ≤ 1) = true then p else if decide (n > 200) = true then p + 1 + 1 else p + 1
def pkS (bs : List Int) (p s n : Int) : Int := if decide (n ≤ 1) = true then s else if decide (n > 200) = true then nxS bs (p + 1) (nxS bs p s) else nxS bs p s
section
variable {bs : List Int} {p s n : Int}
theorem pkP_in : p ≤ pkP bs p s n ∧ pkP bs p s n ≤ p + 2 := by
  unfold pkP; split
  · omega
  · split <;> omega
theorem pkV_in (h : okY bs) : 0 ≤ pkV bs p s n ∧ (1 ≤ n → pkV bs p s n < n) := by
  have h1 := nx_in (p := p) (s := s) h
  have h2 := nx_in (p := p + 1) (s := nxS bs p s) h
  unfold pkV
  split
  · omega
  · rename_i h3
    have h4 : ¬ n ≤ 1 := by simpa using h3
    split
    · exact ⟨Int.tmod_nonneg _ (by omega), fun _ => Int.tmod_lt_of_pos _ (by omega)⟩
    · exact ⟨Int.tmod_nonneg _ (by omega), fun _ => Int.tmod_lt_of_pos _ (by omega)⟩
theorem pk_1 (h : decide (n ≤ 1) = true) : pkV bs p s n = 0 ∧ pkP bs p s n = p ∧ pkS bs p s n = s := by simp only [pkV, pkP, pkS, h, if_true, and_self]
theorem pk_2 (h : decide (n ≤ 1) = false) (h2 : decide (n > 200) = true) : pkV bs p s n = Int.tmod (nxV bs p s * 256 + nxV bs (p + 1) (nxS bs p s)) n ∧ pkP bs p s n = p + 1 + 1 ∧ pkS bs p s n = nxS bs (p + 1) (nxS bs p s) := by
  simp only [pkV, pkP, pkS, h, h2, if_true, Bool.false_eq_true, if_false, and_self]
theorem pk_3 (h : decide (n ≤ 1) = false) (h2 : decide (n > 200) = false) : pkV bs p s n = Int.tmod (nxV bs p s) n ∧ pkP bs p s n = p + 1 ∧ pkS bs p s n = nxS bs p s := by
  simp only [pkV, pkP, pkS, h, h2, Bool.false_eq_true, if_false, and_self]
end
/-! ### an element -/
def amV (bs : List Int) (p s : Int) (xs : List Int) : Int := xs.getD (pkV bs p s (xs.length : Int)).toNat 0
def manyL : List Int := [4, 6, 8, 3, 5, 2, 7, 12, 1, 0, 13, 4, 6, 8, 3, 5]
def liesL : List Int := [1, 1, 2, 0, 1, 2, 1, 3, -1, 1, 2, 0]
theorem am_all {bs : List Int} {p s : Int} {xs : List Int} (h : okY bs) (h0 : 0 < xs.length) {P : Int → Prop} (hP : ∀ x ∈ xs, P x) : P (amV bs p s xs) := by
  have hv := pkV_in (p := p) (s := s) (n := (xs.length : Int)) h
  have hi : (pkV bs p s (xs.length : Int)).toNat < xs.length := by have := hv.2 (by omega); omega
  unfold amV
  rw [List.getD_eq_getElem?_getD, List.getElem?_eq_getElem hi]
  exact hP _ (List.getElem_mem hi)
theorem many_in {bs : List Int} {p s : Int} (h : okY bs) : 0 ≤ amV bs p s manyL ∧ amV bs p s manyL ≤ 13 :=
  am_all h (by decide) (P := fun x => 0 ≤ x ∧ x ≤ 13) (by decide)
theorem lies_in {bs : List Int} {p s : Int} (h : okY bs) : -1 ≤ amV bs p s liesL ∧ amV bs p s liesL ≤ 3 :=
  am_all h (by decide) (P := fun x => -1 ≤ x ∧ x ≤ 3) (by decide)
/-! ### a state: its numbers, then the ones that are beyond -/
def d5 (b : Int) : Int := Int.tdiv b 5
theorem d5_in {b : Int} (h0 : 0 ≤ b) (h1 : b < 6) : 0 ≤ d5 b ∧ d5 b ≤ 1 := by
  unfold d5
  have : b = 0 ∨ b = 1 ∨ b = 2 ∨ b = 3 ∨ b = 4 ∨ b = 5 := by omega
  rcases this with h | h | h | h | h | h <;> subst h <;> decide
def s1R (bs : List Int) (m p s : Int) : Nat → List Int × Int × Int
  | 0 => ([], p, s)
  | i + 1 =>
    let r := s1R bs m p s i
    let p1 := pkP bs r.2.1 r.2.2 (maxN 1 (m + 2))
    let s1 := pkS bs r.2.1 r.2.2 (maxN 1 (m + 2))
    (r.1 ++ [pkV bs r.2.1 r.2.2 (maxN 1 (m + 2)) - d5 (pkV bs p1 s1 6)], pkP bs p1 s1 6, pkS bs p1 s1 6)
def s1L (bs : List Int) (m p s : Int) (i : Nat) : List Int := (s1R bs m p s i).1
def s1P (bs : List Int) (m p s : Int) (i : Nat) : Int := (s1R bs m p s i).2.1
def s1S (bs : List Int) (m p s : Int) (i : Nat) : Int := (s1R bs m p s i).2.2
section
variable {bs : List Int} {m p s : Int} {i : Nat}
theorem s1L_len : ∀ i, (s1L bs m p s i).length = i
  | 0 => rfl
  | i + 1 => by
    have := s1L_len i
    unfold s1L at this ⊢
    simp only [s1R, List.length_append, List.length_cons, List.length_nil]; omega
theorem s1P_in : ∀ i : Nat, p ≤ s1P bs m p s i ∧ s1P bs m p s i ≤ p + 4 * (i : Int)
  | 0 => by simp [s1P, s1R]
  | i + 1 => by
    have h := s1P_in i
    unfold s1P at h ⊢
    simp only [s1R]
    have h2 := pkP_in (bs := bs) (p := (s1R bs m p s i).2.1) (s := (s1R bs m p s i).2.2) (n := maxN 1 (m + 2))
    have h3 := pkP_in (bs := bs) (p := pkP bs (s1R bs m p s i).2.1 (s1R bs m p s i).2.2 (maxN 1 (m + 2))) (s := pkS bs (s1R bs m p s i).2.1 (s1R bs m p s i).2.2 (maxN 1 (m + 2))) (n := 6)
    omega
end
def s2R (bs : List Int) (m : Int) (xs : List Int) (p s : Int) : Nat → List Int × Int × Int
  | 0 => (xs, p, s)
  | i + 1 =>
    let r := s2R bs m xs p s i
    if decide (r.1.getD i 0 > m) = true then ((if (pkV bs r.2.1 r.2.2 30 == 0) = true then r.1 else r.1.set i (-1)), pkP bs r.2.1 r.2.2 30, pkS bs r.2.1 r.2.2 30) else r
def s2L (bs : List Int) (m : Int) (xs : List Int) (p s : Int) (i : Nat) : List Int := (s2R bs m xs p s i).1
def s2P (bs : List Int) (m : Int) (xs : List Int) (p s : Int) (i : Nat) : Int := (s2R bs m xs p s i).2.1
def s2S (bs : List Int) (m : Int) (xs : List Int) (p s : Int) (i : Nat) : Int := (s2R bs m xs p s i).2.2
section
variable {bs : List Int} {m p s : Int} {xs : List Int} {i : Nat}
theorem s2_no (h : decide ((s2L bs m xs p s i).getD i 0 > m) = false) : s2L bs m xs p s (i + 1) = s2L bs m xs p s i ∧ s2P bs m xs p s (i + 1) = s2P bs m xs p s i ∧ s2S bs m xs p s (i + 1) = s2S bs m xs p s i := by
  unfold s2L at h
  unfold s2L s2P s2S
  simp only [s2R, h, Bool.false_eq_true, if_false, and_self]
theorem s2_one (h : decide ((s2L bs m xs p s i).getD i 0 > m) = true) (h2 : (pkV bs (s2P bs m xs p s i) (s2S bs m xs p s i) 30 == 0) = true) : s2L bs m xs p s (i + 1) = s2L bs m xs p s i ∧ s2P bs m xs p s (i + 1) = pkP bs (s2P bs m xs p s i) (s2S bs m xs p s i) 30 ∧ s2S bs m xs p s (i + 1) = pkS bs (s2P bs m xs p s i) (s2S bs m xs p s i) 30 := by
  unfold s2L at h; unfold s2P s2S at h2
  unfold s2L s2P s2S
  simp only [s2R, h, h2, if_true, and_self]
theorem s2_set (h : decide ((s2L bs m xs p s i).getD i 0 > m) = true) (h2 : (pkV bs (s2P bs m xs p s i) (s2S bs m xs p s i) 30 == 0) = false) : s2L bs m xs p s (i + 1) = (s2L bs m xs p s i).set i (-1) ∧ s2P bs m xs p s (i + 1) = pkP bs (s2P bs m xs p s i) (s2S bs m xs p s i) 30 ∧ s2S bs m xs p s (i + 1) = pkS bs (s2P bs m xs p s i) (s2S bs m xs p s i) 30 := by
  unfold s2L at h; unfold s2P s2S at h2
  unfold s2L s2P s2S
  simp only [s2R, h, h2, if_true, Bool.false_eq_true, if_false, and_self]
theorem s2_both : ∀ i : Nat, (s2L bs m xs p s i).length = xs.length ∧ p ≤ s2P bs m xs p s i ∧ s2P bs m xs p s i ≤ p + 2 * (i : Int)
  | 0 => by simp [s2L, s2P, s2R]
  | i + 1 => by
    have h := s2_both i
    have h2 := pkP_in (bs := bs) (p := s2P bs m xs p s i) (s := s2S bs m xs p s i) (n := 30)
    cases hc : decide ((s2L bs m xs p s i).getD i 0 > m)
    · obtain ⟨e1, e2, _⟩ := s2_no hc
      rw [e1, e2]; omega
    · cases hd : (pkV bs (s2P bs m xs p s i) (s2S bs m xs p s i) 30 == 0)
      · obtain ⟨e1, e2, _⟩ := s2_set hc hd
        rw [e1, e2, List.length_set]; omega
      · obtain ⟨e1, e2, _⟩ := s2_one hc hd
        rw [e1, e2]; omega
end
/-- What state draws: the cursor ahead of its loops, then the state and the cursor behind it. -/
def zP (bs : List Int) (p s : Int) : Int := pkP bs (pkP bs p s 12) (pkS bs p s 12) 16
def zS (bs : List Int) (p s : Int) : Int := pkS bs (pkP bs p s 12) (pkS bs p s 12) 16
def zM (bs : List Int) (p s : Int) : Int := amV bs p s liesL
def zK (bs : List Int) (p s : Int) : Int := amV bs (pkP bs p s 12) (pkS bs p s 12) manyL
def z1P (bs : List Int) (p s : Int) (i : Nat) : Int := s1P bs (zM bs p s) (zP bs p s) (zS bs p s) i
def z1S (bs : List Int) (p s : Int) (i : Nat) : Int := s1S bs (zM bs p s) (zP bs p s) (zS bs p s) i
def z1L (bs : List Int) (p s : Int) (i : Nat) : List Int := s1L bs (zM bs p s) (zP bs p s) (zS bs p s) i
def z2L (bs : List Int) (p s : Int) (i : Nat) : List Int := s2L bs (zM bs p s) (z1L bs p s (zK bs p s).toNat) (z1P bs p s (zK bs p s).toNat) (z1S bs p s (zK bs p s).toNat) i
def z2P (bs : List Int) (p s : Int) (i : Nat) : Int := s2P bs (zM bs p s) (z1L bs p s (zK bs p s).toNat) (z1P bs p s (zK bs p s).toNat) (z1S bs p s (zK bs p s).toNat) i
def z2S (bs : List Int) (p s : Int) (i : Nat) : Int := s2S bs (zM bs p s) (z1L bs p s (zK bs p s).toNat) (z1P bs p s (zK bs p s).toNat) (z1S bs p s (zK bs p s).toNat) i
def stL (bs : List Int) (p s : Int) : List Int := z2L bs p s (zK bs p s).toNat
def stP (bs : List Int) (p s : Int) : Int := z2P bs p s (zK bs p s).toNat
def stS (bs : List Int) (p s : Int) : Int := z2S bs p s (zK bs p s).toNat
section
variable {bs : List Int} {p s : Int} {i : Nat}
theorem zM_in (h : okY bs) : -1 ≤ zM bs p s ∧ zM bs p s ≤ 3 := lies_in h
theorem zK_in (h : okY bs) : 0 ≤ zK bs p s ∧ zK bs p s ≤ 13 := many_in h
theorem zP_in : p ≤ zP bs p s ∧ zP bs p s ≤ p + 4 := by
  have h1 := pkP_in (bs := bs) (p := p) (s := s) (n := 12)
  have h2 := pkP_in (bs := bs) (p := pkP bs p s 12) (s := pkS bs p s 12) (n := 16)
  unfold zP; omega
theorem z1P_in (i : Nat) : p ≤ z1P bs p s i ∧ z1P bs p s i ≤ p + 4 + 4 * (i : Int) := by
  have h1 := zP_in (bs := bs) (p := p) (s := s)
  have h2 := s1P_in (bs := bs) (m := zM bs p s) (p := zP bs p s) (s := zS bs p s) i
  unfold z1P; omega
theorem z1L_len (i : Nat) : (z1L bs p s i).length = i := s1L_len i
theorem z2_both (i : Nat) : (z2L bs p s i).length = (zK bs p s).toNat ∧ p ≤ z2P bs p s i ∧ z2P bs p s i ≤ p + 4 + 4 * ((zK bs p s).toNat : Int) + 2 * (i : Int) := by
  have h1 := z1P_in (bs := bs) (p := p) (s := s) (zK bs p s).toNat
  have h2 := s2_both (bs := bs) (m := zM bs p s) (xs := z1L bs p s (zK bs p s).toNat) (p := z1P bs p s (zK bs p s).toNat) (s := z1S bs p s (zK bs p s).toNat) i
  rw [z1L_len] at h2
  unfold z2L z2P; omega
theorem st_in (h : okY bs) : (stL bs p s).length ≤ 13 ∧ p ≤ stP bs p s ∧ stP bs p s ≤ p + 90 := by
  have h1 := zK_in (p := p) (s := s) h
  have h2 := z2_both (bs := bs) (p := p) (s := s) (zK bs p s).toNat
  unfold stL stP; omega
end
section
variable {bs : List Int} {p s : Int} {i : Nat}
theorem mx_in (h : okY bs) : 1 ≤ maxN 1 (zM bs p s + 2) ∧ maxN 1 (zM bs p s + 2) ≤ 5 := by
  have := zM_in (p := p) (s := s) h
  unfold maxN; split <;> omega
theorem d5_wrap {b : Int} (h0 : 0 ≤ b) (h1 : b < 6) : T.int .i64 (IntKind.wrap .i64 (Int.tdiv b 5)) = T.int .i64 (d5 b) := by
  have h := d5_in h0 h1
  unfold d5 at h ⊢
  exact wrapT_i64 (by omega) (by omega)
theorem z1L_suc : z1L bs p s (i + 1) = z1L bs p s i ++ [pkV bs (z1P bs p s i) (z1S bs p s i) (maxN 1 (zM bs p s + 2)) - d5 (pkV bs (pkP bs (z1P bs p s i) (z1S bs p s i) (maxN 1 (zM bs p s + 2))) (pkS bs (z1P bs p s i) (z1S bs p s i) (maxN 1 (zM bs p s + 2))) 6)] := rfl
theorem z1P_suc : z1P bs p s (i + 1) = pkP bs (pkP bs (z1P bs p s i) (z1S bs p s i) (maxN 1 (zM bs p s + 2))) (pkS bs (z1P bs p s i) (z1S bs p s i) (maxN 1 (zM bs p s + 2))) 6 := rfl
theorem z1S_suc : z1S bs p s (i + 1) = pkS bs (pkP bs (z1P bs p s i) (z1S bs p s i) (maxN 1 (zM bs p s + 2))) (pkS bs (z1P bs p s i) (z1S bs p s i) (maxN 1 (zM bs p s + 2))) 6 := rfl
theorem z2_no (h : decide ((z2L bs p s i).getD i 0 > zM bs p s) = false) : z2L bs p s (i + 1) = z2L bs p s i ∧ z2P bs p s (i + 1) = z2P bs p s i ∧ z2S bs p s (i + 1) = z2S bs p s i := s2_no h
theorem z2_one (h : decide ((z2L bs p s i).getD i 0 > zM bs p s) = true) (h2 : (pkV bs (z2P bs p s i) (z2S bs p s i) 30 == 0) = true) : z2L bs p s (i + 1) = z2L bs p s i ∧ z2P bs p s (i + 1) = pkP bs (z2P bs p s i) (z2S bs p s i) 30 ∧ z2S bs p s (i + 1) = pkS bs (z2P bs p s i) (z2S bs p s i) 30 := s2_one h h2
theorem z2_set (h : decide ((z2L bs p s i).getD i 0 > zM bs p s) = true) (h2 : (pkV bs (z2P bs p s i) (z2S bs p s i) 30 == 0) = false) : z2L bs p s (i + 1) = (z2L bs p s i).set i (-1) ∧ z2P bs p s (i + 1) = pkP bs (z2P bs p s i) (z2S bs p s i) 30 ∧ z2S bs p s (i + 1) = pkS bs (z2P bs p s i) (z2S bs p s i) 30 := s2_set h h2
end
/-! ### a question -/
def q13 (n : Int) : Int := maxN 0 (minN n 13)
def q12 (n : Int) : Int := maxN 0 (minN n 12)
def quV (bs : List Int) (p s n : Int) : Int := if (pkV bs p s 24 == 0) = true then amV bs (pkP bs p s 24) (pkS bs p s 24) [-1, 2 ^ (q13 n).toNat, 4611686018427387904] else pkV bs (pkP bs p s 24) (pkS bs p s 24) (2 ^ (q12 n).toNat)
def quP (bs : List Int) (p s n : Int) : Int := if (pkV bs p s 24 == 0) = true then pkP bs (pkP bs p s 24) (pkS bs p s 24) 3 else pkP bs (pkP bs p s 24) (pkS bs p s 24) (2 ^ (q12 n).toNat)
def quS (bs : List Int) (p s n : Int) : Int := if (pkV bs p s 24 == 0) = true then pkS bs (pkP bs p s 24) (pkS bs p s 24) 3 else pkS bs (pkP bs p s 24) (pkS bs p s 24) (2 ^ (q12 n).toNat)
section
variable {bs : List Int} {p s n : Int}
theorem q13_in : 0 ≤ q13 n ∧ q13 n ≤ 13 := by unfold q13 maxN minN; split <;> split <;> omega
theorem q12_in : 0 ≤ q12 n ∧ q12 n ≤ 12 := by unfold q12 maxN minN; split <;> split <;> omega
theorem quP_in : p ≤ quP bs p s n ∧ quP bs p s n ≤ p + 4 := by
  have h1 := pkP_in (bs := bs) (p := p) (s := s) (n := 24)
  have h2 := pkP_in (bs := bs) (p := pkP bs p s 24) (s := pkS bs p s 24) (n := 3)
  have h3 := pkP_in (bs := bs) (p := pkP bs p s 24) (s := pkS bs p s 24) (n := 2 ^ (q12 n).toNat)
  unfold quP; split <;> omega
theorem qu_yes (h : (pkV bs p s 24 == 0) = true) : quV bs p s n = amV bs (pkP bs p s 24) (pkS bs p s 24) [-1, 2 ^ (q13 n).toNat, 4611686018427387904] ∧ quP bs p s n = pkP bs (pkP bs p s 24) (pkS bs p s 24) 3 ∧ quS bs p s n = pkS bs (pkP bs p s 24) (pkS bs p s 24) 3 := by
  simp only [quV, quP, quS, h, if_true, and_self]
theorem qu_no (h : (pkV bs p s 24 == 0) = false) : quV bs p s n = pkV bs (pkP bs p s 24) (pkS bs p s 24) (2 ^ (q12 n).toNat) ∧ quP bs p s n = pkP bs (pkP bs p s 24) (pkS bs p s 24) (2 ^ (q12 n).toNat) ∧ quS bs p s n = pkS bs (pkP bs p s 24) (pkS bs p s 24) (2 ^ (q12 n).toNat) := by
  simp only [quV, quP, quS, h, Bool.false_eq_true, if_false, and_self]
end
/-! ### a turn -/
def turnL : List Int := [1, 2, 1, 2, 3, 4, 5]
def tc (bs : List Int) (p s : Int) : Int := amV bs p s [1, 2, 1, 2, 3, 4, 5]
/-- A turn's numbers and the cursor, ahead of what spoils it. -/
def t1R (bs : List Int) (p s n : Int) : Int × Int × Int × Int :=
  let p1 := pkP bs p s 7
  let s1 := pkS bs p s 7
  if (amV bs p s [1, 2, 1, 2, 3, 4, 5] == 1) = true then (quV bs p1 s1 n, 0, quP bs p1 s1 n, quS bs p1 s1 n)
  else if (amV bs p s [1, 2, 1, 2, 3, 4, 5] == 2) = true then (quV bs p1 s1 n, 0, quP bs p1 s1 n, quS bs p1 s1 n)
  else if (amV bs p s [1, 2, 1, 2, 3, 4, 5] == 3) = true then (pkV bs p1 s1 (maxN 1 n), 0, pkP bs p1 s1 (maxN 1 n), pkS bs p1 s1 (maxN 1 n))
  else if (amV bs p s [1, 2, 1, 2, 3, 4, 5] == 5) = true then (amV bs p1 s1 manyL, amV bs (pkP bs p1 s1 16) (pkS bs p1 s1 16) liesL, pkP bs (pkP bs p1 s1 16) (pkS bs p1 s1 16) 12, pkS bs (pkP bs p1 s1 16) (pkS bs p1 s1 16) 12)
  else (0, 0, p1, s1)
def t2R (bs : List Int) (c a b p s : Int) : Int × Int × Int × Int × Int :=
  let p1 := pkP bs p s 40
  let s1 := pkS bs p s 40
  if (pkV bs p s 40 == 0) = true then (c, a, amV bs p1 s1 [-1, 1, 3], pkP bs p1 s1 3, pkS bs p1 s1 3)
  else if (pkV bs p s 40 == 1) = true then (amV bs p1 s1 [0, 6, -1], a, b, pkP bs p1 s1 3, pkS bs p1 s1 3)
  else (c, a, b, p1, s1)
def tnR (bs : List Int) (p s n : Int) : Int × Int × Int × Int × Int := t2R bs (amV bs p s [1, 2, 1, 2, 3, 4, 5]) (t1R bs p s n).1 (t1R bs p s n).2.1 (t1R bs p s n).2.2.1 (t1R bs p s n).2.2.2
def tnC (bs : List Int) (p s n : Int) : Int := (tnR bs p s n).1
def tnA (bs : List Int) (p s n : Int) : Int := (tnR bs p s n).2.1
def tnB (bs : List Int) (p s n : Int) : Int := (tnR bs p s n).2.2.1
def tnP (bs : List Int) (p s n : Int) : Int := (tnR bs p s n).2.2.2.1
def tnS (bs : List Int) (p s n : Int) : Int := (tnR bs p s n).2.2.2.2
section
variable {bs : List Int} {p s n c a b : Int}
theorem t1_in : p ≤ (t1R bs p s n).2.2.1 ∧ (t1R bs p s n).2.2.1 ≤ p + 6 := by
  have h1 := pkP_in (bs := bs) (p := p) (s := s) (n := 7)
  have h2 := quP_in (bs := bs) (p := pkP bs p s 7) (s := pkS bs p s 7) (n := n)
  have h3 := pkP_in (bs := bs) (p := pkP bs p s 7) (s := pkS bs p s 7) (n := maxN 1 n)
  have h4 := pkP_in (bs := bs) (p := pkP bs p s 7) (s := pkS bs p s 7) (n := 16)
  have h5 := pkP_in (bs := bs) (p := pkP bs (pkP bs p s 7) (pkS bs p s 7) 16) (s := pkS bs (pkP bs p s 7) (pkS bs p s 7) 16) (n := 12)
  simp only [t1R]
  repeat' split
  all_goals (simp only []; omega)
theorem t2_in : p ≤ (t2R bs c a b p s).2.2.2.1 ∧ (t2R bs c a b p s).2.2.2.1 ≤ p + 4 := by
  have h1 := pkP_in (bs := bs) (p := p) (s := s) (n := 40)
  have h2 := pkP_in (bs := bs) (p := pkP bs p s 40) (s := pkS bs p s 40) (n := 3)
  simp only [t2R]
  repeat' split
  all_goals (simp only []; omega)
theorem tnP_in : p ≤ tnP bs p s n ∧ tnP bs p s n ≤ p + 10 := by
  have h1 := t1_in (bs := bs) (p := p) (s := s) (n := n)
  have h2 := t2_in (bs := bs) (c := amV bs p s [1, 2, 1, 2, 3, 4, 5]) (a := (t1R bs p s n).1) (b := (t1R bs p s n).2.1) (p := (t1R bs p s n).2.2.1) (s := (t1R bs p s n).2.2.2)
  unfold tnP tnR; omega
end
theorem shl_13 {n : Int} (h0 : 0 ≤ n) (h1 : n ≤ 13) : T.int .i64 (IntKind.wrap .i64 (1 * 2 ^ (min (Int.toNat n) 64))) = T.int .i64 (2 ^ n.toNat) := by
  obtain ⟨k, rfl⟩ : ∃ k : Nat, n = k := ⟨n.toNat, by omega⟩
  have hk : k ≤ 13 := by omega
  simp only [Int.toNat_natCast]
  have : k = 0 ∨ k = 1 ∨ k = 2 ∨ k = 3 ∨ k = 4 ∨ k = 5 ∨ k = 6 ∨ k = 7 ∨ k = 8 ∨ k = 9 ∨ k = 10 ∨ k = 11 ∨ k = 12 ∨ k = 13 := by omega
  rcases this with h | h | h | h | h | h | h | h | h | h | h | h | h | h <;> subst h <;> rfl
def t1A (bs : List Int) (p s n : Int) : Int := (t1R bs p s n).1
def t1B (bs : List Int) (p s n : Int) : Int := (t1R bs p s n).2.1
def t1P (bs : List Int) (p s n : Int) : Int := (t1R bs p s n).2.2.1
def t1S (bs : List Int) (p s n : Int) : Int := (t1R bs p s n).2.2.2
/-! ### a room: some turns from a new one, then what spoils it -/
def rmR (bs : List Int) (r : Rm) (p s : Int) : Nat → Rm × Int × Int
  | 0 => (r, p, s)
  | i + 1 =>
    let x := rmR bs r p s i
    let c := tnC bs x.2.1 x.2.2 x.1.2.1
    let a := tnA bs x.2.1 x.2.2 x.1.2.1
    let b := tnB bs x.2.1 x.2.2 x.1.2.1
    ((if dtB x.1.1 x.1.2.1 x.1.2.2.1 x.1.2.2.2 c a b = true then stepR x.1 (c, a, b) else x.1), tnP bs x.2.1 x.2.2 x.1.2.1, tnS bs x.2.1 x.2.2 x.1.2.1)
def ro0 (bs : List Int) (p s : Int) : Rm := (nrL (stL bs p s) (zM bs p s), nrN (stL bs p s) (zM bs p s), nrM (stL bs p s) (zM bs p s), 0)
def roI (bs : List Int) (p s : Int) (i : Nat) : Rm × Int × Int := rmR bs (ro0 bs p s) (pkP bs (stP bs p s) (stS bs p s) 5) (pkS bs (stP bs p s) (stS bs p s) 5) i
def riL (bs : List Int) (p s : Int) (i : Nat) : List Int := (roI bs p s i).1.1
def riN (bs : List Int) (p s : Int) (i : Nat) : Int := (roI bs p s i).1.2.1
def riM (bs : List Int) (p s : Int) (i : Nat) : Int := (roI bs p s i).1.2.2.1
def riK (bs : List Int) (p s : Int) (i : Nat) : Int := (roI bs p s i).1.2.2.2
def riP (bs : List Int) (p s : Int) (i : Nat) : Int := (roI bs p s i).2.1
def riS (bs : List Int) (p s : Int) (i : Nat) : Int := (roI bs p s i).2.2
def riOk (bs : List Int) (p s : Int) (i : Nat) : Prop := isRoomN (riL bs p s i) (riN bs p s i) (riM bs p s i) (riK bs p s i) = true
section
variable {bs : List Int} {p s : Int} {i : Nat}
theorem ri_no (h : dtB (riL bs p s i) (riN bs p s i) (riM bs p s i) (riK bs p s i) (tnC bs (riP bs p s i) (riS bs p s i) (riN bs p s i)) (tnA bs (riP bs p s i) (riS bs p s i) (riN bs p s i)) (tnB bs (riP bs p s i) (riS bs p s i) (riN bs p s i)) = false) :
    riL bs p s (i + 1) = riL bs p s i ∧ riN bs p s (i + 1) = riN bs p s i ∧ riM bs p s (i + 1) = riM bs p s i ∧ riK bs p s (i + 1) = riK bs p s i := by
  simp only [riL, riN, riM, riK, riP, riS, roI] at h ⊢
  simp only [rmR, h, Bool.false_eq_true, if_false, and_self]
theorem ri_yes (h : dtB (riL bs p s i) (riN bs p s i) (riM bs p s i) (riK bs p s i) (tnC bs (riP bs p s i) (riS bs p s i) (riN bs p s i)) (tnA bs (riP bs p s i) (riS bs p s i) (riN bs p s i)) (tnB bs (riP bs p s i) (riS bs p s i) (riN bs p s i)) = true) :
    riL bs p s (i + 1) = dtL (riL bs p s i) (riN bs p s i) (riM bs p s i) (riK bs p s i) (tnC bs (riP bs p s i) (riS bs p s i) (riN bs p s i)) (tnA bs (riP bs p s i) (riS bs p s i) (riN bs p s i)) (tnB bs (riP bs p s i) (riS bs p s i) (riN bs p s i)) ∧ riN bs p s (i + 1) = dtN (riL bs p s i) (riN bs p s i) (riM bs p s i) (riK bs p s i) (tnC bs (riP bs p s i) (riS bs p s i) (riN bs p s i)) (tnA bs (riP bs p s i) (riS bs p s i) (riN bs p s i)) (tnB bs (riP bs p s i) (riS bs p s i) (riN bs p s i))
    ∧ riM bs p s (i + 1) = dtM (riL bs p s i) (riN bs p s i) (riM bs p s i) (riK bs p s i) (tnC bs (riP bs p s i) (riS bs p s i) (riN bs p s i)) (tnA bs (riP bs p s i) (riS bs p s i) (riN bs p s i)) (tnB bs (riP bs p s i) (riS bs p s i) (riN bs p s i)) ∧ riK bs p s (i + 1) = dtK (riL bs p s i) (riN bs p s i) (riM bs p s i) (riK bs p s i) (tnC bs (riP bs p s i) (riS bs p s i) (riN bs p s i)) (tnA bs (riP bs p s i) (riS bs p s i) (riN bs p s i)) (tnB bs (riP bs p s i) (riS bs p s i) (riN bs p s i)) := by
  simp only [riL, riN, riM, riK, riP, riS, roI] at h ⊢
  simp only [rmR, h, if_true, stepR, and_self]
theorem riP_suc : riP bs p s (i + 1) = tnP bs (riP bs p s i) (riS bs p s i) (riN bs p s i) := by simp only [riP, riS, riN, roI, rmR]
theorem riS_suc : riS bs p s (i + 1) = tnS bs (riP bs p s i) (riS bs p s i) (riN bs p s i) := by simp only [riP, riS, riN, roI, rmR]
theorem ri_room (h : riOk bs p s i) : riOk bs p s (i + 1) := by
  cases hd : dtB (riL bs p s i) (riN bs p s i) (riM bs p s i) (riK bs p s i) (tnC bs (riP bs p s i) (riS bs p s i) (riN bs p s i)) (tnA bs (riP bs p s i) (riS bs p s i) (riN bs p s i)) (tnB bs (riP bs p s i) (riS bs p s i) (riN bs p s i))
  · obtain ⟨e1, e2, e3, e4⟩ := ri_no hd
    unfold riOk; rw [e1, e2, e3, e4]; exact h
  · obtain ⟨e1, e2, e3, e4⟩ := ri_yes hd
    unfold riOk; rw [e1, e2, e3, e4]; exact dt_room hd
theorem nr_room {xs : List Int} {m : Int} (h : isStateN xs m = true) : isRoomN (nrL xs m) (nrN xs m) (nrM xs m) 0 = true := by
  simp only [nrL, nrN, nrM, h, if_true]
  rw [isRoom_pad h]; decide
theorem riL_len : ∀ i, (riL bs p s i).length = 12
  | 0 => nrL_len _ _
  | i + 1 => by
    cases hd : dtB (riL bs p s i) (riN bs p s i) (riM bs p s i) (riK bs p s i) (tnC bs (riP bs p s i) (riS bs p s i) (riN bs p s i)) (tnA bs (riP bs p s i) (riS bs p s i) (riN bs p s i)) (tnB bs (riP bs p s i) (riS bs p s i) (riN bs p s i))
    · rw [(ri_no hd).1]; exact riL_len i
    · rw [(ri_yes hd).1]; exact dtL_len
theorem riP_in (h : okY bs) : ∀ i : Nat, p ≤ riP bs p s i ∧ riP bs p s i ≤ p + 92 + 10 * (i : Int)
  | 0 => by
    have h1 := st_in (p := p) (s := s) h
    have h2 := pkP_in (bs := bs) (p := stP bs p s) (s := stS bs p s) (n := 5)
    have e : riP bs p s 0 = pkP bs (stP bs p s) (stS bs p s) 5 := rfl
    rw [e]; omega
  | i + 1 => by
    have h1 := riP_in h i
    have h2 := tnP_in (bs := bs) (p := riP bs p s i) (s := riS bs p s i) (n := riN bs p s i)
    rw [riP_suc]; omega
end
def roV (bs : List Int) (p s : Int) : Int := pkV bs (stP bs p s) (stS bs p s) 5
def roE (bs : List Int) (p s : Int) : Nat := if isStateN (stL bs p s) (zM bs p s) = true then (roV bs p s).toNat else 0
def r1L (bs : List Int) (p s : Int) : List Int := riL bs p s (roE bs p s)
def r1N (bs : List Int) (p s : Int) : Int := riN bs p s (roE bs p s)
def r1M (bs : List Int) (p s : Int) : Int := riM bs p s (roE bs p s)
def r1K (bs : List Int) (p s : Int) : Int := riK bs p s (roE bs p s)
def r1P (bs : List Int) (p s : Int) : Int := riP bs p s (roE bs p s)
def r1S (bs : List Int) (p s : Int) : Int := riS bs p s (roE bs p s)
def r2Z (bs : List Int) (p s : Int) : Int := pkV bs (r1P bs p s) (r1S bs p s) 48
def r2P (bs : List Int) (p s : Int) : Int := pkP bs (r1P bs p s) (r1S bs p s) 48
def r2S (bs : List Int) (p s : Int) : Int := pkS bs (r1P bs p s) (r1S bs p s) 48
def roL (bs : List Int) (p s : Int) : List Int := if (r2Z bs p s == 0) = true then r1L bs p s else if (r2Z bs p s == 1) = true then (r1L bs p s).set 11 (amV bs (r2P bs p s) (r2S bs p s) [1, -1, 0]) else r1L bs p s
def roN (bs : List Int) (p s : Int) : Int := if (r2Z bs p s == 0) = true then r1N bs p s else if (r2Z bs p s == 1) = true then r1N bs p s else if (r2Z bs p s == 2) = true then amV bs (r2P bs p s) (r2S bs p s) [0, 13, 12, 1] else r1N bs p s
def roM (bs : List Int) (p s : Int) : Int := r1M bs p s
def roK (bs : List Int) (p s : Int) : Int := if (r2Z bs p s == 0) = true then amV bs (r2P bs p s) (r2S bs p s) [-1, 1000, 1001] else r1K bs p s
def roP (bs : List Int) (p s : Int) : Int := if (r2Z bs p s == 0) = true then pkP bs (r2P bs p s) (r2S bs p s) 3 else if (r2Z bs p s == 1) = true then pkP bs (r2P bs p s) (r2S bs p s) 3 else if (r2Z bs p s == 2) = true then pkP bs (r2P bs p s) (r2S bs p s) 4 else r2P bs p s
def roS (bs : List Int) (p s : Int) : Int := if (r2Z bs p s == 0) = true then pkS bs (r2P bs p s) (r2S bs p s) 3 else if (r2Z bs p s == 1) = true then pkS bs (r2P bs p s) (r2S bs p s) 3 else if (r2Z bs p s == 2) = true then pkS bs (r2P bs p s) (r2S bs p s) 4 else r2S bs p s
section
variable {bs : List Int} {p s : Int}
theorem roV_in (h : okY bs) : 0 ≤ roV bs p s ∧ roV bs p s ≤ 4 := by
  have := pkV_in (p := stP bs p s) (s := stS bs p s) (n := 5) h
  unfold roV; omega
theorem roE_in (h : okY bs) : roE bs p s ≤ 4 := by
  have := roV_in (p := p) (s := s) h
  unfold roE; split <;> omega
theorem r1L_len : (r1L bs p s).length = 12 := riL_len _
theorem r1P_in (h : okY bs) : p ≤ r1P bs p s ∧ r1P bs p s ≤ p + 132 := by
  have h1 := roE_in (p := p) (s := s) h
  have h2 := riP_in (p := p) (s := s) h (roE bs p s)
  unfold r1P; omega
theorem roL_len : (roL bs p s).length = 12 := by
  have := r1L_len (bs := bs) (p := p) (s := s)
  unfold roL; (repeat' split) <;> simp [this]
theorem roP_in (h : okY bs) : p ≤ roP bs p s ∧ roP bs p s ≤ p + 140 := by
  have h1 := r1P_in (p := p) (s := s) h
  have h2 := pkP_in (bs := bs) (p := r1P bs p s) (s := r1S bs p s) (n := 48)
  have h3 := pkP_in (bs := bs) (p := r2P bs p s) (s := r2S bs p s) (n := 3)
  have h4 := pkP_in (bs := bs) (p := r2P bs p s) (s := r2S bs p s) (n := 4)
  have e : r2P bs p s = pkP bs (r1P bs p s) (r1S bs p s) 48 := rfl
  unfold roP; (repeat' split) <;> omega
end
/-! ### the turns behind a room -/
def dqR (bs : List Int) (p s : Int) : Nat → List Nd × Int × Int
  | 0 => ([], pkP bs (roP bs p s) (roS bs p s) 6, pkS bs (roP bs p s) (roS bs p s) 6)
  | i + 1 =>
    let x := dqR bs p s i
    (x.1 ++ [(tnC bs x.2.1 x.2.2 (roN bs p s), tnA bs x.2.1 x.2.2 (roN bs p s), tnB bs x.2.1 x.2.2 (roN bs p s))], tnP bs x.2.1 x.2.2 (roN bs p s), tnS bs x.2.1 x.2.2 (roN bs p s))
def dqL (bs : List Int) (p s : Int) (i : Nat) : List Nd := (dqR bs p s i).1
def dqP (bs : List Int) (p s : Int) (i : Nat) : Int := (dqR bs p s i).2.1
def dqS (bs : List Int) (p s : Int) (i : Nat) : Int := (dqR bs p s i).2.2
def dqV (bs : List Int) (p s : Int) : Int := pkV bs (roP bs p s) (roS bs p s) 6
section
variable {bs : List Int} {p s : Int} {i : Nat}
theorem dqV_in (h : okY bs) : 0 ≤ dqV bs p s ∧ dqV bs p s ≤ 5 := by
  have := pkV_in (p := roP bs p s) (s := roS bs p s) (n := 6) h
  unfold dqV; omega
theorem dqL_suc : dqL bs p s (i + 1) = dqL bs p s i ++ [(tnC bs (dqP bs p s i) (dqS bs p s i) (roN bs p s), tnA bs (dqP bs p s i) (dqS bs p s i) (roN bs p s), tnB bs (dqP bs p s i) (dqS bs p s i) (roN bs p s))] := by simp only [dqL, dqP, dqS, dqR]
theorem dqP_suc : dqP bs p s (i + 1) = tnP bs (dqP bs p s i) (dqS bs p s i) (roN bs p s) := by simp only [dqP, dqS, dqR]
theorem dqS_suc : dqS bs p s (i + 1) = tnS bs (dqP bs p s i) (dqS bs p s i) (roN bs p s) := by simp only [dqP, dqS, dqR]
theorem dqL_len : ∀ i, (dqL bs p s i).length = i
  | 0 => rfl
  | i + 1 => by rw [dqL_suc, List.length_append, dqL_len i]; rfl
theorem dqP_in (h : okY bs) : ∀ i : Nat, p ≤ dqP bs p s i ∧ dqP bs p s i ≤ p + 142 + 10 * (i : Int)
  | 0 => by
    have h1 := roP_in (p := p) (s := s) h
    have h2 := pkP_in (bs := bs) (p := roP bs p s) (s := roS bs p s) (n := 6)
    have e : dqP bs p s 0 = pkP bs (roP bs p s) (roS bs p s) 6 := by simp only [dqP, dqR]
    rw [e]; omega
  | i + 1 => by
    have h1 := dqP_in h i
    have h2 := tnP_in (bs := bs) (p := dqP bs p s i) (s := dqS bs p s i) (n := roN bs p s)
    rw [dqP_suc]; omega
end
end Go.Tl
