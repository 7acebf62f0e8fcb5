/-
  The walks: each function of the program that the claim reaches returns what is told of it here. No statement is proved here.
-/
import Derived.Test.YthhgloghphpgaaaTlV
import Derived.Test.YthhgloghphpgaaaTlW1N
import Derived.Test.YthhgloghphpgaaaProg
namespace Go.Proofs.Ythhgloghphpgaaa
open Go Go.Tl Go.Proofs
set_option linter.unusedVariables false
set_option linter.unusedSimpArgs false
set_option maxRecDepth 100000
def tab : Tab := [(3, ⟨.int .i64, 1, 8, [.int .i64 0]⟩), (4, ⟨.bool, 1, 1, [.bool false]⟩), (5, ⟨.int .u8, 1, 1, [.int .u8 0]⟩), (9, ⟨.string, 1, 16, [.str ⟨#[]⟩]⟩), (23, ⟨.struct [(0, 1, false), (1, 1, false)], 2, 32, [.str ⟨#[]⟩, .str ⟨#[]⟩]⟩), (26, ⟨.struct [(0, 1, false), (1, 1, false)], 2, 32, [.str ⟨#[]⟩, .str ⟨#[]⟩]⟩)]
theorem tab_ok : chkTab Try.prog tab = true := by kernel_rfl
theorem mixed : Try.prog.follows .mixedOrders = true := by kernel_rfl
theorem szLogRecord_C (c : ByteArray) (r : ByteArray) (l : Int) (hc : c.size ≤ 9223372036854775807) (hr : r.size ≤ 9223372036854775807) (h0 : 0 ≤ l) (h1 : l ≤ 1048576) : C Try.prog 7 [T.agg [T.str c, T.str r], T.int .i64 l] (T.int .i64 (if l - c.size < 0 then -1 else if l - c.size - r.size < 0 then -1 else l - c.size - r.size)) := by
  refine C.intro (tab := tab) tab_ok (fn := Try.f7) Try.func7 (by kernel_rfl) rfl (Nat.le_of_ble_eq_true rfl) ?_
  rcases Bool.eq_false_or_eq_true (decide ((l - ((ByteArray.size c : Nat) : Int)) < (0 : Int))) with h1 | h1
  · -- yes
    have g1 : (l - ((ByteArray.size c : Nat) : Int)) < (0 : Int) := of_decide_eq_true h1
    exact WP.pathR tab_ok mixed [(2, An.fz), (9, An.v (T.int .i64 (l - ((ByteArray.size c : Nat) : Int)))), (11, An.b true)] _ (ps := [(True), (True), (T.int .i64 (IntKind.wrap .i64 (l - ((ByteArray.size c : Nat) : Int))) = T.int .i64 (l - ((ByteArray.size c : Nat) : Int))), (True), ((decide ((l - ((ByteArray.size c : Nat) : Int)) < (0 : Int))) = true)]) (r := T.int .i64 (-1)) (by kernel_rfl) ⟨trivial, trivial, wrapT_i64 (by omega) (by omega), trivial, h1, trivial⟩ (by congr 1; (repeat' split) <;> omega) (fun _ h => h)
  · -- no
    have g1 : ¬ ((l - ((ByteArray.size c : Nat) : Int)) < (0 : Int)) := of_decide_eq_false h1
    rcases Bool.eq_false_or_eq_true (decide (((l - ((ByteArray.size c : Nat) : Int)) - ((ByteArray.size r : Nat) : Int)) < (0 : Int))) with h2 | h2
    · -- yes
      have g2 : ((l - ((ByteArray.size c : Nat) : Int)) - ((ByteArray.size r : Nat) : Int)) < (0 : Int) := of_decide_eq_true h2
      exact WP.pathR tab_ok mixed [(2, An.fz), (9, An.v (T.int .i64 (l - ((ByteArray.size c : Nat) : Int)))), (11, An.b false), (16, An.v (T.int .i64 ((l - ((ByteArray.size c : Nat) : Int)) - ((ByteArray.size r : Nat) : Int)))), (18, An.b true)] _ (ps := [(True), (True), (T.int .i64 (IntKind.wrap .i64 (l - ((ByteArray.size c : Nat) : Int))) = T.int .i64 (l - ((ByteArray.size c : Nat) : Int))), (True), ((decide ((l - ((ByteArray.size c : Nat) : Int)) < (0 : Int))) = false), (True), (True), (T.int .i64 (IntKind.wrap .i64 ((l - ((ByteArray.size c : Nat) : Int)) - ((ByteArray.size r : Nat) : Int))) = T.int .i64 ((l - ((ByteArray.size c : Nat) : Int)) - ((ByteArray.size r : Nat) : Int))), (True), ((decide (((l - ((ByteArray.size c : Nat) : Int)) - ((ByteArray.size r : Nat) : Int)) < (0 : Int))) = true)]) (r := T.int .i64 (-1)) (by kernel_rfl) ⟨trivial, trivial, wrapT_i64 (by omega) (by omega), trivial, h1, trivial, trivial, wrapT_i64 (by omega) (by omega), trivial, h2, trivial⟩ (by congr 1; (repeat' split) <;> omega) (fun _ h => h)
    · -- no
      have g2 : ¬ (((l - ((ByteArray.size c : Nat) : Int)) - ((ByteArray.size r : Nat) : Int)) < (0 : Int)) := of_decide_eq_false h2
      exact WP.pathR tab_ok mixed [(2, An.fz), (9, An.v (T.int .i64 (l - ((ByteArray.size c : Nat) : Int)))), (11, An.b false), (16, An.v (T.int .i64 ((l - ((ByteArray.size c : Nat) : Int)) - ((ByteArray.size r : Nat) : Int)))), (18, An.b false)] _ (ps := [(True), (True), (T.int .i64 (IntKind.wrap .i64 (l - ((ByteArray.size c : Nat) : Int))) = T.int .i64 (l - ((ByteArray.size c : Nat) : Int))), (True), ((decide ((l - ((ByteArray.size c : Nat) : Int)) < (0 : Int))) = false), (True), (True), (T.int .i64 (IntKind.wrap .i64 ((l - ((ByteArray.size c : Nat) : Int)) - ((ByteArray.size r : Nat) : Int))) = T.int .i64 ((l - ((ByteArray.size c : Nat) : Int)) - ((ByteArray.size r : Nat) : Int))), (True), ((decide (((l - ((ByteArray.size c : Nat) : Int)) - ((ByteArray.size r : Nat) : Int)) < (0 : Int))) = false)]) (r := T.int .i64 ((l - ((ByteArray.size c : Nat) : Int)) - ((ByteArray.size r : Nat) : Int))) (by kernel_rfl) ⟨trivial, trivial, wrapT_i64 (by omega) (by omega), trivial, h1, trivial, trivial, wrapT_i64 (by omega) (by omega), trivial, h2, trivial⟩ (by congr 1; (repeat' split) <;> omega) (fun _ h => h)
theorem l1In_C (x : Int) (lo : Int) (hi : Int) : C Try.prog 50 [T.int .i64 x, T.int .i64 lo, T.int .i64 hi] (T.bool (decide (x ≥ lo) && decide (x ≤ hi))) := by
  refine C.intro (tab := tab) tab_ok (fn := Try.f50) Try.func50 (by kernel_rfl) rfl (Nat.le_of_ble_eq_true rfl) ?_
  rcases Bool.eq_false_or_eq_true (decide (x ≥ lo)) with h1 | h1
  · -- yes
    have g1 : x ≥ lo := of_decide_eq_true h1
    exact WP.pathR tab_ok mixed [(9, An.b true)] _ (ps := [(True), ((decide (x ≥ lo)) = true), (True)]) (r := T.bool (decide (x ≤ hi))) (by kernel_rfl) ⟨trivial, h1, trivial, trivial⟩ (by first | rfl | simp [*]) (fun _ h => h)
  · -- no
    have g1 : ¬ (x ≥ lo) := of_decide_eq_false h1
    exact WP.pathR tab_ok mixed [(9, An.b false)] _ (ps := [(True), ((decide (x ≥ lo)) = false)]) (r := T.bool false) (by kernel_rfl) ⟨trivial, h1, trivial⟩ (by first | rfl | simp [*]) (fun _ h => h)
theorem l12Bytes_C (s : ByteArray) (most : Int) (hs : s.size ≤ 9223372036854775807) : C Try.prog 46 [T.str s, T.int .i64 most] (T.bool (allB s.size (goodB s) && decide ((s.size : Int) ≤ most))) := by
  refine C.intro (tab := tab) tab_ok (fn := Try.f46) Try.func46 (by kernel_rfl) rfl (Nat.le_of_ble_eq_true rfl) ?_
  refine WP.seq ?_
  refine WP.path tab_ok mixed [] [.keep [4, 0, 1], .keepO []] (ps := []) (e := .normal) (σ' := ⟨[], [(4, V.t (T.bool false)), (0, V.t (T.str s)), (1, V.t (T.int .i64 most))], []⟩) (by kernel_rfl) trivial ?_
  refine WP.seq ?_
  refine WP.seq ?_
  refine WP.path tab_ok mixed [] [.keep [5, 4, 0, 1], .keepO []] (ps := []) (e := .normal) (σ' := ⟨[], [(5, V.t (T.int .i64 0)), (4, V.t (T.bool false)), (0, V.t (T.str s)), (1, V.t (T.int .i64 most))], []⟩) (by kernel_rfl) trivial ?_
  refine WP.block ?_
  refine WP.wk [.keep [5, 4, 0, 1], .keepO [], .names []] (σ' := ⟨[], [(5, V.t (T.int .i64 ((0) : Int))), (4, V.t (T.bool false)), (0, V.t (T.str s)), (1, V.t (T.int .i64 most))], []⟩) (ps := []) (by kernel_rfl) trivial ?_
  refine WP.loop (α := Nat) (fun x => ⟨[], [(5, V.t (T.int .i64 (x : Int))), (4, V.t (T.bool false)), (0, V.t (T.str s)), (1, V.t (T.int .i64 most))], []⟩) (fun x => x ≤ s.size ∧ ∀ j, j < x → goodB s j = true) (fun x => s.size - x) 0 (⟨by omega, fun j h => by omega⟩) ?_
  intro i hinv0
  have hinv : i ≤ s.size ∧ ∀ j, j < i → goodB s j = true := hinv0
  obtain ⟨hi, hall⟩ := hinv
  rcases Bool.eq_false_or_eq_true (decide ((i : Int) < ((ByteArray.size s : Nat) : Int))) with h1 | h1
  · -- yes
    have g1 : (i : Int) < ((ByteArray.size s : Nat) : Int) := of_decide_eq_true h1
    rcases Bool.eq_false_or_eq_true (decide ((byteAt s (Int.toNat (i : Int))) ≥ (32 : Int)) && decide ((byteAt s (Int.toNat (i : Int))) ≤ (126 : Int))) with h2 | h2
    · -- yes
      have g2 := h2
      try simp only [Bool.and_eq_true, Bool.or_eq_true, Bool.and_eq_false_iff, Bool.or_eq_false_iff, Bool.not_eq_true', Bool.not_eq_false', decide_eq_true_eq, decide_eq_false_iff_not, beq_iff_eq, beq_eq_false_iff_ne, bne_iff_ne, Int.toNat_natCast, ne_eq, ge_iff_le, gt_iff_lt] at g2
      rcases Bool.eq_false_or_eq_true ((byteAt s (Int.toNat (i : Int))) == (35 : Int)) with h3 | h3
      · -- yes
        have g3 : (byteAt s (Int.toNat (i : Int))) = (35 : Int) := eq_of_beq h3
        exact WP.pathR tab_ok mixed [(9, An.b true), (15, An.v (T.int .i64 (byteAt s (Int.toNat (i : Int))))), (16, An.call (T.bool true)), (22, An.b true)] _ (ps := [(True), ((decide ((i : Int) < ((ByteArray.size s : Nat) : Int))) = true), ((0 ≤ (i : Int) ∧ (i : Int) < ((ByteArray.size s : Nat) : Int))), (T.int .i64 (IntKind.wrap .i64 (byteAt s (Int.toNat (i : Int)))) = T.int .i64 (byteAt s (Int.toNat (i : Int)))), (C Try.prog 50 [T.int .i64 (byteAt s (Int.toNat (i : Int))), T.int .i64 32, T.int .i64 126] (T.bool true)), ((0 ≤ (i : Int) ∧ (i : Int) < ((ByteArray.size s : Nat) : Int))), (True), (((byteAt s (Int.toNat (i : Int))) == (35 : Int)) = true)]) (r := T.bool false) (by kernel_rfl) ⟨trivial, h1, ⟨by omega, by omega⟩, wrapT_i64 (byteAt_lo _ _) (byteAt_hi _ _), (show C Try.prog 50 [T.int .i64 (byteAt s (Int.toNat (i : Int))), T.int .i64 32, T.int .i64 126] (T.bool true) from h2 ▸ (l1In_C (byteAt s (Int.toNat (i : Int))) (32 : Int) (126 : Int))), ⟨by omega, by omega⟩, trivial, h3, trivial⟩ (by rw [allB_false (n := s.size) (p := goodB s) (i := i) (by omega) (by simp only [goodB, Bool.and_eq_true, Bool.or_eq_true, Bool.and_eq_false_iff, Bool.or_eq_false_iff, Bool.not_eq_true', Bool.not_eq_false', decide_eq_true_eq, decide_eq_false_iff_not, beq_iff_eq, beq_eq_false_iff_ne, bne_iff_ne, Int.toNat_natCast, ne_eq, ge_iff_le, gt_iff_lt]; (try simp only [Int.toNat_natCast] at *); omega)]; rfl) (fun _ h => h)
      · -- no
        have g3 : ¬ ((byteAt s (Int.toNat (i : Int))) = (35 : Int)) := ne_of_beq_false h3
        refine WP.path tab_ok mixed [(9, An.b true), (15, An.v (T.int .i64 (byteAt s (Int.toNat (i : Int))))), (16, An.call (T.bool true)), (22, An.b false), (11, An.v (T.int .i64 (((i + 1 : Nat) : Int))))] [.keep [5, 4, 0, 1], .keepO [], .names []] (ps := [(True), ((decide ((i : Int) < ((ByteArray.size s : Nat) : Int))) = true), ((0 ≤ (i : Int) ∧ (i : Int) < ((ByteArray.size s : Nat) : Int))), (T.int .i64 (IntKind.wrap .i64 (byteAt s (Int.toNat (i : Int)))) = T.int .i64 (byteAt s (Int.toNat (i : Int)))), (C Try.prog 50 [T.int .i64 (byteAt s (Int.toNat (i : Int))), T.int .i64 32, T.int .i64 126] (T.bool true)), ((0 ≤ (i : Int) ∧ (i : Int) < ((ByteArray.size s : Nat) : Int))), (True), (((byteAt s (Int.toNat (i : Int))) == (35 : Int)) = false), (True), (T.int .i64 (IntKind.wrap .i64 ((i : Int) + (1 : Int))) = T.int .i64 (((i + 1 : Nat) : Int)))]) (e := .normal) (σ' := ⟨[], [(5, V.t (T.int .i64 ((i + 1) : Int))), (4, V.t (T.bool false)), (0, V.t (T.str s)), (1, V.t (T.int .i64 most))], []⟩) (by kernel_rfl) ⟨trivial, h1, ⟨by omega, by omega⟩, wrapT_i64 (byteAt_lo _ _) (byteAt_hi _ _), (show C Try.prog 50 [T.int .i64 (byteAt s (Int.toNat (i : Int))), T.int .i64 32, T.int .i64 126] (T.bool true) from h2 ▸ (l1In_C (byteAt s (Int.toNat (i : Int))) (32 : Int) (126 : Int))), ⟨by omega, by omega⟩, trivial, h3, trivial, wrapT_i64 (by omega) (by omega), trivial⟩ ?_
        exact ⟨i + 1, ⟨by omega, all_step hall (by simp only [goodB, Bool.and_eq_true, Bool.or_eq_true, Bool.and_eq_false_iff, Bool.or_eq_false_iff, Bool.not_eq_true', Bool.not_eq_false', decide_eq_true_eq, decide_eq_false_iff_not, beq_iff_eq, beq_eq_false_iff_ne, bne_iff_ne, Int.toNat_natCast, ne_eq, ge_iff_le, gt_iff_lt]; (try simp only [Int.toNat_natCast] at *); omega)⟩, by first | omega | (dsimp only; omega), rfl⟩
    · -- no
      have g2 := h2
      try simp only [Bool.and_eq_true, Bool.or_eq_true, Bool.and_eq_false_iff, Bool.or_eq_false_iff, Bool.not_eq_true', Bool.not_eq_false', decide_eq_true_eq, decide_eq_false_iff_not, beq_iff_eq, beq_eq_false_iff_ne, bne_iff_ne, Int.toNat_natCast, ne_eq, ge_iff_le, gt_iff_lt] at g2
      exact WP.pathR tab_ok mixed [(9, An.b true), (15, An.v (T.int .i64 (byteAt s (Int.toNat (i : Int))))), (16, An.call (T.bool false))] _ (ps := [(True), ((decide ((i : Int) < ((ByteArray.size s : Nat) : Int))) = true), ((0 ≤ (i : Int) ∧ (i : Int) < ((ByteArray.size s : Nat) : Int))), (T.int .i64 (IntKind.wrap .i64 (byteAt s (Int.toNat (i : Int)))) = T.int .i64 (byteAt s (Int.toNat (i : Int)))), (C Try.prog 50 [T.int .i64 (byteAt s (Int.toNat (i : Int))), T.int .i64 32, T.int .i64 126] (T.bool false))]) (r := T.bool false) (by kernel_rfl) ⟨trivial, h1, ⟨by omega, by omega⟩, wrapT_i64 (byteAt_lo _ _) (byteAt_hi _ _), (show C Try.prog 50 [T.int .i64 (byteAt s (Int.toNat (i : Int))), T.int .i64 32, T.int .i64 126] (T.bool false) from h2 ▸ (l1In_C (byteAt s (Int.toNat (i : Int))) (32 : Int) (126 : Int))), trivial⟩ (by rw [allB_false (n := s.size) (p := goodB s) (i := i) (by omega) (by simp only [goodB, Bool.and_eq_true, Bool.or_eq_true, Bool.and_eq_false_iff, Bool.or_eq_false_iff, Bool.not_eq_true', Bool.not_eq_false', decide_eq_true_eq, decide_eq_false_iff_not, beq_iff_eq, beq_eq_false_iff_ne, bne_iff_ne, Int.toNat_natCast, ne_eq, ge_iff_le, gt_iff_lt]; (try simp only [Int.toNat_natCast] at *); omega)]; rfl) (fun _ h => h)
  · -- no
    have g1 : ¬ ((i : Int) < ((ByteArray.size s : Nat) : Int)) := of_decide_eq_false h1
    refine WP.path tab_ok mixed [(9, An.b false)] [.keep [4, 0, 1], .keepO []] (ps := [(True), ((decide ((i : Int) < ((ByteArray.size s : Nat) : Int))) = false)]) (e := (.exit 0)) (σ' := ⟨[], [(4, V.t (T.bool false)), (0, V.t (T.str s)), (1, V.t (T.int .i64 most))], []⟩) (by kernel_rfl) ⟨trivial, h1, trivial⟩ ?_
    exact WP.pathR tab_ok mixed [] _ (ps := [(True)]) (r := T.bool (decide (((ByteArray.size s : Nat) : Int) ≤ most))) (by kernel_rfl) ⟨trivial, trivial⟩ (by rw [allB_true hall (by omega)]; rfl) (fun _ h => h)
theorem l1Stands_C (s : ByteArray) (c : Int) (hs : s.size ≤ 9223372036854775807) : C Try.prog 47 [T.str s, T.int .u8 c] (T.bool (anyB s.size (fun j => byteAt s j == c))) := by
  refine C.intro (tab := tab) tab_ok (fn := Try.f47) Try.func47 (by kernel_rfl) rfl (Nat.le_of_ble_eq_true rfl) ?_
  refine WP.seq ?_
  refine WP.path tab_ok mixed [] [.keep [4, 0, 1], .keepO []] (ps := []) (e := .normal) (σ' := ⟨[], [(4, V.t (T.bool false)), (0, V.t (T.str s)), (1, V.t (T.int .u8 c))], []⟩) (by kernel_rfl) trivial ?_
  refine WP.seq ?_
  refine WP.seq ?_
  refine WP.path tab_ok mixed [] [.keep [5, 4, 0, 1], .keepO []] (ps := []) (e := .normal) (σ' := ⟨[], [(5, V.t (T.int .i64 0)), (4, V.t (T.bool false)), (0, V.t (T.str s)), (1, V.t (T.int .u8 c))], []⟩) (by kernel_rfl) trivial ?_
  refine WP.block ?_
  refine WP.wk [.keep [5, 4, 0, 1], .keepO [], .names []] (σ' := ⟨[], [(5, V.t (T.int .i64 ((0) : Int))), (4, V.t (T.bool false)), (0, V.t (T.str s)), (1, V.t (T.int .u8 c))], []⟩) (ps := []) (by kernel_rfl) trivial ?_
  refine WP.loop (α := Nat) (fun x => ⟨[], [(5, V.t (T.int .i64 (x : Int))), (4, V.t (T.bool false)), (0, V.t (T.str s)), (1, V.t (T.int .u8 c))], []⟩) (fun x => x ≤ s.size ∧ ∀ j, j < x → (byteAt s j == c) = false) (fun x => s.size - x) 0 (⟨by omega, fun j h => by omega⟩) ?_
  intro i hinv0
  have hinv : i ≤ s.size ∧ ∀ j, j < i → (byteAt s j == c) = false := hinv0
  obtain ⟨hi, hall⟩ := hinv
  rcases Bool.eq_false_or_eq_true (decide ((i : Int) < ((ByteArray.size s : Nat) : Int))) with h1 | h1
  · -- yes
    have g1 : (i : Int) < ((ByteArray.size s : Nat) : Int) := of_decide_eq_true h1
    rcases Bool.eq_false_or_eq_true ((byteAt s (Int.toNat (i : Int))) == c) with h2 | h2
    · -- yes
      have g2 : (byteAt s (Int.toNat (i : Int))) = c := eq_of_beq h2
      exact WP.pathR tab_ok mixed [(9, An.b true), (16, An.b true)] _ (ps := [(True), ((decide ((i : Int) < ((ByteArray.size s : Nat) : Int))) = true), ((0 ≤ (i : Int) ∧ (i : Int) < ((ByteArray.size s : Nat) : Int))), (True), (((byteAt s (Int.toNat (i : Int))) == c) = true)]) (r := T.bool true) (by kernel_rfl) ⟨trivial, h1, ⟨by omega, by omega⟩, trivial, h2, trivial⟩ (by rw [anyB_true (n := s.size) (p := fun j => byteAt s j == c) (i := i) (by omega) (by assumption)]) (fun _ h => h)
    · -- no
      have g2 : ¬ ((byteAt s (Int.toNat (i : Int))) = c) := ne_of_beq_false h2
      refine WP.path tab_ok mixed [(9, An.b true), (16, An.b false), (11, An.v (T.int .i64 (((i + 1 : Nat) : Int))))] [.keep [5, 4, 0, 1], .keepO [], .names []] (ps := [(True), ((decide ((i : Int) < ((ByteArray.size s : Nat) : Int))) = true), ((0 ≤ (i : Int) ∧ (i : Int) < ((ByteArray.size s : Nat) : Int))), (True), (((byteAt s (Int.toNat (i : Int))) == c) = false), (True), (T.int .i64 (IntKind.wrap .i64 ((i : Int) + (1 : Int))) = T.int .i64 (((i + 1 : Nat) : Int)))]) (e := .normal) (σ' := ⟨[], [(5, V.t (T.int .i64 ((i + 1) : Int))), (4, V.t (T.bool false)), (0, V.t (T.str s)), (1, V.t (T.int .u8 c))], []⟩) (by kernel_rfl) ⟨trivial, h1, ⟨by omega, by omega⟩, trivial, h2, trivial, wrapT_i64 (by omega) (by omega), trivial⟩ ?_
      exact ⟨i + 1, ⟨by omega, all_step hall (by assumption)⟩, by first | omega | (dsimp only; omega), rfl⟩
  · -- no
    have g1 : ¬ ((i : Int) < ((ByteArray.size s : Nat) : Int)) := of_decide_eq_false h1
    refine WP.path tab_ok mixed [(9, An.b false)] [.keep [4], .keepO []] (ps := [(True), ((decide ((i : Int) < ((ByteArray.size s : Nat) : Int))) = false)]) (e := (.exit 0)) (σ' := ⟨[], [(4, V.t (T.bool false))], []⟩) (by kernel_rfl) ⟨trivial, h1, trivial⟩ ?_
    exact WP.pathR tab_ok mixed [] _ (ps := []) (r := T.bool false) (by kernel_rfl) trivial (by rw [anyB_false hall (by omega)]) (fun _ h => h)
theorem l12Record_C (c : ByteArray) (r : ByteArray) (hc : c.size ≤ 9223372036854775807) (hr : r.size ≤ 9223372036854775807) : C Try.prog 25 [T.agg [T.str c, T.str r]] (T.bool (l12RecordN c r)) := by
  refine C.intro (tab := tab) tab_ok (fn := Try.f25) Try.func25 (by kernel_rfl) rfl (Nat.le_of_ble_eq_true rfl) ?_
  rcases Bool.eq_false_or_eq_true (!(c.toList == (ByteArray.mk #[]).toList)) with h1 | h1
  · -- yes
    have g1 : ¬ (c = (ByteArray.mk #[])) := bytes_nne h1
    rcases Bool.eq_false_or_eq_true (allB c.size (goodB c) && decide ((c.size : Int) ≤ (160 : Int))) with h2 | h2
    · -- yes
      have g2 := h2
      try simp only [Bool.and_eq_true, Bool.or_eq_true, Bool.and_eq_false_iff, Bool.or_eq_false_iff, Bool.not_eq_true', Bool.not_eq_false', decide_eq_true_eq, decide_eq_false_iff_not, beq_iff_eq, beq_eq_false_iff_ne, bne_iff_ne, Int.toNat_natCast, ne_eq, ge_iff_le, gt_iff_lt] at g2
      rcases Bool.eq_false_or_eq_true (anyB c.size (fun j => byteAt c j == (64 : Int))) with h3 | h3
      · -- yes
        have g3 := h3
        try simp only [Bool.and_eq_true, Bool.or_eq_true, Bool.and_eq_false_iff, Bool.or_eq_false_iff, Bool.not_eq_true', Bool.not_eq_false', decide_eq_true_eq, decide_eq_false_iff_not, beq_iff_eq, beq_eq_false_iff_ne, bne_iff_ne, Int.toNat_natCast, ne_eq, ge_iff_le, gt_iff_lt] at g3
        exact WP.pathR tab_ok mixed [(1, An.fz), (5, An.b true), (9, An.call (T.bool true)), (14, An.call (T.bool true))] _ (ps := [(True), (True), ((!(c.toList == (ByteArray.mk #[]).toList)) = true), (True), (C Try.prog 46 [T.str c, T.int .i64 160] (T.bool true)), (True), (C Try.prog 47 [T.str c, T.int .u8 64] (T.bool true))]) (r := T.bool false) (by kernel_rfl) ⟨trivial, trivial, h1, trivial, (show C Try.prog 46 [T.str c, T.int .i64 160] (T.bool true) from h2 ▸ (l12Bytes_C c (160 : Int) (by omega))), trivial, (show C Try.prog 47 [T.str c, T.int .u8 64] (T.bool true) from h3 ▸ (l1Stands_C c (64 : Int) (by omega))), trivial⟩ (by first | rfl | (unfold l12RecordN; (try rw [h1]); (try rw [h2]); (try rw [h3]); rfl)) (fun _ h => h)
      · -- no
        have g3 := h3
        try simp only [Bool.and_eq_true, Bool.or_eq_true, Bool.and_eq_false_iff, Bool.or_eq_false_iff, Bool.not_eq_true', Bool.not_eq_false', decide_eq_true_eq, decide_eq_false_iff_not, beq_iff_eq, beq_eq_false_iff_ne, bne_iff_ne, Int.toNat_natCast, ne_eq, ge_iff_le, gt_iff_lt] at g3
        exact WP.pathR tab_ok mixed [(1, An.fz), (5, An.b true), (9, An.call (T.bool true)), (14, An.call (T.bool false)), (20, An.call (T.bool (allB r.size (goodB r) && decide ((r.size : Int) ≤ (250 : Int)))))] _ (ps := [(True), (True), ((!(c.toList == (ByteArray.mk #[]).toList)) = true), (True), (C Try.prog 46 [T.str c, T.int .i64 160] (T.bool true)), (True), (C Try.prog 47 [T.str c, T.int .u8 64] (T.bool false)), (True), (C Try.prog 46 [T.str r, T.int .i64 250] (T.bool (allB r.size (goodB r) && decide ((r.size : Int) ≤ (250 : Int)))))]) (r := T.bool (allB r.size (goodB r) && decide ((r.size : Int) ≤ (250 : Int)))) (by kernel_rfl) ⟨trivial, trivial, h1, trivial, (show C Try.prog 46 [T.str c, T.int .i64 160] (T.bool true) from h2 ▸ (l12Bytes_C c (160 : Int) (by omega))), trivial, (show C Try.prog 47 [T.str c, T.int .u8 64] (T.bool false) from h3 ▸ (l1Stands_C c (64 : Int) (by omega))), trivial, (l12Bytes_C r (250 : Int) (by omega)), trivial⟩ (by first | rfl | (unfold l12RecordN; (try rw [h1]); (try rw [h2]); (try rw [h3]); rfl)) (fun _ h => h)
    · -- no
      have g2 := h2
      try simp only [Bool.and_eq_true, Bool.or_eq_true, Bool.and_eq_false_iff, Bool.or_eq_false_iff, Bool.not_eq_true', Bool.not_eq_false', decide_eq_true_eq, decide_eq_false_iff_not, beq_iff_eq, beq_eq_false_iff_ne, bne_iff_ne, Int.toNat_natCast, ne_eq, ge_iff_le, gt_iff_lt] at g2
      exact WP.pathR tab_ok mixed [(1, An.fz), (5, An.b true), (9, An.call (T.bool false))] _ (ps := [(True), (True), ((!(c.toList == (ByteArray.mk #[]).toList)) = true), (True), (C Try.prog 46 [T.str c, T.int .i64 160] (T.bool false))]) (r := T.bool false) (by kernel_rfl) ⟨trivial, trivial, h1, trivial, (show C Try.prog 46 [T.str c, T.int .i64 160] (T.bool false) from h2 ▸ (l12Bytes_C c (160 : Int) (by omega))), trivial⟩ (by first | rfl | (unfold l12RecordN; (try rw [h1]); (try rw [h2]); rfl)) (fun _ h => h)
  · -- no
    have g1 : c = (ByteArray.mk #[]) := bytes_neq h1
    exact WP.pathR tab_ok mixed [(1, An.fz), (5, An.b false)] _ (ps := [(True), (True), ((!(c.toList == (ByteArray.mk #[]).toList)) = false)]) (r := T.bool false) (by kernel_rfl) ⟨trivial, trivial, h1, trivial⟩ (by first | rfl | (unfold l12RecordN; (try rw [h1]); rfl)) (fun _ h => h)
theorem sIsValidRecord_C (c : ByteArray) (r : ByteArray) (hc : c.size ≤ 9223372036854775807) (hr : r.size ≤ 9223372036854775807) : C Try.prog 8 [T.agg [T.str c, T.str r]] (T.bool (l12RecordN c r)) := by
  refine C.intro (tab := tab) tab_ok (fn := Try.f8) Try.func8 (by kernel_rfl) rfl (Nat.le_of_ble_eq_true rfl) ?_
  exact WP.pathR tab_ok mixed [(1, An.fz), (4, An.call (T.bool (l12RecordN c r)))] _ (ps := [(2 ≤ 2), (C Try.prog 25 [T.agg [T.str c, T.str r]] (T.bool (l12RecordN c r)))]) (r := T.bool (l12RecordN c r)) (by kernel_rfl) ⟨by first | decide | (simp; omega), (l12Record_C c r (by omega) (by omega)), trivial⟩ (by first | rfl | simp [*]) (fun _ h => h)
theorem toLogRecord_C (c : ByteArray) (r : ByteArray) : C Try.prog 9 [T.agg [T.str c, T.str r]] (T.agg [T.str c, T.str r]) := by
  refine C.intro (tab := tab) tab_ok (fn := Try.f9) Try.func9 (by kernel_rfl) rfl (Nat.le_of_ble_eq_true rfl) ?_
  exact WP.pathR tab_ok mixed [(1, An.fz), (2, An.id 2), (3, An.id 3)] _ (ps := [(True), (0 < 2), (True), (1 < 2), (0 + 2 ≤ 2), ((0 + 2 ≤ 2 ∧ 2 = 2)), (0 + 2 ≤ 2)]) (r := T.agg [T.str c, T.str r]) (by kernel_rfl) ⟨trivial, by first | decide | (simp; omega), trivial, by first | decide | (simp; omega), by first | decide | (simp; omega), ⟨by first | decide | (simp; omega), by first | rfl | simp | omega⟩, by first | decide | (simp; omega), trivial⟩ (by first | rfl | simp [*]) (fun _ h => h)
theorem indexByteString_C (s : ByteArray) (c : Int) : C Try.prog 65 [T.str s, T.int .u8 c] (T.int .i64 (firstIdx s c.toNat.toUInt8)) :=
  C.indexByteString s c Try.func65 (by kernel_rfl) (by kernel_rfl) (by kernel_rfl) (by kernel_rfl)
theorem sliteIndexByte_C (s : ByteArray) (c : Int) : C Try.prog 59 [T.str s, T.int .u8 c] (T.int .i64 (firstIdx s c.toNat.toUInt8)) := by
  refine C.intro (tab := tab) tab_ok (fn := Try.f59) Try.func59 (by kernel_rfl) rfl (Nat.le_of_ble_eq_true rfl) ?_
  exact WP.pathR tab_ok mixed [(7, An.call (T.int .i64 (firstIdx s c.toNat.toUInt8)))] _ (ps := [(C Try.prog 65 [T.str s, T.int .u8 c] (T.int .i64 (firstIdx s c.toNat.toUInt8)))]) (r := T.int .i64 (firstIdx s c.toNat.toUInt8)) (by kernel_rfl) ⟨(indexByteString_C s c), trivial⟩ (by first | rfl | simp [*]) (fun _ h => h)
theorem stringsIndexByte_C (s : ByteArray) (c : Int) : C Try.prog 48 [T.str s, T.int .u8 c] (T.int .i64 (firstIdx s c.toNat.toUInt8)) := by
  refine C.intro (tab := tab) tab_ok (fn := Try.f48) Try.func48 (by kernel_rfl) rfl (Nat.le_of_ble_eq_true rfl) ?_
  exact WP.pathR tab_ok mixed [(7, An.call (T.int .i64 (firstIdx s c.toNat.toUInt8)))] _ (ps := [(C Try.prog 59 [T.str s, T.int .u8 c] (T.int .i64 (firstIdx s c.toNat.toUInt8)))]) (r := T.int .i64 (firstIdx s c.toNat.toUInt8)) (by kernel_rfl) ⟨(sliteIndexByte_C s c), trivial⟩ (by first | rfl | simp [*]) (fun _ h => h)
theorem isPlain_C (s : ByteArray) (t : ByteArray) (hs : s.size ≤ 9223372036854775807) : C Try.prog 27 [T.str s, T.str t] (T.bool (allB s.size (plainB s t))) := by
  refine C.intro (tab := tab) tab_ok (fn := Try.f27) Try.func27 (by kernel_rfl) rfl (Nat.le_of_ble_eq_true rfl) ?_
  refine WP.seq ?_
  refine WP.path tab_ok mixed [] [.keep [4, 0, 1], .keepO []] (ps := []) (e := .normal) (σ' := ⟨[], [(4, V.t (T.bool false)), (0, V.t (T.str s)), (1, V.t (T.str t))], []⟩) (by kernel_rfl) trivial ?_
  refine WP.seq ?_
  refine WP.seq ?_
  refine WP.path tab_ok mixed [] [.keep [8, 7, 4, 0, 1], .keepO []] (ps := []) (e := .normal) (σ' := ⟨[], [(8, V.t (T.int .i64 0)), (7, V.t (T.int .i64 ((ByteArray.size s : Nat) : Int))), (4, V.t (T.bool false)), (0, V.t (T.str s)), (1, V.t (T.str t))], []⟩) (by kernel_rfl) trivial ?_
  refine WP.block ?_
  refine WP.wk [.keep [8, 7, 4, 0, 1], .keepO [], .names []] (σ' := ⟨[], [(8, V.t (T.int .i64 ((0) : Int))), (7, V.t (T.int .i64 ((ByteArray.size s : Nat) : Int))), (4, V.t (T.bool false)), (0, V.t (T.str s)), (1, V.t (T.str t))], []⟩) (ps := []) (by kernel_rfl) trivial ?_
  refine WP.loop (α := Nat) (fun x => ⟨[], [(8, V.t (T.int .i64 (x : Int))), (7, V.t (T.int .i64 ((ByteArray.size s : Nat) : Int))), (4, V.t (T.bool false)), (0, V.t (T.str s)), (1, V.t (T.str t))], []⟩) (fun x => x ≤ s.size ∧ ∀ j, j < x → plainB s t j = true) (fun x => s.size - x) 0 (⟨by omega, fun j h => by omega⟩) ?_
  intro i hinv0
  have hinv : i ≤ s.size ∧ ∀ j, j < i → plainB s t j = true := hinv0
  obtain ⟨hi, hall⟩ := hinv
  rcases Bool.eq_false_or_eq_true (decide ((i : Int) < ((ByteArray.size s : Nat) : Int))) with h1 | h1
  · -- yes
    have g1 : (i : Int) < ((ByteArray.size s : Nat) : Int) := of_decide_eq_true h1
    rcases Bool.eq_false_or_eq_true (decide ((byteAt s (Int.toNat (i : Int))) < (32 : Int))) with h2 | h2
    · -- yes
      have g2 : (byteAt s (Int.toNat (i : Int))) < (32 : Int) := of_decide_eq_true h2
      exact WP.pathR tab_ok mixed [(9, An.b true), (14, An.b true)] _ (ps := [(True), ((decide ((i : Int) < ((ByteArray.size s : Nat) : Int))) = true), ((0 ≤ (i : Int) ∧ (i : Int) < ((ByteArray.size s : Nat) : Int))), (True), ((decide ((byteAt s (Int.toNat (i : Int))) < (32 : Int))) = true)]) (r := T.bool false) (by kernel_rfl) ⟨trivial, h1, ⟨by omega, by omega⟩, trivial, h2, trivial⟩ (by rw [allB_false (n := s.size) (p := plainB s t) (i := i) (by omega) (by simp only [plainB, Bool.and_eq_true, Bool.or_eq_true, Bool.and_eq_false_iff, Bool.or_eq_false_iff, Bool.not_eq_true', Bool.not_eq_false', decide_eq_true_eq, decide_eq_false_iff_not, beq_iff_eq, beq_eq_false_iff_ne, bne_iff_ne, Int.toNat_natCast, ne_eq, ge_iff_le, gt_iff_lt]; (try simp only [Int.toNat_natCast] at *); omega)]) (fun _ h => h)
    · -- no
      have g2 : ¬ ((byteAt s (Int.toNat (i : Int))) < (32 : Int)) := of_decide_eq_false h2
      rcases Bool.eq_false_or_eq_true (decide ((byteAt s (Int.toNat (i : Int))) > (126 : Int))) with h3 | h3
      · -- yes
        have g3 : (byteAt s (Int.toNat (i : Int))) > (126 : Int) := of_decide_eq_true h3
        exact WP.pathR tab_ok mixed [(9, An.b true), (14, An.b false), (19, An.b true)] _ (ps := [(True), ((decide ((i : Int) < ((ByteArray.size s : Nat) : Int))) = true), ((0 ≤ (i : Int) ∧ (i : Int) < ((ByteArray.size s : Nat) : Int))), (True), ((decide ((byteAt s (Int.toNat (i : Int))) < (32 : Int))) = false), ((0 ≤ (i : Int) ∧ (i : Int) < ((ByteArray.size s : Nat) : Int))), (True), ((decide ((byteAt s (Int.toNat (i : Int))) > (126 : Int))) = true)]) (r := T.bool false) (by kernel_rfl) ⟨trivial, h1, ⟨by omega, by omega⟩, trivial, h2, ⟨by omega, by omega⟩, trivial, h3, trivial⟩ (by rw [allB_false (n := s.size) (p := plainB s t) (i := i) (by omega) (by simp only [plainB, Bool.and_eq_true, Bool.or_eq_true, Bool.and_eq_false_iff, Bool.or_eq_false_iff, Bool.not_eq_true', Bool.not_eq_false', decide_eq_true_eq, decide_eq_false_iff_not, beq_iff_eq, beq_eq_false_iff_ne, bne_iff_ne, Int.toNat_natCast, ne_eq, ge_iff_le, gt_iff_lt]; (try simp only [Int.toNat_natCast] at *); omega)]) (fun _ h => h)
      · -- no
        have g3 : ¬ ((byteAt s (Int.toNat (i : Int))) > (126 : Int)) := of_decide_eq_false h3
        rcases Bool.eq_false_or_eq_true (decide ((firstIdx t (byteAt s (Int.toNat (i : Int))).toNat.toUInt8) ≥ (0 : Int))) with h4 | h4
        · -- yes
          have g4 : (firstIdx t (byteAt s (Int.toNat (i : Int))).toNat.toUInt8) ≥ (0 : Int) := of_decide_eq_true h4
          exact WP.pathR tab_ok mixed [(9, An.b true), (14, An.b false), (19, An.b false), (26, An.call (T.int .i64 (firstIdx t (byteAt s (Int.toNat (i : Int))).toNat.toUInt8))), (27, An.b true)] _ (ps := [(True), ((decide ((i : Int) < ((ByteArray.size s : Nat) : Int))) = true), ((0 ≤ (i : Int) ∧ (i : Int) < ((ByteArray.size s : Nat) : Int))), (True), ((decide ((byteAt s (Int.toNat (i : Int))) < (32 : Int))) = false), ((0 ≤ (i : Int) ∧ (i : Int) < ((ByteArray.size s : Nat) : Int))), (True), ((decide ((byteAt s (Int.toNat (i : Int))) > (126 : Int))) = false), ((0 ≤ (i : Int) ∧ (i : Int) < ((ByteArray.size s : Nat) : Int))), (C Try.prog 48 [T.str t, T.int .u8 (byteAt s (Int.toNat (i : Int)))] (T.int .i64 (firstIdx t (byteAt s (Int.toNat (i : Int))).toNat.toUInt8))), (True), ((decide ((firstIdx t (byteAt s (Int.toNat (i : Int))).toNat.toUInt8) ≥ (0 : Int))) = true)]) (r := T.bool false) (by kernel_rfl) ⟨trivial, h1, ⟨by omega, by omega⟩, trivial, h2, ⟨by omega, by omega⟩, trivial, h3, ⟨by omega, by omega⟩, (stringsIndexByte_C t (byteAt s (Int.toNat (i : Int)))), trivial, h4, trivial⟩ (by rw [allB_false (n := s.size) (p := plainB s t) (i := i) (by omega) (by simp only [plainB, Bool.and_eq_true, Bool.or_eq_true, Bool.and_eq_false_iff, Bool.or_eq_false_iff, Bool.not_eq_true', Bool.not_eq_false', decide_eq_true_eq, decide_eq_false_iff_not, beq_iff_eq, beq_eq_false_iff_ne, bne_iff_ne, Int.toNat_natCast, ne_eq, ge_iff_le, gt_iff_lt]; (try simp only [Int.toNat_natCast] at *); omega)]) (fun _ h => h)
        · -- no
          have g4 : ¬ ((firstIdx t (byteAt s (Int.toNat (i : Int))).toNat.toUInt8) ≥ (0 : Int)) := of_decide_eq_false h4
          refine WP.path tab_ok mixed [(9, An.b true), (14, An.b false), (19, An.b false), (26, An.call (T.int .i64 (firstIdx t (byteAt s (Int.toNat (i : Int))).toNat.toUInt8))), (27, An.b false), (29, An.v (T.int .i64 (((i + 1 : Nat) : Int))))] [.keep [8, 7, 4, 0, 1], .keepO [], .names []] (ps := [(True), ((decide ((i : Int) < ((ByteArray.size s : Nat) : Int))) = true), ((0 ≤ (i : Int) ∧ (i : Int) < ((ByteArray.size s : Nat) : Int))), (True), ((decide ((byteAt s (Int.toNat (i : Int))) < (32 : Int))) = false), ((0 ≤ (i : Int) ∧ (i : Int) < ((ByteArray.size s : Nat) : Int))), (True), ((decide ((byteAt s (Int.toNat (i : Int))) > (126 : Int))) = false), ((0 ≤ (i : Int) ∧ (i : Int) < ((ByteArray.size s : Nat) : Int))), (C Try.prog 48 [T.str t, T.int .u8 (byteAt s (Int.toNat (i : Int)))] (T.int .i64 (firstIdx t (byteAt s (Int.toNat (i : Int))).toNat.toUInt8))), (True), ((decide ((firstIdx t (byteAt s (Int.toNat (i : Int))).toNat.toUInt8) ≥ (0 : Int))) = false), (True), (T.int .i64 (IntKind.wrap .i64 ((i : Int) + (1 : Int))) = T.int .i64 (((i + 1 : Nat) : Int)))]) (e := .normal) (σ' := ⟨[], [(8, V.t (T.int .i64 ((i + 1) : Int))), (7, V.t (T.int .i64 ((ByteArray.size s : Nat) : Int))), (4, V.t (T.bool false)), (0, V.t (T.str s)), (1, V.t (T.str t))], []⟩) (by kernel_rfl) ⟨trivial, h1, ⟨by omega, by omega⟩, trivial, h2, ⟨by omega, by omega⟩, trivial, h3, ⟨by omega, by omega⟩, (stringsIndexByte_C t (byteAt s (Int.toNat (i : Int)))), trivial, h4, trivial, wrapT_i64 (by omega) (by omega), trivial⟩ ?_
          exact ⟨i + 1, ⟨by omega, all_step hall (by simp only [plainB, Bool.and_eq_true, Bool.or_eq_true, Bool.and_eq_false_iff, Bool.or_eq_false_iff, Bool.not_eq_true', Bool.not_eq_false', decide_eq_true_eq, decide_eq_false_iff_not, beq_iff_eq, beq_eq_false_iff_ne, bne_iff_ne, Int.toNat_natCast, ne_eq, ge_iff_le, gt_iff_lt]; (try simp only [Int.toNat_natCast] at *); omega)⟩, by first | omega | (dsimp only; omega), rfl⟩
  · -- no
    have g1 : ¬ ((i : Int) < ((ByteArray.size s : Nat) : Int)) := of_decide_eq_false h1
    refine WP.path tab_ok mixed [(9, An.b false)] [.keep [4], .keepO []] (ps := [(True), ((decide ((i : Int) < ((ByteArray.size s : Nat) : Int))) = false)]) (e := (.exit 0)) (σ' := ⟨[], [(4, V.t (T.bool false))], []⟩) (by kernel_rfl) ⟨trivial, h1, trivial⟩ ?_
    exact WP.pathR tab_ok mixed [] _ (ps := []) (r := T.bool true) (by kernel_rfl) trivial (by rw [allB_true hall (by omega)]) (fun _ h => h)
theorem in_C (x : Int) (lo : Int) (hi : Int) : C Try.prog 31 [T.int .i64 x, T.int .i64 lo, T.int .i64 hi] (T.bool (decide (lo ≤ x) && decide (x ≤ hi))) := by
  refine C.intro (tab := tab) tab_ok (fn := Try.f31) Try.func31 (by kernel_rfl) rfl (Nat.le_of_ble_eq_true rfl) ?_
  rcases Bool.eq_false_or_eq_true (decide (lo ≤ x)) with h1 | h1
  · -- yes
    have g1 : lo ≤ x := of_decide_eq_true h1
    exact WP.pathR tab_ok mixed [(9, An.b true)] _ (ps := [(True), ((decide (lo ≤ x)) = true), (True)]) (r := T.bool (decide (x ≤ hi))) (by kernel_rfl) ⟨trivial, h1, trivial, trivial⟩ (by first | rfl | simp [*]) (fun _ h => h)
  · -- no
    have g1 : ¬ (lo ≤ x) := of_decide_eq_false h1
    exact WP.pathR tab_ok mixed [(9, An.b false)] _ (ps := [(True), ((decide (lo ≤ x)) = false)]) (r := T.bool false) (by kernel_rfl) ⟨trivial, h1, trivial⟩ (by first | rfl | simp [*]) (fun _ h => h)
theorem isCommand_C (s : ByteArray) (hs : s.size ≤ 9223372036854775807) : C Try.prog 26 [T.str s] (T.bool (decide (1 ≤ (s.size : Int)) && decide ((s.size : Int) ≤ 160) && allB s.size (plainB s (ByteArray.mk #[35, 64])))) := by
  refine C.intro (tab := tab) tab_ok (fn := Try.f26) Try.func26 (by kernel_rfl) rfl (Nat.le_of_ble_eq_true rfl) ?_
  rcases Bool.eq_false_or_eq_true (decide ((1 : Int) ≤ ((ByteArray.size s : Nat) : Int)) && decide (((ByteArray.size s : Nat) : Int) ≤ (160 : Int))) with h1 | h1
  · -- yes
    have g1 := h1
    try simp only [Bool.and_eq_true, Bool.or_eq_true, Bool.and_eq_false_iff, Bool.or_eq_false_iff, Bool.not_eq_true', Bool.not_eq_false', decide_eq_true_eq, decide_eq_false_iff_not, beq_iff_eq, beq_eq_false_iff_ne, bne_iff_ne, Int.toNat_natCast, ne_eq, ge_iff_le, gt_iff_lt] at g1
    exact WP.pathR tab_ok mixed [(5, An.call (T.bool true)), (8, An.call (T.bool (allB s.size (plainB s (ByteArray.mk #[35, 64])))))] _ (ps := [(C Try.prog 31 [T.int .i64 ((ByteArray.size s : Nat) : Int), T.int .i64 1, T.int .i64 160] (T.bool true)), (C Try.prog 27 [T.str s, T.str (ByteArray.mk #[35, 64])] (T.bool (allB s.size (plainB s (ByteArray.mk #[35, 64])))))]) (r := T.bool (allB s.size (plainB s (ByteArray.mk #[35, 64])))) (by kernel_rfl) ⟨(show C Try.prog 31 [T.int .i64 ((ByteArray.size s : Nat) : Int), T.int .i64 1, T.int .i64 160] (T.bool true) from h1 ▸ (in_C ((ByteArray.size s : Nat) : Int) (1 : Int) (160 : Int))), (isPlain_C s (ByteArray.mk #[35, 64]) (by omega)), trivial⟩ (by first | rfl | simp [*]) (fun _ h => h)
  · -- no
    have g1 := h1
    try simp only [Bool.and_eq_true, Bool.or_eq_true, Bool.and_eq_false_iff, Bool.or_eq_false_iff, Bool.not_eq_true', Bool.not_eq_false', decide_eq_true_eq, decide_eq_false_iff_not, beq_iff_eq, beq_eq_false_iff_ne, bne_iff_ne, Int.toNat_natCast, ne_eq, ge_iff_le, gt_iff_lt] at g1
    exact WP.pathR tab_ok mixed [(5, An.call (T.bool false))] _ (ps := [(C Try.prog 31 [T.int .i64 ((ByteArray.size s : Nat) : Int), T.int .i64 1, T.int .i64 160] (T.bool false))]) (r := T.bool false) (by kernel_rfl) ⟨(show C Try.prog 31 [T.int .i64 ((ByteArray.size s : Nat) : Int), T.int .i64 1, T.int .i64 160] (T.bool false) from h1 ▸ (in_C ((ByteArray.size s : Nat) : Int) (1 : Int) (160 : Int))), trivial⟩ (by first | rfl | simp [*]) (fun _ h => h)
theorem iIsValidRecord_C (c : ByteArray) (r : ByteArray) (hc : c.size ≤ 9223372036854775807) (hr : r.size ≤ 9223372036854775807) : C Try.prog 10 [T.agg [T.str c, T.str r]] (T.bool (isValidRecordN c r)) := by
  refine C.intro (tab := tab) tab_ok (fn := Try.f10) Try.func10 (by kernel_rfl) rfl (Nat.le_of_ble_eq_true rfl) ?_
  rcases Bool.eq_false_or_eq_true (decide (1 ≤ (c.size : Int)) && decide ((c.size : Int) ≤ 160) && allB c.size (plainB c (ByteArray.mk #[35, 64]))) with h1 | h1
  · -- yes
    have g1 := h1
    try simp only [Bool.and_eq_true, Bool.or_eq_true, Bool.and_eq_false_iff, Bool.or_eq_false_iff, Bool.not_eq_true', Bool.not_eq_false', decide_eq_true_eq, decide_eq_false_iff_not, beq_iff_eq, beq_eq_false_iff_ne, bne_iff_ne, Int.toNat_natCast, ne_eq, ge_iff_le, gt_iff_lt] at g1
    rcases Bool.eq_false_or_eq_true (decide (((ByteArray.size r : Nat) : Int) ≤ (250 : Int))) with h2 | h2
    · -- yes
      have g2 : ((ByteArray.size r : Nat) : Int) ≤ (250 : Int) := of_decide_eq_true h2
      exact WP.pathR tab_ok mixed [(1, An.fz), (5, An.call (T.bool true)), (10, An.b true), (15, An.call (T.bool (allB r.size (plainB r (ByteArray.mk #[35])))))] _ (ps := [(True), (C Try.prog 26 [T.str c] (T.bool true)), (True), (True), ((decide (((ByteArray.size r : Nat) : Int) ≤ (250 : Int))) = true), (True), (C Try.prog 27 [T.str r, T.str (ByteArray.mk #[35])] (T.bool (allB r.size (plainB r (ByteArray.mk #[35])))))]) (r := T.bool (allB r.size (plainB r (ByteArray.mk #[35])))) (by kernel_rfl) ⟨trivial, (show C Try.prog 26 [T.str c] (T.bool true) from h1 ▸ (isCommand_C c (by omega))), trivial, trivial, h2, trivial, (isPlain_C r (ByteArray.mk #[35]) (by omega)), trivial⟩ (by first | rfl | (unfold isValidRecordN; (try rw [h1]); (try rw [h2]); rfl)) (fun _ h => h)
    · -- no
      have g2 : ¬ (((ByteArray.size r : Nat) : Int) ≤ (250 : Int)) := of_decide_eq_false h2
      exact WP.pathR tab_ok mixed [(1, An.fz), (5, An.call (T.bool true)), (10, An.b false)] _ (ps := [(True), (C Try.prog 26 [T.str c] (T.bool true)), (True), (True), ((decide (((ByteArray.size r : Nat) : Int) ≤ (250 : Int))) = false)]) (r := T.bool false) (by kernel_rfl) ⟨trivial, (show C Try.prog 26 [T.str c] (T.bool true) from h1 ▸ (isCommand_C c (by omega))), trivial, trivial, h2, trivial⟩ (by first | rfl | (unfold isValidRecordN; (try rw [h1]); (try rw [h2]); rfl)) (fun _ h => h)
  · -- no
    have g1 := h1
    try simp only [Bool.and_eq_true, Bool.or_eq_true, Bool.and_eq_false_iff, Bool.or_eq_false_iff, Bool.not_eq_true', Bool.not_eq_false', decide_eq_true_eq, decide_eq_false_iff_not, beq_iff_eq, beq_eq_false_iff_ne, bne_iff_ne, Int.toNat_natCast, ne_eq, ge_iff_le, gt_iff_lt] at g1
    exact WP.pathR tab_ok mixed [(1, An.fz), (5, An.call (T.bool false))] _ (ps := [(True), (C Try.prog 26 [T.str c] (T.bool false))]) (r := T.bool false) (by kernel_rfl) ⟨trivial, (show C Try.prog 26 [T.str c] (T.bool false) from h1 ▸ (isCommand_C c (by omega))), trivial⟩ (by first | rfl | (unfold isValidRecordN; (try rw [h1]); rfl)) (fun _ h => h)
theorem lawIsValidRecord_C (c : ByteArray) (r : ByteArray) (hc : c.size ≤ 9223372036854775807) (hr : r.size ≤ 9223372036854775807) : C Try.prog 3 [T.agg [T.str c, T.str r]] (T.bool true) := by
  refine C.intro (tab := tab) tab_ok (fn := Try.f3) Try.func3 (by kernel_rfl) rfl (Nat.le_of_ble_eq_true rfl) ?_
  rcases Bool.eq_false_or_eq_true (decide ((if (1048576 : Int) - c.size < 0 then -1 else if (1048576 : Int) - c.size - r.size < 0 then -1 else (1048576 : Int) - c.size - r.size) < (0 : Int))) with h1 | h1
  · -- yes
    have g1 : (if (1048576 : Int) - c.size < 0 then -1 else if (1048576 : Int) - c.size - r.size < 0 then -1 else (1048576 : Int) - c.size - r.size) < (0 : Int) := of_decide_eq_true h1
    exact WP.pathR tab_ok mixed [(1, An.fz), (8, An.call (T.int .i64 (if (1048576 : Int) - c.size < 0 then -1 else if (1048576 : Int) - c.size - r.size < 0 then -1 else (1048576 : Int) - c.size - r.size))), (10, An.b true)] _ (ps := [(2 ≤ 2), (C Try.prog 7 [T.agg [T.str c, T.str r], T.int .i64 1048576] (T.int .i64 (if (1048576 : Int) - c.size < 0 then -1 else if (1048576 : Int) - c.size - r.size < 0 then -1 else (1048576 : Int) - c.size - r.size))), (True), ((decide ((if (1048576 : Int) - c.size < 0 then -1 else if (1048576 : Int) - c.size - r.size < 0 then -1 else (1048576 : Int) - c.size - r.size) < (0 : Int))) = true)]) (r := T.bool true) (by kernel_rfl) ⟨by first | decide | (simp; omega), (szLogRecord_C c r (1048576 : Int) (by omega) (by omega) (by omega) (by omega)), trivial, h1, trivial⟩ (by first | rfl | simp_all [record_same]) (fun _ h => h)
  · -- no
    have g1 : ¬ ((if (1048576 : Int) - c.size < 0 then -1 else if (1048576 : Int) - c.size - r.size < 0 then -1 else (1048576 : Int) - c.size - r.size) < (0 : Int)) := of_decide_eq_false h1
    rcases Bool.eq_false_or_eq_true (!((isValidRecordN c r) == (l12RecordN c r))) with h2 | h2
    · -- yes
      have g2 := h2
      try simp only [Bool.and_eq_true, Bool.or_eq_true, Bool.and_eq_false_iff, Bool.or_eq_false_iff, Bool.not_eq_true', Bool.not_eq_false', decide_eq_true_eq, decide_eq_false_iff_not, beq_iff_eq, beq_eq_false_iff_ne, bne_iff_ne, Int.toNat_natCast, ne_eq, ge_iff_le, gt_iff_lt] at g2
      exact WP.pathR tab_ok mixed [(1, An.fz), (8, An.call (T.int .i64 (if (1048576 : Int) - c.size < 0 then -1 else if (1048576 : Int) - c.size - r.size < 0 then -1 else (1048576 : Int) - c.size - r.size))), (10, An.b false), (12, An.call (T.agg [T.str c, T.str r])), (13, An.call (T.bool (l12RecordN c r))), (15, An.call (T.agg [T.str c, T.str r])), (16, An.call (T.bool (isValidRecordN c r))), (19, An.b true)] _ (ps := [(2 ≤ 2), (C Try.prog 7 [T.agg [T.str c, T.str r], T.int .i64 1048576] (T.int .i64 (if (1048576 : Int) - c.size < 0 then -1 else if (1048576 : Int) - c.size - r.size < 0 then -1 else (1048576 : Int) - c.size - r.size))), (True), ((decide ((if (1048576 : Int) - c.size < 0 then -1 else if (1048576 : Int) - c.size - r.size < 0 then -1 else (1048576 : Int) - c.size - r.size) < (0 : Int))) = false), (2 ≤ 2), (C Try.prog 9 [T.agg [T.str c, T.str r]] (T.agg [T.str c, T.str r])), (C Try.prog 8 [T.agg [T.str c, T.str r]] (T.bool (l12RecordN c r))), (2 ≤ 2), (C Try.prog 9 [T.agg [T.str c, T.str r]] (T.agg [T.str c, T.str r])), (C Try.prog 10 [T.agg [T.str c, T.str r]] (T.bool (isValidRecordN c r))), (True), ((!((isValidRecordN c r) == (l12RecordN c r))) = true)]) (r := T.bool false) (by kernel_rfl) ⟨by first | decide | (simp; omega), (szLogRecord_C c r (1048576 : Int) (by omega) (by omega) (by omega) (by omega)), trivial, h1, by first | decide | (simp; omega), (toLogRecord_C c r), (sIsValidRecord_C c r (by omega) (by omega)), by first | decide | (simp; omega), (toLogRecord_C c r), (iIsValidRecord_C c r (by omega) (by omega)), trivial, h2, trivial⟩ (by first | rfl | simp_all [record_same]) (fun _ h => h)
    · -- no
      have g2 := h2
      try simp only [Bool.and_eq_true, Bool.or_eq_true, Bool.and_eq_false_iff, Bool.or_eq_false_iff, Bool.not_eq_true', Bool.not_eq_false', decide_eq_true_eq, decide_eq_false_iff_not, beq_iff_eq, beq_eq_false_iff_ne, bne_iff_ne, Int.toNat_natCast, ne_eq, ge_iff_le, gt_iff_lt] at g2
      exact WP.pathR tab_ok mixed [(1, An.fz), (8, An.call (T.int .i64 (if (1048576 : Int) - c.size < 0 then -1 else if (1048576 : Int) - c.size - r.size < 0 then -1 else (1048576 : Int) - c.size - r.size))), (10, An.b false), (12, An.call (T.agg [T.str c, T.str r])), (13, An.call (T.bool (l12RecordN c r))), (15, An.call (T.agg [T.str c, T.str r])), (16, An.call (T.bool (isValidRecordN c r))), (19, An.b false)] _ (ps := [(2 ≤ 2), (C Try.prog 7 [T.agg [T.str c, T.str r], T.int .i64 1048576] (T.int .i64 (if (1048576 : Int) - c.size < 0 then -1 else if (1048576 : Int) - c.size - r.size < 0 then -1 else (1048576 : Int) - c.size - r.size))), (True), ((decide ((if (1048576 : Int) - c.size < 0 then -1 else if (1048576 : Int) - c.size - r.size < 0 then -1 else (1048576 : Int) - c.size - r.size) < (0 : Int))) = false), (2 ≤ 2), (C Try.prog 9 [T.agg [T.str c, T.str r]] (T.agg [T.str c, T.str r])), (C Try.prog 8 [T.agg [T.str c, T.str r]] (T.bool (l12RecordN c r))), (2 ≤ 2), (C Try.prog 9 [T.agg [T.str c, T.str r]] (T.agg [T.str c, T.str r])), (C Try.prog 10 [T.agg [T.str c, T.str r]] (T.bool (isValidRecordN c r))), (True), ((!((isValidRecordN c r) == (l12RecordN c r))) = false)]) (r := T.bool true) (by kernel_rfl) ⟨by first | decide | (simp; omega), (szLogRecord_C c r (1048576 : Int) (by omega) (by omega) (by omega) (by omega)), trivial, h1, by first | decide | (simp; omega), (toLogRecord_C c r), (sIsValidRecord_C c r (by omega) (by omega)), by first | decide | (simp; omega), (toLogRecord_C c r), (iIsValidRecord_C c r (by omega) (by omega)), trivial, h2, trivial⟩ (by first | rfl | simp_all [record_same]) (fun _ h => h)
end Go.Proofs.Ythhgloghphpgaaa
