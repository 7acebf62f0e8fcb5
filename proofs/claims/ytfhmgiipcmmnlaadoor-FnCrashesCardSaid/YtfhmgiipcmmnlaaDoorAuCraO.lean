/-
  The walks: each function of the program that the claim reaches returns what is told of it here. No statement is proved here.
-/
import Derived.Test.YtfhmgiipcmmnlaaDoorTlGroupc



import Derived.Test.YtfhmgiipcmmnlaaDoorProg
namespace Go.Proofs.YtfhmgiipcmmnlaaDoor.AuCraO
open Go Go.Tl Go.Proofs
set_option linter.unusedVariables false
set_option linter.unusedSimpArgs false
set_option maxRecDepth 100000
def tab : Tab := [(3, ⟨.int .i64, 1, 8, [.int .i64 0]⟩), (4, ⟨.bool, 1, 1, [.bool false]⟩), (5, ⟨.int .u8, 1, 1, [.int .u8 0]⟩), (9, ⟨.string, 1, 16, [.str ⟨#[]⟩]⟩), (27, ⟨.struct [(0, 1, false), (1, 1, false)], 2, 32, [.str ⟨#[]⟩, .str ⟨#[]⟩]⟩), (31, ⟨.struct [(0, 1, false), (1, 1, false), (2, 1, false)], 3, 40, [.str ⟨#[]⟩, .str ⟨#[]⟩, .int .i64 0]⟩), (48, ⟨.slice 27 2 32, 1, 24, [.nils]⟩), (65, ⟨.slice 5 1 1, 1, 24, [.nils]⟩), (77, ⟨.slice 90 2 16, 1, 24, [.nils]⟩), (80, ⟨.slice 3 1 8, 1, 24, [.nils]⟩), (82, ⟨.struct [(0, 1, false), (1, 1, false)], 2, 32, [.nils, .int .i64 0]⟩), (90, ⟨.struct [(0, 1, false), (1, 1, false)], 2, 16, [.int .i64 0, .bool false]⟩), (124, ⟨.pointer 127, 1, 8, [.nilp]⟩), (125, ⟨.int .u64, 1, 8, [.int .u64 0]⟩), (127, ⟨.struct [(0, 1, false), (1, 1, false), (2, 1, false)], 3, 40, [.nils, .int .i64 0, .int .u64 0]⟩), (158, ⟨.slice 9 1 16, 1, 24, [.nils]⟩)]
theorem tab_ok : chkTab Tryd.prog tab = true := by kernel_rfl
theorem mixed : Tryd.prog.follows .mixedOrders = true := by kernel_rfl
theorem l1In_C (x : Int) (lo : Int) (hi : Int) : C Tryd.prog 80 [T.int .i64 x, T.int .i64 lo, T.int .i64 hi] (T.bool (decide (x ≥ lo) && decide (x ≤ hi))) := by
  refine C.intro (tab := tab) tab_ok (fn := Tryd.f80) Tryd.func80 (by kernel_rfl) rfl (Nat.le_of_ble_eq_true rfl) ?_
  rcases Bool.eq_false_or_eq_true (decide (x ≥ lo)) with h1 | h1
  · -- yes
    have g1 : x ≥ lo := of_decide_eq_true h1
    exact WP.pathR tab_ok mixed [(9, An.b true)] _ (ps := [(True), ((decide (x ≥ lo)) = true), (True)]) (r := T.bool (decide (x ≤ hi))) (by kernel_rfl) ⟨trivial, h1, trivial, trivial⟩ (by first | rfl | simp [*]) (fun _ h => h)
  · -- no
    have g1 : ¬ (x ≥ lo) := of_decide_eq_false h1
    exact WP.pathR tab_ok mixed [(9, An.b false)] _ (ps := [(True), ((decide (x ≥ lo)) = false)]) (r := T.bool false) (by kernel_rfl) ⟨trivial, h1, trivial⟩ (by first | rfl | simp [*]) (fun _ h => h)
theorem l12Bytes_C (s : ByteArray) (most : Int) (hs : s.size ≤ 9223372036854775807) : C Tryd.prog 136 [T.str s, T.int .i64 most] (T.bool (allB s.size (goodB s) && decide ((s.size : Int) ≤ most))) := by
  refine C.intro (tab := tab) tab_ok (fn := Tryd.f136) Tryd.func136 (by kernel_rfl) rfl (Nat.le_of_ble_eq_true rfl) ?_
  refine WP.seq ?_
  refine WP.path tab_ok mixed [] [.keep [4, 0, 1], .keepO []] (ps := []) (e := .normal) (σ' := ⟨[], [(4, V.t (T.bool false)), (0, V.t (T.str s)), (1, V.t (T.int .i64 most))], []⟩) (by kernel_rfl) trivial ?_
  refine WP.seq ?_
  refine WP.seq ?_
  refine WP.path tab_ok mixed [] [.keep [5, 4, 0, 1], .keepO []] (ps := []) (e := .normal) (σ' := ⟨[], [(5, V.t (T.int .i64 0)), (4, V.t (T.bool false)), (0, V.t (T.str s)), (1, V.t (T.int .i64 most))], []⟩) (by kernel_rfl) trivial ?_
  refine WP.block ?_
  refine WP.wk [.keep [5, 4, 0, 1], .keepO [], .names []] (σ' := ⟨[], [(5, V.t (T.int .i64 ((0) : Int))), (4, V.t (T.bool false)), (0, V.t (T.str s)), (1, V.t (T.int .i64 most))], []⟩) (ps := []) (by kernel_rfl) trivial ?_
  refine WP.loop (α := Nat) (fun zz => ⟨[], [(5, V.t (T.int .i64 (zz : Int))), (4, V.t (T.bool false)), (0, V.t (T.str s)), (1, V.t (T.int .i64 most))], []⟩) (fun zz => zz ≤ s.size ∧ ∀ j, j < zz → goodB s j = true) (fun zz => s.size - zz) 0 (⟨by omega, fun j h => by omega⟩) ?_
  intro i hinv0
  have hinv : i ≤ s.size ∧ ∀ j, j < i → goodB s j = true := hinv0
  obtain ⟨hi, hall⟩ := hinv
  rcases Bool.eq_false_or_eq_true (decide ((i : Int) < ((ByteArray.size s : Nat) : Int))) with h1 | h1
  · -- yes
    have g1 : (i : Int) < ((ByteArray.size s : Nat) : Int) := of_decide_eq_true h1
    rcases Bool.eq_false_or_eq_true (decide ((byteAt s (Int.toNat (i : Int))) ≥ (32 : Int)) && decide ((byteAt s (Int.toNat (i : Int))) ≤ (126 : Int))) with h2 | h2
    · -- yes
      have g2 := h2
      try simp only [Bool.and_eq_true, Bool.or_eq_true, Bool.and_eq_false_iff, Bool.or_eq_false_iff, Bool.not_eq_true', Bool.not_eq_false', decide_eq_true_eq, decide_eq_false_iff_not, beq_iff_eq, beq_eq_false_iff_ne, bne_iff_ne, Int.toNat_natCast, ne_eq, ge_iff_le, gt_iff_lt] at g2
      rcases Bool.eq_false_or_eq_true ((byteAt s (Int.toNat (i : Int))) == (35 : Int)) with h3 | h3
      · -- yes
        have g3 : (byteAt s (Int.toNat (i : Int))) = (35 : Int) := eq_of_beq h3
        exact WP.pathR tab_ok mixed [(9, An.b true), (15, An.v (T.int .i64 (byteAt s (Int.toNat (i : Int))))), (16, An.call (T.bool true)), (22, An.b true)] _ (ps := [(True), ((decide ((i : Int) < ((ByteArray.size s : Nat) : Int))) = true), ((0 ≤ (i : Int) ∧ (i : Int) < ((ByteArray.size s : Nat) : Int))), (T.int .i64 (IntKind.wrap .i64 (byteAt s (Int.toNat (i : Int)))) = T.int .i64 (byteAt s (Int.toNat (i : Int)))), (C Tryd.prog 80 [T.int .i64 (byteAt s (Int.toNat (i : Int))), T.int .i64 32, T.int .i64 126] (T.bool true)), ((0 ≤ (i : Int) ∧ (i : Int) < ((ByteArray.size s : Nat) : Int))), (True), (((byteAt s (Int.toNat (i : Int))) == (35 : Int)) = true)]) (r := T.bool false) (by kernel_rfl) ⟨trivial, h1, ⟨by omega, by omega⟩, wrapT_i64 (byteAt_lo _ _) (byteAt_hi _ _), (C.toB h2 (by have hh := (l1In_C (byteAt s (Int.toNat (i : Int))) (32 : Int) (126 : Int)); first | exact hh | simpa using hh)), ⟨by omega, by omega⟩, trivial, h3, trivial⟩ (by rw [allB_false (n := s.size) (p := goodB s) (i := i) (by omega) (by simp only [goodB, Bool.and_eq_true, Bool.or_eq_true, Bool.and_eq_false_iff, Bool.or_eq_false_iff, Bool.not_eq_true', Bool.not_eq_false', decide_eq_true_eq, decide_eq_false_iff_not, beq_iff_eq, beq_eq_false_iff_ne, bne_iff_ne, Int.toNat_natCast, ne_eq, ge_iff_le, gt_iff_lt]; (try simp only [Int.toNat_natCast] at *); omega)]; rfl) (fun _ h => h)
      · -- no
        have g3 : ¬ ((byteAt s (Int.toNat (i : Int))) = (35 : Int)) := ne_of_beq_false h3
        refine WP.path tab_ok mixed [(9, An.b true), (15, An.v (T.int .i64 (byteAt s (Int.toNat (i : Int))))), (16, An.call (T.bool true)), (22, An.b false), (11, An.v (T.int .i64 (((i + 1 : Nat) : Int))))] [.keep [5, 4, 0, 1], .keepO [], .names []] (ps := [(True), ((decide ((i : Int) < ((ByteArray.size s : Nat) : Int))) = true), ((0 ≤ (i : Int) ∧ (i : Int) < ((ByteArray.size s : Nat) : Int))), (T.int .i64 (IntKind.wrap .i64 (byteAt s (Int.toNat (i : Int)))) = T.int .i64 (byteAt s (Int.toNat (i : Int)))), (C Tryd.prog 80 [T.int .i64 (byteAt s (Int.toNat (i : Int))), T.int .i64 32, T.int .i64 126] (T.bool true)), ((0 ≤ (i : Int) ∧ (i : Int) < ((ByteArray.size s : Nat) : Int))), (True), (((byteAt s (Int.toNat (i : Int))) == (35 : Int)) = false), (True), (T.int .i64 (IntKind.wrap .i64 ((i : Int) + (1 : Int))) = T.int .i64 (((i + 1 : Nat) : Int)))]) (e := .normal) (σ' := ⟨[], [(5, V.t (T.int .i64 ((i + 1) : Int))), (4, V.t (T.bool false)), (0, V.t (T.str s)), (1, V.t (T.int .i64 most))], []⟩) (by kernel_rfl) ⟨trivial, h1, ⟨by omega, by omega⟩, wrapT_i64 (byteAt_lo _ _) (byteAt_hi _ _), (C.toB h2 (by have hh := (l1In_C (byteAt s (Int.toNat (i : Int))) (32 : Int) (126 : Int)); first | exact hh | simpa using hh)), ⟨by omega, by omega⟩, trivial, h3, trivial, wrapT_i64 (by omega) (by omega), trivial⟩ ?_
        exact ⟨i + 1, ⟨by omega, all_step hall (by simp only [goodB, Bool.and_eq_true, Bool.or_eq_true, Bool.and_eq_false_iff, Bool.or_eq_false_iff, Bool.not_eq_true', Bool.not_eq_false', decide_eq_true_eq, decide_eq_false_iff_not, beq_iff_eq, beq_eq_false_iff_ne, bne_iff_ne, Int.toNat_natCast, ne_eq, ge_iff_le, gt_iff_lt]; (try simp only [Int.toNat_natCast] at *); omega)⟩, by first | omega | (dsimp only; omega), rfl⟩
    · -- no
      have g2 := h2
      try simp only [Bool.and_eq_true, Bool.or_eq_true, Bool.and_eq_false_iff, Bool.or_eq_false_iff, Bool.not_eq_true', Bool.not_eq_false', decide_eq_true_eq, decide_eq_false_iff_not, beq_iff_eq, beq_eq_false_iff_ne, bne_iff_ne, Int.toNat_natCast, ne_eq, ge_iff_le, gt_iff_lt] at g2
      exact WP.pathR tab_ok mixed [(9, An.b true), (15, An.v (T.int .i64 (byteAt s (Int.toNat (i : Int))))), (16, An.call (T.bool false))] _ (ps := [(True), ((decide ((i : Int) < ((ByteArray.size s : Nat) : Int))) = true), ((0 ≤ (i : Int) ∧ (i : Int) < ((ByteArray.size s : Nat) : Int))), (T.int .i64 (IntKind.wrap .i64 (byteAt s (Int.toNat (i : Int)))) = T.int .i64 (byteAt s (Int.toNat (i : Int)))), (C Tryd.prog 80 [T.int .i64 (byteAt s (Int.toNat (i : Int))), T.int .i64 32, T.int .i64 126] (T.bool false))]) (r := T.bool false) (by kernel_rfl) ⟨trivial, h1, ⟨by omega, by omega⟩, wrapT_i64 (byteAt_lo _ _) (byteAt_hi _ _), (C.toB h2 (by have hh := (l1In_C (byteAt s (Int.toNat (i : Int))) (32 : Int) (126 : Int)); first | exact hh | simpa using hh)), trivial⟩ (by rw [allB_false (n := s.size) (p := goodB s) (i := i) (by omega) (by simp only [goodB, Bool.and_eq_true, Bool.or_eq_true, Bool.and_eq_false_iff, Bool.or_eq_false_iff, Bool.not_eq_true', Bool.not_eq_false', decide_eq_true_eq, decide_eq_false_iff_not, beq_iff_eq, beq_eq_false_iff_ne, bne_iff_ne, Int.toNat_natCast, ne_eq, ge_iff_le, gt_iff_lt]; (try simp only [Int.toNat_natCast] at *); omega)]; rfl) (fun _ h => h)
  · -- no
    have g1 : ¬ ((i : Int) < ((ByteArray.size s : Nat) : Int)) := of_decide_eq_false h1
    refine WP.path tab_ok mixed [(9, An.b false)] [.keep [4, 0, 1], .keepO []] (ps := [(True), ((decide ((i : Int) < ((ByteArray.size s : Nat) : Int))) = false)]) (e := (.exit 0)) (σ' := ⟨[], [(4, V.t (T.bool false)), (0, V.t (T.str s)), (1, V.t (T.int .i64 most))], []⟩) (by kernel_rfl) ⟨trivial, h1, trivial⟩ ?_
    exact WP.pathR tab_ok mixed [] _ (ps := [(True)]) (r := T.bool (decide (((ByteArray.size s : Nat) : Int) ≤ most))) (by kernel_rfl) ⟨trivial, trivial⟩ (by rw [allB_true hall (by omega)]; rfl) (fun _ h => h)
theorem l1Stands_C (s : ByteArray) (c : Int) (hs : s.size ≤ 9223372036854775807) : C Tryd.prog 137 [T.str s, T.int .u8 c] (T.bool (anyB s.size (fun j => byteAt s j == c))) := by
  refine C.intro (tab := tab) tab_ok (fn := Tryd.f137) Tryd.func137 (by kernel_rfl) rfl (Nat.le_of_ble_eq_true rfl) ?_
  refine WP.seq ?_
  refine WP.path tab_ok mixed [] [.keep [4, 0, 1], .keepO []] (ps := []) (e := .normal) (σ' := ⟨[], [(4, V.t (T.bool false)), (0, V.t (T.str s)), (1, V.t (T.int .u8 c))], []⟩) (by kernel_rfl) trivial ?_
  refine WP.seq ?_
  refine WP.seq ?_
  refine WP.path tab_ok mixed [] [.keep [5, 4, 0, 1], .keepO []] (ps := []) (e := .normal) (σ' := ⟨[], [(5, V.t (T.int .i64 0)), (4, V.t (T.bool false)), (0, V.t (T.str s)), (1, V.t (T.int .u8 c))], []⟩) (by kernel_rfl) trivial ?_
  refine WP.block ?_
  refine WP.wk [.keep [5, 4, 0, 1], .keepO [], .names []] (σ' := ⟨[], [(5, V.t (T.int .i64 ((0) : Int))), (4, V.t (T.bool false)), (0, V.t (T.str s)), (1, V.t (T.int .u8 c))], []⟩) (ps := []) (by kernel_rfl) trivial ?_
  refine WP.loop (α := Nat) (fun zz => ⟨[], [(5, V.t (T.int .i64 (zz : Int))), (4, V.t (T.bool false)), (0, V.t (T.str s)), (1, V.t (T.int .u8 c))], []⟩) (fun zz => zz ≤ s.size ∧ ∀ j, j < zz → (byteAt s j == c) = false) (fun zz => s.size - zz) 0 (⟨by omega, fun j h => by omega⟩) ?_
  intro i hinv0
  have hinv : i ≤ s.size ∧ ∀ j, j < i → (byteAt s j == c) = false := hinv0
  obtain ⟨hi, hall⟩ := hinv
  rcases Bool.eq_false_or_eq_true (decide ((i : Int) < ((ByteArray.size s : Nat) : Int))) with h1 | h1
  · -- yes
    have g1 : (i : Int) < ((ByteArray.size s : Nat) : Int) := of_decide_eq_true h1
    rcases Bool.eq_false_or_eq_true ((byteAt s (Int.toNat (i : Int))) == c) with h2 | h2
    · -- yes
      have g2 : (byteAt s (Int.toNat (i : Int))) = c := eq_of_beq h2
      exact WP.pathR tab_ok mixed [(9, An.b true), (16, An.b true)] _ (ps := [(True), ((decide ((i : Int) < ((ByteArray.size s : Nat) : Int))) = true), ((0 ≤ (i : Int) ∧ (i : Int) < ((ByteArray.size s : Nat) : Int))), (True), (((byteAt s (Int.toNat (i : Int))) == c) = true)]) (r := T.bool true) (by kernel_rfl) ⟨trivial, h1, ⟨by omega, by omega⟩, trivial, h2, trivial⟩ (by rw [anyB_true (n := s.size) (p := fun j => byteAt s j == c) (i := i) (by omega) (by assumption)]) (fun _ h => h)
    · -- no
      have g2 : ¬ ((byteAt s (Int.toNat (i : Int))) = c) := ne_of_beq_false h2
      refine WP.path tab_ok mixed [(9, An.b true), (16, An.b false), (11, An.v (T.int .i64 (((i + 1 : Nat) : Int))))] [.keep [5, 4, 0, 1], .keepO [], .names []] (ps := [(True), ((decide ((i : Int) < ((ByteArray.size s : Nat) : Int))) = true), ((0 ≤ (i : Int) ∧ (i : Int) < ((ByteArray.size s : Nat) : Int))), (True), (((byteAt s (Int.toNat (i : Int))) == c) = false), (True), (T.int .i64 (IntKind.wrap .i64 ((i : Int) + (1 : Int))) = T.int .i64 (((i + 1 : Nat) : Int)))]) (e := .normal) (σ' := ⟨[], [(5, V.t (T.int .i64 ((i + 1) : Int))), (4, V.t (T.bool false)), (0, V.t (T.str s)), (1, V.t (T.int .u8 c))], []⟩) (by kernel_rfl) ⟨trivial, h1, ⟨by omega, by omega⟩, trivial, h2, trivial, wrapT_i64 (by omega) (by omega), trivial⟩ ?_
      exact ⟨i + 1, ⟨by omega, all_step hall (by assumption)⟩, by first | omega | (dsimp only; omega), rfl⟩
  · -- no
    have g1 : ¬ ((i : Int) < ((ByteArray.size s : Nat) : Int)) := of_decide_eq_false h1
    refine WP.path tab_ok mixed [(9, An.b false)] [.keep [4], .keepO []] (ps := [(True), ((decide ((i : Int) < ((ByteArray.size s : Nat) : Int))) = false)]) (e := (.exit 0)) (σ' := ⟨[], [(4, V.t (T.bool false))], []⟩) (by kernel_rfl) ⟨trivial, h1, trivial⟩ ?_
    exact WP.pathR tab_ok mixed [] _ (ps := []) (r := T.bool false) (by kernel_rfl) trivial (by rw [anyB_false hall (by omega)]) (fun _ h => h)
theorem l12Record_C (c : ByteArray) (r : ByteArray) (hc : c.size ≤ 9223372036854775807) (hr : r.size ≤ 9223372036854775807) : C Tryd.prog 81 [T.agg [T.str c, T.str r]] (T.bool (l12RecordN c r)) := by
  refine C.intro (tab := tab) tab_ok (fn := Tryd.f81) Tryd.func81 (by kernel_rfl) rfl (Nat.le_of_ble_eq_true rfl) ?_
  rcases Bool.eq_false_or_eq_true (!(c.toList == (ByteArray.mk #[]).toList)) with h1 | h1
  · -- yes
    have g1 : ¬ (c = (ByteArray.mk #[])) := bytes_nne h1
    rcases Bool.eq_false_or_eq_true (allB c.size (goodB c) && decide ((c.size : Int) ≤ (160 : Int))) with h2 | h2
    · -- yes
      have g2 := h2
      try simp only [Bool.and_eq_true, Bool.or_eq_true, Bool.and_eq_false_iff, Bool.or_eq_false_iff, Bool.not_eq_true', Bool.not_eq_false', decide_eq_true_eq, decide_eq_false_iff_not, beq_iff_eq, beq_eq_false_iff_ne, bne_iff_ne, Int.toNat_natCast, ne_eq, ge_iff_le, gt_iff_lt] at g2
      rcases Bool.eq_false_or_eq_true (anyB c.size (fun j => byteAt c j == (64 : Int))) with h3 | h3
      · -- yes
        have g3 := h3
        try simp only [Bool.and_eq_true, Bool.or_eq_true, Bool.and_eq_false_iff, Bool.or_eq_false_iff, Bool.not_eq_true', Bool.not_eq_false', decide_eq_true_eq, decide_eq_false_iff_not, beq_iff_eq, beq_eq_false_iff_ne, bne_iff_ne, Int.toNat_natCast, ne_eq, ge_iff_le, gt_iff_lt] at g3
        exact WP.pathR tab_ok mixed [(1, An.fz), (5, An.b true), (9, An.call (T.bool true)), (14, An.call (T.bool true))] _ (ps := [(True), (True), ((!(c.toList == (ByteArray.mk #[]).toList)) = true), (True), (C Tryd.prog 136 [T.str c, T.int .i64 160] (T.bool true)), (True), (C Tryd.prog 137 [T.str c, T.int .u8 64] (T.bool true))]) (r := T.bool false) (by kernel_rfl) ⟨trivial, trivial, h1, trivial, (C.toB h2 (by have hh := (l12Bytes_C c (160 : Int) (by first | omega | (simp only [List.length_take, List.length_drop, List.length_map, List.length_append]; omega))); first | exact hh | simpa using hh)), trivial, (C.toB h3 (by have hh := (l1Stands_C c (64 : Int) (by first | omega | (simp only [List.length_take, List.length_drop, List.length_map, List.length_append]; omega))); first | exact hh | simpa using hh)), trivial⟩ (by first | rfl | (unfold l12RecordN; (try rw [h1]); (try rw [h2]); (try rw [h3]); rfl)) (fun _ h => h)
      · -- no
        have g3 := h3
        try simp only [Bool.and_eq_true, Bool.or_eq_true, Bool.and_eq_false_iff, Bool.or_eq_false_iff, Bool.not_eq_true', Bool.not_eq_false', decide_eq_true_eq, decide_eq_false_iff_not, beq_iff_eq, beq_eq_false_iff_ne, bne_iff_ne, Int.toNat_natCast, ne_eq, ge_iff_le, gt_iff_lt] at g3
        exact WP.pathR tab_ok mixed [(1, An.fz), (5, An.b true), (9, An.call (T.bool true)), (14, An.call (T.bool false)), (20, An.call (T.bool (allB r.size (goodB r) && decide ((r.size : Int) ≤ (250 : Int)))))] _ (ps := [(True), (True), ((!(c.toList == (ByteArray.mk #[]).toList)) = true), (True), (C Tryd.prog 136 [T.str c, T.int .i64 160] (T.bool true)), (True), (C Tryd.prog 137 [T.str c, T.int .u8 64] (T.bool false)), (True), (C Tryd.prog 136 [T.str r, T.int .i64 250] (T.bool (allB r.size (goodB r) && decide ((r.size : Int) ≤ (250 : Int)))))]) (r := T.bool (allB r.size (goodB r) && decide ((r.size : Int) ≤ (250 : Int)))) (by kernel_rfl) ⟨trivial, trivial, h1, trivial, (C.toB h2 (by have hh := (l12Bytes_C c (160 : Int) (by first | omega | (simp only [List.length_take, List.length_drop, List.length_map, List.length_append]; omega))); first | exact hh | simpa using hh)), trivial, (C.toB h3 (by have hh := (l1Stands_C c (64 : Int) (by first | omega | (simp only [List.length_take, List.length_drop, List.length_map, List.length_append]; omega))); first | exact hh | simpa using hh)), trivial, (by have hh := (l12Bytes_C r (250 : Int) (by first | omega | (simp only [List.length_take, List.length_drop, List.length_map, List.length_append]; omega))); first | exact hh | simpa using hh), trivial⟩ (by first | rfl | (unfold l12RecordN; (try rw [h1]); (try rw [h2]); (try rw [h3]); rfl)) (fun _ h => h)
    · -- no
      have g2 := h2
      try simp only [Bool.and_eq_true, Bool.or_eq_true, Bool.and_eq_false_iff, Bool.or_eq_false_iff, Bool.not_eq_true', Bool.not_eq_false', decide_eq_true_eq, decide_eq_false_iff_not, beq_iff_eq, beq_eq_false_iff_ne, bne_iff_ne, Int.toNat_natCast, ne_eq, ge_iff_le, gt_iff_lt] at g2
      exact WP.pathR tab_ok mixed [(1, An.fz), (5, An.b true), (9, An.call (T.bool false))] _ (ps := [(True), (True), ((!(c.toList == (ByteArray.mk #[]).toList)) = true), (True), (C Tryd.prog 136 [T.str c, T.int .i64 160] (T.bool false))]) (r := T.bool false) (by kernel_rfl) ⟨trivial, trivial, h1, trivial, (C.toB h2 (by have hh := (l12Bytes_C c (160 : Int) (by first | omega | (simp only [List.length_take, List.length_drop, List.length_map, List.length_append]; omega))); first | exact hh | simpa using hh)), trivial⟩ (by first | rfl | (unfold l12RecordN; (try rw [h1]); (try rw [h2]); rfl)) (fun _ h => h)
  · -- no
    have g1 : c = (ByteArray.mk #[]) := bytes_neq h1
    exact WP.pathR tab_ok mixed [(1, An.fz), (5, An.b false)] _ (ps := [(True), (True), ((!(c.toList == (ByteArray.mk #[]).toList)) = false)]) (r := T.bool false) (by kernel_rfl) ⟨trivial, trivial, h1, trivial⟩ (by first | rfl | (unfold l12RecordN; (try rw [h1]); rfl)) (fun _ h => h)
theorem in_C (x : Int) (lo : Int) (hi : Int) : C Tryd.prog 83 [T.int .i64 x, T.int .i64 lo, T.int .i64 hi] (T.bool (decide (lo ≤ x) && decide (x ≤ hi))) := by
  refine C.intro (tab := tab) tab_ok (fn := Tryd.f83) Tryd.func83 (by kernel_rfl) rfl (Nat.le_of_ble_eq_true rfl) ?_
  rcases Bool.eq_false_or_eq_true (decide (lo ≤ x)) with h1 | h1
  · -- yes
    have g1 : lo ≤ x := of_decide_eq_true h1
    exact WP.pathR tab_ok mixed [(9, An.b true)] _ (ps := [(True), ((decide (lo ≤ x)) = true), (True)]) (r := T.bool (decide (x ≤ hi))) (by kernel_rfl) ⟨trivial, h1, trivial, trivial⟩ (by first | rfl | simp [*]) (fun _ h => h)
  · -- no
    have g1 : ¬ (lo ≤ x) := of_decide_eq_false h1
    exact WP.pathR tab_ok mixed [(9, An.b false)] _ (ps := [(True), ((decide (lo ≤ x)) = false)]) (r := T.bool false) (by kernel_rfl) ⟨trivial, h1, trivial⟩ (by first | rfl | simp [*]) (fun _ h => h)
theorem indexByteString_C (s : ByteArray) (c : Int) : C Tryd.prog 175 [T.str s, T.int .u8 c] (T.int .i64 (firstIdx s c.toNat.toUInt8)) :=
  C.indexByteString s c Tryd.func175 (by kernel_rfl) (by kernel_rfl) (by kernel_rfl) (by kernel_rfl)
theorem sliteIndexByte_C (s : ByteArray) (c : Int) : C Tryd.prog 165 [T.str s, T.int .u8 c] (T.int .i64 (firstIdx s c.toNat.toUInt8)) := by
  refine C.intro (tab := tab) tab_ok (fn := Tryd.f165) Tryd.func165 (by kernel_rfl) rfl (Nat.le_of_ble_eq_true rfl) ?_
  exact WP.pathR tab_ok mixed [(7, An.call (T.int .i64 (firstIdx s c.toNat.toUInt8)))] _ (ps := [(C Tryd.prog 175 [T.str s, T.int .u8 c] (T.int .i64 (firstIdx s c.toNat.toUInt8)))]) (r := T.int .i64 (firstIdx s c.toNat.toUInt8)) (by kernel_rfl) ⟨(indexByteString_C s c), trivial⟩ (by first | rfl | simp [*]) (fun _ h => h)
theorem stringsIndexByte_C (s : ByteArray) (c : Int) : C Tryd.prog 151 [T.str s, T.int .u8 c] (T.int .i64 (firstIdx s c.toNat.toUInt8)) := by
  refine C.intro (tab := tab) tab_ok (fn := Tryd.f151) Tryd.func151 (by kernel_rfl) rfl (Nat.le_of_ble_eq_true rfl) ?_
  exact WP.pathR tab_ok mixed [(7, An.call (T.int .i64 (firstIdx s c.toNat.toUInt8)))] _ (ps := [(C Tryd.prog 165 [T.str s, T.int .u8 c] (T.int .i64 (firstIdx s c.toNat.toUInt8)))]) (r := T.int .i64 (firstIdx s c.toNat.toUInt8)) (by kernel_rfl) ⟨(sliteIndexByte_C s c), trivial⟩ (by first | rfl | simp [*]) (fun _ h => h)
theorem isPlain_C (s : ByteArray) (t : ByteArray) (hs : s.size ≤ 9223372036854775807) : C Tryd.prog 101 [T.str s, T.str t] (T.bool (allB s.size (plainB s t))) := by
  refine C.intro (tab := tab) tab_ok (fn := Tryd.f101) Tryd.func101 (by kernel_rfl) rfl (Nat.le_of_ble_eq_true rfl) ?_
  refine WP.seq ?_
  refine WP.path tab_ok mixed [] [.keep [4, 0, 1], .keepO []] (ps := []) (e := .normal) (σ' := ⟨[], [(4, V.t (T.bool false)), (0, V.t (T.str s)), (1, V.t (T.str t))], []⟩) (by kernel_rfl) trivial ?_
  refine WP.seq ?_
  refine WP.seq ?_
  refine WP.path tab_ok mixed [] [.keep [8, 7, 4, 0, 1], .keepO []] (ps := []) (e := .normal) (σ' := ⟨[], [(8, V.t (T.int .i64 0)), (7, V.t (T.int .i64 ((ByteArray.size s : Nat) : Int))), (4, V.t (T.bool false)), (0, V.t (T.str s)), (1, V.t (T.str t))], []⟩) (by kernel_rfl) trivial ?_
  refine WP.block ?_
  refine WP.wk [.keep [8, 7, 4, 0, 1], .keepO [], .names []] (σ' := ⟨[], [(8, V.t (T.int .i64 ((0) : Int))), (7, V.t (T.int .i64 ((ByteArray.size s : Nat) : Int))), (4, V.t (T.bool false)), (0, V.t (T.str s)), (1, V.t (T.str t))], []⟩) (ps := []) (by kernel_rfl) trivial ?_
  refine WP.loop (α := Nat) (fun zz => ⟨[], [(8, V.t (T.int .i64 (zz : Int))), (7, V.t (T.int .i64 ((ByteArray.size s : Nat) : Int))), (4, V.t (T.bool false)), (0, V.t (T.str s)), (1, V.t (T.str t))], []⟩) (fun zz => zz ≤ s.size ∧ ∀ j, j < zz → plainB s t j = true) (fun zz => s.size - zz) 0 (⟨by omega, fun j h => by omega⟩) ?_
  intro i hinv0
  have hinv : i ≤ s.size ∧ ∀ j, j < i → plainB s t j = true := hinv0
  obtain ⟨hi, hall⟩ := hinv
  rcases Bool.eq_false_or_eq_true (decide ((i : Int) < ((ByteArray.size s : Nat) : Int))) with h1 | h1
  · -- yes
    have g1 : (i : Int) < ((ByteArray.size s : Nat) : Int) := of_decide_eq_true h1
    rcases Bool.eq_false_or_eq_true (decide ((byteAt s (Int.toNat (i : Int))) < (32 : Int))) with h2 | h2
    · -- yes
      have g2 : (byteAt s (Int.toNat (i : Int))) < (32 : Int) := of_decide_eq_true h2
      exact WP.pathR tab_ok mixed [(9, An.b true), (14, An.b true)] _ (ps := [(True), ((decide ((i : Int) < ((ByteArray.size s : Nat) : Int))) = true), ((0 ≤ (i : Int) ∧ (i : Int) < ((ByteArray.size s : Nat) : Int))), (True), ((decide ((byteAt s (Int.toNat (i : Int))) < (32 : Int))) = true)]) (r := T.bool false) (by kernel_rfl) ⟨trivial, h1, ⟨by omega, by omega⟩, trivial, h2, trivial⟩ (by rw [allB_false (n := s.size) (p := plainB s t) (i := i) (by omega) (by simp only [plainB, Bool.and_eq_true, Bool.or_eq_true, Bool.and_eq_false_iff, Bool.or_eq_false_iff, Bool.not_eq_true', Bool.not_eq_false', decide_eq_true_eq, decide_eq_false_iff_not, beq_iff_eq, beq_eq_false_iff_ne, bne_iff_ne, Int.toNat_natCast, ne_eq, ge_iff_le, gt_iff_lt]; (try simp only [Int.toNat_natCast] at *); omega)]) (fun _ h => h)
    · -- no
      have g2 : ¬ ((byteAt s (Int.toNat (i : Int))) < (32 : Int)) := of_decide_eq_false h2
      rcases Bool.eq_false_or_eq_true (decide ((byteAt s (Int.toNat (i : Int))) > (126 : Int))) with h3 | h3
      · -- yes
        have g3 : (byteAt s (Int.toNat (i : Int))) > (126 : Int) := of_decide_eq_true h3
        exact WP.pathR tab_ok mixed [(9, An.b true), (14, An.b false), (19, An.b true)] _ (ps := [(True), ((decide ((i : Int) < ((ByteArray.size s : Nat) : Int))) = true), ((0 ≤ (i : Int) ∧ (i : Int) < ((ByteArray.size s : Nat) : Int))), (True), ((decide ((byteAt s (Int.toNat (i : Int))) < (32 : Int))) = false), ((0 ≤ (i : Int) ∧ (i : Int) < ((ByteArray.size s : Nat) : Int))), (True), ((decide ((byteAt s (Int.toNat (i : Int))) > (126 : Int))) = true)]) (r := T.bool false) (by kernel_rfl) ⟨trivial, h1, ⟨by omega, by omega⟩, trivial, h2, ⟨by omega, by omega⟩, trivial, h3, trivial⟩ (by rw [allB_false (n := s.size) (p := plainB s t) (i := i) (by omega) (by simp only [plainB, Bool.and_eq_true, Bool.or_eq_true, Bool.and_eq_false_iff, Bool.or_eq_false_iff, Bool.not_eq_true', Bool.not_eq_false', decide_eq_true_eq, decide_eq_false_iff_not, beq_iff_eq, beq_eq_false_iff_ne, bne_iff_ne, Int.toNat_natCast, ne_eq, ge_iff_le, gt_iff_lt]; (try simp only [Int.toNat_natCast] at *); omega)]) (fun _ h => h)
      · -- no
        have g3 : ¬ ((byteAt s (Int.toNat (i : Int))) > (126 : Int)) := of_decide_eq_false h3
        rcases Bool.eq_false_or_eq_true (decide ((firstIdx t (byteAt s (Int.toNat (i : Int))).toNat.toUInt8) ≥ (0 : Int))) with h4 | h4
        · -- yes
          have g4 : (firstIdx t (byteAt s (Int.toNat (i : Int))).toNat.toUInt8) ≥ (0 : Int) := of_decide_eq_true h4
          exact WP.pathR tab_ok mixed [(9, An.b true), (14, An.b false), (19, An.b false), (26, An.call (T.int .i64 (firstIdx t (byteAt s (Int.toNat (i : Int))).toNat.toUInt8))), (27, An.b true)] _ (ps := [(True), ((decide ((i : Int) < ((ByteArray.size s : Nat) : Int))) = true), ((0 ≤ (i : Int) ∧ (i : Int) < ((ByteArray.size s : Nat) : Int))), (True), ((decide ((byteAt s (Int.toNat (i : Int))) < (32 : Int))) = false), ((0 ≤ (i : Int) ∧ (i : Int) < ((ByteArray.size s : Nat) : Int))), (True), ((decide ((byteAt s (Int.toNat (i : Int))) > (126 : Int))) = false), ((0 ≤ (i : Int) ∧ (i : Int) < ((ByteArray.size s : Nat) : Int))), (C Tryd.prog 151 [T.str t, T.int .u8 (byteAt s (Int.toNat (i : Int)))] (T.int .i64 (firstIdx t (byteAt s (Int.toNat (i : Int))).toNat.toUInt8))), (True), ((decide ((firstIdx t (byteAt s (Int.toNat (i : Int))).toNat.toUInt8) ≥ (0 : Int))) = true)]) (r := T.bool false) (by kernel_rfl) ⟨trivial, h1, ⟨by omega, by omega⟩, trivial, h2, ⟨by omega, by omega⟩, trivial, h3, ⟨by omega, by omega⟩, (stringsIndexByte_C t (byteAt s (Int.toNat (i : Int)))), trivial, h4, trivial⟩ (by rw [allB_false (n := s.size) (p := plainB s t) (i := i) (by omega) (by simp only [plainB, Bool.and_eq_true, Bool.or_eq_true, Bool.and_eq_false_iff, Bool.or_eq_false_iff, Bool.not_eq_true', Bool.not_eq_false', decide_eq_true_eq, decide_eq_false_iff_not, beq_iff_eq, beq_eq_false_iff_ne, bne_iff_ne, Int.toNat_natCast, ne_eq, ge_iff_le, gt_iff_lt]; (try simp only [Int.toNat_natCast] at *); omega)]) (fun _ h => h)
        · -- no
          have g4 : ¬ ((firstIdx t (byteAt s (Int.toNat (i : Int))).toNat.toUInt8) ≥ (0 : Int)) := of_decide_eq_false h4
          refine WP.path tab_ok mixed [(9, An.b true), (14, An.b false), (19, An.b false), (26, An.call (T.int .i64 (firstIdx t (byteAt s (Int.toNat (i : Int))).toNat.toUInt8))), (27, An.b false), (29, An.v (T.int .i64 (((i + 1 : Nat) : Int))))] [.keep [8, 7, 4, 0, 1], .keepO [], .names []] (ps := [(True), ((decide ((i : Int) < ((ByteArray.size s : Nat) : Int))) = true), ((0 ≤ (i : Int) ∧ (i : Int) < ((ByteArray.size s : Nat) : Int))), (True), ((decide ((byteAt s (Int.toNat (i : Int))) < (32 : Int))) = false), ((0 ≤ (i : Int) ∧ (i : Int) < ((ByteArray.size s : Nat) : Int))), (True), ((decide ((byteAt s (Int.toNat (i : Int))) > (126 : Int))) = false), ((0 ≤ (i : Int) ∧ (i : Int) < ((ByteArray.size s : Nat) : Int))), (C Tryd.prog 151 [T.str t, T.int .u8 (byteAt s (Int.toNat (i : Int)))] (T.int .i64 (firstIdx t (byteAt s (Int.toNat (i : Int))).toNat.toUInt8))), (True), ((decide ((firstIdx t (byteAt s (Int.toNat (i : Int))).toNat.toUInt8) ≥ (0 : Int))) = false), (True), (T.int .i64 (IntKind.wrap .i64 ((i : Int) + (1 : Int))) = T.int .i64 (((i + 1 : Nat) : Int)))]) (e := .normal) (σ' := ⟨[], [(8, V.t (T.int .i64 ((i + 1) : Int))), (7, V.t (T.int .i64 ((ByteArray.size s : Nat) : Int))), (4, V.t (T.bool false)), (0, V.t (T.str s)), (1, V.t (T.str t))], []⟩) (by kernel_rfl) ⟨trivial, h1, ⟨by omega, by omega⟩, trivial, h2, ⟨by omega, by omega⟩, trivial, h3, ⟨by omega, by omega⟩, (stringsIndexByte_C t (byteAt s (Int.toNat (i : Int)))), trivial, h4, trivial, wrapT_i64 (by omega) (by omega), trivial⟩ ?_
          exact ⟨i + 1, ⟨by omega, all_step hall (by simp only [plainB, Bool.and_eq_true, Bool.or_eq_true, Bool.and_eq_false_iff, Bool.or_eq_false_iff, Bool.not_eq_true', Bool.not_eq_false', decide_eq_true_eq, decide_eq_false_iff_not, beq_iff_eq, beq_eq_false_iff_ne, bne_iff_ne, Int.toNat_natCast, ne_eq, ge_iff_le, gt_iff_lt]; (try simp only [Int.toNat_natCast] at *); omega)⟩, by first | omega | (dsimp only; omega), rfl⟩
  · -- no
    have g1 : ¬ ((i : Int) < ((ByteArray.size s : Nat) : Int)) := of_decide_eq_false h1
    refine WP.path tab_ok mixed [(9, An.b false)] [.keep [4], .keepO []] (ps := [(True), ((decide ((i : Int) < ((ByteArray.size s : Nat) : Int))) = false)]) (e := (.exit 0)) (σ' := ⟨[], [(4, V.t (T.bool false))], []⟩) (by kernel_rfl) ⟨trivial, h1, trivial⟩ ?_
    exact WP.pathR tab_ok mixed [] _ (ps := []) (r := T.bool true) (by kernel_rfl) trivial (by rw [allB_true hall (by omega)]) (fun _ h => h)
theorem isCommand_C (s : ByteArray) (hs : s.size ≤ 9223372036854775807) : C Tryd.prog 100 [T.str s] (T.bool (decide (1 ≤ (s.size : Int)) && decide ((s.size : Int) ≤ 160) && allB s.size (plainB s (ByteArray.mk #[35, 64])))) := by
  refine C.intro (tab := tab) tab_ok (fn := Tryd.f100) Tryd.func100 (by kernel_rfl) rfl (Nat.le_of_ble_eq_true rfl) ?_
  rcases Bool.eq_false_or_eq_true (decide ((1 : Int) ≤ ((ByteArray.size s : Nat) : Int)) && decide (((ByteArray.size s : Nat) : Int) ≤ (160 : Int))) with h1 | h1
  · -- yes
    have g1 := h1
    try simp only [Bool.and_eq_true, Bool.or_eq_true, Bool.and_eq_false_iff, Bool.or_eq_false_iff, Bool.not_eq_true', Bool.not_eq_false', decide_eq_true_eq, decide_eq_false_iff_not, beq_iff_eq, beq_eq_false_iff_ne, bne_iff_ne, Int.toNat_natCast, ne_eq, ge_iff_le, gt_iff_lt] at g1
    exact WP.pathR tab_ok mixed [(5, An.call (T.bool true)), (8, An.call (T.bool (allB s.size (plainB s (ByteArray.mk #[35, 64])))))] _ (ps := [(C Tryd.prog 83 [T.int .i64 ((ByteArray.size s : Nat) : Int), T.int .i64 1, T.int .i64 160] (T.bool true)), (C Tryd.prog 101 [T.str s, T.str (ByteArray.mk #[35, 64])] (T.bool (allB s.size (plainB s (ByteArray.mk #[35, 64])))))]) (r := T.bool (allB s.size (plainB s (ByteArray.mk #[35, 64])))) (by kernel_rfl) ⟨(C.toB h1 (by have hh := (in_C ((ByteArray.size s : Nat) : Int) (1 : Int) (160 : Int)); first | exact hh | simpa using hh)), (isPlain_C s (ByteArray.mk #[35, 64]) (by first | omega | (simp only [List.length_take, List.length_drop, List.length_map, List.length_append]; omega))), trivial⟩ (by first | rfl | simp [*]) (fun _ h => h)
  · -- no
    have g1 := h1
    try simp only [Bool.and_eq_true, Bool.or_eq_true, Bool.and_eq_false_iff, Bool.or_eq_false_iff, Bool.not_eq_true', Bool.not_eq_false', decide_eq_true_eq, decide_eq_false_iff_not, beq_iff_eq, beq_eq_false_iff_ne, bne_iff_ne, Int.toNat_natCast, ne_eq, ge_iff_le, gt_iff_lt] at g1
    exact WP.pathR tab_ok mixed [(5, An.call (T.bool false))] _ (ps := [(C Tryd.prog 83 [T.int .i64 ((ByteArray.size s : Nat) : Int), T.int .i64 1, T.int .i64 160] (T.bool false))]) (r := T.bool false) (by kernel_rfl) ⟨(C.toB h1 (by have hh := (in_C ((ByteArray.size s : Nat) : Int) (1 : Int) (160 : Int)); first | exact hh | simpa using hh)), trivial⟩ (by first | rfl | simp [*]) (fun _ h => h)
theorem iIsValidRecord_C (c : ByteArray) (r : ByteArray) (hc : c.size ≤ 9223372036854775807) (hr : r.size ≤ 9223372036854775807) : C Tryd.prog 46 [T.agg [T.str c, T.str r]] (T.bool (isValidRecordN c r)) := by
  refine C.intro (tab := tab) tab_ok (fn := Tryd.f46) Tryd.func46 (by kernel_rfl) rfl (Nat.le_of_ble_eq_true rfl) ?_
  rcases Bool.eq_false_or_eq_true (decide (1 ≤ (c.size : Int)) && decide ((c.size : Int) ≤ 160) && allB c.size (plainB c (ByteArray.mk #[35, 64]))) with h1 | h1
  · -- yes
    have g1 := h1
    try simp only [Bool.and_eq_true, Bool.or_eq_true, Bool.and_eq_false_iff, Bool.or_eq_false_iff, Bool.not_eq_true', Bool.not_eq_false', decide_eq_true_eq, decide_eq_false_iff_not, beq_iff_eq, beq_eq_false_iff_ne, bne_iff_ne, Int.toNat_natCast, ne_eq, ge_iff_le, gt_iff_lt] at g1
    rcases Bool.eq_false_or_eq_true (decide (((ByteArray.size r : Nat) : Int) ≤ (250 : Int))) with h2 | h2
    · -- yes
      have g2 : ((ByteArray.size r : Nat) : Int) ≤ (250 : Int) := of_decide_eq_true h2
      exact WP.pathR tab_ok mixed [(1, An.fz), (5, An.call (T.bool true)), (10, An.b true), (15, An.call (T.bool (allB r.size (plainB r (ByteArray.mk #[35])))))] _ (ps := [(True), (C Tryd.prog 100 [T.str c] (T.bool true)), (True), (True), ((decide (((ByteArray.size r : Nat) : Int) ≤ (250 : Int))) = true), (True), (C Tryd.prog 101 [T.str r, T.str (ByteArray.mk #[35])] (T.bool (allB r.size (plainB r (ByteArray.mk #[35])))))]) (r := T.bool (allB r.size (plainB r (ByteArray.mk #[35])))) (by kernel_rfl) ⟨trivial, (C.toB h1 (isCommand_C c (by first | omega | (simp only [List.length_take, List.length_drop, List.length_map, List.length_append]; omega)))), trivial, trivial, h2, trivial, (isPlain_C r (ByteArray.mk #[35]) (by first | omega | (simp only [List.length_take, List.length_drop, List.length_map, List.length_append]; omega))), trivial⟩ (by first | rfl | (unfold isValidRecordN; (try rw [h1]); (try rw [h2]); rfl)) (fun _ h => h)
    · -- no
      have g2 : ¬ (((ByteArray.size r : Nat) : Int) ≤ (250 : Int)) := of_decide_eq_false h2
      exact WP.pathR tab_ok mixed [(1, An.fz), (5, An.call (T.bool true)), (10, An.b false)] _ (ps := [(True), (C Tryd.prog 100 [T.str c] (T.bool true)), (True), (True), ((decide (((ByteArray.size r : Nat) : Int) ≤ (250 : Int))) = false)]) (r := T.bool false) (by kernel_rfl) ⟨trivial, (C.toB h1 (isCommand_C c (by first | omega | (simp only [List.length_take, List.length_drop, List.length_map, List.length_append]; omega)))), trivial, trivial, h2, trivial⟩ (by first | rfl | (unfold isValidRecordN; (try rw [h1]); (try rw [h2]); rfl)) (fun _ h => h)
  · -- no
    have g1 := h1
    try simp only [Bool.and_eq_true, Bool.or_eq_true, Bool.and_eq_false_iff, Bool.or_eq_false_iff, Bool.not_eq_true', Bool.not_eq_false', decide_eq_true_eq, decide_eq_false_iff_not, beq_iff_eq, beq_eq_false_iff_ne, bne_iff_ne, Int.toNat_natCast, ne_eq, ge_iff_le, gt_iff_lt] at g1
    exact WP.pathR tab_ok mixed [(1, An.fz), (5, An.call (T.bool false))] _ (ps := [(True), (C Tryd.prog 100 [T.str c] (T.bool false))]) (r := T.bool false) (by kernel_rfl) ⟨trivial, (C.toB h1 (isCommand_C c (by first | omega | (simp only [List.length_take, List.length_drop, List.length_map, List.length_append]; omega)))), trivial⟩ (by first | rfl | (unfold isValidRecordN; (try rw [h1]); rfl)) (fun _ h => h)
def lays171_ren : Shelf.Ren := ⟨fun | 171 => 85 | 243 => 142 | 246 => 163 | 283 => 170 | 284 => 171 | 285 => 172 | 286 => 173 | 129 => 180 | 317 => 179 | 318 => 181 | 319 => 182 | 320 => 183 | 337 => 185 | 338 => 186 | n => n, fun | 3 => 3 | 9 => 9 | 2 => 2 | 4 => 4 | 171 => 180 | 0 => 0 | 53 => 125 | 37 => 65 | 5 => 5 | 173 => 183 | 212 => 186 | 51 => 187 | 20 => 20 | 213 => 188 | 46 => 178 | 232 => 193 | 233 => 194 | n => n, fun | 17 => 1 | 18 => 2 | 19 => 3 | n => n⟩
theorem lays171 : Go.Proofs.LaysM.n171 Tryd.prog lays171_ren := {
  mixed := by kernel_rfl
  f129 := Tryd.func180.trans (congrArg some (by kernel_rfl))
  f171 := Tryd.func85.trans (congrArg some (by kernel_rfl))
  f243 := Tryd.func142.trans (congrArg some (by kernel_rfl))
  f246 := Tryd.func163.trans (congrArg some (by kernel_rfl))
  f283 := Tryd.func170.trans (congrArg some (by kernel_rfl))
  f284 := Tryd.func171.trans (congrArg some (by kernel_rfl))
  f285 := Tryd.func172.trans (congrArg some (by kernel_rfl))
  f286 := Tryd.func173.trans (congrArg some (by kernel_rfl))
  f317 := Tryd.func179.trans (congrArg some (by kernel_rfl))
  f318 := Tryd.func181.trans (congrArg some (by kernel_rfl))
  f319 := Tryd.func182.trans (congrArg some (by kernel_rfl))
  f320 := Tryd.func183.trans (congrArg some (by kernel_rfl))
  f337 := Tryd.func185.trans (congrArg some (by kernel_rfl))
  f338 := Tryd.func186.trans (congrArg some (by kernel_rfl))
  t0 := Tryd.underlying0
  a0 := Tryd.isAgg0
  z0 := Tryd.sizeOf0
  v0 := Tryd.zeroValue0
  t2 := Tryd.underlying2
  a2 := Tryd.isAgg2
  z2 := Tryd.sizeOf2
  v2 := Tryd.zeroValue2
  t3 := Tryd.underlying3
  a3 := Tryd.isAgg3
  z3 := Tryd.sizeOf3
  v3 := Tryd.zeroValue3
  t4 := Tryd.underlying4
  a4 := Tryd.isAgg4
  z4 := Tryd.sizeOf4
  v4 := Tryd.zeroValue4
  t5 := Tryd.underlying5
  a5 := Tryd.isAgg5
  z5 := Tryd.sizeOf5
  v5 := Tryd.zeroValue5
  t9 := Tryd.underlying9
  a9 := Tryd.isAgg9
  z9 := Tryd.sizeOf9
  v9 := Tryd.zeroValue9
  t20 := Tryd.underlying20
  a20 := Tryd.isAgg20
  z20 := Tryd.sizeOf20
  v20 := Tryd.zeroValue20
  t37 := Tryd.underlying65
  a37 := Tryd.isAgg65
  z37 := Tryd.sizeOf65
  v37 := Tryd.zeroValue65
  t46 := Tryd.underlying178
  a46 := Tryd.isAgg178
  z46 := Tryd.sizeOf178
  v46 := Tryd.zeroValue178
  t51 := Tryd.underlying187
  a51 := Tryd.isAgg187
  z51 := Tryd.sizeOf187
  v51 := Tryd.zeroValue187
  t53 := Tryd.underlying125
  a53 := Tryd.isAgg125
  z53 := Tryd.sizeOf125
  v53 := Tryd.zeroValue125
  t171 := Tryd.underlying180
  a171 := Tryd.isAgg180
  z171 := Tryd.sizeOf180
  v171 := Tryd.zeroValue180
  t173 := Tryd.underlying183
  a173 := Tryd.isAgg183
  z173 := Tryd.sizeOf183
  v173 := Tryd.zeroValue183
  t212 := Tryd.underlying186
  a212 := Tryd.isAgg186
  z212 := Tryd.sizeOf186
  v212 := Tryd.zeroValue186
  t213 := Tryd.underlying188
  a213 := Tryd.isAgg188
  z213 := Tryd.sizeOf188
  t232 := Tryd.underlying193
  a232 := Tryd.isAgg193
  z232 := Tryd.sizeOf193
  v232 := Tryd.zeroValue193
  t233 := Tryd.underlying194
  a233 := Tryd.isAgg194
  z233 := Tryd.sizeOf194
  v233 := Tryd.zeroValue194
  g17 := by kernel_rfl
  g18 := by kernel_rfl
  g19 := by kernel_rfl
  i0 := by kernel_rfl
  i2 := by kernel_rfl
  i3 := by kernel_rfl
  i4 := by kernel_rfl
  i5 := by kernel_rfl
  i9 := by kernel_rfl
  i20 := by kernel_rfl
  i37 := by kernel_rfl
  i46 := by kernel_rfl
  i51 := by kernel_rfl
  i53 := by kernel_rfl
  i171 := by kernel_rfl
  i173 := by kernel_rfl
  i212 := by kernel_rfl
  i232 := by kernel_rfl
  i233 := by kernel_rfl
  m17 := by kernel_rfl
  m18 := by kernel_rfl
  m19 := by kernel_rfl }
theorem itoa_C (n : Int) (h0 : (-9223372036854775808 ≤ n ∧ n ≤ 9223372036854775807)) : C Tryd.prog 85 [T.int .i64 n] (T.str (itoaB n)) :=
  C.itoa lays171 (enters_of Tryd.func85 (by kernel_rfl) rfl) (by simp [laidB, lays171_ren]) n h0.1 h0.2

theorem sliteIndex1c_C (s : ByteArray) (c : UInt8) : C Tryd.prog 169 [T.str s, T.str (ByteArray.mk #[c])] (T.int .i64 (firstIdx s c)) := by
  refine C.intro (tab := tab) tab_ok (fn := Tryd.f169) Tryd.func169 (by kernel_rfl) rfl (Nat.le_of_ble_eq_true rfl) ?_
  refine WP.seq ?_
  refine WP.path tab_ok mixed [] [.keep [4, 0, 1], .keepO []] (ps := []) (e := .normal) (σ' := ⟨[], [(4, V.t (T.int .i64 0)), (0, V.t (T.str s)), (1, V.t (T.str (ByteArray.mk #[c])))], []⟩) (by kernel_rfl) trivial ?_
  refine WP.seq ?_
  refine WP.path tab_ok mixed [] [.keep [5, 4, 0, 1], .keepO []] (ps := []) (e := .normal) (σ' := ⟨[], [(5, V.t (T.int .i64 1)), (4, V.t (T.int .i64 0)), (0, V.t (T.str s)), (1, V.t (T.str (ByteArray.mk #[c])))], []⟩) (by kernel_rfl) trivial ?_
  refine WP.seq ?_
  rcases Bool.eq_false_or_eq_true ((ByteArray.mk #[c]).toList == s.toList) with h1 | h1
  · -- yes
    have g1 : (ByteArray.mk #[c]) = s := bytes_eq h1
    exact WP.pathR tab_ok mixed [(22, An.b true)] _ (ps := [(True), (True), (((ByteArray.mk #[c]).toList == s.toList) = true)]) (r := T.int .i64 0) (by kernel_rfl) ⟨trivial, trivial, h1, trivial⟩ (by first | rw [byte_one] | (subst_vars; rw [firstIdx_self])) (fun _ h => h)
  · -- no
    have g1 : ¬ ((ByteArray.mk #[c]) = s) := bytes_ne h1
    exact WP.pathR tab_ok mixed [(22, An.b false), (30, An.call (T.int .i64 (firstIdx s (byteAt (ByteArray.mk #[c]) 0).toNat.toUInt8)))] _ (ps := [(True), (True), (((ByteArray.mk #[c]).toList == s.toList) = false), (True), ((0 ≤ (0 : Int) ∧ (0 : Int) < ((ByteArray.size (ByteArray.mk #[c]) : Nat) : Int))), (C Tryd.prog 165 [T.str s, T.int .u8 (byteAt (ByteArray.mk #[c]) 0)] (T.int .i64 (firstIdx s (byteAt (ByteArray.mk #[c]) 0).toNat.toUInt8)))]) (r := T.int .i64 (firstIdx s (byteAt (ByteArray.mk #[c]) 0).toNat.toUInt8)) (by kernel_rfl) ⟨trivial, trivial, h1, trivial, ⟨by decide, Int.zero_lt_one⟩, (sliteIndexByte_C s (byteAt (ByteArray.mk #[c]) 0)), trivial⟩ (by first | rw [byte_one] | (subst_vars; rw [firstIdx_self])) (fun _ h => h)
theorem sliteIndex1_C (s t : ByteArray) (h1 : ByteArray.size t = 1) : C Tryd.prog 169 [T.str s, T.str t] (T.int .i64 (firstIdx s (hd1 t))) := by
  obtain ⟨c, rfl⟩ := size_one h1
  exact sliteIndex1c_C s c

theorem vBig_C (bs : List Int) (hbl : bs.length ≤ 9223372036854775807) : C Tryd.prog 40 [T.list (List.length bs) 1 (List.map (T.int .u8) bs)] (T.bool (decide (((List.length bs : Nat) : Int) > (65536 : Int)))) := by
  refine C.intro (tab := tab) tab_ok (fn := Tryd.f40) Tryd.func40 (by kernel_rfl) rfl (Nat.le_of_ble_eq_true rfl) ?_
  exact WP.pathR tab_ok mixed [] _ (ps := [(True)]) (r := T.bool (decide (((List.length bs : Nat) : Int) > (65536 : Int)))) (by kernel_rfl) ⟨trivial, trivial⟩ (by first | rfl | simp [*]) (fun _ h => h)
theorem vCut_C (bs : List Int) (k : Int) (h0 : 0 ≤ k) (h1 : k ≤ 255) (hbl : bs.length ≤ 1048576) : C Tryd.prog 43 [T.list (List.length bs) 1 (List.map (T.int .u8) bs), T.int .i64 k] (T.list (List.length (cutY bs k)) 1 (List.map (T.int .u8) (cutY bs k))) := by
  refine C.intro (tab := tab) tab_ok (fn := Tryd.f43) Tryd.func43 (by kernel_rfl) rfl (Nat.le_of_ble_eq_true rfl) ?_
  rcases Bool.eq_false_or_eq_true (decide (k > ((List.length bs : Nat) : Int))) with h1 | h1
  · -- yes
    have g1 : k > ((List.length bs : Nat) : Int) := of_decide_eq_true h1
    exact WP.pathR tab_ok mixed [(8, An.b true), (11, An.id 2011), (15, An.id 2015), (17, An.v (T.int .u8 ((List.length bs : Nat) : Int))), (18, An.fz), (19, An.id 2019)] _ (ps := [(True), ((decide (k > ((List.length bs : Nat) : Int))) = true), (True), (0 = 0 * 1), ((0 ≤ ((List.length bs : Nat) : Int) ∧ ((List.length bs : Nat) : Int) ≤ ((List.length bs : Nat) : Int) ∧ ((List.length bs : Nat) : Int) ≤ ((List.length bs : Nat) : Int))), (True), (0 = 0 * 1), (((0 + ((Int.toNat ((List.length bs : Nat) : Int)) - (Int.toNat ((List.length bs : Nat) : Int)))) * 1 ≤ 140737488355328 ∧ 0 + ((Int.toNat ((List.length bs : Nat) : Int)) - (Int.toNat ((List.length bs : Nat) : Int))) ≤ maxLen)), (T.int .u8 (IntKind.wrap .u8 ((List.length bs : Nat) : Int)) = T.int .u8 ((List.length bs : Nat) : Int)), ((1 = 1 ∧ 0 + 1 ≤ 1) ∧ True), (1 = 1 * 1), (True), (List.length (List.take (((Int.toNat ((List.length bs : Nat) : Int)) - (Int.toNat ((List.length bs : Nat) : Int))) * 1) (List.drop ((Int.toNat ((List.length bs : Nat) : Int)) * 1) (List.map (T.int .u8) bs))) = (0 + ((Int.toNat ((List.length bs : Nat) : Int)) - (Int.toNat ((List.length bs : Nat) : Int)))) * 1), ((((0 + ((Int.toNat ((List.length bs : Nat) : Int)) - (Int.toNat ((List.length bs : Nat) : Int)))) + 1) * 1 ≤ 140737488355328 ∧ (0 + ((Int.toNat ((List.length bs : Nat) : Int)) - (Int.toNat ((List.length bs : Nat) : Int)))) + 1 ≤ maxLen)), (List.length ((List.take (((Int.toNat ((List.length bs : Nat) : Int)) - (Int.toNat ((List.length bs : Nat) : Int))) * 1) (List.drop ((Int.toNat ((List.length bs : Nat) : Int)) * 1) (List.map (T.int .u8) bs))) ++ [T.int .u8 ((List.length bs : Nat) : Int)]) = ((0 + ((Int.toNat ((List.length bs : Nat) : Int)) - (Int.toNat ((List.length bs : Nat) : Int)))) + 1) * 1)]) (r := T.list ((0 + ((Int.toNat ((List.length bs : Nat) : Int)) - (Int.toNat ((List.length bs : Nat) : Int)))) + 1) 1 ((List.take (((Int.toNat ((List.length bs : Nat) : Int)) - (Int.toNat ((List.length bs : Nat) : Int))) * 1) (List.drop ((Int.toNat ((List.length bs : Nat) : Int)) * 1) (List.map (T.int .u8) bs))) ++ [T.int .u8 ((List.length bs : Nat) : Int)])) (by kernel_rfl) ⟨trivial, h1, trivial, by first | rfl | simp, ⟨by omega, by omega, by omega⟩, trivial, by first | rfl | omega | (simp <;> omega) | (simp [hl] <;> omega), ⟨by first | omega | (simp only [List.length_take, List.length_drop, List.length_map, List.length_append]; omega), by simp only [maxLen]; first | omega | (simp only [List.length_take, List.length_drop, List.length_map, List.length_append]; omega)⟩, wrapT_u8 (by omega) (by omega), ⟨⟨by first | rfl | (simp; done) | (simp [hl]; done) | omega, by first | decide | (simp; done) | (simp [hl]; done) | omega | (simp; omega)⟩, trivial⟩, by first | rfl | simp, trivial, by first | rfl | omega | (simp <;> omega) | (simp [hl] <;> omega), ⟨by first | omega | (simp only [List.length_take, List.length_drop, List.length_map, List.length_append]; omega), by simp only [maxLen]; first | omega | (simp only [List.length_take, List.length_drop, List.length_map, List.length_append]; omega)⟩, by first | rfl | omega | (simp <;> omega) | (simp [hl] <;> omega), trivial⟩ (by rw [cut_over h1]; exact cut_at) (fun _ h => h)
  · -- no
    have g1 : ¬ (k > ((List.length bs : Nat) : Int)) := of_decide_eq_false h1
    exact WP.pathR tab_ok mixed [(8, An.b false), (11, An.id 2011), (15, An.id 2015), (17, An.v (T.int .u8 k)), (18, An.fz), (19, An.id 2019)] _ (ps := [(True), ((decide (k > ((List.length bs : Nat) : Int))) = false), (True), (0 = 0 * 1), ((0 ≤ k ∧ k ≤ ((List.length bs : Nat) : Int) ∧ ((List.length bs : Nat) : Int) ≤ ((List.length bs : Nat) : Int))), (True), (0 = 0 * 1), (((0 + ((Int.toNat ((List.length bs : Nat) : Int)) - (Int.toNat k))) * 1 ≤ 140737488355328 ∧ 0 + ((Int.toNat ((List.length bs : Nat) : Int)) - (Int.toNat k)) ≤ maxLen)), (T.int .u8 (IntKind.wrap .u8 k) = T.int .u8 k), ((1 = 1 ∧ 0 + 1 ≤ 1) ∧ True), (1 = 1 * 1), (True), (List.length (List.take (((Int.toNat ((List.length bs : Nat) : Int)) - (Int.toNat k)) * 1) (List.drop ((Int.toNat k) * 1) (List.map (T.int .u8) bs))) = (0 + ((Int.toNat ((List.length bs : Nat) : Int)) - (Int.toNat k))) * 1), ((((0 + ((Int.toNat ((List.length bs : Nat) : Int)) - (Int.toNat k))) + 1) * 1 ≤ 140737488355328 ∧ (0 + ((Int.toNat ((List.length bs : Nat) : Int)) - (Int.toNat k))) + 1 ≤ maxLen)), (List.length ((List.take (((Int.toNat ((List.length bs : Nat) : Int)) - (Int.toNat k)) * 1) (List.drop ((Int.toNat k) * 1) (List.map (T.int .u8) bs))) ++ [T.int .u8 k]) = ((0 + ((Int.toNat ((List.length bs : Nat) : Int)) - (Int.toNat k))) + 1) * 1)]) (r := T.list ((0 + ((Int.toNat ((List.length bs : Nat) : Int)) - (Int.toNat k))) + 1) 1 ((List.take (((Int.toNat ((List.length bs : Nat) : Int)) - (Int.toNat k)) * 1) (List.drop ((Int.toNat k) * 1) (List.map (T.int .u8) bs))) ++ [T.int .u8 k])) (by kernel_rfl) ⟨trivial, h1, trivial, by first | rfl | simp, ⟨by omega, by omega, by omega⟩, trivial, by first | rfl | omega | (simp <;> omega) | (simp [hl] <;> omega), ⟨by first | omega | (simp only [List.length_take, List.length_drop, List.length_map, List.length_append]; omega), by simp only [maxLen]; first | omega | (simp only [List.length_take, List.length_drop, List.length_map, List.length_append]; omega)⟩, wrapT_u8 (by omega) (by omega), ⟨⟨by first | rfl | (simp; done) | (simp [hl]; done) | omega, by first | decide | (simp; done) | (simp [hl]; done) | omega | (simp; omega)⟩, trivial⟩, by first | rfl | simp, trivial, by first | rfl | omega | (simp <;> omega) | (simp [hl] <;> omega), ⟨by first | omega | (simp only [List.length_take, List.length_drop, List.length_map, List.length_append]; omega), by simp only [maxLen]; first | omega | (simp only [List.length_take, List.length_drop, List.length_map, List.length_append]; omega)⟩, by first | rfl | omega | (simp <;> omega) | (simp [hl] <;> omega), trivial⟩ (by rw [cut_in h1]; exact cut_at) (fun _ h => h)
end Go.Proofs.YtfhmgiipcmmnlaaDoor.AuCraO
