/-
  The walks: each function of the program that the claim reaches returns what is told of it here. No statement is proved here.
-/
import Derived.Test.YtofiecpgfjofdaaTlV
import Derived.Test.YtofiecpgfjofdaaTlCI
import Derived.Test.YtofiecpgfjofdaaTlRooms
import Derived.Test.YtofiecpgfjofdaaProg
namespace Go.Proofs.Ytofiecpgfjofdaa.AuAxO
open Go Go.Tl Go.Proofs
set_option linter.unusedVariables false
set_option linter.unusedSimpArgs false
set_option maxRecDepth 100000
def tab : Tab := [(3, ⟨.int .i64, 1, 8, [.int .i64 0]⟩), (4, ⟨.bool, 1, 1, [.bool false]⟩), (5, ⟨.int .u8, 1, 1, [.int .u8 0]⟩), (26, ⟨.slice 3 1 8, 1, 24, [.nils]⟩), (40, ⟨.slice 5 1 1, 1, 24, [.nils]⟩), (49, ⟨.array 2 3 1 false, 2, 16, [.int .i64 0, .int .i64 0]⟩), (65, ⟨.slice 85 2 16, 1, 24, [.nils]⟩), (85, ⟨.struct [(0, 1, false), (1, 1, false)], 2, 16, [.int .i64 0, .bool false]⟩), (113, ⟨.struct [(0, 1, false), (1, 1, false)], 2, 16, [.int .i64 0, .int .i64 0]⟩), (116, ⟨.slice 49 2 16, 1, 24, [.nils]⟩), (148, ⟨.pointer 151, 1, 8, [.nilp]⟩), (149, ⟨.int .u64, 1, 8, [.int .u64 0]⟩), (151, ⟨.struct [(0, 1, false), (1, 1, false), (2, 1, false)], 3, 40, [.nils, .int .i64 0, .int .u64 0]⟩), (213, ⟨.func, 1, 8, [.nilf]⟩)]
theorem tab_ok : chkTab Try.prog tab = true := by kernel_rfl
theorem mixed : Try.prog.follows .mixedOrders = true := by kernel_rfl
theorem vBig_C (bs : List Int) (hbl : bs.length ≤ 9223372036854775807) : C Try.prog 20 [T.list (List.length bs) 1 (List.map (T.int .u8) bs)] (T.bool (decide (((List.length bs : Nat) : Int) > (65536 : Int)))) := by
  refine C.intro (tab := tab) tab_ok (fn := Try.f20) Try.func20 (by kernel_rfl) rfl (Nat.le_of_ble_eq_true rfl) ?_
  exact WP.pathR tab_ok mixed [] _ (ps := [(True)]) (r := T.bool (decide (((List.length bs : Nat) : Int) > (65536 : Int)))) (by kernel_rfl) ⟨trivial, trivial⟩ (by first | rfl | simp [*]) (fun _ h => h)
theorem vCut_C (bs : List Int) (k : Int) (h0 : 0 ≤ k) (h1 : k ≤ 255) (hbl : bs.length ≤ 1048576) : C Try.prog 27 [T.list (List.length bs) 1 (List.map (T.int .u8) bs), T.int .i64 k] (T.list (List.length (cutY bs k)) 1 (List.map (T.int .u8) (cutY bs k))) := by
  refine C.intro (tab := tab) tab_ok (fn := Try.f27) Try.func27 (by kernel_rfl) rfl (Nat.le_of_ble_eq_true rfl) ?_
  rcases Bool.eq_false_or_eq_true (decide (k > ((List.length bs : Nat) : Int))) with h1 | h1
  · -- yes
    have g1 : k > ((List.length bs : Nat) : Int) := of_decide_eq_true h1
    exact WP.pathR tab_ok mixed [(8, An.b true), (11, An.id 2011), (15, An.id 2015), (17, An.v (T.int .u8 ((List.length bs : Nat) : Int))), (18, An.fz), (19, An.id 2019)] _ (ps := [(True), ((decide (k > ((List.length bs : Nat) : Int))) = true), (True), (0 = 0 * 1), ((0 ≤ ((List.length bs : Nat) : Int) ∧ ((List.length bs : Nat) : Int) ≤ ((List.length bs : Nat) : Int) ∧ ((List.length bs : Nat) : Int) ≤ ((List.length bs : Nat) : Int))), (True), (0 = 0 * 1), (((0 + ((Int.toNat ((List.length bs : Nat) : Int)) - (Int.toNat ((List.length bs : Nat) : Int)))) * 1 ≤ 140737488355328 ∧ 0 + ((Int.toNat ((List.length bs : Nat) : Int)) - (Int.toNat ((List.length bs : Nat) : Int))) ≤ maxLen)), (T.int .u8 (IntKind.wrap .u8 ((List.length bs : Nat) : Int)) = T.int .u8 ((List.length bs : Nat) : Int)), ((1 = 1 ∧ 0 + 1 ≤ 1) ∧ True), (1 = 1 * 1), (True), (List.length (List.take (((Int.toNat ((List.length bs : Nat) : Int)) - (Int.toNat ((List.length bs : Nat) : Int))) * 1) (List.drop ((Int.toNat ((List.length bs : Nat) : Int)) * 1) (List.map (T.int .u8) bs))) = (0 + ((Int.toNat ((List.length bs : Nat) : Int)) - (Int.toNat ((List.length bs : Nat) : Int)))) * 1), ((((0 + ((Int.toNat ((List.length bs : Nat) : Int)) - (Int.toNat ((List.length bs : Nat) : Int)))) + 1) * 1 ≤ 140737488355328 ∧ (0 + ((Int.toNat ((List.length bs : Nat) : Int)) - (Int.toNat ((List.length bs : Nat) : Int)))) + 1 ≤ maxLen)), (List.length ((List.take (((Int.toNat ((List.length bs : Nat) : Int)) - (Int.toNat ((List.length bs : Nat) : Int))) * 1) (List.drop ((Int.toNat ((List.length bs : Nat) : Int)) * 1) (List.map (T.int .u8) bs))) ++ [T.int .u8 ((List.length bs : Nat) : Int)]) = ((0 + ((Int.toNat ((List.length bs : Nat) : Int)) - (Int.toNat ((List.length bs : Nat) : Int)))) + 1) * 1)]) (r := T.list ((0 + ((Int.toNat ((List.length bs : Nat) : Int)) - (Int.toNat ((List.length bs : Nat) : Int)))) + 1) 1 ((List.take (((Int.toNat ((List.length bs : Nat) : Int)) - (Int.toNat ((List.length bs : Nat) : Int))) * 1) (List.drop ((Int.toNat ((List.length bs : Nat) : Int)) * 1) (List.map (T.int .u8) bs))) ++ [T.int .u8 ((List.length bs : Nat) : Int)])) (by kernel_rfl) ⟨trivial, h1, trivial, by first | rfl | simp, ⟨by omega, by omega, by omega⟩, trivial, by first | rfl | (simp; done) | omega | (simp; omega) | (simp [hl]; done) | (simp [hl]; omega), ⟨by first | omega | (simp only [List.length_take, List.length_drop, List.length_map, List.length_append]; omega), by simp only [maxLen]; first | omega | (simp only [List.length_take, List.length_drop, List.length_map, List.length_append]; omega)⟩, wrapT_u8 (by omega) (by omega), ⟨⟨by first | rfl | (simp; done) | (simp [hl]; done) | omega, by first | decide | (simp; done) | (simp [hl]; done) | omega | (simp; omega)⟩, trivial⟩, by first | rfl | simp, trivial, by first | rfl | (simp; done) | omega | (simp; omega) | (simp [hl]; done) | (simp [hl]; omega), ⟨by first | omega | (simp only [List.length_take, List.length_drop, List.length_map, List.length_append]; omega), by simp only [maxLen]; first | omega | (simp only [List.length_take, List.length_drop, List.length_map, List.length_append]; omega)⟩, by first | rfl | (simp; done) | omega | (simp; omega) | (simp [hl]; done) | (simp [hl]; omega), trivial⟩ (by rw [cut_over h1]; exact cut_at) (fun _ h => h)
  · -- no
    have g1 : ¬ (k > ((List.length bs : Nat) : Int)) := of_decide_eq_false h1
    exact WP.pathR tab_ok mixed [(8, An.b false), (11, An.id 2011), (15, An.id 2015), (17, An.v (T.int .u8 k)), (18, An.fz), (19, An.id 2019)] _ (ps := [(True), ((decide (k > ((List.length bs : Nat) : Int))) = false), (True), (0 = 0 * 1), ((0 ≤ k ∧ k ≤ ((List.length bs : Nat) : Int) ∧ ((List.length bs : Nat) : Int) ≤ ((List.length bs : Nat) : Int))), (True), (0 = 0 * 1), (((0 + ((Int.toNat ((List.length bs : Nat) : Int)) - (Int.toNat k))) * 1 ≤ 140737488355328 ∧ 0 + ((Int.toNat ((List.length bs : Nat) : Int)) - (Int.toNat k)) ≤ maxLen)), (T.int .u8 (IntKind.wrap .u8 k) = T.int .u8 k), ((1 = 1 ∧ 0 + 1 ≤ 1) ∧ True), (1 = 1 * 1), (True), (List.length (List.take (((Int.toNat ((List.length bs : Nat) : Int)) - (Int.toNat k)) * 1) (List.drop ((Int.toNat k) * 1) (List.map (T.int .u8) bs))) = (0 + ((Int.toNat ((List.length bs : Nat) : Int)) - (Int.toNat k))) * 1), ((((0 + ((Int.toNat ((List.length bs : Nat) : Int)) - (Int.toNat k))) + 1) * 1 ≤ 140737488355328 ∧ (0 + ((Int.toNat ((List.length bs : Nat) : Int)) - (Int.toNat k))) + 1 ≤ maxLen)), (List.length ((List.take (((Int.toNat ((List.length bs : Nat) : Int)) - (Int.toNat k)) * 1) (List.drop ((Int.toNat k) * 1) (List.map (T.int .u8) bs))) ++ [T.int .u8 k]) = ((0 + ((Int.toNat ((List.length bs : Nat) : Int)) - (Int.toNat k))) + 1) * 1)]) (r := T.list ((0 + ((Int.toNat ((List.length bs : Nat) : Int)) - (Int.toNat k))) + 1) 1 ((List.take (((Int.toNat ((List.length bs : Nat) : Int)) - (Int.toNat k)) * 1) (List.drop ((Int.toNat k) * 1) (List.map (T.int .u8) bs))) ++ [T.int .u8 k])) (by kernel_rfl) ⟨trivial, h1, trivial, by first | rfl | simp, ⟨by omega, by omega, by omega⟩, trivial, by first | rfl | (simp; done) | omega | (simp; omega) | (simp [hl]; done) | (simp [hl]; omega), ⟨by first | omega | (simp only [List.length_take, List.length_drop, List.length_map, List.length_append]; omega), by simp only [maxLen]; first | omega | (simp only [List.length_take, List.length_drop, List.length_map, List.length_append]; omega)⟩, wrapT_u8 (by omega) (by omega), ⟨⟨by first | rfl | (simp; done) | (simp [hl]; done) | omega, by first | decide | (simp; done) | (simp [hl]; done) | omega | (simp; omega)⟩, trivial⟩, by first | rfl | simp, trivial, by first | rfl | (simp; done) | omega | (simp; omega) | (simp [hl]; done) | (simp [hl]; omega), ⟨by first | omega | (simp only [List.length_take, List.length_drop, List.length_map, List.length_append]; omega), by simp only [maxLen]; first | omega | (simp only [List.length_take, List.length_drop, List.length_map, List.length_append]; omega)⟩, by first | rfl | (simp; done) | omega | (simp; omega) | (simp [hl]; done) | (simp [hl]; omega), trivial⟩ (by rw [cut_in h1]; exact cut_at) (fun _ h => h)
theorem in_C (x : Int) (lo : Int) (hi : Int) : C Try.prog 174 [T.int .i64 x, T.int .i64 lo, T.int .i64 hi] (T.bool (decide (lo ≤ x) && decide (x ≤ hi))) := by
  refine C.intro (tab := tab) tab_ok (fn := Try.f174) Try.func174 (by kernel_rfl) rfl (Nat.le_of_ble_eq_true rfl) ?_
  rcases Bool.eq_false_or_eq_true (decide (lo ≤ x)) with h1 | h1
  · -- yes
    have g1 : lo ≤ x := of_decide_eq_true h1
    exact WP.pathR tab_ok mixed [(9, An.b true)] _ (ps := [(True), ((decide (lo ≤ x)) = true), (True)]) (r := T.bool (decide (x ≤ hi))) (by kernel_rfl) ⟨trivial, h1, trivial, trivial⟩ (by first | rfl | simp [*]) (fun _ h => h)
  · -- no
    have g1 : ¬ (lo ≤ x) := of_decide_eq_false h1
    exact WP.pathR tab_ok mixed [(9, An.b false)] _ (ps := [(True), ((decide (lo ≤ x)) = false)]) (r := T.bool false) (by kernel_rfl) ⟨trivial, h1, trivial⟩ (by first | rfl | simp [*]) (fun _ h => h)
theorem isCount_C (x : Int) : C Try.prog 163 [T.int .i64 x] (T.bool (decide (1 ≤ x) && decide (x ≤ 12))) := by
  refine C.intro (tab := tab) tab_ok (fn := Try.f163) Try.func163 (by kernel_rfl) rfl (Nat.le_of_ble_eq_true rfl) ?_
  exact WP.pathR tab_ok mixed [(4, An.call (T.bool (decide ((1 : Int) ≤ x) && decide (x ≤ (12 : Int)))))] _ (ps := [(C Try.prog 174 [T.int .i64 x, T.int .i64 1, T.int .i64 12] (T.bool (decide ((1 : Int) ≤ x) && decide (x ≤ (12 : Int)))))]) (r := T.bool (decide ((1 : Int) ≤ x) && decide (x ≤ (12 : Int)))) (by kernel_rfl) ⟨(by have hh := (in_C x (1 : Int) (12 : Int)); simpa using hh), trivial⟩ (by first | rfl | simp [*]) (fun _ h => h)
theorem isQuestion_C (n : Int) (q : Int) : C Try.prog 173 [T.int .i64 n, T.int .i64 q] (T.bool (isQ n q)) := by
  refine C.intro (tab := tab) tab_ok (fn := Try.f173) Try.func173 (by kernel_rfl) rfl (Nat.le_of_ble_eq_true rfl) ?_
  rcases Bool.eq_false_or_eq_true (decide (1 ≤ n) && decide (n ≤ 12)) with h1 | h1
  · -- yes
    have g1 := h1
    try simp only [Bool.and_eq_true, Bool.or_eq_true, Bool.and_eq_false_iff, Bool.or_eq_false_iff, Bool.not_eq_true', Bool.not_eq_false', decide_eq_true_eq, decide_eq_false_iff_not, beq_iff_eq, beq_eq_false_iff_ne, bne_iff_ne, Int.toNat_natCast, ne_eq, ge_iff_le, gt_iff_lt] at g1
    exact WP.pathR tab_ok mixed [(6, An.call (T.bool true)), (10, An.v (T.int .i64 (2 ^ Int.toNat n))), (11, An.v (T.int .i64 ((2 ^ Int.toNat n) - (1 : Int)))), (12, An.call (T.bool (decide ((0 : Int) ≤ q) && decide (q ≤ ((2 ^ Int.toNat n) - (1 : Int))))))] _ (ps := [(C Try.prog 163 [T.int .i64 n] (T.bool true)), (0 ≤ n), (T.int .i64 (IntKind.wrap .i64 ((1 : Int) * 2 ^ (min (Int.toNat n) 64))) = T.int .i64 (2 ^ Int.toNat n)), (True), (T.int .i64 (IntKind.wrap .i64 ((2 ^ Int.toNat n) - (1 : Int))) = T.int .i64 ((2 ^ Int.toNat n) - (1 : Int))), (C Try.prog 174 [T.int .i64 q, T.int .i64 0, T.int .i64 ((2 ^ Int.toNat n) - (1 : Int))] (T.bool (decide ((0 : Int) ≤ q) && decide (q ≤ ((2 ^ Int.toNat n) - (1 : Int))))))]) (r := T.bool (decide ((0 : Int) ≤ q) && decide (q ≤ ((2 ^ Int.toNat n) - (1 : Int))))) (by kernel_rfl) ⟨(C.toB h1 (isCount_C n)), by omega, shl_small (by omega) (by omega), trivial, wrapT_i64 (by have hh := pow_bd (n := n) (by omega) (by omega); omega) (by have hh := pow_bd (n := n) (by omega) (by omega); omega), (by have hh := (in_C q (0 : Int) ((2 ^ Int.toNat n) - (1 : Int))); simpa using hh), trivial⟩ (by first | rfl | (unfold isQ; (try rw [h1]); rfl)) (fun _ h => h)
  · -- no
    have g1 := h1
    try simp only [Bool.and_eq_true, Bool.or_eq_true, Bool.and_eq_false_iff, Bool.or_eq_false_iff, Bool.not_eq_true', Bool.not_eq_false', decide_eq_true_eq, decide_eq_false_iff_not, beq_iff_eq, beq_eq_false_iff_ne, bne_iff_ne, Int.toNat_natCast, ne_eq, ge_iff_le, gt_iff_lt] at g1
    exact WP.pathR tab_ok mixed [(6, An.call (T.bool false))] _ (ps := [(C Try.prog 163 [T.int .i64 n] (T.bool false))]) (r := T.bool false) (by kernel_rfl) ⟨(C.toB h1 (isCount_C n)), trivial⟩ (by first | rfl | (unfold isQ; (try rw [h1]); rfl)) (fun _ h => h)
theorem other_C (n : Int) (q : Int) (h0 : 0 ≤ n) (h1 : n ≤ 12) (h2 : 0 ≤ q) (h3 : q ≤ 2 ^ n.toNat - 1) : C Try.prog 213 [T.int .i64 n, T.int .i64 q] (T.int .i64 (othN n q)) := by
  have hp := pow_bd h0 h1
  refine C.intro (tab := tab) tab_ok (fn := Try.f213) Try.func213 (by kernel_rfl) rfl (Nat.le_of_ble_eq_true rfl) ?_
  exact WP.pathR tab_ok mixed [(6, An.v (T.int .i64 (2 ^ Int.toNat n))), (7, An.v (T.int .i64 ((2 ^ Int.toNat n) - (1 : Int)))), (9, An.v (T.int .i64 (((2 ^ Int.toNat n) - (1 : Int)) - q)))] _ (ps := [(0 ≤ n), (T.int .i64 (IntKind.wrap .i64 ((1 : Int) * 2 ^ (min (Int.toNat n) 64))) = T.int .i64 (2 ^ Int.toNat n)), (True), (T.int .i64 (IntKind.wrap .i64 ((2 ^ Int.toNat n) - (1 : Int))) = T.int .i64 ((2 ^ Int.toNat n) - (1 : Int))), (True), (T.int .i64 (IntKind.wrap .i64 (((2 ^ Int.toNat n) - (1 : Int)) - q)) = T.int .i64 (((2 ^ Int.toNat n) - (1 : Int)) - q))]) (r := T.int .i64 (((2 ^ Int.toNat n) - (1 : Int)) - q)) (by kernel_rfl) ⟨by omega, shl_small (by omega) (by omega), trivial, wrapT_i64 (by omega) (by omega), trivial, wrapT_i64 (by omega) (by omega), trivial⟩ (rfl) (fun _ h => h)
theorem iOtherQuestion_C (n : Int) (q : Int) : C Try.prog 89 [T.int .i64 n, T.int .i64 q] (T.tup [T.int .i64 (oqV n q), T.bool (isQ n q)]) := by
  refine C.intro (tab := tab) tab_ok (fn := Try.f89) Try.func89 (by kernel_rfl) rfl (Nat.le_of_ble_eq_true rfl) ?_
  rcases Bool.eq_false_or_eq_true (isQ n q) with h1 | h1
  · -- yes
    have g1 := h1
    try simp only [Bool.and_eq_true, Bool.or_eq_true, Bool.and_eq_false_iff, Bool.or_eq_false_iff, Bool.not_eq_true', Bool.not_eq_false', decide_eq_true_eq, decide_eq_false_iff_not, beq_iff_eq, beq_eq_false_iff_ne, bne_iff_ne, Int.toNat_natCast, ne_eq, ge_iff_le, gt_iff_lt] at g1
    try have hiq := isQ_in h1
    exact WP.pathR tab_ok mixed [(8, An.call (T.bool true)), (12, An.call (T.int .i64 (othN n q)))] _ (ps := [(C Try.prog 173 [T.int .i64 n, T.int .i64 q] (T.bool true)), (C Try.prog 213 [T.int .i64 n, T.int .i64 q] (T.int .i64 (othN n q)))]) (r := T.tup [T.int .i64 (othN n q), T.bool true]) (by kernel_rfl) ⟨(C.toB h1 (isQuestion_C n q)), (other_C n q (by first | omega | (simp only [List.length_take, List.length_drop, List.length_map, List.length_append]; omega)) (by first | omega | (simp only [List.length_take, List.length_drop, List.length_map, List.length_append]; omega)) (by first | omega | (simp only [List.length_take, List.length_drop, List.length_map, List.length_append]; omega)) (by first | omega | (simp only [List.length_take, List.length_drop, List.length_map, List.length_append]; omega))), trivial⟩ (oq_yes h1) (fun _ h => h)
  · -- no
    have g1 := h1
    try simp only [Bool.and_eq_true, Bool.or_eq_true, Bool.and_eq_false_iff, Bool.or_eq_false_iff, Bool.not_eq_true', Bool.not_eq_false', decide_eq_true_eq, decide_eq_false_iff_not, beq_iff_eq, beq_eq_false_iff_ne, bne_iff_ne, Int.toNat_natCast, ne_eq, ge_iff_le, gt_iff_lt] at g1
    try have hiq := isQ_in h1
    exact WP.pathR tab_ok mixed [(8, An.call (T.bool false))] _ (ps := [(C Try.prog 173 [T.int .i64 n, T.int .i64 q] (T.bool false))]) (r := T.tup [T.int .i64 0, T.bool false]) (by kernel_rfl) ⟨(C.toB h1 (isQuestion_C n q)), trivial⟩ (oq_no h1) (fun _ h => h)
theorem l1In_C (x : Int) (lo : Int) (hi : Int) : C Try.prog 135 [T.int .i64 x, T.int .i64 lo, T.int .i64 hi] (T.bool (decide (x ≥ lo) && decide (x ≤ hi))) := by
  refine C.intro (tab := tab) tab_ok (fn := Try.f135) Try.func135 (by kernel_rfl) rfl (Nat.le_of_ble_eq_true rfl) ?_
  rcases Bool.eq_false_or_eq_true (decide (x ≥ lo)) with h1 | h1
  · -- yes
    have g1 : x ≥ lo := of_decide_eq_true h1
    exact WP.pathR tab_ok mixed [(9, An.b true)] _ (ps := [(True), ((decide (x ≥ lo)) = true), (True)]) (r := T.bool (decide (x ≤ hi))) (by kernel_rfl) ⟨trivial, h1, trivial, trivial⟩ (by first | rfl | simp [*]) (fun _ h => h)
  · -- no
    have g1 : ¬ (x ≥ lo) := of_decide_eq_false h1
    exact WP.pathR tab_ok mixed [(9, An.b false)] _ (ps := [(True), ((decide (x ≥ lo)) = false)]) (r := T.bool false) (by kernel_rfl) ⟨trivial, h1, trivial⟩ (by first | rfl | simp [*]) (fun _ h => h)
theorem l1Most_C (a : Int) (b : Int) : C Try.prog 155 [T.int .i64 a, T.int .i64 b] (T.int .i64 (maxN a b)) := by
  refine C.intro (tab := tab) tab_ok (fn := Try.f155) Try.func155 (by kernel_rfl) rfl (Nat.le_of_ble_eq_true rfl) ?_
  rcases Bool.eq_false_or_eq_true (decide (a > b)) with h1 | h1
  · -- yes
    have g1 : a > b := of_decide_eq_true h1
    exact WP.pathR tab_ok mixed [(7, An.b true)] _ (ps := [(True), ((decide (a > b)) = true)]) (r := T.int .i64 a) (by kernel_rfl) ⟨trivial, h1, trivial⟩ (maxN_yes h1) (fun _ h => h)
  · -- no
    have g1 : ¬ (a > b) := of_decide_eq_false h1
    exact WP.pathR tab_ok mixed [(7, An.b false)] _ (ps := [(True), ((decide (a > b)) = false)]) (r := T.int .i64 b) (by kernel_rfl) ⟨trivial, h1, trivial⟩ (maxN_no h1) (fun _ h => h)
theorem l1Least_C (a : Int) (b : Int) : C Try.prog 196 [T.int .i64 a, T.int .i64 b] (T.int .i64 (minN a b)) := by
  refine C.intro (tab := tab) tab_ok (fn := Try.f196) Try.func196 (by kernel_rfl) rfl (Nat.le_of_ble_eq_true rfl) ?_
  rcases Bool.eq_false_or_eq_true (decide (a < b)) with h1 | h1
  · -- yes
    have g1 : a < b := of_decide_eq_true h1
    exact WP.pathR tab_ok mixed [(7, An.b true)] _ (ps := [(True), ((decide (a < b)) = true)]) (r := T.int .i64 a) (by kernel_rfl) ⟨trivial, h1, trivial⟩ (by unfold minN; rw [if_pos (of_decide_eq_true h1)]) (fun _ h => h)
  · -- no
    have g1 : ¬ (a < b) := of_decide_eq_false h1
    exact WP.pathR tab_ok mixed [(7, An.b false)] _ (ps := [(True), ((decide (a < b)) = false)]) (r := T.int .i64 b) (by kernel_rfl) ⟨trivial, h1, trivial⟩ (by unfold minN; rw [if_neg (of_decide_eq_false h1)]) (fun _ h => h)
theorem fraction_C (x : Int) (y : Int) (hx : 0 ≤ x) (hy : 1 ≤ y) : C Try.prog 159 [T.int .i64 x, T.int .i64 y] (T.agg [T.int .i64 (IntKind.wrap .i64 (Int.tdiv x ((Int.gcd x y : Nat) : Int))), T.int .i64 (IntKind.wrap .i64 (Int.tdiv y ((Int.gcd x y : Nat) : Int)))]) := by
  refine C.intro (tab := tab) tab_ok (fn := Try.f159) Try.func159 (by kernel_rfl) rfl (Nat.le_of_ble_eq_true rfl) ?_
  refine WP.seq ?_
  refine WP.path tab_ok mixed [(4, An.id 2004)] [.keep [4, 0, 1], .keepO [2004]] (ps := []) (e := .normal) (σ' := ⟨[2004], [(4, V.ref 2004 0), (0, V.t (T.int .i64 x)), (1, V.t (T.int .i64 y))], [(2004, Tl.Obj.cells 49 [T.int .i64 0, T.int .i64 0])]⟩) (by kernel_rfl) trivial ?_
  refine WP.seq ?_
  refine WP.path tab_ok mixed [] [.keep [6, 5, 4, 0, 1], .keepO [2004]] (ps := []) (e := .normal) (σ' := ⟨[2004], [(6, V.t (T.int .i64 y)), (5, V.t (T.int .i64 x)), (4, V.ref 2004 0), (0, V.t (T.int .i64 x)), (1, V.t (T.int .i64 y))], [(2004, Tl.Obj.cells 49 [T.int .i64 0, T.int .i64 0])]⟩) (by kernel_rfl) trivial ?_
  refine WP.seq ?_
  refine WP.block ?_
  refine WP.wk [.keep [6, 5, 4, 0, 1], .keepO [2004], .names [(2004, 2004)]] (σ' := ⟨[2004], [(6, V.t (T.int .i64 (y))), (5, V.t (T.int .i64 (x))), (4, V.ref 2004 0), (0, V.t (T.int .i64 x)), (1, V.t (T.int .i64 y))], [(2004, Tl.Obj.cells 49 [T.int .i64 0, T.int .i64 0])]⟩) (ps := []) (by kernel_rfl) trivial ?_
  refine WP.loop (α := Int × Int) (fun zz => ⟨[2004], [(6, V.t (T.int .i64 zz.2)), (5, V.t (T.int .i64 zz.1)), (4, V.ref 2004 0), (0, V.t (T.int .i64 x)), (1, V.t (T.int .i64 y))], [(2004, Tl.Obj.cells 49 [T.int .i64 0, T.int .i64 0])]⟩) (fun zz => GcdAt x y zz.1 zz.2) (fun zz => zz.2.toNat) (x, y) (⟨by omega, by omega, rfl⟩) ?_
  rintro ⟨a, b⟩ hinv0
  have hinv : GcdAt x y a b := hinv0
  have hgz := gcdAt_end hinv hy
  have hgb := hinv.2.1
  have hga := hinv.1
  rcases Bool.eq_false_or_eq_true (b != (0 : Int)) with h1 | h1
  · -- yes
    have g1 : ¬ (b = (0 : Int)) := ne_of_bne h1
    refine WP.path tab_ok mixed [(10, An.b true)] [.keep [6, 5, 4, 0, 1], .keepO [2004], .names [(2004, 2004)]] (ps := [(True), ((b != (0 : Int)) = true), (b ≠ 0)]) (e := .normal) (σ' := ⟨[2004], [(6, V.t (T.int .i64 (Int.tmod a b))), (5, V.t (T.int .i64 (b))), (4, V.ref 2004 0), (0, V.t (T.int .i64 x)), (1, V.t (T.int .i64 y))], [(2004, Tl.Obj.cells 49 [T.int .i64 0, T.int .i64 0])]⟩) (by kernel_rfl) ⟨trivial, h1, by first | decide | omega, trivial⟩ ?_
    exact ⟨(b, Int.tmod a b), (gcdAt_step hinv (by omega)).1, (gcdAt_step hinv (by omega)).2, rfl⟩
  · -- no
    have g1 : b = (0 : Int) := eq_of_bne_false h1
    refine WP.path tab_ok mixed [(10, An.b false)] [.keep [5, 4, 0, 1], .keepO [2004]] (ps := [(True), ((b != (0 : Int)) = false)]) (e := (.exit 0)) (σ' := ⟨[2004], [(5, V.t (T.int .i64 a)), (4, V.ref 2004 0), (0, V.t (T.int .i64 x)), (1, V.t (T.int .i64 y))], [(2004, Tl.Obj.cells 49 [T.int .i64 0, T.int .i64 0])]⟩) (by kernel_rfl) ⟨trivial, h1, trivial⟩ ?_
    exact WP.pathR tab_ok mixed [] _ (ps := [(a ≠ 0), (a ≠ 0), ((1 = 1 ∧ 0 + 1 ≤ 2) ∧ (1 = 1 ∧ 1 + 1 ≤ 2) ∧ True), ((0 + 2 ≤ 2 ∧ 2 = 2)), (0 + 2 ≤ 2)]) (r := T.agg [T.int .i64 (IntKind.wrap .i64 (Int.tdiv x a)), T.int .i64 (IntKind.wrap .i64 (Int.tdiv y a))]) (by kernel_rfl) ⟨by first | decide | omega, by first | decide | omega, ⟨⟨by first | rfl | (simp; done) | (simp [hl]; done) | omega, by first | decide | (simp; done) | (simp [hl]; done) | omega | (simp; omega)⟩, ⟨by first | rfl | (simp; done) | (simp [hl]; done) | omega, by first | decide | (simp; done) | (simp [hl]; done) | omega | (simp; omega)⟩, trivial⟩, ⟨by first | decide | omega | (simp; omega) | (simp [hl]; done) | (simp [hl]; omega), by first | rfl | (simp; done) | omega | (simp; omega) | (simp [hl]; done) | (simp [hl]; omega)⟩, by first | decide | omega | (simp; omega) | (simp [hl]; done) | (simp [hl]; omega), trivial⟩ (by obtain ⟨e, e1⟩ := hgz (by omega); rw [e]) (fun _ h => h)
theorem has_C (q : Int) (s : Int) (h0 : 0 ≤ s) : C Try.prog 214 [T.int .i64 q, T.int .i64 s] (T.bool (hasB q s)) := by
  refine C.intro (tab := tab) tab_ok (fn := Try.f214) Try.func214 (by kernel_rfl) rfl (Nat.le_of_ble_eq_true rfl) ?_
  exact WP.pathR tab_ok mixed [] _ (ps := [(0 ≤ s), (True), (True)]) (r := T.bool ((bits .and .i64 (Int.fdiv q (2 ^ (min (Int.toNat s) 64))) (1 : Int)) == (1 : Int))) (by kernel_rfl) ⟨by omega, trivial, trivial, trivial⟩ (rfl) (fun _ h => h)
theorem isFalse_C (q : Int) (y : Bool) (k : Int) (h0 : 0 ≤ k) : C Try.prog 251 [T.agg [T.int .i64 q, T.bool y], T.int .i64 k] (T.bool (falseB q y k)) := by
  refine C.intro (tab := tab) tab_ok (fn := Try.f251) Try.func251 (by kernel_rfl) rfl (Nat.le_of_ble_eq_true rfl) ?_
  exact WP.pathR tab_ok mixed [(2, An.fz), (8, An.call (T.bool (hasB q k)))] _ (ps := [(True), (C Try.prog 214 [T.int .i64 q, T.int .i64 k] (T.bool (hasB q k))), (True), (True)]) (r := T.bool (!((hasB q k) == y))) (by kernel_rfl) ⟨trivial, (has_C q k (by first | omega | (simp only [List.length_take, List.length_drop, List.length_map, List.length_append]; omega))), trivial, trivial, trivial⟩ (rfl) (fun _ h => h)
theorem l7Cut_C (x : Int) (y : Int) (hx : 0 ≤ x) (hy : 1 ≤ y) : C Try.prog 160 [T.int .i64 x, T.int .i64 y] (T.agg [T.int .i64 (IntKind.wrap .i64 (Int.tdiv x ((Int.gcd x y : Nat) : Int))), T.int .i64 (IntKind.wrap .i64 (Int.tdiv y ((Int.gcd x y : Nat) : Int)))]) := by
  refine C.intro (tab := tab) tab_ok (fn := Try.f160) Try.func160 (by kernel_rfl) rfl (Nat.le_of_ble_eq_true rfl) ?_
  refine WP.seq ?_
  refine WP.path tab_ok mixed [(4, An.id 2004)] [.keep [4, 0, 1], .keepO [2004]] (ps := []) (e := .normal) (σ' := ⟨[2004], [(4, V.ref 2004 0), (0, V.t (T.int .i64 x)), (1, V.t (T.int .i64 y))], [(2004, Tl.Obj.cells 49 [T.int .i64 0, T.int .i64 0])]⟩) (by kernel_rfl) trivial ?_
  refine WP.seq ?_
  refine WP.path tab_ok mixed [] [.keep [6, 5, 4, 0, 1], .keepO [2004]] (ps := []) (e := .normal) (σ' := ⟨[2004], [(6, V.t (T.int .i64 y)), (5, V.t (T.int .i64 x)), (4, V.ref 2004 0), (0, V.t (T.int .i64 x)), (1, V.t (T.int .i64 y))], [(2004, Tl.Obj.cells 49 [T.int .i64 0, T.int .i64 0])]⟩) (by kernel_rfl) trivial ?_
  refine WP.seq ?_
  refine WP.block ?_
  refine WP.wk [.keep [6, 5, 4, 0, 1], .keepO [2004], .names [(2004, 2004)]] (σ' := ⟨[2004], [(6, V.t (T.int .i64 (y))), (5, V.t (T.int .i64 (x))), (4, V.ref 2004 0), (0, V.t (T.int .i64 x)), (1, V.t (T.int .i64 y))], [(2004, Tl.Obj.cells 49 [T.int .i64 0, T.int .i64 0])]⟩) (ps := []) (by kernel_rfl) trivial ?_
  refine WP.loop (α := Int × Int) (fun zz => ⟨[2004], [(6, V.t (T.int .i64 zz.2)), (5, V.t (T.int .i64 zz.1)), (4, V.ref 2004 0), (0, V.t (T.int .i64 x)), (1, V.t (T.int .i64 y))], [(2004, Tl.Obj.cells 49 [T.int .i64 0, T.int .i64 0])]⟩) (fun zz => GcdAt x y zz.1 zz.2) (fun zz => zz.2.toNat) (x, y) (⟨by omega, by omega, rfl⟩) ?_
  rintro ⟨a, b⟩ hinv0
  have hinv : GcdAt x y a b := hinv0
  have hgz := gcdAt_end hinv hy
  have hgb := hinv.2.1
  have hga := hinv.1
  rcases Bool.eq_false_or_eq_true (decide (b > (0 : Int))) with h1 | h1
  · -- yes
    have g1 : b > (0 : Int) := of_decide_eq_true h1
    refine WP.path tab_ok mixed [(10, An.b true)] [.keep [6, 5, 4, 0, 1], .keepO [2004], .names [(2004, 2004)]] (ps := [(True), ((decide (b > (0 : Int))) = true), (b ≠ 0)]) (e := .normal) (σ' := ⟨[2004], [(6, V.t (T.int .i64 (Int.tmod a b))), (5, V.t (T.int .i64 (b))), (4, V.ref 2004 0), (0, V.t (T.int .i64 x)), (1, V.t (T.int .i64 y))], [(2004, Tl.Obj.cells 49 [T.int .i64 0, T.int .i64 0])]⟩) (by kernel_rfl) ⟨trivial, h1, by first | decide | omega, trivial⟩ ?_
    exact ⟨(b, Int.tmod a b), (gcdAt_step hinv (by omega)).1, (gcdAt_step hinv (by omega)).2, rfl⟩
  · -- no
    have g1 : ¬ (b > (0 : Int)) := of_decide_eq_false h1
    refine WP.path tab_ok mixed [(10, An.b false)] [.keep [5, 4, 0, 1], .keepO [2004]] (ps := [(True), ((decide (b > (0 : Int))) = false)]) (e := (.exit 0)) (σ' := ⟨[2004], [(5, V.t (T.int .i64 a)), (4, V.ref 2004 0), (0, V.t (T.int .i64 x)), (1, V.t (T.int .i64 y))], [(2004, Tl.Obj.cells 49 [T.int .i64 0, T.int .i64 0])]⟩) (by kernel_rfl) ⟨trivial, h1, trivial⟩ ?_
    exact WP.pathR tab_ok mixed [(17, An.call (T.int .i64 (maxN a (1 : Int)))), (21, An.call (T.int .i64 (maxN a (1 : Int))))] _ (ps := [(C Try.prog 155 [T.int .i64 a, T.int .i64 1] (T.int .i64 (maxN a (1 : Int)))), ((maxN a (1 : Int)) ≠ 0), (C Try.prog 155 [T.int .i64 a, T.int .i64 1] (T.int .i64 (maxN a (1 : Int)))), ((maxN a (1 : Int)) ≠ 0), ((1 = 1 ∧ 0 + 1 ≤ 2) ∧ (1 = 1 ∧ 1 + 1 ≤ 2) ∧ True), ((0 + 2 ≤ 2 ∧ 2 = 2)), (0 + 2 ≤ 2)]) (r := T.agg [T.int .i64 (IntKind.wrap .i64 (Int.tdiv x (maxN a (1 : Int)))), T.int .i64 (IntKind.wrap .i64 (Int.tdiv y (maxN a (1 : Int))))]) (by kernel_rfl) ⟨(by have hh := (l1Most_C a (1 : Int)); simpa using hh), by have := maxN_ge (a := a) (b := 1); omega, (by have hh := (l1Most_C a (1 : Int)); simpa using hh), by have := maxN_ge (a := a) (b := 1); omega, ⟨⟨by first | rfl | (simp; done) | (simp [hl]; done) | omega, by first | decide | (simp; done) | (simp [hl]; done) | omega | (simp; omega)⟩, ⟨by first | rfl | (simp; done) | (simp [hl]; done) | omega, by first | decide | (simp; done) | (simp [hl]; done) | omega | (simp; omega)⟩, trivial⟩, ⟨by first | decide | omega | (simp; omega) | (simp [hl]; done) | (simp [hl]; omega), by first | rfl | (simp; done) | omega | (simp; omega) | (simp [hl]; done) | (simp [hl]; omega)⟩, by first | decide | omega | (simp; omega) | (simp [hl]; done) | (simp [hl]; omega), trivial⟩ (by obtain ⟨e, e1⟩ := hgz (by omega); rw [maxN_one e1, e]) (fun _ h => h)
theorem l2Numbers_C (x : Int) : C Try.prog 167 [T.int .i64 x] (T.bool (decide (x ≥ 1) && decide (x ≤ 12))) := by
  refine C.intro (tab := tab) tab_ok (fn := Try.f167) Try.func167 (by kernel_rfl) rfl (Nat.le_of_ble_eq_true rfl) ?_
  exact WP.pathR tab_ok mixed [(4, An.call (T.bool (decide (x ≥ (1 : Int)) && decide (x ≤ (12 : Int)))))] _ (ps := [(C Try.prog 135 [T.int .i64 x, T.int .i64 1, T.int .i64 12] (T.bool (decide (x ≥ (1 : Int)) && decide (x ≤ (12 : Int)))))]) (r := T.bool (decide (x ≥ (1 : Int)) && decide (x ≤ (12 : Int)))) (by kernel_rfl) ⟨(by have hh := (l1In_C x (1 : Int) (12 : Int)); simpa using hh), trivial⟩ (by first | rfl | simp [*]) (fun _ h => h)
theorem l2Asks_C (n : Int) (q : Int) : C Try.prog 176 [T.int .i64 n, T.int .i64 q] (T.bool (isQ n q)) := by
  refine C.intro (tab := tab) tab_ok (fn := Try.f176) Try.func176 (by kernel_rfl) rfl (Nat.le_of_ble_eq_true rfl) ?_
  rcases Bool.eq_false_or_eq_true (decide (n ≥ 1) && decide (n ≤ 12)) with h1 | h1
  · -- yes
    have g1 := h1
    try simp only [Bool.and_eq_true, Bool.or_eq_true, Bool.and_eq_false_iff, Bool.or_eq_false_iff, Bool.not_eq_true', Bool.not_eq_false', decide_eq_true_eq, decide_eq_false_iff_not, beq_iff_eq, beq_eq_false_iff_ne, bne_iff_ne, Int.toNat_natCast, ne_eq, ge_iff_le, gt_iff_lt] at g1
    exact WP.pathR tab_ok mixed [(6, An.call (T.bool true)), (10, An.v (T.int .i64 (2 ^ Int.toNat n))), (11, An.v (T.int .i64 ((2 ^ Int.toNat n) - (1 : Int)))), (12, An.call (T.bool (decide (q ≥ (0 : Int)) && decide (q ≤ ((2 ^ Int.toNat n) - (1 : Int))))))] _ (ps := [(C Try.prog 167 [T.int .i64 n] (T.bool true)), (0 ≤ n), (T.int .i64 (IntKind.wrap .i64 ((1 : Int) * 2 ^ (min (Int.toNat n) 64))) = T.int .i64 (2 ^ Int.toNat n)), (True), (T.int .i64 (IntKind.wrap .i64 ((2 ^ Int.toNat n) - (1 : Int))) = T.int .i64 ((2 ^ Int.toNat n) - (1 : Int))), (C Try.prog 135 [T.int .i64 q, T.int .i64 0, T.int .i64 ((2 ^ Int.toNat n) - (1 : Int))] (T.bool (decide (q ≥ (0 : Int)) && decide (q ≤ ((2 ^ Int.toNat n) - (1 : Int))))))]) (r := T.bool (decide (q ≥ (0 : Int)) && decide (q ≤ ((2 ^ Int.toNat n) - (1 : Int))))) (by kernel_rfl) ⟨(C.toB h1 (l2Numbers_C n)), by omega, shl_small (by omega) (by omega), trivial, wrapT_i64 (by have hh := pow_bd (n := n) (by omega) (by omega); omega) (by have hh := pow_bd (n := n) (by omega) (by omega); omega), (by have hh := (l1In_C q (0 : Int) ((2 ^ Int.toNat n) - (1 : Int))); simpa using hh), trivial⟩ (by first | (unfold isQ; rw [in_ge.symm.trans (by assumption : (decide (n ≥ 1) && decide (n ≤ 12)) = _)]; rfl)) (fun _ h => h)
  · -- no
    have g1 := h1
    try simp only [Bool.and_eq_true, Bool.or_eq_true, Bool.and_eq_false_iff, Bool.or_eq_false_iff, Bool.not_eq_true', Bool.not_eq_false', decide_eq_true_eq, decide_eq_false_iff_not, beq_iff_eq, beq_eq_false_iff_ne, bne_iff_ne, Int.toNat_natCast, ne_eq, ge_iff_le, gt_iff_lt] at g1
    exact WP.pathR tab_ok mixed [(6, An.call (T.bool false))] _ (ps := [(C Try.prog 167 [T.int .i64 n] (T.bool false))]) (r := T.bool false) (by kernel_rfl) ⟨(C.toB h1 (l2Numbers_C n)), trivial⟩ (by first | (unfold isQ; rw [in_ge.symm.trans (by assumption : (decide (n ≥ 1) && decide (n ≤ 12)) = _)]; rfl)) (fun _ h => h)
theorem l2False_C (q : Int) (y : Bool) (k : Int) (h0 : 0 ≤ k) : C Try.prog 264 [T.int .i64 q, T.bool y, T.int .i64 k] (T.bool (falseB q y k)) := by
  refine C.intro (tab := tab) tab_ok (fn := Try.f264) Try.func264 (by kernel_rfl) rfl (Nat.le_of_ble_eq_true rfl) ?_
  exact WP.pathR tab_ok mixed [] _ (ps := [(0 ≤ k), (True), (True), (True)]) (r := T.bool (!(y == ((bits .and .i64 (Int.fdiv q (2 ^ (min (Int.toNat k) 64))) (1 : Int)) == (1 : Int))))) (by kernel_rfl) ⟨by omega, trivial, trivial, trivial, trivial⟩ (congrArg T.bool (falseB_comm q y k)) (fun _ h => h)
end Go.Proofs.Ytofiecpgfjofdaa.AuAxO
