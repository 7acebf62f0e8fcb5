/-
  The walks: each function of the program that the claim reaches returns what is told of it here. No statement is proved here.
-/
import Derived.Test.YtofiecpgfjofdaaTlV
import Derived.Test.YtofiecpgfjofdaaTlCI
import Derived.Test.YtofiecpgfjofdaaTlRooms
import Derived.Test.YtofiecpgfjofdaaProg
namespace Go.Proofs.Ytofiecpgfjofdaa.AuWO
open Go Go.Tl Go.Proofs
set_option linter.unusedVariables false
set_option linter.unusedSimpArgs false
set_option maxRecDepth 100000
def tab : Tab := [(3, ⟨.int .i64, 1, 8, [.int .i64 0]⟩), (4, ⟨.bool, 1, 1, [.bool false]⟩), (5, ⟨.int .u8, 1, 1, [.int .u8 0]⟩), (26, ⟨.slice 3 1 8, 1, 24, [.nils]⟩), (28, ⟨.struct [(0, 1, false), (1, 1, false)], 2, 32, [.nils, .int .i64 0]⟩), (40, ⟨.slice 5 1 1, 1, 24, [.nils]⟩), (148, ⟨.pointer 151, 1, 8, [.nilp]⟩), (149, ⟨.int .u64, 1, 8, [.int .u64 0]⟩), (151, ⟨.struct [(0, 1, false), (1, 1, false), (2, 1, false)], 3, 40, [.nils, .int .i64 0, .int .u64 0]⟩)]
theorem tab_ok : chkTab Try.prog tab = true := by kernel_rfl
theorem mixed : Try.prog.follows .mixedOrders = true := by kernel_rfl
theorem vBig_C (bs : List Int) (hbl : bs.length ≤ 9223372036854775807) : C Try.prog 20 [T.list (List.length bs) 1 (List.map (T.int .u8) bs)] (T.bool (decide (((List.length bs : Nat) : Int) > (65536 : Int)))) := by
  refine C.intro (tab := tab) tab_ok (fn := Try.f20) Try.func20 (by kernel_rfl) rfl (Nat.le_of_ble_eq_true rfl) ?_
  exact WP.pathR tab_ok mixed [] _ (ps := [(True)]) (r := T.bool (decide (((List.length bs : Nat) : Int) > (65536 : Int)))) (by kernel_rfl) ⟨trivial, trivial⟩ (by first | rfl | simp [*]) (fun _ h => h)
theorem vCut_C (bs : List Int) (k : Int) (h0 : 0 ≤ k) (h1 : k ≤ 255) (hbl : bs.length ≤ 1048576) : C Try.prog 27 [T.list (List.length bs) 1 (List.map (T.int .u8) bs), T.int .i64 k] (T.list (List.length (cutY bs k)) 1 (List.map (T.int .u8) (cutY bs k))) := by
  refine C.intro (tab := tab) tab_ok (fn := Try.f27) Try.func27 (by kernel_rfl) rfl (Nat.le_of_ble_eq_true rfl) ?_
  rcases Bool.eq_false_or_eq_true (decide (k > ((List.length bs : Nat) : Int))) with h1 | h1
  · -- yes
    have g1 : k > ((List.length bs : Nat) : Int) := of_decide_eq_true h1
    exact WP.pathR tab_ok mixed [(8, An.b true), (11, An.id 2011), (15, An.id 2015), (17, An.v (T.int .u8 ((List.length bs : Nat) : Int))), (18, An.fz), (19, An.id 2019)] _ (ps := [(True), ((decide (k > ((List.length bs : Nat) : Int))) = true), (True), (0 = 0 * 1), ((0 ≤ ((List.length bs : Nat) : Int) ∧ ((List.length bs : Nat) : Int) ≤ ((List.length bs : Nat) : Int) ∧ ((List.length bs : Nat) : Int) ≤ ((List.length bs : Nat) : Int))), (True), (0 = 0 * 1), (((0 + ((Int.toNat ((List.length bs : Nat) : Int)) - (Int.toNat ((List.length bs : Nat) : Int)))) * 1 ≤ 140737488355328 ∧ 0 + ((Int.toNat ((List.length bs : Nat) : Int)) - (Int.toNat ((List.length bs : Nat) : Int))) ≤ maxLen)), (T.int .u8 (IntKind.wrap .u8 ((List.length bs : Nat) : Int)) = T.int .u8 ((List.length bs : Nat) : Int)), ((1 = 1 ∧ 0 + 1 ≤ 1) ∧ True), (1 = 1 * 1), (True), (List.length (List.take (((Int.toNat ((List.length bs : Nat) : Int)) - (Int.toNat ((List.length bs : Nat) : Int))) * 1) (List.drop ((Int.toNat ((List.length bs : Nat) : Int)) * 1) (List.map (T.int .u8) bs))) = (0 + ((Int.toNat ((List.length bs : Nat) : Int)) - (Int.toNat ((List.length bs : Nat) : Int)))) * 1), ((((0 + ((Int.toNat ((List.length bs : Nat) : Int)) - (Int.toNat ((List.length bs : Nat) : Int)))) + 1) * 1 ≤ 140737488355328 ∧ (0 + ((Int.toNat ((List.length bs : Nat) : Int)) - (Int.toNat ((List.length bs : Nat) : Int)))) + 1 ≤ maxLen)), (List.length ((List.take (((Int.toNat ((List.length bs : Nat) : Int)) - (Int.toNat ((List.length bs : Nat) : Int))) * 1) (List.drop ((Int.toNat ((List.length bs : Nat) : Int)) * 1) (List.map (T.int .u8) bs))) ++ [T.int .u8 ((List.length bs : Nat) : Int)]) = ((0 + ((Int.toNat ((List.length bs : Nat) : Int)) - (Int.toNat ((List.length bs : Nat) : Int)))) + 1) * 1)]) (r := T.list ((0 + ((Int.toNat ((List.length bs : Nat) : Int)) - (Int.toNat ((List.length bs : Nat) : Int)))) + 1) 1 ((List.take (((Int.toNat ((List.length bs : Nat) : Int)) - (Int.toNat ((List.length bs : Nat) : Int))) * 1) (List.drop ((Int.toNat ((List.length bs : Nat) : Int)) * 1) (List.map (T.int .u8) bs))) ++ [T.int .u8 ((List.length bs : Nat) : Int)])) (by kernel_rfl) ⟨trivial, h1, trivial, by first | rfl | simp, ⟨by omega, by omega, by omega⟩, trivial, by first | rfl | (simp; done) | omega | (simp; omega) | (simp [hl]; done) | (simp [hl]; omega), ⟨by first | omega | (simp only [List.length_take, List.length_drop, List.length_map, List.length_append]; omega), by simp only [maxLen]; first | omega | (simp only [List.length_take, List.length_drop, List.length_map, List.length_append]; omega)⟩, wrapT_u8 (by omega) (by omega), ⟨⟨by first | rfl | (simp; done) | (simp [hl]; done) | omega, by first | decide | (simp; done) | (simp [hl]; done) | omega | (simp; omega)⟩, trivial⟩, by first | rfl | simp, trivial, by first | rfl | (simp; done) | omega | (simp; omega) | (simp [hl]; done) | (simp [hl]; omega), ⟨by first | omega | (simp only [List.length_take, List.length_drop, List.length_map, List.length_append]; omega), by simp only [maxLen]; first | omega | (simp only [List.length_take, List.length_drop, List.length_map, List.length_append]; omega)⟩, by first | rfl | (simp; done) | omega | (simp; omega) | (simp [hl]; done) | (simp [hl]; omega), trivial⟩ (by rw [cut_over h1]; exact cut_at) (fun _ h => h)
  · -- no
    have g1 : ¬ (k > ((List.length bs : Nat) : Int)) := of_decide_eq_false h1
    exact WP.pathR tab_ok mixed [(8, An.b false), (11, An.id 2011), (15, An.id 2015), (17, An.v (T.int .u8 k)), (18, An.fz), (19, An.id 2019)] _ (ps := [(True), ((decide (k > ((List.length bs : Nat) : Int))) = false), (True), (0 = 0 * 1), ((0 ≤ k ∧ k ≤ ((List.length bs : Nat) : Int) ∧ ((List.length bs : Nat) : Int) ≤ ((List.length bs : Nat) : Int))), (True), (0 = 0 * 1), (((0 + ((Int.toNat ((List.length bs : Nat) : Int)) - (Int.toNat k))) * 1 ≤ 140737488355328 ∧ 0 + ((Int.toNat ((List.length bs : Nat) : Int)) - (Int.toNat k)) ≤ maxLen)), (T.int .u8 (IntKind.wrap .u8 k) = T.int .u8 k), ((1 = 1 ∧ 0 + 1 ≤ 1) ∧ True), (1 = 1 * 1), (True), (List.length (List.take (((Int.toNat ((List.length bs : Nat) : Int)) - (Int.toNat k)) * 1) (List.drop ((Int.toNat k) * 1) (List.map (T.int .u8) bs))) = (0 + ((Int.toNat ((List.length bs : Nat) : Int)) - (Int.toNat k))) * 1), ((((0 + ((Int.toNat ((List.length bs : Nat) : Int)) - (Int.toNat k))) + 1) * 1 ≤ 140737488355328 ∧ (0 + ((Int.toNat ((List.length bs : Nat) : Int)) - (Int.toNat k))) + 1 ≤ maxLen)), (List.length ((List.take (((Int.toNat ((List.length bs : Nat) : Int)) - (Int.toNat k)) * 1) (List.drop ((Int.toNat k) * 1) (List.map (T.int .u8) bs))) ++ [T.int .u8 k]) = ((0 + ((Int.toNat ((List.length bs : Nat) : Int)) - (Int.toNat k))) + 1) * 1)]) (r := T.list ((0 + ((Int.toNat ((List.length bs : Nat) : Int)) - (Int.toNat k))) + 1) 1 ((List.take (((Int.toNat ((List.length bs : Nat) : Int)) - (Int.toNat k)) * 1) (List.drop ((Int.toNat k) * 1) (List.map (T.int .u8) bs))) ++ [T.int .u8 k])) (by kernel_rfl) ⟨trivial, h1, trivial, by first | rfl | simp, ⟨by omega, by omega, by omega⟩, trivial, by first | rfl | (simp; done) | omega | (simp; omega) | (simp [hl]; done) | (simp [hl]; omega), ⟨by first | omega | (simp only [List.length_take, List.length_drop, List.length_map, List.length_append]; omega), by simp only [maxLen]; first | omega | (simp only [List.length_take, List.length_drop, List.length_map, List.length_append]; omega)⟩, wrapT_u8 (by omega) (by omega), ⟨⟨by first | rfl | (simp; done) | (simp [hl]; done) | omega, by first | decide | (simp; done) | (simp [hl]; done) | omega | (simp; omega)⟩, trivial⟩, by first | rfl | simp, trivial, by first | rfl | (simp; done) | omega | (simp; omega) | (simp [hl]; done) | (simp [hl]; omega), ⟨by first | omega | (simp only [List.length_take, List.length_drop, List.length_map, List.length_append]; omega), by simp only [maxLen]; first | omega | (simp only [List.length_take, List.length_drop, List.length_map, List.length_append]; omega)⟩, by first | rfl | (simp; done) | omega | (simp; omega) | (simp [hl]; done) | (simp [hl]; omega), trivial⟩ (by rw [cut_in h1]; exact cut_at) (fun _ h => h)
theorem l1Most_C (a : Int) (b : Int) : C Try.prog 155 [T.int .i64 a, T.int .i64 b] (T.int .i64 (maxN a b)) := by
  refine C.intro (tab := tab) tab_ok (fn := Try.f155) Try.func155 (by kernel_rfl) rfl (Nat.le_of_ble_eq_true rfl) ?_
  rcases Bool.eq_false_or_eq_true (decide (a > b)) with h1 | h1
  · -- yes
    have g1 : a > b := of_decide_eq_true h1
    exact WP.pathR tab_ok mixed [(7, An.b true)] _ (ps := [(True), ((decide (a > b)) = true)]) (r := T.int .i64 a) (by kernel_rfl) ⟨trivial, h1, trivial⟩ (maxN_yes h1) (fun _ h => h)
  · -- no
    have g1 : ¬ (a > b) := of_decide_eq_false h1
    exact WP.pathR tab_ok mixed [(7, An.b false)] _ (ps := [(True), ((decide (a > b)) = false)]) (r := T.int .i64 b) (by kernel_rfl) ⟨trivial, h1, trivial⟩ (maxN_no h1) (fun _ h => h)
theorem in_C (x : Int) (lo : Int) (hi : Int) : C Try.prog 174 [T.int .i64 x, T.int .i64 lo, T.int .i64 hi] (T.bool (decide (lo ≤ x) && decide (x ≤ hi))) := by
  refine C.intro (tab := tab) tab_ok (fn := Try.f174) Try.func174 (by kernel_rfl) rfl (Nat.le_of_ble_eq_true rfl) ?_
  rcases Bool.eq_false_or_eq_true (decide (lo ≤ x)) with h1 | h1
  · -- yes
    have g1 : lo ≤ x := of_decide_eq_true h1
    exact WP.pathR tab_ok mixed [(9, An.b true)] _ (ps := [(True), ((decide (lo ≤ x)) = true), (True)]) (r := T.bool (decide (x ≤ hi))) (by kernel_rfl) ⟨trivial, h1, trivial, trivial⟩ (by first | rfl | simp [*]) (fun _ h => h)
  · -- no
    have g1 : ¬ (lo ≤ x) := of_decide_eq_false h1
    exact WP.pathR tab_ok mixed [(9, An.b false)] _ (ps := [(True), ((decide (lo ≤ x)) = false)]) (r := T.bool false) (by kernel_rfl) ⟨trivial, h1, trivial⟩ (by first | rfl | simp [*]) (fun _ h => h)
theorem isMost_C (x : Int) : C Try.prog 140 [T.int .i64 x] (T.bool (decide (0 ≤ x) && decide (x ≤ 2))) := by
  refine C.intro (tab := tab) tab_ok (fn := Try.f140) Try.func140 (by kernel_rfl) rfl (Nat.le_of_ble_eq_true rfl) ?_
  exact WP.pathR tab_ok mixed [(4, An.call (T.bool (decide ((0 : Int) ≤ x) && decide (x ≤ (2 : Int)))))] _ (ps := [(C Try.prog 174 [T.int .i64 x, T.int .i64 0, T.int .i64 2] (T.bool (decide ((0 : Int) ≤ x) && decide (x ≤ (2 : Int)))))]) (r := T.bool (decide ((0 : Int) ≤ x) && decide (x ≤ (2 : Int)))) (by kernel_rfl) ⟨(by have hh := (in_C x (0 : Int) (2 : Int)); simpa using hh), trivial⟩ (by first | rfl | simp [*]) (fun _ h => h)
theorem isCount_C (x : Int) : C Try.prog 163 [T.int .i64 x] (T.bool (decide (1 ≤ x) && decide (x ≤ 12))) := by
  refine C.intro (tab := tab) tab_ok (fn := Try.f163) Try.func163 (by kernel_rfl) rfl (Nat.le_of_ble_eq_true rfl) ?_
  exact WP.pathR tab_ok mixed [(4, An.call (T.bool (decide ((1 : Int) ≤ x) && decide (x ≤ (12 : Int)))))] _ (ps := [(C Try.prog 174 [T.int .i64 x, T.int .i64 1, T.int .i64 12] (T.bool (decide ((1 : Int) ≤ x) && decide (x ≤ (12 : Int)))))]) (r := T.bool (decide ((1 : Int) ≤ x) && decide (x ≤ (12 : Int)))) (by kernel_rfl) ⟨(by have hh := (in_C x (1 : Int) (12 : Int)); simpa using hh), trivial⟩ (by first | rfl | simp [*]) (fun _ h => h)
theorem indexFunc_C (xs : List Int) (g : FuncId) (pre : List T) (caps : List T) (p : Int → Bool) (hg : ∀ x, C Try.prog g (pre ++ ([T.int .i64 x] ++ caps)) (T.bool (p x))) (hx : xs.length ≤ 9223372036854775807) : C Try.prog 256 [T.list (List.length xs) 1 (List.map (T.int .i64) xs), T.fn g pre caps] (T.int .i64 (idxOf p xs)) := by
  refine C.intro (tab := tab) tab_ok (fn := Try.f256) Try.func256 (by kernel_rfl) rfl (Nat.le_of_ble_eq_true rfl) ?_
  refine WP.seq ?_
  refine WP.path tab_ok mixed [] [.keep [4, 0, 1], .keepO []] (ps := []) (e := .normal) (σ' := ⟨[], [(4, V.t (T.int .i64 0)), (0, V.t (T.list (List.length xs) 1 (List.map (T.int .i64) xs))), (1, V.t (T.fn g pre caps))], []⟩) (by kernel_rfl) trivial ?_
  refine WP.seq ?_
  refine WP.seq ?_
  refine WP.path tab_ok mixed [] [.keep [8, 7, 4, 0, 1], .keepO []] (ps := []) (e := .normal) (σ' := ⟨[], [(8, V.t (T.int .i64 0)), (7, V.t (T.int .i64 ((List.length xs : Nat) : Int))), (4, V.t (T.int .i64 0)), (0, V.t (T.list (List.length xs) 1 (List.map (T.int .i64) xs))), (1, V.t (T.fn g pre caps))], []⟩) (by kernel_rfl) trivial ?_
  refine WP.block ?_
  refine WP.wk [.keep [8, 7, 4, 0, 1], .keepO [], .names []] (σ' := ⟨[], [(8, V.t (T.int .i64 ((0) : Int))), (7, V.t (T.int .i64 ((List.length xs : Nat) : Int))), (4, V.t (T.int .i64 0)), (0, V.t (T.list (List.length xs) 1 (List.map (T.int .i64) xs))), (1, V.t (T.fn g pre caps))], []⟩) (ps := []) (by kernel_rfl) trivial ?_
  refine WP.loop (α := Nat) (fun zz => ⟨[], [(8, V.t (T.int .i64 (zz : Int))), (7, V.t (T.int .i64 ((List.length xs : Nat) : Int))), (4, V.t (T.int .i64 0)), (0, V.t (T.list (List.length xs) 1 (List.map (T.int .i64) xs))), (1, V.t (T.fn g pre caps))], []⟩) (fun zz => zz ≤ xs.length ∧ ∀ j, j < zz → p (xs.getD j 0) = false) (fun zz => xs.length - zz) 0 (⟨by omega, fun j h => by omega⟩) ?_
  intro i hinv0
  have hinv : i ≤ xs.length ∧ ∀ j, j < i → p (xs.getD j 0) = false := hinv0
  obtain ⟨hi, hall⟩ := hinv
  rcases Bool.eq_false_or_eq_true (decide ((i : Int) < ((List.length xs : Nat) : Int))) with h1 | h1
  · -- yes
    have g1 : (i : Int) < ((List.length xs : Nat) : Int) := of_decide_eq_true h1
    rcases Bool.eq_false_or_eq_true (p (List.getD xs i 0)) with h2 | h2
    · -- yes
      have g2 := h2
      try simp only [Bool.and_eq_true, Bool.or_eq_true, Bool.and_eq_false_iff, Bool.or_eq_false_iff, Bool.not_eq_true', Bool.not_eq_false', decide_eq_true_eq, decide_eq_false_iff_not, beq_iff_eq, beq_eq_false_iff_ne, bne_iff_ne, Int.toNat_natCast, ne_eq, ge_iff_le, gt_iff_lt] at g2
      exact WP.pathR tab_ok mixed [(9, An.b true), (15, An.v (T.int .i64 (List.getD xs i 0))), (16, An.call (T.bool true))] _ (ps := [(True), ((decide ((i : Int) < ((List.length xs : Nat) : Int))) = true), ((0 ≤ (i : Int) ∧ (i : Int) < ((List.length xs : Nat) : Int))), ((List.drop ((Int.toNat (i : Int)) * 1) (List.map (T.int .i64) xs) : List T)[0]? = some (T.int .i64 (List.getD xs i 0))), (T.int .i64 (List.getD xs i 0) = T.int .i64 (List.getD xs i 0)), (C Try.prog g (pre ++ ([T.int .i64 (List.getD xs i 0)] ++ caps)) (T.bool true))]) (r := T.int .i64 (i : Int)) (by kernel_rfl) ⟨trivial, h1, ⟨by omega, by omega⟩, at1 (by simp) (by omega), rfl, (C.toB h2 (hg (List.getD xs i 0))), trivial⟩ (by rw [idxOf_found (i := i) (by omega) hall (by assumption)]) (fun _ h => h)
    · -- no
      have g2 := h2
      try simp only [Bool.and_eq_true, Bool.or_eq_true, Bool.and_eq_false_iff, Bool.or_eq_false_iff, Bool.not_eq_true', Bool.not_eq_false', decide_eq_true_eq, decide_eq_false_iff_not, beq_iff_eq, beq_eq_false_iff_ne, bne_iff_ne, Int.toNat_natCast, ne_eq, ge_iff_le, gt_iff_lt] at g2
      refine WP.path tab_ok mixed [(9, An.b true), (15, An.v (T.int .i64 (List.getD xs i 0))), (16, An.call (T.bool false)), (18, An.v (T.int .i64 (((i + 1 : Nat) : Int))))] [.keep [8, 7, 4, 0, 1], .keepO [], .names []] (ps := [(True), ((decide ((i : Int) < ((List.length xs : Nat) : Int))) = true), ((0 ≤ (i : Int) ∧ (i : Int) < ((List.length xs : Nat) : Int))), ((List.drop ((Int.toNat (i : Int)) * 1) (List.map (T.int .i64) xs) : List T)[0]? = some (T.int .i64 (List.getD xs i 0))), (T.int .i64 (List.getD xs i 0) = T.int .i64 (List.getD xs i 0)), (C Try.prog g (pre ++ ([T.int .i64 (List.getD xs i 0)] ++ caps)) (T.bool false)), (True), (T.int .i64 (IntKind.wrap .i64 ((i : Int) + (1 : Int))) = T.int .i64 (((i + 1 : Nat) : Int)))]) (e := .normal) (σ' := ⟨[], [(8, V.t (T.int .i64 ((i + 1) : Int))), (7, V.t (T.int .i64 ((List.length xs : Nat) : Int))), (4, V.t (T.int .i64 0)), (0, V.t (T.list (List.length xs) 1 (List.map (T.int .i64) xs))), (1, V.t (T.fn g pre caps))], []⟩) (by kernel_rfl) ⟨trivial, h1, ⟨by omega, by omega⟩, at1 (by simp) (by omega), rfl, (C.toB h2 (hg (List.getD xs i 0))), trivial, wrapT_i64 (by omega) (by omega), trivial⟩ ?_
      exact ⟨i + 1, ⟨by omega, all_step hall (by simpa using (by assumption : p _ = false))⟩, by first | omega | (dsimp only; omega), rfl⟩
  · -- no
    have g1 : ¬ ((i : Int) < ((List.length xs : Nat) : Int)) := of_decide_eq_false h1
    refine WP.path tab_ok mixed [(9, An.b false)] [.keep [4], .keepO []] (ps := [(True), ((decide ((i : Int) < ((List.length xs : Nat) : Int))) = false)]) (e := (.exit 0)) (σ' := ⟨[], [(4, V.t (T.int .i64 0))], []⟩) (by kernel_rfl) ⟨trivial, h1, trivial⟩ ?_
    exact WP.pathR tab_ok mixed [] _ (ps := []) (r := T.int .i64 (-1)) (by kernel_rfl) trivial (by rw [idxOf_none (i := i) hall (by omega)]) (fun _ h => h)
theorem containsFunc_C (xs : List Int) (g : FuncId) (pre : List T) (caps : List T) (p : Int → Bool) (hg : ∀ x, C Try.prog g (pre ++ ([T.int .i64 x] ++ caps)) (T.bool (p x))) (hx : xs.length ≤ 9223372036854775807) : C Try.prog 217 [T.list (List.length xs) 1 (List.map (T.int .i64) xs), T.fn g pre caps] (T.bool (xs.any p)) := by
  refine C.intro (tab := tab) tab_ok (fn := Try.f217) Try.func217 (by kernel_rfl) rfl (Nat.le_of_ble_eq_true rfl) ?_
  exact WP.pathR tab_ok mixed [(7, An.call (T.int .i64 (idxOf p xs)))] _ (ps := [(C Try.prog 256 [T.list (List.length xs) 1 (List.map (T.int .i64) xs), T.fn g pre caps] (T.int .i64 (idxOf p xs))), (True)]) (r := T.bool (decide ((idxOf p xs) ≥ (0 : Int)))) (by kernel_rfl) ⟨(indexFunc_C xs _ _ _ p hg (by omega)), trivial, trivial⟩ (by rw [idxOf_any]) (fun _ h => h)
theorem isState1_C (x : Int) (xs : List Int) (m : Int) : C Try.prog 218 [T.int .i64 x, T.ptr [T.list (List.length xs) 1 (List.map (T.int .i64) xs), T.int .i64 m]] (T.bool (!(decide (-1 ≤ x) && decide (x ≤ m)))) := by
  refine C.intro (tab := tab) tab_ok (fn := Try.f218) Try.func218 (by kernel_rfl) rfl (Nat.le_of_ble_eq_true rfl) ?_
  exact WP.pathR tab_ok mixed [(7, An.call (T.bool (decide ((-1 : Int) ≤ x) && decide (x ≤ m))))] _ (ps := [(True), (C Try.prog 174 [T.int .i64 x, T.int .i64 (-1), T.int .i64 m] (T.bool (decide ((-1 : Int) ≤ x) && decide (x ≤ m))))]) (r := T.bool (!(decide ((-1 : Int) ≤ x) && decide (x ≤ m)))) (by kernel_rfl) ⟨trivial, (by have hh := (in_C x (-1 : Int) m); simpa using hh), trivial⟩ (by first | rfl | simp [*]) (fun _ h => h)
theorem isState_C (xs : List Int) (m : Int) (hx : xs.length ≤ 9223372036854775807) : C Try.prog 99 [T.agg [T.list (List.length xs) 1 (List.map (T.int .i64) xs), T.int .i64 m]] (T.bool (isStateN xs m)) := by
  refine C.intro (tab := tab) tab_ok (fn := Try.f99) Try.func99 (by kernel_rfl) rfl (Nat.le_of_ble_eq_true rfl) ?_
  rcases Bool.eq_false_or_eq_true (decide (1 ≤ ((List.length xs : Nat) : Int)) && decide (((List.length xs : Nat) : Int) ≤ 12)) with h1 | h1
  · -- yes
    have g1 := h1
    try simp only [Bool.and_eq_true, Bool.or_eq_true, Bool.and_eq_false_iff, Bool.or_eq_false_iff, Bool.not_eq_true', Bool.not_eq_false', decide_eq_true_eq, decide_eq_false_iff_not, beq_iff_eq, beq_eq_false_iff_ne, bne_iff_ne, Int.toNat_natCast, ne_eq, ge_iff_le, gt_iff_lt] at g1
    rcases Bool.eq_false_or_eq_true (decide (0 ≤ m) && decide (m ≤ 2)) with h2 | h2
    · -- yes
      have g2 := h2
      try simp only [Bool.and_eq_true, Bool.or_eq_true, Bool.and_eq_false_iff, Bool.or_eq_false_iff, Bool.not_eq_true', Bool.not_eq_false', decide_eq_true_eq, decide_eq_false_iff_not, beq_iff_eq, beq_eq_false_iff_ne, bne_iff_ne, Int.toNat_natCast, ne_eq, ge_iff_le, gt_iff_lt] at g2
      exact WP.pathR tab_ok mixed [(1, An.fz), (6, An.call (T.bool true)), (10, An.call (T.bool true)), (16, An.call (T.bool (List.any xs (fun x => !(decide (-1 ≤ x) && decide (x ≤ m))))))] _ (ps := [(True), (C Try.prog 163 [T.int .i64 ((List.length xs : Nat) : Int)] (T.bool true)), (True), (C Try.prog 140 [T.int .i64 m] (T.bool true)), (True), (C Try.prog 217 [T.list (List.length xs) 1 (List.map (T.int .i64) xs), T.fn 218 [] [T.ptr [T.list (List.length xs) 1 (List.map (T.int .i64) xs), T.int .i64 m]]] (T.bool (List.any xs (fun x => !(decide (-1 ≤ x) && decide (x ≤ m))))))]) (r := T.bool (!(List.any xs (fun x => !(decide (-1 ≤ x) && decide (x ≤ m)))))) (by kernel_rfl) ⟨trivial, (C.toB h1 (isCount_C ((List.length xs : Nat) : Int))), trivial, (C.toB h2 (isMost_C m)), trivial, (containsFunc_C xs _ _ _ (fun x => !(decide (-1 ≤ x) && decide (x ≤ m))) (fun x => (isState1_C x xs m)) (by first | omega | (simp only [List.length_take, List.length_drop, List.length_map, List.length_append]; omega))), trivial⟩ (by first | rfl | (unfold isStateN; (try rw [h1]); (try rw [h2]); rfl)) (fun _ h => h)
    · -- no
      have g2 := h2
      try simp only [Bool.and_eq_true, Bool.or_eq_true, Bool.and_eq_false_iff, Bool.or_eq_false_iff, Bool.not_eq_true', Bool.not_eq_false', decide_eq_true_eq, decide_eq_false_iff_not, beq_iff_eq, beq_eq_false_iff_ne, bne_iff_ne, Int.toNat_natCast, ne_eq, ge_iff_le, gt_iff_lt] at g2
      exact WP.pathR tab_ok mixed [(1, An.fz), (6, An.call (T.bool true)), (10, An.call (T.bool false))] _ (ps := [(True), (C Try.prog 163 [T.int .i64 ((List.length xs : Nat) : Int)] (T.bool true)), (True), (C Try.prog 140 [T.int .i64 m] (T.bool false))]) (r := T.bool false) (by kernel_rfl) ⟨trivial, (C.toB h1 (isCount_C ((List.length xs : Nat) : Int))), trivial, (C.toB h2 (isMost_C m)), trivial⟩ (by first | rfl | (unfold isStateN; (try rw [h1]); (try rw [h2]); rfl)) (fun _ h => h)
  · -- no
    have g1 := h1
    try simp only [Bool.and_eq_true, Bool.or_eq_true, Bool.and_eq_false_iff, Bool.or_eq_false_iff, Bool.not_eq_true', Bool.not_eq_false', decide_eq_true_eq, decide_eq_false_iff_not, beq_iff_eq, beq_eq_false_iff_ne, bne_iff_ne, Int.toNat_natCast, ne_eq, ge_iff_le, gt_iff_lt] at g1
    exact WP.pathR tab_ok mixed [(1, An.fz), (6, An.call (T.bool false))] _ (ps := [(True), (C Try.prog 163 [T.int .i64 ((List.length xs : Nat) : Int)] (T.bool false))]) (r := T.bool false) (by kernel_rfl) ⟨trivial, (C.toB h1 (isCount_C ((List.length xs : Nat) : Int))), trivial⟩ (by first | rfl | (unfold isStateN; (try rw [h1]); rfl)) (fun _ h => h)
theorem isNumber_C (n : Int) (s : Int) : C Try.prog 156 [T.int .i64 n, T.int .i64 s] (T.bool (numB n s)) := by
  refine C.intro (tab := tab) tab_ok (fn := Try.f156) Try.func156 (by kernel_rfl) rfl (Nat.le_of_ble_eq_true rfl) ?_
  rcases Bool.eq_false_or_eq_true (decide (1 ≤ n) && decide (n ≤ 12)) with h1 | h1
  · -- yes
    have g1 := h1
    try simp only [Bool.and_eq_true, Bool.or_eq_true, Bool.and_eq_false_iff, Bool.or_eq_false_iff, Bool.not_eq_true', Bool.not_eq_false', decide_eq_true_eq, decide_eq_false_iff_not, beq_iff_eq, beq_eq_false_iff_ne, bne_iff_ne, Int.toNat_natCast, ne_eq, ge_iff_le, gt_iff_lt] at g1
    exact WP.pathR tab_ok mixed [(6, An.call (T.bool true)), (10, An.v (T.int .i64 (n - (1 : Int)))), (11, An.call (T.bool (decide ((0 : Int) ≤ s) && decide (s ≤ (n - (1 : Int))))))] _ (ps := [(C Try.prog 163 [T.int .i64 n] (T.bool true)), (True), (T.int .i64 (IntKind.wrap .i64 (n - (1 : Int))) = T.int .i64 (n - (1 : Int))), (C Try.prog 174 [T.int .i64 s, T.int .i64 0, T.int .i64 (n - (1 : Int))] (T.bool (decide ((0 : Int) ≤ s) && decide (s ≤ (n - (1 : Int))))))]) (r := T.bool (decide ((0 : Int) ≤ s) && decide (s ≤ (n - (1 : Int))))) (by kernel_rfl) ⟨(C.toB h1 (isCount_C n)), trivial, wrapT_i64 (by omega) (by omega), (by have hh := (in_C s (0 : Int) (n - (1 : Int))); simpa using hh), trivial⟩ (by first | rfl | (unfold numB; (try rw [h1]); rfl)) (fun _ h => h)
  · -- no
    have g1 := h1
    try simp only [Bool.and_eq_true, Bool.or_eq_true, Bool.and_eq_false_iff, Bool.or_eq_false_iff, Bool.not_eq_true', Bool.not_eq_false', decide_eq_true_eq, decide_eq_false_iff_not, beq_iff_eq, beq_eq_false_iff_ne, bne_iff_ne, Int.toNat_natCast, ne_eq, ge_iff_le, gt_iff_lt] at g1
    exact WP.pathR tab_ok mixed [(6, An.call (T.bool false))] _ (ps := [(C Try.prog 163 [T.int .i64 n] (T.bool false))]) (r := T.bool false) (by kernel_rfl) ⟨(C.toB h1 (isCount_C n)), trivial⟩ (by first | rfl | (unfold numB; (try rw [h1]); rfl)) (fun _ h => h)
theorem l1In_C (x : Int) (lo : Int) (hi : Int) : C Try.prog 135 [T.int .i64 x, T.int .i64 lo, T.int .i64 hi] (T.bool (decide (x ≥ lo) && decide (x ≤ hi))) := by
  refine C.intro (tab := tab) tab_ok (fn := Try.f135) Try.func135 (by kernel_rfl) rfl (Nat.le_of_ble_eq_true rfl) ?_
  rcases Bool.eq_false_or_eq_true (decide (x ≥ lo)) with h1 | h1
  · -- yes
    have g1 : x ≥ lo := of_decide_eq_true h1
    exact WP.pathR tab_ok mixed [(9, An.b true)] _ (ps := [(True), ((decide (x ≥ lo)) = true), (True)]) (r := T.bool (decide (x ≤ hi))) (by kernel_rfl) ⟨trivial, h1, trivial, trivial⟩ (by first | rfl | simp [*]) (fun _ h => h)
  · -- no
    have g1 : ¬ (x ≥ lo) := of_decide_eq_false h1
    exact WP.pathR tab_ok mixed [(9, An.b false)] _ (ps := [(True), ((decide (x ≥ lo)) = false)]) (r := T.bool false) (by kernel_rfl) ⟨trivial, h1, trivial⟩ (by first | rfl | simp [*]) (fun _ h => h)
theorem l2State_C (xs : List Int) (m : Int) (hx : xs.length ≤ 9223372036854775807) : C Try.prog 187 [T.agg [T.list (List.length xs) 1 (List.map (T.int .i64) xs), T.int .i64 m]] (T.bool (isStateN xs m)) := by
  refine C.intro (tab := tab) tab_ok (fn := Try.f187) Try.func187 (by kernel_rfl) rfl (Nat.le_of_ble_eq_true rfl) ?_
  refine WP.seq ?_
  refine WP.path tab_ok mixed [(1, An.fz)] [.keep [2, 1], .keepO []] (ps := []) (e := .normal) (σ' := ⟨[], [(2, V.t (T.bool false)), (1, V.t (T.ptr [T.list (List.length xs) 1 (List.map (T.int .i64) xs), T.int .i64 m]))], []⟩) (by kernel_rfl) trivial ?_
  refine WP.seq ?_
  refine WP.seq ?_
  refine WP.path tab_ok mixed [] [.keep [3, 2, 1], .keepO []] (ps := []) (e := .normal) (σ' := ⟨[], [(3, V.t (T.int .i64 0)), (2, V.t (T.bool false)), (1, V.t (T.ptr [T.list (List.length xs) 1 (List.map (T.int .i64) xs), T.int .i64 m]))], []⟩) (by kernel_rfl) trivial ?_
  refine WP.block ?_
  refine WP.wk [.keep [3, 2, 1], .keepO [], .names []] (σ' := ⟨[], [(3, V.t (T.int .i64 ((0) : Int))), (2, V.t (T.bool false)), (1, V.t (T.ptr [T.list (List.length xs) 1 (List.map (T.int .i64) xs), T.int .i64 m]))], []⟩) (ps := []) (by kernel_rfl) trivial ?_
  refine WP.loop (α := Nat) (fun zz => ⟨[], [(3, V.t (T.int .i64 (zz : Int))), (2, V.t (T.bool false)), (1, V.t (T.ptr [T.list (List.length xs) 1 (List.map (T.int .i64) xs), T.int .i64 m]))], []⟩) (fun zz => zz ≤ xs.length ∧ zz ≤ 13 ∧ ∀ j, j < zz → (decide (xs.getD j 0 ≥ -1) && decide (xs.getD j 0 ≤ m)) = true) (fun zz => (min xs.length 13) - zz) 0 (⟨by omega, by omega, fun j h => by omega⟩) ?_
  intro i hinv0
  have hinv : i ≤ xs.length ∧ i ≤ 13 ∧ ∀ j, j < i → (decide (xs.getD j 0 ≥ -1) && decide (xs.getD j 0 ≤ m)) = true := hinv0
  obtain ⟨hi, hi2, hall⟩ := hinv
  rcases Bool.eq_false_or_eq_true (decide ((i : Int) < ((List.length xs : Nat) : Int))) with h1 | h1
  · -- yes
    have g1 : (i : Int) < ((List.length xs : Nat) : Int) := of_decide_eq_true h1
    rcases Bool.eq_false_or_eq_true (decide ((i : Int) ≤ (12 : Int))) with h2 | h2
    · -- yes
      have g2 : (i : Int) ≤ (12 : Int) := of_decide_eq_true h2
      rcases Bool.eq_false_or_eq_true (decide ((List.getD xs i 0) ≥ (-1 : Int)) && decide ((List.getD xs i 0) ≤ m)) with h3 | h3
      · -- yes
        have g3 := h3
        try simp only [Bool.and_eq_true, Bool.or_eq_true, Bool.and_eq_false_iff, Bool.or_eq_false_iff, Bool.not_eq_true', Bool.not_eq_false', decide_eq_true_eq, decide_eq_false_iff_not, beq_iff_eq, beq_eq_false_iff_ne, bne_iff_ne, Int.toNat_natCast, ne_eq, ge_iff_le, gt_iff_lt] at g3
        refine WP.path tab_ok mixed [(8, An.b true), (11, An.b true), (19, An.v (T.int .i64 (List.getD xs i 0))), (22, An.call (T.bool true)), (14, An.v (T.int .i64 (((i + 1 : Nat) : Int))))] [.keep [3, 2, 1], .keepO [], .names []] (ps := [(True), (True), ((decide ((i : Int) < ((List.length xs : Nat) : Int))) = true), (True), ((decide ((i : Int) ≤ (12 : Int))) = true), (True), ((0 ≤ (i : Int) ∧ (i : Int) < ((List.length xs : Nat) : Int))), ((List.drop ((Int.toNat (i : Int)) * 1) (List.map (T.int .i64) xs) : List T)[0]? = some (T.int .i64 (List.getD xs i 0))), (T.int .i64 (List.getD xs i 0) = T.int .i64 (List.getD xs i 0)), (True), (C Try.prog 135 [T.int .i64 (List.getD xs i 0), T.int .i64 (-1), T.int .i64 m] (T.bool true)), (True), (T.int .i64 (IntKind.wrap .i64 ((i : Int) + (1 : Int))) = T.int .i64 (((i + 1 : Nat) : Int)))]) (e := .normal) (σ' := ⟨[], [(3, V.t (T.int .i64 ((i + 1) : Int))), (2, V.t (T.bool false)), (1, V.t (T.ptr [T.list (List.length xs) 1 (List.map (T.int .i64) xs), T.int .i64 m]))], []⟩) (by kernel_rfl) ⟨trivial, trivial, h1, trivial, h2, trivial, ⟨by omega, by omega⟩, at1 (by simp) (by omega), rfl, trivial, (C.toB h3 (by have hh := (l1In_C (List.getD xs i 0) (-1 : Int) m); simpa using hh)), trivial, wrapT_i64 (by omega) (by omega), trivial⟩ ?_
        exact ⟨i + 1, ⟨by omega, by omega, all_step hall (by simpa using (by assumption : (decide (_ ≥ (-1 : Int)) && decide (_ ≤ m)) = true))⟩, by first | omega | (dsimp only; omega), rfl⟩
      · -- no
        have g3 := h3
        try simp only [Bool.and_eq_true, Bool.or_eq_true, Bool.and_eq_false_iff, Bool.or_eq_false_iff, Bool.not_eq_true', Bool.not_eq_false', decide_eq_true_eq, decide_eq_false_iff_not, beq_iff_eq, beq_eq_false_iff_ne, bne_iff_ne, Int.toNat_natCast, ne_eq, ge_iff_le, gt_iff_lt] at g3
        exact WP.pathR tab_ok mixed [(8, An.b true), (11, An.b true), (19, An.v (T.int .i64 (List.getD xs i 0))), (22, An.call (T.bool false))] _ (ps := [(True), (True), ((decide ((i : Int) < ((List.length xs : Nat) : Int))) = true), (True), ((decide ((i : Int) ≤ (12 : Int))) = true), (True), ((0 ≤ (i : Int) ∧ (i : Int) < ((List.length xs : Nat) : Int))), ((List.drop ((Int.toNat (i : Int)) * 1) (List.map (T.int .i64) xs) : List T)[0]? = some (T.int .i64 (List.getD xs i 0))), (T.int .i64 (List.getD xs i 0) = T.int .i64 (List.getD xs i 0)), (True), (C Try.prog 135 [T.int .i64 (List.getD xs i 0), T.int .i64 (-1), T.int .i64 m] (T.bool false))]) (r := T.bool false) (by kernel_rfl) ⟨trivial, trivial, h1, trivial, h2, trivial, ⟨by omega, by omega⟩, at1 (by simp) (by omega), rfl, trivial, (C.toB h3 (by have hh := (l1In_C (List.getD xs i 0) (-1 : Int) m); simpa using hh)), trivial⟩ (by first | exact l2State_bad hi hi2 (by omega) (by assumption) | exact l2State_short (by omega) | exact l2State_end hall (by omega) (by omega) | (exfalso; omega)) (fun _ h => h)
    · -- no
      have g2 : ¬ ((i : Int) ≤ (12 : Int)) := of_decide_eq_false h2
      refine WP.path tab_ok mixed [(8, An.b true), (11, An.b false)] [.keep [2, 1], .keepO []] (ps := [(True), (True), ((decide ((i : Int) < ((List.length xs : Nat) : Int))) = true), (True), ((decide ((i : Int) ≤ (12 : Int))) = false)]) (e := (.exit 0)) (σ' := ⟨[], [(2, V.t (T.bool false)), (1, V.t (T.ptr [T.list (List.length xs) 1 (List.map (T.int .i64) xs), T.int .i64 m]))], []⟩) (by kernel_rfl) ⟨trivial, trivial, h1, trivial, h2, trivial⟩ ?_
      rcases Bool.eq_false_or_eq_true (decide (((List.length xs : Nat) : Int) ≥ (1 : Int)) && decide (((List.length xs : Nat) : Int) ≤ (12 : Int))) with h4 | h4
      · -- yes
        have g4 := h4
        try simp only [Bool.and_eq_true, Bool.or_eq_true, Bool.and_eq_false_iff, Bool.or_eq_false_iff, Bool.not_eq_true', Bool.not_eq_false', decide_eq_true_eq, decide_eq_false_iff_not, beq_iff_eq, beq_eq_false_iff_ne, bne_iff_ne, Int.toNat_natCast, ne_eq, ge_iff_le, gt_iff_lt] at g4
        exact WP.pathR tab_ok mixed [(27, An.call (T.bool true)), (31, An.call (T.bool (decide (m ≥ (0 : Int)) && decide (m ≤ (2 : Int)))))] _ (ps := [(True), (C Try.prog 135 [T.int .i64 ((List.length xs : Nat) : Int), T.int .i64 1, T.int .i64 12] (T.bool true)), (True), (C Try.prog 135 [T.int .i64 m, T.int .i64 0, T.int .i64 2] (T.bool (decide (m ≥ (0 : Int)) && decide (m ≤ (2 : Int)))))]) (r := T.bool (decide (m ≥ (0 : Int)) && decide (m ≤ (2 : Int)))) (by kernel_rfl) ⟨trivial, (C.toB h4 (by have hh := (l1In_C ((List.length xs : Nat) : Int) (1 : Int) (12 : Int)); simpa using hh)), trivial, (by have hh := (l1In_C m (0 : Int) (2 : Int)); simpa using hh), trivial⟩ (by first | exact l2State_bad hi hi2 (by omega) (by assumption) | exact l2State_short (by omega) | exact l2State_end hall (by omega) (by omega) | (exfalso; omega)) (fun _ h => h)
      · -- no
        have g4 := h4
        try simp only [Bool.and_eq_true, Bool.or_eq_true, Bool.and_eq_false_iff, Bool.or_eq_false_iff, Bool.not_eq_true', Bool.not_eq_false', decide_eq_true_eq, decide_eq_false_iff_not, beq_iff_eq, beq_eq_false_iff_ne, bne_iff_ne, Int.toNat_natCast, ne_eq, ge_iff_le, gt_iff_lt] at g4
        exact WP.pathR tab_ok mixed [(27, An.call (T.bool false))] _ (ps := [(True), (C Try.prog 135 [T.int .i64 ((List.length xs : Nat) : Int), T.int .i64 1, T.int .i64 12] (T.bool false))]) (r := T.bool false) (by kernel_rfl) ⟨trivial, (C.toB h4 (by have hh := (l1In_C ((List.length xs : Nat) : Int) (1 : Int) (12 : Int)); simpa using hh)), trivial⟩ (by first | exact l2State_bad hi hi2 (by omega) (by assumption) | exact l2State_short (by omega) | exact l2State_end hall (by omega) (by omega) | (exfalso; omega)) (fun _ h => h)
  · -- no
    have g1 : ¬ ((i : Int) < ((List.length xs : Nat) : Int)) := of_decide_eq_false h1
    refine WP.path tab_ok mixed [(8, An.b false)] [.keep [2, 1], .keepO []] (ps := [(True), (True), ((decide ((i : Int) < ((List.length xs : Nat) : Int))) = false)]) (e := (.exit 0)) (σ' := ⟨[], [(2, V.t (T.bool false)), (1, V.t (T.ptr [T.list (List.length xs) 1 (List.map (T.int .i64) xs), T.int .i64 m]))], []⟩) (by kernel_rfl) ⟨trivial, trivial, h1, trivial⟩ ?_
    rcases Bool.eq_false_or_eq_true (decide (((List.length xs : Nat) : Int) ≥ (1 : Int)) && decide (((List.length xs : Nat) : Int) ≤ (12 : Int))) with h5 | h5
    · -- yes
      have g5 := h5
      try simp only [Bool.and_eq_true, Bool.or_eq_true, Bool.and_eq_false_iff, Bool.or_eq_false_iff, Bool.not_eq_true', Bool.not_eq_false', decide_eq_true_eq, decide_eq_false_iff_not, beq_iff_eq, beq_eq_false_iff_ne, bne_iff_ne, Int.toNat_natCast, ne_eq, ge_iff_le, gt_iff_lt] at g5
      exact WP.pathR tab_ok mixed [(27, An.call (T.bool true)), (31, An.call (T.bool (decide (m ≥ (0 : Int)) && decide (m ≤ (2 : Int)))))] _ (ps := [(True), (C Try.prog 135 [T.int .i64 ((List.length xs : Nat) : Int), T.int .i64 1, T.int .i64 12] (T.bool true)), (True), (C Try.prog 135 [T.int .i64 m, T.int .i64 0, T.int .i64 2] (T.bool (decide (m ≥ (0 : Int)) && decide (m ≤ (2 : Int)))))]) (r := T.bool (decide (m ≥ (0 : Int)) && decide (m ≤ (2 : Int)))) (by kernel_rfl) ⟨trivial, (C.toB h5 (by have hh := (l1In_C ((List.length xs : Nat) : Int) (1 : Int) (12 : Int)); simpa using hh)), trivial, (by have hh := (l1In_C m (0 : Int) (2 : Int)); simpa using hh), trivial⟩ (by first | exact l2State_bad hi hi2 (by omega) (by assumption) | exact l2State_short (by omega) | exact l2State_end hall (by omega) (by omega) | (exfalso; omega)) (fun _ h => h)
    · -- no
      have g5 := h5
      try simp only [Bool.and_eq_true, Bool.or_eq_true, Bool.and_eq_false_iff, Bool.or_eq_false_iff, Bool.not_eq_true', Bool.not_eq_false', decide_eq_true_eq, decide_eq_false_iff_not, beq_iff_eq, beq_eq_false_iff_ne, bne_iff_ne, Int.toNat_natCast, ne_eq, ge_iff_le, gt_iff_lt] at g5
      exact WP.pathR tab_ok mixed [(27, An.call (T.bool false))] _ (ps := [(True), (C Try.prog 135 [T.int .i64 ((List.length xs : Nat) : Int), T.int .i64 1, T.int .i64 12] (T.bool false))]) (r := T.bool false) (by kernel_rfl) ⟨trivial, (C.toB h5 (by have hh := (l1In_C ((List.length xs : Nat) : Int) (1 : Int) (12 : Int)); simpa using hh)), trivial⟩ (by first | exact l2State_bad hi hi2 (by omega) (by assumption) | exact l2State_short (by omega) | exact l2State_end hall (by omega) (by omega) | (exfalso; omega)) (fun _ h => h)
theorem l1Least_C (a : Int) (b : Int) : C Try.prog 196 [T.int .i64 a, T.int .i64 b] (T.int .i64 (minN a b)) := by
  refine C.intro (tab := tab) tab_ok (fn := Try.f196) Try.func196 (by kernel_rfl) rfl (Nat.le_of_ble_eq_true rfl) ?_
  rcases Bool.eq_false_or_eq_true (decide (a < b)) with h1 | h1
  · -- yes
    have g1 : a < b := of_decide_eq_true h1
    exact WP.pathR tab_ok mixed [(7, An.b true)] _ (ps := [(True), ((decide (a < b)) = true)]) (r := T.int .i64 a) (by kernel_rfl) ⟨trivial, h1, trivial⟩ (by unfold minN; rw [if_pos (of_decide_eq_true h1)]) (fun _ h => h)
  · -- no
    have g1 : ¬ (a < b) := of_decide_eq_false h1
    exact WP.pathR tab_ok mixed [(7, An.b false)] _ (ps := [(True), ((decide (a < b)) = false)]) (r := T.int .i64 b) (by kernel_rfl) ⟨trivial, h1, trivial⟩ (by unfold minN; rw [if_neg (of_decide_eq_false h1)]) (fun _ h => h)
theorem vInts_C (xs : List Int) (ys : List Int) (hx : xs.length ≤ 9223372036854775807) (hy : ys.length ≤ 9223372036854775807) : C Try.prog 68 [T.list (List.length xs) 1 (List.map (T.int .i64) xs), T.list (List.length ys) 1 (List.map (T.int .i64) ys)] (T.bool (xs == ys)) := by
  refine C.intro (tab := tab) tab_ok (fn := Try.f68) Try.func68 (by kernel_rfl) rfl (Nat.le_of_ble_eq_true rfl) ?_
  refine WP.seq ?_
  refine WP.path tab_ok mixed [] [.keep [4, 0, 1], .keepO []] (ps := []) (e := .normal) (σ' := ⟨[], [(4, V.t (T.bool false)), (0, V.t (T.list (List.length xs) 1 (List.map (T.int .i64) xs))), (1, V.t (T.list (List.length ys) 1 (List.map (T.int .i64) ys)))], []⟩) (by kernel_rfl) trivial ?_
  refine WP.seq ?_
  rcases Bool.eq_false_or_eq_true (((List.length xs : Nat) : Int) != ((List.length ys : Nat) : Int)) with h1 | h1
  · -- yes
    have g1 : ¬ (((List.length xs : Nat) : Int) = ((List.length ys : Nat) : Int)) := ne_of_bne h1
    exact WP.pathR tab_ok mixed [(10, An.b true)] _ (ps := [(True), ((((List.length xs : Nat) : Int) != ((List.length ys : Nat) : Int)) = true)]) (r := T.bool false) (by kernel_rfl) ⟨trivial, h1, trivial⟩ (by first | exact eqL_bad (i := i) (by assumption) | exact eqL_good hall (by omega) (by omega) | exact eqL_len (by omega)) (fun _ h => h)
  · -- no
    have g1 : ((List.length xs : Nat) : Int) = ((List.length ys : Nat) : Int) := eq_of_bne_false h1
    refine WP.path tab_ok mixed [(10, An.b false)] [.keep [4, 0, 1], .keepO []] (ps := [(True), ((((List.length xs : Nat) : Int) != ((List.length ys : Nat) : Int)) = false)]) (e := .normal) (σ' := ⟨[], [(4, V.t (T.bool false)), (0, V.t (T.list (List.length xs) 1 (List.map (T.int .i64) xs))), (1, V.t (T.list (List.length ys) 1 (List.map (T.int .i64) ys)))], []⟩) (by kernel_rfl) ⟨trivial, h1, trivial⟩ ?_
    refine WP.seq ?_
    refine WP.seq ?_
    refine WP.path tab_ok mixed [] [.keep [5, 4, 0, 1], .keepO []] (ps := []) (e := .normal) (σ' := ⟨[], [(5, V.t (T.int .i64 0)), (4, V.t (T.bool false)), (0, V.t (T.list (List.length xs) 1 (List.map (T.int .i64) xs))), (1, V.t (T.list (List.length ys) 1 (List.map (T.int .i64) ys)))], []⟩) (by kernel_rfl) trivial ?_
    refine WP.block ?_
    refine WP.wk [.keep [5, 4, 0, 1], .keepO [], .names []] (σ' := ⟨[], [(5, V.t (T.int .i64 ((0) : Int))), (4, V.t (T.bool false)), (0, V.t (T.list (List.length xs) 1 (List.map (T.int .i64) xs))), (1, V.t (T.list (List.length ys) 1 (List.map (T.int .i64) ys)))], []⟩) (ps := []) (by kernel_rfl) trivial ?_
    refine WP.loop (α := Nat) (fun zz => ⟨[], [(5, V.t (T.int .i64 (zz : Int))), (4, V.t (T.bool false)), (0, V.t (T.list (List.length xs) 1 (List.map (T.int .i64) xs))), (1, V.t (T.list (List.length ys) 1 (List.map (T.int .i64) ys)))], []⟩) (fun zz => zz ≤ xs.length ∧ ∀ j, j < zz → xs.getD j 0 = ys.getD j 0) (fun zz => xs.length - zz) 0 (⟨by omega, fun j h => by omega⟩) ?_
    intro i hinv0
    have hinv : i ≤ xs.length ∧ ∀ j, j < i → xs.getD j 0 = ys.getD j 0 := hinv0
    obtain ⟨hi, hall⟩ := hinv
    rcases Bool.eq_false_or_eq_true (decide ((i : Int) < ((List.length xs : Nat) : Int))) with h2 | h2
    · -- yes
      have g2 : (i : Int) < ((List.length xs : Nat) : Int) := of_decide_eq_true h2
      rcases Bool.eq_false_or_eq_true ((List.getD xs i 0) != (List.getD ys i 0)) with h3 | h3
      · -- yes
        have g3 : ¬ ((List.getD xs i 0) = (List.getD ys i 0)) := ne_of_bne h3
        exact WP.pathR tab_ok mixed [(14, An.b true), (20, An.v (T.int .i64 (List.getD xs i 0))), (24, An.v (T.int .i64 (List.getD ys i 0))), (25, An.b true)] _ (ps := [(True), ((decide ((i : Int) < ((List.length xs : Nat) : Int))) = true), ((0 ≤ (i : Int) ∧ (i : Int) < ((List.length xs : Nat) : Int))), ((List.drop ((Int.toNat (i : Int)) * 1) (List.map (T.int .i64) xs) : List T)[0]? = some (T.int .i64 (List.getD xs i 0))), (T.int .i64 (List.getD xs i 0) = T.int .i64 (List.getD xs i 0)), ((0 ≤ (i : Int) ∧ (i : Int) < ((List.length ys : Nat) : Int))), ((List.drop ((Int.toNat (i : Int)) * 1) (List.map (T.int .i64) ys) : List T)[0]? = some (T.int .i64 (List.getD ys i 0))), (T.int .i64 (List.getD ys i 0) = T.int .i64 (List.getD ys i 0)), (True), (((List.getD xs i 0) != (List.getD ys i 0)) = true)]) (r := T.bool false) (by kernel_rfl) ⟨trivial, h2, ⟨by omega, by omega⟩, at1 (by simp) (by omega), rfl, ⟨by omega, by omega⟩, at1 (by simp) (by omega), rfl, trivial, h3, trivial⟩ (by first | exact eqL_bad (i := i) (by assumption) | exact eqL_good hall (by omega) (by omega) | exact eqL_len (by omega)) (fun _ h => h)
      · -- no
        have g3 : (List.getD xs i 0) = (List.getD ys i 0) := eq_of_bne_false h3
        refine WP.path tab_ok mixed [(14, An.b true), (20, An.v (T.int .i64 (List.getD xs i 0))), (24, An.v (T.int .i64 (List.getD ys i 0))), (25, An.b false), (16, An.v (T.int .i64 (((i + 1 : Nat) : Int))))] [.keep [5, 4, 0, 1], .keepO [], .names []] (ps := [(True), ((decide ((i : Int) < ((List.length xs : Nat) : Int))) = true), ((0 ≤ (i : Int) ∧ (i : Int) < ((List.length xs : Nat) : Int))), ((List.drop ((Int.toNat (i : Int)) * 1) (List.map (T.int .i64) xs) : List T)[0]? = some (T.int .i64 (List.getD xs i 0))), (T.int .i64 (List.getD xs i 0) = T.int .i64 (List.getD xs i 0)), ((0 ≤ (i : Int) ∧ (i : Int) < ((List.length ys : Nat) : Int))), ((List.drop ((Int.toNat (i : Int)) * 1) (List.map (T.int .i64) ys) : List T)[0]? = some (T.int .i64 (List.getD ys i 0))), (T.int .i64 (List.getD ys i 0) = T.int .i64 (List.getD ys i 0)), (True), (((List.getD xs i 0) != (List.getD ys i 0)) = false), (True), (T.int .i64 (IntKind.wrap .i64 ((i : Int) + (1 : Int))) = T.int .i64 (((i + 1 : Nat) : Int)))]) (e := .normal) (σ' := ⟨[], [(5, V.t (T.int .i64 ((i + 1) : Int))), (4, V.t (T.bool false)), (0, V.t (T.list (List.length xs) 1 (List.map (T.int .i64) xs))), (1, V.t (T.list (List.length ys) 1 (List.map (T.int .i64) ys)))], []⟩) (by kernel_rfl) ⟨trivial, h2, ⟨by omega, by omega⟩, at1 (by simp) (by omega), rfl, ⟨by omega, by omega⟩, at1 (by simp) (by omega), rfl, trivial, h3, trivial, wrapT_i64 (by omega) (by omega), trivial⟩ ?_
        exact ⟨i + 1, ⟨by omega, all_step hall (by first | assumption | omega)⟩, by first | omega | (dsimp only; omega), rfl⟩
    · -- no
      have g2 : ¬ ((i : Int) < ((List.length xs : Nat) : Int)) := of_decide_eq_false h2
      refine WP.path tab_ok mixed [(14, An.b false)] [.keep [4], .keepO []] (ps := [(True), ((decide ((i : Int) < ((List.length xs : Nat) : Int))) = false)]) (e := (.exit 0)) (σ' := ⟨[], [(4, V.t (T.bool false))], []⟩) (by kernel_rfl) ⟨trivial, h2, trivial⟩ ?_
      exact WP.pathR tab_ok mixed [] _ (ps := []) (r := T.bool true) (by kernel_rfl) trivial (by first | exact eqL_bad (i := i) (by assumption) | exact eqL_good hall (by omega) (by omega) | exact eqL_len (by omega)) (fun _ h => h)
theorem start_C_G (n : Int) (m : Int) (hn0 : 0 ≤ n) (hn1 : n ≤ 12) : CG Try.prog 165 [V.t (T.int .i64 n), V.t (T.int .i64 m)] [] (V.agg [V.own 9000 1 (List.length (List.replicate (Int.toNat n) (0 : Int))), V.t (T.int .i64 m)]) [(9000, Tl.Obj.cells 3 (List.map (T.int .i64) (List.replicate (Int.toNat n) (0 : Int))))] := by
  refine CG.intro (tab := tab) tab_ok (fn := Try.f165) Try.func165 (by kernel_rfl) rfl (Nat.le_of_ble_eq_true rfl) (by kernel_rfl) ?_
  exact WP.pathG tab_ok mixed [(4, An.id 2004), (6, An.id 2006)] [.keep [4], .keepO [2006, 2004], .names [(2006, 9000), (2004, 2004)]] [9000] _ (r' := V.agg [V.own 9000 1 (List.length (List.replicate (Int.toNat n) (0 : Int))), V.t (T.int .i64 m)]) (ps := [((0 ≤ n ∧ n ≤ n ∧ (8 : Int) * n ≤ 281474976710656 ∧ n ≤ (maxLen : Int))), ((1 = 1 ∧ 0 + 1 ≤ 2) ∧ (1 = 1 ∧ 1 + 1 ≤ 2) ∧ True), ((0 + 2 ≤ 2 ∧ 2 = 2)), (0 + 2 ≤ 2)]) (r := V.agg [V.own 9000 1 (Int.toNat n), V.t (T.int .i64 m)]) (N := [9000, 2004]) (O := [(9000, Tl.Obj.cells 3 (List.replicate (Int.toNat n) (T.int .i64 0)))]) [] (by kernel_rfl) ⟨⟨by omega, by omega, by omega, by simp only [maxLen]; omega⟩, ⟨⟨by decide, by decide⟩, ⟨by decide, by decide⟩, trivial⟩, ⟨by decide, by decide⟩, by decide, trivial⟩ ⟨(by first | rfl | (congr 1; first | done | omega | (simp; done) | (simp; omega)) | congr 1; simp), (WkT.eq (y := T.int .i64 m) (WkT.refl _) (by first | rfl | (congr 1; simp) | (refine congrArg V.t ?_; congr 1; simp))), trivial⟩ rfl (by first | rfl | (simp; done) | (simp; rfl)) (fun _ h => h)
theorem start_C (n : Int) (m : Int) (hn0 : 0 ≤ n) (hn1 : n ≤ 12) : C Try.prog 165 [(T.int .i64 n), (T.int .i64 m)] (T.agg [T.list (List.length (List.replicate (Int.toNat n) (0 : Int))) 1 (List.map (T.int .i64) (List.replicate (Int.toNat n) (0 : Int))), T.int .i64 m]) :=
  CG.toC (ps := [(List.length (List.map (T.int .i64) (List.replicate (Int.toNat n) (0 : Int))) = (List.length (List.replicate (Int.toNat n) (0 : Int))) * 1)]) (start_C_G n m hn0 hn1) (by rfl) ⟨by first | rfl | (simp; done) | omega | (simp; omega) | (simp [hl]; done) | (simp [hl]; omega), trivial⟩
theorem iStartState_C (a : Int) (b : Int) : C Try.prog 69 [T.int .i64 a, T.int .i64 b] (T.tup [T.agg [T.list (List.length (ssL a b)) 1 (List.map (T.int .i64) (ssL a b)), T.int .i64 (ssM a b)], T.bool (ssB a b)]) := by
  refine C.intro (tab := tab) tab_ok (fn := Try.f69) Try.func69 (by kernel_rfl) rfl (Nat.le_of_ble_eq_true rfl) ?_
  rcases Bool.eq_false_or_eq_true (decide (1 ≤ a) && decide (a ≤ 12)) with h1 | h1
  · -- yes
    have g1 := h1
    try simp only [Bool.and_eq_true, Bool.or_eq_true, Bool.and_eq_false_iff, Bool.or_eq_false_iff, Bool.not_eq_true', Bool.not_eq_false', decide_eq_true_eq, decide_eq_false_iff_not, beq_iff_eq, beq_eq_false_iff_ne, bne_iff_ne, Int.toNat_natCast, ne_eq, ge_iff_le, gt_iff_lt] at g1
    try have hcc := count_in h1
    try have hmm := most_ok h1
    rcases Bool.eq_false_or_eq_true (decide (0 ≤ b) && decide (b ≤ 2)) with h2 | h2
    · -- yes
      have g2 := h2
      try simp only [Bool.and_eq_true, Bool.or_eq_true, Bool.and_eq_false_iff, Bool.or_eq_false_iff, Bool.not_eq_true', Bool.not_eq_false', decide_eq_true_eq, decide_eq_false_iff_not, beq_iff_eq, beq_eq_false_iff_ne, bne_iff_ne, Int.toNat_natCast, ne_eq, ge_iff_le, gt_iff_lt] at g2
      try have hcc := count_in h2
      try have hmm := most_ok h2
      exact WP.pathR tab_ok mixed [(4, An.id 2004), (7, An.call (T.bool true)), (11, An.call (T.bool true)), (17, An.call (T.agg [T.list (List.length (List.replicate (Int.toNat a) (0 : Int))) 1 (List.map (T.int .i64) (List.replicate (Int.toNat a) (0 : Int))), T.int .i64 b]))] _ (ps := [(C Try.prog 163 [T.int .i64 a] (T.bool true)), (C Try.prog 140 [T.int .i64 b] (T.bool true)), (C Try.prog 165 [T.int .i64 a, T.int .i64 b] (T.agg [T.list (List.length (List.replicate (Int.toNat a) (0 : Int))) 1 (List.map (T.int .i64) (List.replicate (Int.toNat a) (0 : Int))), T.int .i64 b])), ((0 + 2 ≤ 2 ∧ 2 = 2)), (0 + 2 ≤ 2)]) (r := T.tup [T.agg [T.list (List.length (List.replicate (Int.toNat a) (0 : Int))) 1 (List.map (T.int .i64) (List.replicate (Int.toNat a) (0 : Int))), T.int .i64 b], T.bool true]) (by kernel_rfl) ⟨(C.toB h1 (isCount_C a)), (C.toB h2 (isMost_C b)), (start_C a b (by first | omega | (simp only [List.length_take, List.length_drop, List.length_map, List.length_append]; omega)) (by first | omega | (simp only [List.length_take, List.length_drop, List.length_map, List.length_append]; omega))), ⟨by first | decide | omega | (simp; omega) | (simp [hl]; done) | (simp [hl]; omega), by first | rfl | (simp; done) | omega | (simp; omega) | (simp [hl]; done) | (simp [hl]; omega)⟩, by first | decide | omega | (simp; omega) | (simp [hl]; done) | (simp [hl]; omega), trivial⟩ (by obtain ⟨e1, e2, e3⟩ := ss_yes h1 h2; simp only [e1, e2, e3]; try rfl) (fun _ h => h)
    · -- no
      have g2 := h2
      try simp only [Bool.and_eq_true, Bool.or_eq_true, Bool.and_eq_false_iff, Bool.or_eq_false_iff, Bool.not_eq_true', Bool.not_eq_false', decide_eq_true_eq, decide_eq_false_iff_not, beq_iff_eq, beq_eq_false_iff_ne, bne_iff_ne, Int.toNat_natCast, ne_eq, ge_iff_le, gt_iff_lt] at g2
      try have hcc := count_in h2
      try have hmm := most_ok h2
      exact WP.pathW tab_ok mixed [(4, An.id 2004), (7, An.call (T.bool true)), (11, An.call (T.bool false))] _ (ps := [(C Try.prog 163 [T.int .i64 a] (T.bool true)), (C Try.prog 140 [T.int .i64 b] (T.bool false)), (True), ((0 + 2 ≤ 2 ∧ 2 = 2)), (0 + 2 ≤ 2)]) (r := T.tup [T.agg [T.nils, T.int .i64 0], T.bool false]) (by kernel_rfl) ⟨(C.toB h1 (isCount_C a)), (C.toB h2 (isMost_C b)), trivial, ⟨by first | decide | omega | (simp; omega) | (simp [hl]; done) | (simp [hl]; omega), by first | rfl | (simp; done) | omega | (simp; omega) | (simp [hl]; done) | (simp [hl]; omega)⟩, by first | decide | omega | (simp; omega) | (simp [hl]; done) | (simp [hl]; omega), trivial⟩ (WkT.eq (y := T.tup [T.agg [T.list 0 1 [], T.int .i64 0], T.bool false]) (WkT.tup (WkL.cons (WkT.agg (WkL.cons (WkT.nil _) (WkL.cons (WkT.refl _) WkL.nil))) (WkL.cons (WkT.refl _) WkL.nil))) (by obtain ⟨e1, e2, e3⟩ := ss_no2 (a := a) (b := b) h2; simp only [e1, e2, e3]; try rfl)) (fun _ h => h)
  · -- no
    have g1 := h1
    try simp only [Bool.and_eq_true, Bool.or_eq_true, Bool.and_eq_false_iff, Bool.or_eq_false_iff, Bool.not_eq_true', Bool.not_eq_false', decide_eq_true_eq, decide_eq_false_iff_not, beq_iff_eq, beq_eq_false_iff_ne, bne_iff_ne, Int.toNat_natCast, ne_eq, ge_iff_le, gt_iff_lt] at g1
    try have hcc := count_in h1
    try have hmm := most_ok h1
    exact WP.pathW tab_ok mixed [(4, An.id 2004), (7, An.call (T.bool false))] _ (ps := [(C Try.prog 163 [T.int .i64 a] (T.bool false)), (True), ((0 + 2 ≤ 2 ∧ 2 = 2)), (0 + 2 ≤ 2)]) (r := T.tup [T.agg [T.nils, T.int .i64 0], T.bool false]) (by kernel_rfl) ⟨(C.toB h1 (isCount_C a)), trivial, ⟨by first | decide | omega | (simp; omega) | (simp [hl]; done) | (simp [hl]; omega), by first | rfl | (simp; done) | omega | (simp; omega) | (simp [hl]; done) | (simp [hl]; omega)⟩, by first | decide | omega | (simp; omega) | (simp [hl]; done) | (simp [hl]; omega), trivial⟩ (WkT.eq (y := T.tup [T.agg [T.list 0 1 [], T.int .i64 0], T.bool false]) (WkT.tup (WkL.cons (WkT.agg (WkL.cons (WkT.nil _) (WkL.cons (WkT.refl _) WkL.nil))) (WkL.cons (WkT.refl _) WkL.nil))) (by obtain ⟨e1, e2, e3⟩ := ss_no1 (a := a) (b := b) h1; simp only [e1, e2, e3]; try rfl)) (fun _ h => h)
end Go.Proofs.Ytofiecpgfjofdaa.AuWO
