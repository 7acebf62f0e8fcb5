/-
  The walks: each function of the program that the claim reaches returns what is told of it here. No statement is proved here.
-/
import Derived.Test.YtofiecpgfjofdaaTlV
import Derived.Test.YtofiecpgfjofdaaTlCI
import Derived.Test.YtofiecpgfjofdaaTlRooms
import Derived.Test.YtofiecpgfjofdaaProg
namespace Go.Proofs.Ytofiecpgfjofdaa.AuQO
open Go Go.Tl Go.Proofs
set_option linter.unusedVariables false
set_option linter.unusedSimpArgs false
set_option maxRecDepth 100000
def tab : Tab := [(3, ⟨.int .i64, 1, 8, [.int .i64 0]⟩), (4, ⟨.bool, 1, 1, [.bool false]⟩), (5, ⟨.int .u8, 1, 1, [.int .u8 0]⟩), (26, ⟨.slice 3 1 8, 1, 24, [.nils]⟩), (28, ⟨.struct [(0, 1, false), (1, 1, false)], 2, 32, [.nils, .int .i64 0]⟩), (40, ⟨.slice 5 1 1, 1, 24, [.nils]⟩), (85, ⟨.struct [(0, 1, false), (1, 1, false)], 2, 16, [.int .i64 0, .bool false]⟩), (148, ⟨.pointer 151, 1, 8, [.nilp]⟩), (149, ⟨.int .u64, 1, 8, [.int .u64 0]⟩), (151, ⟨.struct [(0, 1, false), (1, 1, false), (2, 1, false)], 3, 40, [.nils, .int .i64 0, .int .u64 0]⟩)]
theorem tab_ok : chkTab Try.prog tab = true := by kernel_rfl
theorem mixed : Try.prog.follows .mixedOrders = true := by kernel_rfl
theorem in_C (x : Int) (lo : Int) (hi : Int) : C Try.prog 174 [T.int .i64 x, T.int .i64 lo, T.int .i64 hi] (T.bool (decide (lo ≤ x) && decide (x ≤ hi))) := by
  refine C.intro (tab := tab) tab_ok (fn := Try.f174) Try.func174 (by kernel_rfl) rfl (Nat.le_of_ble_eq_true rfl) ?_
  rcases Bool.eq_false_or_eq_true (decide (lo ≤ x)) with h1 | h1
  · -- yes
    have g1 : lo ≤ x := of_decide_eq_true h1
    exact WP.pathR tab_ok mixed [(9, An.b true)] _ (ps := [(True), ((decide (lo ≤ x)) = true), (True)]) (r := T.bool (decide (x ≤ hi))) (by kernel_rfl) ⟨trivial, h1, trivial, trivial⟩ (by first | rfl | simp [*]) (fun _ h => h)
  · -- no
    have g1 : ¬ (lo ≤ x) := of_decide_eq_false h1
    exact WP.pathR tab_ok mixed [(9, An.b false)] _ (ps := [(True), ((decide (lo ≤ x)) = false)]) (r := T.bool false) (by kernel_rfl) ⟨trivial, h1, trivial⟩ (by first | rfl | simp [*]) (fun _ h => h)
theorem isMost_C (x : Int) : C Try.prog 140 [T.int .i64 x] (T.bool (decide (0 ≤ x) && decide (x ≤ 2))) := by
  refine C.intro (tab := tab) tab_ok (fn := Try.f140) Try.func140 (by kernel_rfl) rfl (Nat.le_of_ble_eq_true rfl) ?_
  exact WP.pathR tab_ok mixed [(4, An.call (T.bool (decide ((0 : Int) ≤ x) && decide (x ≤ (2 : Int)))))] _ (ps := [(C Try.prog 174 [T.int .i64 x, T.int .i64 0, T.int .i64 2] (T.bool (decide ((0 : Int) ≤ x) && decide (x ≤ (2 : Int)))))]) (r := T.bool (decide ((0 : Int) ≤ x) && decide (x ≤ (2 : Int)))) (by kernel_rfl) ⟨(by have hh := (in_C x (0 : Int) (2 : Int)); simpa using hh), trivial⟩ (by first | rfl | simp [*]) (fun _ h => h)
theorem isCount_C (x : Int) : C Try.prog 163 [T.int .i64 x] (T.bool (decide (1 ≤ x) && decide (x ≤ 12))) := by
  refine C.intro (tab := tab) tab_ok (fn := Try.f163) Try.func163 (by kernel_rfl) rfl (Nat.le_of_ble_eq_true rfl) ?_
  exact WP.pathR tab_ok mixed [(4, An.call (T.bool (decide ((1 : Int) ≤ x) && decide (x ≤ (12 : Int)))))] _ (ps := [(C Try.prog 174 [T.int .i64 x, T.int .i64 1, T.int .i64 12] (T.bool (decide ((1 : Int) ≤ x) && decide (x ≤ (12 : Int)))))]) (r := T.bool (decide ((1 : Int) ≤ x) && decide (x ≤ (12 : Int)))) (by kernel_rfl) ⟨(by have hh := (in_C x (1 : Int) (12 : Int)); simpa using hh), trivial⟩ (by first | rfl | simp [*]) (fun _ h => h)
theorem indexFunc_C (xs : List Int) (g : FuncId) (pre : List T) (caps : List T) (p : Int → Bool) (hg : ∀ x, C Try.prog g (pre ++ ([T.int .i64 x] ++ caps)) (T.bool (p x))) (hx : xs.length ≤ 9223372036854775807) : C Try.prog 256 [T.list (List.length xs) 1 (List.map (T.int .i64) xs), T.fn g pre caps] (T.int .i64 (idxOf p xs)) := by
  refine C.intro (tab := tab) tab_ok (fn := Try.f256) Try.func256 (by kernel_rfl) rfl (Nat.le_of_ble_eq_true rfl) ?_
  refine WP.seq ?_
  refine WP.path tab_ok mixed [] [.keep [4, 0, 1], .keepO []] (ps := []) (e := .normal) (σ' := ⟨[], [(4, V.t (T.int .i64 0)), (0, V.t (T.list (List.length xs) 1 (List.map (T.int .i64) xs))), (1, V.t (T.fn g pre caps))], []⟩) (by kernel_rfl) trivial ?_
  refine WP.seq ?_
  refine WP.seq ?_
  refine WP.path tab_ok mixed [] [.keep [8, 7, 4, 0, 1], .keepO []] (ps := []) (e := .normal) (σ' := ⟨[], [(8, V.t (T.int .i64 0)), (7, V.t (T.int .i64 ((List.length xs : Nat) : Int))), (4, V.t (T.int .i64 0)), (0, V.t (T.list (List.length xs) 1 (List.map (T.int .i64) xs))), (1, V.t (T.fn g pre caps))], []⟩) (by kernel_rfl) trivial ?_
  refine WP.block ?_
  refine WP.wk [.keep [8, 7, 4, 0, 1], .keepO [], .names []] (σ' := ⟨[], [(8, V.t (T.int .i64 ((0) : Int))), (7, V.t (T.int .i64 ((List.length xs : Nat) : Int))), (4, V.t (T.int .i64 0)), (0, V.t (T.list (List.length xs) 1 (List.map (T.int .i64) xs))), (1, V.t (T.fn g pre caps))], []⟩) (ps := []) (by kernel_rfl) trivial ?_
  refine WP.loop (α := Nat) (fun zz => ⟨[], [(8, V.t (T.int .i64 (zz : Int))), (7, V.t (T.int .i64 ((List.length xs : Nat) : Int))), (4, V.t (T.int .i64 0)), (0, V.t (T.list (List.length xs) 1 (List.map (T.int .i64) xs))), (1, V.t (T.fn g pre caps))], []⟩) (fun zz => zz ≤ xs.length ∧ ∀ j, j < zz → p (xs.getD j 0) = false) (fun zz => xs.length - zz) 0 (⟨by omega, fun j h => by omega⟩) ?_
  intro i hinv0
  have hinv : i ≤ xs.length ∧ ∀ j, j < i → p (xs.getD j 0) = false := hinv0
  obtain ⟨hi, hall⟩ := hinv
  rcases Bool.eq_false_or_eq_true (decide ((i : Int) < ((List.length xs : Nat) : Int))) with h1 | h1
  · -- yes
    have g1 : (i : Int) < ((List.length xs : Nat) : Int) := of_decide_eq_true h1
    rcases Bool.eq_false_or_eq_true (p (List.getD xs i 0)) with h2 | h2
    · -- yes
      have g2 := h2
      try simp only [Bool.and_eq_true, Bool.or_eq_true, Bool.and_eq_false_iff, Bool.or_eq_false_iff, Bool.not_eq_true', Bool.not_eq_false', decide_eq_true_eq, decide_eq_false_iff_not, beq_iff_eq, beq_eq_false_iff_ne, bne_iff_ne, Int.toNat_natCast, ne_eq, ge_iff_le, gt_iff_lt] at g2
      exact WP.pathR tab_ok mixed [(9, An.b true), (15, An.v (T.int .i64 (List.getD xs i 0))), (16, An.call (T.bool true))] _ (ps := [(True), ((decide ((i : Int) < ((List.length xs : Nat) : Int))) = true), ((0 ≤ (i : Int) ∧ (i : Int) < ((List.length xs : Nat) : Int))), ((List.drop ((Int.toNat (i : Int)) * 1) (List.map (T.int .i64) xs) : List T)[0]? = some (T.int .i64 (List.getD xs i 0))), (T.int .i64 (List.getD xs i 0) = T.int .i64 (List.getD xs i 0)), (C Try.prog g (pre ++ ([T.int .i64 (List.getD xs i 0)] ++ caps)) (T.bool true))]) (r := T.int .i64 (i : Int)) (by kernel_rfl) ⟨trivial, h1, ⟨by omega, by omega⟩, at1 (by simp) (by omega), rfl, (C.toB h2 (hg (List.getD xs i 0))), trivial⟩ (by rw [idxOf_found (i := i) (by omega) hall (by assumption)]) (fun _ h => h)
    · -- no
      have g2 := h2
      try simp only [Bool.and_eq_true, Bool.or_eq_true, Bool.and_eq_false_iff, Bool.or_eq_false_iff, Bool.not_eq_true', Bool.not_eq_false', decide_eq_true_eq, decide_eq_false_iff_not, beq_iff_eq, beq_eq_false_iff_ne, bne_iff_ne, Int.toNat_natCast, ne_eq, ge_iff_le, gt_iff_lt] at g2
      refine WP.path tab_ok mixed [(9, An.b true), (15, An.v (T.int .i64 (List.getD xs i 0))), (16, An.call (T.bool false)), (18, An.v (T.int .i64 (((i + 1 : Nat) : Int))))] [.keep [8, 7, 4, 0, 1], .keepO [], .names []] (ps := [(True), ((decide ((i : Int) < ((List.length xs : Nat) : Int))) = true), ((0 ≤ (i : Int) ∧ (i : Int) < ((List.length xs : Nat) : Int))), ((List.drop ((Int.toNat (i : Int)) * 1) (List.map (T.int .i64) xs) : List T)[0]? = some (T.int .i64 (List.getD xs i 0))), (T.int .i64 (List.getD xs i 0) = T.int .i64 (List.getD xs i 0)), (C Try.prog g (pre ++ ([T.int .i64 (List.getD xs i 0)] ++ caps)) (T.bool false)), (True), (T.int .i64 (IntKind.wrap .i64 ((i : Int) + (1 : Int))) = T.int .i64 (((i + 1 : Nat) : Int)))]) (e := .normal) (σ' := ⟨[], [(8, V.t (T.int .i64 ((i + 1) : Int))), (7, V.t (T.int .i64 ((List.length xs : Nat) : Int))), (4, V.t (T.int .i64 0)), (0, V.t (T.list (List.length xs) 1 (List.map (T.int .i64) xs))), (1, V.t (T.fn g pre caps))], []⟩) (by kernel_rfl) ⟨trivial, h1, ⟨by omega, by omega⟩, at1 (by simp) (by omega), rfl, (C.toB h2 (hg (List.getD xs i 0))), trivial, wrapT_i64 (by omega) (by omega), trivial⟩ ?_
      exact ⟨i + 1, ⟨by omega, all_step hall (by simpa using (by assumption : p _ = false))⟩, by first | omega | (dsimp only; omega), rfl⟩
  · -- no
    have g1 : ¬ ((i : Int) < ((List.length xs : Nat) : Int)) := of_decide_eq_false h1
    refine WP.path tab_ok mixed [(9, An.b false)] [.keep [4], .keepO []] (ps := [(True), ((decide ((i : Int) < ((List.length xs : Nat) : Int))) = false)]) (e := (.exit 0)) (σ' := ⟨[], [(4, V.t (T.int .i64 0))], []⟩) (by kernel_rfl) ⟨trivial, h1, trivial⟩ ?_
    exact WP.pathR tab_ok mixed [] _ (ps := []) (r := T.int .i64 (-1)) (by kernel_rfl) trivial (by rw [idxOf_none (i := i) hall (by omega)]) (fun _ h => h)
theorem containsFunc_C (xs : List Int) (g : FuncId) (pre : List T) (caps : List T) (p : Int → Bool) (hg : ∀ x, C Try.prog g (pre ++ ([T.int .i64 x] ++ caps)) (T.bool (p x))) (hx : xs.length ≤ 9223372036854775807) : C Try.prog 217 [T.list (List.length xs) 1 (List.map (T.int .i64) xs), T.fn g pre caps] (T.bool (xs.any p)) := by
  refine C.intro (tab := tab) tab_ok (fn := Try.f217) Try.func217 (by kernel_rfl) rfl (Nat.le_of_ble_eq_true rfl) ?_
  exact WP.pathR tab_ok mixed [(7, An.call (T.int .i64 (idxOf p xs)))] _ (ps := [(C Try.prog 256 [T.list (List.length xs) 1 (List.map (T.int .i64) xs), T.fn g pre caps] (T.int .i64 (idxOf p xs))), (True)]) (r := T.bool (decide ((idxOf p xs) ≥ (0 : Int)))) (by kernel_rfl) ⟨(indexFunc_C xs _ _ _ p hg (by omega)), trivial, trivial⟩ (by rw [idxOf_any]) (fun _ h => h)
theorem isState1_C (x : Int) (xs : List Int) (m : Int) : C Try.prog 218 [T.int .i64 x, T.ptr [T.list (List.length xs) 1 (List.map (T.int .i64) xs), T.int .i64 m]] (T.bool (!(decide (-1 ≤ x) && decide (x ≤ m)))) := by
  refine C.intro (tab := tab) tab_ok (fn := Try.f218) Try.func218 (by kernel_rfl) rfl (Nat.le_of_ble_eq_true rfl) ?_
  exact WP.pathR tab_ok mixed [(7, An.call (T.bool (decide ((-1 : Int) ≤ x) && decide (x ≤ m))))] _ (ps := [(True), (C Try.prog 174 [T.int .i64 x, T.int .i64 (-1), T.int .i64 m] (T.bool (decide ((-1 : Int) ≤ x) && decide (x ≤ m))))]) (r := T.bool (!(decide ((-1 : Int) ≤ x) && decide (x ≤ m)))) (by kernel_rfl) ⟨trivial, (by have hh := (in_C x (-1 : Int) m); simpa using hh), trivial⟩ (by first | rfl | simp [*]) (fun _ h => h)
theorem isState_C (xs : List Int) (m : Int) (hx : xs.length ≤ 9223372036854775807) : C Try.prog 99 [T.agg [T.list (List.length xs) 1 (List.map (T.int .i64) xs), T.int .i64 m]] (T.bool (isStateN xs m)) := by
  refine C.intro (tab := tab) tab_ok (fn := Try.f99) Try.func99 (by kernel_rfl) rfl (Nat.le_of_ble_eq_true rfl) ?_
  rcases Bool.eq_false_or_eq_true (decide (1 ≤ ((List.length xs : Nat) : Int)) && decide (((List.length xs : Nat) : Int) ≤ 12)) with h1 | h1
  · -- yes
    have g1 := h1
    try simp only [Bool.and_eq_true, Bool.or_eq_true, Bool.and_eq_false_iff, Bool.or_eq_false_iff, Bool.not_eq_true', Bool.not_eq_false', decide_eq_true_eq, decide_eq_false_iff_not, beq_iff_eq, beq_eq_false_iff_ne, bne_iff_ne, Int.toNat_natCast, ne_eq, ge_iff_le, gt_iff_lt] at g1
    rcases Bool.eq_false_or_eq_true (decide (0 ≤ m) && decide (m ≤ 2)) with h2 | h2
    · -- yes
      have g2 := h2
      try simp only [Bool.and_eq_true, Bool.or_eq_true, Bool.and_eq_false_iff, Bool.or_eq_false_iff, Bool.not_eq_true', Bool.not_eq_false', decide_eq_true_eq, decide_eq_false_iff_not, beq_iff_eq, beq_eq_false_iff_ne, bne_iff_ne, Int.toNat_natCast, ne_eq, ge_iff_le, gt_iff_lt] at g2
      exact WP.pathR tab_ok mixed [(1, An.fz), (6, An.call (T.bool true)), (10, An.call (T.bool true)), (16, An.call (T.bool (List.any xs (fun x => !(decide (-1 ≤ x) && decide (x ≤ m))))))] _ (ps := [(True), (C Try.prog 163 [T.int .i64 ((List.length xs : Nat) : Int)] (T.bool true)), (True), (C Try.prog 140 [T.int .i64 m] (T.bool true)), (True), (C Try.prog 217 [T.list (List.length xs) 1 (List.map (T.int .i64) xs), T.fn 218 [] [T.ptr [T.list (List.length xs) 1 (List.map (T.int .i64) xs), T.int .i64 m]]] (T.bool (List.any xs (fun x => !(decide (-1 ≤ x) && decide (x ≤ m))))))]) (r := T.bool (!(List.any xs (fun x => !(decide (-1 ≤ x) && decide (x ≤ m)))))) (by kernel_rfl) ⟨trivial, (C.toB h1 (isCount_C ((List.length xs : Nat) : Int))), trivial, (C.toB h2 (isMost_C m)), trivial, (containsFunc_C xs _ _ _ (fun x => !(decide (-1 ≤ x) && decide (x ≤ m))) (fun x => (isState1_C x xs m)) (by first | omega | (simp only [List.length_take, List.length_drop, List.length_map, List.length_append]; omega))), trivial⟩ (by first | rfl | (unfold isStateN; (try rw [h1]); (try rw [h2]); rfl)) (fun _ h => h)
    · -- no
      have g2 := h2
      try simp only [Bool.and_eq_true, Bool.or_eq_true, Bool.and_eq_false_iff, Bool.or_eq_false_iff, Bool.not_eq_true', Bool.not_eq_false', decide_eq_true_eq, decide_eq_false_iff_not, beq_iff_eq, beq_eq_false_iff_ne, bne_iff_ne, Int.toNat_natCast, ne_eq, ge_iff_le, gt_iff_lt] at g2
      exact WP.pathR tab_ok mixed [(1, An.fz), (6, An.call (T.bool true)), (10, An.call (T.bool false))] _ (ps := [(True), (C Try.prog 163 [T.int .i64 ((List.length xs : Nat) : Int)] (T.bool true)), (True), (C Try.prog 140 [T.int .i64 m] (T.bool false))]) (r := T.bool false) (by kernel_rfl) ⟨trivial, (C.toB h1 (isCount_C ((List.length xs : Nat) : Int))), trivial, (C.toB h2 (isMost_C m)), trivial⟩ (by first | rfl | (unfold isStateN; (try rw [h1]); (try rw [h2]); rfl)) (fun _ h => h)
  · -- no
    have g1 := h1
    try simp only [Bool.and_eq_true, Bool.or_eq_true, Bool.and_eq_false_iff, Bool.or_eq_false_iff, Bool.not_eq_true', Bool.not_eq_false', decide_eq_true_eq, decide_eq_false_iff_not, beq_iff_eq, beq_eq_false_iff_ne, bne_iff_ne, Int.toNat_natCast, ne_eq, ge_iff_le, gt_iff_lt] at g1
    exact WP.pathR tab_ok mixed [(1, An.fz), (6, An.call (T.bool false))] _ (ps := [(True), (C Try.prog 163 [T.int .i64 ((List.length xs : Nat) : Int)] (T.bool false))]) (r := T.bool false) (by kernel_rfl) ⟨trivial, (C.toB h1 (isCount_C ((List.length xs : Nat) : Int))), trivial⟩ (by first | rfl | (unfold isStateN; (try rw [h1]); rfl)) (fun _ h => h)
theorem open_C_G (xs : List Int) (m : Int) (hx : xs.length ≤ 1048576) : CG Try.prog 153 [V.t (T.agg [T.list (List.length xs) 1 (List.map (T.int .i64) xs), T.int .i64 m])] [] (V.own 9000 1 (List.length (openN xs))) [(9000, Tl.Obj.cells 3 (List.map (T.int .i64) (openN xs)))] := by
  refine CG.intro (tab := tab) tab_ok (fn := Try.f153) Try.func153 (by kernel_rfl) rfl (Nat.le_of_ble_eq_true rfl) (by kernel_rfl) ?_
  refine WP.seq ?_
  refine WP.path tab_ok mixed [(1, An.fz)] [.keep [2, 1], .keepO []] (ps := []) (e := .normal) (σ' := ⟨[], [(2, V.t (T.nils)), (1, V.t (T.ptr [T.list (List.length xs) 1 (List.map (T.int .i64) xs), T.int .i64 m]))], []⟩) (by kernel_rfl) trivial ?_
  refine WP.seq ?_
  refine WP.path tab_ok mixed [(6, An.id 2006)] [.keep [3, 2, 1], .keepO [2006]] (ps := [(True), (0 = 0 * 1)]) (e := .normal) (σ' := ⟨[2006], [(3, V.own 2006 1 0), (2, V.t (T.nils)), (1, V.t (T.ptr [T.list (List.length xs) 1 (List.map (T.int .i64) xs), T.int .i64 m]))], [(2006, Tl.Obj.cells 3 [])]⟩) (by kernel_rfl) ⟨trivial, by first | rfl | simp, trivial⟩ ?_
  refine WP.seq ?_
  refine WP.seq ?_
  refine WP.path tab_ok mixed [] [.keep [10, 9, 8, 3, 2], .keepO [2006]] (ps := [(True)]) (e := .normal) (σ' := ⟨[2006], [(10, V.t (T.int .i64 0)), (9, V.t (T.int .i64 ((List.length xs : Nat) : Int))), (8, V.t (T.list (List.length xs) 1 (List.map (T.int .i64) xs))), (3, V.own 2006 1 0), (2, V.t (T.nils))], [(2006, Tl.Obj.cells 3 [])]⟩) (by kernel_rfl) ⟨trivial, trivial⟩ ?_
  refine WP.block ?_
  refine WP.wk [.keep [10, 9, 8, 3, 2], .keepO [2006], .names [(2006, 2006)]] (σ' := ⟨[2006], [(10, V.t (T.int .i64 ((0) : Int))), (9, V.t (T.int .i64 ((List.length xs : Nat) : Int))), (8, V.t (T.list (List.length xs) 1 (List.map (T.int .i64) xs))), (3, V.own 2006 1 (List.length (openP xs (0)))), (2, V.t (T.nils))], [(2006, Tl.Obj.cells 3 (List.map (T.int .i64) (openP xs (0))))]⟩) (ps := []) (by kernel_rfl) trivial ?_
  refine WP.loop (α := Nat) (fun zz => ⟨[2006], [(10, V.t (T.int .i64 (zz : Int))), (9, V.t (T.int .i64 ((List.length xs : Nat) : Int))), (8, V.t (T.list (List.length xs) 1 (List.map (T.int .i64) xs))), (3, V.own 2006 1 (List.length (openP xs zz))), (2, V.t (T.nils))], [(2006, Tl.Obj.cells 3 (List.map (T.int .i64) (openP xs zz)))]⟩) (fun zz => zz ≤ xs.length) (fun zz => xs.length - zz) 0 (by omega) ?_
  intro j hinv0
  have hinv : j ≤ xs.length := hinv0
  have hj : j ≤ xs.length := hinv
  have hpl := openP_len xs j
  rcases Bool.eq_false_or_eq_true (decide ((j : Int) < ((List.length xs : Nat) : Int))) with h1 | h1
  · -- yes
    have g1 : (j : Int) < ((List.length xs : Nat) : Int) := of_decide_eq_true h1
    rcases Bool.eq_false_or_eq_true (decide ((List.getD xs j 0) ≥ (0 : Int))) with h2 | h2
    · -- yes
      have g2 : (List.getD xs j 0) ≥ (0 : Int) := of_decide_eq_true h2
      refine WP.path tab_ok mixed [(11, An.b true), (14, An.v (T.int .i64 (List.getD xs j 0))), (16, An.b true), (19, An.fz), (20, An.id 2020), (21, An.v (T.int .i64 (((j + 1 : Nat) : Int))))] [.keep [10, 9, 8, 3, 2], .keepO [2020], .names [(2020, 2006)]] (ps := [(True), ((decide ((j : Int) < ((List.length xs : Nat) : Int))) = true), ((0 ≤ (j : Int) ∧ (j : Int) < ((List.length xs : Nat) : Int))), ((List.drop ((Int.toNat (j : Int)) * 1) (List.map (T.int .i64) xs) : List T)[0]? = some (T.int .i64 (List.getD xs j 0))), (T.int .i64 (List.getD xs j 0) = T.int .i64 (List.getD xs j 0)), (True), ((decide ((List.getD xs j 0) ≥ (0 : Int))) = true), ((1 = 1 ∧ 0 + 1 ≤ 1) ∧ True), (1 = 1 * 1), (True), (List.length (List.map (T.int .i64) (openP xs j)) = (List.length (openP xs j)) * 1), ((((List.length (openP xs j)) + 1) * 8 ≤ 140737488355328 ∧ (List.length (openP xs j)) + 1 ≤ maxLen)), (True), (T.int .i64 (IntKind.wrap .i64 ((j : Int) + (1 : Int))) = T.int .i64 (((j + 1 : Nat) : Int)))]) (e := .normal) (σ' := ⟨[2006], [(10, V.t (T.int .i64 ((j + 1 : Nat) : Int))), (9, V.t (T.int .i64 ((List.length xs : Nat) : Int))), (8, V.t (T.list (List.length xs) 1 (List.map (T.int .i64) xs))), (3, V.own 2006 1 ((List.length (openP xs j)) + 1)), (2, V.t (T.nils))], [(2006, Tl.Obj.cells 3 ((List.map (T.int .i64) (openP xs j)) ++ [T.int .i64 (j : Int)]))]⟩) (by kernel_rfl) ⟨trivial, h1, ⟨by omega, by omega⟩, at1 (by simp) (by omega), rfl, trivial, h2, ⟨⟨by first | rfl | (simp; done) | (simp [hl]; done) | omega, by first | decide | (simp; done) | (simp [hl]; done) | omega | (simp; omega)⟩, trivial⟩, by first | rfl | simp, trivial, by first | rfl | (simp; done) | omega | (simp; omega) | (simp [hl]; done) | (simp [hl]; omega), ⟨by first | omega | (simp only [List.length_take, List.length_drop, List.length_map, List.length_append]; omega), by simp only [maxLen]; first | omega | (simp only [List.length_take, List.length_drop, List.length_map, List.length_append]; omega)⟩, trivial, wrapT_i64 (by omega) (by omega), trivial⟩ ?_
      exact ⟨j + 1, by omega, by first | omega | (dsimp only; omega), by rw [open_yes (of_decide_eq_true h2)]; simp⟩
    · -- no
      have g2 : ¬ ((List.getD xs j 0) ≥ (0 : Int)) := of_decide_eq_false h2
      refine WP.path tab_ok mixed [(11, An.b true), (14, An.v (T.int .i64 (List.getD xs j 0))), (16, An.b false), (21, An.v (T.int .i64 (((j + 1 : Nat) : Int))))] [.keep [10, 9, 8, 3, 2], .keepO [2006], .names [(2006, 2006)]] (ps := [(True), ((decide ((j : Int) < ((List.length xs : Nat) : Int))) = true), ((0 ≤ (j : Int) ∧ (j : Int) < ((List.length xs : Nat) : Int))), ((List.drop ((Int.toNat (j : Int)) * 1) (List.map (T.int .i64) xs) : List T)[0]? = some (T.int .i64 (List.getD xs j 0))), (T.int .i64 (List.getD xs j 0) = T.int .i64 (List.getD xs j 0)), (True), ((decide ((List.getD xs j 0) ≥ (0 : Int))) = false), (True), (T.int .i64 (IntKind.wrap .i64 ((j : Int) + (1 : Int))) = T.int .i64 (((j + 1 : Nat) : Int)))]) (e := .normal) (σ' := ⟨[2006], [(10, V.t (T.int .i64 ((j + 1 : Nat) : Int))), (9, V.t (T.int .i64 ((List.length xs : Nat) : Int))), (8, V.t (T.list (List.length xs) 1 (List.map (T.int .i64) xs))), (3, V.own 2006 1 (List.length (openP xs j))), (2, V.t (T.nils))], [(2006, Tl.Obj.cells 3 (List.map (T.int .i64) (openP xs j)))]⟩) (by kernel_rfl) ⟨trivial, h1, ⟨by omega, by omega⟩, at1 (by simp) (by omega), rfl, trivial, h2, trivial, wrapT_i64 (by omega) (by omega), trivial⟩ ?_
      exact ⟨j + 1, by omega, by first | omega | (dsimp only; omega), by rw [open_no (of_decide_eq_false h2)]⟩
  · -- no
    have g1 : ¬ ((j : Int) < ((List.length xs : Nat) : Int)) := of_decide_eq_false h1
    refine WP.path tab_ok mixed [(11, An.b false)] [.keep [3, 2], .keepO [2006]] (ps := [(True), ((decide ((j : Int) < ((List.length xs : Nat) : Int))) = false)]) (e := (.exit 0)) (σ' := ⟨[2006], [(3, V.own 2006 1 (List.length (openP xs j))), (2, V.t (T.nils))], [(2006, Tl.Obj.cells 3 (List.map (T.int .i64) (openP xs j)))]⟩) (by kernel_rfl) ⟨trivial, h1, trivial⟩ ?_
    exact WP.pathG tab_ok mixed [] [.keep [2], .keepO [2006], .names [(2006, 9000)]] [9000] _ (r' := V.own 9000 1 (List.length (openN xs))) (ps := []) (r := V.own 9000 1 (List.length (openP xs j))) (N := [9000]) (O := [(9000, Tl.Obj.cells 3 (List.map (T.int .i64) (openP xs j)))]) [] (by kernel_rfl) trivial ⟨(by first | rfl | (congr 1; first | done | omega | (simp; done) | (simp; omega)) | have e : j = xs.length := (by omega); subst e; rfl), trivial⟩ rfl (by first | rfl | (have e : j = xs.length := (by omega); subst e; rfl; done) | (have e : j = xs.length := (by omega); subst e; rfl; rfl)) (fun _ h => h)
theorem open_C (xs : List Int) (m : Int) (hx : xs.length ≤ 1048576) : C Try.prog 153 [(T.agg [T.list (List.length xs) 1 (List.map (T.int .i64) xs), T.int .i64 m])] (T.list (List.length (openN xs)) 1 (List.map (T.int .i64) (openN xs))) :=
  CG.toC (ps := [(List.length (List.map (T.int .i64) (openN xs)) = (List.length (openN xs)) * 1)]) (open_C_G xs m hx) (by rfl) ⟨by first | rfl | (simp; done) | omega | (simp; omega) | (simp [hl]; done) | (simp [hl]; omega), trivial⟩
theorem rBig_C (bs : List Int) (hbl : bs.length ≤ 9223372036854775807) : C Try.prog 70 [T.list (List.length bs) 1 (List.map (T.int .u8) bs)] (T.bool (decide (((List.length bs : Nat) : Int) > (65536 : Int)))) := by
  refine C.intro (tab := tab) tab_ok (fn := Try.f70) Try.func70 (by kernel_rfl) rfl (Nat.le_of_ble_eq_true rfl) ?_
  exact WP.pathR tab_ok mixed [] _ (ps := [(True)]) (r := T.bool (decide (((List.length bs : Nat) : Int) > (65536 : Int)))) (by kernel_rfl) ⟨trivial, trivial⟩ (by first | rfl | simp [*]) (fun _ h => h)
theorem l1Most_C (a : Int) (b : Int) : C Try.prog 155 [T.int .i64 a, T.int .i64 b] (T.int .i64 (maxN a b)) := by
  refine C.intro (tab := tab) tab_ok (fn := Try.f155) Try.func155 (by kernel_rfl) rfl (Nat.le_of_ble_eq_true rfl) ?_
  rcases Bool.eq_false_or_eq_true (decide (a > b)) with h1 | h1
  · -- yes
    have g1 : a > b := of_decide_eq_true h1
    exact WP.pathR tab_ok mixed [(7, An.b true)] _ (ps := [(True), ((decide (a > b)) = true)]) (r := T.int .i64 a) (by kernel_rfl) ⟨trivial, h1, trivial⟩ (maxN_yes h1) (fun _ h => h)
  · -- no
    have g1 : ¬ (a > b) := of_decide_eq_false h1
    exact WP.pathR tab_ok mixed [(7, An.b false)] _ (ps := [(True), ((decide (a > b)) = false)]) (r := T.int .i64 b) (by kernel_rfl) ⟨trivial, h1, trivial⟩ (maxN_no h1) (fun _ h => h)
theorem l1Least_C (a : Int) (b : Int) : C Try.prog 196 [T.int .i64 a, T.int .i64 b] (T.int .i64 (minN a b)) := by
  refine C.intro (tab := tab) tab_ok (fn := Try.f196) Try.func196 (by kernel_rfl) rfl (Nat.le_of_ble_eq_true rfl) ?_
  rcases Bool.eq_false_or_eq_true (decide (a < b)) with h1 | h1
  · -- yes
    have g1 : a < b := of_decide_eq_true h1
    exact WP.pathR tab_ok mixed [(7, An.b true)] _ (ps := [(True), ((decide (a < b)) = true)]) (r := T.int .i64 a) (by kernel_rfl) ⟨trivial, h1, trivial⟩ (by unfold minN; rw [if_pos (of_decide_eq_true h1)]) (fun _ h => h)
  · -- no
    have g1 : ¬ (a < b) := of_decide_eq_false h1
    exact WP.pathR tab_ok mixed [(7, An.b false)] _ (ps := [(True), ((decide (a < b)) = false)]) (r := T.int .i64 b) (by kernel_rfl) ⟨trivial, h1, trivial⟩ (by unfold minN; rw [if_neg (of_decide_eq_false h1)]) (fun _ h => h)
theorem isQuestion_C (n : Int) (q : Int) : C Try.prog 173 [T.int .i64 n, T.int .i64 q] (T.bool (isQ n q)) := by
  refine C.intro (tab := tab) tab_ok (fn := Try.f173) Try.func173 (by kernel_rfl) rfl (Nat.le_of_ble_eq_true rfl) ?_
  rcases Bool.eq_false_or_eq_true (decide (1 ≤ n) && decide (n ≤ 12)) with h1 | h1
  · -- yes
    have g1 := h1
    try simp only [Bool.and_eq_true, Bool.or_eq_true, Bool.and_eq_false_iff, Bool.or_eq_false_iff, Bool.not_eq_true', Bool.not_eq_false', decide_eq_true_eq, decide_eq_false_iff_not, beq_iff_eq, beq_eq_false_iff_ne, bne_iff_ne, Int.toNat_natCast, ne_eq, ge_iff_le, gt_iff_lt] at g1
    exact WP.pathR tab_ok mixed [(6, An.call (T.bool true)), (10, An.v (T.int .i64 (2 ^ Int.toNat n))), (11, An.v (T.int .i64 ((2 ^ Int.toNat n) - (1 : Int)))), (12, An.call (T.bool (decide ((0 : Int) ≤ q) && decide (q ≤ ((2 ^ Int.toNat n) - (1 : Int))))))] _ (ps := [(C Try.prog 163 [T.int .i64 n] (T.bool true)), (0 ≤ n), (T.int .i64 (IntKind.wrap .i64 ((1 : Int) * 2 ^ (min (Int.toNat n) 64))) = T.int .i64 (2 ^ Int.toNat n)), (True), (T.int .i64 (IntKind.wrap .i64 ((2 ^ Int.toNat n) - (1 : Int))) = T.int .i64 ((2 ^ Int.toNat n) - (1 : Int))), (C Try.prog 174 [T.int .i64 q, T.int .i64 0, T.int .i64 ((2 ^ Int.toNat n) - (1 : Int))] (T.bool (decide ((0 : Int) ≤ q) && decide (q ≤ ((2 ^ Int.toNat n) - (1 : Int))))))]) (r := T.bool (decide ((0 : Int) ≤ q) && decide (q ≤ ((2 ^ Int.toNat n) - (1 : Int))))) (by kernel_rfl) ⟨(C.toB h1 (isCount_C n)), by omega, shl_small (by omega) (by omega), trivial, wrapT_i64 (by have hh := pow_bd (n := n) (by omega) (by omega); omega) (by have hh := pow_bd (n := n) (by omega) (by omega); omega), (by have hh := (in_C q (0 : Int) ((2 ^ Int.toNat n) - (1 : Int))); simpa using hh), trivial⟩ (by first | rfl | (unfold isQ; (try rw [h1]); rfl)) (fun _ h => h)
  · -- no
    have g1 := h1
    try simp only [Bool.and_eq_true, Bool.or_eq_true, Bool.and_eq_false_iff, Bool.or_eq_false_iff, Bool.not_eq_true', Bool.not_eq_false', decide_eq_true_eq, decide_eq_false_iff_not, beq_iff_eq, beq_eq_false_iff_ne, bne_iff_ne, Int.toNat_natCast, ne_eq, ge_iff_le, gt_iff_lt] at g1
    exact WP.pathR tab_ok mixed [(6, An.call (T.bool false))] _ (ps := [(C Try.prog 163 [T.int .i64 n] (T.bool false))]) (r := T.bool false) (by kernel_rfl) ⟨(C.toB h1 (isCount_C n)), trivial⟩ (by first | rfl | (unfold isQ; (try rw [h1]); rfl)) (fun _ h => h)
theorem other_C (n : Int) (q : Int) (h0 : 0 ≤ n) (h1 : n ≤ 12) (h2 : 0 ≤ q) (h3 : q ≤ 2 ^ n.toNat - 1) : C Try.prog 213 [T.int .i64 n, T.int .i64 q] (T.int .i64 (othN n q)) := by
  have hp := pow_bd h0 h1
  refine C.intro (tab := tab) tab_ok (fn := Try.f213) Try.func213 (by kernel_rfl) rfl (Nat.le_of_ble_eq_true rfl) ?_
  exact WP.pathR tab_ok mixed [(6, An.v (T.int .i64 (2 ^ Int.toNat n))), (7, An.v (T.int .i64 ((2 ^ Int.toNat n) - (1 : Int)))), (9, An.v (T.int .i64 (((2 ^ Int.toNat n) - (1 : Int)) - q)))] _ (ps := [(0 ≤ n), (T.int .i64 (IntKind.wrap .i64 ((1 : Int) * 2 ^ (min (Int.toNat n) 64))) = T.int .i64 (2 ^ Int.toNat n)), (True), (T.int .i64 (IntKind.wrap .i64 ((2 ^ Int.toNat n) - (1 : Int))) = T.int .i64 ((2 ^ Int.toNat n) - (1 : Int))), (True), (T.int .i64 (IntKind.wrap .i64 (((2 ^ Int.toNat n) - (1 : Int)) - q)) = T.int .i64 (((2 ^ Int.toNat n) - (1 : Int)) - q))]) (r := T.int .i64 (((2 ^ Int.toNat n) - (1 : Int)) - q)) (by kernel_rfl) ⟨by omega, shl_small (by omega) (by omega), trivial, wrapT_i64 (by omega) (by omega), trivial, wrapT_i64 (by omega) (by omega), trivial⟩ (rfl) (fun _ h => h)
theorem iOtherQuestion_C (n : Int) (q : Int) : C Try.prog 89 [T.int .i64 n, T.int .i64 q] (T.tup [T.int .i64 (oqV n q), T.bool (isQ n q)]) := by
  refine C.intro (tab := tab) tab_ok (fn := Try.f89) Try.func89 (by kernel_rfl) rfl (Nat.le_of_ble_eq_true rfl) ?_
  rcases Bool.eq_false_or_eq_true (isQ n q) with h1 | h1
  · -- yes
    have g1 := h1
    try simp only [Bool.and_eq_true, Bool.or_eq_true, Bool.and_eq_false_iff, Bool.or_eq_false_iff, Bool.not_eq_true', Bool.not_eq_false', decide_eq_true_eq, decide_eq_false_iff_not, beq_iff_eq, beq_eq_false_iff_ne, bne_iff_ne, Int.toNat_natCast, ne_eq, ge_iff_le, gt_iff_lt] at g1
    try have hiq := isQ_in h1
    exact WP.pathR tab_ok mixed [(8, An.call (T.bool true)), (12, An.call (T.int .i64 (othN n q)))] _ (ps := [(C Try.prog 173 [T.int .i64 n, T.int .i64 q] (T.bool true)), (C Try.prog 213 [T.int .i64 n, T.int .i64 q] (T.int .i64 (othN n q)))]) (r := T.tup [T.int .i64 (othN n q), T.bool true]) (by kernel_rfl) ⟨(C.toB h1 (isQuestion_C n q)), (other_C n q (by first | omega | (simp only [List.length_take, List.length_drop, List.length_map, List.length_append]; omega)) (by first | omega | (simp only [List.length_take, List.length_drop, List.length_map, List.length_append]; omega)) (by first | omega | (simp only [List.length_take, List.length_drop, List.length_map, List.length_append]; omega)) (by first | omega | (simp only [List.length_take, List.length_drop, List.length_map, List.length_append]; omega))), trivial⟩ (oq_yes h1) (fun _ h => h)
  · -- no
    have g1 := h1
    try simp only [Bool.and_eq_true, Bool.or_eq_true, Bool.and_eq_false_iff, Bool.or_eq_false_iff, Bool.not_eq_true', Bool.not_eq_false', decide_eq_true_eq, decide_eq_false_iff_not, beq_iff_eq, beq_eq_false_iff_ne, bne_iff_ne, Int.toNat_natCast, ne_eq, ge_iff_le, gt_iff_lt] at g1
    try have hiq := isQ_in h1
    exact WP.pathR tab_ok mixed [(8, An.call (T.bool false))] _ (ps := [(C Try.prog 173 [T.int .i64 n, T.int .i64 q] (T.bool false))]) (r := T.tup [T.int .i64 0, T.bool false]) (by kernel_rfl) ⟨(C.toB h1 (isQuestion_C n q)), trivial⟩ (oq_no h1) (fun _ h => h)
theorem l1In_C (x : Int) (lo : Int) (hi : Int) : C Try.prog 135 [T.int .i64 x, T.int .i64 lo, T.int .i64 hi] (T.bool (decide (x ≥ lo) && decide (x ≤ hi))) := by
  refine C.intro (tab := tab) tab_ok (fn := Try.f135) Try.func135 (by kernel_rfl) rfl (Nat.le_of_ble_eq_true rfl) ?_
  rcases Bool.eq_false_or_eq_true (decide (x ≥ lo)) with h1 | h1
  · -- yes
    have g1 : x ≥ lo := of_decide_eq_true h1
    exact WP.pathR tab_ok mixed [(9, An.b true)] _ (ps := [(True), ((decide (x ≥ lo)) = true), (True)]) (r := T.bool (decide (x ≤ hi))) (by kernel_rfl) ⟨trivial, h1, trivial, trivial⟩ (by first | rfl | simp [*]) (fun _ h => h)
  · -- no
    have g1 : ¬ (x ≥ lo) := of_decide_eq_false h1
    exact WP.pathR tab_ok mixed [(9, An.b false)] _ (ps := [(True), ((decide (x ≥ lo)) = false)]) (r := T.bool false) (by kernel_rfl) ⟨trivial, h1, trivial⟩ (by first | rfl | simp [*]) (fun _ h => h)
theorem l2Numbers_C (x : Int) : C Try.prog 167 [T.int .i64 x] (T.bool (decide (x ≥ 1) && decide (x ≤ 12))) := by
  refine C.intro (tab := tab) tab_ok (fn := Try.f167) Try.func167 (by kernel_rfl) rfl (Nat.le_of_ble_eq_true rfl) ?_
  exact WP.pathR tab_ok mixed [(4, An.call (T.bool (decide (x ≥ (1 : Int)) && decide (x ≤ (12 : Int)))))] _ (ps := [(C Try.prog 135 [T.int .i64 x, T.int .i64 1, T.int .i64 12] (T.bool (decide (x ≥ (1 : Int)) && decide (x ≤ (12 : Int)))))]) (r := T.bool (decide (x ≥ (1 : Int)) && decide (x ≤ (12 : Int)))) (by kernel_rfl) ⟨(by have hh := (l1In_C x (1 : Int) (12 : Int)); simpa using hh), trivial⟩ (by first | rfl | simp [*]) (fun _ h => h)
theorem l2Asks_C (n : Int) (q : Int) : C Try.prog 176 [T.int .i64 n, T.int .i64 q] (T.bool (isQ n q)) := by
  refine C.intro (tab := tab) tab_ok (fn := Try.f176) Try.func176 (by kernel_rfl) rfl (Nat.le_of_ble_eq_true rfl) ?_
  rcases Bool.eq_false_or_eq_true (decide (n ≥ 1) && decide (n ≤ 12)) with h1 | h1
  · -- yes
    have g1 := h1
    try simp only [Bool.and_eq_true, Bool.or_eq_true, Bool.and_eq_false_iff, Bool.or_eq_false_iff, Bool.not_eq_true', Bool.not_eq_false', decide_eq_true_eq, decide_eq_false_iff_not, beq_iff_eq, beq_eq_false_iff_ne, bne_iff_ne, Int.toNat_natCast, ne_eq, ge_iff_le, gt_iff_lt] at g1
    exact WP.pathR tab_ok mixed [(6, An.call (T.bool true)), (10, An.v (T.int .i64 (2 ^ Int.toNat n))), (11, An.v (T.int .i64 ((2 ^ Int.toNat n) - (1 : Int)))), (12, An.call (T.bool (decide (q ≥ (0 : Int)) && decide (q ≤ ((2 ^ Int.toNat n) - (1 : Int))))))] _ (ps := [(C Try.prog 167 [T.int .i64 n] (T.bool true)), (0 ≤ n), (T.int .i64 (IntKind.wrap .i64 ((1 : Int) * 2 ^ (min (Int.toNat n) 64))) = T.int .i64 (2 ^ Int.toNat n)), (True), (T.int .i64 (IntKind.wrap .i64 ((2 ^ Int.toNat n) - (1 : Int))) = T.int .i64 ((2 ^ Int.toNat n) - (1 : Int))), (C Try.prog 135 [T.int .i64 q, T.int .i64 0, T.int .i64 ((2 ^ Int.toNat n) - (1 : Int))] (T.bool (decide (q ≥ (0 : Int)) && decide (q ≤ ((2 ^ Int.toNat n) - (1 : Int))))))]) (r := T.bool (decide (q ≥ (0 : Int)) && decide (q ≤ ((2 ^ Int.toNat n) - (1 : Int))))) (by kernel_rfl) ⟨(C.toB h1 (l2Numbers_C n)), by omega, shl_small (by omega) (by omega), trivial, wrapT_i64 (by have hh := pow_bd (n := n) (by omega) (by omega); omega) (by have hh := pow_bd (n := n) (by omega) (by omega); omega), (by have hh := (l1In_C q (0 : Int) ((2 ^ Int.toNat n) - (1 : Int))); simpa using hh), trivial⟩ (by first | (unfold isQ; rw [in_ge.symm.trans (by assumption : (decide (n ≥ 1) && decide (n ≤ 12)) = _)]; rfl)) (fun _ h => h)
  · -- no
    have g1 := h1
    try simp only [Bool.and_eq_true, Bool.or_eq_true, Bool.and_eq_false_iff, Bool.or_eq_false_iff, Bool.not_eq_true', Bool.not_eq_false', decide_eq_true_eq, decide_eq_false_iff_not, beq_iff_eq, beq_eq_false_iff_ne, bne_iff_ne, Int.toNat_natCast, ne_eq, ge_iff_le, gt_iff_lt] at g1
    exact WP.pathR tab_ok mixed [(6, An.call (T.bool false))] _ (ps := [(C Try.prog 167 [T.int .i64 n] (T.bool false))]) (r := T.bool false) (by kernel_rfl) ⟨(C.toB h1 (l2Numbers_C n)), trivial⟩ (by first | (unfold isQ; rw [in_ge.symm.trans (by assumption : (decide (n ≥ 1) && decide (n ≤ 12)) = _)]; rfl)) (fun _ h => h)
theorem has_C (q : Int) (s : Int) (h0 : 0 ≤ s) : C Try.prog 214 [T.int .i64 q, T.int .i64 s] (T.bool (hasB q s)) := by
  refine C.intro (tab := tab) tab_ok (fn := Try.f214) Try.func214 (by kernel_rfl) rfl (Nat.le_of_ble_eq_true rfl) ?_
  exact WP.pathR tab_ok mixed [] _ (ps := [(0 ≤ s), (True), (True)]) (r := T.bool ((bits .and .i64 (Int.fdiv q (2 ^ (min (Int.toNat s) 64))) (1 : Int)) == (1 : Int))) (by kernel_rfl) ⟨by omega, trivial, trivial, trivial⟩ (rfl) (fun _ h => h)
theorem isNumber_C (n : Int) (s : Int) : C Try.prog 156 [T.int .i64 n, T.int .i64 s] (T.bool (numB n s)) := by
  refine C.intro (tab := tab) tab_ok (fn := Try.f156) Try.func156 (by kernel_rfl) rfl (Nat.le_of_ble_eq_true rfl) ?_
  rcases Bool.eq_false_or_eq_true (decide (1 ≤ n) && decide (n ≤ 12)) with h1 | h1
  · -- yes
    have g1 := h1
    try simp only [Bool.and_eq_true, Bool.or_eq_true, Bool.and_eq_false_iff, Bool.or_eq_false_iff, Bool.not_eq_true', Bool.not_eq_false', decide_eq_true_eq, decide_eq_false_iff_not, beq_iff_eq, beq_eq_false_iff_ne, bne_iff_ne, Int.toNat_natCast, ne_eq, ge_iff_le, gt_iff_lt] at g1
    exact WP.pathR tab_ok mixed [(6, An.call (T.bool true)), (10, An.v (T.int .i64 (n - (1 : Int)))), (11, An.call (T.bool (decide ((0 : Int) ≤ s) && decide (s ≤ (n - (1 : Int))))))] _ (ps := [(C Try.prog 163 [T.int .i64 n] (T.bool true)), (True), (T.int .i64 (IntKind.wrap .i64 (n - (1 : Int))) = T.int .i64 (n - (1 : Int))), (C Try.prog 174 [T.int .i64 s, T.int .i64 0, T.int .i64 (n - (1 : Int))] (T.bool (decide ((0 : Int) ≤ s) && decide (s ≤ (n - (1 : Int))))))]) (r := T.bool (decide ((0 : Int) ≤ s) && decide (s ≤ (n - (1 : Int))))) (by kernel_rfl) ⟨(C.toB h1 (isCount_C n)), trivial, wrapT_i64 (by omega) (by omega), (by have hh := (in_C s (0 : Int) (n - (1 : Int))); simpa using hh), trivial⟩ (by first | rfl | (unfold numB; (try rw [h1]); rfl)) (fun _ h => h)
  · -- no
    have g1 := h1
    try simp only [Bool.and_eq_true, Bool.or_eq_true, Bool.and_eq_false_iff, Bool.or_eq_false_iff, Bool.not_eq_true', Bool.not_eq_false', decide_eq_true_eq, decide_eq_false_iff_not, beq_iff_eq, beq_eq_false_iff_ne, bne_iff_ne, Int.toNat_natCast, ne_eq, ge_iff_le, gt_iff_lt] at g1
    exact WP.pathR tab_ok mixed [(6, An.call (T.bool false))] _ (ps := [(C Try.prog 163 [T.int .i64 n] (T.bool false))]) (r := T.bool false) (by kernel_rfl) ⟨(C.toB h1 (isCount_C n)), trivial⟩ (by first | rfl | (unfold numB; (try rw [h1]); rfl)) (fun _ h => h)
theorem l2State_C (xs : List Int) (m : Int) (hx : xs.length ≤ 9223372036854775807) : C Try.prog 187 [T.agg [T.list (List.length xs) 1 (List.map (T.int .i64) xs), T.int .i64 m]] (T.bool (isStateN xs m)) := by
  refine C.intro (tab := tab) tab_ok (fn := Try.f187) Try.func187 (by kernel_rfl) rfl (Nat.le_of_ble_eq_true rfl) ?_
  refine WP.seq ?_
  refine WP.path tab_ok mixed [(1, An.fz)] [.keep [2, 1], .keepO []] (ps := []) (e := .normal) (σ' := ⟨[], [(2, V.t (T.bool false)), (1, V.t (T.ptr [T.list (List.length xs) 1 (List.map (T.int .i64) xs), T.int .i64 m]))], []⟩) (by kernel_rfl) trivial ?_
  refine WP.seq ?_
  refine WP.seq ?_
  refine WP.path tab_ok mixed [] [.keep [3, 2, 1], .keepO []] (ps := []) (e := .normal) (σ' := ⟨[], [(3, V.t (T.int .i64 0)), (2, V.t (T.bool false)), (1, V.t (T.ptr [T.list (List.length xs) 1 (List.map (T.int .i64) xs), T.int .i64 m]))], []⟩) (by kernel_rfl) trivial ?_
  refine WP.block ?_
  refine WP.wk [.keep [3, 2, 1], .keepO [], .names []] (σ' := ⟨[], [(3, V.t (T.int .i64 ((0) : Int))), (2, V.t (T.bool false)), (1, V.t (T.ptr [T.list (List.length xs) 1 (List.map (T.int .i64) xs), T.int .i64 m]))], []⟩) (ps := []) (by kernel_rfl) trivial ?_
  refine WP.loop (α := Nat) (fun zz => ⟨[], [(3, V.t (T.int .i64 (zz : Int))), (2, V.t (T.bool false)), (1, V.t (T.ptr [T.list (List.length xs) 1 (List.map (T.int .i64) xs), T.int .i64 m]))], []⟩) (fun zz => zz ≤ xs.length ∧ zz ≤ 13 ∧ ∀ j, j < zz → (decide (xs.getD j 0 ≥ -1) && decide (xs.getD j 0 ≤ m)) = true) (fun zz => (min xs.length 13) - zz) 0 (⟨by omega, by omega, fun j h => by omega⟩) ?_
  intro i hinv0
  have hinv : i ≤ xs.length ∧ i ≤ 13 ∧ ∀ j, j < i → (decide (xs.getD j 0 ≥ -1) && decide (xs.getD j 0 ≤ m)) = true := hinv0
  obtain ⟨hi, hi2, hall⟩ := hinv
  rcases Bool.eq_false_or_eq_true (decide ((i : Int) < ((List.length xs : Nat) : Int))) with h1 | h1
  · -- yes
    have g1 : (i : Int) < ((List.length xs : Nat) : Int) := of_decide_eq_true h1
    rcases Bool.eq_false_or_eq_true (decide ((i : Int) ≤ (12 : Int))) with h2 | h2
    · -- yes
      have g2 : (i : Int) ≤ (12 : Int) := of_decide_eq_true h2
      rcases Bool.eq_false_or_eq_true (decide ((List.getD xs i 0) ≥ (-1 : Int)) && decide ((List.getD xs i 0) ≤ m)) with h3 | h3
      · -- yes
        have g3 := h3
        try simp only [Bool.and_eq_true, Bool.or_eq_true, Bool.and_eq_false_iff, Bool.or_eq_false_iff, Bool.not_eq_true', Bool.not_eq_false', decide_eq_true_eq, decide_eq_false_iff_not, beq_iff_eq, beq_eq_false_iff_ne, bne_iff_ne, Int.toNat_natCast, ne_eq, ge_iff_le, gt_iff_lt] at g3
        refine WP.path tab_ok mixed [(8, An.b true), (11, An.b true), (19, An.v (T.int .i64 (List.getD xs i 0))), (22, An.call (T.bool true)), (14, An.v (T.int .i64 (((i + 1 : Nat) : Int))))] [.keep [3, 2, 1], .keepO [], .names []] (ps := [(True), (True), ((decide ((i : Int) < ((List.length xs : Nat) : Int))) = true), (True), ((decide ((i : Int) ≤ (12 : Int))) = true), (True), ((0 ≤ (i : Int) ∧ (i : Int) < ((List.length xs : Nat) : Int))), ((List.drop ((Int.toNat (i : Int)) * 1) (List.map (T.int .i64) xs) : List T)[0]? = some (T.int .i64 (List.getD xs i 0))), (T.int .i64 (List.getD xs i 0) = T.int .i64 (List.getD xs i 0)), (True), (C Try.prog 135 [T.int .i64 (List.getD xs i 0), T.int .i64 (-1), T.int .i64 m] (T.bool true)), (True), (T.int .i64 (IntKind.wrap .i64 ((i : Int) + (1 : Int))) = T.int .i64 (((i + 1 : Nat) : Int)))]) (e := .normal) (σ' := ⟨[], [(3, V.t (T.int .i64 ((i + 1) : Int))), (2, V.t (T.bool false)), (1, V.t (T.ptr [T.list (List.length xs) 1 (List.map (T.int .i64) xs), T.int .i64 m]))], []⟩) (by kernel_rfl) ⟨trivial, trivial, h1, trivial, h2, trivial, ⟨by omega, by omega⟩, at1 (by simp) (by omega), rfl, trivial, (C.toB h3 (by have hh := (l1In_C (List.getD xs i 0) (-1 : Int) m); simpa using hh)), trivial, wrapT_i64 (by omega) (by omega), trivial⟩ ?_
        exact ⟨i + 1, ⟨by omega, by omega, all_step hall (by simpa using (by assumption : (decide (_ ≥ (-1 : Int)) && decide (_ ≤ m)) = true))⟩, by first | omega | (dsimp only; omega), rfl⟩
      · -- no
        have g3 := h3
        try simp only [Bool.and_eq_true, Bool.or_eq_true, Bool.and_eq_false_iff, Bool.or_eq_false_iff, Bool.not_eq_true', Bool.not_eq_false', decide_eq_true_eq, decide_eq_false_iff_not, beq_iff_eq, beq_eq_false_iff_ne, bne_iff_ne, Int.toNat_natCast, ne_eq, ge_iff_le, gt_iff_lt] at g3
        exact WP.pathR tab_ok mixed [(8, An.b true), (11, An.b true), (19, An.v (T.int .i64 (List.getD xs i 0))), (22, An.call (T.bool false))] _ (ps := [(True), (True), ((decide ((i : Int) < ((List.length xs : Nat) : Int))) = true), (True), ((decide ((i : Int) ≤ (12 : Int))) = true), (True), ((0 ≤ (i : Int) ∧ (i : Int) < ((List.length xs : Nat) : Int))), ((List.drop ((Int.toNat (i : Int)) * 1) (List.map (T.int .i64) xs) : List T)[0]? = some (T.int .i64 (List.getD xs i 0))), (T.int .i64 (List.getD xs i 0) = T.int .i64 (List.getD xs i 0)), (True), (C Try.prog 135 [T.int .i64 (List.getD xs i 0), T.int .i64 (-1), T.int .i64 m] (T.bool false))]) (r := T.bool false) (by kernel_rfl) ⟨trivial, trivial, h1, trivial, h2, trivial, ⟨by omega, by omega⟩, at1 (by simp) (by omega), rfl, trivial, (C.toB h3 (by have hh := (l1In_C (List.getD xs i 0) (-1 : Int) m); simpa using hh)), trivial⟩ (by first | exact l2State_bad hi hi2 (by omega) (by assumption) | exact l2State_short (by omega) | exact l2State_end hall (by omega) (by omega) | (exfalso; omega)) (fun _ h => h)
    · -- no
      have g2 : ¬ ((i : Int) ≤ (12 : Int)) := of_decide_eq_false h2
      refine WP.path tab_ok mixed [(8, An.b true), (11, An.b false)] [.keep [2, 1], .keepO []] (ps := [(True), (True), ((decide ((i : Int) < ((List.length xs : Nat) : Int))) = true), (True), ((decide ((i : Int) ≤ (12 : Int))) = false)]) (e := (.exit 0)) (σ' := ⟨[], [(2, V.t (T.bool false)), (1, V.t (T.ptr [T.list (List.length xs) 1 (List.map (T.int .i64) xs), T.int .i64 m]))], []⟩) (by kernel_rfl) ⟨trivial, trivial, h1, trivial, h2, trivial⟩ ?_
      rcases Bool.eq_false_or_eq_true (decide (((List.length xs : Nat) : Int) ≥ (1 : Int)) && decide (((List.length xs : Nat) : Int) ≤ (12 : Int))) with h4 | h4
      · -- yes
        have g4 := h4
        try simp only [Bool.and_eq_true, Bool.or_eq_true, Bool.and_eq_false_iff, Bool.or_eq_false_iff, Bool.not_eq_true', Bool.not_eq_false', decide_eq_true_eq, decide_eq_false_iff_not, beq_iff_eq, beq_eq_false_iff_ne, bne_iff_ne, Int.toNat_natCast, ne_eq, ge_iff_le, gt_iff_lt] at g4
        exact WP.pathR tab_ok mixed [(27, An.call (T.bool true)), (31, An.call (T.bool (decide (m ≥ (0 : Int)) && decide (m ≤ (2 : Int)))))] _ (ps := [(True), (C Try.prog 135 [T.int .i64 ((List.length xs : Nat) : Int), T.int .i64 1, T.int .i64 12] (T.bool true)), (True), (C Try.prog 135 [T.int .i64 m, T.int .i64 0, T.int .i64 2] (T.bool (decide (m ≥ (0 : Int)) && decide (m ≤ (2 : Int)))))]) (r := T.bool (decide (m ≥ (0 : Int)) && decide (m ≤ (2 : Int)))) (by kernel_rfl) ⟨trivial, (C.toB h4 (by have hh := (l1In_C ((List.length xs : Nat) : Int) (1 : Int) (12 : Int)); simpa using hh)), trivial, (by have hh := (l1In_C m (0 : Int) (2 : Int)); simpa using hh), trivial⟩ (by first | exact l2State_bad hi hi2 (by omega) (by assumption) | exact l2State_short (by omega) | exact l2State_end hall (by omega) (by omega) | (exfalso; omega)) (fun _ h => h)
      · -- no
        have g4 := h4
        try simp only [Bool.and_eq_true, Bool.or_eq_true, Bool.and_eq_false_iff, Bool.or_eq_false_iff, Bool.not_eq_true', Bool.not_eq_false', decide_eq_true_eq, decide_eq_false_iff_not, beq_iff_eq, beq_eq_false_iff_ne, bne_iff_ne, Int.toNat_natCast, ne_eq, ge_iff_le, gt_iff_lt] at g4
        exact WP.pathR tab_ok mixed [(27, An.call (T.bool false))] _ (ps := [(True), (C Try.prog 135 [T.int .i64 ((List.length xs : Nat) : Int), T.int .i64 1, T.int .i64 12] (T.bool false))]) (r := T.bool false) (by kernel_rfl) ⟨trivial, (C.toB h4 (by have hh := (l1In_C ((List.length xs : Nat) : Int) (1 : Int) (12 : Int)); simpa using hh)), trivial⟩ (by first | exact l2State_bad hi hi2 (by omega) (by assumption) | exact l2State_short (by omega) | exact l2State_end hall (by omega) (by omega) | (exfalso; omega)) (fun _ h => h)
  · -- no
    have g1 : ¬ ((i : Int) < ((List.length xs : Nat) : Int)) := of_decide_eq_false h1
    refine WP.path tab_ok mixed [(8, An.b false)] [.keep [2, 1], .keepO []] (ps := [(True), (True), ((decide ((i : Int) < ((List.length xs : Nat) : Int))) = false)]) (e := (.exit 0)) (σ' := ⟨[], [(2, V.t (T.bool false)), (1, V.t (T.ptr [T.list (List.length xs) 1 (List.map (T.int .i64) xs), T.int .i64 m]))], []⟩) (by kernel_rfl) ⟨trivial, trivial, h1, trivial⟩ ?_
    rcases Bool.eq_false_or_eq_true (decide (((List.length xs : Nat) : Int) ≥ (1 : Int)) && decide (((List.length xs : Nat) : Int) ≤ (12 : Int))) with h5 | h5
    · -- yes
      have g5 := h5
      try simp only [Bool.and_eq_true, Bool.or_eq_true, Bool.and_eq_false_iff, Bool.or_eq_false_iff, Bool.not_eq_true', Bool.not_eq_false', decide_eq_true_eq, decide_eq_false_iff_not, beq_iff_eq, beq_eq_false_iff_ne, bne_iff_ne, Int.toNat_natCast, ne_eq, ge_iff_le, gt_iff_lt] at g5
      exact WP.pathR tab_ok mixed [(27, An.call (T.bool true)), (31, An.call (T.bool (decide (m ≥ (0 : Int)) && decide (m ≤ (2 : Int)))))] _ (ps := [(True), (C Try.prog 135 [T.int .i64 ((List.length xs : Nat) : Int), T.int .i64 1, T.int .i64 12] (T.bool true)), (True), (C Try.prog 135 [T.int .i64 m, T.int .i64 0, T.int .i64 2] (T.bool (decide (m ≥ (0 : Int)) && decide (m ≤ (2 : Int)))))]) (r := T.bool (decide (m ≥ (0 : Int)) && decide (m ≤ (2 : Int)))) (by kernel_rfl) ⟨trivial, (C.toB h5 (by have hh := (l1In_C ((List.length xs : Nat) : Int) (1 : Int) (12 : Int)); simpa using hh)), trivial, (by have hh := (l1In_C m (0 : Int) (2 : Int)); simpa using hh), trivial⟩ (by first | exact l2State_bad hi hi2 (by omega) (by assumption) | exact l2State_short (by omega) | exact l2State_end hall (by omega) (by omega) | (exfalso; omega)) (fun _ h => h)
    · -- no
      have g5 := h5
      try simp only [Bool.and_eq_true, Bool.or_eq_true, Bool.and_eq_false_iff, Bool.or_eq_false_iff, Bool.not_eq_true', Bool.not_eq_false', decide_eq_true_eq, decide_eq_false_iff_not, beq_iff_eq, beq_eq_false_iff_ne, bne_iff_ne, Int.toNat_natCast, ne_eq, ge_iff_le, gt_iff_lt] at g5
      exact WP.pathR tab_ok mixed [(27, An.call (T.bool false))] _ (ps := [(True), (C Try.prog 135 [T.int .i64 ((List.length xs : Nat) : Int), T.int .i64 1, T.int .i64 12] (T.bool false))]) (r := T.bool false) (by kernel_rfl) ⟨trivial, (C.toB h5 (by have hh := (l1In_C ((List.length xs : Nat) : Int) (1 : Int) (12 : Int)); simpa using hh)), trivial⟩ (by first | exact l2State_bad hi hi2 (by omega) (by assumption) | exact l2State_short (by omega) | exact l2State_end hall (by omega) (by omega) | (exfalso; omega)) (fun _ h => h)
theorem l2Question_C (xs : List Int) (m : Int) (q : Int) (hx : xs.length ≤ 9223372036854775807) : C Try.prog 202 [T.agg [T.list (List.length xs) 1 (List.map (T.int .i64) xs), T.int .i64 m], T.int .i64 q] (T.bool (isQ ((List.length xs : Nat) : Int) q)) := by
  refine C.intro (tab := tab) tab_ok (fn := Try.f202) Try.func202 (by kernel_rfl) rfl (Nat.le_of_ble_eq_true rfl) ?_
  exact WP.pathR tab_ok mixed [(2, An.fz), (9, An.call (T.bool (isQ ((List.length xs : Nat) : Int) q)))] _ (ps := [(True), (C Try.prog 176 [T.int .i64 ((List.length xs : Nat) : Int), T.int .i64 q] (T.bool (isQ ((List.length xs : Nat) : Int) q)))]) (r := T.bool (isQ ((List.length xs : Nat) : Int) q)) (by kernel_rfl) ⟨trivial, (l2Asks_C ((List.length xs : Nat) : Int) q), trivial⟩ (by first | rfl | simp [*]) (fun _ h => h)
end Go.Proofs.Ytofiecpgfjofdaa.AuQO
