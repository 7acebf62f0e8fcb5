/-
  The walks: each function of the program returns what the plain function beside it returns. No statement is proved here.
-/
import Derived.Test.YtofiecpgfjofdaaTlV
import Derived.Test.YtofiecpgfjofdaaTlCI
import Derived.Test.YtofiecpgfjofdaaAuAxF
import Derived.Test.YtofiecpgfjofdaaProg
import Derived.Test.YtofiecpgfjofdaaAuAxO
import Derived.Test.YtofiecpgfjofdaaAuAxa
namespace Go.Proofs.Ytofiecpgfjofdaa.AuAx
open Go Go.Tl Go.Proofs
open Go.Proofs.Ytofiecpgfjofdaa.AuAxO hiding tab tab_ok mixed
open Go.Proofs.Ytofiecpgfjofdaa.AuAxa hiding tab tab_ok mixed
set_option linter.unusedVariables false
set_option linter.unusedSimpArgs false
set_option maxRecDepth 100000
def tab : Tab := [(3, ⟨.int .i64, 1, 8, [.int .i64 0]⟩), (4, ⟨.bool, 1, 1, [.bool false]⟩), (5, ⟨.int .u8, 1, 1, [.int .u8 0]⟩), (26, ⟨.slice 3 1 8, 1, 24, [.nils]⟩), (40, ⟨.slice 5 1 1, 1, 24, [.nils]⟩), (49, ⟨.array 2 3 1 false, 2, 16, [.int .i64 0, .int .i64 0]⟩), (65, ⟨.slice 85 2 16, 1, 24, [.nils]⟩), (85, ⟨.struct [(0, 1, false), (1, 1, false)], 2, 16, [.int .i64 0, .bool false]⟩), (113, ⟨.struct [(0, 1, false), (1, 1, false)], 2, 16, [.int .i64 0, .int .i64 0]⟩), (116, ⟨.slice 49 2 16, 1, 24, [.nils]⟩), (148, ⟨.pointer 151, 1, 8, [.nilp]⟩), (149, ⟨.int .u64, 1, 8, [.int .u64 0]⟩), (151, ⟨.struct [(0, 1, false), (1, 1, false), (2, 1, false)], 3, 40, [.nils, .int .i64 0, .int .u64 0]⟩), (213, ⟨.func, 1, 8, [.nilf]⟩)]
theorem tab_ok : chkTab Try.prog tab = true := by kernel_rfl
theorem mixed : Try.prog.follows .mixedOrders = true := by kernel_rfl
theorem F_impl_ChanceYes_W (x0 : Int) (x1 : List (Int × Bool)) (x2 : Int) (x3 : Int) (x4 : Int) (y0 : Int) (y1 : Int) (y2 : Bool) (h : F_impl_ChanceYes x0 x1 x2 x3 x4 = some (y0, y1, y2)) : C Try.prog 117 [ti x0, T.list (List.length x1) 2 (List.flatMap askedC x1), ti x2, T.agg [ti x3, ti x4]] (T.tup [T.agg [ti y0, ti y1], tb y2]) := by
  unfold F_impl_ChanceYes at h
  refine C.intro (tab := tab) tab_ok (fn := Try.f117) Try.func117 (by kernel_rfl) rfl (Nat.le_of_ble_eq_true rfl) ?_
  refine WP.seq ?_
  refine WP.path tab_ok mixed [(7, An.fz), (8, An.id 2008)] [.keep [9, 8, 7, 0, 1, 2], .keepO [2008]] (ps := []) (e := .normal) (σ' := ⟨[2008], [(9, vb false), (8, V.ref 2008 0), (7, V.t (T.ptr [ti x3, ti x4])), (0, vi x0), (1, V.t (T.list (List.length x1) 2 (List.flatMap askedC x1))), (2, vi x2)], [(2008, oc 49 [ti 0, ti 0])]⟩) (by kernel_rfl) trivial ?_
  refine WP.seq ?_
  obtain ⟨r18, r18b, r18c, c0, h⟩ := bnd3_some h
  refine WP.path tab_ok mixed [(18, An.callG [(9000, 10180)] [vi x0, V.t (T.list (List.length x1) 2 (List.flatMap askedC x1)), V.t (T.agg [ti x3, ti x4]), vi 11] [] (V.tup [vo 9000 (List.length r18), vi r18b, vb r18c]) [(9000, oc 3 (List.map (T.int .i64) r18))])] [.keep [12, 11, 10, 9, 8, 7, 0, 2], .keepO [2008, 10180]] (ps := [(2 ≤ 2), (CG Try.prog 225 [vi x0, V.t (T.list (List.length x1) 2 (List.flatMap askedC x1)), V.t (T.agg [ti x3, ti x4]), vi 11] [] (V.tup [vo 9000 (List.length r18), vi r18b, vb r18c]) [(9000, oc 3 (List.map (T.int .i64) r18))]), (WkT (ti x0) (ti x0)), (WkT (T.list (List.length x1) 2 (List.flatMap askedC x1)) (T.list (List.length x1) 2 (List.flatMap askedC x1))), (WkT (T.agg [ti x3, ti x4]) (T.agg [ti x3, ti x4])), (WkT (ti 11) (ti 11))]) (e := .normal) (σ' := ⟨[10180, 2008], [(12, vb r18c), (11, vi r18b), (10, vo 10180 (List.length r18)), (9, vb false), (8, V.ref 2008 0), (7, V.t (T.ptr [ti x3, ti x4])), (0, vi x0), (2, vi x2)], [(2008, oc 49 [ti 0, ti 0]), (10180, oc 3 (List.map (T.int .i64) r18))]⟩) (by kernel_rfl) ⟨by decide, (F_impl_sharesAfter_W x0 x1 x3 x4 (11 : Int) r18 r18b r18c c0), WkT.refl _, WkT.refl _, WkT.refl _, WkT.refl _, trivial⟩ ?_
  refine WP.seq ?_
  obtain ⟨J1, hJ1, h⟩ := jn_some h
  refine WP.joinA (fun (zz : Bool) => ⟨[2008, 10180], [(29, vb zz), (11, vi r18b), (10, vo 10180 (List.length r18)), (9, vb false), (8, V.ref 2008 0), (7, V.t (T.ptr [ti x3, ti x4])), (2, vi x2)], [(2008, oc 49 [ti 0, ti 0]), (10180, oc 3 (List.map (T.int .i64) r18))]⟩) (fun zz => J1 zz = some (y0, y1, y2)) ?_ ?_
  · -- to where they meet
    rcases ite_some h with ⟨h1, h⟩ | ⟨h1, h⟩
    · -- yes
      refine WP.path tab_ok mixed [(24, An.b true)] [.keep [29, 11, 10, 9, 8, 7, 2], .keepO [2008, 10180], .names [(2008, 2008), (10180, 10180)]] (ps := [((!r18c) = true)]) (e := .normal) (σ' := ⟨[2008, 10180], [(29, vb true), (11, vi r18b), (10, vo 10180 (List.length r18)), (9, vb false), (8, V.ref 2008 0), (7, V.t (T.ptr [ti x3, ti x4])), (2, vi x2)], [(2008, oc 49 [ti 0, ti 0]), (10180, oc 3 (List.map (T.int .i64) r18))]⟩) (by kernel_rfl) ⟨h1, trivial⟩ ?_
      exact ⟨(true), h, rfl⟩
    · -- no
      refine WP.path tab_ok mixed [(24, An.b false), (27, An.call (tb (isQ x0 x2)))] [.keep [29, 11, 10, 9, 8, 7, 2], .keepO [2008, 10180], .names [(2008, 2008), (10180, 10180)]] (ps := [((!r18c) = false), (C Try.prog 173 [ti x0, ti x2] (tb (isQ x0 x2)))]) (e := .normal) (σ' := ⟨[2008, 10180], [(29, vb (!(isQ x0 x2))), (11, vi r18b), (10, vo 10180 (List.length r18)), (9, vb false), (8, V.ref 2008 0), (7, V.t (T.ptr [ti x3, ti x4])), (2, vi x2)], [(2008, oc 49 [ti 0, ti 0]), (10180, oc 3 (List.map (T.int .i64) r18))]⟩) (by kernel_rfl) ⟨h1, (isQuestion_C x0 x2), trivial⟩ ?_
      exact ⟨(!(isQ x0 x2)), h, rfl⟩
  · -- from there
    intro v29 h0
    have h := (show J1 v29 = some (y0, y1, y2) from h0)
    rw [hJ1] at h
    rcases ite_some h with ⟨h2, h⟩ | ⟨h2, h⟩
    · -- yes
      refine WP.cond (b := v29) rfl (fun _ => ?_) (fun hh => by rw [h2] at hh; cases hh)
      simp only [Option.some.injEq, Prod.mk.injEq] at h
      obtain ⟨rfl, rfl, rfl⟩ := h
      exact WP.pathW tab_ok mixed [] _ (ps := [(True), ((0 + 2 ≤ 2 ∧ 2 = 2)), (0 + 2 ≤ 2)]) (r := T.tup [T.agg [ti 0, ti 0], tb false]) (by kernel_rfl) ⟨trivial, by decide, by first | decide | omega | (simp only [tlL]; omega) | (simp; omega) | (simp []; done) | (simp []; omega), trivial⟩ (WkT.eq (y := T.tup [T.agg [ti 0, ti 0], tb false]) (WkT.refl _) (by first | rfl | (simp only [tlS, tl, vl, vo, oc, ov, tbl, vbl, ty, vy]; done) | (simp only [tlS, tl, vl, vo, oc, ov, tbl, vbl, ty, vy]; rfl) | (simp; done) | (simp []; done) | (rw [List.take_of_length_le (by simp [])]; done) | (rw [List.take_of_length_le (by simp [])]; rfl) | (simp only [tlL]; omega) | (simp; omega))) (fun _ h => h)
    · -- no
      refine WP.cond (b := v29) rfl (fun hh => by rw [h2] at hh; cases hh) (fun _ => ?_)
      refine WP.path tab_ok mixed [] [.keep [11, 10, 9, 8, 7, 2], .keepO [2008, 10180]] (ps := []) (e := .normal) (σ' := ⟨[2008, 10180], [(11, vi r18b), (10, vo 10180 (List.length r18)), (9, vb false), (8, V.ref 2008 0), (7, V.t (T.ptr [ti x3, ti x4])), (2, vi x2)], [(2008, oc 49 [ti 0, ti 0]), (10180, oc 3 (List.map (T.int .i64) r18))]⟩) (by kernel_rfl) trivial ?_
      obtain ⟨r33, c1, h⟩ := bnd1_some h
      obtain ⟨c2, h⟩ := chk_some h
      obtain ⟨c3, h⟩ := chk_some h
      obtain ⟨c4, h⟩ := chk_some h
      obtain ⟨c5, h⟩ := chk_some h
      obtain ⟨c6, h⟩ := chk_some h
      obtain ⟨c7, h⟩ := chk_some h
      obtain ⟨c8, h⟩ := chk_some h
      obtain ⟨c9, h⟩ := chk_some h
      simp only [Option.some.injEq, Prod.mk.injEq] at h
      obtain ⟨rfl, rfl, rfl⟩ := h
      exact WP.pathW tab_ok mixed [(33, An.call (ti r33)), (39, An.v (T.int .i64 (x4 - x3))), (40, An.v (T.int .i64 (r33 * (x4 - x3)))), (43, An.v (T.int .i64 (r18b - r33))), (46, An.v (T.int .i64 ((r18b - r33) * x3))), (47, An.v (T.int .i64 ((r33 * (x4 - x3)) + ((r18b - r33) * x3)))), (51, An.v (T.int .i64 (r18b * x4))), (52, An.call (T.agg [ti (IntKind.wrap .i64 (Int.tdiv ((r33 * (x4 - x3)) + ((r18b - r33) * x3)) ((Int.gcd ((r33 * (x4 - x3)) + ((r18b - r33) * x3)) (r18b * x4) : Nat) : Int))), ti (IntKind.wrap .i64 (Int.tdiv (r18b * x4) ((Int.gcd ((r33 * (x4 - x3)) + ((r18b - r33) * x3)) (r18b * x4) : Nat) : Int)))]))] _ (ps := [(C Try.prog 228 [tl r18, ti x2] (ti r33)), (List.length (List.map (T.int .i64) r18) = (List.length r18) * 1), (True), (True), (True), (T.int .i64 (IntKind.wrap .i64 (x4 - x3)) = T.int .i64 (x4 - x3)), (True), (T.int .i64 (IntKind.wrap .i64 (r33 * (x4 - x3))) = T.int .i64 (r33 * (x4 - x3))), (True), (T.int .i64 (IntKind.wrap .i64 (r18b - r33)) = T.int .i64 (r18b - r33)), (True), (True), (T.int .i64 (IntKind.wrap .i64 ((r18b - r33) * x3)) = T.int .i64 ((r18b - r33) * x3)), (True), (T.int .i64 (IntKind.wrap .i64 ((r33 * (x4 - x3)) + ((r18b - r33) * x3))) = T.int .i64 ((r33 * (x4 - x3)) + ((r18b - r33) * x3))), (True), (True), (T.int .i64 (IntKind.wrap .i64 (r18b * x4)) = T.int .i64 (r18b * x4)), (C Try.prog 159 [ti ((r33 * (x4 - x3)) + ((r18b - r33) * x3)), ti (r18b * x4)] (T.agg [ti (IntKind.wrap .i64 (Int.tdiv ((r33 * (x4 - x3)) + ((r18b - r33) * x3)) ((Int.gcd ((r33 * (x4 - x3)) + ((r18b - r33) * x3)) (r18b * x4) : Nat) : Int))), ti (IntKind.wrap .i64 (Int.tdiv (r18b * x4) ((Int.gcd ((r33 * (x4 - x3)) + ((r18b - r33) * x3)) (r18b * x4) : Nat) : Int)))])), ((0 + 2 ≤ 2 ∧ 2 = 2)), (0 + 2 ≤ 2)]) (r := T.tup [T.agg [ti (IntKind.wrap .i64 (Int.tdiv ((r33 * (x4 - x3)) + ((r18b - r33) * x3)) ((Int.gcd ((r33 * (x4 - x3)) + ((r18b - r33) * x3)) (r18b * x4) : Nat) : Int))), ti (IntKind.wrap .i64 (Int.tdiv (r18b * x4) ((Int.gcd ((r33 * (x4 - x3)) + ((r18b - r33) * x3)) (r18b * x4) : Nat) : Int)))], tb true]) (by kernel_rfl) ⟨(F_impl_within_W r18 x2 r33 c1), by first | rfl | (simp; done) | omega | (simp only [tlL]; omega) | (simp; omega) | (simp []; done) | (simp []; omega), trivial, trivial, trivial, wrapI c2, trivial, wrapI c3, trivial, wrapI c4, trivial, trivial, wrapI c5, trivial, wrapI c6, trivial, trivial, wrapI c7, (fraction_C ((r33 * (x4 - x3)) + ((r18b - r33) * x3)) (r18b * x4) c8 c9), by decide, by first | decide | omega | (simp only [tlL]; omega) | (simp; omega) | (simp []; done) | (simp []; omega), trivial⟩ (WkT.eq (y := T.tup [T.agg [ti (IntKind.wrap .i64 (Int.tdiv ((r33 * (x4 - x3)) + ((r18b - r33) * x3)) ((Int.gcd ((r33 * (x4 - x3)) + ((r18b - r33) * x3)) (r18b * x4) : Nat) : Int))), ti (IntKind.wrap .i64 (Int.tdiv (r18b * x4) ((Int.gcd ((r33 * (x4 - x3)) + ((r18b - r33) * x3)) (r18b * x4) : Nat) : Int)))], tb true]) (WkT.refl _) rfl) (fun _ h => h)
theorem F_spec_ChanceYes_W (x0 : Int) (x1 : List (Int × Bool)) (x2 : Int) (x3 : Int) (x4 : Int) (y0 : Int) (y1 : Int) (y2 : Bool) (h : F_spec_ChanceYes x0 x1 x2 x3 x4 = some (y0, y1, y2)) : C Try.prog 118 [ti x0, T.list (List.length x1) 2 (List.flatMap askedC x1), ti x2, T.agg [ti x3, ti x4]] (T.tup [T.agg [ti y0, ti y1], tb y2]) := by
  unfold F_spec_ChanceYes at h
  refine C.intro (tab := tab) tab_ok (fn := Try.f118) Try.func118 (by kernel_rfl) rfl (Nat.le_of_ble_eq_true rfl) ?_
  refine WP.seq ?_
  refine WP.path tab_ok mixed [(7, An.fz), (8, An.id 2008)] [.keep [9, 8, 7, 0, 1, 2], .keepO [2008]] (ps := []) (e := .normal) (σ' := ⟨[2008], [(9, vb false), (8, V.ref 2008 0), (7, V.t (T.ptr [ti x3, ti x4])), (0, vi x0), (1, V.t (T.list (List.length x1) 2 (List.flatMap askedC x1))), (2, vi x2)], [(2008, oc 49 [ti 0, ti 0])]⟩) (by kernel_rfl) trivial ?_
  refine WP.seq ?_
  obtain ⟨J1, hJ1, h⟩ := jn_some h
  refine WP.joinA (fun (zz : Bool) => ⟨[2008], [(28, vb zz), (9, vb false), (8, V.ref 2008 0), (7, V.t (T.ptr [ti x3, ti x4])), (0, vi x0), (1, V.t (T.list (List.length x1) 2 (List.flatMap askedC x1))), (2, vi x2)], [(2008, oc 49 [ti 0, ti 0])]⟩) (fun zz => J1 zz = some (y0, y1, y2)) ?_ ?_
  · -- to where they meet
    obtain ⟨r16, c0, h⟩ := bnd1_some h
    rcases ite_some h with ⟨h1, h⟩ | ⟨h1, h⟩
    · -- yes
      refine WP.path tab_ok mixed [(16, An.call (tb r16)), (18, An.b true)] [.keep [28, 9, 8, 7, 0, 1, 2], .keepO [2008], .names [(2008, 2008)]] (ps := [(2 ≤ 2), (C Try.prog 226 [ti x0, T.list (List.length x1) 2 (List.flatMap askedC x1), T.agg [ti x3, ti x4]] (tb r16)), ((!r16) = true)]) (e := .normal) (σ' := ⟨[2008], [(28, vb true), (9, vb false), (8, V.ref 2008 0), (7, V.t (T.ptr [ti x3, ti x4])), (0, vi x0), (1, V.t (T.list (List.length x1) 2 (List.flatMap askedC x1))), (2, vi x2)], [(2008, oc 49 [ti 0, ti 0])]⟩) (by kernel_rfl) ⟨by decide, (F_spec_l7Answers_W x0 x1 x3 x4 r16 c0), h1, trivial⟩ ?_
      exact ⟨(true), h, rfl⟩
    · -- no
      rcases ite_some h with ⟨h2, h⟩ | ⟨h2, h⟩
      · -- yes
        refine WP.path tab_ok mixed [(16, An.call (tb r16)), (18, An.b false), (21, An.b true)] [.keep [28, 9, 8, 7, 0, 1, 2], .keepO [2008], .names [(2008, 2008)]] (ps := [(2 ≤ 2), (C Try.prog 226 [ti x0, T.list (List.length x1) 2 (List.flatMap askedC x1), T.agg [ti x3, ti x4]] (tb r16)), ((!r16) = false), (True), ((((List.length x1 : Nat) : Int) == (12 : Int)) = true)]) (e := .normal) (σ' := ⟨[2008], [(28, vb true), (9, vb false), (8, V.ref 2008 0), (7, V.t (T.ptr [ti x3, ti x4])), (0, vi x0), (1, V.t (T.list (List.length x1) 2 (List.flatMap askedC x1))), (2, vi x2)], [(2008, oc 49 [ti 0, ti 0])]⟩) (by kernel_rfl) ⟨by decide, (F_spec_l7Answers_W x0 x1 x3 x4 r16 c0), h1, trivial, h2, trivial⟩ ?_
        exact ⟨(true), h, rfl⟩
      · -- no
        refine WP.path tab_ok mixed [(16, An.call (tb r16)), (18, An.b false), (21, An.b false), (26, An.call (tb (isQ x0 x2)))] [.keep [28, 9, 8, 7, 0, 1, 2], .keepO [2008], .names [(2008, 2008)]] (ps := [(2 ≤ 2), (C Try.prog 226 [ti x0, T.list (List.length x1) 2 (List.flatMap askedC x1), T.agg [ti x3, ti x4]] (tb r16)), ((!r16) = false), (True), ((((List.length x1 : Nat) : Int) == (12 : Int)) = false), (C Try.prog 176 [ti x0, ti x2] (tb (isQ x0 x2)))]) (e := .normal) (σ' := ⟨[2008], [(28, vb (!(isQ x0 x2))), (9, vb false), (8, V.ref 2008 0), (7, V.t (T.ptr [ti x3, ti x4])), (0, vi x0), (1, V.t (T.list (List.length x1) 2 (List.flatMap askedC x1))), (2, vi x2)], [(2008, oc 49 [ti 0, ti 0])]⟩) (by kernel_rfl) ⟨by decide, (F_spec_l7Answers_W x0 x1 x3 x4 r16 c0), h1, trivial, h2, (l2Asks_C x0 x2), trivial⟩ ?_
        exact ⟨(!(isQ x0 x2)), h, rfl⟩
  · -- from there
    intro v28 h0
    have h := (show J1 v28 = some (y0, y1, y2) from h0)
    rw [hJ1] at h
    rcases ite_some h with ⟨h3, h⟩ | ⟨h3, h⟩
    · -- yes
      refine WP.cond (b := v28) rfl (fun _ => ?_) (fun hh => by rw [h3] at hh; cases hh)
      simp only [Option.some.injEq, Prod.mk.injEq] at h
      obtain ⟨rfl, rfl, rfl⟩ := h
      exact WP.pathW tab_ok mixed [] _ (ps := [(True), ((0 + 2 ≤ 2 ∧ 2 = 2)), (0 + 2 ≤ 2)]) (r := T.tup [T.agg [ti 0, ti 0], tb false]) (by kernel_rfl) ⟨trivial, by decide, by first | decide | omega | (simp only [tlL]; omega) | (simp; omega) | (simp []; done) | (simp []; omega), trivial⟩ (WkT.eq (y := T.tup [T.agg [ti 0, ti 0], tb false]) (WkT.refl _) (by first | rfl | (simp only [tlS, tl, vl, vo, oc, ov, tbl, vbl, ty, vy]; done) | (simp only [tlS, tl, vl, vo, oc, ov, tbl, vbl, ty, vy]; rfl) | (simp; done) | (simp []; done) | (rw [List.take_of_length_le (by simp [])]; done) | (rw [List.take_of_length_le (by simp [])]; rfl) | (simp only [tlL]; omega) | (simp; omega))) (fun _ h => h)
    · -- no
      refine WP.cond (b := v28) rfl (fun hh => by rw [h3] at hh; cases hh) (fun _ => ?_)
      refine WP.path tab_ok mixed [] [.keep [9, 8, 7, 0, 1, 2], .keepO [2008]] (ps := []) (e := .normal) (σ' := ⟨[2008], [(9, vb false), (8, V.ref 2008 0), (7, V.t (T.ptr [ti x3, ti x4])), (0, vi x0), (1, V.t (T.list (List.length x1) 2 (List.flatMap askedC x1))), (2, vi x2)], [(2008, oc 49 [ti 0, ti 0])]⟩) (by kernel_rfl) trivial ?_
      refine WP.seq ?_
      obtain ⟨r34, r34b, c0, h⟩ := bnd2_some h
      refine WP.path tab_ok mixed [(34, An.callG [(9000, 10340)] [vi x0, V.t (T.list (List.length x1) 2 (List.flatMap askedC x1)), V.t (T.agg [ti x3, ti x4])] [] (V.tup [vo 9000 (List.length r34), vi r34b]) [(9000, oc 3 (List.map (T.int .i64) r34))])] [.keep [11, 10, 9, 8, 7, 2], .keepO [2008, 10340]] (ps := [(2 ≤ 2), (CG Try.prog 227 [vi x0, V.t (T.list (List.length x1) 2 (List.flatMap askedC x1)), V.t (T.agg [ti x3, ti x4])] [] (V.tup [vo 9000 (List.length r34), vi r34b]) [(9000, oc 3 (List.map (T.int .i64) r34))]), (WkT (ti x0) (ti x0)), (WkT (T.list (List.length x1) 2 (List.flatMap askedC x1)) (T.list (List.length x1) 2 (List.flatMap askedC x1))), (WkT (T.agg [ti x3, ti x4]) (T.agg [ti x3, ti x4]))]) (e := .normal) (σ' := ⟨[10340, 2008], [(11, vi r34b), (10, vo 10340 (List.length r34)), (9, vb false), (8, V.ref 2008 0), (7, V.t (T.ptr [ti x3, ti x4])), (2, vi x2)], [(2008, oc 49 [ti 0, ti 0]), (10340, oc 3 (List.map (T.int .i64) r34))]⟩) (by kernel_rfl) ⟨by decide, (F_spec_l7After_W x0 x1 x3 x4 r34 r34b c0), WkT.refl _, WkT.refl _, WkT.refl _, trivial⟩ ?_
      refine WP.seq ?_
      refine WP.seq ?_
      refine WP.path tab_ok mixed [] [.keep [38, 11, 10, 9, 8, 7, 2], .keepO [2008, 10340]] (ps := [(True)]) (e := .normal) (σ' := ⟨[10340, 2008], [(38, vb (r34b == (0 : Int))), (11, vi r34b), (10, vo 10340 (List.length r34)), (9, vb false), (8, V.ref 2008 0), (7, V.t (T.ptr [ti x3, ti x4])), (2, vi x2)], [(2008, oc 49 [ti 0, ti 0]), (10340, oc 3 (List.map (T.int .i64) r34))]⟩) (by kernel_rfl) ⟨trivial, trivial⟩ ?_
      rcases ite_some h with ⟨h4, h⟩ | ⟨h4, h⟩
      · -- yes
        refine WP.cond (b := r34b == (0 : Int)) rfl (fun _ => ?_) (fun hh => by rw [h4] at hh; cases hh)
        simp only [Option.some.injEq, Prod.mk.injEq] at h
        obtain ⟨rfl, rfl, rfl⟩ := h
        exact WP.pathW tab_ok mixed [] _ (ps := [(True), ((0 + 2 ≤ 2 ∧ 2 = 2)), (0 + 2 ≤ 2)]) (r := T.tup [T.agg [ti 0, ti 0], tb false]) (by kernel_rfl) ⟨trivial, by decide, by first | decide | omega | (simp only [tlL]; omega) | (simp; omega) | (simp []; done) | (simp []; omega), trivial⟩ (WkT.eq (y := T.tup [T.agg [ti 0, ti 0], tb false]) (WkT.refl _) (by first | rfl | (simp only [tlS, tl, vl, vo, oc, ov, tbl, vbl, ty, vy]; done) | (simp only [tlS, tl, vl, vo, oc, ov, tbl, vbl, ty, vy]; rfl) | (simp; done) | (simp []; done) | (rw [List.take_of_length_le (by simp [])]; done) | (rw [List.take_of_length_le (by simp [])]; rfl) | (simp only [tlL]; omega) | (simp; omega))) (fun _ h => h)
      · -- no
        refine WP.cond (b := r34b == (0 : Int)) rfl (fun hh => by rw [h4] at hh; cases hh) (fun _ => ?_)
        refine WP.path tab_ok mixed [] [.keep [11, 10, 9, 8, 7, 2], .keepO [2008, 10340]] (ps := []) (e := .normal) (σ' := ⟨[10340, 2008], [(11, vi r34b), (10, vo 10340 (List.length r34)), (9, vb false), (8, V.ref 2008 0), (7, V.t (T.ptr [ti x3, ti x4])), (2, vi x2)], [(2008, oc 49 [ti 0, ti 0]), (10340, oc 3 (List.map (T.int .i64) r34))]⟩) (by kernel_rfl) trivial ?_
        obtain ⟨r42, c1, h⟩ := bnd1_some h
        obtain ⟨c2, h⟩ := chk_some h
        obtain ⟨c3, h⟩ := chk_some h
        obtain ⟨c4, h⟩ := chk_some h
        obtain ⟨c5, h⟩ := chk_some h
        obtain ⟨c6, h⟩ := chk_some h
        obtain ⟨c7, h⟩ := chk_some h
        obtain ⟨c8, h⟩ := chk_some h
        obtain ⟨c9, h⟩ := chk_some h
        simp only [Option.some.injEq, Prod.mk.injEq] at h
        obtain ⟨rfl, rfl, rfl⟩ := h
        exact WP.pathW tab_ok mixed [(42, An.call (ti r42)), (48, An.v (T.int .i64 (x4 - x3))), (49, An.v (T.int .i64 (r42 * (x4 - x3)))), (52, An.v (T.int .i64 (r34b - r42))), (55, An.v (T.int .i64 ((r34b - r42) * x3))), (56, An.v (T.int .i64 ((r42 * (x4 - x3)) + ((r34b - r42) * x3)))), (60, An.v (T.int .i64 (r34b * x4))), (61, An.call (T.agg [ti (IntKind.wrap .i64 (Int.tdiv ((r42 * (x4 - x3)) + ((r34b - r42) * x3)) ((Int.gcd ((r42 * (x4 - x3)) + ((r34b - r42) * x3)) (r34b * x4) : Nat) : Int))), ti (IntKind.wrap .i64 (Int.tdiv (r34b * x4) ((Int.gcd ((r42 * (x4 - x3)) + ((r34b - r42) * x3)) (r34b * x4) : Nat) : Int)))]))] _ (ps := [(C Try.prog 229 [tl r34, ti x2] (ti r42)), (List.length (List.map (T.int .i64) r34) = (List.length r34) * 1), (True), (True), (True), (T.int .i64 (IntKind.wrap .i64 (x4 - x3)) = T.int .i64 (x4 - x3)), (True), (T.int .i64 (IntKind.wrap .i64 (r42 * (x4 - x3))) = T.int .i64 (r42 * (x4 - x3))), (True), (T.int .i64 (IntKind.wrap .i64 (r34b - r42)) = T.int .i64 (r34b - r42)), (True), (True), (T.int .i64 (IntKind.wrap .i64 ((r34b - r42) * x3)) = T.int .i64 ((r34b - r42) * x3)), (True), (T.int .i64 (IntKind.wrap .i64 ((r42 * (x4 - x3)) + ((r34b - r42) * x3))) = T.int .i64 ((r42 * (x4 - x3)) + ((r34b - r42) * x3))), (True), (True), (T.int .i64 (IntKind.wrap .i64 (r34b * x4)) = T.int .i64 (r34b * x4)), (C Try.prog 160 [ti ((r42 * (x4 - x3)) + ((r34b - r42) * x3)), ti (r34b * x4)] (T.agg [ti (IntKind.wrap .i64 (Int.tdiv ((r42 * (x4 - x3)) + ((r34b - r42) * x3)) ((Int.gcd ((r42 * (x4 - x3)) + ((r34b - r42) * x3)) (r34b * x4) : Nat) : Int))), ti (IntKind.wrap .i64 (Int.tdiv (r34b * x4) ((Int.gcd ((r42 * (x4 - x3)) + ((r34b - r42) * x3)) (r34b * x4) : Nat) : Int)))])), ((0 + 2 ≤ 2 ∧ 2 = 2)), (0 + 2 ≤ 2)]) (r := T.tup [T.agg [ti (IntKind.wrap .i64 (Int.tdiv ((r42 * (x4 - x3)) + ((r34b - r42) * x3)) ((Int.gcd ((r42 * (x4 - x3)) + ((r34b - r42) * x3)) (r34b * x4) : Nat) : Int))), ti (IntKind.wrap .i64 (Int.tdiv (r34b * x4) ((Int.gcd ((r42 * (x4 - x3)) + ((r34b - r42) * x3)) (r34b * x4) : Nat) : Int)))], tb true]) (by kernel_rfl) ⟨(F_spec_l7In_W r34 x2 r42 c1), by first | rfl | (simp; done) | omega | (simp only [tlL]; omega) | (simp; omega) | (simp []; done) | (simp []; omega), trivial, trivial, trivial, wrapI c2, trivial, wrapI c3, trivial, wrapI c4, trivial, trivial, wrapI c5, trivial, wrapI c6, trivial, trivial, wrapI c7, (l7Cut_C ((r42 * (x4 - x3)) + ((r34b - r42) * x3)) (r34b * x4) c8 c9), by decide, by first | decide | omega | (simp only [tlL]; omega) | (simp; omega) | (simp []; done) | (simp []; omega), trivial⟩ (WkT.eq (y := T.tup [T.agg [ti (IntKind.wrap .i64 (Int.tdiv ((r42 * (x4 - x3)) + ((r34b - r42) * x3)) ((Int.gcd ((r42 * (x4 - x3)) + ((r34b - r42) * x3)) (r34b * x4) : Nat) : Int))), ti (IntKind.wrap .i64 (Int.tdiv (r34b * x4) ((Int.gcd ((r42 * (x4 - x3)) + ((r34b - r42) * x3)) (r34b * x4) : Nat) : Int)))], tb true]) (WkT.refl _) rfl) (fun _ h => h)
theorem F_laws_vPairs_W (x0 : List (Int × Int)) (x1 : List (Int × Int)) (y0 : Bool) (h : F_laws_vPairs x0 x1 = some y0) : C Try.prog 119 [T.list (List.length x0) 2 (List.flatMap pairC x0), T.list (List.length x1) 2 (List.flatMap pairC x1)] (tb y0) := by
  unfold F_laws_vPairs at h
  refine C.intro (tab := tab) tab_ok (fn := Try.f119) Try.func119 (by kernel_rfl) rfl (Nat.le_of_ble_eq_true rfl) ?_
  refine WP.seq ?_
  refine WP.path tab_ok mixed [] [.keep [4, 0, 1], .keepO []] (ps := []) (e := .normal) (σ' := ⟨[], [(4, vb false), (0, V.t (T.list (List.length x0) 2 (List.flatMap pairC x0))), (1, V.t (T.list (List.length x1) 2 (List.flatMap pairC x1)))], []⟩) (by kernel_rfl) trivial ?_
  refine WP.seq ?_
  refine WP.seq ?_
  refine WP.path tab_ok mixed [] [.keep [10, 4, 0, 1], .keepO []] (ps := [(True)]) (e := .normal) (σ' := ⟨[], [(10, vb (((List.length x0 : Nat) : Int) != ((List.length x1 : Nat) : Int))), (4, vb false), (0, V.t (T.list (List.length x0) 2 (List.flatMap pairC x0))), (1, V.t (T.list (List.length x1) 2 (List.flatMap pairC x1)))], []⟩) (by kernel_rfl) ⟨trivial, trivial⟩ ?_
  rcases ite_some h with ⟨h1, h⟩ | ⟨h1, h⟩
  · -- yes
    refine WP.cond (b := ((List.length x0 : Nat) : Int) != ((List.length x1 : Nat) : Int)) rfl (fun _ => ?_) (fun hh => by rw [h1] at hh; cases hh)
    have h := Option.some.inj h
    subst h
    exact WP.pathW tab_ok mixed [] _ (ps := []) (r := tb false) (by kernel_rfl) trivial (WkT.eq (y := tb false) (WkT.refl _) rfl) (fun _ h => h)
  · -- no
    refine WP.cond (b := ((List.length x0 : Nat) : Int) != ((List.length x1 : Nat) : Int)) rfl (fun hh => by rw [h1] at hh; cases hh) (fun _ => ?_)
    refine WP.path tab_ok mixed [] [.keep [4, 0, 1], .keepO []] (ps := []) (e := .normal) (σ' := ⟨[], [(4, vb false), (0, V.t (T.list (List.length x0) 2 (List.flatMap pairC x0))), (1, V.t (T.list (List.length x1) 2 (List.flatMap pairC x1)))], []⟩) (by kernel_rfl) trivial ?_
    obtain ⟨J1, hJ1, h⟩ := jn_some h
    refine WP.joinA (fun (zz : Unit) => ⟨[], [(4, vb false)], []⟩) (fun zz => J1 () = some y0) ?_ ?_
    · -- to where they meet
      refine WP.seq ?_
      refine WP.path tab_ok mixed [] [.keep [5, 4, 0, 1], .keepO []] (ps := []) (e := .normal) (σ' := ⟨[], [(5, vi 0), (4, vb false), (0, V.t (T.list (List.length x0) 2 (List.flatMap pairC x0))), (1, V.t (T.list (List.length x1) 2 (List.flatMap pairC x1)))], []⟩) (by kernel_rfl) trivial ?_
      refine WP.block ?_
      refine WP.wk [.keep [5, 4, 0, 1], .keepO [], .names []] (σ' := ⟨[], [(5, vi 0), (4, vb false), (0, V.t (T.list (List.length x0) 2 (List.flatMap pairC x0))), (1, V.t (T.list (List.length x1) 2 (List.flatMap pairC x1)))], []⟩) (ps := []) (by kernel_rfl) trivial ?_
      refine WP.st (σ' := ⟨[], [(5, vi (0 : Int)), (4, vb false), (0, V.t (T.list (List.length x0) 2 (List.flatMap pairC x0))), (1, V.t (T.list (List.length x1) 2 (List.flatMap pairC x1)))], []⟩) (by first | rfl | (simp only [tlS, tl, vl, vo, oc, ov, tbl, vbl, ty, vy]; done) | (simp only [tlS, tl, vl, vo, oc, ov, tbl, vbl, ty, vy]; rfl) | (simp; done) | (simp []; done) | (rw [List.take_of_length_le (by simp [])]; done) | (rw [List.take_of_length_le (by simp [])]; rfl) | (simp only [tlL]; omega) | (simp; omega)) ?_
      refine WP.loop (α := Nat × Int) (fun zz => ⟨[], [(5, vi zz.2), (4, vb false), (0, V.t (T.list (List.length x0) 2 (List.flatMap pairC x0))), (1, V.t (T.list (List.length x1) 2 (List.flatMap pairC x1)))], []⟩) (fun zz => F_laws_vPairs_L1 x0 x1 J1 zz.1 zz.2 = some y0) (fun zz => zz.1) (fuel, (0 : Int)) h ?_
      rintro ⟨n, v5⟩ h0
      have h := (show F_laws_vPairs_L1 x0 x1 J1 n v5 = some y0 from h0)
      rcases n with _ | n
      · rw [F_laws_vPairs_L1] at h; cases h
      · rw [F_laws_vPairs_L1] at h
        refine WP.seq ?_
        refine WP.seq ?_
        refine WP.path tab_ok mixed [] [.keep [14, 5, 4, 0, 1], .keepO []] (ps := [(True)]) (e := .normal) (σ' := ⟨[], [(14, vb (decide (v5 < ((List.length x0 : Nat) : Int)))), (5, vi v5), (4, vb false), (0, V.t (T.list (List.length x0) 2 (List.flatMap pairC x0))), (1, V.t (T.list (List.length x1) 2 (List.flatMap pairC x1)))], []⟩) (by kernel_rfl) ⟨trivial, trivial⟩ ?_
        rcases ite_some h with ⟨h2, h⟩ | ⟨h2, h⟩
        · -- yes
          refine WP.cond (b := decide (v5 < ((List.length x0 : Nat) : Int))) rfl (fun _ => ?_) (fun hh => by rw [h2] at hh; cases hh)
          refine WP.path tab_ok mixed [] [.keep [5, 4, 0, 1], .keepO []] (ps := []) (e := .normal) (σ' := ⟨[], [(5, vi v5), (4, vb false), (0, V.t (T.list (List.length x0) 2 (List.flatMap pairC x0))), (1, V.t (T.list (List.length x1) 2 (List.flatMap pairC x1)))], []⟩) (by kernel_rfl) trivial ?_
          refine WP.seq ?_
          refine WP.block ?_
          refine WP.seq ?_
          obtain ⟨c0, h⟩ := chk_some h
          obtain ⟨c1, h⟩ := chk_some h
          obtain ⟨n25, c2, h⟩ := nam_some h
          refine WP.path tab_ok mixed [(20, An.v (T.agg [ti ((List.getD x0 (Int.toNat v5) (0, 0)).1), ti ((List.getD x0 (Int.toNat v5) (0, 0)).2)])), (24, An.v (T.agg [ti ((List.getD x1 (Int.toNat v5) (0, 0)).1), ti ((List.getD x1 (Int.toNat v5) (0, 0)).2)])), (25, An.v (tb n25))] [.keep [25, 5, 4, 0, 1], .keepO []] (ps := [((0 ≤ v5 ∧ v5 < ((List.length x0 : Nat) : Int))), (2 ≤ List.length (List.drop ((Int.toNat v5) * 2) (List.flatMap pairC x0))), (T.agg (List.take 2 (List.drop ((Int.toNat v5) * 2) (List.flatMap pairC x0))) = T.agg [ti ((List.getD x0 (Int.toNat v5) (0, 0)).1), ti ((List.getD x0 (Int.toNat v5) (0, 0)).2)]), ((0 ≤ v5 ∧ v5 < ((List.length x1 : Nat) : Int))), (2 ≤ List.length (List.drop ((Int.toNat v5) * 2) (List.flatMap pairC x1))), (T.agg (List.take 2 (List.drop ((Int.toNat v5) * 2) (List.flatMap pairC x1))) = T.agg [ti ((List.getD x1 (Int.toNat v5) (0, 0)).1), ti ((List.getD x1 (Int.toNat v5) (0, 0)).2)]), (chkEq Try.prog 49 [ti ((List.getD x0 (Int.toNat v5) (0, 0)).1), ti ((List.getD x0 (Int.toNat v5) (0, 0)).2)] = true), (tb (!((((List.getD x0 (Int.toNat v5) (0, 0)).1) == ((List.getD x1 (Int.toNat v5) (0, 0)).1)) && ((((List.getD x0 (Int.toNat v5) (0, 0)).2) == ((List.getD x1 (Int.toNat v5) (0, 0)).2)) && (true)))) = tb n25)]) (e := .normal) (σ' := ⟨[], [(25, vb n25), (5, vi v5), (4, vb false), (0, V.t (T.list (List.length x0) 2 (List.flatMap pairC x0))), (1, V.t (T.list (List.length x1) 2 (List.flatMap pairC x1)))], []⟩) (by kernel_rfl) ⟨c0, fit_pair (i := Int.toNat v5) (by simp) (by omega), at_pair (by simp) (by omega), c1, fit_pair (i := Int.toNat v5) (by simp) (by omega), at_pair (by simp) (by omega), by kernel_rfl, congrArg (tb) c2, trivial⟩ ?_
          rcases ite_some h with ⟨h3, h⟩ | ⟨h3, h⟩
          · -- yes
            refine WP.cond (b := n25) rfl (fun _ => ?_) (fun hh => by rw [h3] at hh; cases hh)
            have h := Option.some.inj h
            subst h
            exact WP.pathW tab_ok mixed [] _ (ps := []) (r := tb false) (by kernel_rfl) trivial (WkT.eq (y := tb false) (WkT.refl _) rfl) (fun _ h => h)
          · -- no
            refine WP.cond (b := n25) rfl (fun hh => by rw [h3] at hh; cases hh) (fun _ => ?_)
            refine WP.path tab_ok mixed [] [.keep [5, 4, 0, 1], .keepO []] (ps := []) (e := .normal) (σ' := ⟨[], [(5, vi v5), (4, vb false), (0, V.t (T.list (List.length x0) 2 (List.flatMap pairC x0))), (1, V.t (T.list (List.length x1) 2 (List.flatMap pairC x1)))], []⟩) (by kernel_rfl) trivial ?_
            obtain ⟨c3, h⟩ := chk_some h
            refine WP.path tab_ok mixed [(16, An.v (T.int .i64 (v5 + (1 : Int))))] [.keep [5, 4, 0, 1], .keepO [], .names []] (ps := [(True), (T.int .i64 (IntKind.wrap .i64 (v5 + (1 : Int))) = T.int .i64 (v5 + (1 : Int)))]) (e := .normal) (σ' := ⟨[], [(5, vi (v5 + (1 : Int))), (4, vb false), (0, V.t (T.list (List.length x0) 2 (List.flatMap pairC x0))), (1, V.t (T.list (List.length x1) 2 (List.flatMap pairC x1)))], []⟩) (by kernel_rfl) ⟨trivial, wrapI c3, trivial⟩ ?_
            exact ⟨(n, (v5 + (1 : Int))), h, Nat.lt_succ_self _, rfl⟩
        · -- no
          refine WP.cond (b := decide (v5 < ((List.length x0 : Nat) : Int))) rfl (fun hh => by rw [h2] at hh; cases hh) (fun _ => ?_)
          refine WP.path tab_ok mixed [] [.keep [4], .keepO [], .names []] (ps := []) (e := (.exit 0)) (σ' := ⟨[], [(4, vb false)], []⟩) (by kernel_rfl) trivial ?_
          exact ⟨(), h, rfl⟩
    · -- from there
      intro _ h0
      have h := (show J1 () = some y0 from h0)
      rw [hJ1] at h
      have h := Option.some.inj h
      subst h
      exact WP.pathW tab_ok mixed [] _ (ps := []) (r := tb true) (by kernel_rfl) trivial (WkT.eq (y := tb true) (WkT.refl _) rfl) (fun _ h => h)
theorem F_laws_vPlus_W (x0 : Int) (x1 : Int) (x2 : Int) (x3 : Int) (y0 : Int) (y1 : Int) (h : F_laws_vPlus x0 x1 x2 x3 = some (y0, y1)) : C Try.prog 120 [T.agg [ti x0, ti x1], T.agg [ti x2, ti x3]] (T.agg [ti y0, ti y1]) := by
  unfold F_laws_vPlus at h
  refine C.intro (tab := tab) tab_ok (fn := Try.f120) Try.func120 (by kernel_rfl) rfl (Nat.le_of_ble_eq_true rfl) ?_
  refine WP.seq ?_
  refine WP.path tab_ok mixed [(2, An.fz), (3, An.fz), (4, An.id 2004)] [.keep [4, 3, 2], .keepO [2004]] (ps := []) (e := .normal) (σ' := ⟨[2004], [(4, V.ref 2004 0), (3, V.t (T.ptr [ti x2, ti x3])), (2, V.t (T.ptr [ti x0, ti x1]))], [(2004, oc 49 [ti 0, ti 0])]⟩) (by kernel_rfl) trivial ?_
  refine WP.seq ?_
  refine WP.path tab_ok mixed [] [.keep [6, 5, 4, 3, 2], .keepO [2004]] (ps := [((0 ≤ (1 : Int) ∧ (1 : Int) < (2 : Int))), (True), ((0 ≤ (1 : Int) ∧ (1 : Int) < (2 : Int))), (True)]) (e := .normal) (σ' := ⟨[2004], [(6, vi x3), (5, vi x1), (4, V.ref 2004 0), (3, V.t (T.ptr [ti x2, ti x3])), (2, V.t (T.ptr [ti x0, ti x1]))], [(2004, oc 49 [ti 0, ti 0])]⟩) (by kernel_rfl) ⟨by decide, trivial, by decide, trivial, trivial⟩ ?_
  obtain ⟨J1, hJ1, h⟩ := jn_some h
  refine WP.joinA (fun (zz : Int) => ⟨[2004], [(5, vi zz), (4, V.ref 2004 0), (3, V.t (T.ptr [ti x2, ti x3])), (2, V.t (T.ptr [ti x0, ti x1]))], [(2004, oc 49 [ti 0, ti 0])]⟩) (fun zz => J1 zz = some (y0, y1)) ?_ ?_
  · -- to where they meet
    refine WP.block ?_
    refine WP.wk [.keep [6, 5, 4, 3, 2], .keepO [2004], .names [(2004, 2004)]] (σ' := ⟨[2004], [(6, vi x3), (5, vi x1), (4, V.ref 2004 0), (3, V.t (T.ptr [ti x2, ti x3])), (2, V.t (T.ptr [ti x0, ti x1]))], [(2004, oc 49 [ti 0, ti 0])]⟩) (ps := []) (by kernel_rfl) trivial ?_
    refine WP.loop (α := Nat × Int × Int) (fun zz => ⟨[2004], [(6, vi zz.2.1), (5, vi zz.2.2), (4, V.ref 2004 0), (3, V.t (T.ptr [ti x2, ti x3])), (2, V.t (T.ptr [ti x0, ti x1]))], [(2004, oc 49 [ti 0, ti 0])]⟩) (fun zz => F_laws_vPlus_L1 J1 zz.1 zz.2.1 zz.2.2 = some (y0, y1)) (fun zz => zz.1) (fuel, x3, x1) h ?_
    rintro ⟨n, v6, v5⟩ h0
    have h := (show F_laws_vPlus_L1 J1 n v6 v5 = some (y0, y1) from h0)
    rcases n with _ | n
    · rw [F_laws_vPlus_L1] at h; cases h
    · rw [F_laws_vPlus_L1] at h
      refine WP.seq ?_
      refine WP.seq ?_
      refine WP.path tab_ok mixed [] [.keep [14, 6, 5, 4, 3, 2], .keepO [2004]] (ps := [(True)]) (e := .normal) (σ' := ⟨[2004], [(14, vb (decide (v6 > (0 : Int)))), (6, vi v6), (5, vi v5), (4, V.ref 2004 0), (3, V.t (T.ptr [ti x2, ti x3])), (2, V.t (T.ptr [ti x0, ti x1]))], [(2004, oc 49 [ti 0, ti 0])]⟩) (by kernel_rfl) ⟨trivial, trivial⟩ ?_
      rcases ite_some h with ⟨h1, h⟩ | ⟨h1, h⟩
      · -- yes
        refine WP.cond (b := decide (v6 > (0 : Int))) rfl (fun _ => ?_) (fun hh => by rw [h1] at hh; cases hh)
        refine WP.path tab_ok mixed [] [.keep [6, 5, 4, 3, 2], .keepO [2004]] (ps := []) (e := .normal) (σ' := ⟨[2004], [(6, vi v6), (5, vi v5), (4, V.ref 2004 0), (3, V.t (T.ptr [ti x2, ti x3])), (2, V.t (T.ptr [ti x0, ti x1]))], [(2004, oc 49 [ti 0, ti 0])]⟩) (by kernel_rfl) trivial ?_
        refine WP.block ?_
        obtain ⟨c0, h⟩ := chk_some h
        refine WP.path tab_ok mixed [] [.keep [6, 5, 4, 3, 2], .keepO [2004], .names [(2004, 2004)]] (ps := [(v6 ≠ 0)]) (e := .normal) (σ' := ⟨[2004], [(6, vi (Int.tmod v5 v6)), (5, vi v6), (4, V.ref 2004 0), (3, V.t (T.ptr [ti x2, ti x3])), (2, V.t (T.ptr [ti x0, ti x1]))], [(2004, oc 49 [ti 0, ti 0])]⟩) (by kernel_rfl) ⟨c0, trivial⟩ ?_
        exact ⟨(n, (Int.tmod v5 v6), v6), h, Nat.lt_succ_self _, rfl⟩
      · -- no
        refine WP.cond (b := decide (v6 > (0 : Int))) rfl (fun hh => by rw [h1] at hh; cases hh) (fun _ => ?_)
        refine WP.path tab_ok mixed [] [.keep [5, 4, 3, 2], .keepO [2004], .names [(2004, 2004)]] (ps := []) (e := (.exit 0)) (σ' := ⟨[2004], [(5, vi v5), (4, V.ref 2004 0), (3, V.t (T.ptr [ti x2, ti x3])), (2, V.t (T.ptr [ti x0, ti x1]))], [(2004, oc 49 [ti 0, ti 0])]⟩) (by kernel_rfl) trivial ?_
        exact ⟨(v5), h, rfl⟩
  · -- from there
    intro v5 h0
    have h := (show J1 v5 = some (y0, y1) from h0)
    rw [hJ1] at h
    refine WP.seq ?_
    obtain ⟨c0, h⟩ := chk_some h
    obtain ⟨c1, h⟩ := chk_some h
    obtain ⟨c2, h⟩ := chk_some h
    obtain ⟨c3, h⟩ := chk_some h
    obtain ⟨c4, h⟩ := chk_some h
    obtain ⟨c5, h⟩ := chk_some h
    obtain ⟨n33, c6, h⟩ := nam_some h
    obtain ⟨c7, h⟩ := chk_some h
    refine WP.path tab_ok mixed [(24, An.v (T.int .i64 (Int.tdiv x3 v5))), (25, An.v (T.int .i64 (x0 * (Int.tdiv x3 v5)))), (31, An.v (T.int .i64 (Int.tdiv x1 v5))), (32, An.v (T.int .i64 (x2 * (Int.tdiv x1 v5)))), (33, An.v (ti n33)), (37, An.v (T.int .i64 (Int.tdiv x1 v5))), (40, An.v (T.int .i64 ((Int.tdiv x1 v5) * x3)))] [.keep [8, 7, 4], .keepO [2004]] (ps := [((0 ≤ (0 : Int) ∧ (0 : Int) < (2 : Int))), (True), ((0 ≤ (1 : Int) ∧ (1 : Int) < (2 : Int))), (True), (v5 ≠ 0), (T.int .i64 (IntKind.wrap .i64 (Int.tdiv x3 v5)) = T.int .i64 (Int.tdiv x3 v5)), (True), (T.int .i64 (IntKind.wrap .i64 (x0 * (Int.tdiv x3 v5))) = T.int .i64 (x0 * (Int.tdiv x3 v5))), ((0 ≤ (0 : Int) ∧ (0 : Int) < (2 : Int))), (True), ((0 ≤ (1 : Int) ∧ (1 : Int) < (2 : Int))), (True), (v5 ≠ 0), (T.int .i64 (IntKind.wrap .i64 (Int.tdiv x1 v5)) = T.int .i64 (Int.tdiv x1 v5)), (True), (T.int .i64 (IntKind.wrap .i64 (x2 * (Int.tdiv x1 v5))) = T.int .i64 (x2 * (Int.tdiv x1 v5))), (True), (T.int .i64 (IntKind.wrap .i64 ((x0 * (Int.tdiv x3 v5)) + (x2 * (Int.tdiv x1 v5)))) = ti n33), ((0 ≤ (1 : Int) ∧ (1 : Int) < (2 : Int))), (True), (v5 ≠ 0), (T.int .i64 (IntKind.wrap .i64 (Int.tdiv x1 v5)) = T.int .i64 (Int.tdiv x1 v5)), ((0 ≤ (1 : Int) ∧ (1 : Int) < (2 : Int))), (True), (True), (T.int .i64 (IntKind.wrap .i64 ((Int.tdiv x1 v5) * x3)) = T.int .i64 ((Int.tdiv x1 v5) * x3))]) (e := .normal) (σ' := ⟨[2004], [(8, vi ((Int.tdiv x1 v5) * x3)), (7, vi n33), (4, V.ref 2004 0)], [(2004, oc 49 [ti 0, ti 0])]⟩) (by kernel_rfl) ⟨by decide, trivial, by decide, trivial, c1, quo_told c0, trivial, wrapI c2, by decide, trivial, by decide, trivial, c1, quo_told c3, trivial, wrapI c4, trivial, Eq.trans (wrapI c5) (congrArg (ti) c6), by decide, trivial, c1, quo_told c3, by decide, trivial, trivial, wrapI c7, trivial⟩ ?_
    refine WP.seq ?_
    refine WP.path tab_ok mixed [] [.keep [6, 5, 8, 7, 4], .keepO [2004]] (ps := []) (e := .normal) (σ' := ⟨[2004], [(6, vi ((Int.tdiv x1 v5) * x3)), (5, vi n33), (8, vi ((Int.tdiv x1 v5) * x3)), (7, vi n33), (4, V.ref 2004 0)], [(2004, oc 49 [ti 0, ti 0])]⟩) (by kernel_rfl) trivial ?_
    obtain ⟨J1, hJ1, h⟩ := jn_some h
    refine WP.joinA (fun (zz : Int) => ⟨[2004], [(5, vi zz), (8, vi ((Int.tdiv x1 v5) * x3)), (7, vi n33), (4, V.ref 2004 0)], [(2004, oc 49 [ti 0, ti 0])]⟩) (fun zz => J1 zz = some (y0, y1)) ?_ ?_
    · -- to where they meet
      refine WP.block ?_
      refine WP.wk [.keep [6, 5, 8, 7, 4], .keepO [2004], .names [(2004, 2004)]] (σ' := ⟨[2004], [(6, vi ((Int.tdiv x1 v5) * x3)), (5, vi n33), (8, vi ((Int.tdiv x1 v5) * x3)), (7, vi n33), (4, V.ref 2004 0)], [(2004, oc 49 [ti 0, ti 0])]⟩) (ps := []) (by kernel_rfl) trivial ?_
      refine WP.loop (α := Nat × Int × Int) (fun zz => ⟨[2004], [(6, vi zz.2.1), (5, vi zz.2.2), (8, vi ((Int.tdiv x1 v5) * x3)), (7, vi n33), (4, V.ref 2004 0)], [(2004, oc 49 [ti 0, ti 0])]⟩) (fun zz => F_laws_vPlus_L2 J1 zz.1 zz.2.1 zz.2.2 = some (y0, y1)) (fun zz => zz.1) (fuel, ((Int.tdiv x1 v5) * x3), n33) h ?_
      rintro ⟨n, v6, v5b⟩ h0
      have h := (show F_laws_vPlus_L2 J1 n v6 v5b = some (y0, y1) from h0)
      rcases n with _ | n
      · rw [F_laws_vPlus_L2] at h; cases h
      · rw [F_laws_vPlus_L2] at h
        refine WP.seq ?_
        refine WP.seq ?_
        refine WP.path tab_ok mixed [] [.keep [44, 6, 5, 8, 7, 4], .keepO [2004]] (ps := [(True)]) (e := .normal) (σ' := ⟨[2004], [(44, vb (decide (v6 > (0 : Int)))), (6, vi v6), (5, vi v5b), (8, vi ((Int.tdiv x1 v5) * x3)), (7, vi n33), (4, V.ref 2004 0)], [(2004, oc 49 [ti 0, ti 0])]⟩) (by kernel_rfl) ⟨trivial, trivial⟩ ?_
        rcases ite_some h with ⟨h2, h⟩ | ⟨h2, h⟩
        · -- yes
          refine WP.cond (b := decide (v6 > (0 : Int))) rfl (fun _ => ?_) (fun hh => by rw [h2] at hh; cases hh)
          refine WP.path tab_ok mixed [] [.keep [6, 5, 8, 7, 4], .keepO [2004]] (ps := []) (e := .normal) (σ' := ⟨[2004], [(6, vi v6), (5, vi v5b), (8, vi ((Int.tdiv x1 v5) * x3)), (7, vi n33), (4, V.ref 2004 0)], [(2004, oc 49 [ti 0, ti 0])]⟩) (by kernel_rfl) trivial ?_
          refine WP.block ?_
          obtain ⟨c8, h⟩ := chk_some h
          refine WP.path tab_ok mixed [] [.keep [6, 5, 8, 7, 4], .keepO [2004], .names [(2004, 2004)]] (ps := [(v6 ≠ 0)]) (e := .normal) (σ' := ⟨[2004], [(6, vi (Int.tmod v5b v6)), (5, vi v6), (8, vi ((Int.tdiv x1 v5) * x3)), (7, vi n33), (4, V.ref 2004 0)], [(2004, oc 49 [ti 0, ti 0])]⟩) (by kernel_rfl) ⟨c8, trivial⟩ ?_
          exact ⟨(n, (Int.tmod v5b v6), v6), h, Nat.lt_succ_self _, rfl⟩
        · -- no
          refine WP.cond (b := decide (v6 > (0 : Int))) rfl (fun hh => by rw [h2] at hh; cases hh) (fun _ => ?_)
          refine WP.path tab_ok mixed [] [.keep [5, 8, 7, 4], .keepO [2004], .names [(2004, 2004)]] (ps := []) (e := (.exit 2)) (σ' := ⟨[2004], [(5, vi v5b), (8, vi ((Int.tdiv x1 v5) * x3)), (7, vi n33), (4, V.ref 2004 0)], [(2004, oc 49 [ti 0, ti 0])]⟩) (by kernel_rfl) trivial ?_
          exact ⟨(v5b), h, rfl⟩
    · -- from there
      intro v5b h0
      have h := (show J1 v5b = some (y0, y1) from h0)
      rw [hJ1] at h
      obtain ⟨c8, h⟩ := chk_some h
      obtain ⟨c9, h⟩ := chk_some h
      obtain ⟨c10, h⟩ := chk_some h
      simp only [Option.some.injEq, Prod.mk.injEq] at h
      obtain ⟨rfl, rfl⟩ := h
      exact WP.pathW tab_ok mixed [(51, An.v (T.int .i64 (Int.tdiv n33 v5b))), (54, An.v (T.int .i64 (Int.tdiv ((Int.tdiv x1 v5) * x3) v5b)))] _ (ps := [(v5b ≠ 0), (T.int .i64 (IntKind.wrap .i64 (Int.tdiv n33 v5b)) = T.int .i64 (Int.tdiv n33 v5b)), (v5b ≠ 0), (T.int .i64 (IntKind.wrap .i64 (Int.tdiv ((Int.tdiv x1 v5) * x3) v5b)) = T.int .i64 (Int.tdiv ((Int.tdiv x1 v5) * x3) v5b)), ((1 = 1 ∧ 0 + 1 ≤ 2) ∧ (1 = 1 ∧ 1 + 1 ≤ 2) ∧ True), ((0 + 2 ≤ 2 ∧ 2 = 2)), (0 + 2 ≤ 2)]) (r := T.agg [ti (Int.tdiv n33 v5b), ti (Int.tdiv ((Int.tdiv x1 v5) * x3) v5b)]) (by kernel_rfl) ⟨c9, quo_told c8, c9, quo_told c10, ⟨⟨by first | rfl | (simp; done) | (simp []; done) | omega, by first | decide | (simp; done) | (simp []; done) | omega | (simp only [tlL]; omega) | (simp; omega)⟩, ⟨by first | rfl | (simp; done) | (simp []; done) | omega, by first | decide | (simp; done) | (simp []; done) | omega | (simp only [tlL]; omega) | (simp; omega)⟩, trivial⟩, by decide, by first | decide | omega | (simp only [tlL]; omega) | (simp; omega) | (simp []; done) | (simp []; omega), trivial⟩ (WkT.eq (y := T.agg [ti (Int.tdiv n33 v5b), ti (Int.tdiv ((Int.tdiv x1 v5) * x3) v5b)]) (WkT.refl _) rfl) (fun _ h => h)
theorem F_laws_vLess_W (x0 : Int) (x1 : Int) (x2 : Int) (x3 : Int) (y0 : Bool) (h : F_laws_vLess x0 x1 x2 x3 = some y0) : C Try.prog 121 [T.agg [ti x0, ti x1], T.agg [ti x2, ti x3]] (tb y0) := by
  unfold F_laws_vLess at h
  refine C.intro (tab := tab) tab_ok (fn := Try.f121) Try.func121 (by kernel_rfl) rfl (Nat.le_of_ble_eq_true rfl) ?_
  refine WP.seq ?_
  refine WP.path tab_ok mixed [(2, An.fz), (3, An.fz)] [.keep [4, 3, 2], .keepO []] (ps := []) (e := .normal) (σ' := ⟨[], [(4, vb false), (3, V.t (T.ptr [ti x2, ti x3])), (2, V.t (T.ptr [ti x0, ti x1]))], []⟩) (by kernel_rfl) trivial ?_
  refine WP.seq ?_
  refine WP.path tab_ok mixed [] [.keep [6, 5, 4, 3, 2], .keepO []] (ps := [((0 ≤ (1 : Int) ∧ (1 : Int) < (2 : Int))), (True), ((0 ≤ (1 : Int) ∧ (1 : Int) < (2 : Int))), (True)]) (e := .normal) (σ' := ⟨[], [(6, vi x3), (5, vi x1), (4, vb false), (3, V.t (T.ptr [ti x2, ti x3])), (2, V.t (T.ptr [ti x0, ti x1]))], []⟩) (by kernel_rfl) ⟨by decide, trivial, by decide, trivial, trivial⟩ ?_
  obtain ⟨J1, hJ1, h⟩ := jn_some h
  refine WP.joinA (fun (zz : Int) => ⟨[], [(5, vi zz), (4, vb false), (3, V.t (T.ptr [ti x2, ti x3])), (2, V.t (T.ptr [ti x0, ti x1]))], []⟩) (fun zz => J1 zz = some y0) ?_ ?_
  · -- to where they meet
    refine WP.block ?_
    refine WP.wk [.keep [6, 5, 4, 3, 2], .keepO [], .names []] (σ' := ⟨[], [(6, vi x3), (5, vi x1), (4, vb false), (3, V.t (T.ptr [ti x2, ti x3])), (2, V.t (T.ptr [ti x0, ti x1]))], []⟩) (ps := []) (by kernel_rfl) trivial ?_
    refine WP.loop (α := Nat × Int × Int) (fun zz => ⟨[], [(6, vi zz.2.1), (5, vi zz.2.2), (4, vb false), (3, V.t (T.ptr [ti x2, ti x3])), (2, V.t (T.ptr [ti x0, ti x1]))], []⟩) (fun zz => F_laws_vLess_L1 J1 zz.1 zz.2.1 zz.2.2 = some y0) (fun zz => zz.1) (fuel, x3, x1) h ?_
    rintro ⟨n, v6, v5⟩ h0
    have h := (show F_laws_vLess_L1 J1 n v6 v5 = some y0 from h0)
    rcases n with _ | n
    · rw [F_laws_vLess_L1] at h; cases h
    · rw [F_laws_vLess_L1] at h
      refine WP.seq ?_
      refine WP.seq ?_
      refine WP.path tab_ok mixed [] [.keep [12, 6, 5, 4, 3, 2], .keepO []] (ps := [(True)]) (e := .normal) (σ' := ⟨[], [(12, vb (decide (v6 > (0 : Int)))), (6, vi v6), (5, vi v5), (4, vb false), (3, V.t (T.ptr [ti x2, ti x3])), (2, V.t (T.ptr [ti x0, ti x1]))], []⟩) (by kernel_rfl) ⟨trivial, trivial⟩ ?_
      rcases ite_some h with ⟨h1, h⟩ | ⟨h1, h⟩
      · -- yes
        refine WP.cond (b := decide (v6 > (0 : Int))) rfl (fun _ => ?_) (fun hh => by rw [h1] at hh; cases hh)
        refine WP.path tab_ok mixed [] [.keep [6, 5, 4, 3, 2], .keepO []] (ps := []) (e := .normal) (σ' := ⟨[], [(6, vi v6), (5, vi v5), (4, vb false), (3, V.t (T.ptr [ti x2, ti x3])), (2, V.t (T.ptr [ti x0, ti x1]))], []⟩) (by kernel_rfl) trivial ?_
        refine WP.block ?_
        obtain ⟨c0, h⟩ := chk_some h
        refine WP.path tab_ok mixed [] [.keep [6, 5, 4, 3, 2], .keepO [], .names []] (ps := [(v6 ≠ 0)]) (e := .normal) (σ' := ⟨[], [(6, vi (Int.tmod v5 v6)), (5, vi v6), (4, vb false), (3, V.t (T.ptr [ti x2, ti x3])), (2, V.t (T.ptr [ti x0, ti x1]))], []⟩) (by kernel_rfl) ⟨c0, trivial⟩ ?_
        exact ⟨(n, (Int.tmod v5 v6), v6), h, Nat.lt_succ_self _, rfl⟩
      · -- no
        refine WP.cond (b := decide (v6 > (0 : Int))) rfl (fun hh => by rw [h1] at hh; cases hh) (fun _ => ?_)
        refine WP.path tab_ok mixed [] [.keep [5, 4, 3, 2], .keepO [], .names []] (ps := []) (e := (.exit 0)) (σ' := ⟨[], [(5, vi v5), (4, vb false), (3, V.t (T.ptr [ti x2, ti x3])), (2, V.t (T.ptr [ti x0, ti x1]))], []⟩) (by kernel_rfl) trivial ?_
        exact ⟨(v5), h, rfl⟩
  · -- from there
    intro v5 h0
    have h := (show J1 v5 = some y0 from h0)
    rw [hJ1] at h
    obtain ⟨c0, h⟩ := chk_some h
    obtain ⟨c1, h⟩ := chk_some h
    obtain ⟨c2, h⟩ := chk_some h
    obtain ⟨c3, h⟩ := chk_some h
    obtain ⟨c4, h⟩ := chk_some h
    have h := Option.some.inj h
    subst h
    exact WP.pathW tab_ok mixed [(22, An.v (T.int .i64 (Int.tdiv x3 v5))), (23, An.v (T.int .i64 (x0 * (Int.tdiv x3 v5)))), (29, An.v (T.int .i64 (Int.tdiv x1 v5))), (30, An.v (T.int .i64 (x2 * (Int.tdiv x1 v5))))] _ (ps := [((0 ≤ (0 : Int) ∧ (0 : Int) < (2 : Int))), (True), ((0 ≤ (1 : Int) ∧ (1 : Int) < (2 : Int))), (True), (v5 ≠ 0), (T.int .i64 (IntKind.wrap .i64 (Int.tdiv x3 v5)) = T.int .i64 (Int.tdiv x3 v5)), (True), (T.int .i64 (IntKind.wrap .i64 (x0 * (Int.tdiv x3 v5))) = T.int .i64 (x0 * (Int.tdiv x3 v5))), ((0 ≤ (0 : Int) ∧ (0 : Int) < (2 : Int))), (True), ((0 ≤ (1 : Int) ∧ (1 : Int) < (2 : Int))), (True), (v5 ≠ 0), (T.int .i64 (IntKind.wrap .i64 (Int.tdiv x1 v5)) = T.int .i64 (Int.tdiv x1 v5)), (True), (T.int .i64 (IntKind.wrap .i64 (x2 * (Int.tdiv x1 v5))) = T.int .i64 (x2 * (Int.tdiv x1 v5))), (True)]) (r := tb (decide ((x0 * (Int.tdiv x3 v5)) < (x2 * (Int.tdiv x1 v5))))) (by kernel_rfl) ⟨by decide, trivial, by decide, trivial, c1, quo_told c0, trivial, wrapI c2, by decide, trivial, by decide, trivial, c1, quo_told c3, trivial, wrapI c4, trivial, trivial⟩ (WkT.eq (y := tb (decide ((x0 * (Int.tdiv x3 v5)) < (x2 * (Int.tdiv x1 v5))))) (WkT.refl _) rfl) (fun _ h => h)
theorem F_laws_FnAfter_W (x0 : List Int) (y0 : Bool) (h : F_laws_FnAfter x0 = some y0) : C Try.prog 9 [ty x0] (tb y0) := by
  unfold F_laws_FnAfter at h
  refine C.intro (tab := tab) tab_ok (fn := Try.f9) Try.func9 (by kernel_rfl) rfl (Nat.le_of_ble_eq_true rfl) ?_
  refine WP.seq ?_
  refine WP.path tab_ok mixed [] [.keep [2, 0], .keepO []] (ps := []) (e := .normal) (σ' := ⟨[], [(2, vb false), (0, vy x0)], []⟩) (by kernel_rfl) trivial ?_
  refine WP.seq ?_
  refine WP.seq ?_
  obtain ⟨c0, h⟩ := chk_some h
  refine WP.path tab_ok mixed [(34, An.call (tb (decide (((List.length x0 : Nat) : Int) > (65536 : Int)))))] [.keep [34, 2, 0], .keepO []] (ps := [(C Try.prog 20 [ty x0] (tb (decide (((List.length x0 : Nat) : Int) > (65536 : Int)))))]) (e := .normal) (σ' := ⟨[], [(34, vb (decide (((List.length x0 : Nat) : Int) > (65536 : Int)))), (2, vb false), (0, vy x0)], []⟩) (by kernel_rfl) ⟨(vBig_C x0 c0), trivial⟩ ?_
  rcases ite_some h with ⟨h1, h⟩ | ⟨h1, h⟩
  · -- yes
    refine WP.cond (b := decide (((List.length x0 : Nat) : Int) > (65536 : Int))) rfl (fun _ => ?_) (fun hh => by rw [h1] at hh; cases hh)
    have h := Option.some.inj h
    subst h
    exact WP.pathW tab_ok mixed [] _ (ps := []) (r := tb true) (by kernel_rfl) trivial (WkT.eq (y := tb true) (WkT.refl _) rfl) (fun _ h => h)
  · -- no
    refine WP.cond (b := decide (((List.length x0 : Nat) : Int) > (65536 : Int))) rfl (fun hh => by rw [h1] at hh; cases hh) (fun _ => ?_)
    refine WP.path tab_ok mixed [] [.keep [2, 0], .keepO []] (ps := []) (e := .normal) (σ' := ⟨[], [(2, vb false), (0, vy x0)], []⟩) (by kernel_rfl) trivial ?_
    refine WP.seq ?_
    obtain ⟨r37, r37b, r37c, r37d, c1, h⟩ := bnd4_some h
    refine WP.path tab_ok mixed [(37, An.call (T.tup [ti r37, T.list (List.length r37b) 2 (List.flatMap askedC r37b), T.agg [ti r37c, ti r37d]])), (5, An.id 2005)] [.keep [4, 3, 5, 2, 0], .keepO [2005]] (ps := [(C Try.prog 109 [ty x0] (T.tup [ti r37, T.list (List.length r37b) 2 (List.flatMap askedC r37b), T.agg [ti r37c, ti r37d]])), ((0 + 2 ≤ 2 ∧ 2 = 2))]) (e := .normal) (σ' := ⟨[2005], [(4, V.t (T.list (List.length r37b) 2 (List.flatMap askedC r37b))), (3, vi r37), (5, V.ref 2005 0), (2, vb false), (0, vy x0)], [(2005, oc 113 [ti r37c, ti r37d])]⟩) (by kernel_rfl) ⟨(F_spec_DrawChancesAfter_W_C x0 r37 r37b r37c r37d c1), by decide, trivial⟩ ?_
    refine WP.seq ?_
    obtain ⟨r45, r45b, c2, h⟩ := bnd2_some h
    refine WP.path tab_ok mixed [(45, An.call (T.tup [T.list (List.length r45) 2 (List.flatMap pairC r45), tb r45b]))] [.keep [7, 6, 4, 3, 5, 2, 0], .keepO [2005]] (ps := [(0 + 2 ≤ 2), (C Try.prog 110 [ti r37, T.list (List.length r37b) 2 (List.flatMap askedC r37b), T.agg [ti r37c, ti r37d]] (T.tup [T.list (List.length r45) 2 (List.flatMap pairC r45), tb r45b]))]) (e := .normal) (σ' := ⟨[2005], [(7, vb r45b), (6, V.t (T.list (List.length r45) 2 (List.flatMap pairC r45))), (4, V.t (T.list (List.length r37b) 2 (List.flatMap askedC r37b))), (3, vi r37), (5, V.ref 2005 0), (2, vb false), (0, vy x0)], [(2005, oc 113 [ti r37c, ti r37d])]⟩) (by kernel_rfl) ⟨by decide, (F_impl_ChancesAfter_W_C r37 r37b r37c r37d r45 r45b c2), trivial⟩ ?_
    refine WP.seq ?_
    obtain ⟨r52, r52b, c3, h⟩ := bnd2_some h
    refine WP.path tab_ok mixed [(52, An.call (T.tup [T.list (List.length r52) 2 (List.flatMap pairC r52), tb r52b]))] [.keep [9, 8, 7, 6, 4, 3, 5, 2, 0], .keepO [2005]] (ps := [(0 + 2 ≤ 2), (C Try.prog 111 [ti r37, T.list (List.length r37b) 2 (List.flatMap askedC r37b), T.agg [ti r37c, ti r37d]] (T.tup [T.list (List.length r52) 2 (List.flatMap pairC r52), tb r52b]))]) (e := .normal) (σ' := ⟨[2005], [(9, vb r52b), (8, V.t (T.list (List.length r52) 2 (List.flatMap pairC r52))), (7, vb r45b), (6, V.t (T.list (List.length r45) 2 (List.flatMap pairC r45))), (4, V.t (T.list (List.length r37b) 2 (List.flatMap askedC r37b))), (3, vi r37), (5, V.ref 2005 0), (2, vb false), (0, vy x0)], [(2005, oc 113 [ti r37c, ti r37d])]⟩) (by kernel_rfl) ⟨by decide, (F_spec_ChancesAfter_W_C r37 r37b r37c r37d r52 r52b c3), trivial⟩ ?_
    refine WP.seq ?_
    obtain ⟨r59, r59b, c4, h⟩ := bnd2_some h
    refine WP.path tab_ok mixed [(59, An.call (T.tup [ti r59, tb r59b]))] [.keep [11, 10, 9, 8, 7, 6, 4, 3, 5, 2, 0], .keepO [2005]] (ps := [(0 + 2 ≤ 2), (C Try.prog 112 [ti r37, T.list (List.length r37b) 2 (List.flatMap askedC r37b), T.agg [ti r37c, ti r37d]] (T.tup [ti r59, tb r59b]))]) (e := .normal) (σ' := ⟨[2005], [(11, vb r59b), (10, vi r59), (9, vb r52b), (8, V.t (T.list (List.length r52) 2 (List.flatMap pairC r52))), (7, vb r45b), (6, V.t (T.list (List.length r45) 2 (List.flatMap pairC r45))), (4, V.t (T.list (List.length r37b) 2 (List.flatMap askedC r37b))), (3, vi r37), (5, V.ref 2005 0), (2, vb false), (0, vy x0)], [(2005, oc 113 [ti r37c, ti r37d])]⟩) (by kernel_rfl) ⟨by decide, (F_impl_LikeliestAfter_W r37 r37b r37c r37d r59 r59b c4), trivial⟩ ?_
    refine WP.seq ?_
    obtain ⟨r66, r66b, c5, h⟩ := bnd2_some h
    refine WP.path tab_ok mixed [(66, An.call (T.tup [ti r66, tb r66b]))] [.keep [13, 12, 11, 10, 9, 8, 7, 6, 4, 3, 5, 2, 0], .keepO [2005]] (ps := [(0 + 2 ≤ 2), (C Try.prog 113 [ti r37, T.list (List.length r37b) 2 (List.flatMap askedC r37b), T.agg [ti r37c, ti r37d]] (T.tup [ti r66, tb r66b]))]) (e := .normal) (σ' := ⟨[2005], [(13, vb r66b), (12, vi r66), (11, vb r59b), (10, vi r59), (9, vb r52b), (8, V.t (T.list (List.length r52) 2 (List.flatMap pairC r52))), (7, vb r45b), (6, V.t (T.list (List.length r45) 2 (List.flatMap pairC r45))), (4, V.t (T.list (List.length r37b) 2 (List.flatMap askedC r37b))), (3, vi r37), (5, V.ref 2005 0), (2, vb false), (0, vy x0)], [(2005, oc 113 [ti r37c, ti r37d])]⟩) (by kernel_rfl) ⟨by decide, (F_spec_LikeliestAfter_W r37 r37b r37c r37d r66 r66b c5), trivial⟩ ?_
    refine WP.seq ?_
    obtain ⟨r73, r73b, c6, h⟩ := bnd2_some h
    refine WP.path tab_ok mixed [(73, An.call (T.tup [ti r73, tb r73b]))] [.keep [15, 14, 13, 12, 11, 10, 9, 8, 7, 6, 4, 3, 5, 2, 0], .keepO [2005]] (ps := [(0 + 2 ≤ 2), (C Try.prog 114 [ti r37, T.list (List.length r37b) 2 (List.flatMap askedC r37b), T.agg [ti r37c, ti r37d]] (T.tup [ti r73, tb r73b]))]) (e := .normal) (σ' := ⟨[2005], [(15, vb r73b), (14, vi r73), (13, vb r66b), (12, vi r66), (11, vb r59b), (10, vi r59), (9, vb r52b), (8, V.t (T.list (List.length r52) 2 (List.flatMap pairC r52))), (7, vb r45b), (6, V.t (T.list (List.length r45) 2 (List.flatMap pairC r45))), (4, V.t (T.list (List.length r37b) 2 (List.flatMap askedC r37b))), (3, vi r37), (5, V.ref 2005 0), (2, vb false), (0, vy x0)], [(2005, oc 113 [ti r37c, ti r37d])]⟩) (by kernel_rfl) ⟨by decide, (F_impl_EvenAfter_W r37 r37b r37c r37d r73 r73b c6), trivial⟩ ?_
    refine WP.seq ?_
    obtain ⟨r80, r80b, c7, h⟩ := bnd2_some h
    refine WP.path tab_ok mixed [(80, An.call (T.tup [ti r80, tb r80b]))] [.keep [17, 16, 15, 14, 13, 12, 11, 10, 9, 8, 7, 6, 4, 3, 2, 0], .keepO []] (ps := [(0 + 2 ≤ 2), (C Try.prog 115 [ti r37, T.list (List.length r37b) 2 (List.flatMap askedC r37b), T.agg [ti r37c, ti r37d]] (T.tup [ti r80, tb r80b]))]) (e := .normal) (σ' := ⟨[2005], [(17, vb r80b), (16, vi r80), (15, vb r73b), (14, vi r73), (13, vb r66b), (12, vi r66), (11, vb r59b), (10, vi r59), (9, vb r52b), (8, V.t (T.list (List.length r52) 2 (List.flatMap pairC r52))), (7, vb r45b), (6, V.t (T.list (List.length r45) 2 (List.flatMap pairC r45))), (4, V.t (T.list (List.length r37b) 2 (List.flatMap askedC r37b))), (3, vi r37), (2, vb false), (0, vy x0)], []⟩) (by kernel_rfl) ⟨by decide, (F_spec_EvenAfter_W r37 r37b r37c r37d r80 r80b c7), trivial⟩ ?_
    refine WP.seq ?_
    obtain ⟨c8, h⟩ := chk_some h
    obtain ⟨r86, r86b, r86c, r86d, r86e, c9, h⟩ := bnd5_some h
    refine WP.path tab_ok mixed [(85, An.call (ty (cutY x0 (1 : Int)))), (86, An.call (T.tup [ti r86, T.list (List.length r86b) 2 (List.flatMap askedC r86b), ti r86c, T.agg [ti r86d, ti r86e]])), (21, An.id 2021)] [.keep [20, 19, 18, 21, 17, 16, 15, 14, 13, 12, 11, 10, 9, 8, 7, 6, 4, 3, 2], .keepO [2021]] (ps := [(C Try.prog 27 [ty x0, ti 1] (ty (cutY x0 (1 : Int)))), (C Try.prog 116 [ty (cutY x0 (1 : Int))] (T.tup [ti r86, T.list (List.length r86b) 2 (List.flatMap askedC r86b), ti r86c, T.agg [ti r86d, ti r86e]])), ((0 + 2 ≤ 2 ∧ 2 = 2))]) (e := .normal) (σ' := ⟨[2021, 2005], [(20, vi r86c), (19, V.t (T.list (List.length r86b) 2 (List.flatMap askedC r86b))), (18, vi r86), (21, V.ref 2021 0), (17, vb r80b), (16, vi r80), (15, vb r73b), (14, vi r73), (13, vb r66b), (12, vi r66), (11, vb r59b), (10, vi r59), (9, vb r52b), (8, V.t (T.list (List.length r52) 2 (List.flatMap pairC r52))), (7, vb r45b), (6, V.t (T.list (List.length r45) 2 (List.flatMap pairC r45))), (4, V.t (T.list (List.length r37b) 2 (List.flatMap askedC r37b))), (3, vi r37), (2, vb false)], [(2021, oc 113 [ti r86d, ti r86e])]⟩) (by kernel_rfl) ⟨(by have hh := (vCut_C x0 (1 : Int) (show 0 ≤ (1 : Int) by first | decide | (simp only [maxLen]; omega) | (unfold I64; omega) | (unfold I64; decide)) (show (1 : Int) ≤ 255 by first | decide | (simp only [maxLen]; omega) | (unfold I64; omega) | (unfold I64; decide)) c8); simpa using hh), (F_spec_DrawChanceYes_W_C (cutY x0 (1 : Int)) r86 r86b r86c r86d r86e c9), by decide, trivial⟩ ?_
    refine WP.seq ?_
    obtain ⟨r96, r96b, r96c, c10, h⟩ := bnd3_some h
    refine WP.path tab_ok mixed [(96, An.call (T.tup [T.agg [ti r96, ti r96b], tb r96c])), (22, An.id 2022)] [.keep [23, 22, 20, 19, 18, 21, 17, 16, 15, 14, 13, 12, 11, 10, 9, 8, 7, 6, 4, 3, 2], .keepO [2021, 2022]] (ps := [(0 + 2 ≤ 2), (C Try.prog 117 [ti r86, T.list (List.length r86b) 2 (List.flatMap askedC r86b), ti r86c, T.agg [ti r86d, ti r86e]] (T.tup [T.agg [ti r96, ti r96b], tb r96c])), ((0 + 2 ≤ 2 ∧ 2 = 2))]) (e := .normal) (σ' := ⟨[2022, 2021, 2005], [(23, vb r96c), (22, V.ref 2022 0), (20, vi r86c), (19, V.t (T.list (List.length r86b) 2 (List.flatMap askedC r86b))), (18, vi r86), (21, V.ref 2021 0), (17, vb r80b), (16, vi r80), (15, vb r73b), (14, vi r73), (13, vb r66b), (12, vi r66), (11, vb r59b), (10, vi r59), (9, vb r52b), (8, V.t (T.list (List.length r52) 2 (List.flatMap pairC r52))), (7, vb r45b), (6, V.t (T.list (List.length r45) 2 (List.flatMap pairC r45))), (4, V.t (T.list (List.length r37b) 2 (List.flatMap askedC r37b))), (3, vi r37), (2, vb false)], [(2021, oc 113 [ti r86d, ti r86e]), (2022, oc 49 [ti r96, ti r96b])]⟩) (by kernel_rfl) ⟨by decide, (F_impl_ChanceYes_W r86 r86b r86c r86d r86e r96 r96b r96c c10), by decide, trivial⟩ ?_
    refine WP.seq ?_
    obtain ⟨r104, r104b, r104c, c11, h⟩ := bnd3_some h
    refine WP.path tab_ok mixed [(104, An.call (T.tup [T.agg [ti r104, ti r104b], tb r104c])), (24, An.id 2024)] [.keep [25, 24, 23, 22, 20, 19, 18, 21, 17, 16, 15, 14, 13, 12, 11, 10, 9, 8, 7, 6, 4, 3, 2], .keepO [2021, 2022, 2024]] (ps := [(0 + 2 ≤ 2), (C Try.prog 118 [ti r86, T.list (List.length r86b) 2 (List.flatMap askedC r86b), ti r86c, T.agg [ti r86d, ti r86e]] (T.tup [T.agg [ti r104, ti r104b], tb r104c])), ((0 + 2 ≤ 2 ∧ 2 = 2))]) (e := .normal) (σ' := ⟨[2024, 2022, 2021, 2005], [(25, vb r104c), (24, V.ref 2024 0), (23, vb r96c), (22, V.ref 2022 0), (20, vi r86c), (19, V.t (T.list (List.length r86b) 2 (List.flatMap askedC r86b))), (18, vi r86), (21, V.ref 2021 0), (17, vb r80b), (16, vi r80), (15, vb r73b), (14, vi r73), (13, vb r66b), (12, vi r66), (11, vb r59b), (10, vi r59), (9, vb r52b), (8, V.t (T.list (List.length r52) 2 (List.flatMap pairC r52))), (7, vb r45b), (6, V.t (T.list (List.length r45) 2 (List.flatMap pairC r45))), (4, V.t (T.list (List.length r37b) 2 (List.flatMap askedC r37b))), (3, vi r37), (2, vb false)], [(2021, oc 113 [ti r86d, ti r86e]), (2022, oc 49 [ti r96, ti r96b]), (2024, oc 49 [ti r104, ti r104b])]⟩) (by kernel_rfl) ⟨by decide, (F_spec_ChanceYes_W r86 r86b r86c r86d r86e r104 r104b r104c c11), by decide, trivial⟩ ?_
    refine WP.seq ?_
    obtain ⟨J1, hJ1, h⟩ := jn_some h
    refine WP.joinA (fun (zz : Bool) => ⟨[2021, 2022], [(155, vb zz), (23, vb r96c), (22, V.ref 2022 0), (20, vi r86c), (19, V.t (T.list (List.length r86b) 2 (List.flatMap askedC r86b))), (18, vi r86), (21, V.ref 2021 0), (14, vi r73), (10, vi r59), (7, vb r45b), (6, V.t (T.list (List.length r45) 2 (List.flatMap pairC r45))), (4, V.t (T.list (List.length r37b) 2 (List.flatMap askedC r37b))), (3, vi r37), (2, vb false)], [(2021, oc 113 [ti r86d, ti r86e]), (2022, oc 49 [ti r96, ti r96b])]⟩) (fun zz => J1 zz = some y0) ?_ ?_
    · -- to where they meet
      rcases ite_some h with ⟨h2, h⟩ | ⟨h2, h⟩
      · -- yes
        refine WP.path tab_ok mixed [(109, An.b true)] [.keep [155, 23, 22, 20, 19, 18, 21, 14, 10, 7, 6, 4, 3, 2], .keepO [2021, 2022], .names [(2021, 2021), (2022, 2022)]] (ps := [(True), ((!(r45b == r52b)) = true)]) (e := .normal) (σ' := ⟨[2021, 2022], [(155, vb true), (23, vb r96c), (22, V.ref 2022 0), (20, vi r86c), (19, V.t (T.list (List.length r86b) 2 (List.flatMap askedC r86b))), (18, vi r86), (21, V.ref 2021 0), (14, vi r73), (10, vi r59), (7, vb r45b), (6, V.t (T.list (List.length r45) 2 (List.flatMap pairC r45))), (4, V.t (T.list (List.length r37b) 2 (List.flatMap askedC r37b))), (3, vi r37), (2, vb false)], [(2021, oc 113 [ti r86d, ti r86e]), (2022, oc 49 [ti r96, ti r96b])]⟩) (by kernel_rfl) ⟨trivial, h2, trivial⟩ ?_
        exact ⟨(true), h, rfl⟩
      · -- no
        obtain ⟨r113, c12, h⟩ := bnd1_some h
        rcases ite_some h with ⟨h3, h⟩ | ⟨h3, h⟩
        · -- yes
          refine WP.path tab_ok mixed [(109, An.b false), (113, An.call (tb r113)), (116, An.b true)] [.keep [155, 23, 22, 20, 19, 18, 21, 14, 10, 7, 6, 4, 3, 2], .keepO [2021, 2022], .names [(2021, 2021), (2022, 2022)]] (ps := [(True), ((!(r45b == r52b)) = false), (C Try.prog 119 [T.list (List.length r45) 2 (List.flatMap pairC r45), T.list (List.length r52) 2 (List.flatMap pairC r52)] (tb r113)), ((!r113) = true)]) (e := .normal) (σ' := ⟨[2021, 2022], [(155, vb true), (23, vb r96c), (22, V.ref 2022 0), (20, vi r86c), (19, V.t (T.list (List.length r86b) 2 (List.flatMap askedC r86b))), (18, vi r86), (21, V.ref 2021 0), (14, vi r73), (10, vi r59), (7, vb r45b), (6, V.t (T.list (List.length r45) 2 (List.flatMap pairC r45))), (4, V.t (T.list (List.length r37b) 2 (List.flatMap askedC r37b))), (3, vi r37), (2, vb false)], [(2021, oc 113 [ti r86d, ti r86e]), (2022, oc 49 [ti r96, ti r96b])]⟩) (by kernel_rfl) ⟨trivial, h2, (F_laws_vPairs_W r45 r52 r113 c12), h3, trivial⟩ ?_
          exact ⟨(true), h, rfl⟩
        · -- no
          rcases ite_some h with ⟨h4, h⟩ | ⟨h4, h⟩
          · -- yes
            refine WP.path tab_ok mixed [(109, An.b false), (113, An.call (tb r113)), (116, An.b false), (119, An.b true)] [.keep [155, 23, 22, 20, 19, 18, 21, 14, 10, 7, 6, 4, 3, 2], .keepO [2021, 2022], .names [(2021, 2021), (2022, 2022)]] (ps := [(True), ((!(r45b == r52b)) = false), (C Try.prog 119 [T.list (List.length r45) 2 (List.flatMap pairC r45), T.list (List.length r52) 2 (List.flatMap pairC r52)] (tb r113)), ((!r113) = false), (True), ((r59 != r66) = true)]) (e := .normal) (σ' := ⟨[2021, 2022], [(155, vb true), (23, vb r96c), (22, V.ref 2022 0), (20, vi r86c), (19, V.t (T.list (List.length r86b) 2 (List.flatMap askedC r86b))), (18, vi r86), (21, V.ref 2021 0), (14, vi r73), (10, vi r59), (7, vb r45b), (6, V.t (T.list (List.length r45) 2 (List.flatMap pairC r45))), (4, V.t (T.list (List.length r37b) 2 (List.flatMap askedC r37b))), (3, vi r37), (2, vb false)], [(2021, oc 113 [ti r86d, ti r86e]), (2022, oc 49 [ti r96, ti r96b])]⟩) (by kernel_rfl) ⟨trivial, h2, (F_laws_vPairs_W r45 r52 r113 c12), h3, trivial, h4, trivial⟩ ?_
            exact ⟨(true), h, rfl⟩
          · -- no
            rcases ite_some h with ⟨h5, h⟩ | ⟨h5, h⟩
            · -- yes
              refine WP.path tab_ok mixed [(109, An.b false), (113, An.call (tb r113)), (116, An.b false), (119, An.b false), (124, An.b true)] [.keep [155, 23, 22, 20, 19, 18, 21, 14, 10, 7, 6, 4, 3, 2], .keepO [2021, 2022], .names [(2021, 2021), (2022, 2022)]] (ps := [(True), ((!(r45b == r52b)) = false), (C Try.prog 119 [T.list (List.length r45) 2 (List.flatMap pairC r45), T.list (List.length r52) 2 (List.flatMap pairC r52)] (tb r113)), ((!r113) = false), (True), ((r59 != r66) = false), (True), ((!(r59b == r66b)) = true)]) (e := .normal) (σ' := ⟨[2021, 2022], [(155, vb true), (23, vb r96c), (22, V.ref 2022 0), (20, vi r86c), (19, V.t (T.list (List.length r86b) 2 (List.flatMap askedC r86b))), (18, vi r86), (21, V.ref 2021 0), (14, vi r73), (10, vi r59), (7, vb r45b), (6, V.t (T.list (List.length r45) 2 (List.flatMap pairC r45))), (4, V.t (T.list (List.length r37b) 2 (List.flatMap askedC r37b))), (3, vi r37), (2, vb false)], [(2021, oc 113 [ti r86d, ti r86e]), (2022, oc 49 [ti r96, ti r96b])]⟩) (by kernel_rfl) ⟨trivial, h2, (F_laws_vPairs_W r45 r52 r113 c12), h3, trivial, h4, trivial, h5, trivial⟩ ?_
              exact ⟨(true), h, rfl⟩
            · -- no
              rcases ite_some h with ⟨h6, h⟩ | ⟨h6, h⟩
              · -- yes
                refine WP.path tab_ok mixed [(109, An.b false), (113, An.call (tb r113)), (116, An.b false), (119, An.b false), (124, An.b false), (129, An.b true)] [.keep [155, 23, 22, 20, 19, 18, 21, 14, 10, 7, 6, 4, 3, 2], .keepO [2021, 2022], .names [(2021, 2021), (2022, 2022)]] (ps := [(True), ((!(r45b == r52b)) = false), (C Try.prog 119 [T.list (List.length r45) 2 (List.flatMap pairC r45), T.list (List.length r52) 2 (List.flatMap pairC r52)] (tb r113)), ((!r113) = false), (True), ((r59 != r66) = false), (True), ((!(r59b == r66b)) = false), (True), ((r73 != r80) = true)]) (e := .normal) (σ' := ⟨[2021, 2022], [(155, vb true), (23, vb r96c), (22, V.ref 2022 0), (20, vi r86c), (19, V.t (T.list (List.length r86b) 2 (List.flatMap askedC r86b))), (18, vi r86), (21, V.ref 2021 0), (14, vi r73), (10, vi r59), (7, vb r45b), (6, V.t (T.list (List.length r45) 2 (List.flatMap pairC r45))), (4, V.t (T.list (List.length r37b) 2 (List.flatMap askedC r37b))), (3, vi r37), (2, vb false)], [(2021, oc 113 [ti r86d, ti r86e]), (2022, oc 49 [ti r96, ti r96b])]⟩) (by kernel_rfl) ⟨trivial, h2, (F_laws_vPairs_W r45 r52 r113 c12), h3, trivial, h4, trivial, h5, trivial, h6, trivial⟩ ?_
                exact ⟨(true), h, rfl⟩
              · -- no
                rcases ite_some h with ⟨h7, h⟩ | ⟨h7, h⟩
                · -- yes
                  refine WP.path tab_ok mixed [(109, An.b false), (113, An.call (tb r113)), (116, An.b false), (119, An.b false), (124, An.b false), (129, An.b false), (134, An.b true)] [.keep [155, 23, 22, 20, 19, 18, 21, 14, 10, 7, 6, 4, 3, 2], .keepO [2021, 2022], .names [(2021, 2021), (2022, 2022)]] (ps := [(True), ((!(r45b == r52b)) = false), (C Try.prog 119 [T.list (List.length r45) 2 (List.flatMap pairC r45), T.list (List.length r52) 2 (List.flatMap pairC r52)] (tb r113)), ((!r113) = false), (True), ((r59 != r66) = false), (True), ((!(r59b == r66b)) = false), (True), ((r73 != r80) = false), (True), ((!(r73b == r80b)) = true)]) (e := .normal) (σ' := ⟨[2021, 2022], [(155, vb true), (23, vb r96c), (22, V.ref 2022 0), (20, vi r86c), (19, V.t (T.list (List.length r86b) 2 (List.flatMap askedC r86b))), (18, vi r86), (21, V.ref 2021 0), (14, vi r73), (10, vi r59), (7, vb r45b), (6, V.t (T.list (List.length r45) 2 (List.flatMap pairC r45))), (4, V.t (T.list (List.length r37b) 2 (List.flatMap askedC r37b))), (3, vi r37), (2, vb false)], [(2021, oc 113 [ti r86d, ti r86e]), (2022, oc 49 [ti r96, ti r96b])]⟩) (by kernel_rfl) ⟨trivial, h2, (F_laws_vPairs_W r45 r52 r113 c12), h3, trivial, h4, trivial, h5, trivial, h6, trivial, h7, trivial⟩ ?_
                  exact ⟨(true), h, rfl⟩
                · -- no
                  rcases ite_some h with ⟨h8, h⟩ | ⟨h8, h⟩
                  · -- yes
                    refine WP.path tab_ok mixed [(109, An.b false), (113, An.call (tb r113)), (116, An.b false), (119, An.b false), (124, An.b false), (129, An.b false), (134, An.b false), (139, An.b true)] [.keep [155, 23, 22, 20, 19, 18, 21, 14, 10, 7, 6, 4, 3, 2], .keepO [2021, 2022], .names [(2021, 2021), (2022, 2022)]] (ps := [(True), ((!(r45b == r52b)) = false), (C Try.prog 119 [T.list (List.length r45) 2 (List.flatMap pairC r45), T.list (List.length r52) 2 (List.flatMap pairC r52)] (tb r113)), ((!r113) = false), (True), ((r59 != r66) = false), (True), ((!(r59b == r66b)) = false), (True), ((r73 != r80) = false), (True), ((!(r73b == r80b)) = false), (0 + 2 ≤ 2), (0 + 2 ≤ 2), (chkEq Try.prog 49 [ti r96, ti r96b] = true), ((!((r96 == r104) && ((r96b == r104b) && (true)))) = true)]) (e := .normal) (σ' := ⟨[2021, 2022], [(155, vb true), (23, vb r96c), (22, V.ref 2022 0), (20, vi r86c), (19, V.t (T.list (List.length r86b) 2 (List.flatMap askedC r86b))), (18, vi r86), (21, V.ref 2021 0), (14, vi r73), (10, vi r59), (7, vb r45b), (6, V.t (T.list (List.length r45) 2 (List.flatMap pairC r45))), (4, V.t (T.list (List.length r37b) 2 (List.flatMap askedC r37b))), (3, vi r37), (2, vb false)], [(2021, oc 113 [ti r86d, ti r86e]), (2022, oc 49 [ti r96, ti r96b])]⟩) (by kernel_rfl) ⟨trivial, h2, (F_laws_vPairs_W r45 r52 r113 c12), h3, trivial, h4, trivial, h5, trivial, h6, trivial, h7, by decide, by decide, by kernel_rfl, h8, trivial⟩ ?_
                    exact ⟨(true), h, rfl⟩
                  · -- no
                    rcases ite_some h with ⟨h9, h⟩ | ⟨h9, h⟩
                    · -- yes
                      refine WP.path tab_ok mixed [(109, An.b false), (113, An.call (tb r113)), (116, An.b false), (119, An.b false), (124, An.b false), (129, An.b false), (134, An.b false), (139, An.b false), (144, An.b true)] [.keep [155, 23, 22, 20, 19, 18, 21, 14, 10, 7, 6, 4, 3, 2], .keepO [2021, 2022], .names [(2021, 2021), (2022, 2022)]] (ps := [(True), ((!(r45b == r52b)) = false), (C Try.prog 119 [T.list (List.length r45) 2 (List.flatMap pairC r45), T.list (List.length r52) 2 (List.flatMap pairC r52)] (tb r113)), ((!r113) = false), (True), ((r59 != r66) = false), (True), ((!(r59b == r66b)) = false), (True), ((r73 != r80) = false), (True), ((!(r73b == r80b)) = false), (0 + 2 ≤ 2), (0 + 2 ≤ 2), (chkEq Try.prog 49 [ti r96, ti r96b] = true), ((!((r96 == r104) && ((r96b == r104b) && (true)))) = false), (True), ((!(r96c == r104c)) = true)]) (e := .normal) (σ' := ⟨[2021, 2022], [(155, vb true), (23, vb r96c), (22, V.ref 2022 0), (20, vi r86c), (19, V.t (T.list (List.length r86b) 2 (List.flatMap askedC r86b))), (18, vi r86), (21, V.ref 2021 0), (14, vi r73), (10, vi r59), (7, vb r45b), (6, V.t (T.list (List.length r45) 2 (List.flatMap pairC r45))), (4, V.t (T.list (List.length r37b) 2 (List.flatMap askedC r37b))), (3, vi r37), (2, vb false)], [(2021, oc 113 [ti r86d, ti r86e]), (2022, oc 49 [ti r96, ti r96b])]⟩) (by kernel_rfl) ⟨trivial, h2, (F_laws_vPairs_W r45 r52 r113 c12), h3, trivial, h4, trivial, h5, trivial, h6, trivial, h7, by decide, by decide, by kernel_rfl, h8, trivial, h9, trivial⟩ ?_
                      exact ⟨(true), h, rfl⟩
                    · -- no
                      rcases ite_some h with ⟨h10, h⟩ | ⟨h10, h⟩
                      · -- yes
                        refine WP.path tab_ok mixed [(109, An.b false), (113, An.call (tb r113)), (116, An.b false), (119, An.b false), (124, An.b false), (129, An.b false), (134, An.b false), (139, An.b false), (144, An.b false), (149, An.b true)] [.keep [155, 23, 22, 20, 19, 18, 21, 14, 10, 7, 6, 4, 3, 2], .keepO [2021, 2022], .names [(2021, 2021), (2022, 2022)]] (ps := [(True), ((!(r45b == r52b)) = false), (C Try.prog 119 [T.list (List.length r45) 2 (List.flatMap pairC r45), T.list (List.length r52) 2 (List.flatMap pairC r52)] (tb r113)), ((!r113) = false), (True), ((r59 != r66) = false), (True), ((!(r59b == r66b)) = false), (True), ((r73 != r80) = false), (True), ((!(r73b == r80b)) = false), (0 + 2 ≤ 2), (0 + 2 ≤ 2), (chkEq Try.prog 49 [ti r96, ti r96b] = true), ((!((r96 == r104) && ((r96b == r104b) && (true)))) = false), (True), ((!(r96c == r104c)) = false), (True), ((!(r45b == r59b)) = true)]) (e := .normal) (σ' := ⟨[2021, 2022], [(155, vb true), (23, vb r96c), (22, V.ref 2022 0), (20, vi r86c), (19, V.t (T.list (List.length r86b) 2 (List.flatMap askedC r86b))), (18, vi r86), (21, V.ref 2021 0), (14, vi r73), (10, vi r59), (7, vb r45b), (6, V.t (T.list (List.length r45) 2 (List.flatMap pairC r45))), (4, V.t (T.list (List.length r37b) 2 (List.flatMap askedC r37b))), (3, vi r37), (2, vb false)], [(2021, oc 113 [ti r86d, ti r86e]), (2022, oc 49 [ti r96, ti r96b])]⟩) (by kernel_rfl) ⟨trivial, h2, (F_laws_vPairs_W r45 r52 r113 c12), h3, trivial, h4, trivial, h5, trivial, h6, trivial, h7, by decide, by decide, by kernel_rfl, h8, trivial, h9, trivial, h10, trivial⟩ ?_
                        exact ⟨(true), h, rfl⟩
                      · -- no
                        refine WP.path tab_ok mixed [(109, An.b false), (113, An.call (tb r113)), (116, An.b false), (119, An.b false), (124, An.b false), (129, An.b false), (134, An.b false), (139, An.b false), (144, An.b false), (149, An.b false)] [.keep [155, 23, 22, 20, 19, 18, 21, 14, 10, 7, 6, 4, 3, 2], .keepO [2021, 2022], .names [(2021, 2021), (2022, 2022)]] (ps := [(True), ((!(r45b == r52b)) = false), (C Try.prog 119 [T.list (List.length r45) 2 (List.flatMap pairC r45), T.list (List.length r52) 2 (List.flatMap pairC r52)] (tb r113)), ((!r113) = false), (True), ((r59 != r66) = false), (True), ((!(r59b == r66b)) = false), (True), ((r73 != r80) = false), (True), ((!(r73b == r80b)) = false), (0 + 2 ≤ 2), (0 + 2 ≤ 2), (chkEq Try.prog 49 [ti r96, ti r96b] = true), ((!((r96 == r104) && ((r96b == r104b) && (true)))) = false), (True), ((!(r96c == r104c)) = false), (True), ((!(r45b == r59b)) = false), (True)]) (e := .normal) (σ' := ⟨[2021, 2022], [(155, vb (!(r45b == r73b))), (23, vb r96c), (22, V.ref 2022 0), (20, vi r86c), (19, V.t (T.list (List.length r86b) 2 (List.flatMap askedC r86b))), (18, vi r86), (21, V.ref 2021 0), (14, vi r73), (10, vi r59), (7, vb r45b), (6, V.t (T.list (List.length r45) 2 (List.flatMap pairC r45))), (4, V.t (T.list (List.length r37b) 2 (List.flatMap askedC r37b))), (3, vi r37), (2, vb false)], [(2021, oc 113 [ti r86d, ti r86e]), (2022, oc 49 [ti r96, ti r96b])]⟩) (by kernel_rfl) ⟨trivial, h2, (F_laws_vPairs_W r45 r52 r113 c12), h3, trivial, h4, trivial, h5, trivial, h6, trivial, h7, by decide, by decide, by kernel_rfl, h8, trivial, h9, trivial, h10, trivial, trivial⟩ ?_
                        exact ⟨(!(r45b == r73b)), h, rfl⟩
    · -- from there
      intro v155 h0
      have h := (show J1 v155 = some y0 from h0)
      rw [hJ1] at h
      rcases ite_some h with ⟨h11, h⟩ | ⟨h11, h⟩
      · -- yes
        refine WP.cond (b := v155) rfl (fun _ => ?_) (fun hh => by rw [h11] at hh; cases hh)
        have h := Option.some.inj h
        subst h
        exact WP.pathW tab_ok mixed [] _ (ps := []) (r := tb false) (by kernel_rfl) trivial (WkT.eq (y := tb false) (WkT.refl _) rfl) (fun _ h => h)
      · -- no
        refine WP.cond (b := v155) rfl (fun hh => by rw [h11] at hh; cases hh) (fun _ => ?_)
        refine WP.path tab_ok mixed [] [.keep [23, 22, 20, 19, 18, 21, 14, 10, 7, 6, 4, 3, 2], .keepO [2021, 2022]] (ps := []) (e := .normal) (σ' := ⟨[2021, 2022], [(23, vb r96c), (22, V.ref 2022 0), (20, vi r86c), (19, V.t (T.list (List.length r86b) 2 (List.flatMap askedC r86b))), (18, vi r86), (21, V.ref 2021 0), (14, vi r73), (10, vi r59), (7, vb r45b), (6, V.t (T.list (List.length r45) 2 (List.flatMap pairC r45))), (4, V.t (T.list (List.length r37b) 2 (List.flatMap askedC r37b))), (3, vi r37), (2, vb false)], [(2021, oc 113 [ti r86d, ti r86e]), (2022, oc 49 [ti r96, ti r96b])]⟩) (by kernel_rfl) trivial ?_
        obtain ⟨J1, hJ1, h⟩ := jn_some h
        refine WP.joinA (fun (zz : Unit) => ⟨[2021, 2022], [(23, vb r96c), (22, V.ref 2022 0), (20, vi r86c), (19, V.t (T.list (List.length r86b) 2 (List.flatMap askedC r86b))), (18, vi r86), (21, V.ref 2021 0), (2, vb false)], [(2021, oc 113 [ti r86d, ti r86e]), (2022, oc 49 [ti r96, ti r96b])]⟩) (fun zz => J1 () = some y0) ?_ ?_
        · -- to where they meet
          refine WP.seq ?_
          refine WP.path tab_ok mixed [] [.keep [156, 23, 22, 20, 19, 18, 21, 14, 10, 6, 4, 3, 2], .keepO [2021, 2022]] (ps := []) (e := .normal) (σ' := ⟨[2021, 2022], [(156, vb r45b), (23, vb r96c), (22, V.ref 2022 0), (20, vi r86c), (19, V.t (T.list (List.length r86b) 2 (List.flatMap askedC r86b))), (18, vi r86), (21, V.ref 2021 0), (14, vi r73), (10, vi r59), (6, V.t (T.list (List.length r45) 2 (List.flatMap pairC r45))), (4, V.t (T.list (List.length r37b) 2 (List.flatMap askedC r37b))), (3, vi r37), (2, vb false)], [(2021, oc 113 [ti r86d, ti r86e]), (2022, oc 49 [ti r96, ti r96b])]⟩) (by kernel_rfl) trivial ?_
          rcases ite_some h with ⟨h12, h⟩ | ⟨h12, h⟩
          · -- yes
            refine WP.cond (b := r45b) rfl (fun _ => ?_) (fun hh => by rw [h12] at hh; cases hh)
            refine WP.seq ?_
            refine WP.path tab_ok mixed [(26, An.id 2026), (27, An.id 2027)] [.keep [27, 26, 23, 22, 20, 19, 18, 21, 14, 10, 6, 4, 3, 2], .keepO [2021, 2022, 2026, 2027]] (ps := [((1 = 1 ∧ 0 + 1 ≤ 2) ∧ (1 = 1 ∧ 1 + 1 ≤ 2) ∧ True), ((1 = 1 ∧ 0 + 1 ≤ 2) ∧ (1 = 1 ∧ 1 + 1 ≤ 2) ∧ True), ((0 + 2 ≤ 2 ∧ 2 = 2)), ((0 + 2 ≤ 2 ∧ 2 = 2))]) (e := .normal) (σ' := ⟨[2027, 2026, 2021, 2022], [(27, V.ref 2027 0), (26, V.ref 2026 0), (23, vb r96c), (22, V.ref 2022 0), (20, vi r86c), (19, V.t (T.list (List.length r86b) 2 (List.flatMap askedC r86b))), (18, vi r86), (21, V.ref 2021 0), (14, vi r73), (10, vi r59), (6, V.t (T.list (List.length r45) 2 (List.flatMap pairC r45))), (4, V.t (T.list (List.length r37b) 2 (List.flatMap askedC r37b))), (3, vi r37), (2, vb false)], [(2021, oc 113 [ti r86d, ti r86e]), (2022, oc 49 [ti r96, ti r96b]), (2026, oc 49 [ti 0, ti 1]), (2027, oc 49 [ti 0, ti 1])]⟩) (by kernel_rfl) ⟨⟨⟨by first | rfl | (simp; done) | (simp []; done) | omega, by first | decide | (simp; done) | (simp []; done) | omega | (simp only [tlL]; omega) | (simp; omega)⟩, ⟨by first | rfl | (simp; done) | (simp []; done) | omega, by first | decide | (simp; done) | (simp []; done) | omega | (simp only [tlL]; omega) | (simp; omega)⟩, trivial⟩, ⟨⟨by first | rfl | (simp; done) | (simp []; done) | omega, by first | decide | (simp; done) | (simp []; done) | omega | (simp only [tlL]; omega) | (simp; omega)⟩, ⟨by first | rfl | (simp; done) | (simp []; done) | omega, by first | decide | (simp; done) | (simp []; done) | omega | (simp only [tlL]; omega) | (simp; omega)⟩, trivial⟩, by decide, by decide, trivial⟩ ?_
            obtain ⟨J2, hJ2, h⟩ := jn_some h
            refine WP.joinA (fun (zz : Int × Int × Int × Int) => ⟨[2021, 2022, 2026, 2027], [(27, V.ref 2027 0), (26, V.ref 2026 0), (23, vb r96c), (22, V.ref 2022 0), (20, vi r86c), (19, V.t (T.list (List.length r86b) 2 (List.flatMap askedC r86b))), (18, vi r86), (21, V.ref 2021 0), (6, V.t (T.list (List.length r45) 2 (List.flatMap pairC r45))), (4, V.t (T.list (List.length r37b) 2 (List.flatMap askedC r37b))), (3, vi r37), (2, vb false)], [(2021, oc 113 [ti r86d, ti r86e]), (2022, oc 49 [ti r96, ti r96b]), (2026, oc 49 [ti zz.1, ti zz.2.1]), (2027, oc 49 [ti zz.2.2.1, ti zz.2.2.2])]⟩) (fun zz => J2 zz.1 zz.2.1 zz.2.2.1 zz.2.2.2 = some y0) ?_ ?_
            · -- to where they meet
              refine WP.seq ?_
              refine WP.path tab_ok mixed [] [.keep [28, 27, 26, 23, 22, 20, 19, 18, 21, 14, 10, 6, 4, 3, 2], .keepO [2021, 2022, 2026, 2027]] (ps := []) (e := .normal) (σ' := ⟨[2027, 2026, 2021, 2022], [(28, vi 0), (27, V.ref 2027 0), (26, V.ref 2026 0), (23, vb r96c), (22, V.ref 2022 0), (20, vi r86c), (19, V.t (T.list (List.length r86b) 2 (List.flatMap askedC r86b))), (18, vi r86), (21, V.ref 2021 0), (14, vi r73), (10, vi r59), (6, V.t (T.list (List.length r45) 2 (List.flatMap pairC r45))), (4, V.t (T.list (List.length r37b) 2 (List.flatMap askedC r37b))), (3, vi r37), (2, vb false)], [(2021, oc 113 [ti r86d, ti r86e]), (2022, oc 49 [ti r96, ti r96b]), (2026, oc 49 [ti 0, ti 1]), (2027, oc 49 [ti 0, ti 1])]⟩) (by kernel_rfl) trivial ?_
              refine WP.block ?_
              refine WP.wk [.keep [28, 27, 26, 23, 22, 20, 19, 18, 21, 14, 10, 6, 4, 3, 2], .keepO [2021, 2022, 2026, 2027], .names [(2021, 2021), (2022, 2022), (2026, 2026), (2027, 2027)]] (σ' := ⟨[2021, 2022, 2026, 2027], [(28, vi 0), (27, V.ref 2027 0), (26, V.ref 2026 0), (23, vb r96c), (22, V.ref 2022 0), (20, vi r86c), (19, V.t (T.list (List.length r86b) 2 (List.flatMap askedC r86b))), (18, vi r86), (21, V.ref 2021 0), (14, vi r73), (10, vi r59), (6, V.t (T.list (List.length r45) 2 (List.flatMap pairC r45))), (4, V.t (T.list (List.length r37b) 2 (List.flatMap askedC r37b))), (3, vi r37), (2, vb false)], [(2021, oc 113 [ti r86d, ti r86e]), (2022, oc 49 [ti r96, ti r96b]), (2026, oc 49 [ti 0, ti 1]), (2027, oc 49 [ti 0, ti 1])]⟩) (ps := []) (by kernel_rfl) trivial ?_
              refine WP.st (σ' := ⟨[2021, 2022, 2026, 2027], [(28, vi (0 : Int)), (27, V.ref 2027 0), (26, V.ref 2026 0), (23, vb r96c), (22, V.ref 2022 0), (20, vi r86c), (19, V.t (T.list (List.length r86b) 2 (List.flatMap askedC r86b))), (18, vi r86), (21, V.ref 2021 0), (14, vi r73), (10, vi r59), (6, V.t (T.list (List.length r45) 2 (List.flatMap pairC r45))), (4, V.t (T.list (List.length r37b) 2 (List.flatMap askedC r37b))), (3, vi r37), (2, vb false)], [(2021, oc 113 [ti r86d, ti r86e]), (2022, oc 49 [ti r96, ti r96b]), (2026, oc 49 [ti (0 : Int), ti (1 : Int)]), (2027, oc 49 [ti (0 : Int), ti (1 : Int)])]⟩) (by first | rfl | (simp only [tlS, tl, vl, vo, oc, ov, tbl, vbl, ty, vy]; done) | (simp only [tlS, tl, vl, vo, oc, ov, tbl, vbl, ty, vy]; rfl) | (simp; done) | (simp []; done) | (rw [List.take_of_length_le (by simp [])]; done) | (rw [List.take_of_length_le (by simp [])]; rfl) | (simp only [tlL]; omega) | (simp; omega)) ?_
              refine WP.loop (α := Nat × Int × Int × Int × Int × Int) (fun zz => ⟨[2021, 2022, 2026, 2027], [(28, vi zz.2.2.2.2.2), (27, V.ref 2027 0), (26, V.ref 2026 0), (23, vb r96c), (22, V.ref 2022 0), (20, vi r86c), (19, V.t (T.list (List.length r86b) 2 (List.flatMap askedC r86b))), (18, vi r86), (21, V.ref 2021 0), (14, vi r73), (10, vi r59), (6, V.t (T.list (List.length r45) 2 (List.flatMap pairC r45))), (4, V.t (T.list (List.length r37b) 2 (List.flatMap askedC r37b))), (3, vi r37), (2, vb false)], [(2021, oc 113 [ti r86d, ti r86e]), (2022, oc 49 [ti r96, ti r96b]), (2026, oc 49 [ti zz.2.1, ti zz.2.2.1]), (2027, oc 49 [ti zz.2.2.2.1, ti zz.2.2.2.2.1])]⟩) (fun zz => F_laws_FnAfter_L1 r45 r59 r73 J2 zz.1 zz.2.1 zz.2.2.1 zz.2.2.2.1 zz.2.2.2.2.1 zz.2.2.2.2.2 = some y0) (fun zz => zz.1) (fuel, (0 : Int), (1 : Int), (0 : Int), (1 : Int), (0 : Int)) h ?_
              rintro ⟨n, o26, o26b, o27, o27b, v28⟩ h0
              have h := (show F_laws_FnAfter_L1 r45 r59 r73 J2 n o26 o26b o27 o27b v28 = some y0 from h0)
              rcases n with _ | n
              · rw [F_laws_FnAfter_L1] at h; cases h
              · rw [F_laws_FnAfter_L1] at h
                refine WP.seq ?_
                refine WP.seq ?_
                refine WP.path tab_ok mixed [] [.keep [162, 28, 27, 26, 23, 22, 20, 19, 18, 21, 14, 10, 6, 4, 3, 2], .keepO [2021, 2022, 2026, 2027]] (ps := [(True)]) (e := .normal) (σ' := ⟨[2021, 2022, 2026, 2027], [(162, vb (decide (v28 < ((List.length r45 : Nat) : Int)))), (28, vi v28), (27, V.ref 2027 0), (26, V.ref 2026 0), (23, vb r96c), (22, V.ref 2022 0), (20, vi r86c), (19, V.t (T.list (List.length r86b) 2 (List.flatMap askedC r86b))), (18, vi r86), (21, V.ref 2021 0), (14, vi r73), (10, vi r59), (6, V.t (T.list (List.length r45) 2 (List.flatMap pairC r45))), (4, V.t (T.list (List.length r37b) 2 (List.flatMap askedC r37b))), (3, vi r37), (2, vb false)], [(2021, oc 113 [ti r86d, ti r86e]), (2022, oc 49 [ti r96, ti r96b]), (2026, oc 49 [ti o26, ti o26b]), (2027, oc 49 [ti o27, ti o27b])]⟩) (by kernel_rfl) ⟨trivial, trivial⟩ ?_
                rcases ite_some h with ⟨h13, h⟩ | ⟨h13, h⟩
                · -- yes
                  refine WP.cond (b := decide (v28 < ((List.length r45 : Nat) : Int))) rfl (fun _ => ?_) (fun hh => by rw [h13] at hh; cases hh)
                  refine WP.path tab_ok mixed [] [.keep [28, 27, 26, 23, 22, 20, 19, 18, 21, 14, 10, 6, 4, 3, 2], .keepO [2021, 2022, 2026, 2027]] (ps := []) (e := .normal) (σ' := ⟨[2021, 2022, 2026, 2027], [(28, vi v28), (27, V.ref 2027 0), (26, V.ref 2026 0), (23, vb r96c), (22, V.ref 2022 0), (20, vi r86c), (19, V.t (T.list (List.length r86b) 2 (List.flatMap askedC r86b))), (18, vi r86), (21, V.ref 2021 0), (14, vi r73), (10, vi r59), (6, V.t (T.list (List.length r45) 2 (List.flatMap pairC r45))), (4, V.t (T.list (List.length r37b) 2 (List.flatMap askedC r37b))), (3, vi r37), (2, vb false)], [(2021, oc 113 [ti r86d, ti r86e]), (2022, oc 49 [ti r96, ti r96b]), (2026, oc 49 [ti o26, ti o26b]), (2027, oc 49 [ti o27, ti o27b])]⟩) (by kernel_rfl) trivial ?_
                  refine WP.seq ?_
                  refine WP.block ?_
                  refine WP.seq ?_
                  obtain ⟨c12, h⟩ := chk_some h
                  obtain ⟨r170, r170b, c13, h⟩ := bnd2_some h
                  refine WP.path tab_ok mixed [(169, An.v (T.agg [ti ((List.getD r45 (Int.toNat v28) (0, 0)).1), ti ((List.getD r45 (Int.toNat v28) (0, 0)).2)])), (170, An.call (T.agg [ti r170, ti r170b]))] [.keep [28, 27, 26, 23, 22, 20, 19, 18, 21, 14, 10, 6, 4, 3, 2], .keepO [2021, 2022, 2026, 2027]] (ps := [(0 + 2 ≤ 2), ((0 ≤ v28 ∧ v28 < ((List.length r45 : Nat) : Int))), (2 ≤ List.length (List.drop ((Int.toNat v28) * 2) (List.flatMap pairC r45))), (T.agg (List.take 2 (List.drop ((Int.toNat v28) * 2) (List.flatMap pairC r45))) = T.agg [ti ((List.getD r45 (Int.toNat v28) (0, 0)).1), ti ((List.getD r45 (Int.toNat v28) (0, 0)).2)]), (C Try.prog 120 [T.agg [ti o26, ti o26b], T.agg [ti ((List.getD r45 (Int.toNat v28) (0, 0)).1), ti ((List.getD r45 (Int.toNat v28) (0, 0)).2)]] (T.agg [ti r170, ti r170b])), ((0 + 2 ≤ 2 ∧ 2 = 2))]) (e := .normal) (σ' := ⟨[2021, 2022, 2026, 2027], [(28, vi v28), (27, V.ref 2027 0), (26, V.ref 2026 0), (23, vb r96c), (22, V.ref 2022 0), (20, vi r86c), (19, V.t (T.list (List.length r86b) 2 (List.flatMap askedC r86b))), (18, vi r86), (21, V.ref 2021 0), (14, vi r73), (10, vi r59), (6, V.t (T.list (List.length r45) 2 (List.flatMap pairC r45))), (4, V.t (T.list (List.length r37b) 2 (List.flatMap askedC r37b))), (3, vi r37), (2, vb false)], [(2021, oc 113 [ti r86d, ti r86e]), (2022, oc 49 [ti r96, ti r96b]), (2026, oc 49 [ti r170, ti r170b]), (2027, oc 49 [ti o27, ti o27b])]⟩) (by kernel_rfl) ⟨by decide, c12, fit_pair (i := Int.toNat v28) (by simp) (by omega), at_pair (by simp) (by omega), (F_laws_vPlus_W o26 o26b ((List.getD r45 (Int.toNat v28) (0, 0)).1) ((List.getD r45 (Int.toNat v28) (0, 0)).2) r170 r170b c13), by decide, trivial⟩ ?_
                  obtain ⟨J3, hJ3, h⟩ := jn_some h
                  refine WP.joinA (fun (zz : Int × Int) => ⟨[2021, 2022, 2026, 2027], [(28, vi v28), (27, V.ref 2027 0), (26, V.ref 2026 0), (23, vb r96c), (22, V.ref 2022 0), (20, vi r86c), (19, V.t (T.list (List.length r86b) 2 (List.flatMap askedC r86b))), (18, vi r86), (21, V.ref 2021 0), (14, vi r73), (10, vi r59), (6, V.t (T.list (List.length r45) 2 (List.flatMap pairC r45))), (4, V.t (T.list (List.length r37b) 2 (List.flatMap askedC r37b))), (3, vi r37), (2, vb false)], [(2021, oc 113 [ti r86d, ti r86e]), (2022, oc 49 [ti r96, ti r96b]), (2026, oc 49 [ti r170, ti r170b]), (2027, oc 49 [ti zz.1, ti zz.2])]⟩) (fun zz => J3 zz.1 zz.2 = some y0) ?_ ?_
                  · -- to where they meet
                    refine WP.seq ?_
                    obtain ⟨c14, h⟩ := chk_some h
                    obtain ⟨n174, c15, h⟩ := nam_some h
                    refine WP.path tab_ok mixed [(173, An.v (T.int .i64 (r73 / 2 ^ Int.toNat v28))), (174, An.v (ti n174))] [.keep [175, 28, 27, 26, 23, 22, 20, 19, 18, 21, 14, 10, 6, 4, 3, 2], .keepO [2021, 2022, 2026, 2027]] (ps := [(0 ≤ v28), (T.int .i64 (Int.fdiv r73 (2 ^ (min (Int.toNat v28) 64))) = T.int .i64 (r73 / 2 ^ Int.toNat v28)), (True), (ti (bits .and .i64 (r73 / 2 ^ Int.toNat v28) (1 : Int)) = ti n174), (True)]) (e := .normal) (σ' := ⟨[2021, 2022, 2026, 2027], [(175, vb (n174 == (1 : Int))), (28, vi v28), (27, V.ref 2027 0), (26, V.ref 2026 0), (23, vb r96c), (22, V.ref 2022 0), (20, vi r86c), (19, V.t (T.list (List.length r86b) 2 (List.flatMap askedC r86b))), (18, vi r86), (21, V.ref 2021 0), (14, vi r73), (10, vi r59), (6, V.t (T.list (List.length r45) 2 (List.flatMap pairC r45))), (4, V.t (T.list (List.length r37b) 2 (List.flatMap askedC r37b))), (3, vi r37), (2, vb false)], [(2021, oc 113 [ti r86d, ti r86e]), (2022, oc 49 [ti r96, ti r96b]), (2026, oc 49 [ti r170, ti r170b]), (2027, oc 49 [ti o27, ti o27b])]⟩) (by kernel_rfl) ⟨c14.1, shr_told c14, trivial, congrArg (ti) c15, trivial, trivial⟩ ?_
                    rcases ite_some h with ⟨h14, h⟩ | ⟨h14, h⟩
                    · -- yes
                      refine WP.cond (b := n174 == (1 : Int)) rfl (fun _ => ?_) (fun hh => by rw [h14] at hh; cases hh)
                      obtain ⟨r181, r181b, c16, h⟩ := bnd2_some h
                      refine WP.path tab_ok mixed [(180, An.v (T.agg [ti ((List.getD r45 (Int.toNat v28) (0, 0)).1), ti ((List.getD r45 (Int.toNat v28) (0, 0)).2)])), (181, An.call (T.agg [ti r181, ti r181b]))] [.keep [28, 27, 26, 23, 22, 20, 19, 18, 21, 14, 10, 6, 4, 3, 2], .keepO [2021, 2022, 2026, 2027], .names [(2021, 2021), (2022, 2022), (2026, 2026), (2027, 2027)]] (ps := [(0 + 2 ≤ 2), ((0 ≤ v28 ∧ v28 < ((List.length r45 : Nat) : Int))), (2 ≤ List.length (List.drop ((Int.toNat v28) * 2) (List.flatMap pairC r45))), (T.agg (List.take 2 (List.drop ((Int.toNat v28) * 2) (List.flatMap pairC r45))) = T.agg [ti ((List.getD r45 (Int.toNat v28) (0, 0)).1), ti ((List.getD r45 (Int.toNat v28) (0, 0)).2)]), (C Try.prog 120 [T.agg [ti o27, ti o27b], T.agg [ti ((List.getD r45 (Int.toNat v28) (0, 0)).1), ti ((List.getD r45 (Int.toNat v28) (0, 0)).2)]] (T.agg [ti r181, ti r181b])), ((0 + 2 ≤ 2 ∧ 2 = 2))]) (e := .normal) (σ' := ⟨[2021, 2022, 2026, 2027], [(28, vi v28), (27, V.ref 2027 0), (26, V.ref 2026 0), (23, vb r96c), (22, V.ref 2022 0), (20, vi r86c), (19, V.t (T.list (List.length r86b) 2 (List.flatMap askedC r86b))), (18, vi r86), (21, V.ref 2021 0), (14, vi r73), (10, vi r59), (6, V.t (T.list (List.length r45) 2 (List.flatMap pairC r45))), (4, V.t (T.list (List.length r37b) 2 (List.flatMap askedC r37b))), (3, vi r37), (2, vb false)], [(2021, oc 113 [ti r86d, ti r86e]), (2022, oc 49 [ti r96, ti r96b]), (2026, oc 49 [ti r170, ti r170b]), (2027, oc 49 [ti r181, ti r181b])]⟩) (by kernel_rfl) ⟨by decide, c12, fit_pair (i := Int.toNat v28) (by simp) (by omega), at_pair (by simp) (by omega), (F_laws_vPlus_W o27 o27b ((List.getD r45 (Int.toNat v28) (0, 0)).1) ((List.getD r45 (Int.toNat v28) (0, 0)).2) r181 r181b c16), by decide, trivial⟩ ?_
                      exact ⟨(r181, r181b), h, rfl⟩
                    · -- no
                      refine WP.cond (b := n174 == (1 : Int)) rfl (fun hh => by rw [h14] at hh; cases hh) (fun _ => ?_)
                      refine WP.path tab_ok mixed [] [.keep [28, 27, 26, 23, 22, 20, 19, 18, 21, 14, 10, 6, 4, 3, 2], .keepO [2021, 2022, 2026, 2027], .names [(2021, 2021), (2022, 2022), (2026, 2026), (2027, 2027)]] (ps := []) (e := .normal) (σ' := ⟨[2021, 2022, 2026, 2027], [(28, vi v28), (27, V.ref 2027 0), (26, V.ref 2026 0), (23, vb r96c), (22, V.ref 2022 0), (20, vi r86c), (19, V.t (T.list (List.length r86b) 2 (List.flatMap askedC r86b))), (18, vi r86), (21, V.ref 2021 0), (14, vi r73), (10, vi r59), (6, V.t (T.list (List.length r45) 2 (List.flatMap pairC r45))), (4, V.t (T.list (List.length r37b) 2 (List.flatMap askedC r37b))), (3, vi r37), (2, vb false)], [(2021, oc 113 [ti r86d, ti r86e]), (2022, oc 49 [ti r96, ti r96b]), (2026, oc 49 [ti r170, ti r170b]), (2027, oc 49 [ti o27, ti o27b])]⟩) (by kernel_rfl) trivial ?_
                      exact ⟨(o27, o27b), h, rfl⟩
                  · -- from there
                    rintro ⟨o27c, o27d⟩ h0
                    have h := (show J3 o27c o27d = some y0 from h0)
                    rw [hJ3] at h
                    obtain ⟨J3, hJ3, h⟩ := jn_some h
                    refine WP.joinA (fun (zz : Bool) => ⟨[2021, 2022, 2026, 2027], [(206, vb zz), (28, vi v28), (27, V.ref 2027 0), (26, V.ref 2026 0), (23, vb r96c), (22, V.ref 2022 0), (20, vi r86c), (19, V.t (T.list (List.length r86b) 2 (List.flatMap askedC r86b))), (18, vi r86), (21, V.ref 2021 0), (14, vi r73), (10, vi r59), (6, V.t (T.list (List.length r45) 2 (List.flatMap pairC r45))), (4, V.t (T.list (List.length r37b) 2 (List.flatMap askedC r37b))), (3, vi r37), (2, vb false)], [(2021, oc 113 [ti r86d, ti r86e]), (2022, oc 49 [ti r96, ti r96b]), (2026, oc 49 [ti r170, ti r170b]), (2027, oc 49 [ti o27c, ti o27d])]⟩) (fun zz => J3 zz = some y0) ?_ ?_
                    · -- to where they meet
                      obtain ⟨c14, h⟩ := chk_some h
                      obtain ⟨r190, c15, h⟩ := bnd1_some h
                      rcases ite_some h with ⟨h15, h⟩ | ⟨h15, h⟩
                      · -- yes
                        refine WP.path tab_ok mixed [(185, An.v (T.agg [ti ((List.getD r45 (Int.toNat r59) (0, 0)).1), ti ((List.getD r45 (Int.toNat r59) (0, 0)).2)])), (189, An.v (T.agg [ti ((List.getD r45 (Int.toNat v28) (0, 0)).1), ti ((List.getD r45 (Int.toNat v28) (0, 0)).2)])), (190, An.call (tb r190)), (191, An.b true)] [.keep [206, 28, 27, 26, 23, 22, 20, 19, 18, 21, 14, 10, 6, 4, 3, 2], .keepO [2021, 2022, 2026, 2027], .names [(2021, 2021), (2022, 2022), (2026, 2026), (2027, 2027)]] (ps := [((0 ≤ r59 ∧ r59 < ((List.length r45 : Nat) : Int))), (2 ≤ List.length (List.drop ((Int.toNat r59) * 2) (List.flatMap pairC r45))), (T.agg (List.take 2 (List.drop ((Int.toNat r59) * 2) (List.flatMap pairC r45))) = T.agg [ti ((List.getD r45 (Int.toNat r59) (0, 0)).1), ti ((List.getD r45 (Int.toNat r59) (0, 0)).2)]), ((0 ≤ v28 ∧ v28 < ((List.length r45 : Nat) : Int))), (2 ≤ List.length (List.drop ((Int.toNat v28) * 2) (List.flatMap pairC r45))), (T.agg (List.take 2 (List.drop ((Int.toNat v28) * 2) (List.flatMap pairC r45))) = T.agg [ti ((List.getD r45 (Int.toNat v28) (0, 0)).1), ti ((List.getD r45 (Int.toNat v28) (0, 0)).2)]), (C Try.prog 121 [T.agg [ti ((List.getD r45 (Int.toNat r59) (0, 0)).1), ti ((List.getD r45 (Int.toNat r59) (0, 0)).2)], T.agg [ti ((List.getD r45 (Int.toNat v28) (0, 0)).1), ti ((List.getD r45 (Int.toNat v28) (0, 0)).2)]] (tb r190)), ((r190) = true)]) (e := .normal) (σ' := ⟨[2021, 2022, 2026, 2027], [(206, vb true), (28, vi v28), (27, V.ref 2027 0), (26, V.ref 2026 0), (23, vb r96c), (22, V.ref 2022 0), (20, vi r86c), (19, V.t (T.list (List.length r86b) 2 (List.flatMap askedC r86b))), (18, vi r86), (21, V.ref 2021 0), (14, vi r73), (10, vi r59), (6, V.t (T.list (List.length r45) 2 (List.flatMap pairC r45))), (4, V.t (T.list (List.length r37b) 2 (List.flatMap askedC r37b))), (3, vi r37), (2, vb false)], [(2021, oc 113 [ti r86d, ti r86e]), (2022, oc 49 [ti r96, ti r96b]), (2026, oc 49 [ti r170, ti r170b]), (2027, oc 49 [ti o27c, ti o27d])]⟩) (by kernel_rfl) ⟨c14, fit_pair (i := Int.toNat r59) (by simp) (by omega), at_pair (by simp) (by omega), c12, fit_pair (i := Int.toNat v28) (by simp) (by omega), at_pair (by simp) (by omega), (F_laws_vLess_W ((List.getD r45 (Int.toNat r59) (0, 0)).1) ((List.getD r45 (Int.toNat r59) (0, 0)).2) ((List.getD r45 (Int.toNat v28) (0, 0)).1) ((List.getD r45 (Int.toNat v28) (0, 0)).2) r190 c15), h15, trivial⟩ ?_
                        exact ⟨(true), h, rfl⟩
                      · -- no
                        rcases ite_some h with ⟨h16, h⟩ | ⟨h16, h⟩
                        · -- yes
                          obtain ⟨n204, c16, h⟩ := nam_some h
                          refine WP.path tab_ok mixed [(185, An.v (T.agg [ti ((List.getD r45 (Int.toNat r59) (0, 0)).1), ti ((List.getD r45 (Int.toNat r59) (0, 0)).2)])), (189, An.v (T.agg [ti ((List.getD r45 (Int.toNat v28) (0, 0)).1), ti ((List.getD r45 (Int.toNat v28) (0, 0)).2)])), (190, An.call (tb r190)), (191, An.b false), (194, An.b true), (199, An.v (T.agg [ti ((List.getD r45 (Int.toNat v28) (0, 0)).1), ti ((List.getD r45 (Int.toNat v28) (0, 0)).2)])), (203, An.v (T.agg [ti ((List.getD r45 (Int.toNat r59) (0, 0)).1), ti ((List.getD r45 (Int.toNat r59) (0, 0)).2)])), (204, An.v (tb n204))] [.keep [206, 28, 27, 26, 23, 22, 20, 19, 18, 21, 14, 10, 6, 4, 3, 2], .keepO [2021, 2022, 2026, 2027], .names [(2021, 2021), (2022, 2022), (2026, 2026), (2027, 2027)]] (ps := [((0 ≤ r59 ∧ r59 < ((List.length r45 : Nat) : Int))), (2 ≤ List.length (List.drop ((Int.toNat r59) * 2) (List.flatMap pairC r45))), (T.agg (List.take 2 (List.drop ((Int.toNat r59) * 2) (List.flatMap pairC r45))) = T.agg [ti ((List.getD r45 (Int.toNat r59) (0, 0)).1), ti ((List.getD r45 (Int.toNat r59) (0, 0)).2)]), ((0 ≤ v28 ∧ v28 < ((List.length r45 : Nat) : Int))), (2 ≤ List.length (List.drop ((Int.toNat v28) * 2) (List.flatMap pairC r45))), (T.agg (List.take 2 (List.drop ((Int.toNat v28) * 2) (List.flatMap pairC r45))) = T.agg [ti ((List.getD r45 (Int.toNat v28) (0, 0)).1), ti ((List.getD r45 (Int.toNat v28) (0, 0)).2)]), (C Try.prog 121 [T.agg [ti ((List.getD r45 (Int.toNat r59) (0, 0)).1), ti ((List.getD r45 (Int.toNat r59) (0, 0)).2)], T.agg [ti ((List.getD r45 (Int.toNat v28) (0, 0)).1), ti ((List.getD r45 (Int.toNat v28) (0, 0)).2)]] (tb r190)), ((r190) = false), (True), ((decide (v28 < r59)) = true), ((0 ≤ v28 ∧ v28 < ((List.length r45 : Nat) : Int))), (2 ≤ List.length (List.drop ((Int.toNat v28) * 2) (List.flatMap pairC r45))), (T.agg (List.take 2 (List.drop ((Int.toNat v28) * 2) (List.flatMap pairC r45))) = T.agg [ti ((List.getD r45 (Int.toNat v28) (0, 0)).1), ti ((List.getD r45 (Int.toNat v28) (0, 0)).2)]), ((0 ≤ r59 ∧ r59 < ((List.length r45 : Nat) : Int))), (2 ≤ List.length (List.drop ((Int.toNat r59) * 2) (List.flatMap pairC r45))), (T.agg (List.take 2 (List.drop ((Int.toNat r59) * 2) (List.flatMap pairC r45))) = T.agg [ti ((List.getD r45 (Int.toNat r59) (0, 0)).1), ti ((List.getD r45 (Int.toNat r59) (0, 0)).2)]), (chkEq Try.prog 49 [ti ((List.getD r45 (Int.toNat v28) (0, 0)).1), ti ((List.getD r45 (Int.toNat v28) (0, 0)).2)] = true), (tb ((((List.getD r45 (Int.toNat v28) (0, 0)).1) == ((List.getD r45 (Int.toNat r59) (0, 0)).1)) && ((((List.getD r45 (Int.toNat v28) (0, 0)).2) == ((List.getD r45 (Int.toNat r59) (0, 0)).2)) && (true))) = tb n204)]) (e := .normal) (σ' := ⟨[2021, 2022, 2026, 2027], [(206, vb n204), (28, vi v28), (27, V.ref 2027 0), (26, V.ref 2026 0), (23, vb r96c), (22, V.ref 2022 0), (20, vi r86c), (19, V.t (T.list (List.length r86b) 2 (List.flatMap askedC r86b))), (18, vi r86), (21, V.ref 2021 0), (14, vi r73), (10, vi r59), (6, V.t (T.list (List.length r45) 2 (List.flatMap pairC r45))), (4, V.t (T.list (List.length r37b) 2 (List.flatMap askedC r37b))), (3, vi r37), (2, vb false)], [(2021, oc 113 [ti r86d, ti r86e]), (2022, oc 49 [ti r96, ti r96b]), (2026, oc 49 [ti r170, ti r170b]), (2027, oc 49 [ti o27c, ti o27d])]⟩) (by kernel_rfl) ⟨c14, fit_pair (i := Int.toNat r59) (by simp) (by omega), at_pair (by simp) (by omega), c12, fit_pair (i := Int.toNat v28) (by simp) (by omega), at_pair (by simp) (by omega), (F_laws_vLess_W ((List.getD r45 (Int.toNat r59) (0, 0)).1) ((List.getD r45 (Int.toNat r59) (0, 0)).2) ((List.getD r45 (Int.toNat v28) (0, 0)).1) ((List.getD r45 (Int.toNat v28) (0, 0)).2) r190 c15), h15, trivial, h16, c12, fit_pair (i := Int.toNat v28) (by simp) (by omega), at_pair (by simp) (by omega), c14, fit_pair (i := Int.toNat r59) (by simp) (by omega), at_pair (by simp) (by omega), by kernel_rfl, congrArg (tb) c16, trivial⟩ ?_
                          exact ⟨(n204), h, rfl⟩
                        · -- no
                          refine WP.path tab_ok mixed [(185, An.v (T.agg [ti ((List.getD r45 (Int.toNat r59) (0, 0)).1), ti ((List.getD r45 (Int.toNat r59) (0, 0)).2)])), (189, An.v (T.agg [ti ((List.getD r45 (Int.toNat v28) (0, 0)).1), ti ((List.getD r45 (Int.toNat v28) (0, 0)).2)])), (190, An.call (tb r190)), (191, An.b false), (194, An.b false)] [.keep [206, 28, 27, 26, 23, 22, 20, 19, 18, 21, 14, 10, 6, 4, 3, 2], .keepO [2021, 2022, 2026, 2027], .names [(2021, 2021), (2022, 2022), (2026, 2026), (2027, 2027)]] (ps := [((0 ≤ r59 ∧ r59 < ((List.length r45 : Nat) : Int))), (2 ≤ List.length (List.drop ((Int.toNat r59) * 2) (List.flatMap pairC r45))), (T.agg (List.take 2 (List.drop ((Int.toNat r59) * 2) (List.flatMap pairC r45))) = T.agg [ti ((List.getD r45 (Int.toNat r59) (0, 0)).1), ti ((List.getD r45 (Int.toNat r59) (0, 0)).2)]), ((0 ≤ v28 ∧ v28 < ((List.length r45 : Nat) : Int))), (2 ≤ List.length (List.drop ((Int.toNat v28) * 2) (List.flatMap pairC r45))), (T.agg (List.take 2 (List.drop ((Int.toNat v28) * 2) (List.flatMap pairC r45))) = T.agg [ti ((List.getD r45 (Int.toNat v28) (0, 0)).1), ti ((List.getD r45 (Int.toNat v28) (0, 0)).2)]), (C Try.prog 121 [T.agg [ti ((List.getD r45 (Int.toNat r59) (0, 0)).1), ti ((List.getD r45 (Int.toNat r59) (0, 0)).2)], T.agg [ti ((List.getD r45 (Int.toNat v28) (0, 0)).1), ti ((List.getD r45 (Int.toNat v28) (0, 0)).2)]] (tb r190)), ((r190) = false), (True), ((decide (v28 < r59)) = false)]) (e := .normal) (σ' := ⟨[2021, 2022, 2026, 2027], [(206, vb false), (28, vi v28), (27, V.ref 2027 0), (26, V.ref 2026 0), (23, vb r96c), (22, V.ref 2022 0), (20, vi r86c), (19, V.t (T.list (List.length r86b) 2 (List.flatMap askedC r86b))), (18, vi r86), (21, V.ref 2021 0), (14, vi r73), (10, vi r59), (6, V.t (T.list (List.length r45) 2 (List.flatMap pairC r45))), (4, V.t (T.list (List.length r37b) 2 (List.flatMap askedC r37b))), (3, vi r37), (2, vb false)], [(2021, oc 113 [ti r86d, ti r86e]), (2022, oc 49 [ti r96, ti r96b]), (2026, oc 49 [ti r170, ti r170b]), (2027, oc 49 [ti o27c, ti o27d])]⟩) (by kernel_rfl) ⟨c14, fit_pair (i := Int.toNat r59) (by simp) (by omega), at_pair (by simp) (by omega), c12, fit_pair (i := Int.toNat v28) (by simp) (by omega), at_pair (by simp) (by omega), (F_laws_vLess_W ((List.getD r45 (Int.toNat r59) (0, 0)).1) ((List.getD r45 (Int.toNat r59) (0, 0)).2) ((List.getD r45 (Int.toNat v28) (0, 0)).1) ((List.getD r45 (Int.toNat v28) (0, 0)).2) r190 c15), h15, trivial, h16, trivial⟩ ?_
                          exact ⟨(false), h, rfl⟩
                    · -- from there
                      intro v206 h0
                      have h := (show J3 v206 = some y0 from h0)
                      rw [hJ3] at h
                      rcases ite_some h with ⟨h17, h⟩ | ⟨h17, h⟩
                      · -- yes
                        refine WP.cond (b := v206) rfl (fun _ => ?_) (fun hh => by rw [h17] at hh; cases hh)
                        have h := Option.some.inj h
                        subst h
                        exact WP.pathW tab_ok mixed [] _ (ps := []) (r := tb false) (by kernel_rfl) trivial (WkT.eq (y := tb false) (WkT.refl _) rfl) (fun _ h => h)
                      · -- no
                        refine WP.cond (b := v206) rfl (fun hh => by rw [h17] at hh; cases hh) (fun _ => ?_)
                        refine WP.path tab_ok mixed [] [.keep [28, 27, 26, 23, 22, 20, 19, 18, 21, 14, 10, 6, 4, 3, 2], .keepO [2021, 2022, 2026, 2027]] (ps := []) (e := .normal) (σ' := ⟨[2021, 2022, 2026, 2027], [(28, vi v28), (27, V.ref 2027 0), (26, V.ref 2026 0), (23, vb r96c), (22, V.ref 2022 0), (20, vi r86c), (19, V.t (T.list (List.length r86b) 2 (List.flatMap askedC r86b))), (18, vi r86), (21, V.ref 2021 0), (14, vi r73), (10, vi r59), (6, V.t (T.list (List.length r45) 2 (List.flatMap pairC r45))), (4, V.t (T.list (List.length r37b) 2 (List.flatMap askedC r37b))), (3, vi r37), (2, vb false)], [(2021, oc 113 [ti r86d, ti r86e]), (2022, oc 49 [ti r96, ti r96b]), (2026, oc 49 [ti r170, ti r170b]), (2027, oc 49 [ti o27c, ti o27d])]⟩) (by kernel_rfl) trivial ?_
                        obtain ⟨c14, h⟩ := chk_some h
                        refine WP.path tab_ok mixed [(164, An.v (T.int .i64 (v28 + (1 : Int))))] [.keep [28, 27, 26, 23, 22, 20, 19, 18, 21, 14, 10, 6, 4, 3, 2], .keepO [2021, 2022, 2026, 2027], .names [(2021, 2021), (2022, 2022), (2026, 2026), (2027, 2027)]] (ps := [(True), (T.int .i64 (IntKind.wrap .i64 (v28 + (1 : Int))) = T.int .i64 (v28 + (1 : Int)))]) (e := .normal) (σ' := ⟨[2021, 2022, 2026, 2027], [(28, vi (v28 + (1 : Int))), (27, V.ref 2027 0), (26, V.ref 2026 0), (23, vb r96c), (22, V.ref 2022 0), (20, vi r86c), (19, V.t (T.list (List.length r86b) 2 (List.flatMap askedC r86b))), (18, vi r86), (21, V.ref 2021 0), (14, vi r73), (10, vi r59), (6, V.t (T.list (List.length r45) 2 (List.flatMap pairC r45))), (4, V.t (T.list (List.length r37b) 2 (List.flatMap askedC r37b))), (3, vi r37), (2, vb false)], [(2021, oc 113 [ti r86d, ti r86e]), (2022, oc 49 [ti r96, ti r96b]), (2026, oc 49 [ti r170, ti r170b]), (2027, oc 49 [ti o27c, ti o27d])]⟩) (by kernel_rfl) ⟨trivial, wrapI c14, trivial⟩ ?_
                        exact ⟨(n, r170, r170b, o27c, o27d, (v28 + (1 : Int))), h, Nat.lt_succ_self _, rfl⟩
                · -- no
                  refine WP.cond (b := decide (v28 < ((List.length r45 : Nat) : Int))) rfl (fun hh => by rw [h13] at hh; cases hh) (fun _ => ?_)
                  refine WP.path tab_ok mixed [] [.keep [27, 26, 23, 22, 20, 19, 18, 21, 6, 4, 3, 2], .keepO [2021, 2022, 2026, 2027], .names [(2021, 2021), (2022, 2022), (2026, 2026), (2027, 2027)]] (ps := []) (e := (.exit 0)) (σ' := ⟨[2021, 2022, 2026, 2027], [(27, V.ref 2027 0), (26, V.ref 2026 0), (23, vb r96c), (22, V.ref 2022 0), (20, vi r86c), (19, V.t (T.list (List.length r86b) 2 (List.flatMap askedC r86b))), (18, vi r86), (21, V.ref 2021 0), (6, V.t (T.list (List.length r45) 2 (List.flatMap pairC r45))), (4, V.t (T.list (List.length r37b) 2 (List.flatMap askedC r37b))), (3, vi r37), (2, vb false)], [(2021, oc 113 [ti r86d, ti r86e]), (2022, oc 49 [ti r96, ti r96b]), (2026, oc 49 [ti o26, ti o26b]), (2027, oc 49 [ti o27, ti o27b])]⟩) (by kernel_rfl) trivial ?_
                  exact ⟨(o26, o26b, o27, o27b), h, rfl⟩
            · -- from there
              rintro ⟨o26, o26b, o27, o27b⟩ h0
              have h := (show J2 o26 o26b o27 o27b = some y0 from h0)
              rw [hJ2] at h
              obtain ⟨J2, hJ2, h⟩ := jn_some h
              refine WP.joinA (fun (zz : Bool) => ⟨[2021, 2022], [(233, vb zz), (23, vb r96c), (22, V.ref 2022 0), (20, vi r86c), (19, V.t (T.list (List.length r86b) 2 (List.flatMap askedC r86b))), (18, vi r86), (21, V.ref 2021 0), (2, vb false)], [(2021, oc 113 [ti r86d, ti r86e]), (2022, oc 49 [ti r96, ti r96b])]⟩) (fun zz => J2 zz = some y0) ?_ ?_
              · -- to where they meet
                rcases ite_some h with ⟨h18, h⟩ | ⟨h18, h⟩
                · -- yes
                  refine WP.path tab_ok mixed [(210, An.b true)] [.keep [233, 23, 22, 20, 19, 18, 21, 2], .keepO [2021, 2022], .names [(2021, 2021), (2022, 2022)]] (ps := [(True), ((((List.length r45 : Nat) : Int) != r37) = true)]) (e := .normal) (σ' := ⟨[2021, 2022], [(233, vb true), (23, vb r96c), (22, V.ref 2022 0), (20, vi r86c), (19, V.t (T.list (List.length r86b) 2 (List.flatMap askedC r86b))), (18, vi r86), (21, V.ref 2021 0), (2, vb false)], [(2021, oc 113 [ti r86d, ti r86e]), (2022, oc 49 [ti r96, ti r96b])]⟩) (by kernel_rfl) ⟨trivial, h18, trivial⟩ ?_
                  exact ⟨(true), h, rfl⟩
                · -- no
                  rcases ite_some h with ⟨h19, h⟩ | ⟨h19, h⟩
                  · -- yes
                    refine WP.path tab_ok mixed [(210, An.b false), (214, An.b true)] [.keep [233, 23, 22, 20, 19, 18, 21, 2], .keepO [2021, 2022], .names [(2021, 2021), (2022, 2022)]] (ps := [(True), ((((List.length r45 : Nat) : Int) != r37) = false), (0 + 2 ≤ 2), ((1 = 1 ∧ 0 + 1 ≤ 2) ∧ (1 = 1 ∧ 1 + 1 ≤ 2) ∧ True), (chkEq Try.prog 49 [ti o26, ti o26b] = true), ((!((o26 == (1 : Int)) && ((o26b == (1 : Int)) && (true)))) = true)]) (e := .normal) (σ' := ⟨[2021, 2022], [(233, vb true), (23, vb r96c), (22, V.ref 2022 0), (20, vi r86c), (19, V.t (T.list (List.length r86b) 2 (List.flatMap askedC r86b))), (18, vi r86), (21, V.ref 2021 0), (2, vb false)], [(2021, oc 113 [ti r86d, ti r86e]), (2022, oc 49 [ti r96, ti r96b])]⟩) (by kernel_rfl) ⟨trivial, h18, by decide, ⟨⟨by first | rfl | (simp; done) | (simp []; done) | omega, by first | decide | (simp; done) | (simp []; done) | omega | (simp only [tlL]; omega) | (simp; omega)⟩, ⟨by first | rfl | (simp; done) | (simp []; done) | omega, by first | decide | (simp; done) | (simp []; done) | omega | (simp only [tlL]; omega) | (simp; omega)⟩, trivial⟩, by kernel_rfl, h19, trivial⟩ ?_
                    exact ⟨(true), h, rfl⟩
                  · -- no
                    rcases ite_some h with ⟨h20, h⟩ | ⟨h20, h⟩
                    · -- yes
                      obtain ⟨c12, h⟩ := chk_some h
                      rcases ite_some h with ⟨h21, h⟩ | ⟨h21, h⟩
                      · -- yes
                        refine WP.path tab_ok mixed [(210, An.b false), (214, An.b false), (219, An.b true), (223, An.v (T.agg [ti ((List.getD r45 0 (0, 0)).1), ti ((List.getD r45 0 (0, 0)).2)])), (226, An.b true)] [.keep [233, 23, 22, 20, 19, 18, 21, 2], .keepO [2021, 2022], .names [(2021, 2021), (2022, 2022)]] (ps := [(True), ((((List.length r45 : Nat) : Int) != r37) = false), (0 + 2 ≤ 2), ((1 = 1 ∧ 0 + 1 ≤ 2) ∧ (1 = 1 ∧ 1 + 1 ≤ 2) ∧ True), (chkEq Try.prog 49 [ti o26, ti o26b] = true), ((!((o26 == (1 : Int)) && ((o26b == (1 : Int)) && (true)))) = false), (True), ((((List.length r37b : Nat) : Int) == (0 : Int)) = true), ((0 ≤ (0 : Int) ∧ (0 : Int) < ((List.length r45 : Nat) : Int))), (2 ≤ List.length (List.drop 0 (List.flatMap pairC r45))), (T.agg (List.take 2 (List.drop 0 (List.flatMap pairC r45))) = T.agg [ti ((List.getD r45 0 (0, 0)).1), ti ((List.getD r45 0 (0, 0)).2)]), ((1 = 1 ∧ 0 + 1 ≤ 2) ∧ (1 = 1 ∧ 1 + 1 ≤ 2) ∧ True), (chkEq Try.prog 49 [ti ((List.getD r45 0 (0, 0)).1), ti ((List.getD r45 0 (0, 0)).2)] = true), ((!((((List.getD r45 0 (0, 0)).1) == (1 : Int)) && ((((List.getD r45 0 (0, 0)).2) == r37) && (true)))) = true)]) (e := .normal) (σ' := ⟨[2021, 2022], [(233, vb true), (23, vb r96c), (22, V.ref 2022 0), (20, vi r86c), (19, V.t (T.list (List.length r86b) 2 (List.flatMap askedC r86b))), (18, vi r86), (21, V.ref 2021 0), (2, vb false)], [(2021, oc 113 [ti r86d, ti r86e]), (2022, oc 49 [ti r96, ti r96b])]⟩) (by kernel_rfl) ⟨trivial, h18, by decide, ⟨⟨by first | rfl | (simp; done) | (simp []; done) | omega, by first | decide | (simp; done) | (simp []; done) | omega | (simp only [tlL]; omega) | (simp; omega)⟩, ⟨by first | rfl | (simp; done) | (simp []; done) | omega, by first | decide | (simp; done) | (simp []; done) | omega | (simp only [tlL]; omega) | (simp; omega)⟩, trivial⟩, by kernel_rfl, h19, trivial, h20, c12, fit_pair (i := 0) (by simp) (by omega), at_pair (by simp) (by omega), ⟨⟨by first | rfl | (simp; done) | (simp []; done) | omega, by first | decide | (simp; done) | (simp []; done) | omega | (simp only [tlL]; omega) | (simp; omega)⟩, ⟨by first | rfl | (simp; done) | (simp []; done) | omega, by first | decide | (simp; done) | (simp []; done) | omega | (simp only [tlL]; omega) | (simp; omega)⟩, trivial⟩, by kernel_rfl, h21, trivial⟩ ?_
                        exact ⟨(true), h, rfl⟩
                      · -- no
                        obtain ⟨r232, c13, h⟩ := bnd1_some h
                        refine WP.path tab_ok mixed [(210, An.b false), (214, An.b false), (219, An.b true), (223, An.v (T.agg [ti ((List.getD r45 0 (0, 0)).1), ti ((List.getD r45 0 (0, 0)).2)])), (226, An.b false), (232, An.call (tb r232))] [.keep [233, 23, 22, 20, 19, 18, 21, 2], .keepO [2021, 2022], .names [(2021, 2021), (2022, 2022)]] (ps := [(True), ((((List.length r45 : Nat) : Int) != r37) = false), (0 + 2 ≤ 2), ((1 = 1 ∧ 0 + 1 ≤ 2) ∧ (1 = 1 ∧ 1 + 1 ≤ 2) ∧ True), (chkEq Try.prog 49 [ti o26, ti o26b] = true), ((!((o26 == (1 : Int)) && ((o26b == (1 : Int)) && (true)))) = false), (True), ((((List.length r37b : Nat) : Int) == (0 : Int)) = true), ((0 ≤ (0 : Int) ∧ (0 : Int) < ((List.length r45 : Nat) : Int))), (2 ≤ List.length (List.drop 0 (List.flatMap pairC r45))), (T.agg (List.take 2 (List.drop 0 (List.flatMap pairC r45))) = T.agg [ti ((List.getD r45 0 (0, 0)).1), ti ((List.getD r45 0 (0, 0)).2)]), ((1 = 1 ∧ 0 + 1 ≤ 2) ∧ (1 = 1 ∧ 1 + 1 ≤ 2) ∧ True), (chkEq Try.prog 49 [ti ((List.getD r45 0 (0, 0)).1), ti ((List.getD r45 0 (0, 0)).2)] = true), ((!((((List.getD r45 0 (0, 0)).1) == (1 : Int)) && ((((List.getD r45 0 (0, 0)).2) == r37) && (true)))) = false), ((1 = 1 ∧ 0 + 1 ≤ 2) ∧ (1 = 1 ∧ 1 + 1 ≤ 2) ∧ True), (0 + 2 ≤ 2), (C Try.prog 121 [T.agg [ti 1, ti 1], T.agg [ti o27, ti o27b]] (tb r232))]) (e := .normal) (σ' := ⟨[2021, 2022], [(233, vb r232), (23, vb r96c), (22, V.ref 2022 0), (20, vi r86c), (19, V.t (T.list (List.length r86b) 2 (List.flatMap askedC r86b))), (18, vi r86), (21, V.ref 2021 0), (2, vb false)], [(2021, oc 113 [ti r86d, ti r86e]), (2022, oc 49 [ti r96, ti r96b])]⟩) (by kernel_rfl) ⟨trivial, h18, by decide, ⟨⟨by first | rfl | (simp; done) | (simp []; done) | omega, by first | decide | (simp; done) | (simp []; done) | omega | (simp only [tlL]; omega) | (simp; omega)⟩, ⟨by first | rfl | (simp; done) | (simp []; done) | omega, by first | decide | (simp; done) | (simp []; done) | omega | (simp only [tlL]; omega) | (simp; omega)⟩, trivial⟩, by kernel_rfl, h19, trivial, h20, c12, fit_pair (i := 0) (by simp) (by omega), at_pair (by simp) (by omega), ⟨⟨by first | rfl | (simp; done) | (simp []; done) | omega, by first | decide | (simp; done) | (simp []; done) | omega | (simp only [tlL]; omega) | (simp; omega)⟩, ⟨by first | rfl | (simp; done) | (simp []; done) | omega, by first | decide | (simp; done) | (simp []; done) | omega | (simp only [tlL]; omega) | (simp; omega)⟩, trivial⟩, by kernel_rfl, h21, ⟨⟨by first | rfl | (simp; done) | (simp []; done) | omega, by first | decide | (simp; done) | (simp []; done) | omega | (simp only [tlL]; omega) | (simp; omega)⟩, ⟨by first | rfl | (simp; done) | (simp []; done) | omega, by first | decide | (simp; done) | (simp []; done) | omega | (simp only [tlL]; omega) | (simp; omega)⟩, trivial⟩, by decide, (F_laws_vLess_W (1 : Int) (1 : Int) o27 o27b r232 c13), trivial⟩ ?_
                        exact ⟨(r232), h, rfl⟩
                    · -- no
                      obtain ⟨r232, c12, h⟩ := bnd1_some h
                      refine WP.path tab_ok mixed [(210, An.b false), (214, An.b false), (219, An.b false), (232, An.call (tb r232))] [.keep [233, 23, 22, 20, 19, 18, 21, 2], .keepO [2021, 2022], .names [(2021, 2021), (2022, 2022)]] (ps := [(True), ((((List.length r45 : Nat) : Int) != r37) = false), (0 + 2 ≤ 2), ((1 = 1 ∧ 0 + 1 ≤ 2) ∧ (1 = 1 ∧ 1 + 1 ≤ 2) ∧ True), (chkEq Try.prog 49 [ti o26, ti o26b] = true), ((!((o26 == (1 : Int)) && ((o26b == (1 : Int)) && (true)))) = false), (True), ((((List.length r37b : Nat) : Int) == (0 : Int)) = false), ((1 = 1 ∧ 0 + 1 ≤ 2) ∧ (1 = 1 ∧ 1 + 1 ≤ 2) ∧ True), (0 + 2 ≤ 2), (C Try.prog 121 [T.agg [ti 1, ti 1], T.agg [ti o27, ti o27b]] (tb r232))]) (e := .normal) (σ' := ⟨[2021, 2022], [(233, vb r232), (23, vb r96c), (22, V.ref 2022 0), (20, vi r86c), (19, V.t (T.list (List.length r86b) 2 (List.flatMap askedC r86b))), (18, vi r86), (21, V.ref 2021 0), (2, vb false)], [(2021, oc 113 [ti r86d, ti r86e]), (2022, oc 49 [ti r96, ti r96b])]⟩) (by kernel_rfl) ⟨trivial, h18, by decide, ⟨⟨by first | rfl | (simp; done) | (simp []; done) | omega, by first | decide | (simp; done) | (simp []; done) | omega | (simp only [tlL]; omega) | (simp; omega)⟩, ⟨by first | rfl | (simp; done) | (simp []; done) | omega, by first | decide | (simp; done) | (simp []; done) | omega | (simp only [tlL]; omega) | (simp; omega)⟩, trivial⟩, by kernel_rfl, h19, trivial, h20, ⟨⟨by first | rfl | (simp; done) | (simp []; done) | omega, by first | decide | (simp; done) | (simp []; done) | omega | (simp only [tlL]; omega) | (simp; omega)⟩, ⟨by first | rfl | (simp; done) | (simp []; done) | omega, by first | decide | (simp; done) | (simp []; done) | omega | (simp only [tlL]; omega) | (simp; omega)⟩, trivial⟩, by decide, (F_laws_vLess_W (1 : Int) (1 : Int) o27 o27b r232 c12), trivial⟩ ?_
                      exact ⟨(r232), h, rfl⟩
              · -- from there
                intro v233 h0
                have h := (show J2 v233 = some y0 from h0)
                rw [hJ2] at h
                rcases ite_some h with ⟨h22, h⟩ | ⟨h22, h⟩
                · -- yes
                  refine WP.cond (b := v233) rfl (fun _ => ?_) (fun hh => by rw [h22] at hh; cases hh)
                  have h := Option.some.inj h
                  subst h
                  exact WP.pathW tab_ok mixed [] _ (ps := []) (r := tb false) (by kernel_rfl) trivial (WkT.eq (y := tb false) (WkT.refl _) rfl) (fun _ h => h)
                · -- no
                  refine WP.cond (b := v233) rfl (fun hh => by rw [h22] at hh; cases hh) (fun _ => ?_)
                  refine WP.path tab_ok mixed [] [.keep [23, 22, 20, 19, 18, 21, 2], .keepO [2021, 2022], .names [(2021, 2021), (2022, 2022)]] (ps := []) (e := .normal) (σ' := ⟨[2021, 2022], [(23, vb r96c), (22, V.ref 2022 0), (20, vi r86c), (19, V.t (T.list (List.length r86b) 2 (List.flatMap askedC r86b))), (18, vi r86), (21, V.ref 2021 0), (2, vb false)], [(2021, oc 113 [ti r86d, ti r86e]), (2022, oc 49 [ti r96, ti r96b])]⟩) (by kernel_rfl) trivial ?_
                  exact ⟨(), h, rfl⟩
          · -- no
            refine WP.cond (b := r45b) rfl (fun hh => by rw [h12] at hh; cases hh) (fun _ => ?_)
            refine WP.path tab_ok mixed [] [.keep [23, 22, 20, 19, 18, 21, 2], .keepO [2021, 2022], .names [(2021, 2021), (2022, 2022)]] (ps := []) (e := .normal) (σ' := ⟨[2021, 2022], [(23, vb r96c), (22, V.ref 2022 0), (20, vi r86c), (19, V.t (T.list (List.length r86b) 2 (List.flatMap askedC r86b))), (18, vi r86), (21, V.ref 2021 0), (2, vb false)], [(2021, oc 113 [ti r86d, ti r86e]), (2022, oc 49 [ti r96, ti r96b])]⟩) (by kernel_rfl) trivial ?_
            exact ⟨(), h, rfl⟩
        · -- from there
          intro _ h0
          have h := (show J1 () = some y0 from h0)
          rw [hJ1] at h
          refine WP.seq ?_
          refine WP.seq ?_
          refine WP.path tab_ok mixed [] [.keep [234, 22, 20, 19, 18, 21, 2], .keepO [2021, 2022]] (ps := []) (e := .normal) (σ' := ⟨[2021, 2022], [(234, vb r96c), (22, V.ref 2022 0), (20, vi r86c), (19, V.t (T.list (List.length r86b) 2 (List.flatMap askedC r86b))), (18, vi r86), (21, V.ref 2021 0), (2, vb false)], [(2021, oc 113 [ti r86d, ti r86e]), (2022, oc 49 [ti r96, ti r96b])]⟩) (by kernel_rfl) trivial ?_
          rcases ite_some h with ⟨h23, h⟩ | ⟨h23, h⟩
          · -- yes
            refine WP.cond (b := r96c) rfl (fun _ => ?_) (fun hh => by rw [h23] at hh; cases hh)
            obtain ⟨r246, r246b, r246c, c12, h⟩ := bnd3_some h
            rcases ite_some h with ⟨h24, h⟩ | ⟨h24, h⟩
            · -- yes
              rcases ite_some h with ⟨h25, h⟩ | ⟨h25, h⟩
              · -- yes
                obtain ⟨r256, r256b, c13, h⟩ := bnd2_some h
                have h := Option.some.inj h
                subst h
                exact WP.pathW tab_ok mixed [(238, An.call (T.tup [ti (oqV r86 r86c), tb (isQ r86 r86c)])), (240, An.b true), (246, An.call (T.tup [T.agg [ti r246, ti r246b], tb r246c])), (248, An.b true), (31, An.id 2031), (256, An.call (T.agg [ti r256, ti r256b]))] _ (ps := [(C Try.prog 89 [ti r86, ti r86c] (T.tup [ti (oqV r86 r86c), tb (isQ r86 r86c)])), ((isQ r86 r86c) = true), (0 + 2 ≤ 2), (C Try.prog 117 [ti r86, T.list (List.length r86b) 2 (List.flatMap askedC r86b), ti (oqV r86 r86c), T.agg [ti r86d, ti r86e]] (T.tup [T.agg [ti r246, ti r246b], tb r246c])), ((r246c) = true), ((0 + 2 ≤ 2 ∧ 2 = 2)), (0 + 2 ≤ 2), (0 + 2 ≤ 2), (C Try.prog 120 [T.agg [ti r96, ti r96b], T.agg [ti r246, ti r246b]] (T.agg [ti r256, ti r256b])), ((1 = 1 ∧ 0 + 1 ≤ 2) ∧ (1 = 1 ∧ 1 + 1 ≤ 2) ∧ True), (chkEq Try.prog 49 [ti r256, ti r256b] = true)]) (r := tb ((r256 == (1 : Int)) && ((r256b == (1 : Int)) && (true)))) (by kernel_rfl) ⟨(iOtherQuestion_C r86 r86c), h24, by decide, (F_impl_ChanceYes_W r86 r86b (oqV r86 r86c) r86d r86e r246 r246b r246c c12), h25, by decide, by decide, by decide, (F_laws_vPlus_W r96 r96b r246 r246b r256 r256b c13), ⟨⟨by first | rfl | (simp; done) | (simp []; done) | omega, by first | decide | (simp; done) | (simp []; done) | omega | (simp only [tlL]; omega) | (simp; omega)⟩, ⟨by first | rfl | (simp; done) | (simp []; done) | omega, by first | decide | (simp; done) | (simp []; done) | omega | (simp only [tlL]; omega) | (simp; omega)⟩, trivial⟩, by kernel_rfl, trivial⟩ (WkT.eq (y := tb ((r256 == (1 : Int)) && ((r256b == (1 : Int)) && (true)))) (WkT.refl _) rfl) (fun _ h => h)
              · -- no
                have h := Option.some.inj h
                subst h
                exact WP.pathW tab_ok mixed [(238, An.call (T.tup [ti (oqV r86 r86c), tb (isQ r86 r86c)])), (240, An.b true), (246, An.call (T.tup [T.agg [ti r246, ti r246b], tb r246c])), (248, An.b false), (31, An.id 2031)] _ (ps := [(C Try.prog 89 [ti r86, ti r86c] (T.tup [ti (oqV r86 r86c), tb (isQ r86 r86c)])), ((isQ r86 r86c) = true), (0 + 2 ≤ 2), (C Try.prog 117 [ti r86, T.list (List.length r86b) 2 (List.flatMap askedC r86b), ti (oqV r86 r86c), T.agg [ti r86d, ti r86e]] (T.tup [T.agg [ti r246, ti r246b], tb r246c])), ((r246c) = false), ((0 + 2 ≤ 2 ∧ 2 = 2))]) (r := tb false) (by kernel_rfl) ⟨(iOtherQuestion_C r86 r86c), h24, by decide, (F_impl_ChanceYes_W r86 r86b (oqV r86 r86c) r86d r86e r246 r246b r246c c12), h25, by decide, trivial⟩ (WkT.eq (y := tb false) (WkT.refl _) rfl) (fun _ h => h)
            · -- no
              have h := Option.some.inj h
              subst h
              exact WP.pathW tab_ok mixed [(238, An.call (T.tup [ti (oqV r86 r86c), tb (isQ r86 r86c)])), (240, An.b false), (246, An.call (T.tup [T.agg [ti r246, ti r246b], tb r246c])), (31, An.id 2031)] _ (ps := [(C Try.prog 89 [ti r86, ti r86c] (T.tup [ti (oqV r86 r86c), tb (isQ r86 r86c)])), ((isQ r86 r86c) = false), (0 + 2 ≤ 2), (C Try.prog 117 [ti r86, T.list (List.length r86b) 2 (List.flatMap askedC r86b), ti (oqV r86 r86c), T.agg [ti r86d, ti r86e]] (T.tup [T.agg [ti r246, ti r246b], tb r246c])), ((0 + 2 ≤ 2 ∧ 2 = 2))]) (r := tb false) (by kernel_rfl) ⟨(iOtherQuestion_C r86 r86c), h24, by decide, (F_impl_ChanceYes_W r86 r86b (oqV r86 r86c) r86d r86e r246 r246b r246c c12), by decide, trivial⟩ (WkT.eq (y := tb false) (WkT.refl _) rfl) (fun _ h => h)
          · -- no
            refine WP.cond (b := r96c) rfl (fun hh => by rw [h23] at hh; cases hh) (fun _ => ?_)
            refine WP.path tab_ok mixed [] [.keep [2], .keepO []] (ps := []) (e := .normal) (σ' := ⟨[2021, 2022], [(2, vb false)], []⟩) (by kernel_rfl) trivial ?_
            have h := Option.some.inj h
            subst h
            exact WP.pathW tab_ok mixed [] _ (ps := []) (r := tb true) (by kernel_rfl) trivial (WkT.eq (y := tb true) (WkT.refl _) rfl) (fun _ h => h)

end Go.Proofs.Ytofiecpgfjofdaa.AuAx
