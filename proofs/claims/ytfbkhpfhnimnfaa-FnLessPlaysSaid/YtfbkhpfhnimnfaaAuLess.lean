/-
  The walks: each function of the program returns what the plain function beside it returns. No statement is proved here.
-/
import Derived.Test.YtfbkhpfhnimnfaaTlV
import Derived.Test.YtfbkhpfhnimnfaaTlCI
import Derived.Test.YtfbkhpfhnimnfaaAuLessF
import Derived.Test.YtfbkhpfhnimnfaaProg
import Derived.Test.YtfbkhpfhnimnfaaAuLessO
import Derived.Test.YtfbkhpfhnimnfaaAuLessa
namespace Go.Proofs.Ytfbkhpfhnimnfaa.AuLess
open Go Go.Tl Go.Proofs
open Go.Proofs.Ytfbkhpfhnimnfaa.AuLessO hiding tab tab_ok mixed
open Go.Proofs.Ytfbkhpfhnimnfaa.AuLessa hiding tab tab_ok mixed
set_option linter.unusedVariables false
set_option linter.unusedSimpArgs false
set_option maxRecDepth 100000
def tab : Tab := [(3, ⟨.int .i64, 1, 8, [.int .i64 0]⟩), (4, ⟨.bool, 1, 1, [.bool false]⟩), (5, ⟨.int .u8, 1, 1, [.int .u8 0]⟩), (22, ⟨.slice 5 1 1, 1, 24, [.nils]⟩), (24, ⟨.slice 3 1 8, 1, 24, [.nils]⟩), (26, ⟨.struct [(0, 1, false), (1, 1, false)], 2, 32, [.nils, .int .i64 0]⟩), (29, ⟨.slice 44 2 16, 1, 24, [.nils]⟩), (44, ⟨.struct [(0, 1, false), (1, 1, false)], 2, 16, [.int .i64 0, .bool false]⟩), (67, ⟨.pointer 70, 1, 8, [.nilp]⟩), (68, ⟨.int .u64, 1, 8, [.int .u64 0]⟩), (70, ⟨.struct [(0, 1, false), (1, 1, false), (2, 1, false)], 3, 40, [.nils, .int .i64 0, .int .u64 0]⟩), (77, ⟨.map 3 3, 1, 8, [.nilm]⟩), (79, ⟨.struct [(0, 1, false)], 1, 8, [.nilm]⟩), (133, ⟨.array 2 26 2 true, 4, 64, [.nils, .int .i64 0, .nils, .int .i64 0]⟩)]
theorem tab_ok : chkTab Try.prog tab = true := by kernel_rfl
theorem mixed : Try.prog.follows .mixedOrders = true := by kernel_rfl
theorem F_spec_LessPlay_W (x0 : List Int) (x1 : Int) (x2 : Int) (x3 : Int) (y0 : List (Int × Bool)) (y1 : Bool) (h : F_spec_LessPlay x0 x1 x2 x3 = some (y0, y1)) : CG Try.prog 9 [V.t (T.agg [tl x0, ti x1]), vi x2, vi x3] [] (V.tup [V.own 9000 2 (List.length y0), vb y1]) [(9000, oc 44 (List.flatMap askedC y0))] := by
  unfold F_spec_LessPlay at h
  refine CG.intro (tab := tab) tab_ok (fn := Try.f9) Try.func9 (by kernel_rfl) rfl (Nat.le_of_ble_eq_true rfl) (by kernel_rfl) ?_
  refine WP.seq ?_
  refine WP.path tab_ok mixed [(3, An.id 2003)] [.keep [7, 6, 3, 1, 2], .keepO [2003]] (ps := []) (e := .normal) (σ' := ⟨[2003], [(7, vb false), (6, V.t (T.nils)), (3, V.ref 2003 0), (1, vi x2), (2, vi x3)], [(2003, oc 26 [tl x0, ti x1])]⟩) (by kernel_rfl) trivial ?_
  refine WP.seq ?_
  refine WP.path tab_ok mixed [(12, An.id 2012)] [.keep [8, 7, 6, 3, 1, 2], .keepO [2003, 2012]] (ps := [(True), (0 = 0 * 2)]) (e := .normal) (σ' := ⟨[2012, 2003], [(8, V.own 2012 2 0), (7, vb false), (6, V.t (T.nils)), (3, V.ref 2003 0), (1, vi x2), (2, vi x3)], [(2003, oc 26 [tl x0, ti x1]), (2012, oc 44 [])]⟩) (by kernel_rfl) ⟨trivial, by decide, trivial⟩ ?_
  refine WP.seq ?_
  obtain ⟨J1, hJ1, h⟩ := jn_some h
  refine WP.joinA (fun (zz : Bool) => ⟨[2003, 2012], [(50, vb zz), (8, V.own 2012 2 0), (7, vb false), (6, V.t (T.nils)), (3, V.ref 2003 0), (1, vi x2), (2, vi x3)], [(2003, oc 26 [tl x0, ti x1]), (2012, oc 44 [])]⟩) (fun zz => J1 zz = some (y0, y1)) ?_ ?_
  · -- to where they meet
    obtain ⟨c0, h⟩ := chk_some h
    rcases ite_some h with ⟨h1, h⟩ | ⟨h1, h⟩
    · -- yes
      refine WP.path tab_ok mixed [(14, An.call (tb (shortN x0 x1))), (16, An.b true)] [.keep [50, 8, 7, 6, 3, 1, 2], .keepO [2003, 2012], .names [(2003, 2003), (2012, 2012)]] (ps := [(0 + 2 ≤ 2), (C Try.prog 63 [T.agg [tl x0, ti x1]] (tb (shortN x0 x1))), ((!(shortN x0 x1)) = true)]) (e := .normal) (σ' := ⟨[2003, 2012], [(50, vb true), (8, V.own 2012 2 0), (7, vb false), (6, V.t (T.nils)), (3, V.ref 2003 0), (1, vi x2), (2, vi x3)], [(2003, oc 26 [tl x0, ti x1]), (2012, oc 44 [])]⟩) (by kernel_rfl) ⟨by decide, (l6Short_C x0 x1 c0), h1, trivial⟩ ?_
      exact ⟨(true), h, rfl⟩
    · -- no
      obtain ⟨c1, h⟩ := chk_some h
      obtain ⟨n21, c2, h⟩ := nam_some h
      rcases ite_some h with ⟨h2, h⟩ | ⟨h2, h⟩
      · -- yes
        refine WP.path tab_ok mixed [(14, An.call (tb (shortN x0 x1))), (16, An.b false), (21, An.v (ti n21)), (22, An.call (tb (decide (x2 ≥ (0 : Int)) && decide (x2 ≤ n21)))), (25, An.b true)] [.keep [50, 8, 7, 6, 3, 1, 2], .keepO [2003, 2012], .names [(2003, 2003), (2012, 2012)]] (ps := [(0 + 2 ≤ 2), (C Try.prog 63 [T.agg [tl x0, ti x1]] (tb (shortN x0 x1))), ((!(shortN x0 x1)) = false), (True), (True), (T.int .i64 (IntKind.wrap .i64 (((List.length x0 : Nat) : Int) - (1 : Int))) = ti n21), (C Try.prog 64 [ti x2, ti 0, ti n21] (tb (decide (x2 ≥ (0 : Int)) && decide (x2 ≤ n21)))), ((!(decide (x2 ≥ (0 : Int)) && decide (x2 ≤ n21))) = true)]) (e := .normal) (σ' := ⟨[2003, 2012], [(50, vb true), (8, V.own 2012 2 0), (7, vb false), (6, V.t (T.nils)), (3, V.ref 2003 0), (1, vi x2), (2, vi x3)], [(2003, oc 26 [tl x0, ti x1]), (2012, oc 44 [])]⟩) (by kernel_rfl) ⟨by decide, (l6Short_C x0 x1 c0), h1, trivial, trivial, Eq.trans (wrapI c1) (congrArg (ti) c2), (by have hh := (l1In_C x2 (0 : Int) n21); first | exact hh | simpa using hh), h2, trivial⟩ ?_
        exact ⟨(true), h, rfl⟩
      · -- no
        obtain ⟨c3, h⟩ := chk_some h
        rcases ite_some h with ⟨h3, h⟩ | ⟨h3, h⟩
        · -- yes
          refine WP.path tab_ok mixed [(14, An.call (tb (shortN x0 x1))), (16, An.b false), (21, An.v (ti n21)), (22, An.call (tb (decide (x2 ≥ (0 : Int)) && decide (x2 ≤ n21)))), (25, An.b false), (30, An.v (ti (List.getD x0 (Int.toNat x2) 0))), (31, An.b true)] [.keep [50, 8, 7, 6, 3, 1, 2], .keepO [2003, 2012], .names [(2003, 2003), (2012, 2012)]] (ps := [(0 + 2 ≤ 2), (C Try.prog 63 [T.agg [tl x0, ti x1]] (tb (shortN x0 x1))), ((!(shortN x0 x1)) = false), (True), (True), (T.int .i64 (IntKind.wrap .i64 (((List.length x0 : Nat) : Int) - (1 : Int))) = ti n21), (C Try.prog 64 [ti x2, ti 0, ti n21] (tb (decide (x2 ≥ (0 : Int)) && decide (x2 ≤ n21)))), ((!(decide (x2 ≥ (0 : Int)) && decide (x2 ≤ n21))) = false), (True), ((0 ≤ x2 ∧ x2 < ((List.length x0 : Nat) : Int))), ((List.drop ((Int.toNat x2) * 1) (List.map (T.int .i64) x0) : List T)[0]? = some (ti (List.getD x0 (Int.toNat x2) 0))), (ti (List.getD x0 (Int.toNat x2) 0) = ti (List.getD x0 (Int.toNat x2) 0)), (True), ((decide ((List.getD x0 (Int.toNat x2) 0) < (0 : Int))) = true)]) (e := .normal) (σ' := ⟨[2003, 2012], [(50, vb true), (8, V.own 2012 2 0), (7, vb false), (6, V.t (T.nils)), (3, V.ref 2003 0), (1, vi x2), (2, vi x3)], [(2003, oc 26 [tl x0, ti x1]), (2012, oc 44 [])]⟩) (by kernel_rfl) ⟨by decide, (l6Short_C x0 x1 c0), h1, trivial, trivial, Eq.trans (wrapI c1) (congrArg (ti) c2), (by have hh := (l1In_C x2 (0 : Int) n21); first | exact hh | simpa using hh), h2, trivial, c3, at1 (by simp) (by omega), rfl, trivial, h3, trivial⟩ ?_
          exact ⟨(true), h, rfl⟩
        · -- no
          rcases ite_some h with ⟨h4, h⟩ | ⟨h4, h⟩
          · -- yes
            refine WP.path tab_ok mixed [(14, An.call (tb (shortN x0 x1))), (16, An.b false), (21, An.v (ti n21)), (22, An.call (tb (decide (x2 ≥ (0 : Int)) && decide (x2 ≤ n21)))), (25, An.b false), (30, An.v (ti (List.getD x0 (Int.toNat x2) 0))), (31, An.b false), (35, An.b true)] [.keep [50, 8, 7, 6, 3, 1, 2], .keepO [2003, 2012], .names [(2003, 2003), (2012, 2012)]] (ps := [(0 + 2 ≤ 2), (C Try.prog 63 [T.agg [tl x0, ti x1]] (tb (shortN x0 x1))), ((!(shortN x0 x1)) = false), (True), (True), (T.int .i64 (IntKind.wrap .i64 (((List.length x0 : Nat) : Int) - (1 : Int))) = ti n21), (C Try.prog 64 [ti x2, ti 0, ti n21] (tb (decide (x2 ≥ (0 : Int)) && decide (x2 ≤ n21)))), ((!(decide (x2 ≥ (0 : Int)) && decide (x2 ≤ n21))) = false), (True), ((0 ≤ x2 ∧ x2 < ((List.length x0 : Nat) : Int))), ((List.drop ((Int.toNat x2) * 1) (List.map (T.int .i64) x0) : List T)[0]? = some (ti (List.getD x0 (Int.toNat x2) 0))), (ti (List.getD x0 (Int.toNat x2) 0) = ti (List.getD x0 (Int.toNat x2) 0)), (True), ((decide ((List.getD x0 (Int.toNat x2) 0) < (0 : Int))) = false), (True), ((decide (x3 < (-1 : Int))) = true)]) (e := .normal) (σ' := ⟨[2003, 2012], [(50, vb true), (8, V.own 2012 2 0), (7, vb false), (6, V.t (T.nils)), (3, V.ref 2003 0), (1, vi x2), (2, vi x3)], [(2003, oc 26 [tl x0, ti x1]), (2012, oc 44 [])]⟩) (by kernel_rfl) ⟨by decide, (l6Short_C x0 x1 c0), h1, trivial, trivial, Eq.trans (wrapI c1) (congrArg (ti) c2), (by have hh := (l1In_C x2 (0 : Int) n21); first | exact hh | simpa using hh), h2, trivial, c3, at1 (by simp) (by omega), rfl, trivial, h3, trivial, h4, trivial⟩ ?_
            exact ⟨(true), h, rfl⟩
          · -- no
            rcases ite_some h with ⟨h5, h⟩ | ⟨h5, h⟩
            · -- yes
              refine WP.path tab_ok mixed [(14, An.call (tb (shortN x0 x1))), (16, An.b false), (21, An.v (ti n21)), (22, An.call (tb (decide (x2 ≥ (0 : Int)) && decide (x2 ≤ n21)))), (25, An.b false), (30, An.v (ti (List.getD x0 (Int.toNat x2) 0))), (31, An.b false), (35, An.b false), (39, An.b true), (45, An.v (ti (List.getD x0 (Int.toNat x2) 0)))] [.keep [50, 8, 7, 6, 3, 1, 2], .keepO [2003, 2012], .names [(2003, 2003), (2012, 2012)]] (ps := [(0 + 2 ≤ 2), (C Try.prog 63 [T.agg [tl x0, ti x1]] (tb (shortN x0 x1))), ((!(shortN x0 x1)) = false), (True), (True), (T.int .i64 (IntKind.wrap .i64 (((List.length x0 : Nat) : Int) - (1 : Int))) = ti n21), (C Try.prog 64 [ti x2, ti 0, ti n21] (tb (decide (x2 ≥ (0 : Int)) && decide (x2 ≤ n21)))), ((!(decide (x2 ≥ (0 : Int)) && decide (x2 ≤ n21))) = false), (True), ((0 ≤ x2 ∧ x2 < ((List.length x0 : Nat) : Int))), ((List.drop ((Int.toNat x2) * 1) (List.map (T.int .i64) x0) : List T)[0]? = some (ti (List.getD x0 (Int.toNat x2) 0))), (ti (List.getD x0 (Int.toNat x2) 0) = ti (List.getD x0 (Int.toNat x2) 0)), (True), ((decide ((List.getD x0 (Int.toNat x2) 0) < (0 : Int))) = false), (True), ((decide (x3 < (-1 : Int))) = false), (True), ((decide (x3 ≥ (0 : Int))) = true), (True), ((0 ≤ x2 ∧ x2 < ((List.length x0 : Nat) : Int))), ((List.drop ((Int.toNat x2) * 1) (List.map (T.int .i64) x0) : List T)[0]? = some (ti (List.getD x0 (Int.toNat x2) 0))), (ti (List.getD x0 (Int.toNat x2) 0) = ti (List.getD x0 (Int.toNat x2) 0)), (True), (True)]) (e := .normal) (σ' := ⟨[2003, 2012], [(50, vb (decide ((List.getD x0 (Int.toNat x2) 0) ≥ x1))), (8, V.own 2012 2 0), (7, vb false), (6, V.t (T.nils)), (3, V.ref 2003 0), (1, vi x2), (2, vi x3)], [(2003, oc 26 [tl x0, ti x1]), (2012, oc 44 [])]⟩) (by kernel_rfl) ⟨by decide, (l6Short_C x0 x1 c0), h1, trivial, trivial, Eq.trans (wrapI c1) (congrArg (ti) c2), (by have hh := (l1In_C x2 (0 : Int) n21); first | exact hh | simpa using hh), h2, trivial, c3, at1 (by simp) (by omega), rfl, trivial, h3, trivial, h4, trivial, h5, trivial, c3, at1 (by simp) (by omega), rfl, trivial, trivial, trivial⟩ ?_
              exact ⟨(decide ((List.getD x0 (Int.toNat x2) 0) ≥ x1)), h, rfl⟩
            · -- no
              refine WP.path tab_ok mixed [(14, An.call (tb (shortN x0 x1))), (16, An.b false), (21, An.v (ti n21)), (22, An.call (tb (decide (x2 ≥ (0 : Int)) && decide (x2 ≤ n21)))), (25, An.b false), (30, An.v (ti (List.getD x0 (Int.toNat x2) 0))), (31, An.b false), (35, An.b false), (39, An.b false)] [.keep [50, 8, 7, 6, 3, 1, 2], .keepO [2003, 2012], .names [(2003, 2003), (2012, 2012)]] (ps := [(0 + 2 ≤ 2), (C Try.prog 63 [T.agg [tl x0, ti x1]] (tb (shortN x0 x1))), ((!(shortN x0 x1)) = false), (True), (True), (T.int .i64 (IntKind.wrap .i64 (((List.length x0 : Nat) : Int) - (1 : Int))) = ti n21), (C Try.prog 64 [ti x2, ti 0, ti n21] (tb (decide (x2 ≥ (0 : Int)) && decide (x2 ≤ n21)))), ((!(decide (x2 ≥ (0 : Int)) && decide (x2 ≤ n21))) = false), (True), ((0 ≤ x2 ∧ x2 < ((List.length x0 : Nat) : Int))), ((List.drop ((Int.toNat x2) * 1) (List.map (T.int .i64) x0) : List T)[0]? = some (ti (List.getD x0 (Int.toNat x2) 0))), (ti (List.getD x0 (Int.toNat x2) 0) = ti (List.getD x0 (Int.toNat x2) 0)), (True), ((decide ((List.getD x0 (Int.toNat x2) 0) < (0 : Int))) = false), (True), ((decide (x3 < (-1 : Int))) = false), (True), ((decide (x3 ≥ (0 : Int))) = false)]) (e := .normal) (σ' := ⟨[2003, 2012], [(50, vb false), (8, V.own 2012 2 0), (7, vb false), (6, V.t (T.nils)), (3, V.ref 2003 0), (1, vi x2), (2, vi x3)], [(2003, oc 26 [tl x0, ti x1]), (2012, oc 44 [])]⟩) (by kernel_rfl) ⟨by decide, (l6Short_C x0 x1 c0), h1, trivial, trivial, Eq.trans (wrapI c1) (congrArg (ti) c2), (by have hh := (l1In_C x2 (0 : Int) n21); first | exact hh | simpa using hh), h2, trivial, c3, at1 (by simp) (by omega), rfl, trivial, h3, trivial, h4, trivial, h5, trivial⟩ ?_
              exact ⟨(false), h, rfl⟩
  · -- from there
    intro v50 h0
    have h := (show J1 v50 = some (y0, y1) from h0)
    rw [hJ1] at h
    rcases ite_some h with ⟨h6, h⟩ | ⟨h6, h⟩
    · -- yes
      refine WP.cond (b := v50) rfl (fun _ => ?_) (fun hh => by rw [h6] at hh; cases hh)
      simp only [Option.some.injEq, Prod.mk.injEq] at h
      obtain ⟨rfl, rfl⟩ := h
      exact WP.pathG tab_ok mixed [] [.keep [6, 7], .keepO [2012], .names [(2012, 9000)]] [9000] _ (r' := V.tup [V.own 9000 2 (List.length []), vb false]) (ps := []) (r := V.tup [V.own 9000 2 0, vb false]) (N := [9000]) (O := [(9000, oc 44 [])]) [] (by kernel_rfl) trivial ⟨(congrArg (V.own 9000 2) (by first | rfl | (simp only [tlS, tl, vl, vo, oc, ov, tbl, vbl, ty, vy] <;> rfl) | (simp <;> omega) | (simp []; done) | (rw [List.take_of_length_le (by simp [])] <;> rfl))), (WkT.refl _), trivial⟩ rfl (by first | rfl | (simp only [tlS, tl, vl, vo, oc, ov, tbl, vbl, ty, vy] <;> rfl) | (simp <;> omega) | (simp []; done) | (rw [List.take_of_length_le (by simp [])] <;> rfl)) (fun _ h => h)
    · -- no
      refine WP.cond (b := v50) rfl (fun hh => by rw [h6] at hh; cases hh) (fun _ => ?_)
      refine WP.path tab_ok mixed [] [.keep [8, 7, 6, 3, 1, 2], .keepO [2003, 2012]] (ps := []) (e := .normal) (σ' := ⟨[2003, 2012], [(8, V.own 2012 2 0), (7, vb false), (6, V.t (T.nils)), (3, V.ref 2003 0), (1, vi x2), (2, vi x3)], [(2003, oc 26 [tl x0, ti x1]), (2012, oc 44 [])]⟩) (by kernel_rfl) trivial ?_
      refine WP.seq ?_
      obtain ⟨r57, c0, h⟩ := bnd1_some h
      refine WP.path tab_ok mixed [(57, An.callG [(9000, 10570)] [vi ((List.length x0 : Nat) : Int), vi x1] [] (vo 9000 (List.length r57)) [(9000, oc 3 (List.map (T.int .i64) r57))])] [.keep [9, 8, 7, 6, 3, 1, 2], .keepO [2003, 2012, 10570]] (ps := [(True), (True), (CG Try.prog 65 [vi ((List.length x0 : Nat) : Int), vi x1] [] (vo 9000 (List.length r57)) [(9000, oc 3 (List.map (T.int .i64) r57))]), (WkT (ti ((List.length x0 : Nat) : Int)) (ti ((List.length x0 : Nat) : Int))), (WkT (ti x1) (ti x1))]) (e := .normal) (σ' := ⟨[10570, 2003, 2012], [(9, vo 10570 (List.length r57)), (8, V.own 2012 2 0), (7, vb false), (6, V.t (T.nils)), (3, V.ref 2003 0), (1, vi x2), (2, vi x3)], [(2003, oc 26 [tl x0, ti x1]), (2012, oc 44 []), (10570, oc 3 (List.map (T.int .i64) r57))]⟩) (by kernel_rfl) ⟨trivial, trivial, (F_spec_l6Needs_W ((List.length x0 : Nat) : Int) x1 r57 c0), WkT.refl _, WkT.refl _, trivial⟩ ?_
      obtain ⟨J1, hJ1, h⟩ := jn_some h
      refine WP.joinA (fun (zz : (List (Int × Bool))) => ⟨[2012], [(8, V.own 2012 2 (List.length zz)), (7, vb false), (6, V.t (T.nils)), (2, vi x3)], [(2012, oc 44 (List.flatMap askedC zz))]⟩) (fun zz => J1 zz = some (y0, y1)) ?_ ?_
      · -- to where they meet
        refine WP.block ?_
        refine WP.wk [.keep [9, 8, 7, 6, 3, 1, 2], .keepO [2003, 2012, 10570], .names [(2003, 2003), (2012, 2012), (10570, 10570)]] (σ' := ⟨[2003, 2012, 10570], [(9, vo 10570 (List.length r57)), (8, V.own 2012 2 0), (7, vb false), (6, V.t (T.nils)), (3, V.ref 2003 0), (1, vi x2), (2, vi x3)], [(2003, oc 26 [tl x0, ti x1]), (2012, oc 44 []), (10570, oc 3 (List.map (T.int .i64) r57))]⟩) (ps := []) (by kernel_rfl) trivial ?_
        refine WP.st (σ' := ⟨[2003, 2012, 10570], [(9, vo 10570 (List.length r57)), (8, V.own 2012 2 (List.length ([] : List (Int × Bool)))), (7, vb false), (6, V.t (T.nils)), (3, V.ref 2003 0), (1, vi x2), (2, vi x3)], [(2003, oc 26 [tl x0, ti x1]), (2012, oc 44 (List.flatMap askedC ([] : List (Int × Bool)))), (10570, oc 3 (List.map (T.int .i64) r57))]⟩) (by first | rfl | (simp only [tlS, tl, vl, vo, oc, ov, tbl, vbl, ty, vy] <;> rfl) | (simp <;> omega) | (simp []; done) | (rw [List.take_of_length_le (by simp [])] <;> rfl)) ?_
        refine WP.loop (α := Nat × (List Int) × Int × (List (Int × Bool))) (fun zz => ⟨[2003, 2012, 10570], [(9, vo 10570 (List.length r57)), (8, V.own 2012 2 (List.length zz.2.2.2)), (7, vb false), (6, V.t (T.nils)), (3, V.ref 2003 0), (1, vi x2), (2, vi x3)], [(2003, oc 26 [tl zz.2.1, ti zz.2.2.1]), (2012, oc 44 (List.flatMap askedC zz.2.2.2)), (10570, oc 3 (List.map (T.int .i64) r57))]⟩) (fun zz => F_spec_LessPlay_L1 x2 x3 r57 J1 zz.1 zz.2.1 zz.2.2.1 zz.2.2.2 = some (y0, y1)) (fun zz => zz.1) (fuel, x0, x1, ([] : List (Int × Bool))) h ?_
        rintro ⟨n, o3, o3b, o12⟩ h0
        have h := (show F_spec_LessPlay_L1 x2 x3 r57 J1 n o3 o3b o12 = some (y0, y1) from h0)
        rcases n with _ | n
        · rw [F_spec_LessPlay_L1] at h; cases h
        · rw [F_spec_LessPlay_L1] at h
          refine WP.seq ?_
          refine WP.seq ?_
          obtain ⟨c1, h⟩ := chk_some h
          refine WP.path tab_ok mixed [(59, An.call (tb (decide (((List.length (openN o3) : Nat) : Int) < (2 : Int)))))] [.keep [60, 9, 8, 7, 6, 3, 1, 2], .keepO [2003, 2012, 10570]] (ps := [(0 + 2 ≤ 2), (C Try.prog 66 [T.agg [tl o3, ti o3b]] (tb (decide (((List.length (openN o3) : Nat) : Int) < (2 : Int)))))]) (e := .normal) (σ' := ⟨[2003, 2012, 10570], [(60, vb (!(decide (((List.length (openN o3) : Nat) : Int) < (2 : Int))))), (9, vo 10570 (List.length r57)), (8, V.own 2012 2 (List.length o12)), (7, vb false), (6, V.t (T.nils)), (3, V.ref 2003 0), (1, vi x2), (2, vi x3)], [(2003, oc 26 [tl o3, ti o3b]), (2012, oc 44 (List.flatMap askedC o12)), (10570, oc 3 (List.map (T.int .i64) r57))]⟩) (by kernel_rfl) ⟨by decide, (l6Done_C o3 o3b c1), trivial⟩ ?_
          rcases ite_some h with ⟨h7, h⟩ | ⟨h7, h⟩
          · -- yes
            refine WP.cond (b := !(decide (((List.length (openN o3) : Nat) : Int) < (2 : Int)))) rfl (fun _ => ?_) (fun hh => by rw [h7] at hh; cases hh)
            refine WP.path tab_ok mixed [] [.keep [9, 8, 7, 6, 3, 1, 2], .keepO [2003, 2012, 10570]] (ps := []) (e := .normal) (σ' := ⟨[2003, 2012, 10570], [(9, vo 10570 (List.length r57)), (8, V.own 2012 2 (List.length o12)), (7, vb false), (6, V.t (T.nils)), (3, V.ref 2003 0), (1, vi x2), (2, vi x3)], [(2003, oc 26 [tl o3, ti o3b]), (2012, oc 44 (List.flatMap askedC o12)), (10570, oc 3 (List.map (T.int .i64) r57))]⟩) (by kernel_rfl) trivial ?_
            refine WP.block ?_
            obtain ⟨r63, c2, h⟩ := bnd1_some h
            obtain ⟨c3, h⟩ := chk_some h
            obtain ⟨c4, h⟩ := chk_some h
            obtain ⟨n75, c5, h⟩ := nam_some h
            obtain ⟨c6, h⟩ := chk_some h
            obtain ⟨r83, r83b, c7, h⟩ := bnd2_some h
            refine WP.path tab_ok mixed [(63, An.call (ti r63)), (74, An.v (T.int .i64 ((1 : Int) * 2 ^ Int.toNat r63))), (75, An.v (ti n75)), (78, An.fz), (79, An.id 2079), (83, An.call (T.agg [tl r83, ti r83b]))] [.keep [9, 8, 7, 6, 3, 1, 2], .keepO [2003, 2079, 10570], .names [(2003, 2003), (2079, 2012), (10570, 10570)]] (ps := [(0 + 2 ≤ 2), (C Try.prog 67 [T.agg [tl o3, ti o3b], tl r57] (ti r63)), (List.length (List.map (T.int .i64) r57) = (List.length r57) * 1), (True), (True), (True), (0 ≤ r63), (T.int .i64 (IntKind.wrap .i64 ((1 : Int) * 2 ^ (min (Int.toNat r63) 64))) = T.int .i64 ((1 : Int) * 2 ^ Int.toNat r63)), (True), (T.int .i64 (IntKind.wrap .i64 (((1 : Int) * 2 ^ Int.toNat r63) - (1 : Int))) = ti n75), ((1 = 1 ∧ 0 + 1 ≤ 2) ∧ (1 = 1 ∧ 1 + 1 ≤ 2) ∧ True), ((2 = 2 ∧ 0 + 2 ≤ 2) ∧ True), (2 = 1 * 2), (True), (List.length (List.flatMap askedC o12) = (List.length o12) * 2), ((((List.length o12) + 1) * 16 ≤ 140737488355328 ∧ (List.length o12) + 1 ≤ maxLen)), (0 + 2 ≤ 2), (C Try.prog 68 [T.agg [tl o3, ti o3b], ti r63, tb (!((decide (x2 < r63)) == (((List.length o12 : Nat) : Int) == x3)))] (T.agg [tl r83, ti r83b])), ((0 + 2 ≤ 2 ∧ 2 = 2))]) (e := .normal) (σ' := ⟨[2003, 2012, 10570], [(9, vo 10570 (List.length r57)), (8, V.own 2012 2 ((List.length o12) + 1)), (7, vb false), (6, V.t (T.nils)), (3, V.ref 2003 0), (1, vi x2), (2, vi x3)], [(2003, oc 26 [tl r83, ti r83b]), (2012, oc 44 ((List.flatMap askedC o12) ++ [ti n75, tb (!((decide (x2 < r63)) == (((List.length o12 : Nat) : Int) == x3)))])), (10570, oc 3 (List.map (T.int .i64) r57))]⟩) (by kernel_rfl) ⟨by decide, (F_spec_l6Best_W o3 o3b r57 r63 c2), by first | rfl | omega | (simp only [tlL] <;> omega) | (simp <;> omega) | (simp [] <;> omega), trivial, trivial, trivial, c3.1, shl_told c3, trivial, Eq.trans (wrapI c4) (congrArg (ti) c5), ⟨⟨by first | rfl | (simp; done) | (simp []; done) | omega, by first | decide | (simp; done) | (simp []; done) | omega | (simp only [tlL]; omega) | (simp; omega)⟩, ⟨by first | rfl | (simp; done) | (simp []; done) | omega, by first | decide | (simp; done) | (simp []; done) | omega | (simp only [tlL]; omega) | (simp; omega)⟩, trivial⟩, ⟨⟨by first | rfl | (simp; done) | (simp []; done) | omega, by first | decide | (simp; done) | (simp []; done) | omega | (simp only [tlL]; omega) | (simp; omega)⟩, trivial⟩, by decide, trivial, by first | exact len_asked _ | (rw [len_asked]; first | done | omega | (simp; done) | (simp only [tlL]; omega) | (simp; omega)), c6, by decide, (F_spec_l6After_W_C o3 o3b r63 (!((decide (x2 < r63)) == (((List.length o12 : Nat) : Int) == x3))) r83 r83b c7), by decide, trivial⟩ ?_
            exact ⟨(n, r83, r83b, o12 ++ [(n75, !((decide (x2 < r63)) == (((List.length o12 : Nat) : Int) == x3)))]), h, Nat.lt_succ_self _, (by first | rfl | (simp only [tlS, tl, vl, vo, oc, ov, tbl, vbl, ty, vy] <;> rfl) | (simp <;> omega) | (simp []; done) | (rw [List.take_of_length_le (by simp [])] <;> rfl))⟩
          · -- no
            refine WP.cond (b := !(decide (((List.length (openN o3) : Nat) : Int) < (2 : Int)))) rfl (fun hh => by rw [h7] at hh; cases hh) (fun _ => ?_)
            refine WP.path tab_ok mixed [] [.keep [8, 7, 6, 2], .keepO [2012], .names [(2012, 2012)]] (ps := []) (e := (.exit 0)) (σ' := ⟨[2012], [(8, V.own 2012 2 (List.length o12)), (7, vb false), (6, V.t (T.nils)), (2, vi x3)], [(2012, oc 44 (List.flatMap askedC o12))]⟩) (by kernel_rfl) trivial ?_
            exact ⟨(o12), h, rfl⟩
      · -- from there
        intro o12 h0
        have h := (show J1 o12 = some (y0, y1) from h0)
        rw [hJ1] at h
        refine WP.seq ?_
        refine WP.seq ?_
        refine WP.path tab_ok mixed [] [.keep [87, 8, 7, 6], .keepO [2012]] (ps := [(True)]) (e := .normal) (σ' := ⟨[2012], [(87, vb (decide (x3 ≥ ((List.length o12 : Nat) : Int)))), (8, V.own 2012 2 (List.length o12)), (7, vb false), (6, V.t (T.nils))], [(2012, oc 44 (List.flatMap askedC o12))]⟩) (by kernel_rfl) ⟨trivial, trivial⟩ ?_
        rcases ite_some h with ⟨h8, h⟩ | ⟨h8, h⟩
        · -- yes
          refine WP.cond (b := decide (x3 ≥ ((List.length o12 : Nat) : Int))) rfl (fun _ => ?_) (fun hh => by rw [h8] at hh; cases hh)
          simp only [Option.some.injEq, Prod.mk.injEq] at h
          obtain ⟨rfl, rfl⟩ := h
          exact WP.pathG tab_ok mixed [(88, An.id 2088)] [.keep [6, 7], .keepO [2088], .names [(2088, 9000)]] [9000] _ (r' := V.tup [V.own 9000 2 (List.length []), vb false]) (ps := [(True), (0 = 0 * 2)]) (r := V.tup [V.own 9000 2 0, vb false]) (N := [9000]) (O := [(9000, oc 44 [])]) [] (by kernel_rfl) ⟨trivial, by decide, trivial⟩ ⟨(congrArg (V.own 9000 2) (by first | rfl | (simp only [tlS, tl, vl, vo, oc, ov, tbl, vbl, ty, vy] <;> rfl) | (simp <;> omega) | (simp []; done) | (rw [List.take_of_length_le (by simp [])] <;> rfl))), (WkT.refl _), trivial⟩ rfl (by first | rfl | (simp only [tlS, tl, vl, vo, oc, ov, tbl, vbl, ty, vy] <;> rfl) | (simp <;> omega) | (simp []; done) | (rw [List.take_of_length_le (by simp [])] <;> rfl)) (fun _ h => h)
        · -- no
          refine WP.cond (b := decide (x3 ≥ ((List.length o12 : Nat) : Int))) rfl (fun hh => by rw [h8] at hh; cases hh) (fun _ => ?_)
          refine WP.path tab_ok mixed [] [.keep [8, 7, 6], .keepO [2012]] (ps := []) (e := .normal) (σ' := ⟨[2012], [(8, V.own 2012 2 (List.length o12)), (7, vb false), (6, V.t (T.nils))], [(2012, oc 44 (List.flatMap askedC o12))]⟩) (by kernel_rfl) trivial ?_
          simp only [Option.some.injEq, Prod.mk.injEq] at h
          obtain ⟨rfl, rfl⟩ := h
          exact WP.pathG tab_ok mixed [] [.keep [6, 7], .keepO [2012], .names [(2012, 9000)]] [9000] _ (r' := V.tup [V.own 9000 2 (List.length o12), vb true]) (ps := []) (r := V.tup [V.own 9000 2 (List.length o12), vb true]) (N := [9000]) (O := [(9000, oc 44 (List.flatMap askedC o12))]) [] (by kernel_rfl) trivial ⟨rfl, (WkT.refl _), trivial⟩ rfl rfl (fun _ h => h)
theorem F_spec_LessPlay_W_C (x0 : List Int) (x1 : Int) (x2 : Int) (x3 : Int) (y0 : List (Int × Bool)) (y1 : Bool) (h : F_spec_LessPlay x0 x1 x2 x3 = some (y0, y1)) : C Try.prog 9 [T.agg [tl x0, ti x1], ti x2, ti x3] (T.tup [T.list (List.length y0) 2 (List.flatMap askedC y0), tb y1]) :=
  CG.toC (ps := [(List.length (List.flatMap askedC y0) = (List.length y0) * 2)]) (F_spec_LessPlay_W  x0 x1 x2 x3 y0 y1 h) (by rfl) ⟨by first | exact len_asked _ | (rw [len_asked]; first | done | omega | (simp; done) | (simp; omega)), trivial⟩
theorem F_laws_rAsked_W (x0 : List (Int × Bool)) (x1 : List (Int × Bool)) (y0 : Bool) (h : F_laws_rAsked x0 x1 = some y0) : C Try.prog 10 [T.list (List.length x0) 2 (List.flatMap askedC x0), T.list (List.length x1) 2 (List.flatMap askedC x1)] (tb y0) := by
  unfold F_laws_rAsked at h
  refine C.intro (tab := tab) tab_ok (fn := Try.f10) Try.func10 (by kernel_rfl) rfl (Nat.le_of_ble_eq_true rfl) ?_
  refine WP.seq ?_
  refine WP.path tab_ok mixed [] [.keep [4, 0, 1], .keepO []] (ps := []) (e := .normal) (σ' := ⟨[], [(4, vb false), (0, V.t (T.list (List.length x0) 2 (List.flatMap askedC x0))), (1, V.t (T.list (List.length x1) 2 (List.flatMap askedC x1)))], []⟩) (by kernel_rfl) trivial ?_
  refine WP.seq ?_
  refine WP.seq ?_
  refine WP.path tab_ok mixed [] [.keep [10, 4, 0, 1], .keepO []] (ps := [(True)]) (e := .normal) (σ' := ⟨[], [(10, vb (((List.length x0 : Nat) : Int) != ((List.length x1 : Nat) : Int))), (4, vb false), (0, V.t (T.list (List.length x0) 2 (List.flatMap askedC x0))), (1, V.t (T.list (List.length x1) 2 (List.flatMap askedC x1)))], []⟩) (by kernel_rfl) ⟨trivial, trivial⟩ ?_
  rcases ite_some h with ⟨h1, h⟩ | ⟨h1, h⟩
  · -- yes
    refine WP.cond (b := ((List.length x0 : Nat) : Int) != ((List.length x1 : Nat) : Int)) rfl (fun _ => ?_) (fun hh => by rw [h1] at hh; cases hh)
    have h := Option.some.inj h
    subst h
    exact WP.pathW tab_ok mixed [] _ (ps := []) (r := tb false) (by kernel_rfl) trivial (WkT.eq (y := tb false) (WkT.refl _) rfl) (fun _ h => h)
  · -- no
    refine WP.cond (b := ((List.length x0 : Nat) : Int) != ((List.length x1 : Nat) : Int)) rfl (fun hh => by rw [h1] at hh; cases hh) (fun _ => ?_)
    refine WP.path tab_ok mixed [] [.keep [4, 0, 1], .keepO []] (ps := []) (e := .normal) (σ' := ⟨[], [(4, vb false), (0, V.t (T.list (List.length x0) 2 (List.flatMap askedC x0))), (1, V.t (T.list (List.length x1) 2 (List.flatMap askedC x1)))], []⟩) (by kernel_rfl) trivial ?_
    obtain ⟨J1, hJ1, h⟩ := jn_some h
    refine WP.joinA (fun (zz : Unit) => ⟨[], [(4, vb false)], []⟩) (fun zz => J1 () = some y0) ?_ ?_
    · -- to where they meet
      refine WP.seq ?_
      refine WP.path tab_ok mixed [] [.keep [5, 4, 0, 1], .keepO []] (ps := []) (e := .normal) (σ' := ⟨[], [(5, vi 0), (4, vb false), (0, V.t (T.list (List.length x0) 2 (List.flatMap askedC x0))), (1, V.t (T.list (List.length x1) 2 (List.flatMap askedC x1)))], []⟩) (by kernel_rfl) trivial ?_
      refine WP.block ?_
      refine WP.wk [.keep [5, 4, 0, 1], .keepO [], .names []] (σ' := ⟨[], [(5, vi 0), (4, vb false), (0, V.t (T.list (List.length x0) 2 (List.flatMap askedC x0))), (1, V.t (T.list (List.length x1) 2 (List.flatMap askedC x1)))], []⟩) (ps := []) (by kernel_rfl) trivial ?_
      refine WP.st (σ' := ⟨[], [(5, vi (0 : Int)), (4, vb false), (0, V.t (T.list (List.length x0) 2 (List.flatMap askedC x0))), (1, V.t (T.list (List.length x1) 2 (List.flatMap askedC x1)))], []⟩) (by first | rfl | (simp only [tlS, tl, vl, vo, oc, ov, tbl, vbl, ty, vy] <;> rfl) | (simp <;> omega) | (simp []; done) | (rw [List.take_of_length_le (by simp [])] <;> rfl)) ?_
      refine WP.loop (α := Nat × Int) (fun zz => ⟨[], [(5, vi zz.2), (4, vb false), (0, V.t (T.list (List.length x0) 2 (List.flatMap askedC x0))), (1, V.t (T.list (List.length x1) 2 (List.flatMap askedC x1)))], []⟩) (fun zz => F_laws_rAsked_L1 x0 x1 J1 zz.1 zz.2 = some y0) (fun zz => zz.1) (fuel, (0 : Int)) h ?_
      rintro ⟨n, v5⟩ h0
      have h := (show F_laws_rAsked_L1 x0 x1 J1 n v5 = some y0 from h0)
      rcases n with _ | n
      · rw [F_laws_rAsked_L1] at h; cases h
      · rw [F_laws_rAsked_L1] at h
        refine WP.seq ?_
        refine WP.seq ?_
        refine WP.path tab_ok mixed [] [.keep [14, 5, 4, 0, 1], .keepO []] (ps := [(True)]) (e := .normal) (σ' := ⟨[], [(14, vb (decide (v5 < ((List.length x0 : Nat) : Int)))), (5, vi v5), (4, vb false), (0, V.t (T.list (List.length x0) 2 (List.flatMap askedC x0))), (1, V.t (T.list (List.length x1) 2 (List.flatMap askedC x1)))], []⟩) (by kernel_rfl) ⟨trivial, trivial⟩ ?_
        rcases ite_some h with ⟨h2, h⟩ | ⟨h2, h⟩
        · -- yes
          refine WP.cond (b := decide (v5 < ((List.length x0 : Nat) : Int))) rfl (fun _ => ?_) (fun hh => by rw [h2] at hh; cases hh)
          refine WP.path tab_ok mixed [] [.keep [5, 4, 0, 1], .keepO []] (ps := []) (e := .normal) (σ' := ⟨[], [(5, vi v5), (4, vb false), (0, V.t (T.list (List.length x0) 2 (List.flatMap askedC x0))), (1, V.t (T.list (List.length x1) 2 (List.flatMap askedC x1)))], []⟩) (by kernel_rfl) trivial ?_
          refine WP.seq ?_
          refine WP.block ?_
          refine WP.seq ?_
          obtain ⟨c0, h⟩ := chk_some h
          obtain ⟨c1, h⟩ := chk_some h
          obtain ⟨n25, c2, h⟩ := nam_some h
          refine WP.path tab_ok mixed [(20, An.v (T.agg [ti ((List.getD x0 (Int.toNat v5) (0, false)).1), tb ((List.getD x0 (Int.toNat v5) (0, false)).2)])), (24, An.v (T.agg [ti ((List.getD x1 (Int.toNat v5) (0, false)).1), tb ((List.getD x1 (Int.toNat v5) (0, false)).2)])), (25, An.v (tb n25))] [.keep [25, 5, 4, 0, 1], .keepO []] (ps := [((0 ≤ v5 ∧ v5 < ((List.length x0 : Nat) : Int))), (2 ≤ List.length (List.drop ((Int.toNat v5) * 2) (List.flatMap askedC x0))), (T.agg (List.take 2 (List.drop ((Int.toNat v5) * 2) (List.flatMap askedC x0))) = T.agg [ti ((List.getD x0 (Int.toNat v5) (0, false)).1), tb ((List.getD x0 (Int.toNat v5) (0, false)).2)]), ((0 ≤ v5 ∧ v5 < ((List.length x1 : Nat) : Int))), (2 ≤ List.length (List.drop ((Int.toNat v5) * 2) (List.flatMap askedC x1))), (T.agg (List.take 2 (List.drop ((Int.toNat v5) * 2) (List.flatMap askedC x1))) = T.agg [ti ((List.getD x1 (Int.toNat v5) (0, false)).1), tb ((List.getD x1 (Int.toNat v5) (0, false)).2)]), (chkEq Try.prog 44 [ti ((List.getD x0 (Int.toNat v5) (0, false)).1), tb ((List.getD x0 (Int.toNat v5) (0, false)).2)] = true), (tb (!((((List.getD x0 (Int.toNat v5) (0, false)).1) == ((List.getD x1 (Int.toNat v5) (0, false)).1)) && ((((List.getD x0 (Int.toNat v5) (0, false)).2) == ((List.getD x1 (Int.toNat v5) (0, false)).2)) && (true)))) = tb n25)]) (e := .normal) (σ' := ⟨[], [(25, vb n25), (5, vi v5), (4, vb false), (0, V.t (T.list (List.length x0) 2 (List.flatMap askedC x0))), (1, V.t (T.list (List.length x1) 2 (List.flatMap askedC x1)))], []⟩) (by kernel_rfl) ⟨c0, fit_asked (i := Int.toNat v5) (by simp) (by omega), at_asked (by simp) (by omega), c1, fit_asked (i := Int.toNat v5) (by simp) (by omega), at_asked (by simp) (by omega), by kernel_rfl, congrArg (tb) c2, trivial⟩ ?_
          rcases ite_some h with ⟨h3, h⟩ | ⟨h3, h⟩
          · -- yes
            refine WP.cond (b := n25) rfl (fun _ => ?_) (fun hh => by rw [h3] at hh; cases hh)
            have h := Option.some.inj h
            subst h
            exact WP.pathW tab_ok mixed [] _ (ps := []) (r := tb false) (by kernel_rfl) trivial (WkT.eq (y := tb false) (WkT.refl _) rfl) (fun _ h => h)
          · -- no
            refine WP.cond (b := n25) rfl (fun hh => by rw [h3] at hh; cases hh) (fun _ => ?_)
            refine WP.path tab_ok mixed [] [.keep [5, 4, 0, 1], .keepO []] (ps := []) (e := .normal) (σ' := ⟨[], [(5, vi v5), (4, vb false), (0, V.t (T.list (List.length x0) 2 (List.flatMap askedC x0))), (1, V.t (T.list (List.length x1) 2 (List.flatMap askedC x1)))], []⟩) (by kernel_rfl) trivial ?_
            obtain ⟨c3, h⟩ := chk_some h
            refine WP.path tab_ok mixed [(16, An.v (T.int .i64 (v5 + (1 : Int))))] [.keep [5, 4, 0, 1], .keepO [], .names []] (ps := [(True), (T.int .i64 (IntKind.wrap .i64 (v5 + (1 : Int))) = T.int .i64 (v5 + (1 : Int)))]) (e := .normal) (σ' := ⟨[], [(5, vi (v5 + (1 : Int))), (4, vb false), (0, V.t (T.list (List.length x0) 2 (List.flatMap askedC x0))), (1, V.t (T.list (List.length x1) 2 (List.flatMap askedC x1)))], []⟩) (by kernel_rfl) ⟨trivial, wrapI c3, trivial⟩ ?_
            exact ⟨(n, (v5 + (1 : Int))), h, Nat.lt_succ_self _, rfl⟩
        · -- no
          refine WP.cond (b := decide (v5 < ((List.length x0 : Nat) : Int))) rfl (fun hh => by rw [h2] at hh; cases hh) (fun _ => ?_)
          refine WP.path tab_ok mixed [] [.keep [4], .keepO [], .names []] (ps := []) (e := (.exit 0)) (σ' := ⟨[], [(4, vb false)], []⟩) (by kernel_rfl) trivial ?_
          exact ⟨(), h, rfl⟩
    · -- from there
      intro _ h0
      have h := (show J1 () = some y0 from h0)
      rw [hJ1] at h
      have h := Option.some.inj h
      subst h
      exact WP.pathW tab_ok mixed [] _ (ps := []) (r := tb true) (by kernel_rfl) trivial (WkT.eq (y := tb true) (WkT.refl _) rfl) (fun _ h => h)
theorem F_spec_DrawLessNeed_W (x0 : List Int) (y0 : List Int) (y1 : Int) (h : F_spec_DrawLessNeed x0 = some (y0, y1)) : CG Try.prog 69 [vy x0] [] (V.agg [vo 9000 (List.length y0), vi y1]) [(9000, oc 3 (List.map (T.int .i64) y0))] := by
  unfold F_spec_DrawLessNeed at h
  refine CG.intro (tab := tab) tab_ok (fn := Try.f69) Try.func69 (by kernel_rfl) rfl (Nat.le_of_ble_eq_true rfl) (by kernel_rfl) ?_
  obtain ⟨r8, r8b, r8c, r8d, r8e, c0, h⟩ := bnd5_some h
  simp only [Option.some.injEq, Prod.mk.injEq] at h
  obtain ⟨rfl, rfl⟩ := h
  exact WP.pathG tab_ok mixed [(2, An.id 2002), (6, An.id 2006), (8, An.callG [(500, 2006), (9000, 10080)] [V.ref 500 0] [(500, oc 70 [ty x0, ti 0, T.int .u64 0])] (V.agg [vo 9000 (List.length r8), vi r8b]) [(500, oc 70 [ty r8c, ti r8d, T.int .u64 r8e]), (9000, oc 3 (List.map (T.int .i64) r8))])] [.keep [2], .keepO [10080, 2002], .names [(10080, 9000), (2002, 2002)]] [9000] _ (r' := V.agg [vo 9000 (List.length r8), vi r8b]) (ps := [((1 = 1 ∧ 0 + 1 ≤ 3) ∧ True), (CG Try.prog 52 [V.ref 500 0] [(500, oc 70 [ty x0, ti 0, T.int .u64 0])] (V.agg [vo 9000 (List.length r8), vi r8b]) [(500, oc 70 [ty r8c, ti r8d, T.int .u64 r8e]), (9000, oc 3 (List.map (T.int .i64) r8))]), ((V.ref 500 0).ren (renF [(500, 2006), (9000, 10080)]) = V.ref 2006 0), ((oc 70 [ty x0, ti 0, T.int .u64 0]) = (oc 70 [ty x0, ti 0, T.int .u64 0]).ren (renF [(500, 2006), (9000, 10080)])), ((0 + 2 ≤ 2 ∧ 2 = 2)), (0 + 2 ≤ 2)]) (r := V.agg [vo 9000 (List.length r8), vi r8b]) (N := [9000, 2002]) (O := [(9000, oc 3 (List.map (T.int .i64) r8))]) [] (by kernel_rfl) ⟨⟨⟨by first | rfl | (simp; done) | (simp []; done) | omega, by first | decide | (simp; done) | (simp []; done) | omega | (simp only [tlL]; omega) | (simp; omega)⟩, trivial⟩, (F_p_spec_l1Cur_short_W x0 (0 : Int) (0 : Int) r8 r8b r8c r8d r8e c0), by first | rfl | (simp [V.ren, V.renL, renF, lk]; done) | (simp [V.ren, V.renL, renF, lk]; omega), by first | rfl | (simp only [tlS]; rfl) | (simp [Tl.Obj.ren, V.ren, V.renL, renF, lk]; done), by decide, by decide, trivial⟩ ⟨rfl, (WkT.refl _), trivial⟩ rfl rfl (fun _ h => h)
theorem F_spec_DrawLessNeed_W_C (x0 : List Int) (y0 : List Int) (y1 : Int) (h : F_spec_DrawLessNeed x0 = some (y0, y1)) : C Try.prog 69 [ty x0] (T.agg [tl y0, ti y1]) :=
  CG.toC (ps := [(List.length (List.map (T.int .i64) y0) = (List.length y0) * 1)]) (F_spec_DrawLessNeed_W  x0 y0 y1 h) (by rfl) ⟨by first | rfl | omega | (simp <;> omega) | (simp [hl] <;> omega), trivial⟩
theorem F_spec_DrawUsefulLess_W (x0 : List Int) (y0 : List Int) (y1 : Int) (h : F_spec_DrawUsefulLess x0 = some (y0, y1)) : CG Try.prog 11 [vy x0] [] (V.agg [vo 9000 (List.length y0), vi y1]) [(9000, oc 3 (List.map (T.int .i64) y0))] := by
  unfold F_spec_DrawUsefulLess at h
  refine CG.intro (tab := tab) tab_ok (fn := Try.f11) Try.func11 (by kernel_rfl) rfl (Nat.le_of_ble_eq_true rfl) (by kernel_rfl) ?_
  obtain ⟨r4, r4b, c0, h⟩ := bnd2_some h
  simp only [Option.some.injEq, Prod.mk.injEq] at h
  obtain ⟨rfl, rfl⟩ := h
  exact WP.pathG tab_ok mixed [(2, An.id 2002), (4, An.callG [(9000, 10040)] [vy x0] [] (V.agg [vo 9000 (List.length r4), vi r4b]) [(9000, oc 3 (List.map (T.int .i64) r4))])] [.keep [2], .keepO [10040, 2002], .names [(10040, 9000), (2002, 2002)]] [9000] _ (r' := V.agg [vo 9000 (List.length r4), vi r4b]) (ps := [(CG Try.prog 69 [vy x0] [] (V.agg [vo 9000 (List.length r4), vi r4b]) [(9000, oc 3 (List.map (T.int .i64) r4))]), (WkT (ty x0) (ty x0)), ((0 + 2 ≤ 2 ∧ 2 = 2)), (0 + 2 ≤ 2)]) (r := V.agg [vo 9000 (List.length r4), vi r4b]) (N := [9000, 2002]) (O := [(9000, oc 3 (List.map (T.int .i64) r4))]) [] (by kernel_rfl) ⟨(F_spec_DrawLessNeed_W x0 r4 r4b c0), WkT.refl _, by decide, by decide, trivial⟩ ⟨rfl, (WkT.refl _), trivial⟩ rfl rfl (fun _ h => h)
theorem F_spec_DrawUsefulLess_W_C (x0 : List Int) (y0 : List Int) (y1 : Int) (h : F_spec_DrawUsefulLess x0 = some (y0, y1)) : C Try.prog 11 [ty x0] (T.agg [tl y0, ti y1]) :=
  CG.toC (ps := [(List.length (List.map (T.int .i64) y0) = (List.length y0) * 1)]) (F_spec_DrawUsefulLess_W  x0 y0 y1 h) (by rfl) ⟨by first | rfl | omega | (simp <;> omega) | (simp [hl] <;> omega), trivial⟩
theorem F_impl_State_isVain_W (x0 : List Int) (x1 : Int) (x2 : Int) (y0 : Bool) (h : F_impl_State_isVain x0 x1 x2 = some y0) : C Try.prog 70 [T.agg [tl x0, ti x1], ti x2] (tb y0) := by
  unfold F_impl_State_isVain at h
  refine C.intro (tab := tab) tab_ok (fn := Try.f70) Try.func70 (by kernel_rfl) rfl (Nat.le_of_ble_eq_true rfl) ?_
  refine WP.seq ?_
  refine WP.path tab_ok mixed [(2, An.fz)] [.keep [4, 2, 1], .keepO []] (ps := []) (e := .normal) (σ' := ⟨[], [(4, vb false), (2, V.t (T.ptr [tl x0, ti x1])), (1, vi x2)], []⟩) (by kernel_rfl) trivial ?_
  refine WP.seq ?_
  refine WP.path tab_ok mixed [] [.keep [5, 4, 2, 1], .keepO []] (ps := []) (e := .normal) (σ' := ⟨[], [(5, vi 0), (4, vb false), (2, V.t (T.ptr [tl x0, ti x1])), (1, vi x2)], []⟩) (by kernel_rfl) trivial ?_
  refine WP.seq ?_
  obtain ⟨c0, h⟩ := chk_some h
  refine WP.path tab_ok mixed [(10, An.callG [(9000, 10100)] [V.t (T.agg [tl x0, ti x1])] [] (vo 9000 (List.length (openN x0))) [(9000, oc 3 (List.map (T.int .i64) (openN x0)))])] [.keep [6, 5, 4, 1], .keepO [10100]] (ps := [(2 ≤ 2), (CG Try.prog 58 [V.t (T.agg [tl x0, ti x1])] [] (vo 9000 (List.length (openN x0))) [(9000, oc 3 (List.map (T.int .i64) (openN x0)))]), (WkT (T.agg [tl x0, ti x1]) (T.agg [tl x0, ti x1]))]) (e := .normal) (σ' := ⟨[10100], [(6, vo 10100 (List.length (openN x0))), (5, vi 0), (4, vb false), (1, vi x2)], [(10100, oc 3 (List.map (T.int .i64) (openN x0)))]⟩) (by kernel_rfl) ⟨by decide, (open_C_G x0 x1 c0), WkT.refl _, trivial⟩ ?_
  obtain ⟨J1, hJ1, h⟩ := jn_some h
  refine WP.joinA (fun (zz : Int) => ⟨[10100], [(6, vo 10100 (List.length (openN x0))), (5, vi zz), (4, vb false)], [(10100, oc 3 (List.map (T.int .i64) (openN x0)))]⟩) (fun zz => J1 zz = some y0) ?_ ?_
  · -- to where they meet
    refine WP.seq ?_
    refine WP.path tab_ok mixed [] [.keep [13, 12, 11, 6, 5, 4, 1], .keepO [10100]] (ps := []) (e := .normal) (σ' := ⟨[10100], [(13, vi 0), (12, vi ((List.length (openN x0) : Nat) : Int)), (11, vo 10100 (List.length (openN x0))), (6, vo 10100 (List.length (openN x0))), (5, vi 0), (4, vb false), (1, vi x2)], [(10100, oc 3 (List.map (T.int .i64) (openN x0)))]⟩) (by kernel_rfl) trivial ?_
    refine WP.block ?_
    refine WP.wk [.keep [13, 12, 11, 6, 5, 4, 1], .keepO [10100], .names [(10100, 10100)]] (σ' := ⟨[10100], [(13, vi 0), (12, vi ((List.length (openN x0) : Nat) : Int)), (11, vo 10100 (List.length (openN x0))), (6, vo 10100 (List.length (openN x0))), (5, vi 0), (4, vb false), (1, vi x2)], [(10100, oc 3 (List.map (T.int .i64) (openN x0)))]⟩) (ps := []) (by kernel_rfl) trivial ?_
    refine WP.st (σ' := ⟨[10100], [(13, vi (0 : Int)), (12, vi ((List.length (openN x0) : Nat) : Int)), (11, vo 10100 (List.length (openN x0))), (6, vo 10100 (List.length (openN x0))), (5, vi (0 : Int)), (4, vb false), (1, vi x2)], [(10100, oc 3 (List.map (T.int .i64) (openN x0)))]⟩) (by first | rfl | (simp only [tlS, tl, vl, vo, oc, ov, tbl, vbl, ty, vy] <;> rfl) | (simp <;> omega) | (simp []; done) | (rw [List.take_of_length_le (by simp [])] <;> rfl)) ?_
    refine WP.loop (α := Nat × Int × Int) (fun zz => ⟨[10100], [(13, vi zz.2.1), (12, vi ((List.length (openN x0) : Nat) : Int)), (11, vo 10100 (List.length (openN x0))), (6, vo 10100 (List.length (openN x0))), (5, vi zz.2.2), (4, vb false), (1, vi x2)], [(10100, oc 3 (List.map (T.int .i64) (openN x0)))]⟩) (fun zz => F_impl_State_isVain_L1 x0 x2 J1 zz.1 zz.2.1 zz.2.2 = some y0) (fun zz => zz.1) (fuel, (0 : Int), (0 : Int)) h ?_
    rintro ⟨n, v13, v5⟩ h0
    have h := (show F_impl_State_isVain_L1 x0 x2 J1 n v13 v5 = some y0 from h0)
    rcases n with _ | n
    · rw [F_impl_State_isVain_L1] at h; cases h
    · rw [F_impl_State_isVain_L1] at h
      refine WP.seq ?_
      refine WP.path tab_ok mixed [] [.keep [14, 13, 12, 11, 6, 5, 4, 1], .keepO [10100]] (ps := [(True)]) (e := .normal) (σ' := ⟨[10100], [(14, vb (decide (v13 < ((List.length (openN x0) : Nat) : Int)))), (13, vi v13), (12, vi ((List.length (openN x0) : Nat) : Int)), (11, vo 10100 (List.length (openN x0))), (6, vo 10100 (List.length (openN x0))), (5, vi v5), (4, vb false), (1, vi x2)], [(10100, oc 3 (List.map (T.int .i64) (openN x0)))]⟩) (by kernel_rfl) ⟨trivial, trivial⟩ ?_
      refine WP.seq ?_
      rcases ite_some h with ⟨h1, h⟩ | ⟨h1, h⟩
      · -- yes
        refine WP.cond (b := decide (v13 < ((List.length (openN x0) : Nat) : Int))) rfl (fun _ => ?_) (fun hh => by rw [h1] at hh; cases hh)
        refine WP.path tab_ok mixed [] [.keep [13, 12, 11, 6, 5, 4, 1], .keepO [10100]] (ps := []) (e := .normal) (σ' := ⟨[10100], [(13, vi v13), (12, vi ((List.length (openN x0) : Nat) : Int)), (11, vo 10100 (List.length (openN x0))), (6, vo 10100 (List.length (openN x0))), (5, vi v5), (4, vb false), (1, vi x2)], [(10100, oc 3 (List.map (T.int .i64) (openN x0)))]⟩) (by kernel_rfl) trivial ?_
        refine WP.seq ?_
        refine WP.block ?_
        refine WP.seq ?_
        obtain ⟨c1, h⟩ := chk_some h
        refine WP.path tab_ok mixed [(16, An.v (ti (List.getD (openN x0) (Int.toNat v13) 0)))] [.keep [8, 13, 12, 11, 6, 5, 4, 1], .keepO [10100]] (ps := [((0 ≤ v13 ∧ v13 < ((List.length (openN x0) : Nat) : Int))), ((List.map (T.int .i64) (openN x0) : List T)[(Int.toNat v13) * 1]? = some (ti (List.getD (openN x0) (Int.toNat v13) 0))), (ti (List.getD (openN x0) (Int.toNat v13) 0) = ti (List.getD (openN x0) (Int.toNat v13) 0))]) (e := .normal) (σ' := ⟨[10100], [(8, vi (List.getD (openN x0) (Int.toNat v13) 0)), (13, vi v13), (12, vi ((List.length (openN x0) : Nat) : Int)), (11, vo 10100 (List.length (openN x0))), (6, vo 10100 (List.length (openN x0))), (5, vi v5), (4, vb false), (1, vi x2)], [(10100, oc 3 (List.map (T.int .i64) (openN x0)))]⟩) (by kernel_rfl) ⟨c1, atM (by simp) (by first | omega | (simp only [tlL]; omega) | (simp; omega)), rfl, trivial⟩ ?_
        refine WP.seq ?_
        obtain ⟨c2, h⟩ := chk_some h
        refine WP.path tab_ok mixed [(19, An.call (tb (hasB x2 (List.getD (openN x0) (Int.toNat v13) 0))))] [.keep [19, 13, 12, 11, 6, 5, 4, 1], .keepO [10100]] (ps := [(C Try.prog 61 [ti x2, ti (List.getD (openN x0) (Int.toNat v13) 0)] (tb (hasB x2 (List.getD (openN x0) (Int.toNat v13) 0))))]) (e := .normal) (σ' := ⟨[10100], [(19, vb (hasB x2 (List.getD (openN x0) (Int.toNat v13) 0))), (13, vi v13), (12, vi ((List.length (openN x0) : Nat) : Int)), (11, vo 10100 (List.length (openN x0))), (6, vo 10100 (List.length (openN x0))), (5, vi v5), (4, vb false), (1, vi x2)], [(10100, oc 3 (List.map (T.int .i64) (openN x0)))]⟩) (by kernel_rfl) ⟨(has_C x2 (List.getD (openN x0) (Int.toNat v13) 0) c2), trivial⟩ ?_
        rcases ite_some h with ⟨h2, h⟩ | ⟨h2, h⟩
        · -- yes
          refine WP.cond (b := hasB x2 (List.getD (openN x0) (Int.toNat v13) 0)) rfl (fun _ => ?_) (fun hh => by rw [h2] at hh; cases hh)
          obtain ⟨c3, h⟩ := chk_some h
          refine WP.path tab_ok mixed [(21, An.v (T.int .i64 (v5 + (1 : Int))))] [.keep [5, 13, 12, 11, 6, 4, 1], .keepO [10100]] (ps := [(True), (T.int .i64 (IntKind.wrap .i64 (v5 + (1 : Int))) = T.int .i64 (v5 + (1 : Int)))]) (e := .normal) (σ' := ⟨[10100], [(5, vi (v5 + (1 : Int))), (13, vi v13), (12, vi ((List.length (openN x0) : Nat) : Int)), (11, vo 10100 (List.length (openN x0))), (6, vo 10100 (List.length (openN x0))), (4, vb false), (1, vi x2)], [(10100, oc 3 (List.map (T.int .i64) (openN x0)))]⟩) (by kernel_rfl) ⟨trivial, wrapI c3, trivial⟩ ?_
          obtain ⟨c4, h⟩ := chk_some h
          refine WP.path tab_ok mixed [(22, An.v (T.int .i64 (v13 + (1 : Int))))] [.keep [13, 12, 11, 6, 5, 4, 1], .keepO [10100], .names [(10100, 10100)]] (ps := [(True), (T.int .i64 (IntKind.wrap .i64 (v13 + (1 : Int))) = T.int .i64 (v13 + (1 : Int)))]) (e := .normal) (σ' := ⟨[10100], [(13, vi (v13 + (1 : Int))), (12, vi ((List.length (openN x0) : Nat) : Int)), (11, vo 10100 (List.length (openN x0))), (6, vo 10100 (List.length (openN x0))), (5, vi (v5 + (1 : Int))), (4, vb false), (1, vi x2)], [(10100, oc 3 (List.map (T.int .i64) (openN x0)))]⟩) (by kernel_rfl) ⟨trivial, wrapI c4, trivial⟩ ?_
          exact ⟨(n, (v13 + (1 : Int)), (v5 + (1 : Int))), h, Nat.lt_succ_self _, rfl⟩
        · -- no
          refine WP.cond (b := hasB x2 (List.getD (openN x0) (Int.toNat v13) 0)) rfl (fun hh => by rw [h2] at hh; cases hh) (fun _ => ?_)
          refine WP.path tab_ok mixed [] [.keep [13, 12, 11, 6, 5, 4, 1], .keepO [10100]] (ps := []) (e := .normal) (σ' := ⟨[10100], [(13, vi v13), (12, vi ((List.length (openN x0) : Nat) : Int)), (11, vo 10100 (List.length (openN x0))), (6, vo 10100 (List.length (openN x0))), (5, vi v5), (4, vb false), (1, vi x2)], [(10100, oc 3 (List.map (T.int .i64) (openN x0)))]⟩) (by kernel_rfl) trivial ?_
          obtain ⟨c3, h⟩ := chk_some h
          refine WP.path tab_ok mixed [(22, An.v (T.int .i64 (v13 + (1 : Int))))] [.keep [13, 12, 11, 6, 5, 4, 1], .keepO [10100], .names [(10100, 10100)]] (ps := [(True), (T.int .i64 (IntKind.wrap .i64 (v13 + (1 : Int))) = T.int .i64 (v13 + (1 : Int)))]) (e := .normal) (σ' := ⟨[10100], [(13, vi (v13 + (1 : Int))), (12, vi ((List.length (openN x0) : Nat) : Int)), (11, vo 10100 (List.length (openN x0))), (6, vo 10100 (List.length (openN x0))), (5, vi v5), (4, vb false), (1, vi x2)], [(10100, oc 3 (List.map (T.int .i64) (openN x0)))]⟩) (by kernel_rfl) ⟨trivial, wrapI c3, trivial⟩ ?_
          exact ⟨(n, (v13 + (1 : Int)), v5), h, Nat.lt_succ_self _, rfl⟩
      · -- no
        refine WP.cond (b := decide (v13 < ((List.length (openN x0) : Nat) : Int))) rfl (fun hh => by rw [h1] at hh; cases hh) (fun _ => ?_)
        refine WP.path tab_ok mixed [] [.keep [6, 5, 4], .keepO [10100], .names [(10100, 10100)]] (ps := []) (e := (.exit 0)) (σ' := ⟨[10100], [(6, vo 10100 (List.length (openN x0))), (5, vi v5), (4, vb false)], [(10100, oc 3 (List.map (T.int .i64) (openN x0)))]⟩) (by kernel_rfl) trivial ?_
        exact ⟨(v5), h, rfl⟩
  · -- from there
    intro v5 h0
    have h := (show J1 v5 = some y0 from h0)
    rw [hJ1] at h
    rcases ite_some h with ⟨h3, h⟩ | ⟨h3, h⟩
    · -- yes
      have h := Option.some.inj h
      subst h
      exact WP.pathW tab_ok mixed [(24, An.b true)] _ (ps := [(True), ((v5 == (0 : Int)) = true)]) (r := tb true) (by kernel_rfl) ⟨trivial, h3, trivial⟩ (WkT.eq (y := tb true) (WkT.refl _) rfl) (fun _ h => h)
    · -- no
      have h := Option.some.inj h
      subst h
      exact WP.pathW tab_ok mixed [(24, An.b false)] _ (ps := [(True), ((v5 == (0 : Int)) = false), (True)]) (r := tb (v5 == ((List.length (openN x0) : Nat) : Int))) (by kernel_rfl) ⟨trivial, h3, trivial, trivial⟩ (WkT.eq (y := tb (v5 == ((List.length (openN x0) : Nat) : Int))) (WkT.refl _) rfl) (fun _ h => h)
theorem F_impl_UsefulLess_W (x0 : List Int) (x1 : Int) (y0 : List Int) (y1 : Bool) (h : F_impl_UsefulLess x0 x1 = some (y0, y1)) : CG Try.prog 12 [V.t (T.agg [tl x0, ti x1])] [] (V.tup [vo 9000 (List.length y0), vb y1]) [(9000, oc 3 (List.map (T.int .i64) y0))] := by
  unfold F_impl_UsefulLess at h
  refine CG.intro (tab := tab) tab_ok (fn := Try.f12) Try.func12 (by kernel_rfl) rfl (Nat.le_of_ble_eq_true rfl) (by kernel_rfl) ?_
  refine WP.seq ?_
  refine WP.path tab_ok mixed [(1, An.fz)] [.keep [3, 2, 1], .keepO []] (ps := []) (e := .normal) (σ' := ⟨[], [(3, vb false), (2, V.t (T.nils)), (1, V.t (T.ptr [tl x0, ti x1]))], []⟩) (by kernel_rfl) trivial ?_
  refine WP.seq ?_
  refine WP.seq ?_
  obtain ⟨c0, h⟩ := chk_some h
  refine WP.path tab_ok mixed [(7, An.call (tb (shortN x0 x1)))] [.keep [8, 3, 2, 1], .keepO []] (ps := [(2 ≤ 2), (C Try.prog 55 [T.agg [tl x0, ti x1]] (tb (shortN x0 x1)))]) (e := .normal) (σ' := ⟨[], [(8, vb (!(shortN x0 x1))), (3, vb false), (2, V.t (T.nils)), (1, V.t (T.ptr [tl x0, ti x1]))], []⟩) (by kernel_rfl) ⟨by decide, (isShort_C x0 x1 c0), trivial⟩ ?_
  rcases ite_some h with ⟨h1, h⟩ | ⟨h1, h⟩
  · -- yes
    refine WP.cond (b := !(shortN x0 x1)) rfl (fun _ => ?_) (fun hh => by rw [h1] at hh; cases hh)
    simp only [Option.some.injEq, Prod.mk.injEq] at h
    obtain ⟨rfl, rfl⟩ := h
    exact WP.pathG tab_ok mixed [] [.keep [2, 3], .keepO [], .names []] [] _ (r' := V.tup [vo 9000 (List.length ([] : List Int)), vb false]) (ps := []) (r := V.t (T.tup [T.nils, tb false])) (N := []) (O := []) [(9000, 3)] (by kernel_rfl) trivial ⟨(by first | rfl | (simp; done)), (WkT.refl _), trivial⟩ rfl rfl (fun _ h => h)
  · -- no
    refine WP.cond (b := !(shortN x0 x1)) rfl (fun hh => by rw [h1] at hh; cases hh) (fun _ => ?_)
    refine WP.path tab_ok mixed [] [.keep [3, 2, 1], .keepO []] (ps := []) (e := .normal) (σ' := ⟨[], [(3, vb false), (2, V.t (T.nils)), (1, V.t (T.ptr [tl x0, ti x1]))], []⟩) (by kernel_rfl) trivial ?_
    refine WP.seq ?_
    refine WP.path tab_ok mixed [(9, An.id 2009)] [.keep [4, 3, 2, 1], .keepO [2009]] (ps := [(True), (0 = 0 * 1)]) (e := .normal) (σ' := ⟨[2009], [(4, vo 2009 0), (3, vb false), (2, V.t (T.nils)), (1, V.t (T.ptr [tl x0, ti x1]))], [(2009, oc 3 [])]⟩) (by kernel_rfl) ⟨trivial, by decide, trivial⟩ ?_
    obtain ⟨J1, hJ1, h⟩ := jn_some h
    refine WP.joinA (fun (zz : (List Int)) => ⟨[2009], [(4, vo 2009 (List.length zz)), (3, vb false), (2, V.t (T.nils))], [(2009, oc 3 (List.map (T.int .i64) zz))]⟩) (fun zz => J1 zz = some (y0, y1)) ?_ ?_
    · -- to where they meet
      refine WP.seq ?_
      refine WP.path tab_ok mixed [] [.keep [5, 4, 3, 2, 1], .keepO [2009]] (ps := []) (e := .normal) (σ' := ⟨[2009], [(5, vi 1), (4, vo 2009 0), (3, vb false), (2, V.t (T.nils)), (1, V.t (T.ptr [tl x0, ti x1]))], [(2009, oc 3 [])]⟩) (by kernel_rfl) trivial ?_
      refine WP.block ?_
      refine WP.wk [.keep [5, 4, 3, 2, 1], .keepO [2009], .names [(2009, 2009)]] (σ' := ⟨[2009], [(5, vi 1), (4, vo 2009 0), (3, vb false), (2, V.t (T.nils)), (1, V.t (T.ptr [tl x0, ti x1]))], [(2009, oc 3 [])]⟩) (ps := []) (by kernel_rfl) trivial ?_
      refine WP.st (σ' := ⟨[2009], [(5, vi (1 : Int)), (4, vo 2009 (List.length ([] : List Int))), (3, vb false), (2, V.t (T.nils)), (1, V.t (T.ptr [tl x0, ti x1]))], [(2009, oc 3 (List.map (T.int .i64) ([] : List Int)))]⟩) (by first | rfl | (simp only [tlS, tl, vl, vo, oc, ov, tbl, vbl, ty, vy] <;> rfl) | (simp <;> omega) | (simp []; done) | (rw [List.take_of_length_le (by simp [])] <;> rfl)) ?_
      refine WP.loop (α := Nat × (List Int) × Int) (fun zz => ⟨[2009], [(5, vi zz.2.2), (4, vo 2009 (List.length zz.2.1)), (3, vb false), (2, V.t (T.nils)), (1, V.t (T.ptr [tl x0, ti x1]))], [(2009, oc 3 (List.map (T.int .i64) zz.2.1))]⟩) (fun zz => F_impl_UsefulLess_L1 x0 x1 J1 zz.1 zz.2.1 zz.2.2 = some (y0, y1)) (fun zz => zz.1) (fuel, ([] : List Int), (1 : Int)) h ?_
      rintro ⟨n, o9, v5⟩ h0
      have h := (show F_impl_UsefulLess_L1 x0 x1 J1 n o9 v5 = some (y0, y1) from h0)
      rcases n with _ | n
      · rw [F_impl_UsefulLess_L1] at h; cases h
      · rw [F_impl_UsefulLess_L1] at h
        refine WP.seq ?_
        refine WP.seq ?_
        refine WP.path tab_ok mixed [] [.keep [14, 5, 4, 3, 2, 1], .keepO [2009]] (ps := [(True), (True)]) (e := .normal) (σ' := ⟨[2009], [(14, vb (decide (v5 < ((List.length x0 : Nat) : Int)))), (5, vi v5), (4, vo 2009 (List.length o9)), (3, vb false), (2, V.t (T.nils)), (1, V.t (T.ptr [tl x0, ti x1]))], [(2009, oc 3 (List.map (T.int .i64) o9))]⟩) (by kernel_rfl) ⟨trivial, trivial, trivial⟩ ?_
        rcases ite_some h with ⟨h2, h⟩ | ⟨h2, h⟩
        · -- yes
          refine WP.cond (b := decide (v5 < ((List.length x0 : Nat) : Int))) rfl (fun _ => ?_) (fun hh => by rw [h2] at hh; cases hh)
          refine WP.path tab_ok mixed [] [.keep [5, 4, 3, 2, 1], .keepO [2009]] (ps := []) (e := .normal) (σ' := ⟨[2009], [(5, vi v5), (4, vo 2009 (List.length o9)), (3, vb false), (2, V.t (T.nils)), (1, V.t (T.ptr [tl x0, ti x1]))], [(2009, oc 3 (List.map (T.int .i64) o9))]⟩) (by kernel_rfl) trivial ?_
          refine WP.seq ?_
          refine WP.block ?_
          refine WP.seq ?_
          obtain ⟨r19, c1, h⟩ := bnd1_some h
          obtain ⟨r20, c2, h⟩ := bnd1_some h
          refine WP.path tab_ok mixed [(19, An.call (ti r19)), (20, An.call (tb r20))] [.keep [21, 5, 4, 3, 2, 1], .keepO [2009]] (ps := [(2 ≤ 2), (C Try.prog 59 [ti v5] (ti r19)), (C Try.prog 70 [T.agg [tl x0, ti x1], ti r19] (tb r20))]) (e := .normal) (σ' := ⟨[2009], [(21, vb !r20), (5, vi v5), (4, vo 2009 (List.length o9)), (3, vb false), (2, V.t (T.nils)), (1, V.t (T.ptr [tl x0, ti x1]))], [(2009, oc 3 (List.map (T.int .i64) o9))]⟩) (by kernel_rfl) ⟨by decide, (F_impl_less_W v5 r19 c1), (F_impl_State_isVain_W x0 x1 r19 r20 c2), trivial⟩ ?_
          rcases ite_some h with ⟨h3, h⟩ | ⟨h3, h⟩
          · -- yes
            refine WP.cond (b := !r20) rfl (fun _ => ?_) (fun hh => by rw [h3] at hh; cases hh)
            obtain ⟨c3, h⟩ := chk_some h
            refine WP.path tab_ok mixed [(24, An.fz), (25, An.id 2025)] [.keep [4, 5, 3, 2, 1], .keepO [2025]] (ps := [((1 = 1 ∧ 0 + 1 ≤ 1) ∧ True), (1 = 1 * 1), (True), (List.length (List.map (T.int .i64) o9) = (List.length o9) * 1), ((((List.length o9) + 1) * 8 ≤ 140737488355328 ∧ (List.length o9) + 1 ≤ maxLen))]) (e := .normal) (σ' := ⟨[2025, 2009], [(4, vo 2025 ((List.length o9) + 1)), (5, vi v5), (3, vb false), (2, V.t (T.nils)), (1, V.t (T.ptr [tl x0, ti x1]))], [(2025, oc 3 ((List.map (T.int .i64) o9) ++ [ti v5]))]⟩) (by kernel_rfl) ⟨⟨⟨by first | rfl | (simp; done) | (simp []; done) | omega, by first | decide | (simp; done) | (simp []; done) | omega | (simp only [tlL]; omega) | (simp; omega)⟩, trivial⟩, by decide, trivial, by first | rfl | omega | (simp only [tlL] <;> omega) | (simp <;> omega) | (simp [] <;> omega), c3, trivial⟩ ?_
            obtain ⟨c4, h⟩ := chk_some h
            refine WP.path tab_ok mixed [(16, An.v (T.int .i64 (v5 + (1 : Int))))] [.keep [5, 4, 3, 2, 1], .keepO [2025], .names [(2025, 2009)]] (ps := [(True), (T.int .i64 (IntKind.wrap .i64 (v5 + (1 : Int))) = T.int .i64 (v5 + (1 : Int)))]) (e := .normal) (σ' := ⟨[2009], [(5, vi (v5 + (1 : Int))), (4, vo 2009 ((List.length o9) + 1)), (3, vb false), (2, V.t (T.nils)), (1, V.t (T.ptr [tl x0, ti x1]))], [(2009, oc 3 ((List.map (T.int .i64) o9) ++ [ti v5]))]⟩) (by kernel_rfl) ⟨trivial, wrapI c4, trivial⟩ ?_
            exact ⟨(n, o9 ++ [v5], (v5 + (1 : Int))), h, Nat.lt_succ_self _, (by first | rfl | (simp only [tlS, tl, vl, vo, oc, ov, tbl, vbl, ty, vy] <;> rfl) | (simp <;> omega) | (simp []; done) | (rw [List.take_of_length_le (by simp [])] <;> rfl))⟩
          · -- no
            refine WP.cond (b := !r20) rfl (fun hh => by rw [h3] at hh; cases hh) (fun _ => ?_)
            refine WP.path tab_ok mixed [] [.keep [5, 4, 3, 2, 1], .keepO [2009]] (ps := []) (e := .normal) (σ' := ⟨[2009], [(5, vi v5), (4, vo 2009 (List.length o9)), (3, vb false), (2, V.t (T.nils)), (1, V.t (T.ptr [tl x0, ti x1]))], [(2009, oc 3 (List.map (T.int .i64) o9))]⟩) (by kernel_rfl) trivial ?_
            obtain ⟨c3, h⟩ := chk_some h
            refine WP.path tab_ok mixed [(16, An.v (T.int .i64 (v5 + (1 : Int))))] [.keep [5, 4, 3, 2, 1], .keepO [2009], .names [(2009, 2009)]] (ps := [(True), (T.int .i64 (IntKind.wrap .i64 (v5 + (1 : Int))) = T.int .i64 (v5 + (1 : Int)))]) (e := .normal) (σ' := ⟨[2009], [(5, vi (v5 + (1 : Int))), (4, vo 2009 (List.length o9)), (3, vb false), (2, V.t (T.nils)), (1, V.t (T.ptr [tl x0, ti x1]))], [(2009, oc 3 (List.map (T.int .i64) o9))]⟩) (by kernel_rfl) ⟨trivial, wrapI c3, trivial⟩ ?_
            exact ⟨(n, o9, (v5 + (1 : Int))), h, Nat.lt_succ_self _, rfl⟩
        · -- no
          refine WP.cond (b := decide (v5 < ((List.length x0 : Nat) : Int))) rfl (fun hh => by rw [h2] at hh; cases hh) (fun _ => ?_)
          refine WP.path tab_ok mixed [] [.keep [4, 3, 2], .keepO [2009], .names [(2009, 2009)]] (ps := []) (e := (.exit 0)) (σ' := ⟨[2009], [(4, vo 2009 (List.length o9)), (3, vb false), (2, V.t (T.nils))], [(2009, oc 3 (List.map (T.int .i64) o9))]⟩) (by kernel_rfl) trivial ?_
          exact ⟨(o9), h, rfl⟩
    · -- from there
      intro o9 h0
      have h := (show J1 o9 = some (y0, y1) from h0)
      rw [hJ1] at h
      simp only [Option.some.injEq, Prod.mk.injEq] at h
      obtain ⟨rfl, rfl⟩ := h
      exact WP.pathG tab_ok mixed [] [.keep [2, 3], .keepO [2009], .names [(2009, 9000)]] [9000] _ (r' := V.tup [vo 9000 (List.length o9), vb true]) (ps := []) (r := V.tup [vo 9000 (List.length o9), vb true]) (N := [9000]) (O := [(9000, oc 3 (List.map (T.int .i64) o9))]) [] (by kernel_rfl) trivial ⟨rfl, (WkT.refl _), trivial⟩ rfl rfl (fun _ h => h)
theorem F_impl_UsefulLess_W_C (x0 : List Int) (x1 : Int) (y0 : List Int) (y1 : Bool) (h : F_impl_UsefulLess x0 x1 = some (y0, y1)) : C Try.prog 12 [T.agg [tl x0, ti x1]] (T.tup [tl y0, tb y1]) :=
  CG.toC (ps := [(List.length (List.map (T.int .i64) y0) = (List.length y0) * 1)]) (F_impl_UsefulLess_W  x0 x1 y0 y1 h) (by rfl) ⟨by first | rfl | omega | (simp <;> omega) | (simp [hl] <;> omega), trivial⟩
theorem F_spec_l2Open_W (x0 : List Int) (x1 : Int) (y0 : List Int) (h : F_spec_l2Open x0 x1 = some y0) : CG Try.prog 72 [V.t (T.agg [tl x0, ti x1])] [] (vo 9000 (List.length y0)) [(9000, oc 3 (List.map (T.int .i64) y0))] := by
  unfold F_spec_l2Open at h
  refine CG.intro (tab := tab) tab_ok (fn := Try.f72) Try.func72 (by kernel_rfl) rfl (Nat.le_of_ble_eq_true rfl) (by kernel_rfl) ?_
  refine WP.seq ?_
  refine WP.path tab_ok mixed [(1, An.fz)] [.keep [2, 1], .keepO []] (ps := []) (e := .normal) (σ' := ⟨[], [(2, V.t (T.nils)), (1, V.t (T.ptr [tl x0, ti x1]))], []⟩) (by kernel_rfl) trivial ?_
  refine WP.seq ?_
  refine WP.path tab_ok mixed [(5, An.id 2005)] [.keep [3, 2, 1], .keepO [2005]] (ps := [(True), (0 = 0 * 1)]) (e := .normal) (σ' := ⟨[2005], [(3, vo 2005 0), (2, V.t (T.nils)), (1, V.t (T.ptr [tl x0, ti x1]))], [(2005, oc 3 [])]⟩) (by kernel_rfl) ⟨trivial, by decide, trivial⟩ ?_
  obtain ⟨J1, hJ1, h⟩ := jn_some h
  refine WP.joinA (fun (zz : (List Int)) => ⟨[2005], [(3, vo 2005 (List.length zz)), (2, V.t (T.nils))], [(2005, oc 3 (List.map (T.int .i64) zz))]⟩) (fun zz => J1 zz = some y0) ?_ ?_
  · -- to where they meet
    refine WP.seq ?_
    refine WP.path tab_ok mixed [] [.keep [4, 3, 2, 1], .keepO [2005]] (ps := []) (e := .normal) (σ' := ⟨[2005], [(4, vi 0), (3, vo 2005 0), (2, V.t (T.nils)), (1, V.t (T.ptr [tl x0, ti x1]))], [(2005, oc 3 [])]⟩) (by kernel_rfl) trivial ?_
    refine WP.block ?_
    refine WP.wk [.keep [4, 3, 2, 1], .keepO [2005], .names [(2005, 2005)]] (σ' := ⟨[2005], [(4, vi 0), (3, vo 2005 0), (2, V.t (T.nils)), (1, V.t (T.ptr [tl x0, ti x1]))], [(2005, oc 3 [])]⟩) (ps := []) (by kernel_rfl) trivial ?_
    refine WP.st (σ' := ⟨[2005], [(4, vi (0 : Int)), (3, vo 2005 (List.length ([] : List Int))), (2, V.t (T.nils)), (1, V.t (T.ptr [tl x0, ti x1]))], [(2005, oc 3 (List.map (T.int .i64) ([] : List Int)))]⟩) (by first | rfl | (simp only [tlS, tl, vl, vo, oc, ov, tbl, vbl, ty, vy] <;> rfl) | (simp <;> omega) | (simp []; done) | (rw [List.take_of_length_le (by simp [])] <;> rfl)) ?_
    refine WP.loop (α := Nat × (List Int) × Int) (fun zz => ⟨[2005], [(4, vi zz.2.2), (3, vo 2005 (List.length zz.2.1)), (2, V.t (T.nils)), (1, V.t (T.ptr [tl x0, ti x1]))], [(2005, oc 3 (List.map (T.int .i64) zz.2.1))]⟩) (fun zz => F_spec_l2Open_L1 x0 J1 zz.1 zz.2.1 zz.2.2 = some y0) (fun zz => zz.1) (fuel, ([] : List Int), (0 : Int)) h ?_
    rintro ⟨n, o5, v4⟩ h0
    have h := (show F_spec_l2Open_L1 x0 J1 n o5 v4 = some y0 from h0)
    rcases n with _ | n
    · rw [F_spec_l2Open_L1] at h; cases h
    · rw [F_spec_l2Open_L1] at h
      refine WP.seq ?_
      refine WP.seq ?_
      refine WP.path tab_ok mixed [] [.keep [10, 4, 3, 2, 1], .keepO [2005]] (ps := [(True), (True)]) (e := .normal) (σ' := ⟨[2005], [(10, vb (decide (v4 < ((List.length x0 : Nat) : Int)))), (4, vi v4), (3, vo 2005 (List.length o5)), (2, V.t (T.nils)), (1, V.t (T.ptr [tl x0, ti x1]))], [(2005, oc 3 (List.map (T.int .i64) o5))]⟩) (by kernel_rfl) ⟨trivial, trivial, trivial⟩ ?_
      rcases ite_some h with ⟨h1, h⟩ | ⟨h1, h⟩
      · -- yes
        refine WP.cond (b := decide (v4 < ((List.length x0 : Nat) : Int))) rfl (fun _ => ?_) (fun hh => by rw [h1] at hh; cases hh)
        refine WP.path tab_ok mixed [] [.keep [4, 3, 2, 1], .keepO [2005]] (ps := []) (e := .normal) (σ' := ⟨[2005], [(4, vi v4), (3, vo 2005 (List.length o5)), (2, V.t (T.nils)), (1, V.t (T.ptr [tl x0, ti x1]))], [(2005, oc 3 (List.map (T.int .i64) o5))]⟩) (by kernel_rfl) trivial ?_
        refine WP.seq ?_
        refine WP.block ?_
        refine WP.seq ?_
        obtain ⟨c0, h⟩ := chk_some h
        refine WP.path tab_ok mixed [(17, An.v (ti (List.getD x0 (Int.toNat v4) 0)))] [.keep [18, 4, 3, 2, 1], .keepO [2005]] (ps := [(True), ((0 ≤ v4 ∧ v4 < ((List.length x0 : Nat) : Int))), ((List.drop ((Int.toNat v4) * 1) (List.map (T.int .i64) x0) : List T)[0]? = some (ti (List.getD x0 (Int.toNat v4) 0))), (ti (List.getD x0 (Int.toNat v4) 0) = ti (List.getD x0 (Int.toNat v4) 0)), (True)]) (e := .normal) (σ' := ⟨[2005], [(18, vb (decide ((List.getD x0 (Int.toNat v4) 0) ≥ (0 : Int)))), (4, vi v4), (3, vo 2005 (List.length o5)), (2, V.t (T.nils)), (1, V.t (T.ptr [tl x0, ti x1]))], [(2005, oc 3 (List.map (T.int .i64) o5))]⟩) (by kernel_rfl) ⟨trivial, c0, at1 (by simp) (by omega), rfl, trivial, trivial⟩ ?_
        rcases ite_some h with ⟨h2, h⟩ | ⟨h2, h⟩
        · -- yes
          refine WP.cond (b := decide ((List.getD x0 (Int.toNat v4) 0) ≥ (0 : Int))) rfl (fun _ => ?_) (fun hh => by rw [h2] at hh; cases hh)
          obtain ⟨c1, h⟩ := chk_some h
          refine WP.path tab_ok mixed [(21, An.fz), (22, An.id 2022)] [.keep [3, 4, 2, 1], .keepO [2022]] (ps := [((1 = 1 ∧ 0 + 1 ≤ 1) ∧ True), (1 = 1 * 1), (True), (List.length (List.map (T.int .i64) o5) = (List.length o5) * 1), ((((List.length o5) + 1) * 8 ≤ 140737488355328 ∧ (List.length o5) + 1 ≤ maxLen))]) (e := .normal) (σ' := ⟨[2022, 2005], [(3, vo 2022 ((List.length o5) + 1)), (4, vi v4), (2, V.t (T.nils)), (1, V.t (T.ptr [tl x0, ti x1]))], [(2022, oc 3 ((List.map (T.int .i64) o5) ++ [ti v4]))]⟩) (by kernel_rfl) ⟨⟨⟨by first | rfl | (simp; done) | (simp []; done) | omega, by first | decide | (simp; done) | (simp []; done) | omega | (simp only [tlL]; omega) | (simp; omega)⟩, trivial⟩, by decide, trivial, by first | rfl | omega | (simp only [tlL] <;> omega) | (simp <;> omega) | (simp [] <;> omega), c1, trivial⟩ ?_
          obtain ⟨c2, h⟩ := chk_some h
          refine WP.path tab_ok mixed [(12, An.v (T.int .i64 (v4 + (1 : Int))))] [.keep [4, 3, 2, 1], .keepO [2022], .names [(2022, 2005)]] (ps := [(True), (T.int .i64 (IntKind.wrap .i64 (v4 + (1 : Int))) = T.int .i64 (v4 + (1 : Int)))]) (e := .normal) (σ' := ⟨[2005], [(4, vi (v4 + (1 : Int))), (3, vo 2005 ((List.length o5) + 1)), (2, V.t (T.nils)), (1, V.t (T.ptr [tl x0, ti x1]))], [(2005, oc 3 ((List.map (T.int .i64) o5) ++ [ti v4]))]⟩) (by kernel_rfl) ⟨trivial, wrapI c2, trivial⟩ ?_
          exact ⟨(n, o5 ++ [v4], (v4 + (1 : Int))), h, Nat.lt_succ_self _, (by first | rfl | (simp only [tlS, tl, vl, vo, oc, ov, tbl, vbl, ty, vy] <;> rfl) | (simp <;> omega) | (simp []; done) | (rw [List.take_of_length_le (by simp [])] <;> rfl))⟩
        · -- no
          refine WP.cond (b := decide ((List.getD x0 (Int.toNat v4) 0) ≥ (0 : Int))) rfl (fun hh => by rw [h2] at hh; cases hh) (fun _ => ?_)
          refine WP.path tab_ok mixed [] [.keep [4, 3, 2, 1], .keepO [2005]] (ps := []) (e := .normal) (σ' := ⟨[2005], [(4, vi v4), (3, vo 2005 (List.length o5)), (2, V.t (T.nils)), (1, V.t (T.ptr [tl x0, ti x1]))], [(2005, oc 3 (List.map (T.int .i64) o5))]⟩) (by kernel_rfl) trivial ?_
          obtain ⟨c1, h⟩ := chk_some h
          refine WP.path tab_ok mixed [(12, An.v (T.int .i64 (v4 + (1 : Int))))] [.keep [4, 3, 2, 1], .keepO [2005], .names [(2005, 2005)]] (ps := [(True), (T.int .i64 (IntKind.wrap .i64 (v4 + (1 : Int))) = T.int .i64 (v4 + (1 : Int)))]) (e := .normal) (σ' := ⟨[2005], [(4, vi (v4 + (1 : Int))), (3, vo 2005 (List.length o5)), (2, V.t (T.nils)), (1, V.t (T.ptr [tl x0, ti x1]))], [(2005, oc 3 (List.map (T.int .i64) o5))]⟩) (by kernel_rfl) ⟨trivial, wrapI c1, trivial⟩ ?_
          exact ⟨(n, o5, (v4 + (1 : Int))), h, Nat.lt_succ_self _, rfl⟩
      · -- no
        refine WP.cond (b := decide (v4 < ((List.length x0 : Nat) : Int))) rfl (fun hh => by rw [h1] at hh; cases hh) (fun _ => ?_)
        refine WP.path tab_ok mixed [] [.keep [3, 2], .keepO [2005], .names [(2005, 2005)]] (ps := []) (e := (.exit 0)) (σ' := ⟨[2005], [(3, vo 2005 (List.length o5)), (2, V.t (T.nils))], [(2005, oc 3 (List.map (T.int .i64) o5))]⟩) (by kernel_rfl) trivial ?_
        exact ⟨(o5), h, rfl⟩
  · -- from there
    intro o5 h0
    have h := (show J1 o5 = some y0 from h0)
    rw [hJ1] at h
    have h := Option.some.inj h
    subst h
    exact WP.pathG tab_ok mixed [] [.keep [2], .keepO [2005], .names [(2005, 9000)]] [9000] _ (r' := vo 9000 (List.length o5)) (ps := []) (r := vo 9000 (List.length o5)) (N := [9000]) (O := [(9000, oc 3 (List.map (T.int .i64) o5))]) [] (by kernel_rfl) trivial ⟨rfl, trivial⟩ rfl rfl (fun _ h => h)
theorem F_spec_l2Open_W_C (x0 : List Int) (x1 : Int) (y0 : List Int) (h : F_spec_l2Open x0 x1 = some y0) : C Try.prog 72 [T.agg [tl x0, ti x1]] (tl y0) :=
  CG.toC (ps := [(List.length (List.map (T.int .i64) y0) = (List.length y0) * 1)]) (F_spec_l2Open_W  x0 x1 y0 h) (by rfl) ⟨by first | rfl | omega | (simp <;> omega) | (simp [hl] <;> omega), trivial⟩
theorem F_spec_l2Vain_W (x0 : List Int) (x1 : Int) (x2 : Int) (y0 : Bool) (h : F_spec_l2Vain x0 x1 x2 = some y0) : C Try.prog 71 [T.agg [tl x0, ti x1], ti x2] (tb y0) := by
  unfold F_spec_l2Vain at h
  refine C.intro (tab := tab) tab_ok (fn := Try.f71) Try.func71 (by kernel_rfl) rfl (Nat.le_of_ble_eq_true rfl) ?_
  refine WP.seq ?_
  refine WP.path tab_ok mixed [(2, An.fz)] [.keep [4, 2, 1], .keepO []] (ps := []) (e := .normal) (σ' := ⟨[], [(4, vb false), (2, V.t (T.ptr [tl x0, ti x1])), (1, vi x2)], []⟩) (by kernel_rfl) trivial ?_
  refine WP.seq ?_
  obtain ⟨r9, c0, h⟩ := bnd1_some h
  refine WP.path tab_ok mixed [(9, An.callG [(9000, 10090)] [V.t (T.agg [tl x0, ti x1])] [] (vo 9000 (List.length r9)) [(9000, oc 3 (List.map (T.int .i64) r9))])] [.keep [6, 5, 4, 1], .keepO [10090]] (ps := [(2 ≤ 2), (CG Try.prog 72 [V.t (T.agg [tl x0, ti x1])] [] (vo 9000 (List.length r9)) [(9000, oc 3 (List.map (T.int .i64) r9))]), (WkT (T.agg [tl x0, ti x1]) (T.agg [tl x0, ti x1]))]) (e := .normal) (σ' := ⟨[10090], [(6, vi 0), (5, vo 10090 (List.length r9)), (4, vb false), (1, vi x2)], [(10090, oc 3 (List.map (T.int .i64) r9))]⟩) (by kernel_rfl) ⟨by decide, (F_spec_l2Open_W x0 x1 r9 c0), WkT.refl _, trivial⟩ ?_
  obtain ⟨J1, hJ1, h⟩ := jn_some h
  refine WP.joinA (fun (zz : Int) => ⟨[10090], [(6, vi zz), (5, vo 10090 (List.length r9)), (4, vb false)], [(10090, oc 3 (List.map (T.int .i64) r9))]⟩) (fun zz => J1 zz = some y0) ?_ ?_
  · -- to where they meet
    refine WP.seq ?_
    refine WP.path tab_ok mixed [] [.keep [7, 6, 5, 4, 1], .keepO [10090]] (ps := []) (e := .normal) (σ' := ⟨[10090], [(7, vi 0), (6, vi 0), (5, vo 10090 (List.length r9)), (4, vb false), (1, vi x2)], [(10090, oc 3 (List.map (T.int .i64) r9))]⟩) (by kernel_rfl) trivial ?_
    refine WP.block ?_
    refine WP.wk [.keep [7, 6, 5, 4, 1], .keepO [10090], .names [(10090, 10090)]] (σ' := ⟨[10090], [(7, vi 0), (6, vi 0), (5, vo 10090 (List.length r9)), (4, vb false), (1, vi x2)], [(10090, oc 3 (List.map (T.int .i64) r9))]⟩) (ps := []) (by kernel_rfl) trivial ?_
    refine WP.st (σ' := ⟨[10090], [(7, vi (0 : Int)), (6, vi (0 : Int)), (5, vo 10090 (List.length r9)), (4, vb false), (1, vi x2)], [(10090, oc 3 (List.map (T.int .i64) r9))]⟩) (by first | rfl | (simp only [tlS, tl, vl, vo, oc, ov, tbl, vbl, ty, vy] <;> rfl) | (simp <;> omega) | (simp []; done) | (rw [List.take_of_length_le (by simp [])] <;> rfl)) ?_
    refine WP.loop (α := Nat × Int × Int) (fun zz => ⟨[10090], [(7, vi zz.2.1), (6, vi zz.2.2), (5, vo 10090 (List.length r9)), (4, vb false), (1, vi x2)], [(10090, oc 3 (List.map (T.int .i64) r9))]⟩) (fun zz => F_spec_l2Vain_L1 x2 r9 J1 zz.1 zz.2.1 zz.2.2 = some y0) (fun zz => zz.1) (fuel, (0 : Int), (0 : Int)) h ?_
    rintro ⟨n, v7, v6⟩ h0
    have h := (show F_spec_l2Vain_L1 x2 r9 J1 n v7 v6 = some y0 from h0)
    rcases n with _ | n
    · rw [F_spec_l2Vain_L1] at h; cases h
    · rw [F_spec_l2Vain_L1] at h
      refine WP.seq ?_
      refine WP.seq ?_
      refine WP.path tab_ok mixed [] [.keep [13, 7, 6, 5, 4, 1], .keepO [10090]] (ps := [(True)]) (e := .normal) (σ' := ⟨[10090], [(13, vb (decide (v7 < ((List.length r9 : Nat) : Int)))), (7, vi v7), (6, vi v6), (5, vo 10090 (List.length r9)), (4, vb false), (1, vi x2)], [(10090, oc 3 (List.map (T.int .i64) r9))]⟩) (by kernel_rfl) ⟨trivial, trivial⟩ ?_
      rcases ite_some h with ⟨h1, h⟩ | ⟨h1, h⟩
      · -- yes
        refine WP.cond (b := decide (v7 < ((List.length r9 : Nat) : Int))) rfl (fun _ => ?_) (fun hh => by rw [h1] at hh; cases hh)
        refine WP.path tab_ok mixed [] [.keep [7, 6, 5, 4, 1], .keepO [10090]] (ps := []) (e := .normal) (σ' := ⟨[10090], [(7, vi v7), (6, vi v6), (5, vo 10090 (List.length r9)), (4, vb false), (1, vi x2)], [(10090, oc 3 (List.map (T.int .i64) r9))]⟩) (by kernel_rfl) trivial ?_
        refine WP.seq ?_
        refine WP.block ?_
        obtain ⟨c1, h⟩ := chk_some h
        obtain ⟨c2, h⟩ := chk_some h
        obtain ⟨n23, c3, h⟩ := nam_some h
        obtain ⟨c4, h⟩ := chk_some h
        refine WP.path tab_ok mixed [(21, An.v (ti (List.getD r9 (Int.toNat v7) 0))), (22, An.v (T.int .i64 (x2 / 2 ^ Int.toNat (List.getD r9 (Int.toNat v7) 0)))), (23, An.v (ti n23)), (24, An.v (T.int .i64 (v6 + n23)))] [.keep [6, 7, 5, 4, 1], .keepO [10090]] (ps := [((0 ≤ v7 ∧ v7 < ((List.length r9 : Nat) : Int))), ((List.map (T.int .i64) r9 : List T)[(Int.toNat v7) * 1]? = some (ti (List.getD r9 (Int.toNat v7) 0))), (ti (List.getD r9 (Int.toNat v7) 0) = ti (List.getD r9 (Int.toNat v7) 0)), (0 ≤ (List.getD r9 (Int.toNat v7) 0)), (T.int .i64 (Int.fdiv x2 (2 ^ (min (Int.toNat (List.getD r9 (Int.toNat v7) 0)) 64))) = T.int .i64 (x2 / 2 ^ Int.toNat (List.getD r9 (Int.toNat v7) 0))), (True), (ti (bits .and .i64 (x2 / 2 ^ Int.toNat (List.getD r9 (Int.toNat v7) 0)) (1 : Int)) = ti n23), (True), (T.int .i64 (IntKind.wrap .i64 (v6 + n23)) = T.int .i64 (v6 + n23))]) (e := .normal) (σ' := ⟨[10090], [(6, vi (v6 + n23)), (7, vi v7), (5, vo 10090 (List.length r9)), (4, vb false), (1, vi x2)], [(10090, oc 3 (List.map (T.int .i64) r9))]⟩) (by kernel_rfl) ⟨c1, atM (by simp) (by first | omega | (simp only [tlL]; omega) | (simp; omega)), rfl, c2.1, shr_told c2, trivial, congrArg (ti) c3, trivial, wrapI c4, trivial⟩ ?_
        obtain ⟨c5, h⟩ := chk_some h
        refine WP.path tab_ok mixed [(15, An.v (T.int .i64 (v7 + (1 : Int))))] [.keep [7, 6, 5, 4, 1], .keepO [10090], .names [(10090, 10090)]] (ps := [(True), (T.int .i64 (IntKind.wrap .i64 (v7 + (1 : Int))) = T.int .i64 (v7 + (1 : Int)))]) (e := .normal) (σ' := ⟨[10090], [(7, vi (v7 + (1 : Int))), (6, vi (v6 + n23)), (5, vo 10090 (List.length r9)), (4, vb false), (1, vi x2)], [(10090, oc 3 (List.map (T.int .i64) r9))]⟩) (by kernel_rfl) ⟨trivial, wrapI c5, trivial⟩ ?_
        exact ⟨(n, (v7 + (1 : Int)), (v6 + n23)), h, Nat.lt_succ_self _, rfl⟩
      · -- no
        refine WP.cond (b := decide (v7 < ((List.length r9 : Nat) : Int))) rfl (fun hh => by rw [h1] at hh; cases hh) (fun _ => ?_)
        refine WP.path tab_ok mixed [] [.keep [6, 5, 4], .keepO [10090], .names [(10090, 10090)]] (ps := []) (e := (.exit 0)) (σ' := ⟨[10090], [(6, vi v6), (5, vo 10090 (List.length r9)), (4, vb false)], [(10090, oc 3 (List.map (T.int .i64) r9))]⟩) (by kernel_rfl) trivial ?_
        exact ⟨(v6), h, rfl⟩
  · -- from there
    intro v6 h0
    have h := (show J1 v6 = some y0 from h0)
    rw [hJ1] at h
    rcases ite_some h with ⟨h2, h⟩ | ⟨h2, h⟩
    · -- yes
      have h := Option.some.inj h
      subst h
      exact WP.pathW tab_ok mixed [(26, An.b true)] _ (ps := [(True), ((v6 == (0 : Int)) = true)]) (r := tb true) (by kernel_rfl) ⟨trivial, h2, trivial⟩ (WkT.eq (y := tb true) (WkT.refl _) rfl) (fun _ h => h)
    · -- no
      have h := Option.some.inj h
      subst h
      exact WP.pathW tab_ok mixed [(26, An.b false)] _ (ps := [(True), ((v6 == (0 : Int)) = false), (True)]) (r := tb (v6 == ((List.length r9 : Nat) : Int))) (by kernel_rfl) ⟨trivial, h2, trivial, trivial⟩ (WkT.eq (y := tb (v6 == ((List.length r9 : Nat) : Int))) (WkT.refl _) rfl) (fun _ h => h)
theorem F_spec_UsefulLess_W (x0 : List Int) (x1 : Int) (y0 : List Int) (y1 : Bool) (h : F_spec_UsefulLess x0 x1 = some (y0, y1)) : CG Try.prog 13 [V.t (T.agg [tl x0, ti x1])] [] (V.tup [vo 9000 (List.length y0), vb y1]) [(9000, oc 3 (List.map (T.int .i64) y0))] := by
  unfold F_spec_UsefulLess at h
  refine CG.intro (tab := tab) tab_ok (fn := Try.f13) Try.func13 (by kernel_rfl) rfl (Nat.le_of_ble_eq_true rfl) (by kernel_rfl) ?_
  refine WP.seq ?_
  refine WP.path tab_ok mixed [(1, An.fz)] [.keep [3, 2, 1], .keepO []] (ps := []) (e := .normal) (σ' := ⟨[], [(3, vb false), (2, V.t (T.nils)), (1, V.t (T.ptr [tl x0, ti x1]))], []⟩) (by kernel_rfl) trivial ?_
  refine WP.seq ?_
  refine WP.path tab_ok mixed [(6, An.id 2006)] [.keep [4, 3, 2, 1], .keepO [2006]] (ps := [(True), (0 = 0 * 1)]) (e := .normal) (σ' := ⟨[2006], [(4, vo 2006 0), (3, vb false), (2, V.t (T.nils)), (1, V.t (T.ptr [tl x0, ti x1]))], [(2006, oc 3 [])]⟩) (by kernel_rfl) ⟨trivial, by decide, trivial⟩ ?_
  refine WP.seq ?_
  refine WP.seq ?_
  obtain ⟨c0, h⟩ := chk_some h
  refine WP.path tab_ok mixed [(8, An.call (tb (shortN x0 x1)))] [.keep [9, 4, 3, 2, 1], .keepO [2006]] (ps := [(2 ≤ 2), (C Try.prog 63 [T.agg [tl x0, ti x1]] (tb (shortN x0 x1)))]) (e := .normal) (σ' := ⟨[2006], [(9, vb (!(shortN x0 x1))), (4, vo 2006 0), (3, vb false), (2, V.t (T.nils)), (1, V.t (T.ptr [tl x0, ti x1]))], [(2006, oc 3 [])]⟩) (by kernel_rfl) ⟨by decide, (l6Short_C x0 x1 c0), trivial⟩ ?_
  rcases ite_some h with ⟨h1, h⟩ | ⟨h1, h⟩
  · -- yes
    refine WP.cond (b := !(shortN x0 x1)) rfl (fun _ => ?_) (fun hh => by rw [h1] at hh; cases hh)
    simp only [Option.some.injEq, Prod.mk.injEq] at h
    obtain ⟨rfl, rfl⟩ := h
    exact WP.pathG tab_ok mixed [] [.keep [2, 3], .keepO [2006], .names [(2006, 9000)]] [9000] _ (r' := V.tup [vo 9000 (List.length []), vb false]) (ps := []) (r := V.tup [vo 9000 0, vb false]) (N := [9000]) (O := [(9000, oc 3 [])]) [] (by kernel_rfl) trivial ⟨(congrArg (V.own 9000 1) (by first | rfl | (simp only [tlS, tl, vl, vo, oc, ov, tbl, vbl, ty, vy] <;> rfl) | (simp <;> omega) | (simp []; done) | (rw [List.take_of_length_le (by simp [])] <;> rfl))), (WkT.refl _), trivial⟩ rfl (by first | rfl | (simp only [tlS, tl, vl, vo, oc, ov, tbl, vbl, ty, vy] <;> rfl) | (simp <;> omega) | (simp []; done) | (rw [List.take_of_length_le (by simp [])] <;> rfl)) (fun _ h => h)
  · -- no
    refine WP.cond (b := !(shortN x0 x1)) rfl (fun hh => by rw [h1] at hh; cases hh) (fun _ => ?_)
    refine WP.path tab_ok mixed [] [.keep [4, 3, 2, 1], .keepO [2006]] (ps := []) (e := .normal) (σ' := ⟨[2006], [(4, vo 2006 0), (3, vb false), (2, V.t (T.nils)), (1, V.t (T.ptr [tl x0, ti x1]))], [(2006, oc 3 [])]⟩) (by kernel_rfl) trivial ?_
    obtain ⟨J1, hJ1, h⟩ := jn_some h
    refine WP.joinA (fun (zz : (List Int)) => ⟨[2006], [(4, vo 2006 (List.length zz)), (3, vb false), (2, V.t (T.nils))], [(2006, oc 3 (List.map (T.int .i64) zz))]⟩) (fun zz => J1 zz = some (y0, y1)) ?_ ?_
    · -- to where they meet
      refine WP.seq ?_
      refine WP.path tab_ok mixed [] [.keep [5, 4, 3, 2, 1], .keepO [2006]] (ps := []) (e := .normal) (σ' := ⟨[2006], [(5, vi 1), (4, vo 2006 0), (3, vb false), (2, V.t (T.nils)), (1, V.t (T.ptr [tl x0, ti x1]))], [(2006, oc 3 [])]⟩) (by kernel_rfl) trivial ?_
      refine WP.block ?_
      refine WP.wk [.keep [5, 4, 3, 2, 1], .keepO [2006], .names [(2006, 2006)]] (σ' := ⟨[2006], [(5, vi 1), (4, vo 2006 0), (3, vb false), (2, V.t (T.nils)), (1, V.t (T.ptr [tl x0, ti x1]))], [(2006, oc 3 [])]⟩) (ps := []) (by kernel_rfl) trivial ?_
      refine WP.st (σ' := ⟨[2006], [(5, vi (1 : Int)), (4, vo 2006 (List.length ([] : List Int))), (3, vb false), (2, V.t (T.nils)), (1, V.t (T.ptr [tl x0, ti x1]))], [(2006, oc 3 (List.map (T.int .i64) ([] : List Int)))]⟩) (by first | rfl | (simp only [tlS, tl, vl, vo, oc, ov, tbl, vbl, ty, vy] <;> rfl) | (simp <;> omega) | (simp []; done) | (rw [List.take_of_length_le (by simp [])] <;> rfl)) ?_
      refine WP.loop (α := Nat × (List Int) × Int) (fun zz => ⟨[2006], [(5, vi zz.2.2), (4, vo 2006 (List.length zz.2.1)), (3, vb false), (2, V.t (T.nils)), (1, V.t (T.ptr [tl x0, ti x1]))], [(2006, oc 3 (List.map (T.int .i64) zz.2.1))]⟩) (fun zz => F_spec_UsefulLess_L1 x0 x1 J1 zz.1 zz.2.1 zz.2.2 = some (y0, y1)) (fun zz => zz.1) (fuel, ([] : List Int), (1 : Int)) h ?_
      rintro ⟨n, o6, v5⟩ h0
      have h := (show F_spec_UsefulLess_L1 x0 x1 J1 n o6 v5 = some (y0, y1) from h0)
      rcases n with _ | n
      · rw [F_spec_UsefulLess_L1] at h; cases h
      · rw [F_spec_UsefulLess_L1] at h
        refine WP.seq ?_
        refine WP.seq ?_
        refine WP.path tab_ok mixed [] [.keep [15, 5, 4, 3, 2, 1], .keepO [2006]] (ps := [(True), (True)]) (e := .normal) (σ' := ⟨[2006], [(15, vb (decide (v5 < ((List.length x0 : Nat) : Int)))), (5, vi v5), (4, vo 2006 (List.length o6)), (3, vb false), (2, V.t (T.nils)), (1, V.t (T.ptr [tl x0, ti x1]))], [(2006, oc 3 (List.map (T.int .i64) o6))]⟩) (by kernel_rfl) ⟨trivial, trivial, trivial⟩ ?_
        rcases ite_some h with ⟨h2, h⟩ | ⟨h2, h⟩
        · -- yes
          refine WP.cond (b := decide (v5 < ((List.length x0 : Nat) : Int))) rfl (fun _ => ?_) (fun hh => by rw [h2] at hh; cases hh)
          refine WP.path tab_ok mixed [] [.keep [5, 4, 3, 2, 1], .keepO [2006]] (ps := []) (e := .normal) (σ' := ⟨[2006], [(5, vi v5), (4, vo 2006 (List.length o6)), (3, vb false), (2, V.t (T.nils)), (1, V.t (T.ptr [tl x0, ti x1]))], [(2006, oc 3 (List.map (T.int .i64) o6))]⟩) (by kernel_rfl) trivial ?_
          refine WP.seq ?_
          refine WP.block ?_
          refine WP.seq ?_
          obtain ⟨c1, h⟩ := chk_some h
          obtain ⟨c2, h⟩ := chk_some h
          obtain ⟨n21, c3, h⟩ := nam_some h
          obtain ⟨r22, c4, h⟩ := bnd1_some h
          refine WP.path tab_ok mixed [(20, An.v (T.int .i64 ((1 : Int) * 2 ^ Int.toNat v5))), (21, An.v (ti n21)), (22, An.call (tb r22))] [.keep [23, 5, 4, 3, 2, 1], .keepO [2006]] (ps := [(2 ≤ 2), (0 ≤ v5), (T.int .i64 (IntKind.wrap .i64 ((1 : Int) * 2 ^ (min (Int.toNat v5) 64))) = T.int .i64 ((1 : Int) * 2 ^ Int.toNat v5)), (True), (T.int .i64 (IntKind.wrap .i64 (((1 : Int) * 2 ^ Int.toNat v5) - (1 : Int))) = ti n21), (C Try.prog 71 [T.agg [tl x0, ti x1], ti n21] (tb r22))]) (e := .normal) (σ' := ⟨[2006], [(23, vb !r22), (5, vi v5), (4, vo 2006 (List.length o6)), (3, vb false), (2, V.t (T.nils)), (1, V.t (T.ptr [tl x0, ti x1]))], [(2006, oc 3 (List.map (T.int .i64) o6))]⟩) (by kernel_rfl) ⟨by decide, c1.1, shl_told c1, trivial, Eq.trans (wrapI c2) (congrArg (ti) c3), (F_spec_l2Vain_W x0 x1 n21 r22 c4), trivial⟩ ?_
          rcases ite_some h with ⟨h3, h⟩ | ⟨h3, h⟩
          · -- yes
            refine WP.cond (b := !r22) rfl (fun _ => ?_) (fun hh => by rw [h3] at hh; cases hh)
            obtain ⟨c5, h⟩ := chk_some h
            refine WP.path tab_ok mixed [(26, An.fz), (27, An.id 2027)] [.keep [4, 5, 3, 2, 1], .keepO [2027]] (ps := [((1 = 1 ∧ 0 + 1 ≤ 1) ∧ True), (1 = 1 * 1), (True), (List.length (List.map (T.int .i64) o6) = (List.length o6) * 1), ((((List.length o6) + 1) * 8 ≤ 140737488355328 ∧ (List.length o6) + 1 ≤ maxLen))]) (e := .normal) (σ' := ⟨[2027, 2006], [(4, vo 2027 ((List.length o6) + 1)), (5, vi v5), (3, vb false), (2, V.t (T.nils)), (1, V.t (T.ptr [tl x0, ti x1]))], [(2027, oc 3 ((List.map (T.int .i64) o6) ++ [ti v5]))]⟩) (by kernel_rfl) ⟨⟨⟨by first | rfl | (simp; done) | (simp []; done) | omega, by first | decide | (simp; done) | (simp []; done) | omega | (simp only [tlL]; omega) | (simp; omega)⟩, trivial⟩, by decide, trivial, by first | rfl | omega | (simp only [tlL] <;> omega) | (simp <;> omega) | (simp [] <;> omega), c5, trivial⟩ ?_
            obtain ⟨c6, h⟩ := chk_some h
            refine WP.path tab_ok mixed [(17, An.v (T.int .i64 (v5 + (1 : Int))))] [.keep [5, 4, 3, 2, 1], .keepO [2027], .names [(2027, 2006)]] (ps := [(True), (T.int .i64 (IntKind.wrap .i64 (v5 + (1 : Int))) = T.int .i64 (v5 + (1 : Int)))]) (e := .normal) (σ' := ⟨[2006], [(5, vi (v5 + (1 : Int))), (4, vo 2006 ((List.length o6) + 1)), (3, vb false), (2, V.t (T.nils)), (1, V.t (T.ptr [tl x0, ti x1]))], [(2006, oc 3 ((List.map (T.int .i64) o6) ++ [ti v5]))]⟩) (by kernel_rfl) ⟨trivial, wrapI c6, trivial⟩ ?_
            exact ⟨(n, o6 ++ [v5], (v5 + (1 : Int))), h, Nat.lt_succ_self _, (by first | rfl | (simp only [tlS, tl, vl, vo, oc, ov, tbl, vbl, ty, vy] <;> rfl) | (simp <;> omega) | (simp []; done) | (rw [List.take_of_length_le (by simp [])] <;> rfl))⟩
          · -- no
            refine WP.cond (b := !r22) rfl (fun hh => by rw [h3] at hh; cases hh) (fun _ => ?_)
            refine WP.path tab_ok mixed [] [.keep [5, 4, 3, 2, 1], .keepO [2006]] (ps := []) (e := .normal) (σ' := ⟨[2006], [(5, vi v5), (4, vo 2006 (List.length o6)), (3, vb false), (2, V.t (T.nils)), (1, V.t (T.ptr [tl x0, ti x1]))], [(2006, oc 3 (List.map (T.int .i64) o6))]⟩) (by kernel_rfl) trivial ?_
            obtain ⟨c5, h⟩ := chk_some h
            refine WP.path tab_ok mixed [(17, An.v (T.int .i64 (v5 + (1 : Int))))] [.keep [5, 4, 3, 2, 1], .keepO [2006], .names [(2006, 2006)]] (ps := [(True), (T.int .i64 (IntKind.wrap .i64 (v5 + (1 : Int))) = T.int .i64 (v5 + (1 : Int)))]) (e := .normal) (σ' := ⟨[2006], [(5, vi (v5 + (1 : Int))), (4, vo 2006 (List.length o6)), (3, vb false), (2, V.t (T.nils)), (1, V.t (T.ptr [tl x0, ti x1]))], [(2006, oc 3 (List.map (T.int .i64) o6))]⟩) (by kernel_rfl) ⟨trivial, wrapI c5, trivial⟩ ?_
            exact ⟨(n, o6, (v5 + (1 : Int))), h, Nat.lt_succ_self _, rfl⟩
        · -- no
          refine WP.cond (b := decide (v5 < ((List.length x0 : Nat) : Int))) rfl (fun hh => by rw [h2] at hh; cases hh) (fun _ => ?_)
          refine WP.path tab_ok mixed [] [.keep [4, 3, 2], .keepO [2006], .names [(2006, 2006)]] (ps := []) (e := (.exit 0)) (σ' := ⟨[2006], [(4, vo 2006 (List.length o6)), (3, vb false), (2, V.t (T.nils))], [(2006, oc 3 (List.map (T.int .i64) o6))]⟩) (by kernel_rfl) trivial ?_
          exact ⟨(o6), h, rfl⟩
    · -- from there
      intro o6 h0
      have h := (show J1 o6 = some (y0, y1) from h0)
      rw [hJ1] at h
      simp only [Option.some.injEq, Prod.mk.injEq] at h
      obtain ⟨rfl, rfl⟩ := h
      exact WP.pathG tab_ok mixed [] [.keep [2, 3], .keepO [2006], .names [(2006, 9000)]] [9000] _ (r' := V.tup [vo 9000 (List.length o6), vb true]) (ps := []) (r := V.tup [vo 9000 (List.length o6), vb true]) (N := [9000]) (O := [(9000, oc 3 (List.map (T.int .i64) o6))]) [] (by kernel_rfl) trivial ⟨rfl, (WkT.refl _), trivial⟩ rfl rfl (fun _ h => h)
theorem F_spec_UsefulLess_W_C (x0 : List Int) (x1 : Int) (y0 : List Int) (y1 : Bool) (h : F_spec_UsefulLess x0 x1 = some (y0, y1)) : C Try.prog 13 [T.agg [tl x0, ti x1]] (T.tup [tl y0, tb y1]) :=
  CG.toC (ps := [(List.length (List.map (T.int .i64) y0) = (List.length y0) * 1)]) (F_spec_UsefulLess_W  x0 x1 y0 y1 h) (by rfl) ⟨by first | rfl | omega | (simp <;> omega) | (simp [hl] <;> omega), trivial⟩
theorem F_laws_rInts_W (x0 : List Int) (x1 : List Int) (y0 : Bool) (h : F_laws_rInts x0 x1 = some y0) : C Try.prog 14 [tl x0, tl x1] (tb y0) := by
  unfold F_laws_rInts at h
  refine C.intro (tab := tab) tab_ok (fn := Try.f14) Try.func14 (by kernel_rfl) rfl (Nat.le_of_ble_eq_true rfl) ?_
  refine WP.seq ?_
  refine WP.path tab_ok mixed [] [.keep [4, 0, 1], .keepO []] (ps := []) (e := .normal) (σ' := ⟨[], [(4, vb false), (0, vl x0), (1, vl x1)], []⟩) (by kernel_rfl) trivial ?_
  refine WP.seq ?_
  refine WP.seq ?_
  refine WP.path tab_ok mixed [] [.keep [10, 4, 0, 1], .keepO []] (ps := [(True)]) (e := .normal) (σ' := ⟨[], [(10, vb (((List.length x0 : Nat) : Int) != ((List.length x1 : Nat) : Int))), (4, vb false), (0, vl x0), (1, vl x1)], []⟩) (by kernel_rfl) ⟨trivial, trivial⟩ ?_
  rcases ite_some h with ⟨h1, h⟩ | ⟨h1, h⟩
  · -- yes
    refine WP.cond (b := ((List.length x0 : Nat) : Int) != ((List.length x1 : Nat) : Int)) rfl (fun _ => ?_) (fun hh => by rw [h1] at hh; cases hh)
    have h := Option.some.inj h
    subst h
    exact WP.pathW tab_ok mixed [] _ (ps := []) (r := tb false) (by kernel_rfl) trivial (WkT.eq (y := tb false) (WkT.refl _) rfl) (fun _ h => h)
  · -- no
    refine WP.cond (b := ((List.length x0 : Nat) : Int) != ((List.length x1 : Nat) : Int)) rfl (fun hh => by rw [h1] at hh; cases hh) (fun _ => ?_)
    refine WP.path tab_ok mixed [] [.keep [4, 0, 1], .keepO []] (ps := []) (e := .normal) (σ' := ⟨[], [(4, vb false), (0, vl x0), (1, vl x1)], []⟩) (by kernel_rfl) trivial ?_
    obtain ⟨J1, hJ1, h⟩ := jn_some h
    refine WP.joinA (fun (zz : Unit) => ⟨[], [(4, vb false)], []⟩) (fun zz => J1 () = some y0) ?_ ?_
    · -- to where they meet
      refine WP.seq ?_
      refine WP.path tab_ok mixed [] [.keep [5, 4, 0, 1], .keepO []] (ps := []) (e := .normal) (σ' := ⟨[], [(5, vi 0), (4, vb false), (0, vl x0), (1, vl x1)], []⟩) (by kernel_rfl) trivial ?_
      refine WP.block ?_
      refine WP.wk [.keep [5, 4, 0, 1], .keepO [], .names []] (σ' := ⟨[], [(5, vi 0), (4, vb false), (0, vl x0), (1, vl x1)], []⟩) (ps := []) (by kernel_rfl) trivial ?_
      refine WP.st (σ' := ⟨[], [(5, vi (0 : Int)), (4, vb false), (0, vl x0), (1, vl x1)], []⟩) (by first | rfl | (simp only [tlS, tl, vl, vo, oc, ov, tbl, vbl, ty, vy] <;> rfl) | (simp <;> omega) | (simp []; done) | (rw [List.take_of_length_le (by simp [])] <;> rfl)) ?_
      refine WP.loop (α := Nat × Int) (fun zz => ⟨[], [(5, vi zz.2), (4, vb false), (0, vl x0), (1, vl x1)], []⟩) (fun zz => F_laws_rInts_L1 x0 x1 J1 zz.1 zz.2 = some y0) (fun zz => zz.1) (fuel, (0 : Int)) h ?_
      rintro ⟨n, v5⟩ h0
      have h := (show F_laws_rInts_L1 x0 x1 J1 n v5 = some y0 from h0)
      rcases n with _ | n
      · rw [F_laws_rInts_L1] at h; cases h
      · rw [F_laws_rInts_L1] at h
        refine WP.seq ?_
        refine WP.seq ?_
        refine WP.path tab_ok mixed [] [.keep [14, 5, 4, 0, 1], .keepO []] (ps := [(True)]) (e := .normal) (σ' := ⟨[], [(14, vb (decide (v5 < ((List.length x0 : Nat) : Int)))), (5, vi v5), (4, vb false), (0, vl x0), (1, vl x1)], []⟩) (by kernel_rfl) ⟨trivial, trivial⟩ ?_
        rcases ite_some h with ⟨h2, h⟩ | ⟨h2, h⟩
        · -- yes
          refine WP.cond (b := decide (v5 < ((List.length x0 : Nat) : Int))) rfl (fun _ => ?_) (fun hh => by rw [h2] at hh; cases hh)
          refine WP.path tab_ok mixed [] [.keep [5, 4, 0, 1], .keepO []] (ps := []) (e := .normal) (σ' := ⟨[], [(5, vi v5), (4, vb false), (0, vl x0), (1, vl x1)], []⟩) (by kernel_rfl) trivial ?_
          refine WP.seq ?_
          refine WP.block ?_
          refine WP.seq ?_
          obtain ⟨c0, h⟩ := chk_some h
          obtain ⟨c1, h⟩ := chk_some h
          refine WP.path tab_ok mixed [(20, An.v (ti (List.getD x0 (Int.toNat v5) 0))), (24, An.v (ti (List.getD x1 (Int.toNat v5) 0)))] [.keep [25, 5, 4, 0, 1], .keepO []] (ps := [((0 ≤ v5 ∧ v5 < ((List.length x0 : Nat) : Int))), ((List.drop ((Int.toNat v5) * 1) (List.map (T.int .i64) x0) : List T)[0]? = some (ti (List.getD x0 (Int.toNat v5) 0))), (ti (List.getD x0 (Int.toNat v5) 0) = ti (List.getD x0 (Int.toNat v5) 0)), ((0 ≤ v5 ∧ v5 < ((List.length x1 : Nat) : Int))), ((List.drop ((Int.toNat v5) * 1) (List.map (T.int .i64) x1) : List T)[0]? = some (ti (List.getD x1 (Int.toNat v5) 0))), (ti (List.getD x1 (Int.toNat v5) 0) = ti (List.getD x1 (Int.toNat v5) 0)), (True)]) (e := .normal) (σ' := ⟨[], [(25, vb ((List.getD x0 (Int.toNat v5) 0) != (List.getD x1 (Int.toNat v5) 0))), (5, vi v5), (4, vb false), (0, vl x0), (1, vl x1)], []⟩) (by kernel_rfl) ⟨c0, at1 (by simp) (by omega), rfl, c1, at1 (by simp) (by omega), rfl, trivial, trivial⟩ ?_
          rcases ite_some h with ⟨h3, h⟩ | ⟨h3, h⟩
          · -- yes
            refine WP.cond (b := (List.getD x0 (Int.toNat v5) 0) != (List.getD x1 (Int.toNat v5) 0)) rfl (fun _ => ?_) (fun hh => by rw [h3] at hh; cases hh)
            have h := Option.some.inj h
            subst h
            exact WP.pathW tab_ok mixed [] _ (ps := []) (r := tb false) (by kernel_rfl) trivial (WkT.eq (y := tb false) (WkT.refl _) rfl) (fun _ h => h)
          · -- no
            refine WP.cond (b := (List.getD x0 (Int.toNat v5) 0) != (List.getD x1 (Int.toNat v5) 0)) rfl (fun hh => by rw [h3] at hh; cases hh) (fun _ => ?_)
            refine WP.path tab_ok mixed [] [.keep [5, 4, 0, 1], .keepO []] (ps := []) (e := .normal) (σ' := ⟨[], [(5, vi v5), (4, vb false), (0, vl x0), (1, vl x1)], []⟩) (by kernel_rfl) trivial ?_
            obtain ⟨c2, h⟩ := chk_some h
            refine WP.path tab_ok mixed [(16, An.v (T.int .i64 (v5 + (1 : Int))))] [.keep [5, 4, 0, 1], .keepO [], .names []] (ps := [(True), (T.int .i64 (IntKind.wrap .i64 (v5 + (1 : Int))) = T.int .i64 (v5 + (1 : Int)))]) (e := .normal) (σ' := ⟨[], [(5, vi (v5 + (1 : Int))), (4, vb false), (0, vl x0), (1, vl x1)], []⟩) (by kernel_rfl) ⟨trivial, wrapI c2, trivial⟩ ?_
            exact ⟨(n, (v5 + (1 : Int))), h, Nat.lt_succ_self _, rfl⟩
        · -- no
          refine WP.cond (b := decide (v5 < ((List.length x0 : Nat) : Int))) rfl (fun hh => by rw [h2] at hh; cases hh) (fun _ => ?_)
          refine WP.path tab_ok mixed [] [.keep [4], .keepO [], .names []] (ps := []) (e := (.exit 0)) (σ' := ⟨[], [(4, vb false)], []⟩) (by kernel_rfl) trivial ?_
          exact ⟨(), h, rfl⟩
    · -- from there
      intro _ h0
      have h := (show J1 () = some y0 from h0)
      rw [hJ1] at h
      have h := Option.some.inj h
      subst h
      exact WP.pathW tab_ok mixed [] _ (ps := []) (r := tb true) (by kernel_rfl) trivial (WkT.eq (y := tb true) (WkT.refl _) rfl) (fun _ h => h)
theorem F_impl_OpenSpan_W (x0 : List Int) (x1 : Int) (y0 : Int) (y1 : Int) (y2 : Bool) (h : F_impl_OpenSpan x0 x1 = some (y0, y1, y2)) : C Try.prog 15 [T.agg [tl x0, ti x1]] (T.tup [ti y0, ti y1, tb y2]) := by
  unfold F_impl_OpenSpan at h
  refine C.intro (tab := tab) tab_ok (fn := Try.f15) Try.func15 (by kernel_rfl) rfl (Nat.le_of_ble_eq_true rfl) ?_
  refine WP.seq ?_
  refine WP.path tab_ok mixed [(1, An.fz)] [.keep [4, 3, 2, 1], .keepO []] (ps := []) (e := .normal) (σ' := ⟨[], [(4, vb false), (3, vi 0), (2, vi 0), (1, V.t (T.ptr [tl x0, ti x1]))], []⟩) (by kernel_rfl) trivial ?_
  refine WP.seq ?_
  obtain ⟨c0, h⟩ := chk_some h
  refine WP.path tab_ok mixed [(7, An.callG [(9000, 10070)] [V.t (T.agg [tl x0, ti x1])] [] (vo 9000 (List.length (openN x0))) [(9000, oc 3 (List.map (T.int .i64) (openN x0)))])] [.keep [5, 4, 3, 2, 1], .keepO [10070]] (ps := [(2 ≤ 2), (CG Try.prog 58 [V.t (T.agg [tl x0, ti x1])] [] (vo 9000 (List.length (openN x0))) [(9000, oc 3 (List.map (T.int .i64) (openN x0)))]), (WkT (T.agg [tl x0, ti x1]) (T.agg [tl x0, ti x1]))]) (e := .normal) (σ' := ⟨[10070], [(5, vo 10070 (List.length (openN x0))), (4, vb false), (3, vi 0), (2, vi 0), (1, V.t (T.ptr [tl x0, ti x1]))], [(10070, oc 3 (List.map (T.int .i64) (openN x0)))]⟩) (by kernel_rfl) ⟨by decide, (open_C_G x0 x1 c0), WkT.refl _, trivial⟩ ?_
  refine WP.seq ?_
  obtain ⟨J1, hJ1, h⟩ := jn_some h
  refine WP.joinA (fun (zz : Bool) => ⟨[10070], [(15, vb zz), (5, vo 10070 (List.length (openN x0))), (4, vb false), (3, vi 0), (2, vi 0)], [(10070, oc 3 (List.map (T.int .i64) (openN x0)))]⟩) (fun zz => J1 zz = some (y0, y1, y2)) ?_ ?_
  · -- to where they meet
    obtain ⟨c1, h⟩ := chk_some h
    rcases ite_some h with ⟨h1, h⟩ | ⟨h1, h⟩
    · -- yes
      refine WP.path tab_ok mixed [(9, An.call (tb (shortN x0 x1))), (11, An.b true)] [.keep [15, 5, 4, 3, 2], .keepO [10070], .names [(10070, 10070)]] (ps := [(2 ≤ 2), (C Try.prog 55 [T.agg [tl x0, ti x1]] (tb (shortN x0 x1))), ((!(shortN x0 x1)) = true)]) (e := .normal) (σ' := ⟨[10070], [(15, vb true), (5, vo 10070 (List.length (openN x0))), (4, vb false), (3, vi 0), (2, vi 0)], [(10070, oc 3 (List.map (T.int .i64) (openN x0)))]⟩) (by kernel_rfl) ⟨by decide, (isShort_C x0 x1 c1), h1, trivial⟩ ?_
      exact ⟨(true), h, rfl⟩
    · -- no
      refine WP.path tab_ok mixed [(9, An.call (tb (shortN x0 x1))), (11, An.b false)] [.keep [15, 5, 4, 3, 2], .keepO [10070], .names [(10070, 10070)]] (ps := [(2 ≤ 2), (C Try.prog 55 [T.agg [tl x0, ti x1]] (tb (shortN x0 x1))), ((!(shortN x0 x1)) = false), (True)]) (e := .normal) (σ' := ⟨[10070], [(15, vb (((List.length (openN x0) : Nat) : Int) == (0 : Int))), (5, vo 10070 (List.length (openN x0))), (4, vb false), (3, vi 0), (2, vi 0)], [(10070, oc 3 (List.map (T.int .i64) (openN x0)))]⟩) (by kernel_rfl) ⟨by decide, (isShort_C x0 x1 c1), h1, trivial, trivial⟩ ?_
      exact ⟨(((List.length (openN x0) : Nat) : Int) == (0 : Int)), h, rfl⟩
  · -- from there
    intro v15 h0
    have h := (show J1 v15 = some (y0, y1, y2) from h0)
    rw [hJ1] at h
    rcases ite_some h with ⟨h2, h⟩ | ⟨h2, h⟩
    · -- yes
      refine WP.cond (b := v15) rfl (fun _ => ?_) (fun hh => by rw [h2] at hh; cases hh)
      simp only [Option.some.injEq, Prod.mk.injEq] at h
      obtain ⟨rfl, rfl, rfl⟩ := h
      exact WP.pathW tab_ok mixed [] _ (ps := []) (r := T.tup [ti 0, ti 0, tb false]) (by kernel_rfl) trivial (WkT.eq (y := T.tup [ti 0, ti 0, tb false]) (WkT.refl _) (by first | rfl | (simp only [tlS, tl, vl, vo, oc, ov, tbl, vbl, ty, vy] <;> rfl) | (simp <;> omega) | (simp []; done) | (rw [List.take_of_length_le (by simp [])] <;> rfl))) (fun _ h => h)
    · -- no
      refine WP.cond (b := v15) rfl (fun hh => by rw [h2] at hh; cases hh) (fun _ => ?_)
      refine WP.path tab_ok mixed [] [.keep [5, 4, 3, 2], .keepO [10070]] (ps := []) (e := .normal) (σ' := ⟨[10070], [(5, vo 10070 (List.length (openN x0))), (4, vb false), (3, vi 0), (2, vi 0)], [(10070, oc 3 (List.map (T.int .i64) (openN x0)))]⟩) (by kernel_rfl) trivial ?_
      obtain ⟨c1, h⟩ := chk_some h
      obtain ⟨c2, h⟩ := chk_some h
      obtain ⟨n22, c3, h⟩ := nam_some h
      obtain ⟨c4, h⟩ := chk_some h
      simp only [Option.some.injEq, Prod.mk.injEq] at h
      obtain ⟨rfl, rfl, rfl⟩ := h
      exact WP.pathW tab_ok mixed [(18, An.v (ti (List.getD (openN x0) 0 0))), (22, An.v (ti n22)), (24, An.v (ti (List.getD (openN x0) (Int.toNat n22) 0)))] _ (ps := [((0 ≤ (0 : Int) ∧ (0 : Int) < ((List.length (openN x0) : Nat) : Int))), ((List.map (T.int .i64) (openN x0) : List T)[0]? = some (ti (List.getD (openN x0) 0 0))), (ti (List.getD (openN x0) 0 0) = ti (List.getD (openN x0) 0 0)), (True), (T.int .i64 (IntKind.wrap .i64 (((List.length (openN x0) : Nat) : Int) - (1 : Int))) = ti n22), ((0 ≤ n22 ∧ n22 < ((List.length (openN x0) : Nat) : Int))), ((List.map (T.int .i64) (openN x0) : List T)[(Int.toNat n22) * 1]? = some (ti (List.getD (openN x0) (Int.toNat n22) 0))), (ti (List.getD (openN x0) (Int.toNat n22) 0) = ti (List.getD (openN x0) (Int.toNat n22) 0))]) (r := T.tup [ti (List.getD (openN x0) 0 0), ti (List.getD (openN x0) (Int.toNat n22) 0), tb true]) (by kernel_rfl) ⟨c1, atM (by simp) (by omega), rfl, trivial, Eq.trans (wrapI c2) (congrArg (ti) c3), c4, atM (by simp) (by first | omega | (simp only [tlL]; omega) | (simp; omega)), rfl, trivial⟩ (WkT.eq (y := T.tup [ti (List.getD (openN x0) 0 0), ti (List.getD (openN x0) (Int.toNat n22) 0), tb true]) (WkT.refl _) rfl) (fun _ h => h)
theorem F_spec_OpenSpan_W (x0 : List Int) (x1 : Int) (y0 : Int) (y1 : Int) (y2 : Bool) (h : F_spec_OpenSpan x0 x1 = some (y0, y1, y2)) : C Try.prog 16 [T.agg [tl x0, ti x1]] (T.tup [ti y0, ti y1, tb y2]) := by
  unfold F_spec_OpenSpan at h
  refine C.intro (tab := tab) tab_ok (fn := Try.f16) Try.func16 (by kernel_rfl) rfl (Nat.le_of_ble_eq_true rfl) ?_
  refine WP.seq ?_
  refine WP.path tab_ok mixed [(1, An.fz)] [.keep [4, 3, 2, 1], .keepO []] (ps := []) (e := .normal) (σ' := ⟨[], [(4, vb false), (3, vi 0), (2, vi 0), (1, V.t (T.ptr [tl x0, ti x1]))], []⟩) (by kernel_rfl) trivial ?_
  refine WP.seq ?_
  obtain ⟨J1, hJ1, h⟩ := jn_some h
  refine WP.joinA (fun (zz : Bool) => ⟨[], [(14, vb zz), (4, vb false), (3, vi 0), (2, vi 0), (1, V.t (T.ptr [tl x0, ti x1]))], []⟩) (fun zz => J1 zz = some (y0, y1, y2)) ?_ ?_
  · -- to where they meet
    obtain ⟨c0, h⟩ := chk_some h
    rcases ite_some h with ⟨h1, h⟩ | ⟨h1, h⟩
    · -- yes
      refine WP.path tab_ok mixed [(7, An.call (tb (shortN x0 x1))), (9, An.b true)] [.keep [14, 4, 3, 2, 1], .keepO [], .names []] (ps := [(2 ≤ 2), (C Try.prog 63 [T.agg [tl x0, ti x1]] (tb (shortN x0 x1))), ((!(shortN x0 x1)) = true)]) (e := .normal) (σ' := ⟨[], [(14, vb true), (4, vb false), (3, vi 0), (2, vi 0), (1, V.t (T.ptr [tl x0, ti x1]))], []⟩) (by kernel_rfl) ⟨by decide, (l6Short_C x0 x1 c0), h1, trivial⟩ ?_
      exact ⟨(true), h, rfl⟩
    · -- no
      obtain ⟨r11, c1, h⟩ := bnd1_some h
      refine WP.path tab_ok mixed [(7, An.call (tb (shortN x0 x1))), (9, An.b false), (11, An.callG [(9000, 10110)] [V.t (T.agg [tl x0, ti x1])] [] (vo 9000 (List.length r11)) [(9000, oc 3 (List.map (T.int .i64) r11))])] [.keep [14, 4, 3, 2, 1], .keepO [], .names []] (ps := [(2 ≤ 2), (C Try.prog 63 [T.agg [tl x0, ti x1]] (tb (shortN x0 x1))), ((!(shortN x0 x1)) = false), (2 ≤ 2), (CG Try.prog 72 [V.t (T.agg [tl x0, ti x1])] [] (vo 9000 (List.length r11)) [(9000, oc 3 (List.map (T.int .i64) r11))]), (WkT (T.agg [tl x0, ti x1]) (T.agg [tl x0, ti x1])), (True)]) (e := .normal) (σ' := ⟨[], [(14, vb (((List.length r11 : Nat) : Int) == (0 : Int))), (4, vb false), (3, vi 0), (2, vi 0), (1, V.t (T.ptr [tl x0, ti x1]))], []⟩) (by kernel_rfl) ⟨by decide, (l6Short_C x0 x1 c0), h1, by decide, (F_spec_l2Open_W x0 x1 r11 c1), WkT.refl _, trivial, trivial⟩ ?_
      exact ⟨(((List.length r11 : Nat) : Int) == (0 : Int)), h, rfl⟩
  · -- from there
    intro v14 h0
    have h := (show J1 v14 = some (y0, y1, y2) from h0)
    rw [hJ1] at h
    rcases ite_some h with ⟨h2, h⟩ | ⟨h2, h⟩
    · -- yes
      refine WP.cond (b := v14) rfl (fun _ => ?_) (fun hh => by rw [h2] at hh; cases hh)
      simp only [Option.some.injEq, Prod.mk.injEq] at h
      obtain ⟨rfl, rfl, rfl⟩ := h
      exact WP.pathW tab_ok mixed [] _ (ps := []) (r := T.tup [ti 0, ti 0, tb false]) (by kernel_rfl) trivial (WkT.eq (y := T.tup [ti 0, ti 0, tb false]) (WkT.refl _) (by first | rfl | (simp only [tlS, tl, vl, vo, oc, ov, tbl, vbl, ty, vy] <;> rfl) | (simp <;> omega) | (simp []; done) | (rw [List.take_of_length_le (by simp [])] <;> rfl))) (fun _ h => h)
    · -- no
      refine WP.cond (b := v14) rfl (fun hh => by rw [h2] at hh; cases hh) (fun _ => ?_)
      refine WP.path tab_ok mixed [] [.keep [4, 3, 2, 1], .keepO []] (ps := []) (e := .normal) (σ' := ⟨[], [(4, vb false), (3, vi 0), (2, vi 0), (1, V.t (T.ptr [tl x0, ti x1]))], []⟩) (by kernel_rfl) trivial ?_
      obtain ⟨r16, c0, h⟩ := bnd1_some h
      obtain ⟨c1, h⟩ := chk_some h
      obtain ⟨c2, h⟩ := chk_some h
      obtain ⟨n23, c3, h⟩ := nam_some h
      obtain ⟨c4, h⟩ := chk_some h
      simp only [Option.some.injEq, Prod.mk.injEq] at h
      obtain ⟨rfl, rfl, rfl⟩ := h
      exact WP.pathW tab_ok mixed [(16, An.callG [(9000, 10160)] [V.t (T.agg [tl x0, ti x1])] [] (vo 9000 (List.length r16)) [(9000, oc 3 (List.map (T.int .i64) r16))]), (19, An.v (ti (List.getD r16 0 0))), (23, An.v (ti n23)), (25, An.v (ti (List.getD r16 (Int.toNat n23) 0)))] _ (ps := [(2 ≤ 2), (CG Try.prog 72 [V.t (T.agg [tl x0, ti x1])] [] (vo 9000 (List.length r16)) [(9000, oc 3 (List.map (T.int .i64) r16))]), (WkT (T.agg [tl x0, ti x1]) (T.agg [tl x0, ti x1])), ((0 ≤ (0 : Int) ∧ (0 : Int) < ((List.length r16 : Nat) : Int))), ((List.map (T.int .i64) r16 : List T)[0]? = some (ti (List.getD r16 0 0))), (ti (List.getD r16 0 0) = ti (List.getD r16 0 0)), (True), (T.int .i64 (IntKind.wrap .i64 (((List.length r16 : Nat) : Int) - (1 : Int))) = ti n23), ((0 ≤ n23 ∧ n23 < ((List.length r16 : Nat) : Int))), ((List.map (T.int .i64) r16 : List T)[(Int.toNat n23) * 1]? = some (ti (List.getD r16 (Int.toNat n23) 0))), (ti (List.getD r16 (Int.toNat n23) 0) = ti (List.getD r16 (Int.toNat n23) 0))]) (r := T.tup [ti (List.getD r16 0 0), ti (List.getD r16 (Int.toNat n23) 0), tb true]) (by kernel_rfl) ⟨by decide, (F_spec_l2Open_W x0 x1 r16 c0), WkT.refl _, c1, atM (by simp) (by omega), rfl, trivial, Eq.trans (wrapI c2) (congrArg (ti) c3), c4, atM (by simp) (by first | omega | (simp only [tlL]; omega) | (simp; omega)), rfl, trivial⟩ (WkT.eq (y := T.tup [ti (List.getD r16 0 0), ti (List.getD r16 (Int.toNat n23) 0), tb true]) (WkT.refl _) rfl) (fun _ h => h)
theorem F_impl_OpenNumbers_W (x0 : List Int) (x1 : Int) (y0 : List Int) (y1 : Bool) (h : F_impl_OpenNumbers x0 x1 = some (y0, y1)) : CG Try.prog 17 [V.t (T.agg [tl x0, ti x1])] [] (V.tup [vo 9000 (List.length y0), vb y1]) [(9000, oc 3 (List.map (T.int .i64) y0))] := by
  unfold F_impl_OpenNumbers at h
  refine CG.intro (tab := tab) tab_ok (fn := Try.f17) Try.func17 (by kernel_rfl) rfl (Nat.le_of_ble_eq_true rfl) (by kernel_rfl) ?_
  refine WP.seq ?_
  refine WP.path tab_ok mixed [(1, An.fz)] [.keep [3, 2, 1], .keepO []] (ps := []) (e := .normal) (σ' := ⟨[], [(3, vb false), (2, V.t (T.nils)), (1, V.t (T.ptr [tl x0, ti x1]))], []⟩) (by kernel_rfl) trivial ?_
  refine WP.seq ?_
  refine WP.seq ?_
  obtain ⟨c0, h⟩ := chk_some h
  refine WP.path tab_ok mixed [(5, An.call (tb (isStateN x0 x1)))] [.keep [6, 3, 2, 1], .keepO []] (ps := [(2 ≤ 2), (C Try.prog 73 [T.agg [tl x0, ti x1]] (tb (isStateN x0 x1)))]) (e := .normal) (σ' := ⟨[], [(6, vb (!(isStateN x0 x1))), (3, vb false), (2, V.t (T.nils)), (1, V.t (T.ptr [tl x0, ti x1]))], []⟩) (by kernel_rfl) ⟨by decide, (isState_C x0 x1 c0), trivial⟩ ?_
  rcases ite_some h with ⟨h1, h⟩ | ⟨h1, h⟩
  · -- yes
    refine WP.cond (b := !(isStateN x0 x1)) rfl (fun _ => ?_) (fun hh => by rw [h1] at hh; cases hh)
    simp only [Option.some.injEq, Prod.mk.injEq] at h
    obtain ⟨rfl, rfl⟩ := h
    exact WP.pathG tab_ok mixed [] [.keep [2, 3], .keepO [], .names []] [] _ (r' := V.tup [vo 9000 (List.length ([] : List Int)), vb false]) (ps := []) (r := V.t (T.tup [T.nils, tb false])) (N := []) (O := []) [(9000, 3)] (by kernel_rfl) trivial ⟨(by first | rfl | (simp; done)), (WkT.refl _), trivial⟩ rfl rfl (fun _ h => h)
  · -- no
    refine WP.cond (b := !(isStateN x0 x1)) rfl (fun hh => by rw [h1] at hh; cases hh) (fun _ => ?_)
    refine WP.path tab_ok mixed [] [.keep [3, 2, 1], .keepO []] (ps := []) (e := .normal) (σ' := ⟨[], [(3, vb false), (2, V.t (T.nils)), (1, V.t (T.ptr [tl x0, ti x1]))], []⟩) (by kernel_rfl) trivial ?_
    obtain ⟨c1, h⟩ := chk_some h
    simp only [Option.some.injEq, Prod.mk.injEq] at h
    obtain ⟨rfl, rfl⟩ := h
    exact WP.pathG tab_ok mixed [(8, An.callG [(9000, 10080)] [V.t (T.agg [tl x0, ti x1])] [] (vo 9000 (List.length (openN x0))) [(9000, oc 3 (List.map (T.int .i64) (openN x0)))])] [.keep [2, 3], .keepO [10080], .names [(10080, 9000)]] [9000] _ (r' := V.tup [vo 9000 (List.length (openN x0)), vb true]) (ps := [(2 ≤ 2), (CG Try.prog 58 [V.t (T.agg [tl x0, ti x1])] [] (vo 9000 (List.length (openN x0))) [(9000, oc 3 (List.map (T.int .i64) (openN x0)))]), (WkT (T.agg [tl x0, ti x1]) (T.agg [tl x0, ti x1]))]) (r := V.tup [vo 9000 (List.length (openN x0)), vb true]) (N := [9000]) (O := [(9000, oc 3 (List.map (T.int .i64) (openN x0)))]) [] (by kernel_rfl) ⟨by decide, (open_C_G x0 x1 c1), WkT.refl _, trivial⟩ ⟨rfl, (WkT.refl _), trivial⟩ rfl rfl (fun _ h => h)
theorem F_impl_OpenNumbers_W_C (x0 : List Int) (x1 : Int) (y0 : List Int) (y1 : Bool) (h : F_impl_OpenNumbers x0 x1 = some (y0, y1)) : C Try.prog 17 [T.agg [tl x0, ti x1]] (T.tup [tl y0, tb y1]) :=
  CG.toC (ps := [(List.length (List.map (T.int .i64) y0) = (List.length y0) * 1)]) (F_impl_OpenNumbers_W  x0 x1 y0 y1 h) (by rfl) ⟨by first | rfl | omega | (simp <;> omega) | (simp [hl] <;> omega), trivial⟩
theorem F_impl_LessNeed_W (x0 : List Int) (x1 : Int) (y0 : Int) (y1 : Bool) (h : F_impl_LessNeed x0 x1 = some (y0, y1)) : C Try.prog 18 [T.agg [tl x0, ti x1]] (T.tup [ti y0, tb y1]) := by
  unfold F_impl_LessNeed at h
  refine C.intro (tab := tab) tab_ok (fn := Try.f18) Try.func18 (by kernel_rfl) rfl (Nat.le_of_ble_eq_true rfl) ?_
  refine WP.seq ?_
  refine WP.path tab_ok mixed [(1, An.fz)] [.keep [3, 2, 1], .keepO []] (ps := []) (e := .normal) (σ' := ⟨[], [(3, vb false), (2, vi 0), (1, V.t (T.ptr [tl x0, ti x1]))], []⟩) (by kernel_rfl) trivial ?_
  refine WP.seq ?_
  refine WP.seq ?_
  obtain ⟨c0, h⟩ := chk_some h
  refine WP.path tab_ok mixed [(5, An.call (tb (shortN x0 x1)))] [.keep [6, 3, 2, 1], .keepO []] (ps := [(2 ≤ 2), (C Try.prog 55 [T.agg [tl x0, ti x1]] (tb (shortN x0 x1)))]) (e := .normal) (σ' := ⟨[], [(6, vb (!(shortN x0 x1))), (3, vb false), (2, vi 0), (1, V.t (T.ptr [tl x0, ti x1]))], []⟩) (by kernel_rfl) ⟨by decide, (isShort_C x0 x1 c0), trivial⟩ ?_
  rcases ite_some h with ⟨h1, h⟩ | ⟨h1, h⟩
  · -- yes
    refine WP.cond (b := !(shortN x0 x1)) rfl (fun _ => ?_) (fun hh => by rw [h1] at hh; cases hh)
    simp only [Option.some.injEq, Prod.mk.injEq] at h
    obtain ⟨rfl, rfl⟩ := h
    exact WP.pathW tab_ok mixed [] _ (ps := []) (r := T.tup [ti 0, tb false]) (by kernel_rfl) trivial (WkT.eq (y := T.tup [ti 0, tb false]) (WkT.refl _) (by first | rfl | (simp only [tlS, tl, vl, vo, oc, ov, tbl, vbl, ty, vy] <;> rfl) | (simp <;> omega) | (simp []; done) | (rw [List.take_of_length_le (by simp [])] <;> rfl))) (fun _ h => h)
  · -- no
    refine WP.cond (b := !(shortN x0 x1)) rfl (fun hh => by rw [h1] at hh; cases hh) (fun _ => ?_)
    refine WP.path tab_ok mixed [] [.keep [3, 2, 1], .keepO []] (ps := []) (e := .normal) (σ' := ⟨[], [(3, vb false), (2, vi 0), (1, V.t (T.ptr [tl x0, ti x1]))], []⟩) (by kernel_rfl) trivial ?_
    obtain ⟨r7, c1, h⟩ := bnd1_some h
    obtain ⟨r9, r9b, c2, h⟩ := bnd2_some h
    simp only [Option.some.injEq, Prod.mk.injEq] at h
    obtain ⟨rfl, rfl⟩ := h
    exact WP.pathW tab_ok mixed [(7, An.callG [(9000, 10070)] [] [] (V.agg [V.mapr 9000]) [(9000, Tl.Obj.map (mpI r7))]), (9, An.callG [(500, 10070)] [V.agg [V.mapr 500], V.t (T.agg [tl x0, ti x1])] [(500, Tl.Obj.map (mpI r7))] (vi r9) [(500, Tl.Obj.map (mpI r9b))])] _ (ps := [(CG Try.prog 57 [] [] (V.agg [V.mapr 9000]) [(9000, Tl.Obj.map (mpI r7))]), (2 ≤ 2), (CG Try.prog 74 [V.agg [V.mapr 500], V.t (T.agg [tl x0, ti x1])] [(500, Tl.Obj.map (mpI r7))] (vi r9) [(500, Tl.Obj.map (mpI r9b))]), ((V.agg [V.mapr 500]).ren (renF [(500, 10070)]) = V.agg [V.mapr 10070]), (WkT (T.agg [tl x0, ti x1]) (T.agg [tl x0, ti x1])), ((Tl.Obj.map (mpI r7)) = (Tl.Obj.map (mpI r7)).ren (renF [(500, 10070)]))]) (r := T.tup [ti r9, tb true]) (by kernel_rfl) ⟨(F_impl_newLesser_W  r7 c1), by decide, (F_impl_lesser_need_W fuel r7 x0 x1 r9 r9b c2), by first | rfl | (simp [V.ren, V.renL, renF, lk]; done) | (simp [V.ren, V.renL, renF, lk]; omega), WkT.refl _, by first | rfl | (simp only [tlS]; rfl) | (simp [Tl.Obj.ren, V.ren, V.renL, renF, lk]; done), trivial⟩ (WkT.eq (y := T.tup [ti r9, tb true]) (WkT.refl _) rfl) (fun _ h => h)
theorem F_laws_FnLessPlays_W (x0 : List Int) (y0 : Bool) (h : F_laws_FnLessPlays x0 = some y0) : C Try.prog 3 [ty x0] (tb y0) := by
  unfold F_laws_FnLessPlays at h
  refine C.intro (tab := tab) tab_ok (fn := Try.f3) Try.func3 (by kernel_rfl) rfl (Nat.le_of_ble_eq_true rfl) ?_
  refine WP.seq ?_
  refine WP.path tab_ok mixed [] [.keep [2, 0], .keepO []] (ps := []) (e := .normal) (σ' := ⟨[], [(2, vb false), (0, vy x0)], []⟩) (by kernel_rfl) trivial ?_
  refine WP.seq ?_
  refine WP.seq ?_
  obtain ⟨c0, h⟩ := chk_some h
  refine WP.path tab_ok mixed [(33, An.call (tb (decide (((List.length x0 : Nat) : Int) > (65536 : Int)))))] [.keep [33, 2, 0], .keepO []] (ps := [(C Try.prog 6 [ty x0] (tb (decide (((List.length x0 : Nat) : Int) > (65536 : Int)))))]) (e := .normal) (σ' := ⟨[], [(33, vb (decide (((List.length x0 : Nat) : Int) > (65536 : Int)))), (2, vb false), (0, vy x0)], []⟩) (by kernel_rfl) ⟨(rBig_C x0 c0), trivial⟩ ?_
  rcases ite_some h with ⟨h1, h⟩ | ⟨h1, h⟩
  · -- yes
    refine WP.cond (b := decide (((List.length x0 : Nat) : Int) > (65536 : Int))) rfl (fun _ => ?_) (fun hh => by rw [h1] at hh; cases hh)
    have h := Option.some.inj h
    subst h
    exact WP.pathW tab_ok mixed [] _ (ps := []) (r := tb true) (by kernel_rfl) trivial (WkT.eq (y := tb true) (WkT.refl _) rfl) (fun _ h => h)
  · -- no
    refine WP.cond (b := decide (((List.length x0 : Nat) : Int) > (65536 : Int))) rfl (fun hh => by rw [h1] at hh; cases hh) (fun _ => ?_)
    refine WP.path tab_ok mixed [] [.keep [2, 0], .keepO []] (ps := []) (e := .normal) (σ' := ⟨[], [(2, vb false), (0, vy x0)], []⟩) (by kernel_rfl) trivial ?_
    refine WP.seq ?_
    obtain ⟨r36, r36b, r36c, r36d, c1, h⟩ := bnd4_some h
    refine WP.path tab_ok mixed [(36, An.call (T.tup [T.agg [tl r36, ti r36b], ti r36c, ti r36d])), (3, An.id 2003)] [.keep [5, 4, 3, 2, 0], .keepO [2003]] (ps := [(C Try.prog 7 [ty x0] (T.tup [T.agg [tl r36, ti r36b], ti r36c, ti r36d])), ((0 + 2 ≤ 2 ∧ 2 = 2))]) (e := .normal) (σ' := ⟨[2003], [(5, vi r36d), (4, vi r36c), (3, V.ref 2003 0), (2, vb false), (0, vy x0)], [(2003, oc 26 [tl r36, ti r36b])]⟩) (by kernel_rfl) ⟨(F_spec_DrawLessPlay_W_C x0 r36 r36b r36c r36d c1), by decide, trivial⟩ ?_
    refine WP.seq ?_
    obtain ⟨r44, r44b, c2, h⟩ := bnd2_some h
    refine WP.path tab_ok mixed [(44, An.call (T.tup [T.list (List.length r44) 2 (List.flatMap askedC r44), tb r44b]))] [.keep [7, 6, 5, 4, 3, 2, 0], .keepO [2003]] (ps := [(0 + 2 ≤ 2), (C Try.prog 8 [T.agg [tl r36, ti r36b], ti r36c, ti r36d] (T.tup [T.list (List.length r44) 2 (List.flatMap askedC r44), tb r44b]))]) (e := .normal) (σ' := ⟨[2003], [(7, vb r44b), (6, V.t (T.list (List.length r44) 2 (List.flatMap askedC r44))), (5, vi r36d), (4, vi r36c), (3, V.ref 2003 0), (2, vb false), (0, vy x0)], [(2003, oc 26 [tl r36, ti r36b])]⟩) (by kernel_rfl) ⟨by decide, (F_impl_LessPlay_W_C r36 r36b r36c r36d r44 r44b c2), trivial⟩ ?_
    refine WP.seq ?_
    refine WP.seq ?_
    obtain ⟨r51, r51b, c3, h⟩ := bnd2_some h
    refine WP.path tab_ok mixed [(51, An.call (T.tup [T.list (List.length r51) 2 (List.flatMap askedC r51), tb r51b]))] [.keep [9, 8, 7, 6, 5, 4, 3, 2, 0], .keepO [2003]] (ps := [(0 + 2 ≤ 2), (C Try.prog 9 [T.agg [tl r36, ti r36b], ti r36c, ti r36d] (T.tup [T.list (List.length r51) 2 (List.flatMap askedC r51), tb r51b]))]) (e := .normal) (σ' := ⟨[2003], [(9, vb r51b), (8, V.t (T.list (List.length r51) 2 (List.flatMap askedC r51))), (7, vb r44b), (6, V.t (T.list (List.length r44) 2 (List.flatMap askedC r44))), (5, vi r36d), (4, vi r36c), (3, V.ref 2003 0), (2, vb false), (0, vy x0)], [(2003, oc 26 [tl r36, ti r36b])]⟩) (by kernel_rfl) ⟨by decide, (F_spec_LessPlay_W_C r36 r36b r36c r36d r51 r51b c3), trivial⟩ ?_
    obtain ⟨J1, hJ1, h⟩ := jn_some h
    refine WP.joinA (fun (zz : Bool) => ⟨[2003], [(62, vb zz), (7, vb r44b), (6, V.t (T.list (List.length r44) 2 (List.flatMap askedC r44))), (5, vi r36d), (4, vi r36c), (3, V.ref 2003 0), (2, vb false), (0, vy x0)], [(2003, oc 26 [tl r36, ti r36b])]⟩) (fun zz => J1 zz = some y0) ?_ ?_
    · -- to where they meet
      rcases ite_some h with ⟨h2, h⟩ | ⟨h2, h⟩
      · -- yes
        refine WP.path tab_ok mixed [(56, An.b true)] [.keep [62, 7, 6, 5, 4, 3, 2, 0], .keepO [2003], .names [(2003, 2003)]] (ps := [(True), ((!(r44b == r51b)) = true)]) (e := .normal) (σ' := ⟨[2003], [(62, vb true), (7, vb r44b), (6, V.t (T.list (List.length r44) 2 (List.flatMap askedC r44))), (5, vi r36d), (4, vi r36c), (3, V.ref 2003 0), (2, vb false), (0, vy x0)], [(2003, oc 26 [tl r36, ti r36b])]⟩) (by kernel_rfl) ⟨trivial, h2, trivial⟩ ?_
        exact ⟨(true), h, rfl⟩
      · -- no
        obtain ⟨r60, c4, h⟩ := bnd1_some h
        refine WP.path tab_ok mixed [(56, An.b false), (60, An.call (tb r60))] [.keep [62, 7, 6, 5, 4, 3, 2, 0], .keepO [2003], .names [(2003, 2003)]] (ps := [(True), ((!(r44b == r51b)) = false), (C Try.prog 10 [T.list (List.length r44) 2 (List.flatMap askedC r44), T.list (List.length r51) 2 (List.flatMap askedC r51)] (tb r60))]) (e := .normal) (σ' := ⟨[2003], [(62, vb !r60), (7, vb r44b), (6, V.t (T.list (List.length r44) 2 (List.flatMap askedC r44))), (5, vi r36d), (4, vi r36c), (3, V.ref 2003 0), (2, vb false), (0, vy x0)], [(2003, oc 26 [tl r36, ti r36b])]⟩) (by kernel_rfl) ⟨trivial, h2, (F_laws_rAsked_W r44 r51 r60 c4), trivial⟩ ?_
        exact ⟨(!r60), h, rfl⟩
    · -- from there
      intro v62 h0
      have h := (show J1 v62 = some y0 from h0)
      rw [hJ1] at h
      rcases ite_some h with ⟨h3, h⟩ | ⟨h3, h⟩
      · -- yes
        refine WP.cond (b := v62) rfl (fun _ => ?_) (fun hh => by rw [h3] at hh; cases hh)
        have h := Option.some.inj h
        subst h
        exact WP.pathW tab_ok mixed [] _ (ps := []) (r := tb false) (by kernel_rfl) trivial (WkT.eq (y := tb false) (WkT.refl _) rfl) (fun _ h => h)
      · -- no
        refine WP.cond (b := v62) rfl (fun hh => by rw [h3] at hh; cases hh) (fun _ => ?_)
        refine WP.path tab_ok mixed [] [.keep [7, 6, 5, 4, 3, 2, 0], .keepO [2003]] (ps := []) (e := .normal) (σ' := ⟨[2003], [(7, vb r44b), (6, V.t (T.list (List.length r44) 2 (List.flatMap askedC r44))), (5, vi r36d), (4, vi r36c), (3, V.ref 2003 0), (2, vb false), (0, vy x0)], [(2003, oc 26 [tl r36, ti r36b])]⟩) (by kernel_rfl) trivial ?_
        refine WP.seq ?_
        obtain ⟨r64, r64b, c4, h⟩ := bnd2_some h
        refine WP.path tab_ok mixed [(64, An.call (T.agg [tl r64, ti r64b])), (10, An.id 2010)] [.keep [10, 7, 6, 5, 4, 3, 2], .keepO [2003, 2010]] (ps := [(C Try.prog 11 [ty x0] (T.agg [tl r64, ti r64b])), ((0 + 2 ≤ 2 ∧ 2 = 2))]) (e := .normal) (σ' := ⟨[2010, 2003], [(10, V.ref 2010 0), (7, vb r44b), (6, V.t (T.list (List.length r44) 2 (List.flatMap askedC r44))), (5, vi r36d), (4, vi r36c), (3, V.ref 2003 0), (2, vb false)], [(2003, oc 26 [tl r36, ti r36b]), (2010, oc 26 [tl r64, ti r64b])]⟩) (by kernel_rfl) ⟨(F_spec_DrawUsefulLess_W_C x0 r64 r64b c4), by decide, trivial⟩ ?_
        refine WP.seq ?_
        obtain ⟨r67, r67b, c5, h⟩ := bnd2_some h
        refine WP.path tab_ok mixed [(67, An.call (T.tup [tl r67, tb r67b]))] [.keep [12, 11, 10, 7, 6, 5, 4, 3, 2], .keepO [2003, 2010]] (ps := [(0 + 2 ≤ 2), (C Try.prog 12 [T.agg [tl r64, ti r64b]] (T.tup [tl r67, tb r67b]))]) (e := .normal) (σ' := ⟨[2010, 2003], [(12, vb r67b), (11, vl r67), (10, V.ref 2010 0), (7, vb r44b), (6, V.t (T.list (List.length r44) 2 (List.flatMap askedC r44))), (5, vi r36d), (4, vi r36c), (3, V.ref 2003 0), (2, vb false)], [(2003, oc 26 [tl r36, ti r36b]), (2010, oc 26 [tl r64, ti r64b])]⟩) (by kernel_rfl) ⟨by decide, (F_impl_UsefulLess_W_C r64 r64b r67 r67b c5), trivial⟩ ?_
        refine WP.seq ?_
        refine WP.seq ?_
        obtain ⟨r72, r72b, c6, h⟩ := bnd2_some h
        refine WP.path tab_ok mixed [(72, An.call (T.tup [tl r72, tb r72b]))] [.keep [14, 13, 12, 11, 10, 7, 6, 5, 4, 3, 2], .keepO [2003, 2010]] (ps := [(0 + 2 ≤ 2), (C Try.prog 13 [T.agg [tl r64, ti r64b]] (T.tup [tl r72, tb r72b]))]) (e := .normal) (σ' := ⟨[2010, 2003], [(14, vb r72b), (13, vl r72), (12, vb r67b), (11, vl r67), (10, V.ref 2010 0), (7, vb r44b), (6, V.t (T.list (List.length r44) 2 (List.flatMap askedC r44))), (5, vi r36d), (4, vi r36c), (3, V.ref 2003 0), (2, vb false)], [(2003, oc 26 [tl r36, ti r36b]), (2010, oc 26 [tl r64, ti r64b])]⟩) (by kernel_rfl) ⟨by decide, (F_spec_UsefulLess_W_C r64 r64b r72 r72b c6), trivial⟩ ?_
        obtain ⟨J1, hJ1, h⟩ := jn_some h
        refine WP.joinA (fun (zz : Bool) => ⟨[2003, 2010], [(83, vb zz), (12, vb r67b), (11, vl r67), (10, V.ref 2010 0), (7, vb r44b), (6, V.t (T.list (List.length r44) 2 (List.flatMap askedC r44))), (5, vi r36d), (4, vi r36c), (3, V.ref 2003 0), (2, vb false)], [(2003, oc 26 [tl r36, ti r36b]), (2010, oc 26 [tl r64, ti r64b])]⟩) (fun zz => J1 zz = some y0) ?_ ?_
        · -- to where they meet
          rcases ite_some h with ⟨h4, h⟩ | ⟨h4, h⟩
          · -- yes
            refine WP.path tab_ok mixed [(77, An.b true)] [.keep [83, 12, 11, 10, 7, 6, 5, 4, 3, 2], .keepO [2003, 2010], .names [(2003, 2003), (2010, 2010)]] (ps := [(True), ((!(r67b == r72b)) = true)]) (e := .normal) (σ' := ⟨[2003, 2010], [(83, vb true), (12, vb r67b), (11, vl r67), (10, V.ref 2010 0), (7, vb r44b), (6, V.t (T.list (List.length r44) 2 (List.flatMap askedC r44))), (5, vi r36d), (4, vi r36c), (3, V.ref 2003 0), (2, vb false)], [(2003, oc 26 [tl r36, ti r36b]), (2010, oc 26 [tl r64, ti r64b])]⟩) (by kernel_rfl) ⟨trivial, h4, trivial⟩ ?_
            exact ⟨(true), h, rfl⟩
          · -- no
            obtain ⟨r81, c7, h⟩ := bnd1_some h
            refine WP.path tab_ok mixed [(77, An.b false), (81, An.call (tb r81))] [.keep [83, 12, 11, 10, 7, 6, 5, 4, 3, 2], .keepO [2003, 2010], .names [(2003, 2003), (2010, 2010)]] (ps := [(True), ((!(r67b == r72b)) = false), (C Try.prog 14 [tl r67, tl r72] (tb r81))]) (e := .normal) (σ' := ⟨[2003, 2010], [(83, vb !r81), (12, vb r67b), (11, vl r67), (10, V.ref 2010 0), (7, vb r44b), (6, V.t (T.list (List.length r44) 2 (List.flatMap askedC r44))), (5, vi r36d), (4, vi r36c), (3, V.ref 2003 0), (2, vb false)], [(2003, oc 26 [tl r36, ti r36b]), (2010, oc 26 [tl r64, ti r64b])]⟩) (by kernel_rfl) ⟨trivial, h4, (F_laws_rInts_W r67 r72 r81 c7), trivial⟩ ?_
            exact ⟨(!r81), h, rfl⟩
        · -- from there
          intro v83 h0
          have h := (show J1 v83 = some y0 from h0)
          rw [hJ1] at h
          rcases ite_some h with ⟨h5, h⟩ | ⟨h5, h⟩
          · -- yes
            refine WP.cond (b := v83) rfl (fun _ => ?_) (fun hh => by rw [h5] at hh; cases hh)
            have h := Option.some.inj h
            subst h
            exact WP.pathW tab_ok mixed [] _ (ps := []) (r := tb false) (by kernel_rfl) trivial (WkT.eq (y := tb false) (WkT.refl _) rfl) (fun _ h => h)
          · -- no
            refine WP.cond (b := v83) rfl (fun hh => by rw [h5] at hh; cases hh) (fun _ => ?_)
            refine WP.path tab_ok mixed [] [.keep [12, 11, 10, 7, 6, 5, 4, 3, 2], .keepO [2003, 2010]] (ps := []) (e := .normal) (σ' := ⟨[2003, 2010], [(12, vb r67b), (11, vl r67), (10, V.ref 2010 0), (7, vb r44b), (6, V.t (T.list (List.length r44) 2 (List.flatMap askedC r44))), (5, vi r36d), (4, vi r36c), (3, V.ref 2003 0), (2, vb false)], [(2003, oc 26 [tl r36, ti r36b]), (2010, oc 26 [tl r64, ti r64b])]⟩) (by kernel_rfl) trivial ?_
            refine WP.seq ?_
            obtain ⟨r86, r86b, r86c, c7, h⟩ := bnd3_some h
            refine WP.path tab_ok mixed [(86, An.call (T.tup [ti r86, ti r86b, tb r86c]))] [.keep [17, 16, 15, 12, 11, 10, 7, 6, 5, 4, 3, 2], .keepO [2003, 2010]] (ps := [(0 + 2 ≤ 2), (C Try.prog 15 [T.agg [tl r64, ti r64b]] (T.tup [ti r86, ti r86b, tb r86c]))]) (e := .normal) (σ' := ⟨[2003, 2010], [(17, vb r86c), (16, vi r86b), (15, vi r86), (12, vb r67b), (11, vl r67), (10, V.ref 2010 0), (7, vb r44b), (6, V.t (T.list (List.length r44) 2 (List.flatMap askedC r44))), (5, vi r36d), (4, vi r36c), (3, V.ref 2003 0), (2, vb false)], [(2003, oc 26 [tl r36, ti r36b]), (2010, oc 26 [tl r64, ti r64b])]⟩) (by kernel_rfl) ⟨by decide, (F_impl_OpenSpan_W r64 r64b r86 r86b r86c c7), trivial⟩ ?_
            refine WP.seq ?_
            refine WP.seq ?_
            obtain ⟨r92, r92b, r92c, c8, h⟩ := bnd3_some h
            refine WP.path tab_ok mixed [(92, An.call (T.tup [ti r92, ti r92b, tb r92c]))] [.keep [20, 19, 18, 17, 16, 15, 12, 11, 10, 7, 6, 5, 4, 3, 2], .keepO [2003, 2010]] (ps := [(0 + 2 ≤ 2), (C Try.prog 16 [T.agg [tl r64, ti r64b]] (T.tup [ti r92, ti r92b, tb r92c]))]) (e := .normal) (σ' := ⟨[2003, 2010], [(20, vb r92c), (19, vi r92b), (18, vi r92), (17, vb r86c), (16, vi r86b), (15, vi r86), (12, vb r67b), (11, vl r67), (10, V.ref 2010 0), (7, vb r44b), (6, V.t (T.list (List.length r44) 2 (List.flatMap askedC r44))), (5, vi r36d), (4, vi r36c), (3, V.ref 2003 0), (2, vb false)], [(2003, oc 26 [tl r36, ti r36b]), (2010, oc 26 [tl r64, ti r64b])]⟩) (by kernel_rfl) ⟨by decide, (F_spec_OpenSpan_W r64 r64b r92 r92b r92c c8), trivial⟩ ?_
            obtain ⟨J1, hJ1, h⟩ := jn_some h
            refine WP.joinA (fun (zz : Bool) => ⟨[2003, 2010], [(108, vb zz), (17, vb r86c), (16, vi r86b), (15, vi r86), (12, vb r67b), (11, vl r67), (10, V.ref 2010 0), (7, vb r44b), (6, V.t (T.list (List.length r44) 2 (List.flatMap askedC r44))), (5, vi r36d), (4, vi r36c), (3, V.ref 2003 0), (2, vb false)], [(2003, oc 26 [tl r36, ti r36b]), (2010, oc 26 [tl r64, ti r64b])]⟩) (fun zz => J1 zz = some y0) ?_ ?_
            · -- to where they meet
              rcases ite_some h with ⟨h6, h⟩ | ⟨h6, h⟩
              · -- yes
                refine WP.path tab_ok mixed [(98, An.b true)] [.keep [108, 17, 16, 15, 12, 11, 10, 7, 6, 5, 4, 3, 2], .keepO [2003, 2010], .names [(2003, 2003), (2010, 2010)]] (ps := [(True), ((r86 != r92) = true)]) (e := .normal) (σ' := ⟨[2003, 2010], [(108, vb true), (17, vb r86c), (16, vi r86b), (15, vi r86), (12, vb r67b), (11, vl r67), (10, V.ref 2010 0), (7, vb r44b), (6, V.t (T.list (List.length r44) 2 (List.flatMap askedC r44))), (5, vi r36d), (4, vi r36c), (3, V.ref 2003 0), (2, vb false)], [(2003, oc 26 [tl r36, ti r36b]), (2010, oc 26 [tl r64, ti r64b])]⟩) (by kernel_rfl) ⟨trivial, h6, trivial⟩ ?_
                exact ⟨(true), h, rfl⟩
              · -- no
                rcases ite_some h with ⟨h7, h⟩ | ⟨h7, h⟩
                · -- yes
                  refine WP.path tab_ok mixed [(98, An.b false), (102, An.b true)] [.keep [108, 17, 16, 15, 12, 11, 10, 7, 6, 5, 4, 3, 2], .keepO [2003, 2010], .names [(2003, 2003), (2010, 2010)]] (ps := [(True), ((r86 != r92) = false), (True), ((r86b != r92b) = true)]) (e := .normal) (σ' := ⟨[2003, 2010], [(108, vb true), (17, vb r86c), (16, vi r86b), (15, vi r86), (12, vb r67b), (11, vl r67), (10, V.ref 2010 0), (7, vb r44b), (6, V.t (T.list (List.length r44) 2 (List.flatMap askedC r44))), (5, vi r36d), (4, vi r36c), (3, V.ref 2003 0), (2, vb false)], [(2003, oc 26 [tl r36, ti r36b]), (2010, oc 26 [tl r64, ti r64b])]⟩) (by kernel_rfl) ⟨trivial, h6, trivial, h7, trivial⟩ ?_
                  exact ⟨(true), h, rfl⟩
                · -- no
                  refine WP.path tab_ok mixed [(98, An.b false), (102, An.b false)] [.keep [108, 17, 16, 15, 12, 11, 10, 7, 6, 5, 4, 3, 2], .keepO [2003, 2010], .names [(2003, 2003), (2010, 2010)]] (ps := [(True), ((r86 != r92) = false), (True), ((r86b != r92b) = false), (True)]) (e := .normal) (σ' := ⟨[2003, 2010], [(108, vb (!(r86c == r92c))), (17, vb r86c), (16, vi r86b), (15, vi r86), (12, vb r67b), (11, vl r67), (10, V.ref 2010 0), (7, vb r44b), (6, V.t (T.list (List.length r44) 2 (List.flatMap askedC r44))), (5, vi r36d), (4, vi r36c), (3, V.ref 2003 0), (2, vb false)], [(2003, oc 26 [tl r36, ti r36b]), (2010, oc 26 [tl r64, ti r64b])]⟩) (by kernel_rfl) ⟨trivial, h6, trivial, h7, trivial, trivial⟩ ?_
                  exact ⟨(!(r86c == r92c)), h, rfl⟩
            · -- from there
              intro v108 h0
              have h := (show J1 v108 = some y0 from h0)
              rw [hJ1] at h
              rcases ite_some h with ⟨h8, h⟩ | ⟨h8, h⟩
              · -- yes
                refine WP.cond (b := v108) rfl (fun _ => ?_) (fun hh => by rw [h8] at hh; cases hh)
                have h := Option.some.inj h
                subst h
                exact WP.pathW tab_ok mixed [] _ (ps := []) (r := tb false) (by kernel_rfl) trivial (WkT.eq (y := tb false) (WkT.refl _) rfl) (fun _ h => h)
              · -- no
                refine WP.cond (b := v108) rfl (fun hh => by rw [h8] at hh; cases hh) (fun _ => ?_)
                refine WP.path tab_ok mixed [] [.keep [17, 16, 15, 12, 11, 10, 7, 6, 5, 4, 3, 2], .keepO [2003, 2010]] (ps := []) (e := .normal) (σ' := ⟨[2003, 2010], [(17, vb r86c), (16, vi r86b), (15, vi r86), (12, vb r67b), (11, vl r67), (10, V.ref 2010 0), (7, vb r44b), (6, V.t (T.list (List.length r44) 2 (List.flatMap askedC r44))), (5, vi r36d), (4, vi r36c), (3, V.ref 2003 0), (2, vb false)], [(2003, oc 26 [tl r36, ti r36b]), (2010, oc 26 [tl r64, ti r64b])]⟩) (by kernel_rfl) trivial ?_
                obtain ⟨J1, hJ1, h⟩ := jn_some h
                refine WP.joinA (fun (zz : Unit) => ⟨[2003], [(7, vb r44b), (6, V.t (T.list (List.length r44) 2 (List.flatMap askedC r44))), (5, vi r36d), (4, vi r36c), (3, V.ref 2003 0), (2, vb false)], [(2003, oc 26 [tl r36, ti r36b])]⟩) (fun zz => J1 () = some y0) ?_ ?_
                · -- to where they meet
                  refine WP.seq ?_
                  refine WP.path tab_ok mixed [] [.keep [109, 17, 16, 15, 11, 10, 7, 6, 5, 4, 3, 2], .keepO [2003, 2010]] (ps := []) (e := .normal) (σ' := ⟨[2003, 2010], [(109, vb r67b), (17, vb r86c), (16, vi r86b), (15, vi r86), (11, vl r67), (10, V.ref 2010 0), (7, vb r44b), (6, V.t (T.list (List.length r44) 2 (List.flatMap askedC r44))), (5, vi r36d), (4, vi r36c), (3, V.ref 2003 0), (2, vb false)], [(2003, oc 26 [tl r36, ti r36b]), (2010, oc 26 [tl r64, ti r64b])]⟩) (by kernel_rfl) trivial ?_
                  rcases ite_some h with ⟨h9, h⟩ | ⟨h9, h⟩
                  · -- yes
                    refine WP.cond (b := r67b) rfl (fun _ => ?_) (fun hh => by rw [h9] at hh; cases hh)
                    refine WP.seq ?_
                    obtain ⟨r112, r112b, c9, h⟩ := bnd2_some h
                    refine WP.path tab_ok mixed [(112, An.call (T.tup [tl r112, tb r112b]))] [.keep [22, 21, 17, 16, 15, 11, 7, 6, 5, 4, 3, 2], .keepO [2003]] (ps := [(0 + 2 ≤ 2), (C Try.prog 17 [T.agg [tl r64, ti r64b]] (T.tup [tl r112, tb r112b]))]) (e := .normal) (σ' := ⟨[2003, 2010], [(22, vb r112b), (21, vl r112), (17, vb r86c), (16, vi r86b), (15, vi r86), (11, vl r67), (7, vb r44b), (6, V.t (T.list (List.length r44) 2 (List.flatMap askedC r44))), (5, vi r36d), (4, vi r36c), (3, V.ref 2003 0), (2, vb false)], [(2003, oc 26 [tl r36, ti r36b])]⟩) (by kernel_rfl) ⟨by decide, (F_impl_OpenNumbers_W_C r64 r64b r112 r112b c9), trivial⟩ ?_
                    refine WP.seq ?_
                    obtain ⟨J2, hJ2, h⟩ := jn_some h
                    refine WP.joinA (fun (zz : Bool) => ⟨[2003], [(123, vb zz), (21, vl r112), (17, vb r86c), (16, vi r86b), (15, vi r86), (11, vl r67), (7, vb r44b), (6, V.t (T.list (List.length r44) 2 (List.flatMap askedC r44))), (5, vi r36d), (4, vi r36c), (3, V.ref 2003 0), (2, vb false)], [(2003, oc 26 [tl r36, ti r36b])]⟩) (fun zz => J2 zz = some y0) ?_ ?_
                    · -- to where they meet
                      rcases ite_some h with ⟨h10, h⟩ | ⟨h10, h⟩
                      · -- yes
                        refine WP.path tab_ok mixed [(117, An.b true)] [.keep [123, 21, 17, 16, 15, 11, 7, 6, 5, 4, 3, 2], .keepO [2003], .names [(2003, 2003)]] (ps := [((!r112b) = true)]) (e := .normal) (σ' := ⟨[2003], [(123, vb true), (21, vl r112), (17, vb r86c), (16, vi r86b), (15, vi r86), (11, vl r67), (7, vb r44b), (6, V.t (T.list (List.length r44) 2 (List.flatMap askedC r44))), (5, vi r36d), (4, vi r36c), (3, V.ref 2003 0), (2, vb false)], [(2003, oc 26 [tl r36, ti r36b])]⟩) (by kernel_rfl) ⟨h10, trivial⟩ ?_
                        exact ⟨(true), h, rfl⟩
                      · -- no
                        refine WP.path tab_ok mixed [(117, An.b false)] [.keep [123, 21, 17, 16, 15, 11, 7, 6, 5, 4, 3, 2], .keepO [2003], .names [(2003, 2003)]] (ps := [((!r112b) = false), (True), (True)]) (e := .normal) (σ' := ⟨[2003], [(123, vb (!(r86c == (decide (((List.length r112 : Nat) : Int) > (0 : Int)))))), (21, vl r112), (17, vb r86c), (16, vi r86b), (15, vi r86), (11, vl r67), (7, vb r44b), (6, V.t (T.list (List.length r44) 2 (List.flatMap askedC r44))), (5, vi r36d), (4, vi r36c), (3, V.ref 2003 0), (2, vb false)], [(2003, oc 26 [tl r36, ti r36b])]⟩) (by kernel_rfl) ⟨h10, trivial, trivial, trivial⟩ ?_
                        exact ⟨(!(r86c == (decide (((List.length r112 : Nat) : Int) > (0 : Int))))), h, rfl⟩
                    · -- from there
                      intro v123 h0
                      have h := (show J2 v123 = some y0 from h0)
                      rw [hJ2] at h
                      rcases ite_some h with ⟨h11, h⟩ | ⟨h11, h⟩
                      · -- yes
                        refine WP.cond (b := v123) rfl (fun _ => ?_) (fun hh => by rw [h11] at hh; cases hh)
                        have h := Option.some.inj h
                        subst h
                        exact WP.pathW tab_ok mixed [] _ (ps := []) (r := tb false) (by kernel_rfl) trivial (WkT.eq (y := tb false) (WkT.refl _) rfl) (fun _ h => h)
                      · -- no
                        refine WP.cond (b := v123) rfl (fun hh => by rw [h11] at hh; cases hh) (fun _ => ?_)
                        refine WP.path tab_ok mixed [] [.keep [21, 17, 16, 15, 11, 7, 6, 5, 4, 3, 2], .keepO [2003]] (ps := []) (e := .normal) (σ' := ⟨[2003], [(21, vl r112), (17, vb r86c), (16, vi r86b), (15, vi r86), (11, vl r67), (7, vb r44b), (6, V.t (T.list (List.length r44) 2 (List.flatMap askedC r44))), (5, vi r36d), (4, vi r36c), (3, V.ref 2003 0), (2, vb false)], [(2003, oc 26 [tl r36, ti r36b])]⟩) (by kernel_rfl) trivial ?_
                        obtain ⟨J2, hJ2, h⟩ := jn_some h
                        refine WP.joinA (fun (zz : Bool) => ⟨[2003], [(149, vb zz), (7, vb r44b), (6, V.t (T.list (List.length r44) 2 (List.flatMap askedC r44))), (5, vi r36d), (4, vi r36c), (3, V.ref 2003 0), (2, vb false)], [(2003, oc 26 [tl r36, ti r36b])]⟩) (fun zz => J2 zz = some y0) ?_ ?_
                        · -- to where they meet
                          rcases ite_some h with ⟨h12, h⟩ | ⟨h12, h⟩
                          · -- yes
                            obtain ⟨c10, h⟩ := chk_some h
                            rcases ite_some h with ⟨h13, h⟩ | ⟨h13, h⟩
                            · -- yes
                              refine WP.path tab_ok mixed [(125, An.b true), (129, An.v (ti (List.getD r112 0 0))), (130, An.b true)] [.keep [149, 7, 6, 5, 4, 3, 2], .keepO [2003], .names [(2003, 2003)]] (ps := [((r86c) = true), ((0 ≤ (0 : Int) ∧ (0 : Int) < ((List.length r112 : Nat) : Int))), ((List.drop 0 (List.map (T.int .i64) r112) : List T)[0]? = some (ti (List.getD r112 0 0))), (ti (List.getD r112 0 0) = ti (List.getD r112 0 0)), (True), ((r86 != (List.getD r112 0 0)) = true)]) (e := .normal) (σ' := ⟨[2003], [(149, vb true), (7, vb r44b), (6, V.t (T.list (List.length r44) 2 (List.flatMap askedC r44))), (5, vi r36d), (4, vi r36c), (3, V.ref 2003 0), (2, vb false)], [(2003, oc 26 [tl r36, ti r36b])]⟩) (by kernel_rfl) ⟨h12, c10, at1 (by simp) (by omega), rfl, trivial, h13, trivial⟩ ?_
                              exact ⟨(true), h, rfl⟩
                            · -- no
                              obtain ⟨c11, h⟩ := chk_some h
                              obtain ⟨n136, c12, h⟩ := nam_some h
                              obtain ⟨c13, h⟩ := chk_some h
                              rcases ite_some h with ⟨h14, h⟩ | ⟨h14, h⟩
                              · -- yes
                                refine WP.path tab_ok mixed [(125, An.b true), (129, An.v (ti (List.getD r112 0 0))), (130, An.b false), (136, An.v (ti n136)), (138, An.v (ti (List.getD r112 (Int.toNat n136) 0))), (139, An.b true)] [.keep [149, 7, 6, 5, 4, 3, 2], .keepO [2003], .names [(2003, 2003)]] (ps := [((r86c) = true), ((0 ≤ (0 : Int) ∧ (0 : Int) < ((List.length r112 : Nat) : Int))), ((List.drop 0 (List.map (T.int .i64) r112) : List T)[0]? = some (ti (List.getD r112 0 0))), (ti (List.getD r112 0 0) = ti (List.getD r112 0 0)), (True), ((r86 != (List.getD r112 0 0)) = false), (True), (T.int .i64 (IntKind.wrap .i64 (((List.length r112 : Nat) : Int) - (1 : Int))) = ti n136), ((0 ≤ n136 ∧ n136 < ((List.length r112 : Nat) : Int))), ((List.drop ((Int.toNat n136) * 1) (List.map (T.int .i64) r112) : List T)[0]? = some (ti (List.getD r112 (Int.toNat n136) 0))), (ti (List.getD r112 (Int.toNat n136) 0) = ti (List.getD r112 (Int.toNat n136) 0)), (True), ((r86b != (List.getD r112 (Int.toNat n136) 0)) = true)]) (e := .normal) (σ' := ⟨[2003], [(149, vb true), (7, vb r44b), (6, V.t (T.list (List.length r44) 2 (List.flatMap askedC r44))), (5, vi r36d), (4, vi r36c), (3, V.ref 2003 0), (2, vb false)], [(2003, oc 26 [tl r36, ti r36b])]⟩) (by kernel_rfl) ⟨h12, c10, at1 (by simp) (by omega), rfl, trivial, h13, trivial, Eq.trans (wrapI c11) (congrArg (ti) c12), c13, at1 (by simp) (by omega), rfl, trivial, h14, trivial⟩ ?_
                                exact ⟨(true), h, rfl⟩
                              · -- no
                                obtain ⟨c14, h⟩ := chk_some h
                                refine WP.path tab_ok mixed [(125, An.b true), (129, An.v (ti (List.getD r112 0 0))), (130, An.b false), (136, An.v (ti n136)), (138, An.v (ti (List.getD r112 (Int.toNat n136) 0))), (139, An.b false), (146, An.v (T.int .i64 (r86b - r86)))] [.keep [149, 7, 6, 5, 4, 3, 2], .keepO [2003], .names [(2003, 2003)]] (ps := [((r86c) = true), ((0 ≤ (0 : Int) ∧ (0 : Int) < ((List.length r112 : Nat) : Int))), ((List.drop 0 (List.map (T.int .i64) r112) : List T)[0]? = some (ti (List.getD r112 0 0))), (ti (List.getD r112 0 0) = ti (List.getD r112 0 0)), (True), ((r86 != (List.getD r112 0 0)) = false), (True), (T.int .i64 (IntKind.wrap .i64 (((List.length r112 : Nat) : Int) - (1 : Int))) = ti n136), ((0 ≤ n136 ∧ n136 < ((List.length r112 : Nat) : Int))), ((List.drop ((Int.toNat n136) * 1) (List.map (T.int .i64) r112) : List T)[0]? = some (ti (List.getD r112 (Int.toNat n136) 0))), (ti (List.getD r112 (Int.toNat n136) 0) = ti (List.getD r112 (Int.toNat n136) 0)), (True), ((r86b != (List.getD r112 (Int.toNat n136) 0)) = false), (True), (T.int .i64 (IntKind.wrap .i64 (r86b - r86)) = T.int .i64 (r86b - r86)), (True)]) (e := .normal) (σ' := ⟨[2003], [(149, vb (((List.length r67 : Nat) : Int) != (r86b - r86))), (7, vb r44b), (6, V.t (T.list (List.length r44) 2 (List.flatMap askedC r44))), (5, vi r36d), (4, vi r36c), (3, V.ref 2003 0), (2, vb false)], [(2003, oc 26 [tl r36, ti r36b])]⟩) (by kernel_rfl) ⟨h12, c10, at1 (by simp) (by omega), rfl, trivial, h13, trivial, Eq.trans (wrapI c11) (congrArg (ti) c12), c13, at1 (by simp) (by omega), rfl, trivial, h14, trivial, wrapI c14, trivial, trivial⟩ ?_
                                exact ⟨(((List.length r67 : Nat) : Int) != (r86b - r86)), h, rfl⟩
                          · -- no
                            refine WP.path tab_ok mixed [(125, An.b false)] [.keep [149, 7, 6, 5, 4, 3, 2], .keepO [2003], .names [(2003, 2003)]] (ps := [((r86c) = false)]) (e := .normal) (σ' := ⟨[2003], [(149, vb false), (7, vb r44b), (6, V.t (T.list (List.length r44) 2 (List.flatMap askedC r44))), (5, vi r36d), (4, vi r36c), (3, V.ref 2003 0), (2, vb false)], [(2003, oc 26 [tl r36, ti r36b])]⟩) (by kernel_rfl) ⟨h12, trivial⟩ ?_
                            exact ⟨(false), h, rfl⟩
                        · -- from there
                          intro v149 h0
                          have h := (show J2 v149 = some y0 from h0)
                          rw [hJ2] at h
                          rcases ite_some h with ⟨h15, h⟩ | ⟨h15, h⟩
                          · -- yes
                            refine WP.cond (b := v149) rfl (fun _ => ?_) (fun hh => by rw [h15] at hh; cases hh)
                            have h := Option.some.inj h
                            subst h
                            exact WP.pathW tab_ok mixed [] _ (ps := []) (r := tb false) (by kernel_rfl) trivial (WkT.eq (y := tb false) (WkT.refl _) rfl) (fun _ h => h)
                          · -- no
                            refine WP.cond (b := v149) rfl (fun hh => by rw [h15] at hh; cases hh) (fun _ => ?_)
                            refine WP.path tab_ok mixed [] [.keep [7, 6, 5, 4, 3, 2], .keepO [2003], .names [(2003, 2003)]] (ps := []) (e := .normal) (σ' := ⟨[2003], [(7, vb r44b), (6, V.t (T.list (List.length r44) 2 (List.flatMap askedC r44))), (5, vi r36d), (4, vi r36c), (3, V.ref 2003 0), (2, vb false)], [(2003, oc 26 [tl r36, ti r36b])]⟩) (by kernel_rfl) trivial ?_
                            exact ⟨(), h, rfl⟩
                  · -- no
                    refine WP.cond (b := r67b) rfl (fun hh => by rw [h9] at hh; cases hh) (fun _ => ?_)
                    refine WP.path tab_ok mixed [] [.keep [7, 6, 5, 4, 3, 2], .keepO [2003], .names [(2003, 2003)]] (ps := []) (e := .normal) (σ' := ⟨[2003], [(7, vb r44b), (6, V.t (T.list (List.length r44) 2 (List.flatMap askedC r44))), (5, vi r36d), (4, vi r36c), (3, V.ref 2003 0), (2, vb false)], [(2003, oc 26 [tl r36, ti r36b])]⟩) (by kernel_rfl) trivial ?_
                    exact ⟨(), h, rfl⟩
                · -- from there
                  intro _ h0
                  have h := (show J1 () = some y0 from h0)
                  rw [hJ1] at h
                  refine WP.seq ?_
                  refine WP.seq ?_
                  refine WP.path tab_ok mixed [] [.keep [151, 6, 5, 4, 3, 2], .keepO [2003]] (ps := []) (e := .normal) (σ' := ⟨[2003], [(151, vb !r44b), (6, V.t (T.list (List.length r44) 2 (List.flatMap askedC r44))), (5, vi r36d), (4, vi r36c), (3, V.ref 2003 0), (2, vb false)], [(2003, oc 26 [tl r36, ti r36b])]⟩) (by kernel_rfl) trivial ?_
                  rcases ite_some h with ⟨h16, h⟩ | ⟨h16, h⟩
                  · -- yes
                    refine WP.cond (b := !r44b) rfl (fun _ => ?_) (fun hh => by rw [h16] at hh; cases hh)
                    have h := Option.some.inj h
                    subst h
                    exact WP.pathW tab_ok mixed [] _ (ps := []) (r := tb true) (by kernel_rfl) trivial (WkT.eq (y := tb true) (WkT.refl _) rfl) (fun _ h => h)
                  · -- no
                    refine WP.cond (b := !r44b) rfl (fun hh => by rw [h16] at hh; cases hh) (fun _ => ?_)
                    refine WP.path tab_ok mixed [] [.keep [6, 5, 4, 3, 2], .keepO [2003]] (ps := []) (e := .normal) (σ' := ⟨[2003], [(6, V.t (T.list (List.length r44) 2 (List.flatMap askedC r44))), (5, vi r36d), (4, vi r36c), (3, V.ref 2003 0), (2, vb false)], [(2003, oc 26 [tl r36, ti r36b])]⟩) (by kernel_rfl) trivial ?_
                    refine WP.seq ?_
                    obtain ⟨r154, r154b, c9, h⟩ := bnd2_some h
                    refine WP.path tab_ok mixed [(154, An.call (T.tup [ti r154, tb r154b]))] [.keep [24, 23, 6, 5, 4, 3, 2], .keepO [2003]] (ps := [(0 + 2 ≤ 2), (C Try.prog 18 [T.agg [tl r36, ti r36b]] (T.tup [ti r154, tb r154b]))]) (e := .normal) (σ' := ⟨[2003], [(24, vb r154b), (23, vi r154), (6, V.t (T.list (List.length r44) 2 (List.flatMap askedC r44))), (5, vi r36d), (4, vi r36c), (3, V.ref 2003 0), (2, vb false)], [(2003, oc 26 [tl r36, ti r36b])]⟩) (by kernel_rfl) ⟨by decide, (F_impl_LessNeed_W r36 r36b r154 r154b c9), trivial⟩ ?_
                    refine WP.seq ?_
                    obtain ⟨J1, hJ1, h⟩ := jn_some h
                    refine WP.joinA (fun (zz : Bool) => ⟨[2003], [(164, vb zz), (6, V.t (T.list (List.length r44) 2 (List.flatMap askedC r44))), (5, vi r36d), (4, vi r36c), (3, V.ref 2003 0), (2, vb false)], [(2003, oc 26 [tl r36, ti r36b])]⟩) (fun zz => J1 zz = some y0) ?_ ?_
                    · -- to where they meet
                      rcases ite_some h with ⟨h17, h⟩ | ⟨h17, h⟩
                      · -- yes
                        refine WP.path tab_ok mixed [(159, An.b true)] [.keep [164, 6, 5, 4, 3, 2], .keepO [2003], .names [(2003, 2003)]] (ps := [((!r154b) = true)]) (e := .normal) (σ' := ⟨[2003], [(164, vb true), (6, V.t (T.list (List.length r44) 2 (List.flatMap askedC r44))), (5, vi r36d), (4, vi r36c), (3, V.ref 2003 0), (2, vb false)], [(2003, oc 26 [tl r36, ti r36b])]⟩) (by kernel_rfl) ⟨h17, trivial⟩ ?_
                        exact ⟨(true), h, rfl⟩
                      · -- no
                        refine WP.path tab_ok mixed [(159, An.b false)] [.keep [164, 6, 5, 4, 3, 2], .keepO [2003], .names [(2003, 2003)]] (ps := [((!r154b) = false), (True)]) (e := .normal) (σ' := ⟨[2003], [(164, vb (decide (((List.length r44 : Nat) : Int) > r154))), (6, V.t (T.list (List.length r44) 2 (List.flatMap askedC r44))), (5, vi r36d), (4, vi r36c), (3, V.ref 2003 0), (2, vb false)], [(2003, oc 26 [tl r36, ti r36b])]⟩) (by kernel_rfl) ⟨h17, trivial, trivial⟩ ?_
                        exact ⟨(decide (((List.length r44 : Nat) : Int) > r154)), h, rfl⟩
                    · -- from there
                      intro v164 h0
                      have h := (show J1 v164 = some y0 from h0)
                      rw [hJ1] at h
                      rcases ite_some h with ⟨h18, h⟩ | ⟨h18, h⟩
                      · -- yes
                        refine WP.cond (b := v164) rfl (fun _ => ?_) (fun hh => by rw [h18] at hh; cases hh)
                        have h := Option.some.inj h
                        subst h
                        exact WP.pathW tab_ok mixed [] _ (ps := []) (r := tb false) (by kernel_rfl) trivial (WkT.eq (y := tb false) (WkT.refl _) rfl) (fun _ h => h)
                      · -- no
                        refine WP.cond (b := v164) rfl (fun hh => by rw [h18] at hh; cases hh) (fun _ => ?_)
                        refine WP.path tab_ok mixed [] [.keep [6, 5, 4, 3, 2], .keepO [2003]] (ps := []) (e := .normal) (σ' := ⟨[2003], [(6, V.t (T.list (List.length r44) 2 (List.flatMap askedC r44))), (5, vi r36d), (4, vi r36c), (3, V.ref 2003 0), (2, vb false)], [(2003, oc 26 [tl r36, ti r36b])]⟩) (by kernel_rfl) trivial ?_
                        refine WP.seq ?_
                        refine WP.path tab_ok mixed [(25, An.id 2025)] [.keep [25, 6, 5, 4, 2], .keepO [2025]] (ps := [(0 + 2 ≤ 2), ((0 + 2 ≤ 2 ∧ 2 = 2))]) (e := .normal) (σ' := ⟨[2025, 2003], [(25, V.ref 2025 0), (6, V.t (T.list (List.length r44) 2 (List.flatMap askedC r44))), (5, vi r36d), (4, vi r36c), (2, vb false)], [(2025, oc 26 [tl r36, ti r36b])]⟩) (by kernel_rfl) ⟨by decide, by decide, trivial⟩ ?_
                        obtain ⟨J1, hJ1, h⟩ := jn_some h
                        refine WP.joinA (fun (zz : (List Int) × Int) => ⟨[2025], [(25, V.ref 2025 0), (4, vi r36c), (2, vb false)], [(2025, oc 26 [tl zz.1, ti zz.2])]⟩) (fun zz => J1 zz.1 zz.2 = some y0) ?_ ?_
                        · -- to where they meet
                          refine WP.seq ?_
                          refine WP.path tab_ok mixed [] [.keep [26, 25, 6, 5, 4, 2], .keepO [2025]] (ps := []) (e := .normal) (σ' := ⟨[2025, 2003], [(26, vi 0), (25, V.ref 2025 0), (6, V.t (T.list (List.length r44) 2 (List.flatMap askedC r44))), (5, vi r36d), (4, vi r36c), (2, vb false)], [(2025, oc 26 [tl r36, ti r36b])]⟩) (by kernel_rfl) trivial ?_
                          refine WP.block ?_
                          refine WP.wk [.keep [26, 25, 6, 5, 4, 2], .keepO [2025], .names [(2025, 2025)]] (σ' := ⟨[2025], [(26, vi 0), (25, V.ref 2025 0), (6, V.t (T.list (List.length r44) 2 (List.flatMap askedC r44))), (5, vi r36d), (4, vi r36c), (2, vb false)], [(2025, oc 26 [tl r36, ti r36b])]⟩) (ps := []) (by kernel_rfl) trivial ?_
                          refine WP.st (σ' := ⟨[2025], [(26, vi (0 : Int)), (25, V.ref 2025 0), (6, V.t (T.list (List.length r44) 2 (List.flatMap askedC r44))), (5, vi r36d), (4, vi r36c), (2, vb false)], [(2025, oc 26 [tl r36, ti r36b])]⟩) (by first | rfl | (simp only [tlS, tl, vl, vo, oc, ov, tbl, vbl, ty, vy] <;> rfl) | (simp <;> omega) | (simp []; done) | (rw [List.take_of_length_le (by simp [])] <;> rfl)) ?_
                          refine WP.loop (α := Nat × (List Int) × Int × Int) (fun zz => ⟨[2025], [(26, vi zz.2.2.2), (25, V.ref 2025 0), (6, V.t (T.list (List.length r44) 2 (List.flatMap askedC r44))), (5, vi r36d), (4, vi r36c), (2, vb false)], [(2025, oc 26 [tl zz.2.1, ti zz.2.2.1])]⟩) (fun zz => F_laws_FnLessPlays_L1 r36c r36d r44 J1 zz.1 zz.2.1 zz.2.2.1 zz.2.2.2 = some y0) (fun zz => zz.1) (fuel, r36, r36b, (0 : Int)) h ?_
                          rintro ⟨n, o25, o25b, v26⟩ h0
                          have h := (show F_laws_FnLessPlays_L1 r36c r36d r44 J1 n o25 o25b v26 = some y0 from h0)
                          rcases n with _ | n
                          · rw [F_laws_FnLessPlays_L1] at h; cases h
                          · rw [F_laws_FnLessPlays_L1] at h
                            refine WP.seq ?_
                            refine WP.seq ?_
                            refine WP.path tab_ok mixed [] [.keep [169, 26, 25, 6, 5, 4, 2], .keepO [2025]] (ps := [(True)]) (e := .normal) (σ' := ⟨[2025], [(169, vb (decide (v26 < ((List.length r44 : Nat) : Int)))), (26, vi v26), (25, V.ref 2025 0), (6, V.t (T.list (List.length r44) 2 (List.flatMap askedC r44))), (5, vi r36d), (4, vi r36c), (2, vb false)], [(2025, oc 26 [tl o25, ti o25b])]⟩) (by kernel_rfl) ⟨trivial, trivial⟩ ?_
                            rcases ite_some h with ⟨h19, h⟩ | ⟨h19, h⟩
                            · -- yes
                              refine WP.cond (b := decide (v26 < ((List.length r44 : Nat) : Int))) rfl (fun _ => ?_) (fun hh => by rw [h19] at hh; cases hh)
                              refine WP.path tab_ok mixed [] [.keep [26, 25, 6, 5, 4, 2], .keepO [2025]] (ps := []) (e := .normal) (σ' := ⟨[2025], [(26, vi v26), (25, V.ref 2025 0), (6, V.t (T.list (List.length r44) 2 (List.flatMap askedC r44))), (5, vi r36d), (4, vi r36c), (2, vb false)], [(2025, oc 26 [tl o25, ti o25b])]⟩) (by kernel_rfl) trivial ?_
                              refine WP.seq ?_
                              refine WP.block ?_
                              refine WP.seq ?_
                              obtain ⟨c10, h⟩ := chk_some h
                              obtain ⟨c11, h⟩ := chk_some h
                              refine WP.path tab_ok mixed [(177, An.v (T.agg [ti ((List.getD r44 (Int.toNat v26) (0, false)).1), tb ((List.getD r44 (Int.toNat v26) (0, false)).2)])), (178, An.call (T.tup [T.agg [tl (asL o25 o25b ((List.getD r44 (Int.toNat v26) (0, false)).1) ((List.getD r44 (Int.toNat v26) (0, false)).2)), ti (asM o25 o25b ((List.getD r44 (Int.toNat v26) (0, false)).1) ((List.getD r44 (Int.toNat v26) (0, false)).2))], tb (asB o25 o25b ((List.getD r44 (Int.toNat v26) (0, false)).1))])), (27, An.id 2027)] [.keep [28, 27, 26, 25, 6, 5, 4, 2], .keepO [2025, 2027]] (ps := [(0 + 2 ≤ 2), ((0 ≤ v26 ∧ v26 < ((List.length r44 : Nat) : Int))), (2 ≤ List.length (List.drop ((Int.toNat v26) * 2) (List.flatMap askedC r44))), (T.agg (List.take 2 (List.drop ((Int.toNat v26) * 2) (List.flatMap askedC r44))) = T.agg [ti ((List.getD r44 (Int.toNat v26) (0, false)).1), tb ((List.getD r44 (Int.toNat v26) (0, false)).2)]), (C Try.prog 19 [T.agg [tl o25, ti o25b], T.agg [ti ((List.getD r44 (Int.toNat v26) (0, false)).1), tb ((List.getD r44 (Int.toNat v26) (0, false)).2)]] (T.tup [T.agg [tl (asL o25 o25b ((List.getD r44 (Int.toNat v26) (0, false)).1) ((List.getD r44 (Int.toNat v26) (0, false)).2)), ti (asM o25 o25b ((List.getD r44 (Int.toNat v26) (0, false)).1) ((List.getD r44 (Int.toNat v26) (0, false)).2))], tb (asB o25 o25b ((List.getD r44 (Int.toNat v26) (0, false)).1))])), ((0 + 2 ≤ 2 ∧ 2 = 2))]) (e := .normal) (σ' := ⟨[2027, 2025], [(28, vb (asB o25 o25b ((List.getD r44 (Int.toNat v26) (0, false)).1))), (27, V.ref 2027 0), (26, vi v26), (25, V.ref 2025 0), (6, V.t (T.list (List.length r44) 2 (List.flatMap askedC r44))), (5, vi r36d), (4, vi r36c), (2, vb false)], [(2025, oc 26 [tl o25, ti o25b]), (2027, oc 26 [tl (asL o25 o25b ((List.getD r44 (Int.toNat v26) (0, false)).1) ((List.getD r44 (Int.toNat v26) (0, false)).2)), ti (asM o25 o25b ((List.getD r44 (Int.toNat v26) (0, false)).1) ((List.getD r44 (Int.toNat v26) (0, false)).2))])]⟩) (by kernel_rfl) ⟨by decide, c10, fit_asked (i := Int.toNat v26) (by simp) (by omega), at_asked (by simp) (by omega), (iAnswerState_C o25 o25b ((List.getD r44 (Int.toNat v26) (0, false)).1) ((List.getD r44 (Int.toNat v26) (0, false)).2) c11), by decide, trivial⟩ ?_
                              refine WP.seq ?_
                              obtain ⟨c12, h⟩ := chk_some h
                              obtain ⟨n188, c13, h⟩ := nam_some h
                              refine WP.path tab_ok mixed [(185, An.v (ti ((List.getD r44 (Int.toNat v26) (0, false)).1))), (187, An.v (T.int .i64 (((List.getD r44 (Int.toNat v26) (0, false)).1) / 2 ^ Int.toNat r36c))), (188, An.v (ti n188))] [.keep [29, 28, 27, 26, 25, 6, 5, 4, 2], .keepO [2025, 2027]] (ps := [((0 ≤ v26 ∧ v26 < ((List.length r44 : Nat) : Int))), ((List.drop ((Int.toNat v26) * 2) (List.flatMap askedC r44) : List T)[0]? = some (ti ((List.getD r44 (Int.toNat v26) (0, false)).1))), (ti ((List.getD r44 (Int.toNat v26) (0, false)).1) = ti ((List.getD r44 (Int.toNat v26) (0, false)).1)), (0 ≤ r36c), (T.int .i64 (Int.fdiv ((List.getD r44 (Int.toNat v26) (0, false)).1) (2 ^ (min (Int.toNat r36c) 64))) = T.int .i64 (((List.getD r44 (Int.toNat v26) (0, false)).1) / 2 ^ Int.toNat r36c)), (True), (ti (bits .and .i64 (((List.getD r44 (Int.toNat v26) (0, false)).1) / 2 ^ Int.toNat r36c) (1 : Int)) = ti n188), (True)]) (e := .normal) (σ' := ⟨[2027, 2025], [(29, vb (n188 == (1 : Int))), (28, vb (asB o25 o25b ((List.getD r44 (Int.toNat v26) (0, false)).1))), (27, V.ref 2027 0), (26, vi v26), (25, V.ref 2025 0), (6, V.t (T.list (List.length r44) 2 (List.flatMap askedC r44))), (5, vi r36d), (4, vi r36c), (2, vb false)], [(2025, oc 26 [tl o25, ti o25b]), (2027, oc 26 [tl (asL o25 o25b ((List.getD r44 (Int.toNat v26) (0, false)).1) ((List.getD r44 (Int.toNat v26) (0, false)).2)), ti (asM o25 o25b ((List.getD r44 (Int.toNat v26) (0, false)).1) ((List.getD r44 (Int.toNat v26) (0, false)).2))])]⟩) (by kernel_rfl) ⟨c10, fld0_asked (by simp) (by omega) rfl, rfl, c12.1, shr_told c12, trivial, congrArg (ti) c13, trivial, trivial⟩ ?_
                              refine WP.seq ?_
                              obtain ⟨J2, hJ2, h⟩ := jn_some h
                              refine WP.joinA (fun (zz : Bool) => ⟨[2025, 2027], [(204, vb zz), (27, V.ref 2027 0), (26, vi v26), (25, V.ref 2025 0), (6, V.t (T.list (List.length r44) 2 (List.flatMap askedC r44))), (5, vi r36d), (4, vi r36c), (2, vb false)], [(2025, oc 26 [tl o25, ti o25b]), (2027, oc 26 [tl (asL o25 o25b ((List.getD r44 (Int.toNat v26) (0, false)).1) ((List.getD r44 (Int.toNat v26) (0, false)).2)), ti (asM o25 o25b ((List.getD r44 (Int.toNat v26) (0, false)).1) ((List.getD r44 (Int.toNat v26) (0, false)).2))])]⟩) (fun zz => J2 zz = some y0) ?_ ?_
                              · -- to where they meet
                                rcases ite_some h with ⟨h20, h⟩ | ⟨h20, h⟩
                                · -- yes
                                  refine WP.path tab_ok mixed [(192, An.b true)] [.keep [204, 27, 26, 25, 6, 5, 4, 2], .keepO [2025, 2027], .names [(2025, 2025), (2027, 2027)]] (ps := [((!(asB o25 o25b ((List.getD r44 (Int.toNat v26) (0, false)).1))) = true)]) (e := .normal) (σ' := ⟨[2025, 2027], [(204, vb true), (27, V.ref 2027 0), (26, vi v26), (25, V.ref 2025 0), (6, V.t (T.list (List.length r44) 2 (List.flatMap askedC r44))), (5, vi r36d), (4, vi r36c), (2, vb false)], [(2025, oc 26 [tl o25, ti o25b]), (2027, oc 26 [tl (asL o25 o25b ((List.getD r44 (Int.toNat v26) (0, false)).1) ((List.getD r44 (Int.toNat v26) (0, false)).2)), ti (asM o25 o25b ((List.getD r44 (Int.toNat v26) (0, false)).1) ((List.getD r44 (Int.toNat v26) (0, false)).2))])]⟩) (by kernel_rfl) ⟨h20, trivial⟩ ?_
                                  exact ⟨(true), h, rfl⟩
                                · -- no
                                  refine WP.path tab_ok mixed [(192, An.b false), (197, An.v (tb ((List.getD r44 (Int.toNat v26) (0, false)).2)))] [.keep [204, 27, 26, 25, 6, 5, 4, 2], .keepO [2025, 2027], .names [(2025, 2025), (2027, 2027)]] (ps := [((!(asB o25 o25b ((List.getD r44 (Int.toNat v26) (0, false)).1))) = false), ((0 ≤ v26 ∧ v26 < ((List.length r44 : Nat) : Int))), ((List.drop 1 (List.drop ((Int.toNat v26) * 2) (List.flatMap askedC r44)) : List T)[0]? = some (tb ((List.getD r44 (Int.toNat v26) (0, false)).2))), (tb ((List.getD r44 (Int.toNat v26) (0, false)).2) = tb ((List.getD r44 (Int.toNat v26) (0, false)).2)), (True), (True), (True)]) (e := .normal) (σ' := ⟨[2025, 2027], [(204, vb ((((List.getD r44 (Int.toNat v26) (0, false)).2) == (n188 == (1 : Int))) == (v26 == r36d))), (27, V.ref 2027 0), (26, vi v26), (25, V.ref 2025 0), (6, V.t (T.list (List.length r44) 2 (List.flatMap askedC r44))), (5, vi r36d), (4, vi r36c), (2, vb false)], [(2025, oc 26 [tl o25, ti o25b]), (2027, oc 26 [tl (asL o25 o25b ((List.getD r44 (Int.toNat v26) (0, false)).1) ((List.getD r44 (Int.toNat v26) (0, false)).2)), ti (asM o25 o25b ((List.getD r44 (Int.toNat v26) (0, false)).1) ((List.getD r44 (Int.toNat v26) (0, false)).2))])]⟩) (by kernel_rfl) ⟨h20, c10, fld_asked (by simp) (by omega) rfl, rfl, trivial, trivial, trivial, trivial⟩ ?_
                                  exact ⟨((((List.getD r44 (Int.toNat v26) (0, false)).2) == (n188 == (1 : Int))) == (v26 == r36d)), h, rfl⟩
                              · -- from there
                                intro v204 h0
                                have h := (show J2 v204 = some y0 from h0)
                                rw [hJ2] at h
                                rcases ite_some h with ⟨h21, h⟩ | ⟨h21, h⟩
                                · -- yes
                                  refine WP.cond (b := v204) rfl (fun _ => ?_) (fun hh => by rw [h21] at hh; cases hh)
                                  have h := Option.some.inj h
                                  subst h
                                  exact WP.pathW tab_ok mixed [] _ (ps := []) (r := tb false) (by kernel_rfl) trivial (WkT.eq (y := tb false) (WkT.refl _) rfl) (fun _ h => h)
                                · -- no
                                  refine WP.cond (b := v204) rfl (fun hh => by rw [h21] at hh; cases hh) (fun _ => ?_)
                                  refine WP.path tab_ok mixed [] [.keep [27, 26, 25, 6, 5, 4, 2], .keepO [2025, 2027]] (ps := []) (e := .normal) (σ' := ⟨[2025, 2027], [(27, V.ref 2027 0), (26, vi v26), (25, V.ref 2025 0), (6, V.t (T.list (List.length r44) 2 (List.flatMap askedC r44))), (5, vi r36d), (4, vi r36c), (2, vb false)], [(2025, oc 26 [tl o25, ti o25b]), (2027, oc 26 [tl (asL o25 o25b ((List.getD r44 (Int.toNat v26) (0, false)).1) ((List.getD r44 (Int.toNat v26) (0, false)).2)), ti (asM o25 o25b ((List.getD r44 (Int.toNat v26) (0, false)).1) ((List.getD r44 (Int.toNat v26) (0, false)).2))])]⟩) (by kernel_rfl) trivial ?_
                                  refine WP.path tab_ok mixed [] [.keep [26, 25, 6, 5, 4, 2], .keepO [2025]] (ps := [(0 + 2 ≤ 2), ((0 + 2 ≤ 2 ∧ 2 = 2))]) (e := .normal) (σ' := ⟨[2025, 2027], [(26, vi v26), (25, V.ref 2025 0), (6, V.t (T.list (List.length r44) 2 (List.flatMap askedC r44))), (5, vi r36d), (4, vi r36c), (2, vb false)], [(2025, oc 26 [tl (asL o25 o25b ((List.getD r44 (Int.toNat v26) (0, false)).1) ((List.getD r44 (Int.toNat v26) (0, false)).2)), ti (asM o25 o25b ((List.getD r44 (Int.toNat v26) (0, false)).1) ((List.getD r44 (Int.toNat v26) (0, false)).2))])]⟩) (by kernel_rfl) ⟨by decide, by decide, trivial⟩ ?_
                                  obtain ⟨c14, h⟩ := chk_some h
                                  refine WP.path tab_ok mixed [(171, An.v (T.int .i64 (v26 + (1 : Int))))] [.keep [26, 25, 6, 5, 4, 2], .keepO [2025], .names [(2025, 2025)]] (ps := [(True), (T.int .i64 (IntKind.wrap .i64 (v26 + (1 : Int))) = T.int .i64 (v26 + (1 : Int)))]) (e := .normal) (σ' := ⟨[2025], [(26, vi (v26 + (1 : Int))), (25, V.ref 2025 0), (6, V.t (T.list (List.length r44) 2 (List.flatMap askedC r44))), (5, vi r36d), (4, vi r36c), (2, vb false)], [(2025, oc 26 [tl (asL o25 o25b ((List.getD r44 (Int.toNat v26) (0, false)).1) ((List.getD r44 (Int.toNat v26) (0, false)).2)), ti (asM o25 o25b ((List.getD r44 (Int.toNat v26) (0, false)).1) ((List.getD r44 (Int.toNat v26) (0, false)).2))])]⟩) (by kernel_rfl) ⟨trivial, wrapI c14, trivial⟩ ?_
                                  exact ⟨(n, asL o25 o25b ((List.getD r44 (Int.toNat v26) (0, false)).1) ((List.getD r44 (Int.toNat v26) (0, false)).2), (asM o25 o25b ((List.getD r44 (Int.toNat v26) (0, false)).1) ((List.getD r44 (Int.toNat v26) (0, false)).2)), (v26 + (1 : Int))), h, Nat.lt_succ_self _, rfl⟩
                            · -- no
                              refine WP.cond (b := decide (v26 < ((List.length r44 : Nat) : Int))) rfl (fun hh => by rw [h19] at hh; cases hh) (fun _ => ?_)
                              refine WP.path tab_ok mixed [] [.keep [25, 4, 2], .keepO [2025], .names [(2025, 2025)]] (ps := []) (e := (.exit 0)) (σ' := ⟨[2025], [(25, V.ref 2025 0), (4, vi r36c), (2, vb false)], [(2025, oc 26 [tl o25, ti o25b])]⟩) (by kernel_rfl) trivial ?_
                              exact ⟨(o25, o25b), h, rfl⟩
                        · -- from there
                          rintro ⟨o25, o25b⟩ h0
                          have h := (show J1 o25 o25b = some y0 from h0)
                          rw [hJ1] at h
                          obtain ⟨r208, r208b, c10, h⟩ := bnd2_some h
                          rcases ite_some h with ⟨h22, h⟩ | ⟨h22, h⟩
                          · -- yes
                            obtain ⟨r216, c11, h⟩ := bnd1_some h
                            have h := Option.some.inj h
                            subst h
                            exact WP.pathW tab_ok mixed [(208, An.call (T.tup [tl r208, tb r208b])), (210, An.b true), (215, An.fz), (216, An.callW [tl r208, tl [r36c]] (tb r216))] _ (ps := [(0 + 2 ≤ 2), (C Try.prog 17 [T.agg [tl o25, ti o25b]] (T.tup [tl r208, tb r208b])), ((r208b) = true), ((1 = 1 ∧ 0 + 1 ≤ 1) ∧ True), (1 = 1 * 1), (C Try.prog 14 [tl r208, tl [r36c]] (tb r216)), (WkL [tl r208, T.list 1 1 [ti r36c]] [tl r208, tl [r36c]])]) (r := tb r216) (by kernel_rfl) ⟨by decide, (F_impl_OpenNumbers_W_C o25 o25b r208 r208b c10), h22, ⟨⟨by first | rfl | (simp; done) | (simp []; done) | omega, by first | decide | (simp; done) | (simp []; done) | omega | (simp only [tlL]; omega) | (simp; omega)⟩, trivial⟩, by decide, (F_laws_rInts_W r208 [r36c] r216 c11), (WkL.cons (WkT.refl _) (WkL.cons (WkT.eq (WkT.refl _) (by first | rfl | (simp only [tlS, tl, vl, vo, oc, ov, tbl, vbl, ty, vy] <;> rfl) | (simp <;> omega) | (simp []; done) | (rw [List.take_of_length_le (by simp [])] <;> rfl))) WkL.nil)), trivial⟩ (WkT.eq (y := tb r216) (WkT.refl _) rfl) (fun _ h => h)
                          · -- no
                            have h := Option.some.inj h
                            subst h
                            exact WP.pathW tab_ok mixed [(208, An.call (T.tup [tl r208, tb r208b])), (210, An.b false)] _ (ps := [(0 + 2 ≤ 2), (C Try.prog 17 [T.agg [tl o25, ti o25b]] (T.tup [tl r208, tb r208b])), ((r208b) = false)]) (r := tb false) (by kernel_rfl) ⟨by decide, (F_impl_OpenNumbers_W_C o25 o25b r208 r208b c10), h22, trivial⟩ (WkT.eq (y := tb false) (WkT.refl _) rfl) (fun _ h => h)

end Go.Proofs.Ytfbkhpfhnimnfaa.AuLess
