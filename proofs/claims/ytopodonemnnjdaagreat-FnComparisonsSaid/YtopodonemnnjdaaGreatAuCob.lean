/-
  The walks: each function of the program returns what the plain function beside it returns. No statement is proved here.
-/
import Derived.Test.YtopodonemnnjdaaGreatTlGroupc
import Derived.Test.YtopodonemnnjdaaGreatTlGroupd

import Derived.Test.YtopodonemnnjdaaGreatAuCoF
import Derived.Test.YtopodonemnnjdaaGreatProg
import Derived.Test.YtopodonemnnjdaaGreatAuCoO
import Derived.Test.YtopodonemnnjdaaGreatAuCoa
namespace Go.Proofs.YtopodonemnnjdaaGreat.AuCob
open Go Go.Tl Go.Proofs
open Go.Proofs.YtopodonemnnjdaaGreat.AuCoO hiding tab tab_ok mixed tm
open Go.Proofs.YtopodonemnnjdaaGreat.AuCoa hiding tab tab_ok mixed tm
set_option linter.unusedVariables false
set_option linter.unusedSimpArgs false
set_option maxRecDepth 100000
set_option maxHeartbeats 4000000
def tab : Tab := [(3, ⟨.int .i64, 1, 8, [.int .i64 0]⟩), (4, ⟨.bool, 1, 1, [.bool false]⟩), (5, ⟨.int .u8, 1, 1, [.int .u8 0]⟩), (22, ⟨.slice 5 1 1, 1, 24, [.nils]⟩), (24, ⟨.slice 3 1 8, 1, 24, [.nils]⟩), (26, ⟨.struct [(0, 1, false), (1, 1, false)], 2, 32, [.nils, .int .i64 0]⟩), (27, ⟨.slice 4 1 1, 1, 24, [.nils]⟩), (62, ⟨.pointer 65, 1, 8, [.nilp]⟩), (63, ⟨.int .u64, 1, 8, [.int .u64 0]⟩), (65, ⟨.struct [(0, 1, false), (1, 1, false), (2, 1, false)], 3, 40, [.nils, .int .i64 0, .int .u64 0]⟩), (76, ⟨.func, 1, 8, [.nilf]⟩), (77, ⟨.map 118 3, 1, 8, [.nilm]⟩), (79, ⟨.struct [(0, 1, false), (1, 1, false)], 2, 16, [.nilf, .nilm]⟩), (84, ⟨.struct [(0, 1, false), (1, 1, false)], 2, 16, [.int .i64 0, .bool false]⟩), (95, ⟨.func, 1, 8, [.nilf]⟩), (98, ⟨.map 3 3, 1, 8, [.nilm]⟩), (100, ⟨.struct [(0, 1, false)], 1, 8, [.nilm]⟩), (105, ⟨.array 2 26 2 true, 4, 64, [.nils, .int .i64 0, .nils, .int .i64 0]⟩), (118, ⟨.array 3 3 1 false, 3, 24, [.int .i64 0, .int .i64 0, .int .i64 0]⟩), (122, ⟨.slice 118 3 24, 1, 24, [.nils]⟩), (124, ⟨.slice 24 1 24, 1, 24, [.nils]⟩), (129, ⟨.func, 1, 8, [.nilf]⟩)]
theorem tab_ok : chkTab Tryz.prog tab = true := by kernel_rfl
theorem mixed : Tryz.prog.follows .mixedOrders = true := by kernel_rfl
abbrev tm := And.intro tab_ok mixed
theorem F_i_newLesser_W (y0 : List (Int × Int)) (h : F_i_newLesser = some y0) : CG Tryz.prog 82 [] [] (V.agg [V.mapr 9000]) [(9000, Tl.Obj.map (mpI y0))] := by
 unfold F_i_newLesser at h
 refine CG.intro (tab := tab) tab_ok (fn := Tryz.f82) Tryz.func82 (by kernel_rfl) rfl (Nat.le_of_ble_eq_true rfl) (by kernel_rfl) ?_
 have h := Option.some.inj h
 subst h
 exact WP.pathG tab_ok mixed [(0, An.id 2000), (1, An.id 2001)] [.keep [0], .keepO [2001, 2000], .names [(2001, 9000), (2000, 2000)]] [9000] _ (r' := V.agg [V.mapr 9000]) (ps := [((1 = 1 ∧ 0 + 1 ≤ 1) ∧ True), ((0 + 1 ≤ 1 ∧ 1 = 1)), (0 + 1 ≤ 1)]) (r := V.agg [V.mapr 9000]) (N := [9000, 2000]) (O := [(9000, Tl.Obj.map (mpI ([] : List (Int × Int))))]) [] (by kernel_rfl) ⟨⟨⟨by decide, by decide⟩, trivial⟩, by decide, by decide, trivial⟩ ⟨(by first | rfl | (simp only [tlS, tl, vl, vo, oc, ov, tbl, vbl, ty, vy] <;> rfl) | (simp <;> omega) | (simp []; done) | (rw [List.take_of_length_le (by simp [])] <;> rfl) | (simp [List.take_of_length_le]; done)), trivial⟩ rfl rfl (fun _ h => h)
theorem F_i_less_W (x0 : Int) (y0 : Int) (h : F_i_less x0 = some y0) : C Tryz.prog 91 [ti x0] (ti y0) := by
 unfold F_i_less at h
 refine C.intro (tab := tab) tab_ok (fn := Tryz.f91) Tryz.func91 (by kernel_rfl) rfl (Nat.le_of_ble_eq_true rfl) ?_
 obtain ⟨c0, c1, h⟩ := chk2 h
 obtain ⟨n5, c2, h⟩ := nam_some h
 have h := Option.some.inj h
 subst h
 exact WP.pathW tab_ok mixed [(4, An.v (ti ((1 : Int) * 2 ^ Int.toNat x0))), (5, An.v (ti n5))] _ (ps := [(0 ≤ x0), (ti (IntKind.wrap .i64 ((1 : Int) * 2 ^ (min (Int.toNat x0) 64))) = ti ((1 : Int) * 2 ^ Int.toNat x0)), (True), (ti (IntKind.wrap .i64 (((1 : Int) * 2 ^ Int.toNat x0) - 1)) = ti n5)]) (r := ti n5) (by kernel_rfl) ⟨c0.1, shl_told c0, trivial, Eq.trans (wrapI c1) (congrArg (ti) c2), trivial⟩ (WkT.eq (y := ti n5) (WkT.refl _) rfl) (fun _ h => h)
theorem F_iS_code_W (x0 : List Int) (x1 : Int) (y0 : Int) (h : F_iS_code x0 x1 = some y0) : C Tryz.prog 132 [T.agg [tl x0, ti x1]] (ti y0) := by
 unfold F_iS_code at h
 refine C.intro (tab := tab) tab_ok (fn := Tryz.f132) Tryz.func132 (by kernel_rfl) rfl (Nat.le_of_ble_eq_true rfl) ?_
 refine WP.sk tm [(1, An.fz)] [] [(2, vi 0), (1, V.t (T.ptr [tl x0, ti x1]))] [] trivial ?_
 refine WP.sk tm [] [] [(3, vi 0), (2, vi 0), (1, V.t (T.ptr [tl x0, ti x1]))] [] trivial ?_
 obtain ⟨J1, hJ1, h⟩ := jn_some h
 refine WP.joinA (fun (zz : Int) => ⟨[], [(3, vi zz), (2, vi 0)], []⟩) (fun zz => J1 zz = some y0) ?_ ?_
 ·refine WP.sk tm [] [(True)] [(9, vi 0), (8, vi (ln x0)), (7, vl x0), (3, vi 0), (2, vi 0)] [] ⟨trivial, trivial⟩ ?_
  refine WP.block ?_
  refine WP.lp (α := Nat × Int × Int) (fun zz => ⟨[], [(9, vi zz.2.1), (8, vi (ln x0)), (7, vl x0), (3, vi zz.2.2), (2, vi 0)], []⟩) (fun zz => F_iS_code_L1 x0 J1 zz.1 zz.2.1 zz.2.2 = some y0) (fun zz => zz.1) (fuel, (0 : Int), (0 : Int)) h ?_
  rintro ⟨n, v9, v3⟩ h0
  have h := (show F_iS_code_L1 x0 J1 n v9 v3 = some y0 from h0)
  rcases n with _ | n
  ·rw [F_iS_code_L1] at h; cases h
  ·rw [F_iS_code_L1] at h
   refine WP.sk tm [] [(True)] [(10, vb (decide (v9 < (ln x0)))), (9, vi v9), (8, vi (ln x0)), (7, vl x0), (3, vi v3), (2, vi 0)] [] ⟨trivial, trivial⟩ ?_
   refine WP.seq ?_
   rcases ite_some h with ⟨h1, h⟩ | ⟨h1, h⟩
   ·refine WP.yes h1 rfl ?_
    refine WP.pk tm [] [] [(9, vi v9), (8, vi (ln x0)), (7, vl x0), (3, vi v3), (2, vi 0)] [] trivial ?_
    refine WP.seq ?_
    refine WP.block ?_
    obtain ⟨c0, c1, h⟩ := chk2 h
    obtain ⟨c2, h⟩ := chk_some h
    obtain ⟨n16, c3, h⟩ := nam_some h
    obtain ⟨c4, h⟩ := chk_some h
    refine WP.pk tm [(12, An.v (ti (gt x0 v9 0))), (14, An.v (ti (v3 * 3))), (16, An.v (ti n16)), (17, An.v (ti (n16 + 1)))] [(ib v9 x0), ((List.drop ((Int.toNat v9) * 1) (List.map (ti) x0) : List T)[0]? = some (ti (gt x0 v9 0))), (rf (ti (gt x0 v9 0))), (True), (wr (v3 * 3)), (True), (ti (IntKind.wrap .i64 ((v3 * 3) + (gt x0 v9 0))) = ti n16), (True), (wr (n16 + 1))] [(3, vi (n16 + 1)), (9, vi v9), (8, vi (ln x0)), (7, vl x0), (2, vi 0)] [] ⟨c0, at1 (by simp) (by omega), rfl, trivial, wrapI c1, trivial, Eq.trans (wrapI c2) (congrArg (ti) c3), trivial, wrapI c4, trivial⟩ ?_
    obtain ⟨c5, h⟩ := chk_some h
    refine WP.qk tm [(18, An.v (ti (v9 + 1)))] [(True), (wr (v9 + 1))] [(9, vi (v9 + 1)), (8, vi (ln x0)), (7, vl x0), (3, vi (n16 + 1)), (2, vi 0)] [] ⟨trivial, wrapI c5, trivial⟩ ?_
    exact ⟨(n, (v9 + 1), (n16 + 1)), h, Nat.lt_succ_self _, rfl⟩
   ·refine WP.no h1 rfl ?_
    refine WP.eq tm [] 0 [] [(3, vi v3), (2, vi 0)] [] trivial ?_
    exact ⟨(v3), h, rfl⟩
 ·intro v3 h0
  have h := (show J1 v3 = some y0 from h0)
  rw [hJ1] at h
  have h := Option.some.inj h
  subst h
  exact WP.pathW tab_ok mixed [] _ (ps := []) (r := ti v3) (by kernel_rfl) trivial (WkT.eq (y := ti v3) (WkT.refl _) rfl) (fun _ h => h)
theorem F_iS_isEqual_W (x0 : List Int) (x1 : Int) (x2 : List Int) (x3 : Int) (y0 : Bool) (h : F_iS_isEqual x0 x1 x2 x3 = some y0) : C Tryz.prog 134 [T.agg [tl x0, ti x1], T.agg [tl x2, ti x3]] (tb y0) := by
 unfold F_iS_isEqual at h
 refine C.intro (tab := tab) tab_ok (fn := Tryz.f134) Tryz.func134 (by kernel_rfl) rfl (Nat.le_of_ble_eq_true rfl) ?_
 obtain ⟨r6, c0, h⟩ := bnd1_some h
 obtain ⟨r8, c1, h⟩ := bnd1_some h
 have h := Option.some.inj h
 subst h
 exact WP.pathW tab_ok mixed [(2, An.fz), (3, An.fz), (6, An.call (ti r6)), (8, An.call (ti r8))] _ (ps := [(2 ≤ 2), (C Tryz.prog 132 [T.agg [tl x0, ti x1]] (ti r6)), (2 ≤ 2), (C Tryz.prog 132 [T.agg [tl x2, ti x3]] (ti r8)), (True)]) (r := tb (r6 == r8)) (by kernel_rfl) ⟨by decide, (F_iS_code_W x0 x1 r6 c0), by decide, (F_iS_code_W x2 x3 r8 c1), trivial, trivial⟩ (WkT.eq (y := tb (r6 == r8)) (WkT.refl _) rfl) (fun _ h => h)
theorem F_il_ofLess_B_W (self : (List (Int × Int)) → (List Int) → Int → Option (Int × (List (Int × Int)))) (hself : ∀ (x0 : List (Int × Int)) (x1 : List Int) (x2 : Int) (y0 : Int) (y1 : List (Int × Int)), self x0 x1 x2 = some (y0, y1) → CG Tryz.prog 83 [V.agg [V.mapr 500], V.t (T.agg [tl x1, ti x2])] [(500, Tl.Obj.map (mpI x0))] (vi y0) [(500, Tl.Obj.map (mpI y1))]) (x0 : List (Int × Int)) (x1 : List Int) (x2 : Int) (x3 : Int) (y0 : Int) (y1 : Bool) (y2 : List (Int × Int)) (h : F_il_ofLess_B self x0 x1 x2 x3 = some (y0, y1, y2)) : CG Tryz.prog 94 [V.agg [V.mapr 500], V.t (T.agg [tl x1, ti x2]), vi x3] [(500, Tl.Obj.map (mpI x0))] (V.t (T.tup [ti y0, tb y1])) [(500, Tl.Obj.map (mpI y2))] := by
 unfold F_il_ofLess_B at h
 refine CG.intro (tab := tab) tab_ok (fn := Tryz.f94) Tryz.func94 (by kernel_rfl) rfl (Nat.le_of_ble_eq_true rfl) (by kernel_rfl) ?_
 refine WP.sn tm [(3, An.id 2003), (4, An.fz)] [] [2003, 500] [(7, vb false), (6, vi 0), (4, V.t (T.ptr [tl x1, ti x2])), (3, V.ref 2003 0), (2, vi x3)] [(500, Tl.Obj.map (mpI x0)), (2003, ov 100 [V.mapr 500])] trivial ?_
 refine WP.seq ?_
 obtain ⟨r11, c0, h⟩ := bnd1_some h
 obtain ⟨c1, h⟩ := chk_some h
 refine WP.pn tm [(11, An.call (ti r11)), (12, An.call (T.agg [tl (ansN x2 r11 false x1), ti x2, tl (ansN x2 r11 true x1), ti x2])), (8, An.id 2008)] [(2 ≤ 2), (C Tryz.prog 91 [ti x3] (ti r11)), (C Tryz.prog 90 [T.agg [tl x1, ti x2], ti r11] (T.agg [tl (ansN x2 r11 false x1), ti x2, tl (ansN x2 r11 true x1), ti x2])), ((0 + 4 ≤ 4 ∧ 4 = 4))] [2008, 2003, 500] [(8, V.ref 2008 0), (7, vb false), (6, vi 0), (4, V.t (T.ptr [tl x1, ti x2])), (3, V.ref 2003 0)] [(500, Tl.Obj.map (mpI x0)), (2003, ov 100 [V.mapr 500]), (2008, oc 105 [tl (ansN x2 r11 false x1), ti x2, tl (ansN x2 r11 true x1), ti x2])] ⟨by decide, (F_i_less_W x3 r11 c0), (both_C x1 x2 r11 c1), by decide, trivial⟩ ?_
 refine WP.seq ?_
 obtain ⟨J1, hJ1, h⟩ := jn_some h
 refine WP.joinA (fun (zz : Bool) => ⟨[500, 2003, 2008], [(22, vb zz), (8, V.ref 2008 0), (7, vb false), (6, vi 0), (3, V.ref 2003 0)], [(500, Tl.Obj.map (mpI x0)), (2003, ov 100 [V.mapr 500]), (2008, oc 105 [tl (ansN x2 r11 false x1), ti x2, tl (ansN x2 r11 true x1), ti x2])]⟩) (fun zz => J1 zz = some (y0, y1, y2)) ?_ ?_
 ·obtain ⟨r16, c2, h⟩ := bnd1_some h
  rcases ite_some h with ⟨h1, h⟩ | ⟨h1, h⟩
  ·refine WP.qk tm [(16, An.call (tb r16)), (17, An.b true)] [((0 ≤ (0 : Int) ∧ (0 : Int) < (2 : Int))), (0 + 2 ≤ 4), (2 ≤ 2), (C Tryz.prog 134 [T.agg [tl (ansN x2 r11 false x1), ti x2], T.agg [tl x1, ti x2]] (tb r16)), ((r16) = true)] [(22, vb true), (8, V.ref 2008 0), (7, vb false), (6, vi 0), (3, V.ref 2003 0)] [(500, Tl.Obj.map (mpI x0)), (2003, ov 100 [V.mapr 500]), (2008, oc 105 [tl (ansN x2 r11 false x1), ti x2, tl (ansN x2 r11 true x1), ti x2])] ⟨by decide, by decide, by decide, (F_iS_isEqual_W (ansN x2 r11 false x1) x2 x1 x2 r16 c2), h1, trivial⟩ ?_
   exact ⟨(true), h, rfl⟩
  ·obtain ⟨r21, c3, h⟩ := bnd1_some h
   refine WP.qk tm [(16, An.call (tb r16)), (17, An.b false), (21, An.call (tb r21))] [((0 ≤ (0 : Int) ∧ (0 : Int) < (2 : Int))), (0 + 2 ≤ 4), (2 ≤ 2), (C Tryz.prog 134 [T.agg [tl (ansN x2 r11 false x1), ti x2], T.agg [tl x1, ti x2]] (tb r16)), ((r16) = false), ((0 ≤ (1 : Int) ∧ (1 : Int) < (2 : Int))), (2 + 2 ≤ 4), (2 ≤ 2), (C Tryz.prog 134 [T.agg [tl (ansN x2 r11 true x1), ti x2], T.agg [tl x1, ti x2]] (tb r21))] [(22, vb r21), (8, V.ref 2008 0), (7, vb false), (6, vi 0), (3, V.ref 2003 0)] [(500, Tl.Obj.map (mpI x0)), (2003, ov 100 [V.mapr 500]), (2008, oc 105 [tl (ansN x2 r11 false x1), ti x2, tl (ansN x2 r11 true x1), ti x2])] ⟨by decide, by decide, by decide, (F_iS_isEqual_W (ansN x2 r11 false x1) x2 x1 x2 r16 c2), h1, by decide, by decide, by decide, (F_iS_isEqual_W (ansN x2 r11 true x1) x2 x1 x2 r21 c3), trivial⟩ ?_
   exact ⟨(r21), h, rfl⟩
 ·intro v22 h0
  have h := (show J1 v22 = some (y0, y1, y2) from h0)
  rw [hJ1] at h
  rcases ite_some h with ⟨h2, h⟩ | ⟨h2, h⟩
  ·refine WP.yes h2 rfl ?_
   simp only [Option.some.injEq, Prod.mk.injEq] at h
   obtain ⟨rfl, rfl, rfl⟩ := h
   exact WP.pathG tab_ok mixed [] [.keep [6, 7], .keepO [500], .names [(500, 500)]] [500] _ (r' := V.t (T.tup [ti (0 : Int), tb false])) (ps := []) (r := V.t (T.tup [ti 0, tb false])) (N := [500]) (O := [(500, Tl.Obj.map (mpI x0))]) [] (by kernel_rfl) trivial ⟨(WkT.tup (WkL.cons (WkT.eq (WkT.refl _) (by first | rfl | (simp only [tlS, tl, vl, vo, oc, ov, tbl, vbl, ty, vy] <;> rfl) | (simp <;> omega) | (simp []; done) | (rw [List.take_of_length_le (by simp [])] <;> rfl) | (simp [List.take_of_length_le]; done))) (WkL.cons (WkT.refl _) WkL.nil))), trivial⟩ rfl rfl (fun _ h => h)
  ·refine WP.no h2 rfl ?_
   refine WP.pk tm [] [] [(8, V.ref 2008 0), (7, vb false), (6, vi 0), (3, V.ref 2003 0)] [(500, Tl.Obj.map (mpI x0)), (2003, ov 100 [V.mapr 500]), (2008, oc 105 [tl (ansN x2 r11 false x1), ti x2, tl (ansN x2 r11 true x1), ti x2])] trivial ?_
   obtain ⟨r26, r26b, c2, h⟩ := bnd2_some h
   obtain ⟨r30, r30b, c3, h⟩ := bnd2_some h
   obtain ⟨c4, h⟩ := chk_some h
   simp only [Option.some.injEq, Prod.mk.injEq] at h
   obtain ⟨rfl, rfl, rfl⟩ := h
   exact WP.pathG tab_ok mixed [(26, An.callG [(500, 500)] [V.agg [V.mapr 500], V.t (T.agg [tl (ansN x2 r11 false x1), ti x2])] [(500, Tl.Obj.map (mpI x0))] (vi r26) [(500, Tl.Obj.map (mpI r26b))]), (30, An.callG [(500, 500)] [V.agg [V.mapr 500], V.t (T.agg [tl (ansN x2 r11 true x1), ti x2])] [(500, Tl.Obj.map (mpI r26b))] (vi r30) [(500, Tl.Obj.map (mpI r30b))]), (32, An.v (ti ((1 : Int) + (max r26 r30))))] [.keep [6, 7], .keepO [500], .names [(500, 500)]] [500] _ (r' := V.t (T.tup [ti ((1 : Int) + (max r26 r30)), tb true])) (ps := [(0 + 1 ≤ 1), ((0 ≤ (0 : Int) ∧ (0 : Int) < (2 : Int))), (0 + 2 ≤ 4), (CG Tryz.prog 83 [V.agg [V.mapr 500], V.t (T.agg [tl (ansN x2 r11 false x1), ti x2])] [(500, Tl.Obj.map (mpI x0))] (vi r26) [(500, Tl.Obj.map (mpI r26b))]), ((V.agg [V.mapr 500]).ren (renF [(500, 500)]) = V.agg [V.mapr 500]), (WkT (T.agg [tl (ansN x2 r11 false x1), ti x2]) (T.agg [tl (ansN x2 r11 false x1), ti x2])), ((Tl.Obj.map (mpI x0)) = (Tl.Obj.map (mpI x0)).ren (renF [(500, 500)])), (0 + 1 ≤ 1), ((0 ≤ (1 : Int) ∧ (1 : Int) < (2 : Int))), (2 + 2 ≤ 4), (CG Tryz.prog 83 [V.agg [V.mapr 500], V.t (T.agg [tl (ansN x2 r11 true x1), ti x2])] [(500, Tl.Obj.map (mpI r26b))] (vi r30) [(500, Tl.Obj.map (mpI r30b))]), ((V.agg [V.mapr 500]).ren (renF [(500, 500)]) = V.agg [V.mapr 500]), (WkT (T.agg [tl (ansN x2 r11 true x1), ti x2]) (T.agg [tl (ansN x2 r11 true x1), ti x2])), ((Tl.Obj.map (mpI r26b)) = (Tl.Obj.map (mpI r26b)).ren (renF [(500, 500)])), (True), (wr ((1 : Int) + (max r26 r30)))]) (r := V.t (T.tup [ti ((1 : Int) + (max r26 r30)), tb true])) (N := [500]) (O := [(500, Tl.Obj.map (mpI r30b))]) [] (by kernel_rfl) ⟨by decide, by decide, by decide, (hself x0 (ansN x2 r11 false x1) x2 r26 r26b c2), by first | rfl | (simp [V.ren, V.renL, renF, lk]; done) | (simp [V.ren, V.renL, renF, lk]; omega), WkT.refl _, rfl, by decide, by decide, by decide, (hself r26b (ansN x2 r11 true x1) x2 r30 r30b c3), by first | rfl | (simp [V.ren, V.renL, renF, lk]; done) | (simp [V.ren, V.renL, renF, lk]; omega), WkT.refl _, rfl, trivial, wrapI c4, trivial⟩ ⟨(WkT.refl _), trivial⟩ rfl rfl (fun _ h => h)
theorem F_il_need_B_W (self : (List (Int × Int)) → (List Int) → Int → Option (Int × (List (Int × Int)))) (hself : ∀ (x0 : List (Int × Int)) (x1 : List Int) (x2 : Int) (y0 : Int) (y1 : List (Int × Int)), self x0 x1 x2 = some (y0, y1) → CG Tryz.prog 83 [V.agg [V.mapr 500], V.t (T.agg [tl x1, ti x2])] [(500, Tl.Obj.map (mpI x0))] (vi y0) [(500, Tl.Obj.map (mpI y1))]) (x0 : List (Int × Int)) (x1 : List Int) (x2 : Int) (y0 : Int) (y1 : List (Int × Int)) (h : F_il_need_B self x0 x1 x2 = some (y0, y1)) : CG Tryz.prog 83 [V.agg [V.mapr 500], V.t (T.agg [tl x1, ti x2])] [(500, Tl.Obj.map (mpI x0))] (vi y0) [(500, Tl.Obj.map (mpI y1))] := by
 unfold F_il_need_B at h
 refine CG.intro (tab := tab) tab_ok (fn := Tryz.f83) Tryz.func83 (by kernel_rfl) rfl (Nat.le_of_ble_eq_true rfl) (by kernel_rfl) ?_
 refine WP.sn tm [(2, An.id 2002), (3, An.fz)] [] [2002, 500] [(4, vi 0), (3, V.t (T.ptr [tl x1, ti x2])), (2, V.ref 2002 0)] [(500, Tl.Obj.map (mpI x0)), (2002, ov 100 [V.mapr 500])] trivial ?_
 refine WP.seq ?_
 refine WP.seq ?_
 obtain ⟨c0, h⟩ := chk_some h
 refine WP.pn tm [(12, An.callG [(9000, 10120)] [V.t (T.agg [tl x1, ti x2])] [] (vo 9000 (List.length (openN x1))) [(9000, oc 3 (List.map (ti) (openN x1)))])] [(2 ≤ 2), (CG Tryz.prog 57 [V.t (T.agg [tl x1, ti x2])] [] (vo 9000 (List.length (openN x1))) [(9000, oc 3 (List.map (ti) (openN x1)))]), (WkT (T.agg [tl x1, ti x2]) (T.agg [tl x1, ti x2])), (True)] [10120, 2002, 500] [(14, vb (decide ((ln (openN x1)) ≤ (1 : Int)))), (4, vi 0), (3, V.t (T.ptr [tl x1, ti x2])), (2, V.ref 2002 0)] [(500, Tl.Obj.map (mpI x0)), (2002, ov 100 [V.mapr 500])] ⟨by decide, (open_C_G x1 x2 c0), WkT.refl _, trivial, trivial⟩ ?_
 rcases ite_some h with ⟨h1, h⟩ | ⟨h1, h⟩
 ·refine WP.yes h1 rfl ?_
  simp only [Option.some.injEq, Prod.mk.injEq] at h
  obtain ⟨rfl, rfl⟩ := h
  exact WP.pathG tab_ok mixed [] [.keep [4], .keepO [500], .names [(500, 500)]] [500] _ (r' := vi (0 : Int)) (ps := []) (r := vi 0) (N := [500]) (O := [(500, Tl.Obj.map (mpI x0))]) [] (by kernel_rfl) trivial ⟨(WkT.eq (WkT.refl _) (by first | rfl | (simp only [tlS, tl, vl, vo, oc, ov, tbl, vbl, ty, vy] <;> rfl) | (simp <;> omega) | (simp []; done) | (rw [List.take_of_length_le (by simp [])] <;> rfl) | (simp [List.take_of_length_le]; done))), trivial⟩ rfl rfl (fun _ h => h)
 ·refine WP.no h1 rfl ?_
  refine WP.pn tm [] [] [10120, 2002, 500] [(4, vi 0), (3, V.t (T.ptr [tl x1, ti x2])), (2, V.ref 2002 0)] [(500, Tl.Obj.map (mpI x0)), (2002, ov 100 [V.mapr 500])] trivial ?_
  refine WP.seq ?_
  refine WP.seq ?_
  obtain ⟨r19, c1, h⟩ := bnd1_some h
  obtain ⟨g20, c2, h⟩ := nam_some h
  refine WP.pn tm [(19, An.call (ti r19)), (20, An.v (T.tup [ti (Option.getD g20 (0 : Int)), tb (Option.isSome g20)]))] [(True), (2 ≤ 2), (C Tryz.prog 132 [T.agg [tl x1, ti x2]] (ti r19)), (∃ G, KeyRun Tryz.prog 3 G ∧ G (ti r19) ∧ ∀ x ∈ mpI x0, G x.1), ((lookR true (ti (0 : Int)) (lookT (mpI x0) (ti r19))) = T.tup [ti (Option.getD g20 (0 : Int)), tb (Option.isSome g20)])] [10120, 2002, 500] [(6, vb (Option.isSome g20)), (5, vi (Option.getD g20 (0 : Int))), (4, vi 0), (3, V.t (T.ptr [tl x1, ti x2])), (2, V.ref 2002 0)] [(500, Tl.Obj.map (mpI x0)), (2002, ov 100 [V.mapr 500])] ⟨trivial, by decide, (F_iS_code_W x1 x2 r19 c1), keys_map (g := ti) Tryz.underlying3 x0 r19, look_mpI_ok c2, trivial⟩ ?_
  refine WP.sn tm [] [] [10120, 2002, 500] [(23, vb (Option.isSome g20)), (5, vi (Option.getD g20 (0 : Int))), (4, vi 0), (3, V.t (T.ptr [tl x1, ti x2])), (2, V.ref 2002 0)] [(500, Tl.Obj.map (mpI x0)), (2002, ov 100 [V.mapr 500])] trivial ?_
  rcases ite_some h with ⟨h2, h⟩ | ⟨h2, h⟩
  ·refine WP.yes h2 rfl ?_
   simp only [Option.some.injEq, Prod.mk.injEq] at h
   obtain ⟨rfl, rfl⟩ := h
   exact WP.pathG tab_ok mixed [] [.keep [4], .keepO [500], .names [(500, 500)]] [500] _ (r' := vi (Option.getD g20 (0 : Int))) (ps := []) (r := vi (Option.getD g20 (0 : Int))) (N := [500]) (O := [(500, Tl.Obj.map (mpI x0))]) [] (by kernel_rfl) trivial ⟨(WkT.refl _), trivial⟩ rfl rfl (fun _ h => h)
  ·refine WP.no h2 rfl ?_
   refine WP.pn tm [] [] [10120, 2002, 500] [(4, vi 0), (3, V.t (T.ptr [tl x1, ti x2])), (2, V.ref 2002 0)] [(500, Tl.Obj.map (mpI x0)), (2002, ov 100 [V.mapr 500])] trivial ?_
   refine WP.sn tm [] [] [10120, 2002, 500] [(7, vi (-1)), (4, vi 0), (3, V.t (T.ptr [tl x1, ti x2])), (2, V.ref 2002 0)] [(500, Tl.Obj.map (mpI x0)), (2002, ov 100 [V.mapr 500])] trivial ?_
   obtain ⟨J1, hJ1, h⟩ := jn_some h
   refine WP.joinA (fun (zz : (List (Int × Int)) × Int) => ⟨[500, 2002], [(7, vi zz.2), (4, vi 0), (3, V.t (T.ptr [tl x1, ti x2])), (2, V.ref 2002 0)], [(500, Tl.Obj.map (mpI zz.1)), (2002, ov 100 [V.mapr 500])]⟩) (fun zz => J1 zz.1 zz.2 = some (y0, y1)) ?_ ?_
   ·refine WP.sn tm [] [] [10120, 2002, 500] [(8, vi 1), (7, vi (-1)), (4, vi 0), (3, V.t (T.ptr [tl x1, ti x2])), (2, V.ref 2002 0)] [(500, Tl.Obj.map (mpI x0)), (2002, ov 100 [V.mapr 500])] trivial ?_
    refine WP.block ?_
    refine WP.lp (α := Nat × (List (Int × Int)) × Int × Int) (fun zz => ⟨[500, 2002], [(8, vi zz.2.2.1), (7, vi zz.2.2.2), (4, vi 0), (3, V.t (T.ptr [tl x1, ti x2])), (2, V.ref 2002 0)], [(500, Tl.Obj.map (mpI zz.2.1)), (2002, ov 100 [V.mapr 500])]⟩) (fun zz => F_il_need_B_L1 x1 x2 self J1 zz.1 zz.2.1 zz.2.2.1 zz.2.2.2 = some (y0, y1)) (fun zz => zz.1) (fuel, x0, (1 : Int), (-1 : Int)) h ?_
    rintro ⟨n, o500, v8, v7⟩ h0
    have h := (show F_il_need_B_L1 x1 x2 self J1 n o500 v8 v7 = some (y0, y1) from h0)
    rcases n with _ | n
    ·rw [F_il_need_B_L1] at h; cases h
    ·rw [F_il_need_B_L1] at h
     refine WP.seq ?_
     refine WP.sk tm [] [(True), (True)] [(29, vb (decide (v8 < (ln x1)))), (8, vi v8), (7, vi v7), (4, vi 0), (3, V.t (T.ptr [tl x1, ti x2])), (2, V.ref 2002 0)] [(500, Tl.Obj.map (mpI o500)), (2002, ov 100 [V.mapr 500])] ⟨trivial, trivial, trivial⟩ ?_
     rcases ite_some h with ⟨h3, h⟩ | ⟨h3, h⟩
     ·refine WP.yes h3 rfl ?_
      refine WP.pk tm [] [] [(8, vi v8), (7, vi v7), (4, vi 0), (3, V.t (T.ptr [tl x1, ti x2])), (2, V.ref 2002 0)] [(500, Tl.Obj.map (mpI o500)), (2002, ov 100 [V.mapr 500])] trivial ?_
      refine WP.seq ?_
      refine WP.block ?_
      refine WP.seq ?_
      obtain ⟨r36, r36b, r36c, c3, h⟩ := bnd3_some h
      refine WP.pk tm [(36, An.callG [(500, 500)] [V.agg [V.mapr 500], V.t (T.agg [tl x1, ti x2]), vi v8] [(500, Tl.Obj.map (mpI o500))] (V.t (T.tup [ti r36, tb r36b])) [(500, Tl.Obj.map (mpI r36c))])] [(0 + 1 ≤ 1), (2 ≤ 2), (CG Tryz.prog 94 [V.agg [V.mapr 500], V.t (T.agg [tl x1, ti x2]), vi v8] [(500, Tl.Obj.map (mpI o500))] (V.t (T.tup [ti r36, tb r36b])) [(500, Tl.Obj.map (mpI r36c))]), ((V.agg [V.mapr 500]).ren (renF [(500, 500)]) = V.agg [V.mapr 500]), (WkT (T.agg [tl x1, ti x2]) (T.agg [tl x1, ti x2])), (WkT (ti v8) (ti v8)), ((Tl.Obj.map (mpI o500)) = (Tl.Obj.map (mpI o500)).ren (renF [(500, 500)]))] [(10, vb r36b), (9, vi r36), (8, vi v8), (7, vi v7), (4, vi 0), (3, V.t (T.ptr [tl x1, ti x2])), (2, V.ref 2002 0)] [(500, Tl.Obj.map (mpI r36c)), (2002, ov 100 [V.mapr 500])] ⟨by decide, by decide, (F_il_ofLess_B_W self hself o500 x1 x2 v8 r36 r36b r36c c3), by first | rfl | (simp [V.ren, V.renL, renF, lk]; done) | (simp [V.ren, V.renL, renF, lk]; omega), WkT.refl _, WkT.refl _, rfl, trivial⟩ ?_
      obtain ⟨J2, hJ2, h⟩ := jn_some h
      refine WP.joinA (fun (zz : Bool) => ⟨[500, 2002], [(48, vb zz), (9, vi r36), (8, vi v8), (7, vi v7), (4, vi 0), (3, V.t (T.ptr [tl x1, ti x2])), (2, V.ref 2002 0)], [(500, Tl.Obj.map (mpI r36c)), (2002, ov 100 [V.mapr 500])]⟩) (fun zz => J2 zz = some (y0, y1)) ?_ ?_
      ·rcases ite_some h with ⟨h4, h⟩ | ⟨h4, h⟩
       ·rcases ite_some h with ⟨h5, h⟩ | ⟨h5, h⟩
        ·refine WP.qk tm [(40, An.b true), (42, An.b true)] [((r36b) = true), (True), ((decide (v7 < (0 : Int))) = true)] [(48, vb true), (9, vi r36), (8, vi v8), (7, vi v7), (4, vi 0), (3, V.t (T.ptr [tl x1, ti x2])), (2, V.ref 2002 0)] [(500, Tl.Obj.map (mpI r36c)), (2002, ov 100 [V.mapr 500])] ⟨h4, trivial, h5, trivial⟩ ?_
         exact ⟨(true), h, rfl⟩
        ·refine WP.qk tm [(40, An.b true), (42, An.b false)] [((r36b) = true), (True), ((decide (v7 < (0 : Int))) = false), (True)] [(48, vb (decide (r36 < v7))), (9, vi r36), (8, vi v8), (7, vi v7), (4, vi 0), (3, V.t (T.ptr [tl x1, ti x2])), (2, V.ref 2002 0)] [(500, Tl.Obj.map (mpI r36c)), (2002, ov 100 [V.mapr 500])] ⟨h4, trivial, h5, trivial, trivial⟩ ?_
         exact ⟨(decide (r36 < v7)), h, rfl⟩
       ·refine WP.qk tm [(40, An.b false)] [((r36b) = false)] [(48, vb false), (9, vi r36), (8, vi v8), (7, vi v7), (4, vi 0), (3, V.t (T.ptr [tl x1, ti x2])), (2, V.ref 2002 0)] [(500, Tl.Obj.map (mpI r36c)), (2002, ov 100 [V.mapr 500])] ⟨h4, trivial⟩ ?_
        exact ⟨(false), h, rfl⟩
      ·intro v48 h0
       have h := (show J2 v48 = some (y0, y1) from h0)
       rw [hJ2] at h
       rcases ite_some h with ⟨h6, h⟩ | ⟨h6, h⟩
       ·refine WP.yes h6 rfl ?_
        refine WP.pk tm [] [] [(7, vi r36), (8, vi v8), (4, vi 0), (3, V.t (T.ptr [tl x1, ti x2])), (2, V.ref 2002 0)] [(500, Tl.Obj.map (mpI r36c)), (2002, ov 100 [V.mapr 500])] trivial ?_
        obtain ⟨c4, h⟩ := chk_some h
        refine WP.qk tm [(31, An.v (ti (v8 + 1)))] [(True), (wr (v8 + 1))] [(8, vi (v8 + 1)), (7, vi r36), (4, vi 0), (3, V.t (T.ptr [tl x1, ti x2])), (2, V.ref 2002 0)] [(500, Tl.Obj.map (mpI r36c)), (2002, ov 100 [V.mapr 500])] ⟨trivial, wrapI c4, trivial⟩ ?_
        exact ⟨(n, r36c, (v8 + 1), r36), h, Nat.lt_succ_self _, rfl⟩
       ·refine WP.no h6 rfl ?_
        refine WP.pk tm [] [] [(8, vi v8), (7, vi v7), (4, vi 0), (3, V.t (T.ptr [tl x1, ti x2])), (2, V.ref 2002 0)] [(500, Tl.Obj.map (mpI r36c)), (2002, ov 100 [V.mapr 500])] trivial ?_
        obtain ⟨c4, h⟩ := chk_some h
        refine WP.qk tm [(31, An.v (ti (v8 + 1)))] [(True), (wr (v8 + 1))] [(8, vi (v8 + 1)), (7, vi v7), (4, vi 0), (3, V.t (T.ptr [tl x1, ti x2])), (2, V.ref 2002 0)] [(500, Tl.Obj.map (mpI r36c)), (2002, ov 100 [V.mapr 500])] ⟨trivial, wrapI c4, trivial⟩ ?_
        exact ⟨(n, r36c, (v8 + 1), v7), h, Nat.lt_succ_self _, rfl⟩
     ·refine WP.no h3 rfl ?_
      refine WP.eq tm [] 0 [] [(7, vi v7), (4, vi 0), (3, V.t (T.ptr [tl x1, ti x2])), (2, V.ref 2002 0)] [(500, Tl.Obj.map (mpI o500)), (2002, ov 100 [V.mapr 500])] trivial ?_
      exact ⟨(o500, v7), h, rfl⟩
   ·rintro ⟨o500, v7⟩ h0
    have h := (show J1 o500 v7 = some (y0, y1) from h0)
    rw [hJ1] at h
    obtain ⟨r53, c3, h⟩ := bnd1_some h
    simp only [Option.some.injEq, Prod.mk.injEq] at h
    obtain ⟨rfl, rfl⟩ := h
    exact WP.pathG tab_ok mixed [(53, An.call (ti r53)), (2000051, An.mp (mpI (mput o500 r53 v7)))] [.keep [4], .keepO [500], .names [(500, 500)]] [500] _ (r' := vi v7) (ps := [(True), (2 ≤ 2), (C Tryz.prog 132 [T.agg [tl x1, ti x2]] (ti r53)), (∃ G, KeyRun Tryz.prog 3 G ∧ G (ti r53) ∧ ∀ x ∈ mpI o500, G x.1), (putT (mpI o500) (ti r53) (ti v7) = mpI (mput o500 r53 v7))]) (r := vi v7) (N := [500]) (O := [(500, Tl.Obj.map (mpI (mput o500 r53 v7)))]) [] (by kernel_rfl) ⟨trivial, by decide, (F_iS_code_W x1 x2 r53 c3), keys_map (g := ti) Tryz.underlying3 o500 r53, put_map (g := ti) o500 r53 v7, trivial⟩ ⟨(WkT.refl _), trivial⟩ rfl rfl (fun _ h => h)
theorem F_il_need_W (n : Nat) : ∀ (x0 : List (Int × Int)) (x1 : List Int) (x2 : Int) (y0 : Int) (y1 : List (Int × Int)), F_il_need n x0 x1 x2 = some (y0, y1) → CG Tryz.prog 83 [V.agg [V.mapr 500], V.t (T.agg [tl x1, ti x2])] [(500, Tl.Obj.map (mpI x0))] (vi y0) [(500, Tl.Obj.map (mpI y1))] := by
 induction n with
 | zero => intro x0 x1 x2 y0 y1 h; rw [F_il_need] at h; cases h
 | succ n ih => intro x0 x1 x2 y0 y1 h; rw [F_il_need] at h; exact F_il_need_B_W _ ih x0 x1 x2 y0 y1 h
theorem F_i_LessNeed_W (x0 : List Int) (x1 : Int) (y0 : Int) (y1 : Bool) (h : F_i_LessNeed x0 x1 = some (y0, y1)) : C Tryz.prog 26 [T.agg [tl x0, ti x1]] (T.tup [ti y0, tb y1]) := by
 unfold F_i_LessNeed at h
 refine C.intro (tab := tab) tab_ok (fn := Tryz.f26) Tryz.func26 (by kernel_rfl) rfl (Nat.le_of_ble_eq_true rfl) ?_
 refine WP.sk tm [(1, An.fz)] [] [(3, vb false), (2, vi 0), (1, V.t (T.ptr [tl x0, ti x1]))] [] trivial ?_
 refine WP.seq ?_
 refine WP.seq ?_
 obtain ⟨c0, h⟩ := chk_some h
 refine WP.pk tm [(5, An.call (tb (shortN x0 x1)))] [(2 ≤ 2), (C Tryz.prog 81 [T.agg [tl x0, ti x1]] (tb (shortN x0 x1)))] [(6, vb (!(shortN x0 x1))), (3, vb false), (2, vi 0), (1, V.t (T.ptr [tl x0, ti x1]))] [] ⟨by decide, (isShort_C x0 x1 c0), trivial⟩ ?_
 rcases ite_some h with ⟨h1, h⟩ | ⟨h1, h⟩
 ·refine WP.yes h1 rfl ?_
  simp only [Option.some.injEq, Prod.mk.injEq] at h
  obtain ⟨rfl, rfl⟩ := h
  exact WP.pathW tab_ok mixed [] _ (ps := []) (r := T.tup [ti 0, tb false]) (by kernel_rfl) trivial (WkT.eq (y := T.tup [ti 0, tb false]) (WkT.refl _) (by first | rfl | (simp only [tlS, tl, vl, vo, oc, ov, tbl, vbl, ty, vy] <;> rfl) | (simp <;> omega) | (simp []; done) | (rw [List.take_of_length_le (by simp [])] <;> rfl) | (simp [List.take_of_length_le]; done))) (fun _ h => h)
 ·refine WP.no h1 rfl ?_
  refine WP.pk tm [] [] [(3, vb false), (2, vi 0), (1, V.t (T.ptr [tl x0, ti x1]))] [] trivial ?_
  obtain ⟨r7, c1, h⟩ := bnd1_some h
  obtain ⟨r9, r9b, c2, h⟩ := bnd2_some h
  simp only [Option.some.injEq, Prod.mk.injEq] at h
  obtain ⟨rfl, rfl⟩ := h
  exact WP.pathW tab_ok mixed [(7, An.callG [(9000, 10070)] [] [] (V.agg [V.mapr 9000]) [(9000, Tl.Obj.map (mpI r7))]), (9, An.callG [(500, 10070)] [V.agg [V.mapr 500], V.t (T.agg [tl x0, ti x1])] [(500, Tl.Obj.map (mpI r7))] (vi r9) [(500, Tl.Obj.map (mpI r9b))])] _ (ps := [(CG Tryz.prog 82 [] [] (V.agg [V.mapr 9000]) [(9000, Tl.Obj.map (mpI r7))]), (2 ≤ 2), (CG Tryz.prog 83 [V.agg [V.mapr 500], V.t (T.agg [tl x0, ti x1])] [(500, Tl.Obj.map (mpI r7))] (vi r9) [(500, Tl.Obj.map (mpI r9b))]), ((V.agg [V.mapr 500]).ren (renF [(500, 10070)]) = V.agg [V.mapr 10070]), (WkT (T.agg [tl x0, ti x1]) (T.agg [tl x0, ti x1])), ((Tl.Obj.map (mpI r7)) = (Tl.Obj.map (mpI r7)).ren (renF [(500, 10070)]))]) (r := T.tup [ti r9, tb true]) (by kernel_rfl) ⟨(F_i_newLesser_W  r7 c1), by decide, (F_il_need_W fuel r7 x0 x1 r9 r9b c2), by first | rfl | (simp [V.ren, V.renL, renF, lk]; done) | (simp [V.ren, V.renL, renF, lk]; omega), WkT.refl _, rfl, trivial⟩ (WkT.eq (y := T.tup [ti r9, tb true]) (WkT.refl _) rfl) (fun _ h => h)
theorem F_s_l6Key_W (x0 : List Int) (x1 : Int) (y0 : Int) (h : F_s_l6Key x0 x1 = some y0) : C Tryz.prog 86 [T.agg [tl x0, ti x1]] (ti y0) := by
 unfold F_s_l6Key at h
 refine C.intro (tab := tab) tab_ok (fn := Tryz.f86) Tryz.func86 (by kernel_rfl) rfl (Nat.le_of_ble_eq_true rfl) ?_
 refine WP.sk tm [(1, An.fz)] [] [(2, vi 0), (1, V.t (T.ptr [tl x0, ti x1]))] [] trivial ?_
 refine WP.sk tm [] [] [(3, vi 0), (2, vi 0), (1, V.t (T.ptr [tl x0, ti x1]))] [] trivial ?_
 obtain ⟨J1, hJ1, h⟩ := jn_some h
 refine WP.joinA (fun (zz : Int) => ⟨[], [(3, vi zz), (2, vi 0)], []⟩) (fun zz => J1 zz = some y0) ?_ ?_
 ·refine WP.sk tm [] [] [(4, vi 0), (3, vi 0), (2, vi 0), (1, V.t (T.ptr [tl x0, ti x1]))] [] trivial ?_
  refine WP.block ?_
  refine WP.lp (α := Nat × Int × Int) (fun zz => ⟨[], [(4, vi zz.2.1), (3, vi zz.2.2), (2, vi 0), (1, V.t (T.ptr [tl x0, ti x1]))], []⟩) (fun zz => F_s_l6Key_L1 x0 x1 J1 zz.1 zz.2.1 zz.2.2 = some y0) (fun zz => zz.1) (fuel, (0 : Int), (0 : Int)) h ?_
  rintro ⟨n, v4, v3⟩ h0
  have h := (show F_s_l6Key_L1 x0 x1 J1 n v4 v3 = some y0 from h0)
  rcases n with _ | n
  ·rw [F_s_l6Key_L1] at h; cases h
  ·rw [F_s_l6Key_L1] at h
   refine WP.seq ?_
   refine WP.sk tm [] [(True), (True)] [(9, vb (decide (v4 < (ln x0)))), (4, vi v4), (3, vi v3), (2, vi 0), (1, V.t (T.ptr [tl x0, ti x1]))] [] ⟨trivial, trivial, trivial⟩ ?_
   rcases ite_some h with ⟨h1, h⟩ | ⟨h1, h⟩
   ·refine WP.yes h1 rfl ?_
    refine WP.pk tm [] [] [(4, vi v4), (3, vi v3), (2, vi 0), (1, V.t (T.ptr [tl x0, ti x1]))] [] trivial ?_
    refine WP.seq ?_
    refine WP.block ?_
    obtain ⟨c0, c1, h⟩ := chk2 h
    obtain ⟨c2, c3, h⟩ := chk2 h
    obtain ⟨n22, c4, h⟩ := nam_some h
    obtain ⟨c5, h⟩ := chk_some h
    refine WP.pk tm [(15, An.v (ti (x1 + 2))), (16, An.v (ti (v3 * (x1 + 2)))), (21, An.v (ti (gt x0 v4 0))), (22, An.v (ti n22)), (23, An.v (ti (n22 + 1)))] [(True), (True), (wr (x1 + 2)), (True), (wr (v3 * (x1 + 2))), (True), (ib v4 x0), ((List.drop ((Int.toNat v4) * 1) (List.map (ti) x0) : List T)[0]? = some (ti (gt x0 v4 0))), (rf (ti (gt x0 v4 0))), (True), (ti (IntKind.wrap .i64 ((v3 * (x1 + 2)) + (gt x0 v4 0))) = ti n22), (True), (wr (n22 + 1))] [(3, vi (n22 + 1)), (4, vi v4), (2, vi 0), (1, V.t (T.ptr [tl x0, ti x1]))] [] ⟨trivial, trivial, wrapI c0, trivial, wrapI c1, trivial, c2, at1 (by simp) (by omega), rfl, trivial, Eq.trans (wrapI c3) (congrArg (ti) c4), trivial, wrapI c5, trivial⟩ ?_
    obtain ⟨c6, h⟩ := chk_some h
    refine WP.qk tm [(11, An.v (ti (v4 + 1)))] [(True), (wr (v4 + 1))] [(4, vi (v4 + 1)), (3, vi (n22 + 1)), (2, vi 0), (1, V.t (T.ptr [tl x0, ti x1]))] [] ⟨trivial, wrapI c6, trivial⟩ ?_
    exact ⟨(n, (v4 + 1), (n22 + 1)), h, Nat.lt_succ_self _, rfl⟩
   ·refine WP.no h1 rfl ?_
    refine WP.eq tm [] 0 [] [(3, vi v3), (2, vi 0)] [] trivial ?_
    exact ⟨(v3), h, rfl⟩
 ·intro v3 h0
  have h := (show J1 v3 = some y0 from h0)
  rw [hJ1] at h
  have h := Option.some.inj h
  subst h
  exact WP.pathW tab_ok mixed [] _ (ps := []) (r := ti v3) (by kernel_rfl) trivial (WkT.eq (y := ti v3) (WkT.refl _) rfl) (fun _ h => h)
theorem F_s_l6After_W (x0 : List Int) (x1 : Int) (x2 : Int) (x3 : Bool) (y0 : List Int) (y1 : Int) (h : F_s_l6After x0 x1 x2 x3 = some (y0, y1)) : CG Tryz.prog 92 [V.t (T.agg [tl x0, ti x1]), vi x2, vb x3] [] (V.agg [vo 9000 (List.length y0), vi y1]) [(9000, oc 3 (List.map (ti) y0))] := by
 unfold F_s_l6After at h
 refine CG.intro (tab := tab) tab_ok (fn := Tryz.f92) Tryz.func92 (by kernel_rfl) rfl (Nat.le_of_ble_eq_true rfl) (by kernel_rfl) ?_
 obtain ⟨c0, c1, h⟩ := chk2 h
 obtain ⟨n10, c2, h⟩ := nam_some h
 obtain ⟨c3, h⟩ := chk_some h
 simp only [Option.some.injEq, Prod.mk.injEq] at h
 obtain ⟨rfl, rfl⟩ := h
 exact WP.pathG tab_ok mixed [(3, An.fz), (6, An.id 2006), (9, An.v (ti ((1 : Int) * 2 ^ Int.toNat x2))), (10, An.v (ti n10)), (12, An.callG [(9000, 10120)] [V.t (T.agg [tl x0, ti x1]), vi n10, vb x3] [] (V.agg [vo 9000 (List.length (ansN x1 n10 x3 x0)), vi x1]) [(9000, oc 3 (List.map (ti) (ansN x1 n10 x3 x0)))])] [.keep [6], .keepO [10120, 2006], .names [(10120, 9000), (2006, 2006)]] [9000] _ (r' := V.agg [vo 9000 (List.length (ansN x1 n10 x3 x0)), vi x1]) (ps := [(2 ≤ 2), (0 ≤ x2), (ti (IntKind.wrap .i64 ((1 : Int) * 2 ^ (min (Int.toNat x2) 64))) = ti ((1 : Int) * 2 ^ Int.toNat x2)), (True), (ti (IntKind.wrap .i64 (((1 : Int) * 2 ^ Int.toNat x2) - 1)) = ti n10), (CG Tryz.prog 66 [V.t (T.agg [tl x0, ti x1]), vi n10, vb x3] [] (V.agg [vo 9000 (List.length (ansN x1 n10 x3 x0)), vi x1]) [(9000, oc 3 (List.map (ti) (ansN x1 n10 x3 x0)))]), (WkT (T.agg [tl x0, ti x1]) (T.agg [tl x0, ti x1])), (WkT (ti n10) (ti n10)), (WkT (tb x3) (tb x3)), ((0 + 2 ≤ 2 ∧ 2 = 2)), (0 + 2 ≤ 2)]) (r := V.agg [vo 9000 (List.length (ansN x1 n10 x3 x0)), vi x1]) (N := [9000, 2006]) (O := [(9000, oc 3 (List.map (ti) (ansN x1 n10 x3 x0)))]) [] (by kernel_rfl) ⟨by decide, c0.1, shl_told c0, trivial, Eq.trans (wrapI c1) (congrArg (ti) c2), (l2After_C_G x0 x1 n10 x3 c3), WkT.refl _, WkT.refl _, WkT.refl _, by decide, by decide, trivial⟩ ⟨rfl, (WkT.refl _), trivial⟩ rfl rfl (fun _ h => h)
theorem F_s_l6After_W_C (x0 : List Int) (x1 : Int) (x2 : Int) (x3 : Bool) (y0 : List Int) (y1 : Int) (h : F_s_l6After x0 x1 x2 x3 = some (y0, y1)) : C Tryz.prog 92 [T.agg [tl x0, ti x1], ti x2, tb x3] (T.agg [tl y0, ti y1]) :=
 CG.toC (ps := [(List.length (List.map (ti) y0) = (List.length y0) * 1)]) (F_s_l6After_W  x0 x1 x2 x3 y0 y1 h) (by rfl) ⟨by first | rfl | omega | (simp <;> omega) | (simp [hl] <;> omega), trivial⟩
theorem F_s_l2Start_W (x0 : Int) (x1 : Int) (y0 : List Int) (y1 : Int) (h : F_s_l2Start x0 x1 = some (y0, y1)) : CG Tryz.prog 102 [vi x0, vi x1] [] (V.agg [vo 9000 (List.length y0), vi y1]) [(9000, oc 3 (List.map (ti) y0))] := by
 unfold F_s_l2Start at h
 refine CG.intro (tab := tab) tab_ok (fn := Tryz.f102) Tryz.func102 (by kernel_rfl) rfl (Nat.le_of_ble_eq_true rfl) (by kernel_rfl) ?_
 obtain ⟨c0, h⟩ := chk_some h
 simp only [Option.some.injEq, Prod.mk.injEq] at h
 obtain ⟨rfl, rfl⟩ := h
 exact WP.pathG tab_ok mixed [(4, An.id 2004), (6, An.id 2006)] [.keep [4], .keepO [2006, 2004], .names [(2006, 9000), (2004, 2004)]] [9000] _ (r' := V.agg [vo 9000 (List.length (List.replicate (Int.toNat x0) (0 : Int))), vi x1]) (ps := [((0 ≤ x0 ∧ x0 ≤ x0 ∧ (8 : Int) * x0 ≤ 281474976710656 ∧ x0 ≤ (maxLen : Int))), ((1 = 1 ∧ 0 + 1 ≤ 2) ∧ (1 = 1 ∧ 1 + 1 ≤ 2) ∧ True), ((0 + 2 ≤ 2 ∧ 2 = 2)), (0 + 2 ≤ 2)]) (r := V.agg [vo 9000 (Int.toNat x0), vi x1]) (N := [9000, 2004]) (O := [(9000, oc 3 (List.replicate (Int.toNat x0) (ti 0)))]) [] (by kernel_rfl) ⟨c0, ⟨⟨by decide, by decide⟩, ⟨by decide, by decide⟩, trivial⟩, by decide, by decide, trivial⟩ ⟨(congrArg (V.own 9000 1) (by first | rfl | (simp only [tlS, tl, vl, vo, oc, ov, tbl, vbl, ty, vy] <;> rfl) | (simp <;> omega) | (simp []; done) | (rw [List.take_of_length_le (by simp [])] <;> rfl) | (simp [List.take_of_length_le]; done))), (WkT.refl _), trivial⟩ rfl (by first | rfl | (simp only [tlS, tl, vl, vo, oc, ov, tbl, vbl, ty, vy] <;> rfl) | (simp <;> omega) | (simp []; done) | (rw [List.take_of_length_le (by simp [])] <;> rfl) | (simp [List.take_of_length_le]; done)) (fun _ h => h)
theorem F_s_l2Start_W_C (x0 : Int) (x1 : Int) (y0 : List Int) (y1 : Int) (h : F_s_l2Start x0 x1 = some (y0, y1)) : C Tryz.prog 102 [ti x0, ti x1] (T.agg [tl y0, ti y1]) :=
 CG.toC (ps := [(List.length (List.map (ti) y0) = (List.length y0) * 1)]) (F_s_l2Start_W  x0 x1 y0 y1 h) (by rfl) ⟨by first | rfl | omega | (simp <;> omega) | (simp [hl] <;> omega), trivial⟩
theorem F_s_l6Of_W (x0 : Int) (x1 : Int) (x2 : Int) (y0 : List Int) (y1 : Int) (h : F_s_l6Of x0 x1 x2 = some (y0, y1)) : CG Tryz.prog 133 [vi x0, vi x1, vi x2] [] (V.agg [vo 9000 (List.length y0), vi y1]) [(9000, oc 3 (List.map (ti) y0))] := by
 unfold F_s_l6Of at h
 refine CG.intro (tab := tab) tab_ok (fn := Tryz.f133) Tryz.func133 (by kernel_rfl) rfl (Nat.le_of_ble_eq_true rfl) (by kernel_rfl) ?_
 refine WP.sk tm [(6, An.id 2006)] [] [(6, V.ref 2006 0), (0, vi x0), (1, vi x1), (2, vi x2)] [(2006, oc 26 [T.nils, ti 0])] trivial ?_
 refine WP.seq ?_
 obtain ⟨r11, r11b, c0, h⟩ := bnd2_some h
 refine WP.pn tm [(11, An.callG [(9000, 10110)] [vi x1, vi x2] [] (V.agg [vo 9000 (List.length r11), vi r11b]) [(9000, oc 3 (List.map (ti) r11))]), (7, An.id 2007)] [(CG Tryz.prog 102 [vi x1, vi x2] [] (V.agg [vo 9000 (List.length r11), vi r11b]) [(9000, oc 3 (List.map (ti) r11))]), (WkT (ti x1) (ti x1)), (WkT (ti x2) (ti x2)), ((0 + 2 ≤ 2 ∧ 2 = 2))] [2007, 10110, 2006] [(7, V.ref 2007 0), (6, V.ref 2006 0), (0, vi x0), (1, vi x1), (2, vi x2)] [(2006, oc 26 [T.nils, ti 0]), (2007, ov 26 [vo 10110 (List.length r11), vi r11b]), (10110, oc 3 (List.map (ti) r11))] ⟨(F_s_l2Start_W x1 x2 r11 r11b c0), WkT.refl _, WkT.refl _, by decide, trivial⟩ ?_
 obtain ⟨J1, hJ1, h⟩ := jn_some h
 refine WP.joinA (fun (zz : (List Int)) => ⟨[2006, 2007, 10110], [(7, V.ref 2007 0), (6, V.ref 2006 0)], [(2006, oc 26 [T.nils, ti 0]), (2007, ov 26 [vo 10110 (List.length zz), vi r11b]), (10110, oc 3 (List.map (ti) zz))]⟩) (fun zz => J1 zz = some (y0, y1)) ?_ ?_
 ·refine WP.seq ?_
  obtain ⟨c1, h⟩ := chk_some h
  refine WP.pn tm [(13, An.v (ti (x1 - 1)))] [(True), (wr (x1 - 1))] [2007, 10110, 2006] [(8, vi (x1 - 1)), (7, V.ref 2007 0), (6, V.ref 2006 0), (0, vi x0), (2, vi x2)] [(2006, oc 26 [T.nils, ti 0]), (2007, ov 26 [vo 10110 (List.length r11), vi r11b]), (10110, oc 3 (List.map (ti) r11))] ⟨trivial, wrapI c1, trivial⟩ ?_
  refine WP.block ?_
  refine WP.wk [.keep [8, 7, 6, 0, 2], .keepO [2006, 2007, 10110], .names [(2006, 2006), (2007, 2007), (10110, 10110)]] (σ' := ⟨[2006, 2007, 10110], [(8, vi (x1 - 1)), (7, V.ref 2007 0), (6, V.ref 2006 0), (0, vi x0), (2, vi x2)], [(2006, oc 26 [T.nils, ti 0]), (2007, ov 26 [vo 10110 (List.length r11), vi r11b]), (10110, oc 3 (List.map (ti) r11))]⟩) (ps := []) (by kernel_rfl) trivial ?_
  refine WP.loop (α := Nat × (List Int) × Int × Int) (fun zz => ⟨[2006, 2007, 10110], [(8, vi zz.2.2.1), (7, V.ref 2007 0), (6, V.ref 2006 0), (0, vi zz.2.2.2), (2, vi x2)], [(2006, oc 26 [T.nils, ti 0]), (2007, ov 26 [vo 10110 (List.length zz.2.1), vi r11b]), (10110, oc 3 (List.map (ti) zz.2.1))]⟩) (fun zz => F_s_l6Of_L1 x2 J1 zz.1 zz.2.1 zz.2.2.1 zz.2.2.2 = some (y0, y1)) (fun zz => zz.1) (fuel, r11, (x1 - 1), x0) h ?_
  rintro ⟨n, o10110, v8, v0⟩ h0
  have h := (show F_s_l6Of_L1 x2 J1 n o10110 v8 v0 = some (y0, y1) from h0)
  rcases n with _ | n
  ·rw [F_s_l6Of_L1] at h; cases h
  ·rw [F_s_l6Of_L1] at h
   refine WP.seq ?_
   refine WP.sk tm [] [(True)] [(15, vb (decide (v8 ≥ (0 : Int)))), (8, vi v8), (7, V.ref 2007 0), (6, V.ref 2006 0), (0, vi v0), (2, vi x2)] [(2006, oc 26 [T.nils, ti 0]), (2007, ov 26 [vo 10110 (List.length o10110), vi r11b]), (10110, oc 3 (List.map (ti) o10110))] ⟨trivial, trivial⟩ ?_
   rcases ite_some h with ⟨h1, h⟩ | ⟨h1, h⟩
   ·refine WP.yes h1 rfl ?_
    refine WP.pk tm [] [] [(8, vi v8), (7, V.ref 2007 0), (6, V.ref 2006 0), (0, vi v0), (2, vi x2)] [(2006, oc 26 [T.nils, ti 0]), (2007, ov 26 [vo 10110 (List.length o10110), vi r11b]), (10110, oc 3 (List.map (ti) o10110))] trivial ?_
    refine WP.seq ?_
    refine WP.block ?_
    obtain ⟨c2, c3, h⟩ := chk2 h
    obtain ⟨c4, h⟩ := chk_some h
    obtain ⟨n25, c5, h⟩ := nam_some h
    obtain ⟨c6, c7, h⟩ := chk2 h
    refine WP.pk tm [(23, An.v (ti (x2 + 2))), (25, An.v (ti n25)), (29, An.v (ti (x2 + 2))), (30, An.v (ti (Int.tdiv v0 (x2 + 2))))] [(True), (True), (wr (x2 + 2)), ((x2 + 2) ≠ 0), (True), (ti (IntKind.wrap .i64 ((Int.tmod v0 (x2 + 2)) - 1)) = ti n25), (ib v8 o10110), ((Int.toNat v8) * 1 < List.length (List.map (ti) o10110)), (True), (wr (x2 + 2)), ((x2 + 2) ≠ 0), (wr (Int.tdiv v0 (x2 + 2)))] [(0, vi (Int.tdiv v0 (x2 + 2))), (8, vi v8), (7, V.ref 2007 0), (6, V.ref 2006 0), (2, vi x2)] [(2006, oc 26 [T.nils, ti 0]), (2007, ov 26 [vo 10110 (List.length o10110), vi r11b]), (10110, oc 3 (List.set (List.map (ti) o10110) ((Int.toNat v8) * 1) (ti n25)))] ⟨trivial, trivial, wrapI c2, c3, trivial, Eq.trans (wrapI c4) (congrArg (ti) c5), c6, by first | decide | omega | (simp only [tlL] <;> omega) | (simp <;> omega) | (simp [] <;> omega), trivial, wrapI c2, c3, quo_told c7, trivial⟩ ?_
    obtain ⟨c8, h⟩ := chk_some h
    refine WP.qk tm [(17, An.v (ti (v8 - 1)))] [(True), (wr (v8 - 1))] [(8, vi (v8 - 1)), (7, V.ref 2007 0), (6, V.ref 2006 0), (0, vi (Int.tdiv v0 (x2 + 2))), (2, vi x2)] [(2006, oc 26 [T.nils, ti 0]), (2007, ov 26 [vo 10110 (List.length o10110), vi r11b]), (10110, oc 3 (List.set (List.map (ti) o10110) ((Int.toNat v8) * 1) (ti n25)))] ⟨trivial, wrapI c8, trivial⟩ ?_
    exact ⟨(n, List.set o10110 (Int.toNat v8) n25, (v8 - 1), (Int.tdiv v0 (x2 + 2))), h, Nat.lt_succ_self _, (by first | rfl | (simp only [tlS, tl, vl, vo, oc, ov, tbl, vbl, ty, vy] <;> rfl) | (simp <;> omega) | (simp []; done) | (rw [List.take_of_length_le (by simp [])] <;> rfl) | (simp [List.take_of_length_le]; done))⟩
   ·refine WP.no h1 rfl ?_
    refine WP.eq tm [] 0 [] [(7, V.ref 2007 0), (6, V.ref 2006 0)] [(2006, oc 26 [T.nils, ti 0]), (2007, ov 26 [vo 10110 (List.length o10110), vi r11b]), (10110, oc 3 (List.map (ti) o10110))] trivial ?_
    exact ⟨(o10110), h, rfl⟩
 ·intro o10110 h0
  have h := (show J1 o10110 = some (y0, y1) from h0)
  rw [hJ1] at h
  simp only [Option.some.injEq, Prod.mk.injEq] at h
  obtain ⟨rfl, rfl⟩ := h
  exact WP.pathG tab_ok mixed [] [.keep [6], .keepO [10110, 2006], .names [(10110, 9000), (2006, 2006)]] [9000] _ (r' := V.agg [vo 9000 (List.length o10110), vi r11b]) (ps := [(0 + 2 ≤ 2), ((0 + 2 ≤ 2 ∧ 2 = 2)), (0 + 2 ≤ 2)]) (r := V.agg [vo 9000 (List.length o10110), vi r11b]) (N := [9000, 2006]) (O := [(9000, oc 3 (List.map (ti) o10110))]) [] (by kernel_rfl) ⟨by decide, by decide, by decide, trivial⟩ ⟨rfl, (WkT.refl _), trivial⟩ rfl rfl (fun _ h => h)
theorem F_s_l6Of_W_C (x0 : Int) (x1 : Int) (x2 : Int) (y0 : List Int) (y1 : Int) (h : F_s_l6Of x0 x1 x2 = some (y0, y1)) : C Tryz.prog 133 [ti x0, ti x1, ti x2] (T.agg [tl y0, ti y1]) :=
 CG.toC (ps := [(List.length (List.map (ti) y0) = (List.length y0) * 1)]) (F_s_l6Of_W  x0 x1 x2 y0 y1 h) (by rfl) ⟨by first | rfl | omega | (simp <;> omega) | (simp [hl] <;> omega), trivial⟩
theorem F_s6N_W (x0 : Int) (x1 : Int) (y0 : List Int) (h : F_s6N x0 x1 = some y0) : CG Tryz.prog 85 [vi x0, vi x1] [] (vo 9000 (List.length y0)) [(9000, oc 3 (List.map (T.int .i64) y0))] := by
 unfold F_s6N at h
 refine CG.intro (tab := tab) tab_ok (fn := Tryz.f85) Tryz.func85 (by as_aux_lemma => kernel_rfl) rfl (Nat.le_of_ble_eq_true rfl) (by as_aux_lemma => kernel_rfl) ?_
 refine WP.sk tm [] [] [(4, V.t (T.nils)), (0, vi x0), (1, vi x1)] [] trivial ?_
 refine WP.sk tm [] [] [(5, vi 1), (4, V.t (T.nils)), (0, vi x0), (1, vi x1)] [] trivial ?_
 obtain ⟨J1, hJ1, h⟩ := jn_some h
 refine WP.joinA (fun (zz : Int) => ⟨[], [(5, vi zz), (4, V.t (T.nils)), (0, vi x0), (1, vi x1)], []⟩) (fun zz => J1 zz = some y0) ?_ ?_
 ·refine WP.sk tm [] [] [(6, vi 0), (5, vi 1), (4, V.t (T.nils)), (0, vi x0), (1, vi x1)] [] trivial ?_
  refine WP.block ?_
  refine WP.lp (α := Nat × Int × Int) (fun zz => ⟨[], [(6, vi zz.2.1), (5, vi zz.2.2), (4, V.t (T.nils)), (0, vi x0), (1, vi x1)], []⟩) (fun zz => F_s6N_L1 x0 x1 J1 zz.1 zz.2.1 zz.2.2 = some y0) (fun zz => zz.1) (fuel, (0 : Int), (1 : Int)) h ?_
  rintro ⟨n, v6, v5⟩ h0
  have h := (show F_s6N_L1 x0 x1 J1 n v6 v5 = some y0 from h0)
  rcases n with _ | n
  ·rw [F_s6N_L1] at h; cases h
  ·rw [F_s6N_L1] at h
   refine WP.seq ?_
   refine WP.sk tm [] [(True)] [(20, vb (decide (v6 < x0))), (6, vi v6), (5, vi v5), (4, V.t (T.nils)), (0, vi x0), (1, vi x1)] [] ⟨trivial, trivial⟩ ?_
   rcases ite_some h with ⟨h1, h⟩ | ⟨h1, h⟩
   ·refine WP.yes h1 rfl ?_
    refine WP.pk tm [] [] [(6, vi v6), (5, vi v5), (4, V.t (T.nils)), (0, vi x0), (1, vi x1)] [] trivial ?_
    refine WP.seq ?_
    refine WP.block ?_
    obtain ⟨c0, c1, h⟩ := chk2 h
    refine WP.pk tm [(25, An.v (ti (x1 + 2))), (26, An.v (ti (v5 * (x1 + 2))))] [(True), (wr (x1 + 2)), (True), (wr (v5 * (x1 + 2)))] [(5, vi (v5 * (x1 + 2))), (6, vi v6), (4, V.t (T.nils)), (0, vi x0), (1, vi x1)] [] ⟨trivial, wrapI c0, trivial, wrapI c1, trivial⟩ ?_
    obtain ⟨c2, h⟩ := chk_some h
    refine WP.qk tm [(22, An.v (ti (v6 + 1)))] [(True), (wr (v6 + 1))] [(6, vi (v6 + 1)), (5, vi (v5 * (x1 + 2))), (4, V.t (T.nils)), (0, vi x0), (1, vi x1)] [] ⟨trivial, wrapI c2, trivial⟩ ?_
    exact ⟨(n, (v6 + 1), (v5 * (x1 + 2))), h, Nat.lt_succ_self _, rfl⟩
   ·refine WP.no h1 rfl ?_
    refine WP.eq tm [] 0 [] [(5, vi v5), (4, V.t (T.nils)), (0, vi x0), (1, vi x1)] [] trivial ?_
    exact ⟨(v5), h, rfl⟩
 ·intro v5 h0
  have h := (show J1 v5 = some y0 from h0)
  rw [hJ1] at h
  refine WP.seq ?_
  obtain ⟨c0, h⟩ := chk_some h
  refine WP.pn tm [(28, An.id 2028), (29, An.id 2029)] [((0 ≤ v5 ∧ v5 ≤ v5 ∧ (8 : Int) * v5 ≤ 281474976710656 ∧ v5 ≤ (maxLen : Int))), (True), (0 = 0 * 1)] [2029, 2028] [(8, vo 2029 0), (7, vo 2028 (Int.toNat v5)), (5, vi v5), (4, V.t (T.nils)), (0, vi x0), (1, vi x1)] [(2028, oc 3 (List.replicate (Int.toNat v5) (ti 0))), (2029, oc 3 [])] ⟨c0, trivial, by decide, trivial⟩ ?_
  obtain ⟨J1, hJ1, h⟩ := jn_some h
  refine WP.joinA (fun (zz : (List Int) × (List Int)) => ⟨[2028, 2029], [(8, vo 2029 (List.length zz.2)), (7, vo 2028 (List.length zz.1)), (4, V.t (T.nils)), (0, vi x0), (1, vi x1)], [(2028, oc 3 (List.map (ti) zz.1)), (2029, oc 3 (List.map (ti) zz.2))]⟩) (fun zz => J1 zz.1 zz.2 = some y0) ?_ ?_
  ·refine WP.sn tm [] [] [2029, 2028] [(9, vi 0), (8, vo 2029 0), (7, vo 2028 (Int.toNat v5)), (5, vi v5), (4, V.t (T.nils)), (0, vi x0), (1, vi x1)] [(2028, oc 3 (List.replicate (Int.toNat v5) (ti 0))), (2029, oc 3 [])] trivial ?_
   refine WP.block ?_
   refine WP.wk [.keep [9, 8, 7, 5, 4, 0, 1], .keepO [2028, 2029], .names [(2028, 2028), (2029, 2029)]] (σ' := ⟨[2028, 2029], [(9, vi 0), (8, vo 2029 0), (7, vo 2028 (Int.toNat v5)), (5, vi v5), (4, V.t (T.nils)), (0, vi x0), (1, vi x1)], [(2028, oc 3 (List.replicate (Int.toNat v5) (ti 0))), (2029, oc 3 [])]⟩) (ps := []) (by as_aux_lemma => kernel_rfl) trivial ?_
   refine WP.st (σ' := ⟨[2028, 2029], [(9, vi (0 : Int)), (8, vo 2029 (List.length ([] : List Int))), (7, vo 2028 (List.length (List.replicate (Int.toNat v5) (0 : Int)))), (5, vi v5), (4, V.t (T.nils)), (0, vi x0), (1, vi x1)], [(2028, oc 3 (List.map (ti) (List.replicate (Int.toNat v5) (0 : Int)))), (2029, oc 3 (List.map (ti) ([] : List Int)))]⟩) (by simp <;> omega) ?_
   refine WP.loop (α := Nat × (List Int) × (List Int) × Int) (fun zz => ⟨[2028, 2029], [(9, vi zz.2.2.2), (8, vo 2029 (List.length zz.2.2.1)), (7, vo 2028 (List.length zz.2.1)), (5, vi v5), (4, V.t (T.nils)), (0, vi x0), (1, vi x1)], [(2028, oc 3 (List.map (T.int .i64) zz.2.1)), (2029, oc 3 (List.map (T.int .i64) zz.2.2.1))]⟩) (fun zz => F_s6N_L2 x0 x1 v5 J1 zz.1 zz.2.1 zz.2.2.1 zz.2.2.2 = some y0) (fun zz => zz.1) (fuel, List.replicate (Int.toNat v5) (0 : Int), ([] : List Int), (0 : Int)) h ?_
   rintro ⟨n, o28, o29, v9⟩ h0
   have h := (show F_s6N_L2 x0 x1 v5 J1 n o28 o29 v9 = some y0 from h0)
   rcases n with _ | n
   ·rw [F_s6N_L2] at h; cases h
   ·rw [F_s6N_L2] at h
    refine WP.seq ?_
    refine WP.sk tm [] [(True)] [(32, vb (decide (v9 < v5))), (9, vi v9), (8, vo 2029 (List.length o29)), (7, vo 2028 (List.length o28)), (5, vi v5), (4, V.t (T.nils)), (0, vi x0), (1, vi x1)] [(2028, oc 3 (List.map (ti) o28)), (2029, oc 3 (List.map (ti) o29))] ⟨trivial, trivial⟩ ?_
    rcases ite_some h with ⟨h2, h⟩ | ⟨h2, h⟩
    ·refine WP.yes h2 rfl ?_
     refine WP.pk tm [] [] [(9, vi v9), (8, vo 2029 (List.length o29)), (7, vo 2028 (List.length o28)), (5, vi v5), (4, V.t (T.nils)), (0, vi x0), (1, vi x1)] [(2028, oc 3 (List.map (ti) o28)), (2029, oc 3 (List.map (ti) o29))] trivial ?_
     refine WP.seq ?_
     refine WP.block ?_
     refine WP.seq ?_
     obtain ⟨c1, h⟩ := chk_some h
     refine WP.pk tm [] [(ib v9 o28), ((Int.toNat v9) * 1 < List.length (List.map (ti) o28))] [(9, vi v9), (8, vo 2029 (List.length o29)), (7, vo 2028 (List.length o28)), (5, vi v5), (4, V.t (T.nils)), (0, vi x0), (1, vi x1)] [(2028, oc 3 (List.set (List.map (ti) o28) ((Int.toNat v9) * 1) (ti (-1)))), (2029, oc 3 (List.map (ti) o29))] ⟨c1, by first | decide | omega | (simp only [tlL] <;> omega) | (simp <;> omega) | (simp [] <;> omega), trivial⟩ ?_
     refine WP.seq ?_
     obtain ⟨r41, r41b, c2, h⟩ := bnd2_some h
     obtain ⟨c3, h⟩ := chk_some h
     refine WP.pn tm [(41, An.callG [(9000, 10410)] [vi v9, vi x0, vi x1] [] (V.agg [vo 9000 (List.length r41), vi r41b]) [(9000, oc 3 (List.map (ti) r41))]), (42, An.call (tb (decide ((ln (openN r41)) < (2 : Int)))))] [(CG Tryz.prog 133 [vi v9, vi x0, vi x1] [] (V.agg [vo 9000 (List.length r41), vi r41b]) [(9000, oc 3 (List.map (ti) r41))]), (WkT (ti v9) (ti v9)), (WkT (ti x0) (ti x0)), (WkT (ti x1) (ti x1)), (C Tryz.prog 88 [T.agg [tl r41, ti r41b]] (tb (decide ((ln (openN r41)) < (2 : Int))))), (List.length (List.map (ti) r41) = (List.length r41) * 1)] [10410, 2028, 2029] [(42, vb (decide ((ln (openN r41)) < (2 : Int)))), (9, vi v9), (8, vo 2029 (List.length o29)), (7, vo 2028 (List.length o28)), (5, vi v5), (4, V.t (T.nils)), (0, vi x0), (1, vi x1)] [(2028, oc 3 (List.set (List.map (ti) o28) ((Int.toNat v9) * 1) (ti (-1)))), (2029, oc 3 (List.map (ti) o29))] ⟨(F_s_l6Of_W v9 x0 x1 r41 r41b c2), WkT.refl _, WkT.refl _, WkT.refl _, (l6Done_C r41 r41b c3), by first | rfl | omega | (simp only [tlL] <;> omega) | (simp <;> omega) | (simp [] <;> omega), trivial⟩ ?_
     rcases ite_some h with ⟨h3, h⟩ | ⟨h3, h⟩
     ·refine WP.yes h3 rfl ?_
      refine WP.pn tm [] [(ib v9 o28), ((Int.toNat v9) * 1 < List.length (List.set (List.map (ti) o28) ((Int.toNat v9) * 1) (ti (-1))))] [10410, 2028, 2029] [(9, vi v9), (8, vo 2029 (List.length o29)), (7, vo 2028 (List.length o28)), (5, vi v5), (4, V.t (T.nils)), (0, vi x0), (1, vi x1)] [(2028, oc 3 (List.set (List.set (List.map (ti) o28) ((Int.toNat v9) * 1) (ti (-1))) ((Int.toNat v9) * 1) (ti 0))), (2029, oc 3 (List.map (ti) o29))] ⟨c1, by first | decide | omega | (simp only [tlL] <;> omega) | (simp <;> omega) | (simp [] <;> omega), trivial⟩ ?_
      obtain ⟨c4, h⟩ := chk_some h
      refine WP.qk tm [(34, An.v (ti (v9 + 1)))] [(True), (wr (v9 + 1))] [(9, vi (v9 + 1)), (8, vo 2029 (List.length o29)), (7, vo 2028 (List.length o28)), (5, vi v5), (4, V.t (T.nils)), (0, vi x0), (1, vi x1)] [(2028, oc 3 (List.set (List.set (List.map (ti) o28) ((Int.toNat v9) * 1) (ti (-1))) ((Int.toNat v9) * 1) (ti 0))), (2029, oc 3 (List.map (ti) o29))] ⟨trivial, wrapI c4, trivial⟩ ?_
      exact ⟨(n, List.set (List.set o28 (Int.toNat v9) (-1 : Int)) (Int.toNat v9) (0 : Int), o29, (v9 + 1)), h, Nat.lt_succ_self _, (by first | rfl | (simp only [tlS, tl, vl, vo, oc, ov, tbl, vbl, ty, vy] <;> rfl) | (simp <;> omega) | (simp []; done) | (rw [List.take_of_length_le (by simp [])] <;> rfl) | (simp [List.take_of_length_le]; done))⟩
     ·refine WP.no h3 rfl ?_
      obtain ⟨c4, h⟩ := chk_some h
      refine WP.pn tm [(48, An.fz), (49, An.id 2049)] [((1 = 1 ∧ 0 + 1 ≤ 1) ∧ True), (1 = 1 * 1), (True), (List.length (List.map (ti) o29) = (List.length o29) * 1), ((((List.length o29) + 1) * 8 ≤ 140737488355328 ∧ (List.length o29) + 1 ≤ maxLen))] [2049, 10410, 2028, 2029] [(8, vo 2049 ((List.length o29) + 1)), (9, vi v9), (7, vo 2028 (List.length o28)), (5, vi v5), (4, V.t (T.nils)), (0, vi x0), (1, vi x1)] [(2028, oc 3 (List.set (List.map (ti) o28) ((Int.toNat v9) * 1) (ti (-1)))), (2049, oc 3 ((List.map (ti) o29) ++ [ti v9]))] ⟨⟨⟨by first | rfl | (simp; done) | (simp []; done) | omega, by first | decide | (simp; done) | (simp []; done) | omega | (simp only [tlL]; omega) | (simp; omega)⟩, trivial⟩, by decide, trivial, by first | rfl | omega | (simp only [tlL] <;> omega) | (simp <;> omega) | (simp [] <;> omega), c4, trivial⟩ ?_
      obtain ⟨c5, h⟩ := chk_some h
      refine WP.nk tm [(34, An.v (ti (v9 + 1)))] [(2028, 2028), (2049, 2029)] .normal [(True), (wr (v9 + 1))] [(9, vi (v9 + 1)), (8, vo 2029 ((List.length o29) + 1)), (7, vo 2028 (List.length o28)), (5, vi v5), (4, V.t (T.nils)), (0, vi x0), (1, vi x1)] [(2028, oc 3 (List.set (List.map (ti) o28) ((Int.toNat v9) * 1) (ti (-1)))), (2029, oc 3 ((List.map (ti) o29) ++ [ti v9]))] ⟨trivial, wrapI c5, trivial⟩ ?_
      exact ⟨(n, List.set o28 (Int.toNat v9) (-1 : Int), o29 ++ [v9], (v9 + 1)), h, Nat.lt_succ_self _, (by first | rfl | (simp only [tlS, tl, vl, vo, oc, ov, tbl, vbl, ty, vy] <;> rfl) | (simp <;> omega) | (simp []; done) | (rw [List.take_of_length_le (by simp [])] <;> rfl) | (simp [List.take_of_length_le]; done))⟩
    ·refine WP.no h2 rfl ?_
     refine WP.eq tm [] 2 [] [(8, vo 2029 (List.length o29)), (7, vo 2028 (List.length o28)), (4, V.t (T.nils)), (0, vi x0), (1, vi x1)] [(2028, oc 3 (List.map (ti) o28)), (2029, oc 3 (List.map (ti) o29))] trivial ?_
     exact ⟨(o28, o29), h, rfl⟩
  ·rintro ⟨o28, o29⟩ h0
   have h := (show J1 o28 o29 = some y0 from h0)
   rw [hJ1] at h
   obtain ⟨J1, hJ1, h⟩ := jn_some h
   refine WP.joinA (fun (zz : (List Int)) => ⟨[2028], [(7, vo 2028 (List.length zz)), (4, V.t (T.nils))], [(2028, oc 3 (List.map (ti) zz))]⟩) (fun zz => J1 zz = some y0) ?_ ?_
   ·refine WP.sk tm [] [] [(10, vi 1), (8, vo 2029 (List.length o29)), (7, vo 2028 (List.length o28)), (4, V.t (T.nils)), (0, vi x0), (1, vi x1)] [(2028, oc 3 (List.map (ti) o28)), (2029, oc 3 (List.map (ti) o29))] trivial ?_
    refine WP.block ?_
    refine WP.lp (α := Nat × (List Int) × (List Int) × Int) (fun zz => ⟨[2028, 2029], [(10, vi zz.2.2.2), (8, vo 2029 (List.length zz.2.2.1)), (7, vo 2028 (List.length zz.2.1)), (4, V.t (T.nils)), (0, vi x0), (1, vi x1)], [(2028, oc 3 (List.map (ti) zz.2.1)), (2029, oc 3 (List.map (ti) zz.2.2.1))]⟩) (fun zz => F_s6N_L3 x0 x1 J1 zz.1 zz.2.1 zz.2.2.1 zz.2.2.2 = some y0) (fun zz => zz.1) (fuel, o28, o29, (1 : Int)) h ?_
    rintro ⟨n, o28b, o29b, v10⟩ h0
    have h := (show F_s6N_L3 x0 x1 J1 n o28b o29b v10 = some y0 from h0)
    rcases n with _ | n
    ·rw [F_s6N_L3] at h; cases h
    ·rw [F_s6N_L3] at h
     refine WP.seq ?_
     refine WP.sk tm [] [(True)] [(52, vb (decide ((ln o29b) > (0 : Int)))), (10, vi v10), (8, vo 2029 (List.length o29b)), (7, vo 2028 (List.length o28b)), (4, V.t (T.nils)), (0, vi x0), (1, vi x1)] [(2028, oc 3 (List.map (ti) o28b)), (2029, oc 3 (List.map (ti) o29b))] ⟨trivial, trivial⟩ ?_
     rcases ite_some h with ⟨h4, h⟩ | ⟨h4, h⟩
     ·refine WP.yes h4 rfl ?_
      refine WP.pk tm [] [] [(10, vi v10), (8, vo 2029 (List.length o29b)), (7, vo 2028 (List.length o28b)), (4, V.t (T.nils)), (0, vi x0), (1, vi x1)] [(2028, oc 3 (List.map (ti) o28b)), (2029, oc 3 (List.map (ti) o29b))] trivial ?_
      obtain ⟨J2, hJ2, h⟩ := jn_some h
      refine WP.joinA (fun (zz : (List Int) × (List Int)) => ⟨[2028, 2056], [(8, vo 2056 (List.length zz.2)), (10, vi v10), (7, vo 2028 (List.length zz.1)), (4, V.t (T.nils)), (0, vi x0), (1, vi x1)], [(2028, oc 3 (List.map (ti) zz.1)), (2056, oc 3 (List.map (ti) zz.2))]⟩) (fun zz => J2 zz.1 zz.2 = some y0) ?_ ?_
      ·refine WP.block ?_
       refine WP.sn tm [(55, An.id 2055), (56, An.id 2056)] [(True), (0 = 0 * 1), (True), (0 = 0 * 1)] [2056, 2055, 2028, 2029] [(12, vo 2056 0), (11, vo 2055 0), (10, vi v10), (8, vo 2029 (List.length o29b)), (7, vo 2028 (List.length o28b)), (4, V.t (T.nils)), (0, vi x0), (1, vi x1)] [(2028, oc 3 (List.map (ti) o28b)), (2029, oc 3 (List.map (ti) o29b)), (2055, oc 3 []), (2056, oc 3 [])] ⟨trivial, by decide, trivial, by decide, trivial⟩ ?_
       obtain ⟨J3, hJ3, h⟩ := jn_some h
       refine WP.joinA (fun (zz : (List Int) × (List Int)) => ⟨[2028, 2029, 2055, 2056], [(12, vo 2056 (List.length zz.2)), (11, vo 2055 (List.length zz.1)), (10, vi v10), (8, vo 2029 (List.length o29b)), (7, vo 2028 (List.length o28b)), (4, V.t (T.nils)), (0, vi x0), (1, vi x1)], [(2028, oc 3 (List.map (ti) o28b)), (2029, oc 3 (List.map (ti) o29b)), (2055, oc 3 (List.map (ti) zz.1)), (2056, oc 3 (List.map (ti) zz.2))]⟩) (fun zz => J3 zz.1 zz.2 = some y0) ?_ ?_
       ·refine WP.sn tm [] [] [2056, 2055, 2028, 2029] [(13, vi 0), (12, vo 2056 0), (11, vo 2055 0), (10, vi v10), (8, vo 2029 (List.length o29b)), (7, vo 2028 (List.length o28b)), (4, V.t (T.nils)), (0, vi x0), (1, vi x1)] [(2028, oc 3 (List.map (ti) o28b)), (2029, oc 3 (List.map (ti) o29b)), (2055, oc 3 []), (2056, oc 3 [])] trivial ?_
        refine WP.block ?_
        refine WP.lp (α := Nat × (List Int) × (List Int) × Int) (fun zz => ⟨[2028, 2029, 2055, 2056], [(13, vi zz.2.2.2), (12, vo 2056 (List.length zz.2.2.1)), (11, vo 2055 (List.length zz.2.1)), (10, vi v10), (8, vo 2029 (List.length o29b)), (7, vo 2028 (List.length o28b)), (4, V.t (T.nils)), (0, vi x0), (1, vi x1)], [(2028, oc 3 (List.map (ti) o28b)), (2029, oc 3 (List.map (ti) o29b)), (2055, oc 3 (List.map (ti) zz.2.1)), (2056, oc 3 (List.map (ti) zz.2.2.1))]⟩) (fun zz => F_s6N_L4 x0 x1 o28b o29b J3 zz.1 zz.2.1 zz.2.2.1 zz.2.2.2 = some y0) (fun zz => zz.1) (fuel, ([] : List Int), ([] : List Int), (0 : Int)) h ?_
        rintro ⟨n, o55, o56, v13⟩ h0
        have h := (show F_s6N_L4 x0 x1 o28b o29b J3 n o55 o56 v13 = some y0 from h0)
        rcases n with _ | n
        ·rw [F_s6N_L4] at h; cases h
        ·rw [F_s6N_L4] at h
         refine WP.seq ?_
         refine WP.sk tm [] [(True)] [(60, vb (decide (v13 < (ln o29b)))), (13, vi v13), (12, vo 2056 (List.length o56)), (11, vo 2055 (List.length o55)), (10, vi v10), (8, vo 2029 (List.length o29b)), (7, vo 2028 (List.length o28b)), (4, V.t (T.nils)), (0, vi x0), (1, vi x1)] [(2028, oc 3 (List.map (ti) o28b)), (2029, oc 3 (List.map (ti) o29b)), (2055, oc 3 (List.map (ti) o55)), (2056, oc 3 (List.map (ti) o56))] ⟨trivial, trivial⟩ ?_
         rcases ite_some h with ⟨h5, h⟩ | ⟨h5, h⟩
         ·refine WP.yes h5 rfl ?_
          refine WP.pk tm [] [] [(13, vi v13), (12, vo 2056 (List.length o56)), (11, vo 2055 (List.length o55)), (10, vi v10), (8, vo 2029 (List.length o29b)), (7, vo 2028 (List.length o28b)), (4, V.t (T.nils)), (0, vi x0), (1, vi x1)] [(2028, oc 3 (List.map (ti) o28b)), (2029, oc 3 (List.map (ti) o29b)), (2055, oc 3 (List.map (ti) o55)), (2056, oc 3 (List.map (ti) o56))] trivial ?_
          obtain ⟨J4, hJ4, h⟩ := jn_some h
          refine WP.joinA (fun (zz : (List Int) × (List Int)) => ⟨[2028, 2029, 2056, 2104], [(11, vo 2104 (List.length zz.2)), (13, vi v13), (12, vo 2056 (List.length zz.1)), (10, vi v10), (8, vo 2029 (List.length o29b)), (7, vo 2028 (List.length o28b)), (4, V.t (T.nils)), (0, vi x0), (1, vi x1)], [(2028, oc 3 (List.map (ti) o28b)), (2029, oc 3 (List.map (ti) o29b)), (2056, oc 3 (List.map (ti) zz.1)), (2104, oc 3 (List.map (ti) zz.2))]⟩) (fun zz => J4 zz.1 zz.2 = some y0) ?_ ?_
          ·refine WP.block ?_
           refine WP.seq ?_
           obtain ⟨c1, h⟩ := chk_some h
           obtain ⟨r69, r69b, c2, h⟩ := bnd2_some h
           refine WP.pn tm [(66, An.v (ti (gt o29b v13 0))), (69, An.callG [(9000, 10690)] [vi (gt o29b v13 0), vi x0, vi x1] [] (V.agg [vo 9000 (List.length r69), vi r69b]) [(9000, oc 3 (List.map (ti) r69))]), (14, An.id 2014)] [(ib v13 o29b), ((List.map (ti) o29b : List T)[(Int.toNat v13) * 1]? = some (ti (gt o29b v13 0))), (rf (ti (gt o29b v13 0))), (CG Tryz.prog 133 [vi (gt o29b v13 0), vi x0, vi x1] [] (V.agg [vo 9000 (List.length r69), vi r69b]) [(9000, oc 3 (List.map (ti) r69))]), (WkT (ti (gt o29b v13 0)) (ti (gt o29b v13 0))), (WkT (ti x0) (ti x0)), (WkT (ti x1) (ti x1)), ((0 + 2 ≤ 2 ∧ 2 = 2))] [2014, 10690, 2028, 2029, 2055, 2056] [(15, vb false), (14, V.ref 2014 0), (13, vi v13), (12, vo 2056 (List.length o56)), (11, vo 2055 (List.length o55)), (10, vi v10), (8, vo 2029 (List.length o29b)), (7, vo 2028 (List.length o28b)), (4, V.t (T.nils)), (0, vi x0), (1, vi x1)] [(2014, ov 26 [vo 10690 (List.length r69), vi r69b]), (2028, oc 3 (List.map (ti) o28b)), (2029, oc 3 (List.map (ti) o29b)), (2055, oc 3 (List.map (ti) o55)), (2056, oc 3 (List.map (ti) o56)), (10690, oc 3 (List.map (ti) r69))] ⟨c1, atM (by simp) (by first | omega | (simp only [tlL]; omega) | (simp; omega)), rfl, (F_s_l6Of_W (gt o29b v13 0) x0 x1 r69 r69b c2), WkT.refl _, WkT.refl _, WkT.refl _, by decide, trivial⟩ ?_
           obtain ⟨J5, hJ5, h⟩ := jn_some h
           refine WP.joinA (fun (zz : Bool) => ⟨[2028, 2029, 2055, 2056], [(15, vb zz), (13, vi v13), (12, vo 2056 (List.length o56)), (11, vo 2055 (List.length o55)), (10, vi v10), (8, vo 2029 (List.length o29b)), (7, vo 2028 (List.length o28b)), (4, V.t (T.nils)), (0, vi x0), (1, vi x1)], [(2028, oc 3 (List.map (ti) o28b)), (2029, oc 3 (List.map (ti) o29b)), (2055, oc 3 (List.map (ti) o55)), (2056, oc 3 (List.map (ti) o56))]⟩) (fun zz => J5 zz = some y0) ?_ ?_
           ·refine WP.sn tm [] [] [2014, 10690, 2028, 2029, 2055, 2056] [(16, vi 1), (15, vb false), (14, V.ref 2014 0), (13, vi v13), (12, vo 2056 (List.length o56)), (11, vo 2055 (List.length o55)), (10, vi v10), (8, vo 2029 (List.length o29b)), (7, vo 2028 (List.length o28b)), (4, V.t (T.nils)), (0, vi x0), (1, vi x1)] [(2014, ov 26 [vo 10690 (List.length r69), vi r69b]), (2028, oc 3 (List.map (ti) o28b)), (2029, oc 3 (List.map (ti) o29b)), (2055, oc 3 (List.map (ti) o55)), (2056, oc 3 (List.map (ti) o56)), (10690, oc 3 (List.map (ti) r69))] trivial ?_
            refine WP.block ?_
            refine WP.lp (α := Nat × Int × Bool) (fun zz => ⟨[2014, 2028, 2029, 2055, 2056, 10690], [(16, vi zz.2.1), (15, vb zz.2.2), (14, V.ref 2014 0), (13, vi v13), (12, vo 2056 (List.length o56)), (11, vo 2055 (List.length o55)), (10, vi v10), (8, vo 2029 (List.length o29b)), (7, vo 2028 (List.length o28b)), (4, V.t (T.nils)), (0, vi x0), (1, vi x1)], [(2014, ov 26 [vo 10690 (List.length r69), vi r69b]), (2028, oc 3 (List.map (ti) o28b)), (2029, oc 3 (List.map (ti) o29b)), (2055, oc 3 (List.map (ti) o55)), (2056, oc 3 (List.map (ti) o56)), (10690, oc 3 (List.map (ti) r69))]⟩) (fun zz => F_s6N_L5 x0 o28b r69 r69b J5 zz.1 zz.2.1 zz.2.2 = some y0) (fun zz => zz.1) (fuel, (1 : Int), false) h ?_
            rintro ⟨n, v16, v15⟩ h0
            have h := (show F_s6N_L5 x0 o28b r69 r69b J5 n v16 v15 = some y0 from h0)
            rcases n with _ | n
            ·rw [F_s6N_L5] at h; cases h
            ·rw [F_s6N_L5] at h
             refine WP.seq ?_
             obtain ⟨J6, hJ6, h⟩ := jn_some h
             refine WP.joinA (fun (zz : Bool) => ⟨[2014, 2028, 2029, 2055, 2056, 10690], [(76, vb zz), (16, vi v16), (15, vb v15), (14, V.ref 2014 0), (13, vi v13), (12, vo 2056 (List.length o56)), (11, vo 2055 (List.length o55)), (10, vi v10), (8, vo 2029 (List.length o29b)), (7, vo 2028 (List.length o28b)), (4, V.t (T.nils)), (0, vi x0), (1, vi x1)], [(2014, ov 26 [vo 10690 (List.length r69), vi r69b]), (2028, oc 3 (List.map (ti) o28b)), (2029, oc 3 (List.map (ti) o29b)), (2055, oc 3 (List.map (ti) o55)), (2056, oc 3 (List.map (ti) o56)), (10690, oc 3 (List.map (ti) r69))]⟩) (fun zz => J6 zz = some y0) ?_ ?_
             ·rcases ite_some h with ⟨h6, h⟩ | ⟨h6, h⟩
              ·refine WP.qk tm [(72, An.b true)] [(True), ((decide (v16 < x0)) = true)] [(76, vb (!v15)), (16, vi v16), (15, vb v15), (14, V.ref 2014 0), (13, vi v13), (12, vo 2056 (List.length o56)), (11, vo 2055 (List.length o55)), (10, vi v10), (8, vo 2029 (List.length o29b)), (7, vo 2028 (List.length o28b)), (4, V.t (T.nils)), (0, vi x0), (1, vi x1)] [(2014, ov 26 [vo 10690 (List.length r69), vi r69b]), (2028, oc 3 (List.map (ti) o28b)), (2029, oc 3 (List.map (ti) o29b)), (2055, oc 3 (List.map (ti) o55)), (2056, oc 3 (List.map (ti) o56)), (10690, oc 3 (List.map (ti) r69))] ⟨trivial, h6, trivial⟩ ?_
               exact ⟨(!v15), h, rfl⟩
              ·refine WP.qk tm [(72, An.b false)] [(True), ((decide (v16 < x0)) = false)] [(76, vb false), (16, vi v16), (15, vb v15), (14, V.ref 2014 0), (13, vi v13), (12, vo 2056 (List.length o56)), (11, vo 2055 (List.length o55)), (10, vi v10), (8, vo 2029 (List.length o29b)), (7, vo 2028 (List.length o28b)), (4, V.t (T.nils)), (0, vi x0), (1, vi x1)] [(2014, ov 26 [vo 10690 (List.length r69), vi r69b]), (2028, oc 3 (List.map (ti) o28b)), (2029, oc 3 (List.map (ti) o29b)), (2055, oc 3 (List.map (ti) o55)), (2056, oc 3 (List.map (ti) o56)), (10690, oc 3 (List.map (ti) r69))] ⟨trivial, h6, trivial⟩ ?_
               exact ⟨(false), h, rfl⟩
             ·intro v76 h0
              have h := (show J6 v76 = some y0 from h0)
              rw [hJ6] at h
              rcases ite_some h with ⟨h7, h⟩ | ⟨h7, h⟩
              ·refine WP.yes h7 rfl ?_
               refine WP.pk tm [] [] [(16, vi v16), (15, vb v15), (14, V.ref 2014 0), (13, vi v13), (12, vo 2056 (List.length o56)), (11, vo 2055 (List.length o55)), (10, vi v10), (8, vo 2029 (List.length o29b)), (7, vo 2028 (List.length o28b)), (4, V.t (T.nils)), (0, vi x0), (1, vi x1)] [(2014, ov 26 [vo 10690 (List.length r69), vi r69b]), (2028, oc 3 (List.map (ti) o28b)), (2029, oc 3 (List.map (ti) o29b)), (2055, oc 3 (List.map (ti) o55)), (2056, oc 3 (List.map (ti) o56)), (10690, oc 3 (List.map (ti) r69))] trivial ?_
               refine WP.seq ?_
               refine WP.block ?_
               obtain ⟨r82, r82b, c3, h⟩ := bnd2_some h
               obtain ⟨r83, c4, h⟩ := bnd1_some h
               obtain ⟨c5, h⟩ := chk_some h
               rcases ite_some h with ⟨h8, h⟩ | ⟨h8, h⟩
               ·obtain ⟨r91, r91b, c6, h⟩ := bnd2_some h
                obtain ⟨r92, c7, h⟩ := bnd1_some h
                obtain ⟨c8, h⟩ := chk_some h
                refine WP.pn tm [(82, An.callG [(9000, 10820)] [V.t (T.agg [tl r69, ti r69b]), vi v16, vb true] [] (V.agg [vo 9000 (List.length r82), vi r82b]) [(9000, oc 3 (List.map (ti) r82))]), (83, An.call (ti r83)), (85, An.v (ti (gt o28b r83 0))), (86, An.b true), (91, An.callG [(9000, 10910)] [V.t (T.agg [tl r69, ti r69b]), vi v16, vb false] [] (V.agg [vo 9000 (List.length r91), vi r91b]) [(9000, oc 3 (List.map (ti) r91))]), (92, An.call (ti r92)), (94, An.v (ti (gt o28b r92 0)))] [(0 + 2 ≤ 2), (CG Tryz.prog 92 [V.t (T.agg [tl r69, ti r69b]), vi v16, vb true] [] (V.agg [vo 9000 (List.length r82), vi r82b]) [(9000, oc 3 (List.map (ti) r82))]), ((V.agg [vo 9000 (List.length r82), vi r82b]).flat = true), (flatO [(9000, oc 3 (List.map (ti) r82))] = true), (List.length (List.map (ti) r69) = (List.length r69) * 1), (WkT (T.agg [tl r69, ti r69b]) (T.agg [tl r69, ti r69b])), (WkT (ti v16) (ti v16)), (WkT (tb true) (tb true)), (C Tryz.prog 86 [T.agg [tl r82, ti r82b]] (ti r83)), (List.length (List.map (ti) r82) = (List.length r82) * 1), (ib r83 o28b), ((List.map (ti) o28b : List T)[(Int.toNat r83) * 1]? = some (ti (gt o28b r83 0))), (rf (ti (gt o28b r83 0))), (True), ((decide ((gt o28b r83 0) ≥ (0 : Int))) = true), (0 + 2 ≤ 2), (CG Tryz.prog 92 [V.t (T.agg [tl r69, ti r69b]), vi v16, vb false] [] (V.agg [vo 9000 (List.length r91), vi r91b]) [(9000, oc 3 (List.map (ti) r91))]), ((V.agg [vo 9000 (List.length r91), vi r91b]).flat = true), (flatO [(9000, oc 3 (List.map (ti) r91))] = true), (List.length (List.map (ti) r69) = (List.length r69) * 1), (WkT (T.agg [tl r69, ti r69b]) (T.agg [tl r69, ti r69b])), (WkT (ti v16) (ti v16)), (WkT (tb false) (tb false)), (C Tryz.prog 86 [T.agg [tl r91, ti r91b]] (ti r92)), (List.length (List.map (ti) r91) = (List.length r91) * 1), (ib r92 o28b), ((List.map (ti) o28b : List T)[(Int.toNat r92) * 1]? = some (ti (gt o28b r92 0))), (rf (ti (gt o28b r92 0))), (True)] [10910, 10820, 2014, 2028, 2029, 2055, 2056, 10690] [(15, vb (decide ((gt o28b r92 0) ≥ (0 : Int)))), (16, vi v16), (14, V.ref 2014 0), (13, vi v13), (12, vo 2056 (List.length o56)), (11, vo 2055 (List.length o55)), (10, vi v10), (8, vo 2029 (List.length o29b)), (7, vo 2028 (List.length o28b)), (4, V.t (T.nils)), (0, vi x0), (1, vi x1)] [(2014, ov 26 [vo 10690 (List.length r69), vi r69b]), (2028, oc 3 (List.map (ti) o28b)), (2029, oc 3 (List.map (ti) o29b)), (2055, oc 3 (List.map (ti) o55)), (2056, oc 3 (List.map (ti) o56)), (10690, oc 3 (List.map (ti) r69))] ⟨by decide, (F_s_l6After_W r69 r69b v16 true r82 r82b c3), by first | rfl | (simp [V.flats, V.flat, T.flats, T.flat, flats_app, flats_int, flats_bool, flats_str, flats_node, flats_asked, flats_pair, flats_recs, flats_fact, flatEs_mpB, flatEs_mpI, flatEs_mp3]; done), by first | rfl | (simp [flatO, Tl.Obj.flat, V.flats, V.flat, T.flats, T.flat, flats_app, flats_int, flats_bool, flats_str, flats_node, flats_asked, flats_pair, flats_recs, flats_fact, flatEs_mpB, flatEs_mpI, flatEs_mp3]; done), by first | rfl | omega | (simp only [tlL] <;> omega) | (simp <;> omega) | (simp [] <;> omega), WkT.refl _, WkT.refl _, WkT.refl _, (F_s_l6Key_W r82 r82b r83 c4), by first | rfl | omega | (simp only [tlL] <;> omega) | (simp <;> omega) | (simp [] <;> omega), c5, atM (by simp) (by first | omega | (simp only [tlL]; omega) | (simp; omega)), rfl, trivial, h8, by decide, (F_s_l6After_W r69 r69b v16 false r91 r91b c6), by first | rfl | (simp [V.flats, V.flat, T.flats, T.flat, flats_app, flats_int, flats_bool, flats_str, flats_node, flats_asked, flats_pair, flats_recs, flats_fact, flatEs_mpB, flatEs_mpI, flatEs_mp3]; done), by first | rfl | (simp [flatO, Tl.Obj.flat, V.flats, V.flat, T.flats, T.flat, flats_app, flats_int, flats_bool, flats_str, flats_node, flats_asked, flats_pair, flats_recs, flats_fact, flatEs_mpB, flatEs_mpI, flatEs_mp3]; done), by first | rfl | omega | (simp only [tlL] <;> omega) | (simp <;> omega) | (simp [] <;> omega), WkT.refl _, WkT.refl _, WkT.refl _, (F_s_l6Key_W r91 r91b r92 c7), by first | rfl | omega | (simp only [tlL] <;> omega) | (simp <;> omega) | (simp [] <;> omega), c8, atM (by simp) (by first | omega | (simp only [tlL]; omega) | (simp; omega)), rfl, trivial, trivial⟩ ?_
                obtain ⟨c9, h⟩ := chk_some h
                refine WP.qk tm [(78, An.v (ti (v16 + 1)))] [(True), (wr (v16 + 1))] [(16, vi (v16 + 1)), (15, vb (decide ((gt o28b r92 0) ≥ (0 : Int)))), (14, V.ref 2014 0), (13, vi v13), (12, vo 2056 (List.length o56)), (11, vo 2055 (List.length o55)), (10, vi v10), (8, vo 2029 (List.length o29b)), (7, vo 2028 (List.length o28b)), (4, V.t (T.nils)), (0, vi x0), (1, vi x1)] [(2014, ov 26 [vo 10690 (List.length r69), vi r69b]), (2028, oc 3 (List.map (ti) o28b)), (2029, oc 3 (List.map (ti) o29b)), (2055, oc 3 (List.map (ti) o55)), (2056, oc 3 (List.map (ti) o56)), (10690, oc 3 (List.map (ti) r69))] ⟨trivial, wrapI c9, trivial⟩ ?_
                exact ⟨(n, (v16 + 1), decide ((gt o28b r92 0) ≥ (0 : Int))), h, Nat.lt_succ_self _, rfl⟩
               ·refine WP.pn tm [(82, An.callG [(9000, 10820)] [V.t (T.agg [tl r69, ti r69b]), vi v16, vb true] [] (V.agg [vo 9000 (List.length r82), vi r82b]) [(9000, oc 3 (List.map (ti) r82))]), (83, An.call (ti r83)), (85, An.v (ti (gt o28b r83 0))), (86, An.b false)] [(0 + 2 ≤ 2), (CG Tryz.prog 92 [V.t (T.agg [tl r69, ti r69b]), vi v16, vb true] [] (V.agg [vo 9000 (List.length r82), vi r82b]) [(9000, oc 3 (List.map (ti) r82))]), ((V.agg [vo 9000 (List.length r82), vi r82b]).flat = true), (flatO [(9000, oc 3 (List.map (ti) r82))] = true), (List.length (List.map (ti) r69) = (List.length r69) * 1), (WkT (T.agg [tl r69, ti r69b]) (T.agg [tl r69, ti r69b])), (WkT (ti v16) (ti v16)), (WkT (tb true) (tb true)), (C Tryz.prog 86 [T.agg [tl r82, ti r82b]] (ti r83)), (List.length (List.map (ti) r82) = (List.length r82) * 1), (ib r83 o28b), ((List.map (ti) o28b : List T)[(Int.toNat r83) * 1]? = some (ti (gt o28b r83 0))), (rf (ti (gt o28b r83 0))), (True), ((decide ((gt o28b r83 0) ≥ (0 : Int))) = false)] [10820, 2014, 2028, 2029, 2055, 2056, 10690] [(15, vb false), (16, vi v16), (14, V.ref 2014 0), (13, vi v13), (12, vo 2056 (List.length o56)), (11, vo 2055 (List.length o55)), (10, vi v10), (8, vo 2029 (List.length o29b)), (7, vo 2028 (List.length o28b)), (4, V.t (T.nils)), (0, vi x0), (1, vi x1)] [(2014, ov 26 [vo 10690 (List.length r69), vi r69b]), (2028, oc 3 (List.map (ti) o28b)), (2029, oc 3 (List.map (ti) o29b)), (2055, oc 3 (List.map (ti) o55)), (2056, oc 3 (List.map (ti) o56)), (10690, oc 3 (List.map (ti) r69))] ⟨by decide, (F_s_l6After_W r69 r69b v16 true r82 r82b c3), by first | rfl | (simp [V.flats, V.flat, T.flats, T.flat, flats_app, flats_int, flats_bool, flats_str, flats_node, flats_asked, flats_pair, flats_recs, flats_fact, flatEs_mpB, flatEs_mpI, flatEs_mp3]; done), by first | rfl | (simp [flatO, Tl.Obj.flat, V.flats, V.flat, T.flats, T.flat, flats_app, flats_int, flats_bool, flats_str, flats_node, flats_asked, flats_pair, flats_recs, flats_fact, flatEs_mpB, flatEs_mpI, flatEs_mp3]; done), by first | rfl | omega | (simp only [tlL] <;> omega) | (simp <;> omega) | (simp [] <;> omega), WkT.refl _, WkT.refl _, WkT.refl _, (F_s_l6Key_W r82 r82b r83 c4), by first | rfl | omega | (simp only [tlL] <;> omega) | (simp <;> omega) | (simp [] <;> omega), c5, atM (by simp) (by first | omega | (simp only [tlL]; omega) | (simp; omega)), rfl, trivial, h8, trivial⟩ ?_
                obtain ⟨c6, h⟩ := chk_some h
                refine WP.qk tm [(78, An.v (ti (v16 + 1)))] [(True), (wr (v16 + 1))] [(16, vi (v16 + 1)), (15, vb false), (14, V.ref 2014 0), (13, vi v13), (12, vo 2056 (List.length o56)), (11, vo 2055 (List.length o55)), (10, vi v10), (8, vo 2029 (List.length o29b)), (7, vo 2028 (List.length o28b)), (4, V.t (T.nils)), (0, vi x0), (1, vi x1)] [(2014, ov 26 [vo 10690 (List.length r69), vi r69b]), (2028, oc 3 (List.map (ti) o28b)), (2029, oc 3 (List.map (ti) o29b)), (2055, oc 3 (List.map (ti) o55)), (2056, oc 3 (List.map (ti) o56)), (10690, oc 3 (List.map (ti) r69))] ⟨trivial, wrapI c6, trivial⟩ ?_
                exact ⟨(n, (v16 + 1), false), h, Nat.lt_succ_self _, rfl⟩
              ·refine WP.no h7 rfl ?_
               refine WP.eq tm [] 8 [] [(15, vb v15), (13, vi v13), (12, vo 2056 (List.length o56)), (11, vo 2055 (List.length o55)), (10, vi v10), (8, vo 2029 (List.length o29b)), (7, vo 2028 (List.length o28b)), (4, V.t (T.nils)), (0, vi x0), (1, vi x1)] [(2028, oc 3 (List.map (ti) o28b)), (2029, oc 3 (List.map (ti) o29b)), (2055, oc 3 (List.map (ti) o55)), (2056, oc 3 (List.map (ti) o56))] trivial ?_
               exact ⟨(v15), h, rfl⟩
           ·intro v15 h0
            have h := (show J5 v15 = some y0 from h0)
            rw [hJ5] at h
            refine WP.sk tm [] [] [(97, vb v15), (13, vi v13), (12, vo 2056 (List.length o56)), (11, vo 2055 (List.length o55)), (10, vi v10), (8, vo 2029 (List.length o29b)), (7, vo 2028 (List.length o28b)), (4, V.t (T.nils)), (0, vi x0), (1, vi x1)] [(2028, oc 3 (List.map (ti) o28b)), (2029, oc 3 (List.map (ti) o29b)), (2055, oc 3 (List.map (ti) o55)), (2056, oc 3 (List.map (ti) o56))] trivial ?_
            rcases ite_some h with ⟨h9, h⟩ | ⟨h9, h⟩
            ·refine WP.yes h9 rfl ?_
             obtain ⟨c3, h⟩ := chk_some h
             refine WP.qk tm [(102, An.v (ti (gt o29b v13 0))), (103, An.fz), (104, An.id 2104)] [(ib v13 o29b), ((List.map (ti) o29b : List T)[(Int.toNat v13) * 1]? = some (ti (gt o29b v13 0))), (rf (ti (gt o29b v13 0))), ((1 = 1 ∧ 0 + 1 ≤ 1) ∧ True), (1 = 1 * 1), (True), (List.length (List.map (ti) o55) = (List.length o55) * 1), ((((List.length o55) + 1) * 8 ≤ 140737488355328 ∧ (List.length o55) + 1 ≤ maxLen))] [(11, vo 2104 ((List.length o55) + 1)), (13, vi v13), (12, vo 2056 (List.length o56)), (10, vi v10), (8, vo 2029 (List.length o29b)), (7, vo 2028 (List.length o28b)), (4, V.t (T.nils)), (0, vi x0), (1, vi x1)] [(2028, oc 3 (List.map (ti) o28b)), (2029, oc 3 (List.map (ti) o29b)), (2056, oc 3 (List.map (ti) o56)), (2104, oc 3 ((List.map (ti) o55) ++ [ti (gt o29b v13 0)]))] ⟨c1, atM (by simp) (by first | omega | (simp only [tlL]; omega) | (simp; omega)), rfl, ⟨⟨by first | rfl | (simp; done) | (simp []; done) | omega, by first | decide | (simp; done) | (simp []; done) | omega | (simp only [tlL]; omega) | (simp; omega)⟩, trivial⟩, by decide, trivial, by first | rfl | omega | (simp only [tlL] <;> omega) | (simp <;> omega) | (simp [] <;> omega), c3, trivial⟩ ?_
             exact ⟨(o56, o55 ++ [(gt o29b v13 0)]), h, (by first | rfl | (simp only [tlS, tl, vl, vo, oc, ov, tbl, vbl, ty, vy] <;> rfl) | (simp <;> omega) | (simp []; done) | (rw [List.take_of_length_le (by simp [])] <;> rfl) | (simp [List.take_of_length_le]; done))⟩
            ·refine WP.no h9 rfl ?_
             obtain ⟨c3, h⟩ := chk_some h
             refine WP.nk tm [(109, An.v (ti (gt o29b v13 0))), (110, An.fz), (111, An.id 2111)] [(2028, 2028), (2029, 2029), (2111, 2056), (2055, 2104)] .normal [(ib v13 o29b), ((List.map (ti) o29b : List T)[(Int.toNat v13) * 1]? = some (ti (gt o29b v13 0))), (rf (ti (gt o29b v13 0))), ((1 = 1 ∧ 0 + 1 ≤ 1) ∧ True), (1 = 1 * 1), (True), (List.length (List.map (ti) o56) = (List.length o56) * 1), ((((List.length o56) + 1) * 8 ≤ 140737488355328 ∧ (List.length o56) + 1 ≤ maxLen))] [(11, vo 2104 (List.length o55)), (13, vi v13), (12, vo 2056 ((List.length o56) + 1)), (10, vi v10), (8, vo 2029 (List.length o29b)), (7, vo 2028 (List.length o28b)), (4, V.t (T.nils)), (0, vi x0), (1, vi x1)] [(2028, oc 3 (List.map (ti) o28b)), (2029, oc 3 (List.map (ti) o29b)), (2056, oc 3 ((List.map (ti) o56) ++ [ti (gt o29b v13 0)])), (2104, oc 3 (List.map (ti) o55))] ⟨c1, atM (by simp) (by first | omega | (simp only [tlL]; omega) | (simp; omega)), rfl, ⟨⟨by first | rfl | (simp; done) | (simp []; done) | omega, by first | decide | (simp; done) | (simp []; done) | omega | (simp only [tlL]; omega) | (simp; omega)⟩, trivial⟩, by decide, trivial, by first | rfl | omega | (simp only [tlL] <;> omega) | (simp <;> omega) | (simp [] <;> omega), c3, trivial⟩ ?_
             exact ⟨(o56 ++ [(gt o29b v13 0)], o55), h, (by first | rfl | (simp only [tlS, tl, vl, vo, oc, ov, tbl, vbl, ty, vy] <;> rfl) | (simp <;> omega) | (simp []; done) | (rw [List.take_of_length_le (by simp [])] <;> rfl) | (simp [List.take_of_length_le]; done))⟩
          ·rintro ⟨o56b, o104⟩ h0
           have h := (show J4 o56b o104 = some y0 from h0)
           rw [hJ4] at h
           obtain ⟨c1, h⟩ := chk_some h
           refine WP.nk tm [(62, An.v (ti (v13 + 1)))] [(2028, 2028), (2029, 2029), (2104, 2055), (2056, 2056)] .normal [(True), (wr (v13 + 1))] [(13, vi (v13 + 1)), (12, vo 2056 (List.length o56b)), (11, vo 2055 (List.length o104)), (10, vi v10), (8, vo 2029 (List.length o29b)), (7, vo 2028 (List.length o28b)), (4, V.t (T.nils)), (0, vi x0), (1, vi x1)] [(2028, oc 3 (List.map (ti) o28b)), (2029, oc 3 (List.map (ti) o29b)), (2055, oc 3 (List.map (ti) o104)), (2056, oc 3 (List.map (ti) o56b))] ⟨trivial, wrapI c1, trivial⟩ ?_
           exact ⟨(n, o104, o56b, (v13 + 1)), h, Nat.lt_succ_self _, rfl⟩
         ·refine WP.no h5 rfl ?_
          refine WP.eq tm [] 6 [] [(12, vo 2056 (List.length o56)), (11, vo 2055 (List.length o55)), (10, vi v10), (8, vo 2029 (List.length o29b)), (7, vo 2028 (List.length o28b)), (4, V.t (T.nils)), (0, vi x0), (1, vi x1)] [(2028, oc 3 (List.map (ti) o28b)), (2029, oc 3 (List.map (ti) o29b)), (2055, oc 3 (List.map (ti) o55)), (2056, oc 3 (List.map (ti) o56))] trivial ?_
          exact ⟨(o55, o56), h, rfl⟩
       ·rintro ⟨o55, o56⟩ h0
        have h := (show J3 o55 o56 = some y0 from h0)
        rw [hJ3] at h
        obtain ⟨J3, hJ3, h⟩ := jn_some h
        refine WP.joinA (fun (zz : (List Int)) => ⟨[2028, 2029, 2056], [(12, vo 2056 (List.length o56)), (10, vi v10), (8, vo 2029 (List.length o29b)), (7, vo 2028 (List.length zz)), (4, V.t (T.nils)), (0, vi x0), (1, vi x1)], [(2028, oc 3 (List.map (ti) zz)), (2029, oc 3 (List.map (ti) o29b)), (2056, oc 3 (List.map (ti) o56))]⟩) (fun zz => J3 zz = some y0) ?_ ?_
        ·refine WP.sk tm [] [] [(17, vi 0), (12, vo 2056 (List.length o56)), (11, vo 2055 (List.length o55)), (10, vi v10), (8, vo 2029 (List.length o29b)), (7, vo 2028 (List.length o28b)), (4, V.t (T.nils)), (0, vi x0), (1, vi x1)] [(2028, oc 3 (List.map (ti) o28b)), (2029, oc 3 (List.map (ti) o29b)), (2055, oc 3 (List.map (ti) o55)), (2056, oc 3 (List.map (ti) o56))] trivial ?_
         refine WP.block ?_
         refine WP.lp (α := Nat × (List Int) × Int) (fun zz => ⟨[2028, 2029, 2055, 2056], [(17, vi zz.2.2), (12, vo 2056 (List.length o56)), (11, vo 2055 (List.length o55)), (10, vi v10), (8, vo 2029 (List.length o29b)), (7, vo 2028 (List.length zz.2.1)), (4, V.t (T.nils)), (0, vi x0), (1, vi x1)], [(2028, oc 3 (List.map (ti) zz.2.1)), (2029, oc 3 (List.map (ti) o29b)), (2055, oc 3 (List.map (ti) o55)), (2056, oc 3 (List.map (ti) o56))]⟩) (fun zz => F_s6N_L6 v10 o55 J3 zz.1 zz.2.1 zz.2.2 = some y0) (fun zz => zz.1) (fuel, o28b, (0 : Int)) h ?_
         rintro ⟨n, o28c, v17⟩ h0
         have h := (show F_s6N_L6 v10 o55 J3 n o28c v17 = some y0 from h0)
         rcases n with _ | n
         ·rw [F_s6N_L6] at h; cases h
         ·rw [F_s6N_L6] at h
          refine WP.seq ?_
          refine WP.sk tm [] [(True)] [(115, vb (decide (v17 < (ln o55)))), (17, vi v17), (12, vo 2056 (List.length o56)), (11, vo 2055 (List.length o55)), (10, vi v10), (8, vo 2029 (List.length o29b)), (7, vo 2028 (List.length o28c)), (4, V.t (T.nils)), (0, vi x0), (1, vi x1)] [(2028, oc 3 (List.map (ti) o28c)), (2029, oc 3 (List.map (ti) o29b)), (2055, oc 3 (List.map (ti) o55)), (2056, oc 3 (List.map (ti) o56))] ⟨trivial, trivial⟩ ?_
          rcases ite_some h with ⟨h10, h⟩ | ⟨h10, h⟩
          ·refine WP.yes h10 rfl ?_
           refine WP.pk tm [] [] [(17, vi v17), (12, vo 2056 (List.length o56)), (11, vo 2055 (List.length o55)), (10, vi v10), (8, vo 2029 (List.length o29b)), (7, vo 2028 (List.length o28c)), (4, V.t (T.nils)), (0, vi x0), (1, vi x1)] [(2028, oc 3 (List.map (ti) o28c)), (2029, oc 3 (List.map (ti) o29b)), (2055, oc 3 (List.map (ti) o55)), (2056, oc 3 (List.map (ti) o56))] trivial ?_
           refine WP.seq ?_
           refine WP.block ?_
           obtain ⟨c1, c2, h⟩ := chk2 h
           refine WP.path tab_ok mixed [(122, An.v (ti (List.getD o55 (Int.toNat v17) 0)))] [.keep [17, 12, 11, 10, 8, 7, 4, 0, 1], .keepO [2028, 2029, 2055, 2056]] (ps := [((0 ≤ v17 ∧ v17 < ((List.length o55 : Nat) : Int))), ((List.map (T.int .i64) o55 : List T)[(Int.toNat v17) * 1]? = some (ti (List.getD o55 (Int.toNat v17) 0))), (ti (List.getD o55 (Int.toNat v17) 0) = ti (List.getD o55 (Int.toNat v17) 0)), ((0 ≤ (List.getD o55 (Int.toNat v17) 0) ∧ (List.getD o55 (Int.toNat v17) 0) < ((List.length o28c : Nat) : Int))), ((Int.toNat (List.getD o55 (Int.toNat v17) 0)) * 1 < List.length (List.map (T.int .i64) o28c))]) (e := .normal) (σ' := ⟨[2028, 2029, 2055, 2056], [(17, vi v17), (12, vo 2056 (List.length o56)), (11, vo 2055 (List.length o55)), (10, vi v10), (8, vo 2029 (List.length o29b)), (7, vo 2028 (List.length o28c)), (4, V.t (T.nils)), (0, vi x0), (1, vi x1)], [(2028, oc 3 (List.set (List.map (T.int .i64) o28c) ((Int.toNat (List.getD o55 (Int.toNat v17) 0)) * 1) (ti v10))), (2029, oc 3 (List.map (T.int .i64) o29b)), (2055, oc 3 (List.map (T.int .i64) o55)), (2056, oc 3 (List.map (T.int .i64) o56))]⟩) (by as_aux_lemma => kernel_rfl) ⟨c1, atM (by simp) (by first | omega | (simp only [tlL]; omega) | (simp; omega)), rfl, c2, by first | decide | omega | (simp only [tlL] <;> omega) | (simp <;> omega) | (simp [] <;> omega), trivial⟩ ?_
           obtain ⟨c3, h⟩ := chk_some h
           refine WP.qk tm [(117, An.v (ti (v17 + 1)))] [(True), (wr (v17 + 1))] [(17, vi (v17 + 1)), (12, vo 2056 (List.length o56)), (11, vo 2055 (List.length o55)), (10, vi v10), (8, vo 2029 (List.length o29b)), (7, vo 2028 (List.length o28c)), (4, V.t (T.nils)), (0, vi x0), (1, vi x1)] [(2028, oc 3 (List.set (List.map (ti) o28c) ((Int.toNat (gt o55 v17 0)) * 1) (ti v10))), (2029, oc 3 (List.map (ti) o29b)), (2055, oc 3 (List.map (ti) o55)), (2056, oc 3 (List.map (ti) o56))] ⟨trivial, wrapI c3, trivial⟩ ?_
           exact ⟨(n, List.set o28c (Int.toNat (gt o55 v17 0)) v10, (v17 + 1)), h, Nat.lt_succ_self _, (by first | rfl | (simp only [tlS, tl, vl, vo, oc, ov, tbl, vbl, ty, vy] <;> rfl) | (simp <;> omega) | (simp []; done) | (rw [List.take_of_length_le (by simp [])] <;> rfl) | (simp [List.take_of_length_le]; done))⟩
          ·refine WP.no h10 rfl ?_
           refine WP.eq tm [] 10 [] [(12, vo 2056 (List.length o56)), (10, vi v10), (8, vo 2029 (List.length o29b)), (7, vo 2028 (List.length o28c)), (4, V.t (T.nils)), (0, vi x0), (1, vi x1)] [(2028, oc 3 (List.map (ti) o28c)), (2029, oc 3 (List.map (ti) o29b)), (2056, oc 3 (List.map (ti) o56))] trivial ?_
           exact ⟨(o28c), h, rfl⟩
        ·intro o28c h0
         have h := (show J3 o28c = some y0 from h0)
         rw [hJ3] at h
         refine WP.qk tm [] [] [(8, vo 2056 (List.length o56)), (10, vi v10), (7, vo 2028 (List.length o28c)), (4, V.t (T.nils)), (0, vi x0), (1, vi x1)] [(2028, oc 3 (List.map (ti) o28c)), (2056, oc 3 (List.map (ti) o56))] trivial ?_
         exact ⟨(o28c, o56), h, rfl⟩
      ·rintro ⟨o28c, o56⟩ h0
       have h := (show J2 o28c o56 = some y0 from h0)
       rw [hJ2] at h
       obtain ⟨c1, h⟩ := chk_some h
       refine WP.nk tm [(54, An.v (ti (v10 + 1)))] [(2028, 2028), (2056, 2029)] .normal [(True), (wr (v10 + 1))] [(10, vi (v10 + 1)), (8, vo 2029 (List.length o56)), (7, vo 2028 (List.length o28c)), (4, V.t (T.nils)), (0, vi x0), (1, vi x1)] [(2028, oc 3 (List.map (ti) o28c)), (2029, oc 3 (List.map (ti) o56))] ⟨trivial, wrapI c1, trivial⟩ ?_
       exact ⟨(n, o28c, o56, (v10 + 1)), h, Nat.lt_succ_self _, rfl⟩
     ·refine WP.no h4 rfl ?_
      refine WP.eq tm [] 4 [] [(7, vo 2028 (List.length o28b)), (4, V.t (T.nils))] [(2028, oc 3 (List.map (ti) o28b))] trivial ?_
      exact ⟨(o28b), h, rfl⟩
   ·intro o28b h0
    have h := (show J1 o28b = some y0 from h0)
    rw [hJ1] at h
    have h := Option.some.inj h
    subst h
    exact WP.pathG tab_ok mixed [] [.keep [4], .keepO [2028], .names [(2028, 9000)]] [9000] _ (r' := vo 9000 (List.length o28b)) (ps := []) (r := vo 9000 (List.length o28b)) (N := [9000]) (O := [(9000, oc 3 (List.map (ti) o28b))]) [] (by as_aux_lemma => kernel_rfl) trivial ⟨rfl, trivial⟩ rfl rfl (fun _ h => h)
theorem F_s6N_W_C (x0 : Int) (x1 : Int) (y0 : List Int) (h : F_s6N x0 x1 = some y0) : C Tryz.prog 85 [ti x0, ti x1] (tl y0) :=
 CG.toC (ps := [(List.length (List.map (ti) y0) = (List.length y0) * 1)]) (F_s6N_W  x0 x1 y0 h) (by rfl) ⟨by first | rfl | omega | (simp <;> omega) | (simp [hl] <;> omega), trivial⟩
theorem F_s_LessNeed_W (x0 : List Int) (x1 : Int) (y0 : Int) (y1 : Bool) (h : F_s_LessNeed x0 x1 = some (y0, y1)) : C Tryz.prog 27 [T.agg [tl x0, ti x1]] (T.tup [ti y0, tb y1]) := by
 unfold F_s_LessNeed at h
 refine C.intro (tab := tab) tab_ok (fn := Tryz.f27) Tryz.func27 (by kernel_rfl) rfl (Nat.le_of_ble_eq_true rfl) ?_
 refine WP.sk tm [(1, An.fz)] [] [(3, vb false), (2, vi 0), (1, V.t (T.ptr [tl x0, ti x1]))] [] trivial ?_
 refine WP.seq ?_
 refine WP.seq ?_
 obtain ⟨c0, h⟩ := chk_some h
 refine WP.pk tm [(5, An.call (tb (shortN x0 x1)))] [(2 ≤ 2), (C Tryz.prog 84 [T.agg [tl x0, ti x1]] (tb (shortN x0 x1)))] [(6, vb (!(shortN x0 x1))), (3, vb false), (2, vi 0), (1, V.t (T.ptr [tl x0, ti x1]))] [] ⟨by decide, (l6Short_C x0 x1 c0), trivial⟩ ?_
 rcases ite_some h with ⟨h1, h⟩ | ⟨h1, h⟩
 ·refine WP.yes h1 rfl ?_
  simp only [Option.some.injEq, Prod.mk.injEq] at h
  obtain ⟨rfl, rfl⟩ := h
  exact WP.pathW tab_ok mixed [] _ (ps := []) (r := T.tup [ti 0, tb false]) (by kernel_rfl) trivial (WkT.eq (y := T.tup [ti 0, tb false]) (WkT.refl _) (by first | rfl | (simp only [tlS, tl, vl, vo, oc, ov, tbl, vbl, ty, vy] <;> rfl) | (simp <;> omega) | (simp []; done) | (rw [List.take_of_length_le (by simp [])] <;> rfl) | (simp [List.take_of_length_le]; done))) (fun _ h => h)
 ·refine WP.no h1 rfl ?_
  refine WP.pk tm [] [] [(3, vb false), (2, vi 0), (1, V.t (T.ptr [tl x0, ti x1]))] [] trivial ?_
  obtain ⟨r12, c1, h⟩ := bnd1_some h
  obtain ⟨r14, c2, h⟩ := bnd1_some h
  obtain ⟨c3, h⟩ := chk_some h
  simp only [Option.some.injEq, Prod.mk.injEq] at h
  obtain ⟨rfl, rfl⟩ := h
  exact WP.pathW tab_ok mixed [(12, An.callG [(9000, 10120)] [vi (ln x0), vi x1] [] (vo 9000 (List.length r12)) [(9000, oc 3 (List.map (ti) r12))]), (14, An.call (ti r14)), (16, An.v (ti (gt r12 r14 0)))] _ (ps := [(True), (True), (CG Tryz.prog 85 [vi (ln x0), vi x1] [] (vo 9000 (List.length r12)) [(9000, oc 3 (List.map (ti) r12))]), (WkT (ti (ln x0)) (ti (ln x0))), (WkT (ti x1) (ti x1)), (2 ≤ 2), (C Tryz.prog 86 [T.agg [tl x0, ti x1]] (ti r14)), (ib r14 r12), ((List.map (ti) r12 : List T)[(Int.toNat r14) * 1]? = some (ti (gt r12 r14 0))), (rf (ti (gt r12 r14 0)))]) (r := T.tup [ti (gt r12 r14 0), tb true]) (by kernel_rfl) ⟨trivial, trivial, (F_s6N_W (ln x0) x1 r12 c1), WkT.refl _, WkT.refl _, by decide, (F_s_l6Key_W x0 x1 r14 c2), c3, atM (by simp) (by first | omega | (simp only [tlL]; omega) | (simp; omega)), rfl, trivial⟩ (WkT.eq (y := T.tup [ti (gt r12 r14 0), tb true]) (WkT.refl _) rfl) (fun _ h => h)
theorem F_il_best_W (x0 : List (Int × Int)) (x1 : List Int) (x2 : Int) (y0 : Int) (y1 : List (Int × Int)) (h : F_il_best x0 x1 x2 = some (y0, y1)) : CG Tryz.prog 87 [V.agg [V.mapr 500], V.t (T.agg [tl x1, ti x2])] [(500, Tl.Obj.map (mpI x0))] (vi y0) [(500, Tl.Obj.map (mpI y1))] := by
 unfold F_il_best at h
 refine CG.intro (tab := tab) tab_ok (fn := Tryz.f87) Tryz.func87 (by kernel_rfl) rfl (Nat.le_of_ble_eq_true rfl) (by kernel_rfl) ?_
 refine WP.sn tm [(2, An.id 2002), (3, An.fz)] [] [2002, 500] [(4, vi 0), (3, V.t (T.ptr [tl x1, ti x2])), (2, V.ref 2002 0)] [(500, Tl.Obj.map (mpI x0)), (2002, ov 100 [V.mapr 500])] trivial ?_
 obtain ⟨J1, hJ1, h⟩ := jn_some h
 refine WP.joinA (fun (zz : (List (Int × Int))) => ⟨[500], [(4, vi 0)], [(500, Tl.Obj.map (mpI zz))]⟩) (fun zz => J1 zz = some (y0, y1)) ?_ ?_
 ·refine WP.sn tm [] [] [2002, 500] [(5, vi 1), (4, vi 0), (3, V.t (T.ptr [tl x1, ti x2])), (2, V.ref 2002 0)] [(500, Tl.Obj.map (mpI x0)), (2002, ov 100 [V.mapr 500])] trivial ?_
  refine WP.block ?_
  refine WP.lp (α := Nat × (List (Int × Int)) × Int) (fun zz => ⟨[500, 2002], [(5, vi zz.2.2), (4, vi 0), (3, V.t (T.ptr [tl x1, ti x2])), (2, V.ref 2002 0)], [(500, Tl.Obj.map (mpI zz.2.1)), (2002, ov 100 [V.mapr 500])]⟩) (fun zz => F_il_best_L1 x1 x2 J1 zz.1 zz.2.1 zz.2.2 = some (y0, y1)) (fun zz => zz.1) (fuel, x0, (1 : Int)) h ?_
  rintro ⟨n, o500, v5⟩ h0
  have h := (show F_il_best_L1 x1 x2 J1 n o500 v5 = some (y0, y1) from h0)
  rcases n with _ | n
  ·rw [F_il_best_L1] at h; cases h
  ·rw [F_il_best_L1] at h
   refine WP.seq ?_
   refine WP.sk tm [] [(True), (True)] [(12, vb (decide (v5 < (ln x1)))), (5, vi v5), (4, vi 0), (3, V.t (T.ptr [tl x1, ti x2])), (2, V.ref 2002 0)] [(500, Tl.Obj.map (mpI o500)), (2002, ov 100 [V.mapr 500])] ⟨trivial, trivial, trivial⟩ ?_
   rcases ite_some h with ⟨h1, h⟩ | ⟨h1, h⟩
   ·refine WP.yes h1 rfl ?_
    refine WP.pk tm [] [] [(5, vi v5), (4, vi 0), (3, V.t (T.ptr [tl x1, ti x2])), (2, V.ref 2002 0)] [(500, Tl.Obj.map (mpI o500)), (2002, ov 100 [V.mapr 500])] trivial ?_
    refine WP.seq ?_
    refine WP.block ?_
    refine WP.seq ?_
    obtain ⟨r19, r19b, r19c, c0, h⟩ := bnd3_some h
    refine WP.pk tm [(19, An.callG [(500, 500)] [V.agg [V.mapr 500], V.t (T.agg [tl x1, ti x2]), vi v5] [(500, Tl.Obj.map (mpI o500))] (V.t (T.tup [ti r19, tb r19b])) [(500, Tl.Obj.map (mpI r19c))])] [(0 + 1 ≤ 1), (2 ≤ 2), (CG Tryz.prog 94 [V.agg [V.mapr 500], V.t (T.agg [tl x1, ti x2]), vi v5] [(500, Tl.Obj.map (mpI o500))] (V.t (T.tup [ti r19, tb r19b])) [(500, Tl.Obj.map (mpI r19c))]), ((V.agg [V.mapr 500]).ren (renF [(500, 500)]) = V.agg [V.mapr 500]), (WkT (T.agg [tl x1, ti x2]) (T.agg [tl x1, ti x2])), (WkT (ti v5) (ti v5)), ((Tl.Obj.map (mpI o500)) = (Tl.Obj.map (mpI o500)).ren (renF [(500, 500)]))] [(7, vb r19b), (6, vi r19), (5, vi v5), (4, vi 0), (3, V.t (T.ptr [tl x1, ti x2])), (2, V.ref 2002 0)] [(500, Tl.Obj.map (mpI r19c)), (2002, ov 100 [V.mapr 500])] ⟨by decide, by decide, (F_il_ofLess_B_W (F_il_need fuel) (F_il_need_W fuel) o500 x1 x2 v5 r19 r19b r19c c0), by first | rfl | (simp [V.ren, V.renL, renF, lk]; done) | (simp [V.ren, V.renL, renF, lk]; omega), WkT.refl _, WkT.refl _, rfl, trivial⟩ ?_
    obtain ⟨J2, hJ2, h⟩ := jn_some h
    refine WP.joinA (fun (zz : (List (Int × Int)) × Bool) => ⟨[500, 2002], [(29, vb zz.2), (5, vi v5), (4, vi 0), (3, V.t (T.ptr [tl x1, ti x2])), (2, V.ref 2002 0)], [(500, Tl.Obj.map (mpI zz.1)), (2002, ov 100 [V.mapr 500])]⟩) (fun zz => J2 zz.1 zz.2 = some (y0, y1)) ?_ ?_
    ·rcases ite_some h with ⟨h2, h⟩ | ⟨h2, h⟩
     ·obtain ⟨r27, r27b, c1, h⟩ := bnd2_some h
      refine WP.qk tm [(23, An.b true), (27, An.callG [(500, 500)] [V.agg [V.mapr 500], V.t (T.agg [tl x1, ti x2])] [(500, Tl.Obj.map (mpI r19c))] (vi r27) [(500, Tl.Obj.map (mpI r27b))])] [((r19b) = true), (0 + 1 ≤ 1), (2 ≤ 2), (CG Tryz.prog 83 [V.agg [V.mapr 500], V.t (T.agg [tl x1, ti x2])] [(500, Tl.Obj.map (mpI r19c))] (vi r27) [(500, Tl.Obj.map (mpI r27b))]), ((V.agg [V.mapr 500]).ren (renF [(500, 500)]) = V.agg [V.mapr 500]), (WkT (T.agg [tl x1, ti x2]) (T.agg [tl x1, ti x2])), ((Tl.Obj.map (mpI r19c)) = (Tl.Obj.map (mpI r19c)).ren (renF [(500, 500)])), (True)] [(29, vb (r19 == r27)), (5, vi v5), (4, vi 0), (3, V.t (T.ptr [tl x1, ti x2])), (2, V.ref 2002 0)] [(500, Tl.Obj.map (mpI r27b)), (2002, ov 100 [V.mapr 500])] ⟨h2, by decide, by decide, (F_il_need_W fuel r19c x1 x2 r27 r27b c1), by first | rfl | (simp [V.ren, V.renL, renF, lk]; done) | (simp [V.ren, V.renL, renF, lk]; omega), WkT.refl _, rfl, trivial, trivial⟩ ?_
      exact ⟨(r27b, r19 == r27), h, rfl⟩
     ·refine WP.qk tm [(23, An.b false)] [((r19b) = false)] [(29, vb false), (5, vi v5), (4, vi 0), (3, V.t (T.ptr [tl x1, ti x2])), (2, V.ref 2002 0)] [(500, Tl.Obj.map (mpI r19c)), (2002, ov 100 [V.mapr 500])] ⟨h2, trivial⟩ ?_
      exact ⟨(r19c, false), h, rfl⟩
    ·rintro ⟨o500b, v29⟩ h0
     have h := (show J2 o500b v29 = some (y0, y1) from h0)
     rw [hJ2] at h
     rcases ite_some h with ⟨h3, h⟩ | ⟨h3, h⟩
     ·refine WP.yes h3 rfl ?_
      simp only [Option.some.injEq, Prod.mk.injEq] at h
      obtain ⟨rfl, rfl⟩ := h
      exact WP.pathG tab_ok mixed [] [.keep [4], .keepO [500], .names [(500, 500)]] [500] _ (r' := vi v5) (ps := []) (r := vi v5) (N := [500]) (O := [(500, Tl.Obj.map (mpI o500b))]) [] (by kernel_rfl) trivial ⟨(WkT.refl _), trivial⟩ rfl rfl (fun _ h => h)
     ·refine WP.no h3 rfl ?_
      refine WP.pk tm [] [] [(5, vi v5), (4, vi 0), (3, V.t (T.ptr [tl x1, ti x2])), (2, V.ref 2002 0)] [(500, Tl.Obj.map (mpI o500b)), (2002, ov 100 [V.mapr 500])] trivial ?_
      obtain ⟨c1, h⟩ := chk_some h
      refine WP.qk tm [(14, An.v (ti (v5 + 1)))] [(True), (wr (v5 + 1))] [(5, vi (v5 + 1)), (4, vi 0), (3, V.t (T.ptr [tl x1, ti x2])), (2, V.ref 2002 0)] [(500, Tl.Obj.map (mpI o500b)), (2002, ov 100 [V.mapr 500])] ⟨trivial, wrapI c1, trivial⟩ ?_
      exact ⟨(n, o500b, (v5 + 1)), h, Nat.lt_succ_self _, rfl⟩
   ·refine WP.no h1 rfl ?_
    refine WP.eq tm [] 0 [] [(4, vi 0)] [(500, Tl.Obj.map (mpI o500))] trivial ?_
    exact ⟨(o500), h, rfl⟩
 ·intro o500 h0
  have h := (show J1 o500 = some (y0, y1) from h0)
  rw [hJ1] at h
  simp only [Option.some.injEq, Prod.mk.injEq] at h
  obtain ⟨rfl, rfl⟩ := h
  exact WP.pathG tab_ok mixed [] [.keep [4], .keepO [500], .names [(500, 500)]] [500] _ (r' := vi (0 : Int)) (ps := []) (r := vi 0) (N := [500]) (O := [(500, Tl.Obj.map (mpI o500))]) [] (by kernel_rfl) trivial ⟨(WkT.eq (WkT.refl _) (by first | rfl | (simp only [tlS, tl, vl, vo, oc, ov, tbl, vbl, ty, vy] <;> rfl) | (simp <;> omega) | (simp []; done) | (rw [List.take_of_length_le (by simp [])] <;> rfl) | (simp [List.take_of_length_le]; done))), trivial⟩ rfl rfl (fun _ h => h)
theorem F_i_BestLess_W (x0 : List Int) (x1 : Int) (y0 : Int) (y1 : Bool) (h : F_i_BestLess x0 x1 = some (y0, y1)) : C Tryz.prog 28 [T.agg [tl x0, ti x1]] (T.tup [ti y0, tb y1]) := by
 unfold F_i_BestLess at h
 refine C.intro (tab := tab) tab_ok (fn := Tryz.f28) Tryz.func28 (by kernel_rfl) rfl (Nat.le_of_ble_eq_true rfl) ?_
 refine WP.sk tm [(1, An.fz)] [] [(3, vb false), (2, vi 0), (1, V.t (T.ptr [tl x0, ti x1]))] [] trivial ?_
 refine WP.seq ?_
 obtain ⟨J1, hJ1, h⟩ := jn_some h
 refine WP.joinA (fun (zz : Bool) => ⟨[], [(12, vb zz), (3, vb false), (2, vi 0), (1, V.t (T.ptr [tl x0, ti x1]))], []⟩) (fun zz => J1 zz = some (y0, y1)) ?_ ?_
 ·obtain ⟨c0, h⟩ := chk_some h
  rcases ite_some h with ⟨h1, h⟩ | ⟨h1, h⟩
  ·refine WP.qk tm [(5, An.call (tb (shortN x0 x1))), (7, An.b true)] [(2 ≤ 2), (C Tryz.prog 81 [T.agg [tl x0, ti x1]] (tb (shortN x0 x1))), ((!(shortN x0 x1)) = true)] [(12, vb true), (3, vb false), (2, vi 0), (1, V.t (T.ptr [tl x0, ti x1]))] [] ⟨by decide, (isShort_C x0 x1 c0), h1, trivial⟩ ?_
   exact ⟨(true), h, rfl⟩
  ·obtain ⟨c1, h⟩ := chk_some h
   refine WP.qk tm [(5, An.call (tb (shortN x0 x1))), (7, An.b false), (9, An.callG [(9000, 10090)] [V.t (T.agg [tl x0, ti x1])] [] (vo 9000 (List.length (openN x0))) [(9000, oc 3 (List.map (ti) (openN x0)))])] [(2 ≤ 2), (C Tryz.prog 81 [T.agg [tl x0, ti x1]] (tb (shortN x0 x1))), ((!(shortN x0 x1)) = false), (2 ≤ 2), (CG Tryz.prog 57 [V.t (T.agg [tl x0, ti x1])] [] (vo 9000 (List.length (openN x0))) [(9000, oc 3 (List.map (ti) (openN x0)))]), (WkT (T.agg [tl x0, ti x1]) (T.agg [tl x0, ti x1])), (True)] [(12, vb (decide ((ln (openN x0)) ≤ (1 : Int)))), (3, vb false), (2, vi 0), (1, V.t (T.ptr [tl x0, ti x1]))] [] ⟨by decide, (isShort_C x0 x1 c0), h1, by decide, (open_C_G x0 x1 c1), WkT.refl _, trivial, trivial⟩ ?_
   exact ⟨(decide ((ln (openN x0)) ≤ (1 : Int))), h, rfl⟩
 ·intro v12 h0
  have h := (show J1 v12 = some (y0, y1) from h0)
  rw [hJ1] at h
  rcases ite_some h with ⟨h2, h⟩ | ⟨h2, h⟩
  ·refine WP.yes h2 rfl ?_
   simp only [Option.some.injEq, Prod.mk.injEq] at h
   obtain ⟨rfl, rfl⟩ := h
   exact WP.pathW tab_ok mixed [] _ (ps := []) (r := T.tup [ti 0, tb false]) (by kernel_rfl) trivial (WkT.eq (y := T.tup [ti 0, tb false]) (WkT.refl _) (by first | rfl | (simp only [tlS, tl, vl, vo, oc, ov, tbl, vbl, ty, vy] <;> rfl) | (simp <;> omega) | (simp []; done) | (rw [List.take_of_length_le (by simp [])] <;> rfl) | (simp [List.take_of_length_le]; done))) (fun _ h => h)
  ·refine WP.no h2 rfl ?_
   refine WP.pk tm [] [] [(3, vb false), (2, vi 0), (1, V.t (T.ptr [tl x0, ti x1]))] [] trivial ?_
   obtain ⟨r13, c0, h⟩ := bnd1_some h
   obtain ⟨r15, r15b, c1, h⟩ := bnd2_some h
   simp only [Option.some.injEq, Prod.mk.injEq] at h
   obtain ⟨rfl, rfl⟩ := h
   exact WP.pathW tab_ok mixed [(13, An.callG [(9000, 10130)] [] [] (V.agg [V.mapr 9000]) [(9000, Tl.Obj.map (mpI r13))]), (15, An.callG [(500, 10130)] [V.agg [V.mapr 500], V.t (T.agg [tl x0, ti x1])] [(500, Tl.Obj.map (mpI r13))] (vi r15) [(500, Tl.Obj.map (mpI r15b))])] _ (ps := [(CG Tryz.prog 82 [] [] (V.agg [V.mapr 9000]) [(9000, Tl.Obj.map (mpI r13))]), (2 ≤ 2), (CG Tryz.prog 87 [V.agg [V.mapr 500], V.t (T.agg [tl x0, ti x1])] [(500, Tl.Obj.map (mpI r13))] (vi r15) [(500, Tl.Obj.map (mpI r15b))]), ((V.agg [V.mapr 500]).ren (renF [(500, 10130)]) = V.agg [V.mapr 10130]), (WkT (T.agg [tl x0, ti x1]) (T.agg [tl x0, ti x1])), ((Tl.Obj.map (mpI r13)) = (Tl.Obj.map (mpI r13)).ren (renF [(500, 10130)]))]) (r := T.tup [ti r15, tb true]) (by kernel_rfl) ⟨(F_i_newLesser_W  r13 c0), by decide, (F_il_best_W r13 x0 x1 r15 r15b c1), by first | rfl | (simp [V.ren, V.renL, renF, lk]; done) | (simp [V.ren, V.renL, renF, lk]; omega), WkT.refl _, rfl, trivial⟩ (WkT.eq (y := T.tup [ti r15, tb true]) (WkT.refl _) rfl) (fun _ h => h)
theorem F_s_l1Same_W (x0 : List Int) (x1 : List Int) (y0 : Bool) (h : F_s_l1Same x0 x1 = some y0) : C Tryz.prog 136 [tl x0, tl x1] (tb y0) := by
 unfold F_s_l1Same at h
 refine C.intro (tab := tab) tab_ok (fn := Tryz.f136) Tryz.func136 (by kernel_rfl) rfl (Nat.le_of_ble_eq_true rfl) ?_
 refine WP.sk tm [] [] [(4, vb false), (0, vl x0), (1, vl x1)] [] trivial ?_
 refine WP.seq ?_
 refine WP.sk tm [] [(True)] [(10, vb ((ln x0) != (ln x1))), (4, vb false), (0, vl x0), (1, vl x1)] [] ⟨trivial, trivial⟩ ?_
 rcases ite_some h with ⟨h1, h⟩ | ⟨h1, h⟩
 ·refine WP.yes h1 rfl ?_
  have h := Option.some.inj h
  subst h
  exact WP.pathW tab_ok mixed [] _ (ps := []) (r := tb false) (by kernel_rfl) trivial (WkT.eq (y := tb false) (WkT.refl _) rfl) (fun _ h => h)
 ·refine WP.no h1 rfl ?_
  refine WP.pk tm [] [] [(4, vb false), (0, vl x0), (1, vl x1)] [] trivial ?_
  obtain ⟨J1, hJ1, h⟩ := jn_some h
  refine WP.joinA (fun (zz : Unit) => ⟨[], [(4, vb false)], []⟩) (fun zz => J1 () = some y0) ?_ ?_
  ·refine WP.sk tm [] [] [(5, vi 0), (4, vb false), (0, vl x0), (1, vl x1)] [] trivial ?_
   refine WP.block ?_
   refine WP.lp (α := Nat × Int) (fun zz => ⟨[], [(5, vi zz.2), (4, vb false), (0, vl x0), (1, vl x1)], []⟩) (fun zz => F_s_l1Same_L1 x0 x1 J1 zz.1 zz.2 = some y0) (fun zz => zz.1) (fuel, (0 : Int)) h ?_
   rintro ⟨n, v5⟩ h0
   have h := (show F_s_l1Same_L1 x0 x1 J1 n v5 = some y0 from h0)
   rcases n with _ | n
   ·rw [F_s_l1Same_L1] at h; cases h
   ·rw [F_s_l1Same_L1] at h
    refine WP.seq ?_
    refine WP.sk tm [] [(True)] [(14, vb (decide (v5 < (ln x0)))), (5, vi v5), (4, vb false), (0, vl x0), (1, vl x1)] [] ⟨trivial, trivial⟩ ?_
    rcases ite_some h with ⟨h2, h⟩ | ⟨h2, h⟩
    ·refine WP.yes h2 rfl ?_
     refine WP.pk tm [] [] [(5, vi v5), (4, vb false), (0, vl x0), (1, vl x1)] [] trivial ?_
     refine WP.seq ?_
     refine WP.block ?_
     refine WP.seq ?_
     obtain ⟨c0, c1, h⟩ := chk2 h
     refine WP.pk tm [(20, An.v (ti (gt x0 v5 0))), (24, An.v (ti (gt x1 v5 0)))] [(ib v5 x0), ((List.drop ((Int.toNat v5) * 1) (List.map (ti) x0) : List T)[0]? = some (ti (gt x0 v5 0))), (rf (ti (gt x0 v5 0))), (ib v5 x1), ((List.drop ((Int.toNat v5) * 1) (List.map (ti) x1) : List T)[0]? = some (ti (gt x1 v5 0))), (rf (ti (gt x1 v5 0))), (True)] [(25, vb ((gt x0 v5 0) != (gt x1 v5 0))), (5, vi v5), (4, vb false), (0, vl x0), (1, vl x1)] [] ⟨c0, at1 (by simp) (by omega), rfl, c1, at1 (by simp) (by omega), rfl, trivial, trivial⟩ ?_
     rcases ite_some h with ⟨h3, h⟩ | ⟨h3, h⟩
     ·refine WP.yes h3 rfl ?_
      have h := Option.some.inj h
      subst h
      exact WP.pathW tab_ok mixed [] _ (ps := []) (r := tb false) (by kernel_rfl) trivial (WkT.eq (y := tb false) (WkT.refl _) rfl) (fun _ h => h)
     ·refine WP.no h3 rfl ?_
      refine WP.pk tm [] [] [(5, vi v5), (4, vb false), (0, vl x0), (1, vl x1)] [] trivial ?_
      obtain ⟨c2, h⟩ := chk_some h
      refine WP.qk tm [(16, An.v (ti (v5 + 1)))] [(True), (wr (v5 + 1))] [(5, vi (v5 + 1)), (4, vb false), (0, vl x0), (1, vl x1)] [] ⟨trivial, wrapI c2, trivial⟩ ?_
      exact ⟨(n, (v5 + 1)), h, Nat.lt_succ_self _, rfl⟩
    ·refine WP.no h2 rfl ?_
     refine WP.eq tm [] 0 [] [(4, vb false)] [] trivial ?_
     exact ⟨(), h, rfl⟩
  ·intro _ h0
   have h := (show J1 () = some y0 from h0)
   rw [hJ1] at h
   have h := Option.some.inj h
   subst h
   exact WP.pathW tab_ok mixed [] _ (ps := []) (r := tb true) (by kernel_rfl) trivial (WkT.eq (y := tb true) (WkT.refl _) rfl) (fun _ h => h)
theorem F_s_l6NeedOf_W (x0 : List Int) (x1 : Int) (x2 : Int) (x3 : List Int) (y0 : Int) (h : F_s_l6NeedOf x0 x1 x2 x3 = some y0) : C Tryz.prog 96 [T.agg [tl x0, ti x1], ti x2, tl x3] (ti y0) := by
 unfold F_s_l6NeedOf at h
 refine C.intro (tab := tab) tab_ok (fn := Tryz.f96) Tryz.func96 (by kernel_rfl) rfl (Nat.le_of_ble_eq_true rfl) ?_
 refine WP.sk tm [(3, An.fz)] [] [(6, vi 0), (3, V.t (T.ptr [tl x0, ti x1])), (1, vi x2), (2, vl x3)] [] trivial ?_
 refine WP.seq ?_
 obtain ⟨r11, r11b, c0, h⟩ := bnd2_some h
 obtain ⟨r14, r14b, c1, h⟩ := bnd2_some h
 refine WP.pn tm [(11, An.callG [(9000, 10110)] [V.t (T.agg [tl x0, ti x1]), vi x2, vb true] [] (V.agg [vo 9000 (List.length r11), vi r11b]) [(9000, oc 3 (List.map (ti) r11))]), (14, An.callG [(9000, 10140)] [V.t (T.agg [tl x0, ti x1]), vi x2, vb false] [] (V.agg [vo 9000 (List.length r14), vi r14b]) [(9000, oc 3 (List.map (ti) r14))]), (7, An.id 2007), (8, An.id 2008)] [(2 ≤ 2), (CG Tryz.prog 92 [V.t (T.agg [tl x0, ti x1]), vi x2, vb true] [] (V.agg [vo 9000 (List.length r11), vi r11b]) [(9000, oc 3 (List.map (ti) r11))]), (WkT (T.agg [tl x0, ti x1]) (T.agg [tl x0, ti x1])), (WkT (ti x2) (ti x2)), (WkT (tb true) (tb true)), (2 ≤ 2), (CG Tryz.prog 92 [V.t (T.agg [tl x0, ti x1]), vi x2, vb false] [] (V.agg [vo 9000 (List.length r14), vi r14b]) [(9000, oc 3 (List.map (ti) r14))]), (WkT (T.agg [tl x0, ti x1]) (T.agg [tl x0, ti x1])), (WkT (ti x2) (ti x2)), (WkT (tb false) (tb false)), ((0 + 2 ≤ 2 ∧ 2 = 2)), ((0 + 2 ≤ 2 ∧ 2 = 2))] [2008, 2007, 10140, 10110] [(8, V.ref 2008 0), (7, V.ref 2007 0), (6, vi 0), (3, V.t (T.ptr [tl x0, ti x1])), (2, vl x3)] [(2007, ov 26 [vo 10110 (List.length r11), vi r11b]), (2008, ov 26 [vo 10140 (List.length r14), vi r14b]), (10110, oc 3 (List.map (ti) r11)), (10140, oc 3 (List.map (ti) r14))] ⟨by decide, (F_s_l6After_W x0 x1 x2 true r11 r11b c0), WkT.refl _, WkT.refl _, WkT.refl _, by decide, (F_s_l6After_W x0 x1 x2 false r14 r14b c1), WkT.refl _, WkT.refl _, WkT.refl _, by decide, by decide, trivial⟩ ?_
 refine WP.seq ?_
 obtain ⟨J1, hJ1, h⟩ := jn_some h
 refine WP.joinA (fun (zz : Bool) => ⟨[2007, 2008, 10110, 10140], [(26, vb zz), (8, V.ref 2008 0), (7, V.ref 2007 0), (6, vi 0), (2, vl x3)], [(2007, ov 26 [vo 10110 (List.length r11), vi r11b]), (2008, ov 26 [vo 10140 (List.length r14), vi r14b]), (10110, oc 3 (List.map (ti) r11)), (10140, oc 3 (List.map (ti) r14))]⟩) (fun zz => J1 zz = some y0) ?_ ?_
 ·obtain ⟨r19, c2, h⟩ := bnd1_some h
  rcases ite_some h with ⟨h1, h⟩ | ⟨h1, h⟩
  ·refine WP.qk tm [(19, An.call (tb r19)), (20, An.b true)] [(True), (True), (C Tryz.prog 136 [tl r11, tl x0] (tb r19)), (List.length (List.map (ti) r11) = (List.length r11) * 1), ((r19) = true)] [(26, vb true), (8, V.ref 2008 0), (7, V.ref 2007 0), (6, vi 0), (2, vl x3)] [(2007, ov 26 [vo 10110 (List.length r11), vi r11b]), (2008, ov 26 [vo 10140 (List.length r14), vi r14b]), (10110, oc 3 (List.map (ti) r11)), (10140, oc 3 (List.map (ti) r14))] ⟨trivial, trivial, (F_s_l1Same_W r11 x0 r19 c2), by first | rfl | omega | (simp only [tlL] <;> omega) | (simp <;> omega) | (simp [] <;> omega), h1, trivial⟩ ?_
   exact ⟨(true), h, rfl⟩
  ·obtain ⟨r25, c3, h⟩ := bnd1_some h
   refine WP.qk tm [(19, An.call (tb r19)), (20, An.b false), (25, An.call (tb r25))] [(True), (True), (C Tryz.prog 136 [tl r11, tl x0] (tb r19)), (List.length (List.map (ti) r11) = (List.length r11) * 1), ((r19) = false), (True), (True), (C Tryz.prog 136 [tl r14, tl x0] (tb r25)), (List.length (List.map (ti) r14) = (List.length r14) * 1)] [(26, vb r25), (8, V.ref 2008 0), (7, V.ref 2007 0), (6, vi 0), (2, vl x3)] [(2007, ov 26 [vo 10110 (List.length r11), vi r11b]), (2008, ov 26 [vo 10140 (List.length r14), vi r14b]), (10110, oc 3 (List.map (ti) r11)), (10140, oc 3 (List.map (ti) r14))] ⟨trivial, trivial, (F_s_l1Same_W r11 x0 r19 c2), by first | rfl | omega | (simp only [tlL] <;> omega) | (simp <;> omega) | (simp [] <;> omega), h1, trivial, trivial, (F_s_l1Same_W r14 x0 r25 c3), by first | rfl | omega | (simp only [tlL] <;> omega) | (simp <;> omega) | (simp [] <;> omega), trivial⟩ ?_
   exact ⟨(r25), h, rfl⟩
 ·intro v26 h0
  have h := (show J1 v26 = some y0 from h0)
  rw [hJ1] at h
  rcases ite_some h with ⟨h2, h⟩ | ⟨h2, h⟩
  ·refine WP.yes h2 rfl ?_
   have h := Option.some.inj h
   subst h
   exact WP.pathW tab_ok mixed [] _ (ps := []) (r := ti (-1)) (by kernel_rfl) trivial (WkT.eq (y := ti (-1)) (WkT.refl _) (by first | rfl | (simp only [tlS, tl, vl, vo, oc, ov, tbl, vbl, ty, vy] <;> rfl) | (simp <;> omega) | (simp []; done) | (rw [List.take_of_length_le (by simp [])] <;> rfl) | (simp [List.take_of_length_le]; done))) (fun _ h => h)
  ·refine WP.no h2 rfl ?_
   refine WP.pk tm [] [] [(8, V.ref 2008 0), (7, V.ref 2007 0), (6, vi 0), (2, vl x3)] [(2007, ov 26 [vo 10110 (List.length r11), vi r11b]), (2008, ov 26 [vo 10140 (List.length r14), vi r14b]), (10110, oc 3 (List.map (ti) r11)), (10140, oc 3 (List.map (ti) r14))] trivial ?_
   obtain ⟨r29, c2, h⟩ := bnd1_some h
   obtain ⟨c3, h⟩ := chk_some h
   obtain ⟨r34, c4, h⟩ := bnd1_some h
   obtain ⟨c5, c6, h⟩ := chk2 h
   obtain ⟨n38, c7, h⟩ := nam_some h
   have h := Option.some.inj h
   subst h
   exact WP.pathW tab_ok mixed [(29, An.call (ti r29)), (31, An.v (ti (gt x3 r29 0))), (34, An.call (ti r34)), (36, An.v (ti (gt x3 r34 0))), (37, An.call (ti (maxN (gt x3 r29 0) (gt x3 r34 0)))), (38, An.v (ti n38))] _ (ps := [(0 + 2 ≤ 2), (C Tryz.prog 86 [T.agg [tl r11, ti r11b]] (ti r29)), (List.length (List.map (ti) r11) = (List.length r11) * 1), (ib r29 x3), ((List.drop ((Int.toNat r29) * 1) (List.map (ti) x3) : List T)[0]? = some (ti (gt x3 r29 0))), (rf (ti (gt x3 r29 0))), (0 + 2 ≤ 2), (C Tryz.prog 86 [T.agg [tl r14, ti r14b]] (ti r34)), (List.length (List.map (ti) r14) = (List.length r14) * 1), (ib r34 x3), ((List.drop ((Int.toNat r34) * 1) (List.map (ti) x3) : List T)[0]? = some (ti (gt x3 r34 0))), (rf (ti (gt x3 r34 0))), (C Tryz.prog 71 [ti (gt x3 r29 0), ti (gt x3 r34 0)] (ti (maxN (gt x3 r29 0) (gt x3 r34 0)))), (True), (ti (IntKind.wrap .i64 ((1 : Int) + (maxN (gt x3 r29 0) (gt x3 r34 0)))) = ti n38)]) (r := ti n38) (by kernel_rfl) ⟨by decide, (F_s_l6Key_W r11 r11b r29 c2), by first | rfl | omega | (simp only [tlL] <;> omega) | (simp <;> omega) | (simp [] <;> omega), c3, at1 (by simp) (by omega), rfl, by decide, (F_s_l6Key_W r14 r14b r34 c4), by first | rfl | omega | (simp only [tlL] <;> omega) | (simp <;> omega) | (simp [] <;> omega), c5, at1 (by simp) (by omega), rfl, (l1Most_C (gt x3 r29 0) (gt x3 r34 0)), trivial, Eq.trans (wrapI c6) (congrArg (ti) c7), trivial⟩ (WkT.eq (y := ti n38) (WkT.refl _) rfl) (fun _ h => h)
theorem F_s_l6Best_W (x0 : List Int) (x1 : Int) (x2 : List Int) (y0 : Int) (h : F_s_l6Best x0 x1 x2 = some y0) : C Tryz.prog 89 [T.agg [tl x0, ti x1], tl x2] (ti y0) := by
 unfold F_s_l6Best at h
 refine C.intro (tab := tab) tab_ok (fn := Tryz.f89) Tryz.func89 (by kernel_rfl) rfl (Nat.le_of_ble_eq_true rfl) ?_
 refine WP.sk tm [(2, An.fz)] [] [(4, vi 0), (2, V.t (T.ptr [tl x0, ti x1])), (1, vl x2)] [] trivial ?_
 refine WP.sk tm [] [] [(5, vi 1), (4, vi 0), (2, V.t (T.ptr [tl x0, ti x1])), (1, vl x2)] [] trivial ?_
 obtain ⟨J1, hJ1, h⟩ := jn_some h
 refine WP.joinA (fun (zz : Int) => ⟨[], [(5, vi zz), (4, vi 0)], []⟩) (fun zz => J1 zz = some y0) ?_ ?_
 ·refine WP.block ?_
  refine WP.lp (α := Nat × Int) (fun zz => ⟨[], [(5, vi zz.2), (4, vi 0), (2, V.t (T.ptr [tl x0, ti x1])), (1, vl x2)], []⟩) (fun zz => F_s_l6Best_L1 x0 x1 x2 J1 zz.1 zz.2 = some y0) (fun zz => zz.1) (fuel, (1 : Int)) h ?_
  rintro ⟨n, v5⟩ h0
  have h := (show F_s_l6Best_L1 x0 x1 x2 J1 n v5 = some y0 from h0)
  rcases n with _ | n
  ·rw [F_s_l6Best_L1] at h; cases h
  ·rw [F_s_l6Best_L1] at h
   refine WP.seq ?_
   refine WP.seq ?_
   obtain ⟨r9, c0, h⟩ := bnd1_some h
   obtain ⟨r12, c1, h⟩ := bnd1_some h
   obtain ⟨c2, h⟩ := chk_some h
   refine WP.pk tm [(9, An.call (ti r9)), (12, An.call (ti r12)), (14, An.v (ti (gt x2 r12 0)))] [(2 ≤ 2), (C Tryz.prog 96 [T.agg [tl x0, ti x1], ti v5, tl x2] (ti r9)), (2 ≤ 2), (C Tryz.prog 86 [T.agg [tl x0, ti x1]] (ti r12)), (ib r12 x2), ((List.drop ((Int.toNat r12) * 1) (List.map (ti) x2) : List T)[0]? = some (ti (gt x2 r12 0))), (rf (ti (gt x2 r12 0))), (True)] [(15, vb (r9 != (gt x2 r12 0))), (5, vi v5), (4, vi 0), (2, V.t (T.ptr [tl x0, ti x1])), (1, vl x2)] [] ⟨by decide, (F_s_l6NeedOf_W x0 x1 v5 x2 r9 c0), by decide, (F_s_l6Key_W x0 x1 r12 c1), c2, at1 (by simp) (by omega), rfl, trivial, trivial⟩ ?_
   rcases ite_some h with ⟨h1, h⟩ | ⟨h1, h⟩
   ·refine WP.yes h1 rfl ?_
    refine WP.pk tm [] [] [(5, vi v5), (4, vi 0), (2, V.t (T.ptr [tl x0, ti x1])), (1, vl x2)] [] trivial ?_
    refine WP.block ?_
    obtain ⟨c3, h⟩ := chk_some h
    refine WP.qk tm [(17, An.v (ti (v5 + 1)))] [(True), (wr (v5 + 1))] [(5, vi (v5 + 1)), (4, vi 0), (2, V.t (T.ptr [tl x0, ti x1])), (1, vl x2)] [] ⟨trivial, wrapI c3, trivial⟩ ?_
    exact ⟨(n, (v5 + 1)), h, Nat.lt_succ_self _, rfl⟩
   ·refine WP.no h1 rfl ?_
    refine WP.eq tm [] 0 [] [(5, vi v5), (4, vi 0)] [] trivial ?_
    exact ⟨(v5), h, rfl⟩
 ·intro v5 h0
  have h := (show J1 v5 = some y0 from h0)
  rw [hJ1] at h
  have h := Option.some.inj h
  subst h
  exact WP.pathW tab_ok mixed [] _ (ps := []) (r := ti v5) (by kernel_rfl) trivial (WkT.eq (y := ti v5) (WkT.refl _) rfl) (fun _ h => h)
theorem F_s_BestLess_W (x0 : List Int) (x1 : Int) (y0 : Int) (y1 : Bool) (h : F_s_BestLess x0 x1 = some (y0, y1)) : C Tryz.prog 29 [T.agg [tl x0, ti x1]] (T.tup [ti y0, tb y1]) := by
 unfold F_s_BestLess at h
 refine C.intro (tab := tab) tab_ok (fn := Tryz.f29) Tryz.func29 (by kernel_rfl) rfl (Nat.le_of_ble_eq_true rfl) ?_
 refine WP.sk tm [(1, An.fz)] [] [(3, vb false), (2, vi 0), (1, V.t (T.ptr [tl x0, ti x1]))] [] trivial ?_
 refine WP.seq ?_
 obtain ⟨J1, hJ1, h⟩ := jn_some h
 refine WP.joinA (fun (zz : Bool) => ⟨[], [(10, vb zz), (3, vb false), (2, vi 0), (1, V.t (T.ptr [tl x0, ti x1]))], []⟩) (fun zz => J1 zz = some (y0, y1)) ?_ ?_
 ·obtain ⟨c0, h⟩ := chk_some h
  rcases ite_some h with ⟨h1, h⟩ | ⟨h1, h⟩
  ·refine WP.qk tm [(5, An.call (tb (shortN x0 x1))), (7, An.b true)] [(2 ≤ 2), (C Tryz.prog 84 [T.agg [tl x0, ti x1]] (tb (shortN x0 x1))), ((!(shortN x0 x1)) = true)] [(10, vb true), (3, vb false), (2, vi 0), (1, V.t (T.ptr [tl x0, ti x1]))] [] ⟨by decide, (l6Short_C x0 x1 c0), h1, trivial⟩ ?_
   exact ⟨(true), h, rfl⟩
  ·obtain ⟨c1, h⟩ := chk_some h
   refine WP.qk tm [(5, An.call (tb (shortN x0 x1))), (7, An.b false), (9, An.call (tb (decide ((ln (openN x0)) < (2 : Int)))))] [(2 ≤ 2), (C Tryz.prog 84 [T.agg [tl x0, ti x1]] (tb (shortN x0 x1))), ((!(shortN x0 x1)) = false), (2 ≤ 2), (C Tryz.prog 88 [T.agg [tl x0, ti x1]] (tb (decide ((ln (openN x0)) < (2 : Int)))))] [(10, vb (decide ((ln (openN x0)) < (2 : Int)))), (3, vb false), (2, vi 0), (1, V.t (T.ptr [tl x0, ti x1]))] [] ⟨by decide, (l6Short_C x0 x1 c0), h1, by decide, (l6Done_C x0 x1 c1), trivial⟩ ?_
   exact ⟨(decide ((ln (openN x0)) < (2 : Int))), h, rfl⟩
 ·intro v10 h0
  have h := (show J1 v10 = some (y0, y1) from h0)
  rw [hJ1] at h
  rcases ite_some h with ⟨h2, h⟩ | ⟨h2, h⟩
  ·refine WP.yes h2 rfl ?_
   simp only [Option.some.injEq, Prod.mk.injEq] at h
   obtain ⟨rfl, rfl⟩ := h
   exact WP.pathW tab_ok mixed [] _ (ps := []) (r := T.tup [ti 0, tb false]) (by kernel_rfl) trivial (WkT.eq (y := T.tup [ti 0, tb false]) (WkT.refl _) (by first | rfl | (simp only [tlS, tl, vl, vo, oc, ov, tbl, vbl, ty, vy] <;> rfl) | (simp <;> omega) | (simp []; done) | (rw [List.take_of_length_le (by simp [])] <;> rfl) | (simp [List.take_of_length_le]; done))) (fun _ h => h)
  ·refine WP.no h2 rfl ?_
   refine WP.pk tm [] [] [(3, vb false), (2, vi 0), (1, V.t (T.ptr [tl x0, ti x1]))] [] trivial ?_
   obtain ⟨r17, c0, h⟩ := bnd1_some h
   obtain ⟨r18, c1, h⟩ := bnd1_some h
   simp only [Option.some.injEq, Prod.mk.injEq] at h
   obtain ⟨rfl, rfl⟩ := h
   exact WP.pathW tab_ok mixed [(17, An.callG [(9000, 10170)] [vi (ln x0), vi x1] [] (vo 9000 (List.length r17)) [(9000, oc 3 (List.map (ti) r17))]), (18, An.call (ti r18))] _ (ps := [(2 ≤ 2), (True), (True), (CG Tryz.prog 85 [vi (ln x0), vi x1] [] (vo 9000 (List.length r17)) [(9000, oc 3 (List.map (ti) r17))]), (WkT (ti (ln x0)) (ti (ln x0))), (WkT (ti x1) (ti x1)), (C Tryz.prog 89 [T.agg [tl x0, ti x1], tl r17] (ti r18)), (List.length (List.map (ti) r17) = (List.length r17) * 1)]) (r := T.tup [ti r18, tb true]) (by kernel_rfl) ⟨by decide, trivial, trivial, (F_s6N_W (ln x0) x1 r17 c0), WkT.refl _, WkT.refl _, (F_s_l6Best_W x0 x1 r17 r18 c1), by first | rfl | omega | (simp only [tlL] <;> omega) | (simp <;> omega) | (simp [] <;> omega), trivial⟩ (WkT.eq (y := T.tup [ti r18, tb true]) (WkT.refl _) rfl) (fun _ h => h)
theorem F_i_LessWorst_W (x0 : List Int) (x1 : Int) (y0 : List Bool) (y1 : Bool) (h : F_i_LessWorst x0 x1 = some (y0, y1)) : CG Tryz.prog 30 [V.t (T.agg [tl x0, ti x1])] [] (V.tup [vo 9000 (List.length y0), vb y1]) [(9000, oc 4 (List.map T.bool y0))] := by
 unfold F_i_LessWorst at h
 refine CG.intro (tab := tab) tab_ok (fn := Tryz.f30) Tryz.func30 (by kernel_rfl) rfl (Nat.le_of_ble_eq_true rfl) (by kernel_rfl) ?_
 refine WP.sk tm [(1, An.id 2001)] [] [(3, vb false), (2, V.t (T.nils)), (1, V.ref 2001 0)] [(2001, oc 26 [tl x0, ti x1])] trivial ?_
 refine WP.seq ?_
 refine WP.seq ?_
 obtain ⟨c0, h⟩ := chk_some h
 refine WP.pk tm [(10, An.call (tb (shortN x0 x1)))] [(0 + 2 ≤ 2), (C Tryz.prog 81 [T.agg [tl x0, ti x1]] (tb (shortN x0 x1)))] [(11, vb (!(shortN x0 x1))), (3, vb false), (2, V.t (T.nils)), (1, V.ref 2001 0)] [(2001, oc 26 [tl x0, ti x1])] ⟨by decide, (isShort_C x0 x1 c0), trivial⟩ ?_
 rcases ite_some h with ⟨h1, h⟩ | ⟨h1, h⟩
 ·refine WP.yes h1 rfl ?_
  simp only [Option.some.injEq, Prod.mk.injEq] at h
  obtain ⟨rfl, rfl⟩ := h
  exact WP.pathG tab_ok mixed [] [.keep [2, 3], .keepO [], .names []] [] _ (r' := V.tup [vo 9000 (List.length ([] : List Bool)), vb false]) (ps := []) (r := V.t (T.tup [T.nils, tb false])) (N := []) (O := []) [(9000, 4)] (by kernel_rfl) trivial ⟨(by first | rfl | (simp; done)), (WkT.refl _), trivial⟩ rfl rfl (fun _ h => h)
 ·refine WP.no h1 rfl ?_
  refine WP.pk tm [] [] [(3, vb false), (2, V.t (T.nils)), (1, V.ref 2001 0)] [(2001, oc 26 [tl x0, ti x1])] trivial ?_
  refine WP.seq ?_
  obtain ⟨r12, c1, h⟩ := bnd1_some h
  refine WP.pn tm [(12, An.callG [(9000, 10120)] [] [] (V.agg [V.mapr 9000]) [(9000, Tl.Obj.map (mpI r12))]), (13, An.id 2013), (4, An.id 2004)] [(CG Tryz.prog 82 [] [] (V.agg [V.mapr 9000]) [(9000, Tl.Obj.map (mpI r12))]), (True), (0 = 0 * 1), ((0 + 1 ≤ 1 ∧ 1 = 1))] [2004, 2013, 10120, 2001] [(5, vo 2013 0), (4, V.ref 2004 0), (3, vb false), (2, V.t (T.nils)), (1, V.ref 2001 0)] [(2001, oc 26 [tl x0, ti x1]), (2004, ov 100 [V.mapr 10120]), (2013, oc 4 []), (10120, Tl.Obj.map (mpI r12))] ⟨(F_i_newLesser_W  r12 c1), trivial, by decide, by decide, trivial⟩ ?_
  obtain ⟨J1, hJ1, h⟩ := jn_some h
  refine WP.joinA (fun (zz : (List Bool)) => ⟨[2013], [(5, vo 2013 (List.length zz)), (3, vb false), (2, V.t (T.nils))], [(2013, oc 4 (List.map T.bool zz))]⟩) (fun zz => J1 zz = some (y0, y1)) ?_ ?_
  ·refine WP.seq ?_
   obtain ⟨r16, r16b, c2, h⟩ := bnd2_some h
   refine WP.pn tm [(16, An.callG [(500, 10120)] [V.agg [V.mapr 500], V.t (T.agg [tl x0, ti x1])] [(500, Tl.Obj.map (mpI r12))] (vi r16) [(500, Tl.Obj.map (mpI r16b))])] [(0 + 1 ≤ 1), (0 + 2 ≤ 2), (CG Tryz.prog 83 [V.agg [V.mapr 500], V.t (T.agg [tl x0, ti x1])] [(500, Tl.Obj.map (mpI r12))] (vi r16) [(500, Tl.Obj.map (mpI r16b))]), ((V.agg [V.mapr 500]).ren (renF [(500, 10120)]) = V.agg [V.mapr 10120]), (WkT (T.agg [tl x0, ti x1]) (T.agg [tl x0, ti x1])), ((Tl.Obj.map (mpI r12)) = (Tl.Obj.map (mpI r12)).ren (renF [(500, 10120)]))] [2004, 2013, 10120, 2001] [(6, vi r16), (5, vo 2013 0), (4, V.ref 2004 0), (3, vb false), (2, V.t (T.nils)), (1, V.ref 2001 0)] [(2001, oc 26 [tl x0, ti x1]), (2004, ov 100 [V.mapr 10120]), (2013, oc 4 []), (10120, Tl.Obj.map (mpI r16b))] ⟨by decide, by decide, (F_il_need_W fuel r12 x0 x1 r16 r16b c2), by first | rfl | (simp [V.ren, V.renL, renF, lk]; done) | (simp [V.ren, V.renL, renF, lk]; omega), WkT.refl _, rfl, trivial⟩ ?_
   refine WP.block ?_
   refine WP.lp (α := Nat × (List Int) × (List Bool) × (List (Int × Int)) × Int) (fun zz => ⟨[2001, 2004, 2013, 10120], [(6, vi zz.2.2.2.2), (5, vo 2013 (List.length zz.2.2.1)), (4, V.ref 2004 0), (3, vb false), (2, V.t (T.nils)), (1, V.ref 2001 0)], [(2001, oc 26 [tl zz.2.1, ti x1]), (2004, ov 100 [V.mapr 10120]), (2013, oc 4 (List.map T.bool zz.2.2.1)), (10120, Tl.Obj.map (mpI zz.2.2.2.1))]⟩) (fun zz => F_i_LessWorst_L1 x1 J1 zz.1 zz.2.1 zz.2.2.1 zz.2.2.2.1 zz.2.2.2.2 = some (y0, y1)) (fun zz => zz.1) (fuel, x0, ([] : List Bool), r16b, r16) h ?_
   rintro ⟨n, o1, o13, o10120, v6⟩ h0
   have h := (show F_i_LessWorst_L1 x1 J1 n o1 o13 o10120 v6 = some (y0, y1) from h0)
   rcases n with _ | n
   ·rw [F_i_LessWorst_L1] at h; cases h
   ·rw [F_i_LessWorst_L1] at h
    refine WP.seq ?_
    refine WP.sk tm [] [(True)] [(18, vb (decide (v6 > (0 : Int)))), (6, vi v6), (5, vo 2013 (List.length o13)), (4, V.ref 2004 0), (3, vb false), (2, V.t (T.nils)), (1, V.ref 2001 0)] [(2001, oc 26 [tl o1, ti x1]), (2004, ov 100 [V.mapr 10120]), (2013, oc 4 (List.map T.bool o13)), (10120, Tl.Obj.map (mpI o10120))] ⟨trivial, trivial⟩ ?_
    rcases ite_some h with ⟨h2, h⟩ | ⟨h2, h⟩
    ·refine WP.yes h2 rfl ?_
     refine WP.pk tm [] [] [(6, vi v6), (5, vo 2013 (List.length o13)), (4, V.ref 2004 0), (3, vb false), (2, V.t (T.nils)), (1, V.ref 2001 0)] [(2001, oc 26 [tl o1, ti x1]), (2004, ov 100 [V.mapr 10120]), (2013, oc 4 (List.map T.bool o13)), (10120, Tl.Obj.map (mpI o10120))] trivial ?_
     refine WP.seq ?_
     refine WP.block ?_
     refine WP.seq ?_
     obtain ⟨r24, r24b, c3, h⟩ := bnd2_some h
     obtain ⟨r25, c4, h⟩ := bnd1_some h
     obtain ⟨c5, h⟩ := chk_some h
     refine WP.pn tm [(24, An.callG [(500, 10120)] [V.agg [V.mapr 500], V.t (T.agg [tl o1, ti x1])] [(500, Tl.Obj.map (mpI o10120))] (vi r24) [(500, Tl.Obj.map (mpI r24b))]), (25, An.call (ti r25)), (26, An.call (T.agg [tl (ansN x1 r25 false o1), ti x1, tl (ansN x1 r25 true o1), ti x1])), (7, An.id 2007)] [(0 + 2 ≤ 2), (0 + 1 ≤ 1), (0 + 2 ≤ 2), (CG Tryz.prog 87 [V.agg [V.mapr 500], V.t (T.agg [tl o1, ti x1])] [(500, Tl.Obj.map (mpI o10120))] (vi r24) [(500, Tl.Obj.map (mpI r24b))]), ((V.agg [V.mapr 500]).ren (renF [(500, 10120)]) = V.agg [V.mapr 10120]), (WkT (T.agg [tl o1, ti x1]) (T.agg [tl o1, ti x1])), ((Tl.Obj.map (mpI o10120)) = (Tl.Obj.map (mpI o10120)).ren (renF [(500, 10120)])), (C Tryz.prog 91 [ti r24] (ti r25)), (C Tryz.prog 90 [T.agg [tl o1, ti x1], ti r25] (T.agg [tl (ansN x1 r25 false o1), ti x1, tl (ansN x1 r25 true o1), ti x1])), ((0 + 4 ≤ 4 ∧ 4 = 4))] [2007, 2001, 2004, 2013, 10120] [(7, V.ref 2007 0), (6, vi v6), (5, vo 2013 (List.length o13)), (4, V.ref 2004 0), (3, vb false), (2, V.t (T.nils)), (1, V.ref 2001 0)] [(2001, oc 26 [tl o1, ti x1]), (2004, ov 100 [V.mapr 10120]), (2007, oc 105 [tl (ansN x1 r25 false o1), ti x1, tl (ansN x1 r25 true o1), ti x1]), (2013, oc 4 (List.map T.bool o13)), (10120, Tl.Obj.map (mpI r24b))] ⟨by decide, by decide, by decide, (F_il_best_W o10120 o1 x1 r24 r24b c3), by first | rfl | (simp [V.ren, V.renL, renF, lk]; done) | (simp [V.ren, V.renL, renF, lk]; omega), WkT.refl _, rfl, (F_i_less_W r24 r25 c4), (both_C o1 x1 r25 c5), by decide, trivial⟩ ?_
     refine WP.seq ?_
     obtain ⟨r30, r30b, c6, h⟩ := bnd2_some h
     obtain ⟨c7, h⟩ := chk_some h
     refine WP.pn tm [(30, An.callG [(500, 10120)] [V.agg [V.mapr 500], V.t (T.agg [tl (ansN x1 r25 false o1), ti x1])] [(500, Tl.Obj.map (mpI r24b))] (vi r30) [(500, Tl.Obj.map (mpI r30b))]), (32, An.v (ti (v6 - 1)))] [(0 + 1 ≤ 1), ((0 ≤ (0 : Int) ∧ (0 : Int) < (2 : Int))), (0 + 2 ≤ 4), (CG Tryz.prog 83 [V.agg [V.mapr 500], V.t (T.agg [tl (ansN x1 r25 false o1), ti x1])] [(500, Tl.Obj.map (mpI r24b))] (vi r30) [(500, Tl.Obj.map (mpI r30b))]), ((V.agg [V.mapr 500]).ren (renF [(500, 10120)]) = V.agg [V.mapr 10120]), (WkT (T.agg [tl (ansN x1 r25 false o1), ti x1]) (T.agg [tl (ansN x1 r25 false o1), ti x1])), ((Tl.Obj.map (mpI r24b)) = (Tl.Obj.map (mpI r24b)).ren (renF [(500, 10120)])), (True), (wr (v6 - 1)), (True)] [2007, 2001, 2004, 2013, 10120] [(8, vb (r30 != (v6 - 1))), (7, V.ref 2007 0), (6, vi v6), (5, vo 2013 (List.length o13)), (4, V.ref 2004 0), (3, vb false), (2, V.t (T.nils)), (1, V.ref 2001 0)] [(2001, oc 26 [tl o1, ti x1]), (2004, ov 100 [V.mapr 10120]), (2007, oc 105 [tl (ansN x1 r25 false o1), ti x1, tl (ansN x1 r25 true o1), ti x1]), (2013, oc 4 (List.map T.bool o13)), (10120, Tl.Obj.map (mpI r30b))] ⟨by decide, by decide, by decide, (F_il_need_W fuel r24b (ansN x1 r25 false o1) x1 r30 r30b c6), by first | rfl | (simp [V.ren, V.renL, renF, lk]; done) | (simp [V.ren, V.renL, renF, lk]; omega), WkT.refl _, rfl, trivial, wrapI c7, trivial, trivial⟩ ?_
     refine WP.seq ?_
     obtain ⟨c8, h⟩ := chk_some h
     refine WP.pn tm [(36, An.fz), (37, An.id 2037)] [((1 = 1 ∧ 0 + 1 ≤ 1) ∧ True), (1 = 1 * 1), (True), (List.length (List.map T.bool o13) = (List.length o13) * 1), ((((List.length o13) + 1) * 1 ≤ 140737488355328 ∧ (List.length o13) + 1 ≤ maxLen))] [2037, 2007, 2001, 2004, 2013, 10120] [(5, vo 2037 ((List.length o13) + 1)), (8, vb (r30 != (v6 - 1))), (7, V.ref 2007 0), (6, vi v6), (4, V.ref 2004 0), (3, vb false), (2, V.t (T.nils)), (1, V.ref 2001 0)] [(2001, oc 26 [tl o1, ti x1]), (2004, ov 100 [V.mapr 10120]), (2007, oc 105 [tl (ansN x1 r25 false o1), ti x1, tl (ansN x1 r25 true o1), ti x1]), (2037, oc 4 ((List.map T.bool o13) ++ [tb (r30 != (v6 - 1))])), (10120, Tl.Obj.map (mpI r30b))] ⟨⟨⟨by first | rfl | (simp; done) | (simp []; done) | omega, by first | decide | (simp; done) | (simp []; done) | omega | (simp only [tlL]; omega) | (simp; omega)⟩, trivial⟩, by decide, trivial, by first | rfl | omega | (simp only [tlL] <;> omega) | (simp <;> omega) | (simp [] <;> omega), c8, trivial⟩ ?_
     refine WP.sn tm [] [((0 ≤ (0 : Int) ∧ (0 : Int) < (2 : Int))), (0 + 2 ≤ 4), ((0 + 2 ≤ 2 ∧ 2 = 2))] [2037, 2007, 2001, 2004, 2013, 10120] [(5, vo 2037 ((List.length o13) + 1)), (8, vb (r30 != (v6 - 1))), (7, V.ref 2007 0), (6, vi v6), (4, V.ref 2004 0), (3, vb false), (2, V.t (T.nils)), (1, V.ref 2001 0)] [(2001, oc 26 [tl (ansN x1 r25 false o1), ti x1]), (2004, ov 100 [V.mapr 10120]), (2007, oc 105 [tl (ansN x1 r25 false o1), ti x1, tl (ansN x1 r25 true o1), ti x1]), (2037, oc 4 ((List.map T.bool o13) ++ [tb (r30 != (v6 - 1))])), (10120, Tl.Obj.map (mpI r30b))] ⟨by decide, by decide, by decide, trivial⟩ ?_
     refine WP.sn tm [] [] [2037, 2007, 2001, 2004, 2013, 10120] [(40, vb (r30 != (v6 - 1))), (5, vo 2037 ((List.length o13) + 1)), (7, V.ref 2007 0), (6, vi v6), (4, V.ref 2004 0), (3, vb false), (2, V.t (T.nils)), (1, V.ref 2001 0)] [(2001, oc 26 [tl (ansN x1 r25 false o1), ti x1]), (2004, ov 100 [V.mapr 10120]), (2007, oc 105 [tl (ansN x1 r25 false o1), ti x1, tl (ansN x1 r25 true o1), ti x1]), (2037, oc 4 ((List.map T.bool o13) ++ [tb (r30 != (v6 - 1))])), (10120, Tl.Obj.map (mpI r30b))] trivial ?_
     rcases ite_some h with ⟨h3, h⟩ | ⟨h3, h⟩
     ·refine WP.yes h3 rfl ?_
      refine WP.pn tm [] [((0 ≤ (1 : Int) ∧ (1 : Int) < (2 : Int))), (2 + 2 ≤ 4), ((0 + 2 ≤ 2 ∧ 2 = 2))] [2037, 2007, 2001, 2004, 2013, 10120] [(5, vo 2037 ((List.length o13) + 1)), (6, vi v6), (4, V.ref 2004 0), (3, vb false), (2, V.t (T.nils)), (1, V.ref 2001 0)] [(2001, oc 26 [tl (ansN x1 r25 true o1), ti x1]), (2004, ov 100 [V.mapr 10120]), (2037, oc 4 ((List.map T.bool o13) ++ [tb (r30 != (v6 - 1))])), (10120, Tl.Obj.map (mpI r30b))] ⟨by decide, by decide, by decide, trivial⟩ ?_
      refine WP.nk tm [(20, An.v (ti (v6 - 1)))] [(2001, 2001), (2004, 2004), (2037, 2013), (10120, 10120)] .normal [(True), (wr (v6 - 1))] [(6, vi (v6 - 1)), (5, vo 2013 ((List.length o13) + 1)), (4, V.ref 2004 0), (3, vb false), (2, V.t (T.nils)), (1, V.ref 2001 0)] [(2001, oc 26 [tl (ansN x1 r25 true o1), ti x1]), (2004, ov 100 [V.mapr 10120]), (2013, oc 4 ((List.map T.bool o13) ++ [tb (r30 != (v6 - 1))])), (10120, Tl.Obj.map (mpI r30b))] ⟨trivial, wrapI c7, trivial⟩ ?_
      exact ⟨(n, (ansN x1 r25 true o1), o13 ++ [r30 != (v6 - 1)], r30b, (v6 - 1)), h, Nat.lt_succ_self _, (by first | rfl | (simp only [tlS, tl, vl, vo, oc, ov, tbl, vbl, ty, vy] <;> rfl) | (simp <;> omega) | (simp []; done) | (rw [List.take_of_length_le (by simp [])] <;> rfl) | (simp [List.take_of_length_le]; done))⟩
     ·refine WP.no h3 rfl ?_
      refine WP.pn tm [] [] [2037, 2007, 2001, 2004, 2013, 10120] [(5, vo 2037 ((List.length o13) + 1)), (6, vi v6), (4, V.ref 2004 0), (3, vb false), (2, V.t (T.nils)), (1, V.ref 2001 0)] [(2001, oc 26 [tl (ansN x1 r25 false o1), ti x1]), (2004, ov 100 [V.mapr 10120]), (2037, oc 4 ((List.map T.bool o13) ++ [tb (r30 != (v6 - 1))])), (10120, Tl.Obj.map (mpI r30b))] trivial ?_
      refine WP.nk tm [(20, An.v (ti (v6 - 1)))] [(2001, 2001), (2004, 2004), (2037, 2013), (10120, 10120)] .normal [(True), (wr (v6 - 1))] [(6, vi (v6 - 1)), (5, vo 2013 ((List.length o13) + 1)), (4, V.ref 2004 0), (3, vb false), (2, V.t (T.nils)), (1, V.ref 2001 0)] [(2001, oc 26 [tl (ansN x1 r25 false o1), ti x1]), (2004, ov 100 [V.mapr 10120]), (2013, oc 4 ((List.map T.bool o13) ++ [tb (r30 != (v6 - 1))])), (10120, Tl.Obj.map (mpI r30b))] ⟨trivial, wrapI c7, trivial⟩ ?_
      exact ⟨(n, (ansN x1 r25 false o1), o13 ++ [r30 != (v6 - 1)], r30b, (v6 - 1)), h, Nat.lt_succ_self _, (by first | rfl | (simp only [tlS, tl, vl, vo, oc, ov, tbl, vbl, ty, vy] <;> rfl) | (simp <;> omega) | (simp []; done) | (rw [List.take_of_length_le (by simp [])] <;> rfl) | (simp [List.take_of_length_le]; done))⟩
    ·refine WP.no h2 rfl ?_
     refine WP.eq tm [] 0 [] [(5, vo 2013 (List.length o13)), (3, vb false), (2, V.t (T.nils))] [(2013, oc 4 (List.map T.bool o13))] trivial ?_
     exact ⟨(o13), h, rfl⟩
  ·intro o13 h0
   have h := (show J1 o13 = some (y0, y1) from h0)
   rw [hJ1] at h
   simp only [Option.some.injEq, Prod.mk.injEq] at h
   obtain ⟨rfl, rfl⟩ := h
   exact WP.pathG tab_ok mixed [] [.keep [2, 3], .keepO [2013], .names [(2013, 9000)]] [9000] _ (r' := V.tup [vo 9000 (List.length o13), vb true]) (ps := []) (r := V.tup [vo 9000 (List.length o13), vb true]) (N := [9000]) (O := [(9000, oc 4 (List.map T.bool o13))]) [] (by kernel_rfl) trivial ⟨rfl, (WkT.refl _), trivial⟩ rfl rfl (fun _ h => h)
theorem F_i_LessWorst_W_C (x0 : List Int) (x1 : Int) (y0 : List Bool) (y1 : Bool) (h : F_i_LessWorst x0 x1 = some (y0, y1)) : C Tryz.prog 30 [T.agg [tl x0, ti x1]] (T.tup [tbl y0, tb y1]) :=
 CG.toC (ps := [(List.length (List.map T.bool y0) = (List.length y0) * 1)]) (F_i_LessWorst_W  x0 x1 y0 y1 h) (by rfl) ⟨by first | rfl | omega | (simp <;> omega) | (simp [hl] <;> omega), trivial⟩
theorem F_s_LessWorst_W (x0 : List Int) (x1 : Int) (y0 : List Bool) (y1 : Bool) (h : F_s_LessWorst x0 x1 = some (y0, y1)) : CG Tryz.prog 31 [V.t (T.agg [tl x0, ti x1])] [] (V.tup [vo 9000 (List.length y0), vb y1]) [(9000, oc 4 (List.map T.bool y0))] := by
 unfold F_s_LessWorst at h
 refine CG.intro (tab := tab) tab_ok (fn := Tryz.f31) Tryz.func31 (by kernel_rfl) rfl (Nat.le_of_ble_eq_true rfl) (by kernel_rfl) ?_
 refine WP.sk tm [(1, An.id 2001)] [] [(3, vb false), (2, V.t (T.nils)), (1, V.ref 2001 0)] [(2001, oc 26 [tl x0, ti x1])] trivial ?_
 refine WP.sn tm [(9, An.id 2009)] [(True), (0 = 0 * 1)] [2009, 2001] [(4, vo 2009 0), (3, vb false), (2, V.t (T.nils)), (1, V.ref 2001 0)] [(2001, oc 26 [tl x0, ti x1]), (2009, oc 4 [])] ⟨trivial, by decide, trivial⟩ ?_
 refine WP.seq ?_
 refine WP.seq ?_
 obtain ⟨c0, h⟩ := chk_some h
 refine WP.pn tm [(11, An.call (tb (shortN x0 x1)))] [(0 + 2 ≤ 2), (C Tryz.prog 84 [T.agg [tl x0, ti x1]] (tb (shortN x0 x1)))] [2009, 2001] [(12, vb (!(shortN x0 x1))), (4, vo 2009 0), (3, vb false), (2, V.t (T.nils)), (1, V.ref 2001 0)] [(2001, oc 26 [tl x0, ti x1]), (2009, oc 4 [])] ⟨by decide, (l6Short_C x0 x1 c0), trivial⟩ ?_
 rcases ite_some h with ⟨h1, h⟩ | ⟨h1, h⟩
 ·refine WP.yes h1 rfl ?_
  simp only [Option.some.injEq, Prod.mk.injEq] at h
  obtain ⟨rfl, rfl⟩ := h
  exact WP.pathG tab_ok mixed [] [.keep [2, 3], .keepO [2009], .names [(2009, 9000)]] [9000] _ (r' := V.tup [vo 9000 (List.length []), vb false]) (ps := []) (r := V.tup [vo 9000 0, vb false]) (N := [9000]) (O := [(9000, oc 4 [])]) [] (by kernel_rfl) trivial ⟨(congrArg (V.own 9000 1) (by first | rfl | (simp only [tlS, tl, vl, vo, oc, ov, tbl, vbl, ty, vy] <;> rfl) | (simp <;> omega) | (simp []; done) | (rw [List.take_of_length_le (by simp [])] <;> rfl) | (simp [List.take_of_length_le]; done))), (WkT.refl _), trivial⟩ rfl (by first | rfl | (simp only [tlS, tl, vl, vo, oc, ov, tbl, vbl, ty, vy] <;> rfl) | (simp <;> omega) | (simp []; done) | (rw [List.take_of_length_le (by simp [])] <;> rfl) | (simp [List.take_of_length_le]; done)) (fun _ h => h)
 ·refine WP.no h1 rfl ?_
  refine WP.pn tm [] [] [2009, 2001] [(4, vo 2009 0), (3, vb false), (2, V.t (T.nils)), (1, V.ref 2001 0)] [(2001, oc 26 [tl x0, ti x1]), (2009, oc 4 [])] trivial ?_
  refine WP.seq ?_
  obtain ⟨r19, c1, h⟩ := bnd1_some h
  refine WP.pn tm [(19, An.callG [(9000, 10190)] [vi (ln x0), vi x1] [] (vo 9000 (List.length r19)) [(9000, oc 3 (List.map (ti) r19))])] [(True), (True), (CG Tryz.prog 85 [vi (ln x0), vi x1] [] (vo 9000 (List.length r19)) [(9000, oc 3 (List.map (ti) r19))]), (WkT (ti (ln x0)) (ti (ln x0))), (WkT (ti x1) (ti x1))] [10190, 2009, 2001] [(5, vo 10190 (List.length r19)), (4, vo 2009 0), (3, vb false), (2, V.t (T.nils)), (1, V.ref 2001 0)] [(2001, oc 26 [tl x0, ti x1]), (2009, oc 4 []), (10190, oc 3 (List.map (ti) r19))] ⟨trivial, trivial, (F_s6N_W (ln x0) x1 r19 c1), WkT.refl _, WkT.refl _, trivial⟩ ?_
  obtain ⟨J1, hJ1, h⟩ := jn_some h
  refine WP.joinA (fun (zz : (List Bool)) => ⟨[2009], [(4, vo 2009 (List.length zz)), (3, vb false), (2, V.t (T.nils))], [(2009, oc 4 (List.map T.bool zz))]⟩) (fun zz => J1 zz = some (y0, y1)) ?_ ?_
  ·refine WP.block ?_
   refine WP.lp (α := Nat × (List Int) × Int × (List Bool)) (fun zz => ⟨[2001, 2009, 10190], [(5, vo 10190 (List.length r19)), (4, vo 2009 (List.length zz.2.2.2)), (3, vb false), (2, V.t (T.nils)), (1, V.ref 2001 0)], [(2001, oc 26 [tl zz.2.1, ti zz.2.2.1]), (2009, oc 4 (List.map T.bool zz.2.2.2)), (10190, oc 3 (List.map (ti) r19))]⟩) (fun zz => F_s_LessWorst_L1 r19 J1 zz.1 zz.2.1 zz.2.2.1 zz.2.2.2 = some (y0, y1)) (fun zz => zz.1) (fuel, x0, x1, ([] : List Bool)) h ?_
   rintro ⟨n, o1, o1b, o9⟩ h0
   have h := (show F_s_LessWorst_L1 r19 J1 n o1 o1b o9 = some (y0, y1) from h0)
   rcases n with _ | n
   ·rw [F_s_LessWorst_L1] at h; cases h
   ·rw [F_s_LessWorst_L1] at h
    refine WP.seq ?_
    refine WP.seq ?_
    obtain ⟨c2, h⟩ := chk_some h
    refine WP.pk tm [(21, An.call (tb (decide ((ln (openN o1)) < (2 : Int)))))] [(0 + 2 ≤ 2), (C Tryz.prog 88 [T.agg [tl o1, ti o1b]] (tb (decide ((ln (openN o1)) < (2 : Int)))))] [(22, vb (!(decide ((ln (openN o1)) < (2 : Int))))), (5, vo 10190 (List.length r19)), (4, vo 2009 (List.length o9)), (3, vb false), (2, V.t (T.nils)), (1, V.ref 2001 0)] [(2001, oc 26 [tl o1, ti o1b]), (2009, oc 4 (List.map T.bool o9)), (10190, oc 3 (List.map (ti) r19))] ⟨by decide, (l6Done_C o1 o1b c2), trivial⟩ ?_
    rcases ite_some h with ⟨h2, h⟩ | ⟨h2, h⟩
    ·refine WP.yes h2 rfl ?_
     refine WP.pk tm [] [] [(5, vo 10190 (List.length r19)), (4, vo 2009 (List.length o9)), (3, vb false), (2, V.t (T.nils)), (1, V.ref 2001 0)] [(2001, oc 26 [tl o1, ti o1b]), (2009, oc 4 (List.map T.bool o9)), (10190, oc 3 (List.map (ti) r19))] trivial ?_
     refine WP.block ?_
     obtain ⟨r25, c3, h⟩ := bnd1_some h
     obtain ⟨r28, r28b, c4, h⟩ := bnd2_some h
     obtain ⟨r31, c5, h⟩ := bnd1_some h
     obtain ⟨c6, c7, h⟩ := chk2 h
     obtain ⟨n34, c8, h⟩ := nam_some h
     obtain ⟨r37, c9, h⟩ := bnd1_some h
     obtain ⟨c10, c11, h⟩ := chk2 h
     obtain ⟨r48, r48b, c12, h⟩ := bnd2_some h
     refine WP.nk tm [(25, An.call (ti r25)), (28, An.call (T.agg [tl r28, ti r28b])), (7, An.id 2007), (31, An.call (ti r31)), (33, An.v (ti (gt r19 r31 0))), (34, An.v (ti n34)), (37, An.call (ti r37)), (39, An.v (ti (gt r19 r37 0))), (43, An.fz), (44, An.id 2044), (48, An.call (T.agg [tl r48, ti r48b]))] [(2001, 2001), (2044, 2009), (10190, 10190)] .normal [(0 + 2 ≤ 2), (C Tryz.prog 89 [T.agg [tl o1, ti o1b], tl r19] (ti r25)), (List.length (List.map (ti) r19) = (List.length r19) * 1), (0 + 2 ≤ 2), (C Tryz.prog 92 [T.agg [tl o1, ti o1b], ti r25, tb false] (T.agg [tl r28, ti r28b])), ((0 + 2 ≤ 2 ∧ 2 = 2)), (0 + 2 ≤ 2), (C Tryz.prog 86 [T.agg [tl r28, ti r28b]] (ti r31)), (ib r31 r19), ((List.map (ti) r19 : List T)[(Int.toNat r31) * 1]? = some (ti (gt r19 r31 0))), (rf (ti (gt r19 r31 0))), (True), (ti (IntKind.wrap .i64 ((gt r19 r31 0) + 1)) = ti n34), (0 + 2 ≤ 2), (C Tryz.prog 86 [T.agg [tl o1, ti o1b]] (ti r37)), (ib r37 r19), ((List.map (ti) r19 : List T)[(Int.toNat r37) * 1]? = some (ti (gt r19 r37 0))), (rf (ti (gt r19 r37 0))), (True), ((1 = 1 ∧ 0 + 1 ≤ 1) ∧ True), (1 = 1 * 1), (True), (List.length (List.map T.bool o9) = (List.length o9) * 1), ((((List.length o9) + 1) * 1 ≤ 140737488355328 ∧ (List.length o9) + 1 ≤ maxLen)), (0 + 2 ≤ 2), (C Tryz.prog 92 [T.agg [tl o1, ti o1b], ti r25, tb (decide (n34 < (gt r19 r37 0)))] (T.agg [tl r48, ti r48b])), ((0 + 2 ≤ 2 ∧ 2 = 2))] [(5, vo 10190 (List.length r19)), (4, vo 2009 ((List.length o9) + 1)), (3, vb false), (2, V.t (T.nils)), (1, V.ref 2001 0)] [(2001, oc 26 [tl r48, ti r48b]), (2009, oc 4 ((List.map T.bool o9) ++ [tb (decide (n34 < (gt r19 r37 0)))])), (10190, oc 3 (List.map (ti) r19))] ⟨by decide, (F_s_l6Best_W o1 o1b r19 r25 c3), by first | rfl | omega | (simp only [tlL] <;> omega) | (simp <;> omega) | (simp [] <;> omega), by decide, (F_s_l6After_W_C o1 o1b r25 false r28 r28b c4), by decide, by decide, (F_s_l6Key_W r28 r28b r31 c5), c6, atM (by simp) (by first | omega | (simp only [tlL]; omega) | (simp; omega)), rfl, trivial, Eq.trans (wrapI c7) (congrArg (ti) c8), by decide, (F_s_l6Key_W o1 o1b r37 c9), c10, atM (by simp) (by first | omega | (simp only [tlL]; omega) | (simp; omega)), rfl, trivial, ⟨⟨by first | rfl | (simp; done) | (simp []; done) | omega, by first | decide | (simp; done) | (simp []; done) | omega | (simp only [tlL]; omega) | (simp; omega)⟩, trivial⟩, by decide, trivial, by first | rfl | omega | (simp only [tlL] <;> omega) | (simp <;> omega) | (simp [] <;> omega), c11, by decide, (F_s_l6After_W_C o1 o1b r25 (decide (n34 < (gt r19 r37 0))) r48 r48b c12), by decide, trivial⟩ ?_
     exact ⟨(n, r48, r48b, o9 ++ [decide (n34 < (gt r19 r37 0))]), h, Nat.lt_succ_self _, (by first | rfl | (simp only [tlS, tl, vl, vo, oc, ov, tbl, vbl, ty, vy] <;> rfl) | (simp <;> omega) | (simp []; done) | (rw [List.take_of_length_le (by simp [])] <;> rfl) | (simp [List.take_of_length_le]; done))⟩
    ·refine WP.no h2 rfl ?_
     refine WP.eq tm [] 0 [] [(4, vo 2009 (List.length o9)), (3, vb false), (2, V.t (T.nils))] [(2009, oc 4 (List.map T.bool o9))] trivial ?_
     exact ⟨(o9), h, rfl⟩
  ·intro o9 h0
   have h := (show J1 o9 = some (y0, y1) from h0)
   rw [hJ1] at h
   simp only [Option.some.injEq, Prod.mk.injEq] at h
   obtain ⟨rfl, rfl⟩ := h
   exact WP.pathG tab_ok mixed [] [.keep [2, 3], .keepO [2009], .names [(2009, 9000)]] [9000] _ (r' := V.tup [vo 9000 (List.length o9), vb true]) (ps := []) (r := V.tup [vo 9000 (List.length o9), vb true]) (N := [9000]) (O := [(9000, oc 4 (List.map T.bool o9))]) [] (by kernel_rfl) trivial ⟨rfl, (WkT.refl _), trivial⟩ rfl rfl (fun _ h => h)
theorem F_s_LessWorst_W_C (x0 : List Int) (x1 : Int) (y0 : List Bool) (y1 : Bool) (h : F_s_LessWorst x0 x1 = some (y0, y1)) : C Tryz.prog 31 [T.agg [tl x0, ti x1]] (T.tup [tbl y0, tb y1]) :=
 CG.toC (ps := [(List.length (List.map T.bool y0) = (List.length y0) * 1)]) (F_s_LessWorst_W  x0 x1 y0 y1 h) (by rfl) ⟨by first | rfl | omega | (simp <;> omega) | (simp [hl] <;> omega), trivial⟩
theorem F_s_DrawNeedOfLess_W (x0 : List Int) (y0 : List Int) (y1 : Int) (y2 : Int) (h : F_s_DrawNeedOfLess x0 = some (y0, y1, y2)) : CG Tryz.prog 32 [vy x0] [] (V.tup [V.agg [vo 9000 (List.length y0), vi y1], vi y2]) [(9000, oc 3 (List.map (ti) y0))] := by
 unfold F_s_DrawNeedOfLess at h
 refine CG.intro (tab := tab) tab_ok (fn := Tryz.f32) Tryz.func32 (by kernel_rfl) rfl (Nat.le_of_ble_eq_true rfl) (by kernel_rfl) ?_
 obtain ⟨r10, r10b, r10c, r10d, r10e, c0, h⟩ := bnd5_some h
 obtain ⟨c1, h⟩ := chk_some h
 obtain ⟨n17, c2, h⟩ := nam_some h
 obtain ⟨r18, r18b, r18c, r18d, c3, h⟩ := bnd4_some h
 simp only [Option.some.injEq, Prod.mk.injEq] at h
 obtain ⟨rfl, rfl, rfl⟩ := h
 exact WP.pathG tab_ok mixed [(2, An.id 2002), (8, An.id 2008), (10, An.callG [(500, 2008), (9000, 10100)] [V.ref 500 0] [(500, oc 65 [ty x0, ti 0, T.int .u64 0])] (V.agg [vo 9000 (List.length r10), vi r10b]) [(500, oc 65 [ty r10c, ti r10d, T.int .u64 r10e]), (9000, oc 3 (List.map (ti) r10))]), (5, An.id 2005), (16, An.call (ti (maxN (1 : Int) (ln r10)))), (17, An.v (ti n17)), (18, An.callG [(500, 2008)] [V.ref 500 0, vi n17] [(500, oc 65 [ty r10c, ti r10d, T.int .u64 r10e])] (vi r18) [(500, oc 65 [ty r18b, ti r18c, T.int .u64 r18d])])] [.keep [2, 3], .keepO [10100, 2002], .names [(10100, 9000), (2002, 2002)]] [9000] _ (r' := V.tup [V.agg [vo 9000 (List.length r10), vi r10b], vi r18]) (ps := [((1 = 1 ∧ 0 + 1 ≤ 3) ∧ True), (CG Tryz.prog 80 [V.ref 500 0] [(500, oc 65 [ty x0, ti 0, T.int .u64 0])] (V.agg [vo 9000 (List.length r10), vi r10b]) [(500, oc 65 [ty r10c, ti r10d, T.int .u64 r10e]), (9000, oc 3 (List.map (ti) r10))]), ((V.ref 500 0).ren (renF [(500, 2008), (9000, 10100)]) = V.ref 2008 0), (rn (oc 65 [ty x0, ti 0, T.int .u64 0]) [(500, 2008), (9000, 10100)]), ((0 + 2 ≤ 2 ∧ 2 = 2)), (0 + 2 ≤ 2), (True), (C Tryz.prog 71 [ti 1, ti (ln r10)] (ti (maxN (1 : Int) (ln r10)))), (True), (ti (IntKind.wrap .i64 ((maxN (1 : Int) (ln r10)) + 1)) = ti n17), (CG Tryz.prog 70 [V.ref 500 0, vi n17] [(500, oc 65 [ty r10c, ti r10d, T.int .u64 r10e])] (vi r18) [(500, oc 65 [ty r18b, ti r18c, T.int .u64 r18d])]), ((V.ref 500 0).ren (renF [(500, 2008)]) = V.ref 2008 0), (WkT (ti n17) (ti n17)), (rn (oc 65 [ty r10c, ti r10d, T.int .u64 r10e]) [(500, 2008)]), ((0 + 2 ≤ 2 ∧ 2 = 2)), (0 + 2 ≤ 2)]) (r := V.tup [V.agg [vo 9000 (List.length r10), vi r10b], vi r18]) (N := [9000, 2002]) (O := [(9000, oc 3 (List.map (ti) r10))]) [] (by kernel_rfl) ⟨⟨⟨by first | rfl | (simp; done) | (simp []; done) | omega, by first | decide | (simp; done) | (simp []; done) | omega | (simp only [tlL]; omega) | (simp; omega)⟩, trivial⟩, (F_pc_short_W x0 (0 : Int) (0 : Int) r10 r10b r10c r10d r10e c0), by first | rfl | (simp [V.ren, V.renL, renF, lk]; done) | (simp [V.ren, V.renL, renF, lk]; omega), rfl, by decide, by decide, trivial, (by have hh := (l1Most_C (1 : Int) (ln r10)); first | exact hh | simpa using hh), trivial, Eq.trans (wrapI c1) (congrArg (ti) c2), (F_pc_pick_W r10c r10d r10e n17 r18 r18b r18c r18d c3), by first | rfl | (simp [V.ren, V.renL, renF, lk]; done) | (simp [V.ren, V.renL, renF, lk]; omega), WkT.refl _, rfl, by decide, by decide, trivial⟩ ⟨rfl, (WkT.refl _), (WkT.refl _), trivial⟩ rfl rfl (fun _ h => h)
theorem F_s_DrawNeedOfLess_W_C (x0 : List Int) (y0 : List Int) (y1 : Int) (y2 : Int) (h : F_s_DrawNeedOfLess x0 = some (y0, y1, y2)) : C Tryz.prog 32 [ty x0] (T.tup [T.agg [tl y0, ti y1], ti y2]) :=
 CG.toC (ps := [(List.length (List.map (ti) y0) = (List.length y0) * 1)]) (F_s_DrawNeedOfLess_W  x0 y0 y1 y2 h) (by rfl) ⟨by first | rfl | omega | (simp <;> omega) | (simp [hl] <;> omega), trivial⟩
theorem F_i_isLess_W (x0 : Int) (x1 : Int) (y0 : Bool) (h : F_i_isLess x0 x1 = some y0) : C Tryz.prog 93 [ti x0, ti x1] (tb y0) := by
 unfold F_i_isLess at h
 refine C.intro (tab := tab) tab_ok (fn := Tryz.f93) Tryz.func93 (by kernel_rfl) rfl (Nat.le_of_ble_eq_true rfl) ?_
 rcases ite_some h with ⟨h1, h⟩ | ⟨h1, h⟩
 ·obtain ⟨c0, h⟩ := chk_some h
  have h := Option.some.inj h
  subst h
  exact WP.pathW tab_ok mixed [(6, An.call (tb true)), (10, An.v (ti (x0 - 1))), (11, An.call (tb (decide ((1 : Int) ≤ x1) && decide (x1 ≤ (x0 - 1)))))] _ (ps := [(C Tryz.prog 126 [ti x0] (tb true)), (True), (wr (x0 - 1)), (C Tryz.prog 99 [ti x1, ti 1, ti (x0 - 1)] (tb (decide ((1 : Int) ≤ x1) && decide (x1 ≤ (x0 - 1)))))]) (r := tb (decide ((1 : Int) ≤ x1) && decide (x1 ≤ (x0 - 1)))) (by kernel_rfl) ⟨(C.toB h1 (isCount_C x0)), trivial, wrapI c0, (by have hh := (in_C x1 (1 : Int) (x0 - 1)); first | exact hh | simpa using hh), trivial⟩ (WkT.eq (y := tb (decide ((1 : Int) ≤ x1) && decide (x1 ≤ (x0 - 1)))) (WkT.refl _) rfl) (fun _ h => h)
 ·have h := Option.some.inj h
  subst h
  exact WP.pathW tab_ok mixed [(6, An.call (tb false))] _ (ps := [(C Tryz.prog 126 [ti x0] (tb false))]) (r := tb false) (by kernel_rfl) ⟨(C.toB h1 (isCount_C x0)), trivial⟩ (WkT.eq (y := tb false) (WkT.refl _) rfl) (fun _ h => h)
theorem F_i_NeedOfLess_W (x0 : List Int) (x1 : Int) (x2 : Int) (y0 : Int) (y1 : Bool) (h : F_i_NeedOfLess x0 x1 x2 = some (y0, y1)) : C Tryz.prog 33 [T.agg [tl x0, ti x1], ti x2] (T.tup [ti y0, tb y1]) := by
 unfold F_i_NeedOfLess at h
 refine C.intro (tab := tab) tab_ok (fn := Tryz.f33) Tryz.func33 (by kernel_rfl) rfl (Nat.le_of_ble_eq_true rfl) ?_
 refine WP.sk tm [(2, An.fz)] [] [(5, vb false), (4, vi 0), (2, V.t (T.ptr [tl x0, ti x1])), (1, vi x2)] [] trivial ?_
 refine WP.seq ?_
 obtain ⟨J1, hJ1, h⟩ := jn_some h
 refine WP.joinA (fun (zz : Bool) => ⟨[], [(22, vb zz), (5, vb false), (4, vi 0), (2, V.t (T.ptr [tl x0, ti x1])), (1, vi x2)], []⟩) (fun zz => J1 zz = some (y0, y1)) ?_ ?_
 ·obtain ⟨c0, h⟩ := chk_some h
  rcases ite_some h with ⟨h1, h⟩ | ⟨h1, h⟩
  ·refine WP.qk tm [(7, An.call (tb (shortN x0 x1))), (9, An.b true)] [(2 ≤ 2), (C Tryz.prog 81 [T.agg [tl x0, ti x1]] (tb (shortN x0 x1))), ((!(shortN x0 x1)) = true)] [(22, vb true), (5, vb false), (4, vi 0), (2, V.t (T.ptr [tl x0, ti x1])), (1, vi x2)] [] ⟨by decide, (isShort_C x0 x1 c0), h1, trivial⟩ ?_
   exact ⟨(true), h, rfl⟩
  ·obtain ⟨r14, c1, h⟩ := bnd1_some h
   rcases ite_some h with ⟨h2, h⟩ | ⟨h2, h⟩
   ·refine WP.qk tm [(7, An.call (tb (shortN x0 x1))), (9, An.b false), (14, An.call (tb r14)), (17, An.b true)] [(2 ≤ 2), (C Tryz.prog 81 [T.agg [tl x0, ti x1]] (tb (shortN x0 x1))), ((!(shortN x0 x1)) = false), (True), (C Tryz.prog 93 [ti (ln x0), ti x2] (tb r14)), ((!r14) = true)] [(22, vb true), (5, vb false), (4, vi 0), (2, V.t (T.ptr [tl x0, ti x1])), (1, vi x2)] [] ⟨by decide, (isShort_C x0 x1 c0), h1, trivial, (F_i_isLess_W (ln x0) x2 r14 c1), h2, trivial⟩ ?_
    exact ⟨(true), h, rfl⟩
   ·obtain ⟨c2, h⟩ := chk_some h
    refine WP.qk tm [(7, An.call (tb (shortN x0 x1))), (9, An.b false), (14, An.call (tb r14)), (17, An.b false), (19, An.callG [(9000, 10190)] [V.t (T.agg [tl x0, ti x1])] [] (vo 9000 (List.length (openN x0))) [(9000, oc 3 (List.map (ti) (openN x0)))])] [(2 ≤ 2), (C Tryz.prog 81 [T.agg [tl x0, ti x1]] (tb (shortN x0 x1))), ((!(shortN x0 x1)) = false), (True), (C Tryz.prog 93 [ti (ln x0), ti x2] (tb r14)), ((!r14) = false), (2 ≤ 2), (CG Tryz.prog 57 [V.t (T.agg [tl x0, ti x1])] [] (vo 9000 (List.length (openN x0))) [(9000, oc 3 (List.map (ti) (openN x0)))]), (WkT (T.agg [tl x0, ti x1]) (T.agg [tl x0, ti x1])), (True)] [(22, vb (decide ((ln (openN x0)) ≤ (1 : Int)))), (5, vb false), (4, vi 0), (2, V.t (T.ptr [tl x0, ti x1])), (1, vi x2)] [] ⟨by decide, (isShort_C x0 x1 c0), h1, trivial, (F_i_isLess_W (ln x0) x2 r14 c1), h2, by decide, (open_C_G x0 x1 c2), WkT.refl _, trivial, trivial⟩ ?_
    exact ⟨(decide ((ln (openN x0)) ≤ (1 : Int))), h, rfl⟩
 ·intro v22 h0
  have h := (show J1 v22 = some (y0, y1) from h0)
  rw [hJ1] at h
  rcases ite_some h with ⟨h3, h⟩ | ⟨h3, h⟩
  ·refine WP.yes h3 rfl ?_
   simp only [Option.some.injEq, Prod.mk.injEq] at h
   obtain ⟨rfl, rfl⟩ := h
   exact WP.pathW tab_ok mixed [] _ (ps := []) (r := T.tup [ti 0, tb false]) (by kernel_rfl) trivial (WkT.eq (y := T.tup [ti 0, tb false]) (WkT.refl _) (by first | rfl | (simp only [tlS, tl, vl, vo, oc, ov, tbl, vbl, ty, vy] <;> rfl) | (simp <;> omega) | (simp []; done) | (rw [List.take_of_length_le (by simp [])] <;> rfl) | (simp [List.take_of_length_le]; done))) (fun _ h => h)
  ·refine WP.no h3 rfl ?_
   refine WP.pk tm [] [] [(5, vb false), (4, vi 0), (2, V.t (T.ptr [tl x0, ti x1])), (1, vi x2)] [] trivial ?_
   obtain ⟨r23, c0, h⟩ := bnd1_some h
   obtain ⟨r26, r26b, r26c, c1, h⟩ := bnd3_some h
   simp only [Option.some.injEq, Prod.mk.injEq] at h
   obtain ⟨rfl, rfl⟩ := h
   exact WP.pathW tab_ok mixed [(23, An.callG [(9000, 10230)] [] [] (V.agg [V.mapr 9000]) [(9000, Tl.Obj.map (mpI r23))]), (26, An.callG [(500, 10230)] [V.agg [V.mapr 500], V.t (T.agg [tl x0, ti x1]), vi x2] [(500, Tl.Obj.map (mpI r23))] (V.t (T.tup [ti r26, tb r26b])) [(500, Tl.Obj.map (mpI r26c))])] _ (ps := [(CG Tryz.prog 82 [] [] (V.agg [V.mapr 9000]) [(9000, Tl.Obj.map (mpI r23))]), (2 ≤ 2), (CG Tryz.prog 94 [V.agg [V.mapr 500], V.t (T.agg [tl x0, ti x1]), vi x2] [(500, Tl.Obj.map (mpI r23))] (V.t (T.tup [ti r26, tb r26b])) [(500, Tl.Obj.map (mpI r26c))]), ((V.agg [V.mapr 500]).ren (renF [(500, 10230)]) = V.agg [V.mapr 10230]), (WkT (T.agg [tl x0, ti x1]) (T.agg [tl x0, ti x1])), (WkT (ti x2) (ti x2)), ((Tl.Obj.map (mpI r23)) = (Tl.Obj.map (mpI r23)).ren (renF [(500, 10230)]))]) (r := T.tup [ti r26, tb r26b]) (by kernel_rfl) ⟨(F_i_newLesser_W  r23 c0), by decide, (F_il_ofLess_B_W (F_il_need fuel) (F_il_need_W fuel) r23 x0 x1 x2 r26 r26b r26c c1), by first | rfl | (simp [V.ren, V.renL, renF, lk]; done) | (simp [V.ren, V.renL, renF, lk]; omega), WkT.refl _, WkT.refl _, rfl, trivial⟩ (WkT.eq (y := T.tup [ti r26, tb r26b]) (WkT.refl _) rfl) (fun _ h => h)
theorem F_s_l6Compare_W (x0 : Int) (x1 : Int) (y0 : Bool) (h : F_s_l6Compare x0 x1 = some y0) : C Tryz.prog 95 [ti x0, ti x1] (tb y0) := by
 unfold F_s_l6Compare at h
 refine C.intro (tab := tab) tab_ok (fn := Tryz.f95) Tryz.func95 (by kernel_rfl) rfl (Nat.le_of_ble_eq_true rfl) ?_
 rcases ite_some h with ⟨h1, h⟩ | ⟨h1, h⟩
 ·obtain ⟨c0, h⟩ := chk_some h
  have h := Option.some.inj h
  subst h
  exact WP.pathW tab_ok mixed [(6, An.call (tb true)), (10, An.v (ti (x0 - 1))), (11, An.call (tb (decide (x1 ≥ (1 : Int)) && decide (x1 ≤ (x0 - 1)))))] _ (ps := [(C Tryz.prog 135 [ti x0] (tb true)), (True), (wr (x0 - 1)), (C Tryz.prog 101 [ti x1, ti 1, ti (x0 - 1)] (tb (decide (x1 ≥ (1 : Int)) && decide (x1 ≤ (x0 - 1)))))]) (r := tb (decide (x1 ≥ (1 : Int)) && decide (x1 ≤ (x0 - 1)))) (by kernel_rfl) ⟨(C.toB h1 (l2Numbers_C x0)), trivial, wrapI c0, (by have hh := (l1In_C x1 (1 : Int) (x0 - 1)); first | exact hh | simpa using hh), trivial⟩ (WkT.eq (y := tb (decide (x1 ≥ (1 : Int)) && decide (x1 ≤ (x0 - 1)))) (WkT.refl _) rfl) (fun _ h => h)
 ·have h := Option.some.inj h
  subst h
  exact WP.pathW tab_ok mixed [(6, An.call (tb false))] _ (ps := [(C Tryz.prog 135 [ti x0] (tb false))]) (r := tb false) (by kernel_rfl) ⟨(C.toB h1 (l2Numbers_C x0)), trivial⟩ (WkT.eq (y := tb false) (WkT.refl _) rfl) (fun _ h => h)
theorem F_s_NeedOfLess_W (x0 : List Int) (x1 : Int) (x2 : Int) (y0 : Int) (y1 : Bool) (h : F_s_NeedOfLess x0 x1 x2 = some (y0, y1)) : C Tryz.prog 34 [T.agg [tl x0, ti x1], ti x2] (T.tup [ti y0, tb y1]) := by
 unfold F_s_NeedOfLess at h
 refine C.intro (tab := tab) tab_ok (fn := Tryz.f34) Tryz.func34 (by kernel_rfl) rfl (Nat.le_of_ble_eq_true rfl) ?_
 refine WP.sk tm [(2, An.fz)] [] [(5, vb false), (4, vi 0), (2, V.t (T.ptr [tl x0, ti x1])), (1, vi x2)] [] trivial ?_
 refine WP.seq ?_
 obtain ⟨J1, hJ1, h⟩ := jn_some h
 refine WP.joinA (fun (zz : Bool) => ⟨[], [(21, vb zz), (5, vb false), (4, vi 0), (2, V.t (T.ptr [tl x0, ti x1])), (1, vi x2)], []⟩) (fun zz => J1 zz = some (y0, y1)) ?_ ?_
 ·obtain ⟨c0, h⟩ := chk_some h
  rcases ite_some h with ⟨h1, h⟩ | ⟨h1, h⟩
  ·refine WP.qk tm [(8, An.call (tb (shortN x0 x1))), (10, An.b true)] [(2 ≤ 2), (C Tryz.prog 84 [T.agg [tl x0, ti x1]] (tb (shortN x0 x1))), ((!(shortN x0 x1)) = true)] [(21, vb true), (5, vb false), (4, vi 0), (2, V.t (T.ptr [tl x0, ti x1])), (1, vi x2)] [] ⟨by decide, (l6Short_C x0 x1 c0), h1, trivial⟩ ?_
   exact ⟨(true), h, rfl⟩
  ·obtain ⟨c1, h⟩ := chk_some h
   rcases ite_some h with ⟨h2, h⟩ | ⟨h2, h⟩
   ·refine WP.qk tm [(8, An.call (tb (shortN x0 x1))), (10, An.b false), (12, An.call (tb true))] [(2 ≤ 2), (C Tryz.prog 84 [T.agg [tl x0, ti x1]] (tb (shortN x0 x1))), ((!(shortN x0 x1)) = false), (2 ≤ 2), (C Tryz.prog 88 [T.agg [tl x0, ti x1]] (tb true))] [(21, vb true), (5, vb false), (4, vi 0), (2, V.t (T.ptr [tl x0, ti x1])), (1, vi x2)] [] ⟨by decide, (l6Short_C x0 x1 c0), h1, by decide, (C.toB h2 (l6Done_C x0 x1 c1)), trivial⟩ ?_
    exact ⟨(true), h, rfl⟩
   ·obtain ⟨r19, c2, h⟩ := bnd1_some h
    refine WP.qk tm [(8, An.call (tb (shortN x0 x1))), (10, An.b false), (12, An.call (tb false)), (19, An.call (tb r19))] [(2 ≤ 2), (C Tryz.prog 84 [T.agg [tl x0, ti x1]] (tb (shortN x0 x1))), ((!(shortN x0 x1)) = false), (2 ≤ 2), (C Tryz.prog 88 [T.agg [tl x0, ti x1]] (tb false)), (True), (C Tryz.prog 95 [ti (ln x0), ti x2] (tb r19))] [(21, vb (!r19)), (5, vb false), (4, vi 0), (2, V.t (T.ptr [tl x0, ti x1])), (1, vi x2)] [] ⟨by decide, (l6Short_C x0 x1 c0), h1, by decide, (C.toB h2 (l6Done_C x0 x1 c1)), trivial, (F_s_l6Compare_W (ln x0) x2 r19 c2), trivial⟩ ?_
    exact ⟨(!r19), h, rfl⟩
 ·intro v21 h0
  have h := (show J1 v21 = some (y0, y1) from h0)
  rw [hJ1] at h
  rcases ite_some h with ⟨h3, h⟩ | ⟨h3, h⟩
  ·refine WP.yes h3 rfl ?_
   simp only [Option.some.injEq, Prod.mk.injEq] at h
   obtain ⟨rfl, rfl⟩ := h
   exact WP.pathW tab_ok mixed [] _ (ps := []) (r := T.tup [ti 0, tb false]) (by kernel_rfl) trivial (WkT.eq (y := T.tup [ti 0, tb false]) (WkT.refl _) (by first | rfl | (simp only [tlS, tl, vl, vo, oc, ov, tbl, vbl, ty, vy] <;> rfl) | (simp <;> omega) | (simp []; done) | (rw [List.take_of_length_le (by simp [])] <;> rfl) | (simp [List.take_of_length_le]; done))) (fun _ h => h)
  ·refine WP.no h3 rfl ?_
   refine WP.pk tm [] [] [(5, vb false), (4, vi 0), (2, V.t (T.ptr [tl x0, ti x1])), (1, vi x2)] [] trivial ?_
   obtain ⟨r29, c0, h⟩ := bnd1_some h
   obtain ⟨r30, c1, h⟩ := bnd1_some h
   simp only [Option.some.injEq, Prod.mk.injEq] at h
   obtain ⟨rfl, rfl⟩ := h
   exact WP.pathW tab_ok mixed [(29, An.callG [(9000, 10290)] [vi (ln x0), vi x1] [] (vo 9000 (List.length r29)) [(9000, oc 3 (List.map (ti) r29))]), (30, An.call (ti r30)), (32, An.call (ti (maxN r30 (0 : Int))))] _ (ps := [(2 ≤ 2), (True), (True), (CG Tryz.prog 85 [vi (ln x0), vi x1] [] (vo 9000 (List.length r29)) [(9000, oc 3 (List.map (ti) r29))]), (WkT (ti (ln x0)) (ti (ln x0))), (WkT (ti x1) (ti x1)), (C Tryz.prog 96 [T.agg [tl x0, ti x1], ti x2, tl r29] (ti r30)), (List.length (List.map (ti) r29) = (List.length r29) * 1), (C Tryz.prog 71 [ti r30, ti 0] (ti (maxN r30 (0 : Int)))), (True)]) (r := T.tup [ti (maxN r30 (0 : Int)), tb (decide (r30 ≥ (0 : Int)))]) (by kernel_rfl) ⟨by decide, trivial, trivial, (F_s6N_W (ln x0) x1 r29 c0), WkT.refl _, WkT.refl _, (F_s_l6NeedOf_W x0 x1 x2 r29 r30 c1), by first | rfl | omega | (simp only [tlL] <;> omega) | (simp <;> omega) | (simp [] <;> omega), (by have hh := (l1Most_C r30 (0 : Int)); first | exact hh | simpa using hh), trivial, trivial⟩ (WkT.eq (y := T.tup [ti (maxN r30 (0 : Int)), tb (decide (r30 ≥ (0 : Int)))]) (WkT.refl _) rfl) (fun _ h => h)
theorem F_s_DrawLessQuestion_W (x0 : List Int) (y0 : Int) (y1 : Int) (h : F_s_DrawLessQuestion x0 = some (y0, y1)) : C Tryz.prog 35 [ty x0] (T.tup [ti y0, ti y1]) := by
 unfold F_s_DrawLessQuestion at h
 refine C.intro (tab := tab) tab_ok (fn := Tryz.f35) Tryz.func35 (by kernel_rfl) rfl (Nat.le_of_ble_eq_true rfl) ?_
 obtain ⟨r10, r10b, r10c, r10d, c0, h⟩ := bnd4_some h
 obtain ⟨c1, h⟩ := chk_some h
 obtain ⟨r16, r16b, r16c, r16d, c2, h⟩ := bnd4_some h
 obtain ⟨r18, r18b, r18c, r18d, c3, h⟩ := bnd4_some h
 obtain ⟨c4, c5, h⟩ := chk2 h
 simp only [Option.some.injEq, Prod.mk.injEq] at h
 obtain ⟨rfl, rfl⟩ := h
 exact WP.pathW tab_ok mixed [(8, An.id 2008), (10, An.callG [(500, 2008)] [V.ref 500 0] [(500, oc 65 [ty x0, ti 0, T.int .u64 0])] (vi r10) [(500, oc 65 [ty r10b, ti r10c, T.int .u64 r10d])]), (14, An.call (ti (maxN (1 : Int) r10))), (15, An.v (ti ((maxN (1 : Int) r10) + 1))), (16, An.callG [(500, 2008)] [V.ref 500 0, vi ((maxN (1 : Int) r10) + 1)] [(500, oc 65 [ty r10b, ti r10c, T.int .u64 r10d])] (vi r16) [(500, oc 65 [ty r16b, ti r16c, T.int .u64 r16d])]), (18, An.callG [(500, 2008)] [V.ref 500 0, vi 24] [(500, oc 65 [ty r16b, ti r16c, T.int .u64 r16d])] (vi r18) [(500, oc 65 [ty r18b, ti r18c, T.int .u64 r18d])]), (19, An.v (ti (Int.tdiv r18 (23 : Int)))), (20, An.v (ti (r16 - (Int.tdiv r18 (23 : Int)))))] _ (ps := [((1 = 1 ∧ 0 + 1 ≤ 3) ∧ True), (CG Tryz.prog 97 [V.ref 500 0] [(500, oc 65 [ty x0, ti 0, T.int .u64 0])] (vi r10) [(500, oc 65 [ty r10b, ti r10c, T.int .u64 r10d])]), ((V.ref 500 0).ren (renF [(500, 2008)]) = V.ref 2008 0), (rn (oc 65 [ty x0, ti 0, T.int .u64 0]) [(500, 2008)]), (C Tryz.prog 71 [ti 1, ti r10] (ti (maxN (1 : Int) r10))), (True), (wr ((maxN (1 : Int) r10) + 1)), (CG Tryz.prog 70 [V.ref 500 0, vi ((maxN (1 : Int) r10) + 1)] [(500, oc 65 [ty r10b, ti r10c, T.int .u64 r10d])] (vi r16) [(500, oc 65 [ty r16b, ti r16c, T.int .u64 r16d])]), ((V.ref 500 0).ren (renF [(500, 2008)]) = V.ref 2008 0), (WkT (ti ((maxN (1 : Int) r10) + 1)) (ti ((maxN (1 : Int) r10) + 1))), (rn (oc 65 [ty r10b, ti r10c, T.int .u64 r10d]) [(500, 2008)]), (CG Tryz.prog 70 [V.ref 500 0, vi 24] [(500, oc 65 [ty r16b, ti r16c, T.int .u64 r16d])] (vi r18) [(500, oc 65 [ty r18b, ti r18c, T.int .u64 r18d])]), ((V.ref 500 0).ren (renF [(500, 2008)]) = V.ref 2008 0), (WkT (ti 24) (ti 24)), (rn (oc 65 [ty r16b, ti r16c, T.int .u64 r16d]) [(500, 2008)]), ((23 : Int) ≠ 0), (wr (Int.tdiv r18 (23 : Int))), (True), (wr (r16 - (Int.tdiv r18 (23 : Int))))]) (r := T.tup [ti r10, ti (r16 - (Int.tdiv r18 (23 : Int)))]) (by kernel_rfl) ⟨⟨⟨by first | rfl | (simp; done) | (simp []; done) | omega, by first | decide | (simp; done) | (simp []; done) | omega | (simp only [tlL]; omega) | (simp; omega)⟩, trivial⟩, (F_pc_many_W x0 (0 : Int) (0 : Int) r10 r10b r10c r10d c0), by first | rfl | (simp [V.ren, V.renL, renF, lk]; done) | (simp [V.ren, V.renL, renF, lk]; omega), rfl, (by have hh := (l1Most_C (1 : Int) r10); first | exact hh | simpa using hh), trivial, wrapI c1, (F_pc_pick_W r10b r10c r10d ((maxN (1 : Int) r10) + 1) r16 r16b r16c r16d c2), by first | rfl | (simp [V.ren, V.renL, renF, lk]; done) | (simp [V.ren, V.renL, renF, lk]; omega), WkT.refl _, rfl, (F_pc_pick_W r16b r16c r16d (24 : Int) r18 r18b r18c r18d c3), by first | rfl | (simp [V.ren, V.renL, renF, lk]; done) | (simp [V.ren, V.renL, renF, lk]; omega), WkT.refl _, rfl, (show (23 : Int) ≠ 0 by first | decide | (simp only [maxLen]; omega) | (unfold I64; omega) | (unfold I64; decide)), quo_told c4, trivial, wrapI c5, trivial⟩ (WkT.eq (y := T.tup [ti r10, ti (r16 - (Int.tdiv r18 (23 : Int)))]) (WkT.refl _) rfl) (fun _ h => h)
theorem F_i_LessQuestion_W (x0 : Int) (x1 : Int) (y0 : Int) (y1 : Bool) (h : F_i_LessQuestion x0 x1 = some (y0, y1)) : C Tryz.prog 36 [ti x0, ti x1] (T.tup [ti y0, tb y1]) := by
 unfold F_i_LessQuestion at h
 refine C.intro (tab := tab) tab_ok (fn := Tryz.f36) Tryz.func36 (by kernel_rfl) rfl (Nat.le_of_ble_eq_true rfl) ?_
 refine WP.sk tm [] [] [(5, vb false), (4, vi 0), (0, vi x0), (1, vi x1)] [] trivial ?_
 refine WP.seq ?_
 refine WP.seq ?_
 obtain ⟨r8, c0, h⟩ := bnd1_some h
 refine WP.pk tm [(8, An.call (tb r8))] [(C Tryz.prog 93 [ti x0, ti x1] (tb r8))] [(9, vb (!r8)), (5, vb false), (4, vi 0), (1, vi x1)] [] ⟨(F_i_isLess_W x0 x1 r8 c0), trivial⟩ ?_
 rcases ite_some h with ⟨h1, h⟩ | ⟨h1, h⟩
 ·refine WP.yes h1 rfl ?_
  simp only [Option.some.injEq, Prod.mk.injEq] at h
  obtain ⟨rfl, rfl⟩ := h
  exact WP.pathW tab_ok mixed [] _ (ps := []) (r := T.tup [ti 0, tb false]) (by kernel_rfl) trivial (WkT.eq (y := T.tup [ti 0, tb false]) (WkT.refl _) (by first | rfl | (simp only [tlS, tl, vl, vo, oc, ov, tbl, vbl, ty, vy] <;> rfl) | (simp <;> omega) | (simp []; done) | (rw [List.take_of_length_le (by simp [])] <;> rfl) | (simp [List.take_of_length_le]; done))) (fun _ h => h)
 ·refine WP.no h1 rfl ?_
  refine WP.pk tm [] [] [(5, vb false), (4, vi 0), (1, vi x1)] [] trivial ?_
  obtain ⟨r11, c1, h⟩ := bnd1_some h
  simp only [Option.some.injEq, Prod.mk.injEq] at h
  obtain ⟨rfl, rfl⟩ := h
  exact WP.pathW tab_ok mixed [(11, An.call (ti r11))] _ (ps := [(C Tryz.prog 91 [ti x1] (ti r11))]) (r := T.tup [ti r11, tb true]) (by kernel_rfl) ⟨(F_i_less_W x1 r11 c1), trivial⟩ (WkT.eq (y := T.tup [ti r11, tb true]) (WkT.refl _) rfl) (fun _ h => h)
theorem F_s_LessQuestion_W (x0 : Int) (x1 : Int) (y0 : Int) (y1 : Bool) (h : F_s_LessQuestion x0 x1 = some (y0, y1)) : C Tryz.prog 37 [ti x0, ti x1] (T.tup [ti y0, tb y1]) := by
 unfold F_s_LessQuestion at h
 refine C.intro (tab := tab) tab_ok (fn := Tryz.f37) Tryz.func37 (by kernel_rfl) rfl (Nat.le_of_ble_eq_true rfl) ?_
 refine WP.sk tm [] [] [(5, vb false), (4, vi 0), (0, vi x0), (1, vi x1)] [] trivial ?_
 refine WP.seq ?_
 refine WP.seq ?_
 obtain ⟨r8, c0, h⟩ := bnd1_some h
 refine WP.pk tm [(8, An.call (tb r8))] [(C Tryz.prog 95 [ti x0, ti x1] (tb r8))] [(9, vb (!r8)), (5, vb false), (4, vi 0), (1, vi x1)] [] ⟨(F_s_l6Compare_W x0 x1 r8 c0), trivial⟩ ?_
 rcases ite_some h with ⟨h1, h⟩ | ⟨h1, h⟩
 ·refine WP.yes h1 rfl ?_
  simp only [Option.some.injEq, Prod.mk.injEq] at h
  obtain ⟨rfl, rfl⟩ := h
  exact WP.pathW tab_ok mixed [] _ (ps := []) (r := T.tup [ti 0, tb false]) (by kernel_rfl) trivial (WkT.eq (y := T.tup [ti 0, tb false]) (WkT.refl _) (by first | rfl | (simp only [tlS, tl, vl, vo, oc, ov, tbl, vbl, ty, vy] <;> rfl) | (simp <;> omega) | (simp []; done) | (rw [List.take_of_length_le (by simp [])] <;> rfl) | (simp [List.take_of_length_le]; done))) (fun _ h => h)
 ·refine WP.no h1 rfl ?_
  refine WP.pk tm [] [] [(5, vb false), (4, vi 0), (1, vi x1)] [] trivial ?_
  obtain ⟨c1, c2, h⟩ := chk2 h
  obtain ⟨n12, c3, h⟩ := nam_some h
  simp only [Option.some.injEq, Prod.mk.injEq] at h
  obtain ⟨rfl, rfl⟩ := h
  exact WP.pathW tab_ok mixed [(11, An.v (ti ((1 : Int) * 2 ^ Int.toNat x1))), (12, An.v (ti n12))] _ (ps := [(0 ≤ x1), (ti (IntKind.wrap .i64 ((1 : Int) * 2 ^ (min (Int.toNat x1) 64))) = ti ((1 : Int) * 2 ^ Int.toNat x1)), (True), (ti (IntKind.wrap .i64 (((1 : Int) * 2 ^ Int.toNat x1) - 1)) = ti n12)]) (r := T.tup [ti n12, tb true]) (by kernel_rfl) ⟨c1.1, shl_told c1, trivial, Eq.trans (wrapI c2) (congrArg (ti) c3), trivial⟩ (WkT.eq (y := T.tup [ti n12, tb true]) (WkT.refl _) rfl) (fun _ h => h)
theorem F_s_DrawLessTable_W (x0 : List Int) (y0 : Int) (h : F_s_DrawLessTable x0 = some y0) : C Tryz.prog 38 [ty x0] (ti y0) := by
 unfold F_s_DrawLessTable at h
 refine C.intro (tab := tab) tab_ok (fn := Tryz.f38) Tryz.func38 (by kernel_rfl) rfl (Nat.le_of_ble_eq_true rfl) ?_
 obtain ⟨r9, r9b, r9c, r9d, c0, h⟩ := bnd4_some h
 have h := Option.some.inj h
 subst h
 exact WP.pathW tab_ok mixed [(6, An.id 2006), (8, An.fz), (9, An.callG [(500, 2006)] [V.ref 500 0, vl [(0 : Int), (1 : Int), (2 : Int), (-1 : Int), (1 : Int), (0 : Int)]] [(500, oc 65 [ty x0, ti 0, T.int .u64 0])] (vi r9) [(500, oc 65 [ty r9b, ti r9c, T.int .u64 r9d])])] _ (ps := [((1 = 1 ∧ 0 + 1 ≤ 3) ∧ True), ((1 = 1 ∧ 0 + 1 ≤ 6) ∧ (1 = 1 ∧ 1 + 1 ≤ 6) ∧ (1 = 1 ∧ 2 + 1 ≤ 6) ∧ (1 = 1 ∧ 3 + 1 ≤ 6) ∧ (1 = 1 ∧ 4 + 1 ≤ 6) ∧ (1 = 1 ∧ 5 + 1 ≤ 6) ∧ True), (6 = 6 * 1), (CG Tryz.prog 98 [V.ref 500 0, vl [(0 : Int), (1 : Int), (2 : Int), (-1 : Int), (1 : Int), (0 : Int)]] [(500, oc 65 [ty x0, ti 0, T.int .u64 0])] (vi r9) [(500, oc 65 [ty r9b, ti r9c, T.int .u64 r9d])]), ((V.ref 500 0).ren (renF [(500, 2006)]) = V.ref 2006 0), (WkT (T.list 6 1 [ti 0, ti 1, ti 2, ti (-1), ti 1, ti 0]) (tl [(0 : Int), (1 : Int), (2 : Int), (-1 : Int), (1 : Int), (0 : Int)])), (rn (oc 65 [ty x0, ti 0, T.int .u64 0]) [(500, 2006)])]) (r := ti r9) (by kernel_rfl) ⟨⟨⟨by first | rfl | (simp; done) | (simp []; done) | omega, by first | decide | (simp; done) | (simp []; done) | omega | (simp only [tlL]; omega) | (simp; omega)⟩, trivial⟩, ⟨⟨by first | rfl | (simp; done) | (simp []; done) | omega, by first | decide | (simp; done) | (simp []; done) | omega | (simp only [tlL]; omega) | (simp; omega)⟩, ⟨by first | rfl | (simp; done) | (simp []; done) | omega, by first | decide | (simp; done) | (simp []; done) | omega | (simp only [tlL]; omega) | (simp; omega)⟩, ⟨by first | rfl | (simp; done) | (simp []; done) | omega, by first | decide | (simp; done) | (simp []; done) | omega | (simp only [tlL]; omega) | (simp; omega)⟩, ⟨by first | rfl | (simp; done) | (simp []; done) | omega, by first | decide | (simp; done) | (simp []; done) | omega | (simp only [tlL]; omega) | (simp; omega)⟩, ⟨by first | rfl | (simp; done) | (simp []; done) | omega, by first | decide | (simp; done) | (simp []; done) | omega | (simp only [tlL]; omega) | (simp; omega)⟩, ⟨by first | rfl | (simp; done) | (simp []; done) | omega, by first | decide | (simp; done) | (simp []; done) | omega | (simp only [tlL]; omega) | (simp; omega)⟩, trivial⟩, by decide, (F_pc_among_W x0 (0 : Int) (0 : Int) [(0 : Int), (1 : Int), (2 : Int), (-1 : Int), (1 : Int), (0 : Int)] r9 r9b r9c r9d c0), by first | rfl | (simp [V.ren, V.renL, renF, lk]; done) | (simp [V.ren, V.renL, renF, lk]; omega), WkT.eq (WkT.refl _) (by first | rfl | (simp only [tlS, tl, vl, vo, oc, ov, tbl, vbl, ty, vy] <;> rfl) | (simp <;> omega) | (simp []; done) | (rw [List.take_of_length_le (by simp [])] <;> rfl) | (simp [List.take_of_length_le]; done)), rfl, trivial⟩ (WkT.eq (y := ti r9) (WkT.refl _) rfl) (fun _ h => h)
theorem F_i_LessTable_W (x0 : Int) (y0 : List Int) (y1 : Bool) (h : F_i_LessTable x0 = some (y0, y1)) : CG Tryz.prog 39 [vi x0] [] (V.tup [vo 9000 (List.length y0), vb y1]) [(9000, oc 3 (List.map (ti) y0))] := by
 unfold F_i_LessTable at h
 refine CG.intro (tab := tab) tab_ok (fn := Tryz.f39) Tryz.func39 (by kernel_rfl) rfl (Nat.le_of_ble_eq_true rfl) (by kernel_rfl) ?_
 refine WP.sk tm [] [] [(3, vb false), (2, V.t (T.nils)), (0, vi x0)] [] trivial ?_
 refine WP.seq ?_
 refine WP.sk tm [(7, An.call (tb (decide ((0 : Int) ≤ x0) && decide (x0 ≤ (1 : Int)))))] [(C Tryz.prog 99 [ti x0, ti 0, ti 1] (tb (decide ((0 : Int) ≤ x0) && decide (x0 ≤ (1 : Int)))))] [(8, vb (!(decide ((0 : Int) ≤ x0) && decide (x0 ≤ (1 : Int))))), (3, vb false), (2, V.t (T.nils)), (0, vi x0)] [] ⟨(by have hh := (in_C x0 (0 : Int) (1 : Int)); first | exact hh | simpa using hh), trivial⟩ ?_
 rcases ite_some h with ⟨h1, h⟩ | ⟨h1, h⟩
 ·refine WP.yes h1 rfl ?_
  simp only [Option.some.injEq, Prod.mk.injEq] at h
  obtain ⟨rfl, rfl⟩ := h
  exact WP.pathG tab_ok mixed [] [.keep [2, 3], .keepO [], .names []] [] _ (r' := V.tup [vo 9000 (List.length ([] : List Int)), vb false]) (ps := []) (r := V.t (T.tup [T.nils, tb false])) (N := []) (O := []) [(9000, 3)] (by kernel_rfl) trivial ⟨(by first | rfl | (simp; done)), (WkT.refl _), trivial⟩ rfl rfl (fun _ h => h)
 ·refine WP.no h1 rfl ?_
  refine WP.pk tm [] [] [(3, vb false), (2, V.t (T.nils)), (0, vi x0)] [] trivial ?_
  refine WP.sk tm [(9, An.id 2009)] [(True), (0 = 0 * 1)] [(4, vo 2009 0), (3, vb false), (2, V.t (T.nils)), (0, vi x0)] [(2009, oc 3 [])] ⟨trivial, by decide, trivial⟩ ?_
  obtain ⟨J1, hJ1, h⟩ := jn_some h
  refine WP.joinA (fun (zz : (List Int)) => ⟨[2009], [(4, vo 2009 (List.length zz)), (3, vb false), (2, V.t (T.nils))], [(2009, oc 3 (List.map (ti) zz))]⟩) (fun zz => J1 zz = some (y0, y1)) ?_ ?_
  ·refine WP.sk tm [] [] [(5, vi 1), (4, vo 2009 0), (3, vb false), (2, V.t (T.nils)), (0, vi x0)] [(2009, oc 3 [])] trivial ?_
   refine WP.block ?_
   refine WP.lp (α := Nat × (List Int) × Int) (fun zz => ⟨[2009], [(5, vi zz.2.2), (4, vo 2009 (List.length zz.2.1)), (3, vb false), (2, V.t (T.nils)), (0, vi x0)], [(2009, oc 3 (List.map (ti) zz.2.1))]⟩) (fun zz => F_i_LessTable_L1 x0 J1 zz.1 zz.2.1 zz.2.2 = some (y0, y1)) (fun zz => zz.1) (fuel, ([] : List Int), (1 : Int)) h ?_
   rintro ⟨n, o9, v5⟩ h0
   have h := (show F_i_LessTable_L1 x0 J1 n o9 v5 = some (y0, y1) from h0)
   rcases n with _ | n
   ·rw [F_i_LessTable_L1] at h; cases h
   ·rw [F_i_LessTable_L1] at h
    refine WP.seq ?_
    refine WP.sk tm [] [(True)] [(11, vb (decide (v5 ≤ (5 : Int)))), (5, vi v5), (4, vo 2009 (List.length o9)), (3, vb false), (2, V.t (T.nils)), (0, vi x0)] [(2009, oc 3 (List.map (ti) o9))] ⟨trivial, trivial⟩ ?_
    rcases ite_some h with ⟨h2, h⟩ | ⟨h2, h⟩
    ·refine WP.yes h2 rfl ?_
     refine WP.pk tm [] [] [(5, vi v5), (4, vo 2009 (List.length o9)), (3, vb false), (2, V.t (T.nils)), (0, vi x0)] [(2009, oc 3 (List.map (ti) o9))] trivial ?_
     refine WP.seq ?_
     refine WP.block ?_
     obtain ⟨r15, c0, h⟩ := bnd1_some h
     obtain ⟨c1, c2, h⟩ := chk2 h
     obtain ⟨r19, r19b, c3, h⟩ := bnd2_some h
     obtain ⟨c4, h⟩ := chk_some h
     refine WP.pn tm [(15, An.callG [(9000, 10150)] [] [] (V.agg [V.mapr 9000]) [(9000, Tl.Obj.map (mpI r15))]), (18, An.callG [(9000, 10180)] [vi v5, vi x0] [] (V.agg [vo 9000 (List.length (List.replicate (Int.toNat v5) (0 : Int))), vi x0]) [(9000, oc 3 (List.map (ti) (List.replicate (Int.toNat v5) (0 : Int))))]), (19, An.callG [(500, 10150)] [V.agg [V.mapr 500], V.t (T.agg [tl (List.replicate (Int.toNat v5) (0 : Int)), ti x0])] [(500, Tl.Obj.map (mpI r15))] (vi r19) [(500, Tl.Obj.map (mpI r19b))]), (20, An.fz), (21, An.id 2021)] [(CG Tryz.prog 82 [] [] (V.agg [V.mapr 9000]) [(9000, Tl.Obj.map (mpI r15))]), (CG Tryz.prog 100 [vi v5, vi x0] [] (V.agg [vo 9000 (List.length (List.replicate (Int.toNat v5) (0 : Int))), vi x0]) [(9000, oc 3 (List.map (ti) (List.replicate (Int.toNat v5) (0 : Int))))]), (WkT (ti v5) (ti v5)), (WkT (ti x0) (ti x0)), (CG Tryz.prog 83 [V.agg [V.mapr 500], V.t (T.agg [tl (List.replicate (Int.toNat v5) (0 : Int)), ti x0])] [(500, Tl.Obj.map (mpI r15))] (vi r19) [(500, Tl.Obj.map (mpI r19b))]), ((vi r19).flat = true), (flatO [(500, Tl.Obj.map (mpI r19b))] = true), ((V.agg [V.mapr 500]).ren (renF [(500, 10150)]) = V.agg [V.mapr 10150]), (List.length (List.map (ti) (List.replicate (Int.toNat v5) (0 : Int))) = (List.length (List.replicate (Int.toNat v5) (0 : Int))) * 1), (WkT (T.agg [tl (List.replicate (Int.toNat v5) (0 : Int)), ti x0]) (T.agg [tl (List.replicate (Int.toNat v5) (0 : Int)), ti x0])), ((Tl.Obj.map (mpI r15)) = (Tl.Obj.map (mpI r15)).ren (renF [(500, 10150)])), ((1 = 1 ∧ 0 + 1 ≤ 1) ∧ True), (1 = 1 * 1), (True), (List.length (List.map (ti) o9) = (List.length o9) * 1), ((((List.length o9) + 1) * 8 ≤ 140737488355328 ∧ (List.length o9) + 1 ≤ maxLen))] [2021, 10180, 10150, 2009] [(4, vo 2021 ((List.length o9) + 1)), (5, vi v5), (3, vb false), (2, V.t (T.nils)), (0, vi x0)] [(2021, oc 3 ((List.map (ti) o9) ++ [ti r19]))] ⟨(F_i_newLesser_W  r15 c0), (start_C_G v5 x0 c1 c2), WkT.refl _, WkT.refl _, (F_il_need_W fuel r15 (List.replicate (Int.toNat v5) (0 : Int)) x0 r19 r19b c3), by first | rfl | (simp [V.flats, V.flat, T.flats, T.flat, flats_app, flats_int, flats_bool, flats_str, flats_node, flats_asked, flats_pair, flats_recs, flats_fact, flatEs_mpB, flatEs_mpI, flatEs_mp3]; done), by first | rfl | (simp [flatO, Tl.Obj.flat, V.flats, V.flat, T.flats, T.flat, flats_app, flats_int, flats_bool, flats_str, flats_node, flats_asked, flats_pair, flats_recs, flats_fact, flatEs_mpB, flatEs_mpI, flatEs_mp3]; done), by first | rfl | (simp [V.ren, V.renL, renF, lk]; done) | (simp [V.ren, V.renL, renF, lk]; omega), by first | rfl | omega | (simp only [tlL] <;> omega) | (simp <;> omega) | (simp [] <;> omega), WkT.refl _, rfl, ⟨⟨by first | rfl | (simp; done) | (simp []; done) | omega, by first | decide | (simp; done) | (simp []; done) | omega | (simp only [tlL]; omega) | (simp; omega)⟩, trivial⟩, by decide, trivial, by first | rfl | omega | (simp only [tlL] <;> omega) | (simp <;> omega) | (simp [] <;> omega), c4, trivial⟩ ?_
     obtain ⟨c5, h⟩ := chk_some h
     refine WP.nk tm [(13, An.v (ti (v5 + 1)))] [(2021, 2009)] .normal [(True), (wr (v5 + 1))] [(5, vi (v5 + 1)), (4, vo 2009 ((List.length o9) + 1)), (3, vb false), (2, V.t (T.nils)), (0, vi x0)] [(2009, oc 3 ((List.map (ti) o9) ++ [ti r19]))] ⟨trivial, wrapI c5, trivial⟩ ?_
     exact ⟨(n, o9 ++ [r19], (v5 + 1)), h, Nat.lt_succ_self _, (by first | rfl | (simp only [tlS, tl, vl, vo, oc, ov, tbl, vbl, ty, vy] <;> rfl) | (simp <;> omega) | (simp []; done) | (rw [List.take_of_length_le (by simp [])] <;> rfl) | (simp [List.take_of_length_le]; done))⟩
    ·refine WP.no h2 rfl ?_
     refine WP.eq tm [] 0 [] [(4, vo 2009 (List.length o9)), (3, vb false), (2, V.t (T.nils))] [(2009, oc 3 (List.map (ti) o9))] trivial ?_
     exact ⟨(o9), h, rfl⟩
  ·intro o9 h0
   have h := (show J1 o9 = some (y0, y1) from h0)
   rw [hJ1] at h
   simp only [Option.some.injEq, Prod.mk.injEq] at h
   obtain ⟨rfl, rfl⟩ := h
   exact WP.pathG tab_ok mixed [] [.keep [2, 3], .keepO [2009], .names [(2009, 9000)]] [9000] _ (r' := V.tup [vo 9000 (List.length o9), vb true]) (ps := []) (r := V.tup [vo 9000 (List.length o9), vb true]) (N := [9000]) (O := [(9000, oc 3 (List.map (ti) o9))]) [] (by kernel_rfl) trivial ⟨rfl, (WkT.refl _), trivial⟩ rfl rfl (fun _ h => h)
theorem F_i_LessTable_W_C (x0 : Int) (y0 : List Int) (y1 : Bool) (h : F_i_LessTable x0 = some (y0, y1)) : C Tryz.prog 39 [ti x0] (T.tup [tl y0, tb y1]) :=
 CG.toC (ps := [(List.length (List.map (ti) y0) = (List.length y0) * 1)]) (F_i_LessTable_W  x0 y0 y1 h) (by rfl) ⟨by first | rfl | omega | (simp <;> omega) | (simp [hl] <;> omega), trivial⟩
theorem F_s_LessTable_W (x0 : Int) (y0 : List Int) (y1 : Bool) (h : F_s_LessTable x0 = some (y0, y1)) : CG Tryz.prog 40 [vi x0] [] (V.tup [vo 9000 (List.length y0), vb y1]) [(9000, oc 3 (List.map (ti) y0))] := by
 unfold F_s_LessTable at h
 refine CG.intro (tab := tab) tab_ok (fn := Tryz.f40) Tryz.func40 (by kernel_rfl) rfl (Nat.le_of_ble_eq_true rfl) (by kernel_rfl) ?_
 refine WP.sk tm [] [] [(3, vb false), (2, V.t (T.nils)), (0, vi x0)] [] trivial ?_
 refine WP.sk tm [(6, An.id 2006)] [(True), (0 = 0 * 1)] [(4, vo 2006 0), (3, vb false), (2, V.t (T.nils)), (0, vi x0)] [(2006, oc 3 [])] ⟨trivial, by decide, trivial⟩ ?_
 refine WP.seq ?_
 refine WP.sk tm [(8, An.call (tb (decide (x0 ≥ (0 : Int)) && decide (x0 ≤ (1 : Int)))))] [(C Tryz.prog 101 [ti x0, ti 0, ti 1] (tb (decide (x0 ≥ (0 : Int)) && decide (x0 ≤ (1 : Int)))))] [(9, vb (!(decide (x0 ≥ (0 : Int)) && decide (x0 ≤ (1 : Int))))), (4, vo 2006 0), (3, vb false), (2, V.t (T.nils)), (0, vi x0)] [(2006, oc 3 [])] ⟨(by have hh := (l1In_C x0 (0 : Int) (1 : Int)); first | exact hh | simpa using hh), trivial⟩ ?_
 rcases ite_some h with ⟨h1, h⟩ | ⟨h1, h⟩
 ·refine WP.yes h1 rfl ?_
  simp only [Option.some.injEq, Prod.mk.injEq] at h
  obtain ⟨rfl, rfl⟩ := h
  exact WP.pathG tab_ok mixed [] [.keep [2, 3], .keepO [2006], .names [(2006, 9000)]] [9000] _ (r' := V.tup [vo 9000 (List.length []), vb false]) (ps := []) (r := V.tup [vo 9000 0, vb false]) (N := [9000]) (O := [(9000, oc 3 [])]) [] (by kernel_rfl) trivial ⟨(congrArg (V.own 9000 1) (by first | rfl | (simp only [tlS, tl, vl, vo, oc, ov, tbl, vbl, ty, vy] <;> rfl) | (simp <;> omega) | (simp []; done) | (rw [List.take_of_length_le (by simp [])] <;> rfl) | (simp [List.take_of_length_le]; done))), (WkT.refl _), trivial⟩ rfl (by first | rfl | (simp only [tlS, tl, vl, vo, oc, ov, tbl, vbl, ty, vy] <;> rfl) | (simp <;> omega) | (simp []; done) | (rw [List.take_of_length_le (by simp [])] <;> rfl) | (simp [List.take_of_length_le]; done)) (fun _ h => h)
 ·refine WP.no h1 rfl ?_
  refine WP.pk tm [] [] [(4, vo 2006 0), (3, vb false), (2, V.t (T.nils)), (0, vi x0)] [(2006, oc 3 [])] trivial ?_
  obtain ⟨J1, hJ1, h⟩ := jn_some h
  refine WP.joinA (fun (zz : (List Int)) => ⟨[2006], [(4, vo 2006 (List.length zz)), (3, vb false), (2, V.t (T.nils))], [(2006, oc 3 (List.map (ti) zz))]⟩) (fun zz => J1 zz = some (y0, y1)) ?_ ?_
  ·refine WP.sk tm [] [] [(5, vi 1), (4, vo 2006 0), (3, vb false), (2, V.t (T.nils)), (0, vi x0)] [(2006, oc 3 [])] trivial ?_
   refine WP.block ?_
   refine WP.lp (α := Nat × (List Int) × Int) (fun zz => ⟨[2006], [(5, vi zz.2.2), (4, vo 2006 (List.length zz.2.1)), (3, vb false), (2, V.t (T.nils)), (0, vi x0)], [(2006, oc 3 (List.map (ti) zz.2.1))]⟩) (fun zz => F_s_LessTable_L1 x0 J1 zz.1 zz.2.1 zz.2.2 = some (y0, y1)) (fun zz => zz.1) (fuel, ([] : List Int), (1 : Int)) h ?_
   rintro ⟨n, o6, v5⟩ h0
   have h := (show F_s_LessTable_L1 x0 J1 n o6 v5 = some (y0, y1) from h0)
   rcases n with _ | n
   ·rw [F_s_LessTable_L1] at h; cases h
   ·rw [F_s_LessTable_L1] at h
    refine WP.seq ?_
    refine WP.sk tm [] [(True)] [(12, vb (decide (v5 ≤ (5 : Int)))), (5, vi v5), (4, vo 2006 (List.length o6)), (3, vb false), (2, V.t (T.nils)), (0, vi x0)] [(2006, oc 3 (List.map (ti) o6))] ⟨trivial, trivial⟩ ?_
    rcases ite_some h with ⟨h2, h⟩ | ⟨h2, h⟩
    ·refine WP.yes h2 rfl ?_
     refine WP.pk tm [] [] [(5, vi v5), (4, vo 2006 (List.length o6)), (3, vb false), (2, V.t (T.nils)), (0, vi x0)] [(2006, oc 3 (List.map (ti) o6))] trivial ?_
     refine WP.seq ?_
     refine WP.block ?_
     obtain ⟨r18, c0, h⟩ := bnd1_some h
     obtain ⟨r21, r21b, c1, h⟩ := bnd2_some h
     obtain ⟨r22, c2, h⟩ := bnd1_some h
     obtain ⟨c3, c4, h⟩ := chk2 h
     refine WP.pn tm [(18, An.callG [(9000, 10180)] [vi v5, vi x0] [] (vo 9000 (List.length r18)) [(9000, oc 3 (List.map (ti) r18))]), (21, An.callG [(9000, 10210)] [vi v5, vi x0] [] (V.agg [vo 9000 (List.length r21), vi r21b]) [(9000, oc 3 (List.map (ti) r21))]), (22, An.call (ti r22)), (24, An.v (ti (gt r18 r22 0))), (25, An.fz), (26, An.id 2026)] [(CG Tryz.prog 85 [vi v5, vi x0] [] (vo 9000 (List.length r18)) [(9000, oc 3 (List.map (ti) r18))]), (WkT (ti v5) (ti v5)), (WkT (ti x0) (ti x0)), (CG Tryz.prog 102 [vi v5, vi x0] [] (V.agg [vo 9000 (List.length r21), vi r21b]) [(9000, oc 3 (List.map (ti) r21))]), (WkT (ti v5) (ti v5)), (WkT (ti x0) (ti x0)), (C Tryz.prog 86 [T.agg [tl r21, ti r21b]] (ti r22)), (List.length (List.map (ti) r21) = (List.length r21) * 1), (ib r22 r18), ((List.map (ti) r18 : List T)[(Int.toNat r22) * 1]? = some (ti (gt r18 r22 0))), (rf (ti (gt r18 r22 0))), ((1 = 1 ∧ 0 + 1 ≤ 1) ∧ True), (1 = 1 * 1), (True), (List.length (List.map (ti) o6) = (List.length o6) * 1), ((((List.length o6) + 1) * 8 ≤ 140737488355328 ∧ (List.length o6) + 1 ≤ maxLen))] [2026, 10210, 10180, 2006] [(4, vo 2026 ((List.length o6) + 1)), (5, vi v5), (3, vb false), (2, V.t (T.nils)), (0, vi x0)] [(2026, oc 3 ((List.map (ti) o6) ++ [ti (gt r18 r22 0)]))] ⟨(F_s6N_W v5 x0 r18 c0), WkT.refl _, WkT.refl _, (F_s_l2Start_W v5 x0 r21 r21b c1), WkT.refl _, WkT.refl _, (F_s_l6Key_W r21 r21b r22 c2), by first | rfl | omega | (simp only [tlL] <;> omega) | (simp <;> omega) | (simp [] <;> omega), c3, atM (by simp) (by first | omega | (simp only [tlL]; omega) | (simp; omega)), rfl, ⟨⟨by first | rfl | (simp; done) | (simp []; done) | omega, by first | decide | (simp; done) | (simp []; done) | omega | (simp only [tlL]; omega) | (simp; omega)⟩, trivial⟩, by decide, trivial, by first | rfl | omega | (simp only [tlL] <;> omega) | (simp <;> omega) | (simp [] <;> omega), c4, trivial⟩ ?_
     obtain ⟨c5, h⟩ := chk_some h
     refine WP.nk tm [(14, An.v (ti (v5 + 1)))] [(2026, 2006)] .normal [(True), (wr (v5 + 1))] [(5, vi (v5 + 1)), (4, vo 2006 ((List.length o6) + 1)), (3, vb false), (2, V.t (T.nils)), (0, vi x0)] [(2006, oc 3 ((List.map (ti) o6) ++ [ti (gt r18 r22 0)]))] ⟨trivial, wrapI c5, trivial⟩ ?_
     exact ⟨(n, o6 ++ [(gt r18 r22 0)], (v5 + 1)), h, Nat.lt_succ_self _, (by first | rfl | (simp only [tlS, tl, vl, vo, oc, ov, tbl, vbl, ty, vy] <;> rfl) | (simp <;> omega) | (simp []; done) | (rw [List.take_of_length_le (by simp [])] <;> rfl) | (simp [List.take_of_length_le]; done))⟩
    ·refine WP.no h2 rfl ?_
     refine WP.eq tm [] 0 [] [(4, vo 2006 (List.length o6)), (3, vb false), (2, V.t (T.nils))] [(2006, oc 3 (List.map (ti) o6))] trivial ?_
     exact ⟨(o6), h, rfl⟩
  ·intro o6 h0
   have h := (show J1 o6 = some (y0, y1) from h0)
   rw [hJ1] at h
   simp only [Option.some.injEq, Prod.mk.injEq] at h
   obtain ⟨rfl, rfl⟩ := h
   exact WP.pathG tab_ok mixed [] [.keep [2, 3], .keepO [2006], .names [(2006, 9000)]] [9000] _ (r' := V.tup [vo 9000 (List.length o6), vb true]) (ps := []) (r := V.tup [vo 9000 (List.length o6), vb true]) (N := [9000]) (O := [(9000, oc 3 (List.map (ti) o6))]) [] (by kernel_rfl) trivial ⟨rfl, (WkT.refl _), trivial⟩ rfl rfl (fun _ h => h)
theorem F_s_LessTable_W_C (x0 : Int) (y0 : List Int) (y1 : Bool) (h : F_s_LessTable x0 = some (y0, y1)) : C Tryz.prog 40 [ti x0] (T.tup [tl y0, tb y1]) :=
 CG.toC (ps := [(List.length (List.map (ti) y0) = (List.length y0) * 1)]) (F_s_LessTable_W  x0 y0 y1 h) (by rfl) ⟨by first | rfl | omega | (simp <;> omega) | (simp [hl] <;> omega), trivial⟩
theorem F_laws_rInts_W (x0 : List Int) (x1 : List Int) (y0 : Bool) (h : F_laws_rInts x0 x1 = some y0) : C Tryz.prog 41 [tl x0, tl x1] (tb y0) := by
 unfold F_laws_rInts at h
 refine C.intro (tab := tab) tab_ok (fn := Tryz.f41) Tryz.func41 (by kernel_rfl) rfl (Nat.le_of_ble_eq_true rfl) ?_
 refine WP.sk tm [] [] [(4, vb false), (0, vl x0), (1, vl x1)] [] trivial ?_
 refine WP.seq ?_
 refine WP.sk tm [] [(True)] [(10, vb ((ln x0) != (ln x1))), (4, vb false), (0, vl x0), (1, vl x1)] [] ⟨trivial, trivial⟩ ?_
 rcases ite_some h with ⟨h1, h⟩ | ⟨h1, h⟩
 ·refine WP.yes h1 rfl ?_
  have h := Option.some.inj h
  subst h
  exact WP.pathW tab_ok mixed [] _ (ps := []) (r := tb false) (by kernel_rfl) trivial (WkT.eq (y := tb false) (WkT.refl _) rfl) (fun _ h => h)
 ·refine WP.no h1 rfl ?_
  refine WP.pk tm [] [] [(4, vb false), (0, vl x0), (1, vl x1)] [] trivial ?_
  obtain ⟨J1, hJ1, h⟩ := jn_some h
  refine WP.joinA (fun (zz : Unit) => ⟨[], [(4, vb false)], []⟩) (fun zz => J1 () = some y0) ?_ ?_
  ·refine WP.sk tm [] [] [(5, vi 0), (4, vb false), (0, vl x0), (1, vl x1)] [] trivial ?_
   refine WP.block ?_
   refine WP.lp (α := Nat × Int) (fun zz => ⟨[], [(5, vi zz.2), (4, vb false), (0, vl x0), (1, vl x1)], []⟩) (fun zz => F_laws_rInts_L1 x0 x1 J1 zz.1 zz.2 = some y0) (fun zz => zz.1) (fuel, (0 : Int)) h ?_
   rintro ⟨n, v5⟩ h0
   have h := (show F_laws_rInts_L1 x0 x1 J1 n v5 = some y0 from h0)
   rcases n with _ | n
   ·rw [F_laws_rInts_L1] at h; cases h
   ·rw [F_laws_rInts_L1] at h
    refine WP.seq ?_
    refine WP.sk tm [] [(True)] [(14, vb (decide (v5 < (ln x0)))), (5, vi v5), (4, vb false), (0, vl x0), (1, vl x1)] [] ⟨trivial, trivial⟩ ?_
    rcases ite_some h with ⟨h2, h⟩ | ⟨h2, h⟩
    ·refine WP.yes h2 rfl ?_
     refine WP.pk tm [] [] [(5, vi v5), (4, vb false), (0, vl x0), (1, vl x1)] [] trivial ?_
     refine WP.seq ?_
     refine WP.block ?_
     refine WP.seq ?_
     obtain ⟨c0, c1, h⟩ := chk2 h
     refine WP.pk tm [(20, An.v (ti (gt x0 v5 0))), (24, An.v (ti (gt x1 v5 0)))] [(ib v5 x0), ((List.drop ((Int.toNat v5) * 1) (List.map (ti) x0) : List T)[0]? = some (ti (gt x0 v5 0))), (rf (ti (gt x0 v5 0))), (ib v5 x1), ((List.drop ((Int.toNat v5) * 1) (List.map (ti) x1) : List T)[0]? = some (ti (gt x1 v5 0))), (rf (ti (gt x1 v5 0))), (True)] [(25, vb ((gt x0 v5 0) != (gt x1 v5 0))), (5, vi v5), (4, vb false), (0, vl x0), (1, vl x1)] [] ⟨c0, at1 (by simp) (by omega), rfl, c1, at1 (by simp) (by omega), rfl, trivial, trivial⟩ ?_
     rcases ite_some h with ⟨h3, h⟩ | ⟨h3, h⟩
     ·refine WP.yes h3 rfl ?_
      have h := Option.some.inj h
      subst h
      exact WP.pathW tab_ok mixed [] _ (ps := []) (r := tb false) (by kernel_rfl) trivial (WkT.eq (y := tb false) (WkT.refl _) rfl) (fun _ h => h)
     ·refine WP.no h3 rfl ?_
      refine WP.pk tm [] [] [(5, vi v5), (4, vb false), (0, vl x0), (1, vl x1)] [] trivial ?_
      obtain ⟨c2, h⟩ := chk_some h
      refine WP.qk tm [(16, An.v (ti (v5 + 1)))] [(True), (wr (v5 + 1))] [(5, vi (v5 + 1)), (4, vb false), (0, vl x0), (1, vl x1)] [] ⟨trivial, wrapI c2, trivial⟩ ?_
      exact ⟨(n, (v5 + 1)), h, Nat.lt_succ_self _, rfl⟩
    ·refine WP.no h2 rfl ?_
     refine WP.eq tm [] 0 [] [(4, vb false)] [] trivial ?_
     exact ⟨(), h, rfl⟩
  ·intro _ h0
   have h := (show J1 () = some y0 from h0)
   rw [hJ1] at h
   have h := Option.some.inj h
   subst h
   exact WP.pathW tab_ok mixed [] _ (ps := []) (r := tb true) (by kernel_rfl) trivial (WkT.eq (y := tb true) (WkT.refl _) rfl) (fun _ h => h)
theorem F_s_DrawMoreThanSets_W (x0 : List Int) (y0 : Int) (y1 : Int) (h : F_s_DrawMoreThanSets x0 = some (y0, y1)) : C Tryz.prog 42 [ty x0] (T.tup [ti y0, ti y1]) := by
 unfold F_s_DrawMoreThanSets at h
 refine C.intro (tab := tab) tab_ok (fn := Tryz.f42) Tryz.func42 (by kernel_rfl) rfl (Nat.le_of_ble_eq_true rfl) ?_
 obtain ⟨r9, r9b, r9c, r9d, c0, h⟩ := bnd4_some h
 obtain ⟨r12, r12b, r12c, r12d, c1, h⟩ := bnd4_some h
 simp only [Option.some.injEq, Prod.mk.injEq] at h
 obtain ⟨rfl, rfl⟩ := h
 exact WP.pathW tab_ok mixed [(7, An.id 2007), (9, An.callG [(500, 2007)] [V.ref 500 0, vi 7] [(500, oc 65 [ty x0, ti 0, T.int .u64 0])] (vi r9) [(500, oc 65 [ty r9b, ti r9c, T.int .u64 r9d])]), (11, An.fz), (12, An.callG [(500, 2007)] [V.ref 500 0, vl [(0 : Int), (1 : Int), (2 : Int), (1 : Int), (-1 : Int), (0 : Int)]] [(500, oc 65 [ty r9b, ti r9c, T.int .u64 r9d])] (vi r12) [(500, oc 65 [ty r12b, ti r12c, T.int .u64 r12d])])] _ (ps := [((1 = 1 ∧ 0 + 1 ≤ 3) ∧ True), (CG Tryz.prog 70 [V.ref 500 0, vi 7] [(500, oc 65 [ty x0, ti 0, T.int .u64 0])] (vi r9) [(500, oc 65 [ty r9b, ti r9c, T.int .u64 r9d])]), ((V.ref 500 0).ren (renF [(500, 2007)]) = V.ref 2007 0), (WkT (ti 7) (ti 7)), (rn (oc 65 [ty x0, ti 0, T.int .u64 0]) [(500, 2007)]), ((1 = 1 ∧ 0 + 1 ≤ 6) ∧ (1 = 1 ∧ 1 + 1 ≤ 6) ∧ (1 = 1 ∧ 2 + 1 ≤ 6) ∧ (1 = 1 ∧ 3 + 1 ≤ 6) ∧ (1 = 1 ∧ 4 + 1 ≤ 6) ∧ (1 = 1 ∧ 5 + 1 ≤ 6) ∧ True), (6 = 6 * 1), (CG Tryz.prog 98 [V.ref 500 0, vl [(0 : Int), (1 : Int), (2 : Int), (1 : Int), (-1 : Int), (0 : Int)]] [(500, oc 65 [ty r9b, ti r9c, T.int .u64 r9d])] (vi r12) [(500, oc 65 [ty r12b, ti r12c, T.int .u64 r12d])]), ((V.ref 500 0).ren (renF [(500, 2007)]) = V.ref 2007 0), (WkT (T.list 6 1 [ti 0, ti 1, ti 2, ti 1, ti (-1), ti 0]) (tl [(0 : Int), (1 : Int), (2 : Int), (1 : Int), (-1 : Int), (0 : Int)])), (rn (oc 65 [ty r9b, ti r9c, T.int .u64 r9d]) [(500, 2007)])]) (r := T.tup [ti r9, ti r12]) (by kernel_rfl) ⟨⟨⟨by first | rfl | (simp; done) | (simp []; done) | omega, by first | decide | (simp; done) | (simp []; done) | omega | (simp only [tlL]; omega) | (simp; omega)⟩, trivial⟩, (F_pc_pick_W x0 (0 : Int) (0 : Int) (7 : Int) r9 r9b r9c r9d c0), by first | rfl | (simp [V.ren, V.renL, renF, lk]; done) | (simp [V.ren, V.renL, renF, lk]; omega), WkT.refl _, rfl, ⟨⟨by first | rfl | (simp; done) | (simp []; done) | omega, by first | decide | (simp; done) | (simp []; done) | omega | (simp only [tlL]; omega) | (simp; omega)⟩, ⟨by first | rfl | (simp; done) | (simp []; done) | omega, by first | decide | (simp; done) | (simp []; done) | omega | (simp only [tlL]; omega) | (simp; omega)⟩, ⟨by first | rfl | (simp; done) | (simp []; done) | omega, by first | decide | (simp; done) | (simp []; done) | omega | (simp only [tlL]; omega) | (simp; omega)⟩, ⟨by first | rfl | (simp; done) | (simp []; done) | omega, by first | decide | (simp; done) | (simp []; done) | omega | (simp only [tlL]; omega) | (simp; omega)⟩, ⟨by first | rfl | (simp; done) | (simp []; done) | omega, by first | decide | (simp; done) | (simp []; done) | omega | (simp only [tlL]; omega) | (simp; omega)⟩, ⟨by first | rfl | (simp; done) | (simp []; done) | omega, by first | decide | (simp; done) | (simp []; done) | omega | (simp only [tlL]; omega) | (simp; omega)⟩, trivial⟩, by decide, (F_pc_among_W r9b r9c r9d [(0 : Int), (1 : Int), (2 : Int), (1 : Int), (-1 : Int), (0 : Int)] r12 r12b r12c r12d c1), by first | rfl | (simp [V.ren, V.renL, renF, lk]; done) | (simp [V.ren, V.renL, renF, lk]; omega), WkT.eq (WkT.refl _) (by first | rfl | (simp only [tlS, tl, vl, vo, oc, ov, tbl, vbl, ty, vy] <;> rfl) | (simp <;> omega) | (simp []; done) | (rw [List.take_of_length_le (by simp [])] <;> rfl) | (simp [List.take_of_length_le]; done)), rfl, trivial⟩ (WkT.eq (y := T.tup [ti r9, ti r12]) (WkT.refl _) rfl) (fun _ h => h)
theorem F_i_countsOf_W (x0 : Int) (x1 : Int) (y0 : List Int) (h : F_i_countsOf x0 x1 = some y0) : CG Tryz.prog 103 [vi x0, vi x1] [] (vo 9000 (List.length y0)) [(9000, oc 3 (List.map (ti) y0))] := by
 unfold F_i_countsOf at h
 refine CG.intro (tab := tab) tab_ok (fn := Tryz.f103) Tryz.func103 (by kernel_rfl) rfl (Nat.le_of_ble_eq_true rfl) (by kernel_rfl) ?_
 obtain ⟨c0, c1, h⟩ := chk2 h
 obtain ⟨c2, h⟩ := chk_some h
 have h := Option.some.inj h
 subst h
 exact WP.pathG tab_ok mixed [(7, An.v (ti (x1 + 1))), (8, An.id 2008)] [.keep [4], .keepO [2008], .names [(2008, 9000)]] [9000] _ (r' := vo 9000 (List.length (List.set (List.replicate (Int.toNat (x1 + 1)) (0 : Int)) 0 x0))) (ps := [(True), (wr (x1 + 1)), ((0 ≤ (x1 + 1) ∧ (x1 + 1) ≤ (x1 + 1) ∧ (8 : Int) * (x1 + 1) ≤ 281474976710656 ∧ (x1 + 1) ≤ (maxLen : Int))), ((0 ≤ (0 : Int) ∧ (0 : Int) < ((Int.toNat (x1 + 1) : Nat) : Int))), (0 < List.length (List.replicate (Int.toNat (x1 + 1)) (ti 0)))]) (r := vo 9000 (Int.toNat (x1 + 1))) (N := [9000]) (O := [(9000, oc 3 (List.set (List.replicate (Int.toNat (x1 + 1)) (ti 0)) 0 (ti x0)))]) [] (by kernel_rfl) ⟨trivial, wrapI c0, c1, c2, by first | decide | omega | (simp only [tlL] <;> omega) | (simp <;> omega) | (simp [] <;> omega), trivial⟩ ⟨(congrArg (V.own 9000 1) (by first | rfl | (simp only [tlS, tl, vl, vo, oc, ov, tbl, vbl, ty, vy] <;> rfl) | (simp <;> omega) | (simp []; done) | (rw [List.take_of_length_le (by simp [])] <;> rfl) | (simp [List.take_of_length_le]; done))), trivial⟩ rfl (by first | rfl | (simp only [tlS, tl, vl, vo, oc, ov, tbl, vbl, ty, vy] <;> rfl) | (simp <;> omega) | (simp []; done) | (rw [List.take_of_length_le (by simp [])] <;> rfl) | (simp [List.take_of_length_le]; done)) (fun _ h => h)
theorem F_i_countsOf_W_C (x0 : Int) (x1 : Int) (y0 : List Int) (h : F_i_countsOf x0 x1 = some y0) : C Tryz.prog 103 [ti x0, ti x1] (tl y0) :=
 CG.toC (ps := [(List.length (List.map (ti) y0) = (List.length y0) * 1)]) (F_i_countsOf_W  x0 x1 y0 h) (by rfl) ⟨by first | rfl | omega | (simp <;> omega) | (simp [hl] <;> omega), trivial⟩
theorem F_i_MoreThanSets_W (x0 : Int) (x1 : Int) (y0 : Int) (y1 : Bool) (h : F_i_MoreThanSets x0 x1 = some (y0, y1)) : C Tryz.prog 43 [ti x0, ti x1] (T.tup [ti y0, tb y1]) := by
 unfold F_i_MoreThanSets at h
 refine C.intro (tab := tab) tab_ok (fn := Tryz.f43) Tryz.func43 (by kernel_rfl) rfl (Nat.le_of_ble_eq_true rfl) ?_
 refine WP.sk tm [] [] [(5, vb false), (4, vi 0), (0, vi x0), (1, vi x1)] [] trivial ?_
 refine WP.seq ?_
 obtain ⟨J1, hJ1, h⟩ := jn_some h
 refine WP.joinA (fun (zz : Bool) => ⟨[], [(13, vb zz), (5, vb false), (4, vi 0), (0, vi x0), (1, vi x1)], []⟩) (fun zz => J1 zz = some (y0, y1)) ?_ ?_
 ·rcases ite_some h with ⟨h1, h⟩ | ⟨h1, h⟩
  ·refine WP.qk tm [(7, An.call (tb (decide ((1 : Int) ≤ x0) && decide (x0 ≤ (5 : Int))))), (9, An.b true)] [(C Tryz.prog 99 [ti x0, ti 1, ti 5] (tb (decide ((1 : Int) ≤ x0) && decide (x0 ≤ (5 : Int))))), ((!(decide ((1 : Int) ≤ x0) && decide (x0 ≤ (5 : Int)))) = true)] [(13, vb true), (5, vb false), (4, vi 0), (0, vi x0), (1, vi x1)] [] ⟨(by have hh := (in_C x0 (1 : Int) (5 : Int)); first | exact hh | simpa using hh), h1, trivial⟩ ?_
   exact ⟨(true), h, rfl⟩
  ·refine WP.qk tm [(7, An.call (tb (decide ((1 : Int) ≤ x0) && decide (x0 ≤ (5 : Int))))), (9, An.b false), (11, An.call (tb (decide ((0 : Int) ≤ x1) && decide (x1 ≤ (1 : Int)))))] [(C Tryz.prog 99 [ti x0, ti 1, ti 5] (tb (decide ((1 : Int) ≤ x0) && decide (x0 ≤ (5 : Int))))), ((!(decide ((1 : Int) ≤ x0) && decide (x0 ≤ (5 : Int)))) = false), (C Tryz.prog 99 [ti x1, ti 0, ti 1] (tb (decide ((0 : Int) ≤ x1) && decide (x1 ≤ (1 : Int)))))] [(13, vb (!(decide ((0 : Int) ≤ x1) && decide (x1 ≤ (1 : Int))))), (5, vb false), (4, vi 0), (0, vi x0), (1, vi x1)] [] ⟨(by have hh := (in_C x0 (1 : Int) (5 : Int)); first | exact hh | simpa using hh), h1, (by have hh := (in_C x1 (0 : Int) (1 : Int)); first | exact hh | simpa using hh), trivial⟩ ?_
   exact ⟨(!(decide ((0 : Int) ≤ x1) && decide (x1 ≤ (1 : Int)))), h, rfl⟩
 ·intro v13 h0
  have h := (show J1 v13 = some (y0, y1) from h0)
  rw [hJ1] at h
  rcases ite_some h with ⟨h2, h⟩ | ⟨h2, h⟩
  ·refine WP.yes h2 rfl ?_
   simp only [Option.some.injEq, Prod.mk.injEq] at h
   obtain ⟨rfl, rfl⟩ := h
   exact WP.pathW tab_ok mixed [] _ (ps := []) (r := T.tup [ti 0, tb false]) (by kernel_rfl) trivial (WkT.eq (y := T.tup [ti 0, tb false]) (WkT.refl _) (by first | rfl | (simp only [tlS, tl, vl, vo, oc, ov, tbl, vbl, ty, vy] <;> rfl) | (simp <;> omega) | (simp []; done) | (rw [List.take_of_length_le (by simp [])] <;> rfl) | (simp [List.take_of_length_le]; done))) (fun _ h => h)
  ·refine WP.no h2 rfl ?_
   refine WP.pk tm [] [] [(5, vb false), (4, vi 0), (0, vi x0), (1, vi x1)] [] trivial ?_
   obtain ⟨r14, c0, h⟩ := bnd1_some h
   obtain ⟨c1, c2, h⟩ := chk2 h
   obtain ⟨r18, r18b, c3, h⟩ := bnd2_some h
   obtain ⟨r19, c4, h⟩ := bnd1_some h
   obtain ⟨r22, c5, h⟩ := bnd1_some h
   obtain ⟨r23, c6, h⟩ := bnd1_some h
   obtain ⟨c7, h⟩ := chk_some h
   simp only [Option.some.injEq, Prod.mk.injEq] at h
   obtain ⟨rfl, rfl⟩ := h
   exact WP.pathW tab_ok mixed [(14, An.callG [(9000, 10140)] [] [] (V.agg [V.mapr 9000]) [(9000, Tl.Obj.map (mpI r14))]), (17, An.callG [(9000, 10170)] [vi x0, vi x1] [] (V.agg [vo 9000 (List.length (List.replicate (Int.toNat x0) (0 : Int))), vi x1]) [(9000, oc 3 (List.map (ti) (List.replicate (Int.toNat x0) (0 : Int))))]), (18, An.callG [(500, 10140)] [V.agg [V.mapr 500], V.t (T.agg [tl (List.replicate (Int.toNat x0) (0 : Int)), ti x1])] [(500, Tl.Obj.map (mpI r14))] (vi r18) [(500, Tl.Obj.map (mpI r18b))]), (19, An.call (T.agg [T.fn 59 [] [], mapT (mpT r19)])), (22, An.callG [(9000, 10220)] [vi x0, vi x1] [] (vo 9000 (List.length r22)) [(9000, oc 3 (List.map (ti) r22))]), (23, An.call (ti r23)), (24, An.v (ti (r18 - r23)))] _ (ps := [(CG Tryz.prog 82 [] [] (V.agg [V.mapr 9000]) [(9000, Tl.Obj.map (mpI r14))]), (CG Tryz.prog 100 [vi x0, vi x1] [] (V.agg [vo 9000 (List.length (List.replicate (Int.toNat x0) (0 : Int))), vi x1]) [(9000, oc 3 (List.map (ti) (List.replicate (Int.toNat x0) (0 : Int))))]), (WkT (ti x0) (ti x0)), (WkT (ti x1) (ti x1)), (CG Tryz.prog 83 [V.agg [V.mapr 500], V.t (T.agg [tl (List.replicate (Int.toNat x0) (0 : Int)), ti x1])] [(500, Tl.Obj.map (mpI r14))] (vi r18) [(500, Tl.Obj.map (mpI r18b))]), ((vi r18).flat = true), (flatO [(500, Tl.Obj.map (mpI r18b))] = true), ((V.agg [V.mapr 500]).ren (renF [(500, 10140)]) = V.agg [V.mapr 10140]), (List.length (List.map (ti) (List.replicate (Int.toNat x0) (0 : Int))) = (List.length (List.replicate (Int.toNat x0) (0 : Int))) * 1), (WkT (T.agg [tl (List.replicate (Int.toNat x0) (0 : Int)), ti x1]) (T.agg [tl (List.replicate (Int.toNat x0) (0 : Int)), ti x1])), ((Tl.Obj.map (mpI r14)) = (Tl.Obj.map (mpI r14)).ren (renF [(500, 10140)])), (C Tryz.prog 58 [T.fn 59 [] []] (T.agg [T.fn 59 [] [], mapT (mpT r19)])), (CG Tryz.prog 103 [vi x0, vi x1] [] (vo 9000 (List.length r22)) [(9000, oc 3 (List.map (ti) r22))]), (WkT (ti x0) (ti x0)), (WkT (ti x1) (ti x1)), (C Tryz.prog 79 [T.agg [T.fn 59 [] [], mapT (mpT r19)], tl r22] (ti r23)), (List.length (List.map (ti) r22) = (List.length r22) * 1), (True), (wr (r18 - r23))]) (r := T.tup [ti (r18 - r23), tb true]) (by kernel_rfl) ⟨(F_i_newLesser_W  r14 c0), (start_C_G x0 x1 c1 c2), WkT.refl _, WkT.refl _, (F_il_need_W fuel r14 (List.replicate (Int.toNat x0) (0 : Int)) x1 r18 r18b c3), by first | rfl | (simp [V.flats, V.flat, T.flats, T.flat, flats_app, flats_int, flats_bool, flats_str, flats_node, flats_asked, flats_pair, flats_recs, flats_fact, flatEs_mpB, flatEs_mpI, flatEs_mp3]; done), by first | rfl | (simp [flatO, Tl.Obj.flat, V.flats, V.flat, T.flats, T.flat, flats_app, flats_int, flats_bool, flats_str, flats_node, flats_asked, flats_pair, flats_recs, flats_fact, flatEs_mpB, flatEs_mpI, flatEs_mp3]; done), by first | rfl | (simp [V.ren, V.renL, renF, lk]; done) | (simp [V.ren, V.renL, renF, lk]; omega), by first | rfl | omega | (simp only [tlL] <;> omega) | (simp <;> omega) | (simp [] <;> omega), WkT.refl _, rfl, (F_i_neederOf_W 59 [] [] (fun u0 u1 => F_i_bothWays u0 u1) (fun u0 u1 w0 w1 hh => F_i_bothWays_W_C u0 u1 w0 w1 hh) r19 c4), (F_i_countsOf_W x0 x1 r22 c5), WkT.refl _, WkT.refl _, (F_i_needer_of_W 59 [] [] (fun u0 u1 => F_i_bothWays u0 u1) (fun u0 u1 w0 w1 hh => F_i_bothWays_W_C u0 u1 w0 w1 hh) r19 r22 r23 c6), by first | rfl | omega | (simp only [tlL] <;> omega) | (simp <;> omega) | (simp [] <;> omega), trivial, wrapI c7, trivial⟩ (WkT.eq (y := T.tup [ti (r18 - r23), tb true]) (WkT.refl _) rfl) (fun _ h => h)

end Go.Proofs.YtopodonemnnjdaaGreat.AuCob
