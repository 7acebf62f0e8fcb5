/-
  The walks: each function of the program returns what the plain function beside it returns. No statement is proved here.
-/
import Derived.Test.YtopodonemnnjdaaGreatTlGroupc
import Derived.Test.YtopodonemnnjdaaGreatTlGroupd

import Derived.Test.YtopodonemnnjdaaGreatAuAnF
import Derived.Test.YtopodonemnnjdaaGreatProg
import Derived.Test.YtopodonemnnjdaaGreatAuAnO
import Derived.Test.YtopodonemnnjdaaGreatAuAna
import Derived.Test.YtopodonemnnjdaaGreatAuAnb
namespace Go.Proofs.YtopodonemnnjdaaGreat.AuAn
open Go Go.Tl Go.Proofs
open Go.Proofs.YtopodonemnnjdaaGreat.AuAnO hiding tab tab_ok mixed tm
open Go.Proofs.YtopodonemnnjdaaGreat.AuAna hiding tab tab_ok mixed tm
open Go.Proofs.YtopodonemnnjdaaGreat.AuAnb hiding tab tab_ok mixed tm
set_option linter.unusedVariables false
set_option linter.unusedSimpArgs false
set_option maxRecDepth 100000
set_option maxHeartbeats 4000000
def tab : Tab := [(3, ⟨.int .i64, 1, 8, [.int .i64 0]⟩), (4, ⟨.bool, 1, 1, [.bool false]⟩), (5, ⟨.int .u8, 1, 1, [.int .u8 0]⟩), (22, ⟨.slice 5 1 1, 1, 24, [.nils]⟩), (24, ⟨.slice 3 1 8, 1, 24, [.nils]⟩), (26, ⟨.struct [(0, 1, false), (1, 1, false)], 2, 32, [.nils, .int .i64 0]⟩), (27, ⟨.slice 4 1 1, 1, 24, [.nils]⟩), (62, ⟨.pointer 65, 1, 8, [.nilp]⟩), (63, ⟨.int .u64, 1, 8, [.int .u64 0]⟩), (65, ⟨.struct [(0, 1, false), (1, 1, false), (2, 1, false)], 3, 40, [.nils, .int .i64 0, .int .u64 0]⟩), (76, ⟨.func, 1, 8, [.nilf]⟩), (77, ⟨.map 118 3, 1, 8, [.nilm]⟩), (79, ⟨.struct [(0, 1, false), (1, 1, false)], 2, 16, [.nilf, .nilm]⟩), (84, ⟨.struct [(0, 1, false), (1, 1, false)], 2, 16, [.int .i64 0, .bool false]⟩), (95, ⟨.func, 1, 8, [.nilf]⟩), (105, ⟨.array 2 26 2 true, 4, 64, [.nils, .int .i64 0, .nils, .int .i64 0]⟩), (118, ⟨.array 3 3 1 false, 3, 24, [.int .i64 0, .int .i64 0, .int .i64 0]⟩), (122, ⟨.slice 118 3 24, 1, 24, [.nils]⟩), (124, ⟨.slice 24 1 24, 1, 24, [.nils]⟩), (129, ⟨.func, 1, 8, [.nilf]⟩)]
theorem tab_ok : chkTab Tryz.prog tab = true := by kernel_rfl
theorem mixed : Tryz.prog.follows .mixedOrders = true := by kernel_rfl
abbrev tm := And.intro tab_ok mixed
theorem F_spec_l8Hold_W (x0 : List Int) (x1 : Int) (x2 : Int) (x3 : List Int) (y0 : Bool) (h : F_spec_l8Hold x0 x1 x2 x3 = some y0) : C Tryz.prog 65 [T.agg [tl x0, ti x1], ti x2, tl x3] (tb y0) := by
 unfold F_spec_l8Hold at h
 refine C.intro (tab := tab) tab_ok (fn := Tryz.f65) Tryz.func65 (by kernel_rfl) rfl (Nat.le_of_ble_eq_true rfl) ?_
 obtain ⟨c0, h⟩ := chk_some h
 obtain ⟨r12, c1, h⟩ := bnd1_some h
 obtain ⟨r16, c2, h⟩ := bnd1_some h
 obtain ⟨r19, c3, h⟩ := bnd1_some h
 obtain ⟨c4, h⟩ := chk_some h
 obtain ⟨r24, c5, h⟩ := bnd1_some h
 obtain ⟨c6, h⟩ := chk_some h
 have h := Option.some.inj h
 subst h
 exact WP.pathW tab_ok mixed [(3, An.fz), (11, An.callG [(9000, 10110)] [V.t (T.agg [tl x0, ti x1]), vi x2, vb true] [] (V.agg [vo 9000 (List.length (ansN x1 x2 true x0)), vi x1]) [(9000, oc 3 (List.map (ti) (ansN x1 x2 true x0)))]), (12, An.callG [(9000, 10120)] [V.t (T.agg [tl (ansN x1 x2 true x0), ti x1])] [] (vo 9000 (List.length r12)) [(9000, oc 3 (List.map (ti) r12))]), (15, An.callG [(9000, 10150)] [V.t (T.agg [tl x0, ti x1]), vi x2, vb false] [] (V.agg [vo 9000 (List.length (ansN x1 x2 false x0)), vi x1]) [(9000, oc 3 (List.map (ti) (ansN x1 x2 false x0)))]), (16, An.callG [(9000, 10160)] [V.t (T.agg [tl (ansN x1 x2 false x0), ti x1])] [] (vo 9000 (List.length r16)) [(9000, oc 3 (List.map (ti) r16))]), (19, An.call (ti r19)), (21, An.v (ti (gt x3 r19 0))), (24, An.call (ti r24)), (26, An.v (ti (gt x3 r24 0)))] _ (ps := [(2 ≤ 2), (CG Tryz.prog 66 [V.t (T.agg [tl x0, ti x1]), vi x2, vb true] [] (V.agg [vo 9000 (List.length (ansN x1 x2 true x0)), vi x1]) [(9000, oc 3 (List.map (ti) (ansN x1 x2 true x0)))]), (WkT (T.agg [tl x0, ti x1]) (T.agg [tl x0, ti x1])), (WkT (ti x2) (ti x2)), (WkT (tb true) (tb true)), (CG Tryz.prog 120 [V.t (T.agg [tl (ansN x1 x2 true x0), ti x1])] [] (vo 9000 (List.length r12)) [(9000, oc 3 (List.map (ti) r12))]), ((vo 9000 (List.length r12)).flat = true), (flatO [(9000, oc 3 (List.map (ti) r12))] = true), (List.length (List.map (ti) (ansN x1 x2 true x0)) = (List.length (ansN x1 x2 true x0)) * 1), (WkT (T.agg [tl (ansN x1 x2 true x0), ti x1]) (T.agg [tl (ansN x1 x2 true x0), ti x1])), (2 ≤ 2), (CG Tryz.prog 66 [V.t (T.agg [tl x0, ti x1]), vi x2, vb false] [] (V.agg [vo 9000 (List.length (ansN x1 x2 false x0)), vi x1]) [(9000, oc 3 (List.map (ti) (ansN x1 x2 false x0)))]), (WkT (T.agg [tl x0, ti x1]) (T.agg [tl x0, ti x1])), (WkT (ti x2) (ti x2)), (WkT (tb false) (tb false)), (CG Tryz.prog 120 [V.t (T.agg [tl (ansN x1 x2 false x0), ti x1])] [] (vo 9000 (List.length r16)) [(9000, oc 3 (List.map (ti) r16))]), ((vo 9000 (List.length r16)).flat = true), (flatO [(9000, oc 3 (List.map (ti) r16))] = true), (List.length (List.map (ti) (ansN x1 x2 false x0)) = (List.length (ansN x1 x2 false x0)) * 1), (WkT (T.agg [tl (ansN x1 x2 false x0), ti x1]) (T.agg [tl (ansN x1 x2 false x0), ti x1])), (C Tryz.prog 104 [tl r12] (ti r19)), (List.length (List.map (ti) r12) = (List.length r12) * 1), ((0 ≤ r19 ∧ r19 < (ln x3))), ((List.drop ((Int.toNat r19) * 1) (List.map (ti) x3) : List T)[0]? = some (ti (gt x3 r19 0))), (ti (gt x3 r19 0) = ti (gt x3 r19 0)), (C Tryz.prog 104 [tl r16] (ti r24)), (List.length (List.map (ti) r16) = (List.length r16) * 1), ((0 ≤ r24 ∧ r24 < (ln x3))), ((List.drop ((Int.toNat r24) * 1) (List.map (ti) x3) : List T)[0]? = some (ti (gt x3 r24 0))), (ti (gt x3 r24 0) = ti (gt x3 r24 0)), (True)]) (r := tb (decide ((gt x3 r19 0) > (gt x3 r24 0)))) (by kernel_rfl) ⟨by decide, (l2After_C_G x0 x1 x2 true c0), WkT.refl _, WkT.refl _, WkT.refl _, (F_spec_l2Counts_W (ansN x1 x2 true x0) x1 r12 c1), by first | rfl | (simp [V.flats, V.flat, T.flats, T.flat, flats_app, flats_int, flats_bool, flats_str, flats_node, flats_asked, flats_pair, flats_recs, flats_fact, flatEs_mpB, flatEs_mpI, flatEs_mp3]; done), by first | rfl | (simp [flatO, Tl.Obj.flat, V.flats, V.flat, T.flats, T.flat, flats_app, flats_int, flats_bool, flats_str, flats_node, flats_asked, flats_pair, flats_recs, flats_fact, flatEs_mpB, flatEs_mpI, flatEs_mp3]; done), by first | rfl | omega | (simp only [tlL] <;> omega) | (simp <;> omega) | (simp [] <;> omega), WkT.refl _, by decide, (l2After_C_G x0 x1 x2 false c0), WkT.refl _, WkT.refl _, WkT.refl _, (F_spec_l2Counts_W (ansN x1 x2 false x0) x1 r16 c2), by first | rfl | (simp [V.flats, V.flat, T.flats, T.flat, flats_app, flats_int, flats_bool, flats_str, flats_node, flats_asked, flats_pair, flats_recs, flats_fact, flatEs_mpB, flatEs_mpI, flatEs_mp3]; done), by first | rfl | (simp [flatO, Tl.Obj.flat, V.flats, V.flat, T.flats, T.flat, flats_app, flats_int, flats_bool, flats_str, flats_node, flats_asked, flats_pair, flats_recs, flats_fact, flatEs_mpB, flatEs_mpI, flatEs_mp3]; done), by first | rfl | omega | (simp only [tlL] <;> omega) | (simp <;> omega) | (simp [] <;> omega), WkT.refl _, (F_spec_l4Key_W r12 r19 c3), by first | rfl | omega | (simp only [tlL] <;> omega) | (simp <;> omega) | (simp [] <;> omega), c4, at1 (by simp) (by omega), rfl, (F_spec_l4Key_W r16 r24 c5), by first | rfl | omega | (simp only [tlL] <;> omega) | (simp <;> omega) | (simp [] <;> omega), c6, at1 (by simp) (by omega), rfl, trivial, trivial⟩ (WkT.eq (y := tb (decide ((gt x3 r19 0) > (gt x3 r24 0)))) (WkT.refl _) rfl) (fun _ h => h)
theorem F_spec_HoldPlay_W (x0 : List Int) (x1 : Int) (x2 : List Int) (y0 : List Bool) (y1 : List Int) (y2 : Int) (y3 : Bool) (h : F_spec_HoldPlay x0 x1 x2 = some (y0, y1, y2, y3)) : CG Tryz.prog 12 [V.t (T.agg [tl x0, ti x1]), vl x2] [] (V.t (T.tup [tbl y0, T.agg [tl y1, ti y2], tb y3])) [] := by
 unfold F_spec_HoldPlay at h
 refine CG.intro (tab := tab) tab_ok (fn := Tryz.f12) Tryz.func12 (by kernel_rfl) rfl (Nat.le_of_ble_eq_true rfl) (by kernel_rfl) ?_
 refine WP.sk tm [(2, An.fz), (5, An.id 2005)] [] [(6, vb false), (5, V.ref 2005 0), (4, V.t (T.nils)), (2, V.t (T.ptr [tl x0, ti x1])), (1, vl x2)] [(2005, oc 26 [T.nils, ti 0])] trivial ?_
 refine WP.sn tm [(12, An.id 2012)] [(True), (0 = 0 * 1)] [2012, 2005] [(7, vo 2012 0), (6, vb false), (5, V.ref 2005 0), (4, V.t (T.nils)), (2, V.t (T.ptr [tl x0, ti x1])), (1, vl x2)] [(2005, oc 26 [T.nils, ti 0]), (2012, oc 4 [])] ⟨trivial, by decide, trivial⟩ ?_
 refine WP.seq ?_
 obtain ⟨J1, hJ1, h⟩ := jn_some h
 refine WP.joinA (fun (zz : Bool) => ⟨[2005, 2012], [(22, vb zz), (7, vo 2012 0), (6, vb false), (5, V.ref 2005 0), (4, V.t (T.nils)), (2, V.t (T.ptr [tl x0, ti x1])), (1, vl x2)], [(2005, oc 26 [T.nils, ti 0]), (2012, oc 4 [])]⟩) (fun zz => J1 zz = some (y0, y1, y2, y3)) ?_ ?_
 ·obtain ⟨r15, c0, h⟩ := bnd1_some h
  rcases ite_some h with ⟨h1, h⟩ | ⟨h1, h⟩
  ·refine WP.qk tm [(15, An.call (tb r15)), (17, An.b true)] [(2 ≤ 2), (C Tryz.prog 53 [T.agg [tl x0, ti x1], tl x2] (tb r15)), ((!r15) = true)] [(22, vb true), (7, vo 2012 0), (6, vb false), (5, V.ref 2005 0), (4, V.t (T.nils)), (2, V.t (T.ptr [tl x0, ti x1])), (1, vl x2)] [(2005, oc 26 [T.nils, ti 0]), (2012, oc 4 [])] ⟨by decide, (F_spec_l8Good_W x0 x1 x2 r15 c0), h1, trivial⟩ ?_
   exact ⟨(true), h, rfl⟩
  ·obtain ⟨r19, c1, h⟩ := bnd1_some h
   refine WP.qk tm [(15, An.call (tb r15)), (17, An.b false), (19, An.callG [(9000, 10190)] [V.t (T.agg [tl x0, ti x1])] [] (vo 9000 (List.length r19)) [(9000, oc 3 (List.map (ti) r19))])] [(2 ≤ 2), (C Tryz.prog 53 [T.agg [tl x0, ti x1], tl x2] (tb r15)), ((!r15) = false), (2 ≤ 2), (CG Tryz.prog 63 [V.t (T.agg [tl x0, ti x1])] [] (vo 9000 (List.length r19)) [(9000, oc 3 (List.map (ti) r19))]), (WkT (T.agg [tl x0, ti x1]) (T.agg [tl x0, ti x1])), (True)] [(22, vb (decide ((ln r19) > (8 : Int)))), (7, vo 2012 0), (6, vb false), (5, V.ref 2005 0), (4, V.t (T.nils)), (2, V.t (T.ptr [tl x0, ti x1])), (1, vl x2)] [(2005, oc 26 [T.nils, ti 0]), (2012, oc 4 [])] ⟨by decide, (F_spec_l8Good_W x0 x1 x2 r15 c0), h1, by decide, (F_spec_l2Open_W x0 x1 r19 c1), WkT.refl _, trivial, trivial⟩ ?_
   exact ⟨(decide ((ln r19) > (8 : Int))), h, rfl⟩
 ·intro v22 h0
  have h := (show J1 v22 = some (y0, y1, y2, y3) from h0)
  rw [hJ1] at h
  rcases ite_some h with ⟨h2, h⟩ | ⟨h2, h⟩
  ·refine WP.yes h2 rfl ?_
   simp only [Option.some.injEq, Prod.mk.injEq] at h
   obtain ⟨rfl, rfl, rfl, rfl⟩ := h
   exact WP.pathG tab_ok mixed [] [.keep [4, 5, 6], .keepO [2005, 2012], .freeze 2012, .names [(2005, 2005)]] [] _ (r' := V.t (T.tup [tbl ([] : List (Bool)), T.agg [tl [], ti (0 : Int)], tb false])) (ps := [(True), ((0 + 2 ≤ 2 ∧ 2 = 2)), (0 = 0 * 1), (0 + 2 ≤ 2)]) (r := V.t (T.tup [T.list 0 1 [], T.agg [T.nils, ti 0], tb false])) (N := [2005]) (O := []) [] (by kernel_rfl) ⟨trivial, by decide, by first | rfl | omega | (simp only [tlL] <;> omega) | (simp <;> omega) | (simp [] <;> omega), by first | decide | omega | (simp only [tlL] <;> omega) | (simp <;> omega) | (simp [] <;> omega), trivial⟩ ⟨(WkT.tup (WkL.cons (WkT.eq (WkT.refl _) (by first | rfl | (simp only [tlS, tl, vl, vo, oc, ov, tbl, vbl, ty, vy] <;> rfl) | (simp <;> omega) | (simp []; done) | (rw [List.take_of_length_le (by simp [])] <;> rfl) | (simp [List.take_of_length_le]; done))) (WkL.cons (WkT.agg (WkL.cons (WkT.nil _) (WkL.cons (WkT.eq (WkT.refl _) (by first | rfl | (simp only [tlS, tl, vl, vo, oc, ov, tbl, vbl, ty, vy] <;> rfl) | (simp <;> omega) | (simp []; done) | (rw [List.take_of_length_le (by simp [])] <;> rfl) | (simp [List.take_of_length_le]; done))) WkL.nil))) (WkL.cons (WkT.refl _) WkL.nil)))), trivial⟩ rfl rfl (fun _ h => h)
  ·refine WP.no h2 rfl ?_
   refine WP.pk tm [] [] [(7, vo 2012 0), (6, vb false), (5, V.ref 2005 0), (4, V.t (T.nils)), (2, V.t (T.ptr [tl x0, ti x1])), (1, vl x2)] [(2005, oc 26 [T.nils, ti 0]), (2012, oc 4 [])] trivial ?_
   refine WP.seq ?_
   obtain ⟨c0, h⟩ := chk_some h
   obtain ⟨r28, c1, h⟩ := bnd1_some h
   obtain ⟨c2, h⟩ := chk_some h
   refine WP.pn tm [(27, An.v (ti (x1 + 1))), (28, An.callG [(9000, 10280)] [vi (x1 + 1)] [] (vo 9000 (List.length r28)) [(9000, oc 3 (List.map (ti) r28))]), (31, An.call (tl x0)), (9, An.id 2009)] [(True), (True), (wr (x1 + 1)), (CG Tryz.prog 64 [vi (x1 + 1)] [] (vo 9000 (List.length r28)) [(9000, oc 3 (List.map (ti) r28))]), (WkT (ti (x1 + 1)) (ti (x1 + 1))), (True), (C Tryz.prog 55 [tl x0] (tl x0)), (True), ((1 = 1 ∧ 0 + 1 ≤ 2) ∧ (1 = 1 ∧ 1 + 1 ≤ 2) ∧ True), ((0 + 2 ≤ 2 ∧ 2 = 2))] [2009, 10280, 2005, 2012] [(8, vo 10280 (List.length r28)), (9, V.ref 2009 0), (7, vo 2012 0), (6, vb false), (5, V.ref 2005 0), (4, V.t (T.nils)), (1, vl x2)] [(2005, oc 26 [T.nils, ti 0]), (2009, oc 26 [tl x0, ti x1]), (2012, oc 4 []), (10280, oc 3 (List.map (ti) r28))] ⟨trivial, trivial, wrapI c0, (F_spec_l4Needs_W (x1 + 1) r28 c1), WkT.refl _, trivial, (l1Own_C x0 c2), trivial, ⟨⟨by first | rfl | (simp; done) | (simp []; done) | omega, by first | decide | (simp; done) | (simp []; done) | omega | (simp only [tlL]; omega) | (simp; omega)⟩, ⟨by first | rfl | (simp; done) | (simp []; done) | omega, by first | decide | (simp; done) | (simp []; done) | omega | (simp only [tlL]; omega) | (simp; omega)⟩, trivial⟩, by decide, trivial⟩ ?_
   obtain ⟨J1, hJ1, h⟩ := jn_some h
   refine WP.joinA (fun (zz : (List Int) × (List Bool)) => ⟨[2005, 2009, 2012], [(9, V.ref 2009 0), (7, vo 2012 (List.length zz.2)), (6, vb false), (5, V.ref 2005 0), (4, V.t (T.nils))], [(2005, oc 26 [T.nils, ti 0]), (2009, oc 26 [tl zz.1, ti x1]), (2012, oc 4 (List.map T.bool zz.2))]⟩) (fun zz => J1 zz.1 zz.2 = some (y0, y1, y2, y3)) ?_ ?_
   ·refine WP.sn tm [] [] [2009, 10280, 2005, 2012] [(10, vi 0), (8, vo 10280 (List.length r28)), (9, V.ref 2009 0), (7, vo 2012 0), (6, vb false), (5, V.ref 2005 0), (4, V.t (T.nils)), (1, vl x2)] [(2005, oc 26 [T.nils, ti 0]), (2009, oc 26 [tl x0, ti x1]), (2012, oc 4 []), (10280, oc 3 (List.map (ti) r28))] trivial ?_
    refine WP.block ?_
    refine WP.lp (α := Nat × (List Int) × (List Bool) × Int) (fun zz => ⟨[2005, 2009, 2012, 10280], [(10, vi zz.2.2.2), (8, vo 10280 (List.length r28)), (9, V.ref 2009 0), (7, vo 2012 (List.length zz.2.2.1)), (6, vb false), (5, V.ref 2005 0), (4, V.t (T.nils)), (1, vl x2)], [(2005, oc 26 [T.nils, ti 0]), (2009, oc 26 [tl zz.2.1, ti x1]), (2012, oc 4 (List.map T.bool zz.2.2.1)), (10280, oc 3 (List.map (ti) r28))]⟩) (fun zz => F_spec_HoldPlay_L1 x1 x2 r28 J1 zz.1 zz.2.1 zz.2.2.1 zz.2.2.2 = some (y0, y1, y2, y3)) (fun zz => zz.1) (fuel, x0, ([] : List Bool), (0 : Int)) h ?_
    rintro ⟨n, o9, o12, v10⟩ h0
    have h := (show F_spec_HoldPlay_L1 x1 x2 r28 J1 n o9 o12 v10 = some (y0, y1, y2, y3) from h0)
    rcases n with _ | n
    ·rw [F_spec_HoldPlay_L1] at h; cases h
    ·rw [F_spec_HoldPlay_L1] at h
     refine WP.seq ?_
     refine WP.sk tm [] [(True)] [(38, vb (decide (v10 < (ln x2)))), (10, vi v10), (8, vo 10280 (List.length r28)), (9, V.ref 2009 0), (7, vo 2012 (List.length o12)), (6, vb false), (5, V.ref 2005 0), (4, V.t (T.nils)), (1, vl x2)] [(2005, oc 26 [T.nils, ti 0]), (2009, oc 26 [tl o9, ti x1]), (2012, oc 4 (List.map T.bool o12)), (10280, oc 3 (List.map (ti) r28))] ⟨trivial, trivial⟩ ?_
     rcases ite_some h with ⟨h3, h⟩ | ⟨h3, h⟩
     ·refine WP.yes h3 rfl ?_
      refine WP.pk tm [] [] [(10, vi v10), (8, vo 10280 (List.length r28)), (9, V.ref 2009 0), (7, vo 2012 (List.length o12)), (6, vb false), (5, V.ref 2005 0), (4, V.t (T.nils)), (1, vl x2)] [(2005, oc 26 [T.nils, ti 0]), (2009, oc 26 [tl o9, ti x1]), (2012, oc 4 (List.map T.bool o12)), (10280, oc 3 (List.map (ti) r28))] trivial ?_
      refine WP.seq ?_
      refine WP.block ?_
      obtain ⟨c3, h⟩ := chk_some h
      obtain ⟨r47, c4, h⟩ := bnd1_some h
      obtain ⟨c5, h⟩ := chk_some h
      obtain ⟨c6, h⟩ := chk_some h
      refine WP.pn tm [(45, An.v (ti (gt x2 v10 0))), (47, An.call (tb r47)), (50, An.fz), (51, An.id 2051), (56, An.v (ti (gt x2 v10 0))), (58, An.call (T.agg [tl (ansN x1 (gt x2 v10 0) r47 o9), ti x1]))] [(0 + 2 ≤ 2), ((0 ≤ v10 ∧ v10 < (ln x2))), ((List.drop ((Int.toNat v10) * 1) (List.map (ti) x2) : List T)[0]? = some (ti (gt x2 v10 0))), (ti (gt x2 v10 0) = ti (gt x2 v10 0)), (C Tryz.prog 65 [T.agg [tl o9, ti x1], ti (gt x2 v10 0), tl r28] (tb r47)), (List.length (List.map (ti) r28) = (List.length r28) * 1), ((1 = 1 ∧ 0 + 1 ≤ 1) ∧ True), (1 = 1 * 1), (True), (List.length (List.map T.bool o12) = (List.length o12) * 1), ((((List.length o12) + 1) * 1 ≤ 140737488355328 ∧ (List.length o12) + 1 ≤ maxLen)), (0 + 2 ≤ 2), ((0 ≤ v10 ∧ v10 < (ln x2))), ((List.drop ((Int.toNat v10) * 1) (List.map (ti) x2) : List T)[0]? = some (ti (gt x2 v10 0))), (ti (gt x2 v10 0) = ti (gt x2 v10 0)), (C Tryz.prog 66 [T.agg [tl o9, ti x1], ti (gt x2 v10 0), tb r47] (T.agg [tl (ansN x1 (gt x2 v10 0) r47 o9), ti x1])), ((0 + 2 ≤ 2 ∧ 2 = 2))] [2051, 2005, 2009, 2012, 10280] [(7, vo 2051 ((List.length o12) + 1)), (10, vi v10), (8, vo 10280 (List.length r28)), (9, V.ref 2009 0), (6, vb false), (5, V.ref 2005 0), (4, V.t (T.nils)), (1, vl x2)] [(2005, oc 26 [T.nils, ti 0]), (2009, oc 26 [tl (ansN x1 (gt x2 v10 0) r47 o9), ti x1]), (2051, oc 4 ((List.map T.bool o12) ++ [tb r47])), (10280, oc 3 (List.map (ti) r28))] ⟨by decide, c3, at1 (by simp) (by omega), rfl, (F_spec_l8Hold_W o9 x1 (gt x2 v10 0) r28 r47 c4), by first | rfl | omega | (simp only [tlL] <;> omega) | (simp <;> omega) | (simp [] <;> omega), ⟨⟨by first | rfl | (simp; done) | (simp []; done) | omega, by first | decide | (simp; done) | (simp []; done) | omega | (simp only [tlL]; omega) | (simp; omega)⟩, trivial⟩, by decide, trivial, by first | rfl | omega | (simp only [tlL] <;> omega) | (simp <;> omega) | (simp [] <;> omega), c5, by decide, c3, at1 (by simp) (by omega), rfl, (l2After_C o9 x1 (gt x2 v10 0) r47 c6), by decide, trivial⟩ ?_
      obtain ⟨c7, h⟩ := chk_some h
      refine WP.nk tm [(40, An.v (ti (v10 + 1)))] [(2005, 2005), (2009, 2009), (2051, 2012), (10280, 10280)] .normal [(True), (wr (v10 + 1))] [(10, vi (v10 + 1)), (8, vo 10280 (List.length r28)), (9, V.ref 2009 0), (7, vo 2012 ((List.length o12) + 1)), (6, vb false), (5, V.ref 2005 0), (4, V.t (T.nils)), (1, vl x2)] [(2005, oc 26 [T.nils, ti 0]), (2009, oc 26 [tl (ansN x1 (gt x2 v10 0) r47 o9), ti x1]), (2012, oc 4 ((List.map T.bool o12) ++ [tb r47])), (10280, oc 3 (List.map (ti) r28))] ⟨trivial, wrapI c7, trivial⟩ ?_
      exact ⟨(n, ansN x1 (gt x2 v10 0) r47 o9, o12 ++ [r47], (v10 + 1)), h, Nat.lt_succ_self _, (by first | rfl | (simp only [tlS, tl, vl, vo, oc, ov, tbl, vbl, ty, vy] <;> rfl) | (simp <;> omega) | (simp []; done) | (rw [List.take_of_length_le (by simp [])] <;> rfl) | (simp [List.take_of_length_le]; done))⟩
     ·refine WP.no h3 rfl ?_
      refine WP.eq tm [] 0 [] [(9, V.ref 2009 0), (7, vo 2012 (List.length o12)), (6, vb false), (5, V.ref 2005 0), (4, V.t (T.nils))] [(2005, oc 26 [T.nils, ti 0]), (2009, oc 26 [tl o9, ti x1]), (2012, oc 4 (List.map T.bool o12))] trivial ?_
      exact ⟨(o9, o12), h, rfl⟩
   ·rintro ⟨o9, o12⟩ h0
    have h := (show J1 o9 o12 = some (y0, y1, y2, y3) from h0)
    rw [hJ1] at h
    simp only [Option.some.injEq, Prod.mk.injEq] at h
    obtain ⟨rfl, rfl, rfl, rfl⟩ := h
    exact WP.pathG tab_ok mixed [] [.keep [4, 5, 6], .keepO [2005, 2012], .freeze 2012, .names [(2005, 2005)]] [] _ (r' := V.t (T.tup [tbl o12, T.agg [tl o9, ti x1], tb true])) (ps := [(0 + 2 ≤ 2), ((0 + 2 ≤ 2 ∧ 2 = 2)), (List.length (List.map T.bool o12) = (List.length o12) * 1), (0 + 2 ≤ 2)]) (r := V.t (T.tup [tbl o12, T.agg [tl o9, ti x1], tb true])) (N := [2005]) (O := []) [] (by kernel_rfl) ⟨by decide, by decide, by first | rfl | omega | (simp only [tlL] <;> omega) | (simp <;> omega) | (simp [] <;> omega), by first | decide | omega | (simp only [tlL] <;> omega) | (simp <;> omega) | (simp [] <;> omega), trivial⟩ ⟨(WkT.refl _), trivial⟩ rfl rfl (fun _ h => h)
theorem F_spec_HoldPlay_W_C (x0 : List Int) (x1 : Int) (x2 : List Int) (y0 : List Bool) (y1 : List Int) (y2 : Int) (y3 : Bool) (h : F_spec_HoldPlay x0 x1 x2 = some (y0, y1, y2, y3)) : C Tryz.prog 12 [T.agg [tl x0, ti x1], tl x2] (T.tup [tbl y0, T.agg [tl y1, ti y2], tb y3]) :=
 CG.toC (ps := []) (F_spec_HoldPlay_W  x0 x1 x2 y0 y1 y2 y3 h) (by rfl) trivial
theorem F_laws_rBools_W (x0 : List Bool) (x1 : List Bool) (y0 : Bool) (h : F_laws_rBools x0 x1 = some y0) : C Tryz.prog 13 [tbl x0, tbl x1] (tb y0) := by
 unfold F_laws_rBools at h
 refine C.intro (tab := tab) tab_ok (fn := Tryz.f13) Tryz.func13 (by kernel_rfl) rfl (Nat.le_of_ble_eq_true rfl) ?_
 refine WP.sk tm [] [] [(4, vb false), (0, vbl x0), (1, vbl x1)] [] trivial ?_
 refine WP.seq ?_
 refine WP.sk tm [] [(True)] [(10, vb ((ln x0) != (ln x1))), (4, vb false), (0, vbl x0), (1, vbl x1)] [] ⟨trivial, trivial⟩ ?_
 rcases ite_some h with ⟨h1, h⟩ | ⟨h1, h⟩
 ·refine WP.yes h1 rfl ?_
  have h := Option.some.inj h
  subst h
  exact WP.pathW tab_ok mixed [] _ (ps := []) (r := tb false) (by kernel_rfl) trivial (WkT.eq (y := tb false) (WkT.refl _) rfl) (fun _ h => h)
 ·refine WP.no h1 rfl ?_
  refine WP.pk tm [] [] [(4, vb false), (0, vbl x0), (1, vbl x1)] [] trivial ?_
  obtain ⟨J1, hJ1, h⟩ := jn_some h
  refine WP.joinA (fun (zz : Unit) => ⟨[], [(4, vb false)], []⟩) (fun zz => J1 () = some y0) ?_ ?_
  ·refine WP.sk tm [] [] [(5, vi 0), (4, vb false), (0, vbl x0), (1, vbl x1)] [] trivial ?_
   refine WP.block ?_
   refine WP.lp (α := Nat × Int) (fun zz => ⟨[], [(5, vi zz.2), (4, vb false), (0, vbl x0), (1, vbl x1)], []⟩) (fun zz => F_laws_rBools_L1 x0 x1 J1 zz.1 zz.2 = some y0) (fun zz => zz.1) (fuel, (0 : Int)) h ?_
   rintro ⟨n, v5⟩ h0
   have h := (show F_laws_rBools_L1 x0 x1 J1 n v5 = some y0 from h0)
   rcases n with _ | n
   ·rw [F_laws_rBools_L1] at h; cases h
   ·rw [F_laws_rBools_L1] at h
    refine WP.seq ?_
    refine WP.sk tm [] [(True)] [(14, vb (decide (v5 < (ln x0)))), (5, vi v5), (4, vb false), (0, vbl x0), (1, vbl x1)] [] ⟨trivial, trivial⟩ ?_
    rcases ite_some h with ⟨h2, h⟩ | ⟨h2, h⟩
    ·refine WP.yes h2 rfl ?_
     refine WP.pk tm [] [] [(5, vi v5), (4, vb false), (0, vbl x0), (1, vbl x1)] [] trivial ?_
     refine WP.seq ?_
     refine WP.block ?_
     refine WP.seq ?_
     obtain ⟨c0, h⟩ := chk_some h
     obtain ⟨c1, h⟩ := chk_some h
     refine WP.pk tm [(20, An.v (tb (gt x0 v5 false))), (24, An.v (tb (gt x1 v5 false)))] [((0 ≤ v5 ∧ v5 < (ln x0))), ((List.drop ((Int.toNat v5) * 1) (List.map T.bool x0) : List T)[0]? = some (tb (gt x0 v5 false))), (tb (gt x0 v5 false) = tb (gt x0 v5 false)), ((0 ≤ v5 ∧ v5 < (ln x1))), ((List.drop ((Int.toNat v5) * 1) (List.map T.bool x1) : List T)[0]? = some (tb (gt x1 v5 false))), (tb (gt x1 v5 false) = tb (gt x1 v5 false)), (True)] [(25, vb (!((gt x0 v5 false) == (gt x1 v5 false)))), (5, vi v5), (4, vb false), (0, vbl x0), (1, vbl x1)] [] ⟨c0, at1 (by simp) (by omega), rfl, c1, at1 (by simp) (by omega), rfl, trivial, trivial⟩ ?_
     rcases ite_some h with ⟨h3, h⟩ | ⟨h3, h⟩
     ·refine WP.yes h3 rfl ?_
      have h := Option.some.inj h
      subst h
      exact WP.pathW tab_ok mixed [] _ (ps := []) (r := tb false) (by kernel_rfl) trivial (WkT.eq (y := tb false) (WkT.refl _) rfl) (fun _ h => h)
     ·refine WP.no h3 rfl ?_
      refine WP.pk tm [] [] [(5, vi v5), (4, vb false), (0, vbl x0), (1, vbl x1)] [] trivial ?_
      obtain ⟨c2, h⟩ := chk_some h
      refine WP.qk tm [(16, An.v (ti (v5 + 1)))] [(True), (wr (v5 + 1))] [(5, vi (v5 + 1)), (4, vb false), (0, vbl x0), (1, vbl x1)] [] ⟨trivial, wrapI c2, trivial⟩ ?_
      exact ⟨(n, (v5 + 1)), h, Nat.lt_succ_self _, rfl⟩
    ·refine WP.no h2 rfl ?_
     refine WP.eq tm [] 0 [] [(4, vb false)] [] trivial ?_
     exact ⟨(), h, rfl⟩
  ·intro _ h0
   have h := (show J1 () = some y0 from h0)
   rw [hJ1] at h
   have h := Option.some.inj h
   subst h
   exact WP.pathW tab_ok mixed [] _ (ps := []) (r := tb true) (by kernel_rfl) trivial (WkT.eq (y := tb true) (WkT.refl _) rfl) (fun _ h => h)
theorem F_spec_DrawAnswerState_W (x0 : List Int) (y0 : List Int) (y1 : Int) (y2 : Int) (y3 : Bool) (h : F_spec_DrawAnswerState x0 = some (y0, y1, y2, y3)) : CG Tryz.prog 122 [vy x0] [] (V.tup [V.agg [vo 9000 (List.length y0), vi y1], V.t (T.agg [ti y2, tb y3])]) [(9000, oc 3 (List.map (ti) y0))] := by
 unfold F_spec_DrawAnswerState at h
 refine CG.intro (tab := tab) tab_ok (fn := Tryz.f122) Tryz.func122 (by kernel_rfl) rfl (Nat.le_of_ble_eq_true rfl) (by kernel_rfl) ?_
 obtain ⟨r11, r11b, r11c, r11d, r11e, c0, h⟩ := bnd5_some h
 obtain ⟨r13, r13b, r13c, r13d, c1, h⟩ := bnd4_some h
 obtain ⟨r19, r19b, r19c, r19d, c2, h⟩ := bnd4_some h
 simp only [Option.some.injEq, Prod.mk.injEq] at h
 obtain ⟨rfl, rfl, rfl, rfl⟩ := h
 exact WP.pathG tab_ok mixed [(2, An.id 2002), (3, An.id 2003), (9, An.id 2009), (11, An.callG [(500, 2009), (9000, 10110)] [V.ref 500 0] [(500, oc 65 [ty x0, ti 0, T.int .u64 0])] (V.agg [vo 9000 (List.length r11), vi r11b]) [(500, oc 65 [ty r11c, ti r11d, T.int .u64 r11e]), (9000, oc 3 (List.map (ti) r11))]), (5, An.id 2005), (13, An.callG [(500, 2009)] [V.ref 500 0, vi 2] [(500, oc 65 [ty r11c, ti r11d, T.int .u64 r11e])] (vb r13) [(500, oc 65 [ty r13b, ti r13c, T.int .u64 r13d])]), (19, An.callG [(500, 2009)] [V.ref 500 0, vi (ln r11)] [(500, oc 65 [ty r13b, ti r13c, T.int .u64 r13d])] (vi r19) [(500, oc 65 [ty r19b, ti r19c, T.int .u64 r19d])])] [.keep [2, 3], .keepO [10110, 2002, 2003], .names [(10110, 9000), (2002, 2002), (2003, 2003)]] [9000] _ (r' := V.tup [V.agg [vo 9000 (List.length r11), vi r11b], V.t (T.agg [ti r19, tb r13])]) (ps := [((1 = 1 ∧ 0 + 1 ≤ 3) ∧ True), (CG Tryz.prog 107 [V.ref 500 0] [(500, oc 65 [ty x0, ti 0, T.int .u64 0])] (V.agg [vo 9000 (List.length r11), vi r11b]) [(500, oc 65 [ty r11c, ti r11d, T.int .u64 r11e]), (9000, oc 3 (List.map (ti) r11))]), ((V.ref 500 0).ren (renF [(500, 2009), (9000, 10110)]) = V.ref 2009 0), ((oc 65 [ty x0, ti 0, T.int .u64 0]) = (oc 65 [ty x0, ti 0, T.int .u64 0]).ren (renF [(500, 2009), (9000, 10110)])), ((0 + 2 ≤ 2 ∧ 2 = 2)), (CG Tryz.prog 47 [V.ref 500 0, vi 2] [(500, oc 65 [ty r11c, ti r11d, T.int .u64 r11e])] (vb r13) [(500, oc 65 [ty r13b, ti r13c, T.int .u64 r13d])]), ((V.ref 500 0).ren (renF [(500, 2009)]) = V.ref 2009 0), (WkT (ti 2) (ti 2)), ((oc 65 [ty r11c, ti r11d, T.int .u64 r11e]) = (oc 65 [ty r11c, ti r11d, T.int .u64 r11e]).ren (renF [(500, 2009)])), (0 + 2 ≤ 2), (True), (CG Tryz.prog 108 [V.ref 500 0, vi (ln r11)] [(500, oc 65 [ty r13b, ti r13c, T.int .u64 r13d])] (vi r19) [(500, oc 65 [ty r19b, ti r19c, T.int .u64 r19d])]), ((V.ref 500 0).ren (renF [(500, 2009)]) = V.ref 2009 0), (WkT (ti (ln r11)) (ti (ln r11))), ((oc 65 [ty r13b, ti r13c, T.int .u64 r13d]) = (oc 65 [ty r13b, ti r13c, T.int .u64 r13d]).ren (renF [(500, 2009)])), ((1 = 1 ∧ 0 + 1 ≤ 2) ∧ (1 = 1 ∧ 1 + 1 ≤ 2) ∧ True), ((0 + 2 ≤ 2 ∧ 2 = 2)), ((0 + 2 ≤ 2 ∧ 2 = 2)), (0 + 2 ≤ 2), (0 + 2 ≤ 2)]) (r := V.tup [V.agg [vo 9000 (List.length r11), vi r11b], V.t (T.agg [ti r19, tb r13])]) (N := [9000, 2002, 2003]) (O := [(9000, oc 3 (List.map (ti) r11))]) [] (by kernel_rfl) ⟨⟨⟨by first | rfl | (simp; done) | (simp []; done) | omega, by first | decide | (simp; done) | (simp []; done) | omega | (simp only [tlL]; omega) | (simp; omega)⟩, trivial⟩, (F_p_spec_l1Cur_state_W x0 (0 : Int) (0 : Int) r11 r11b r11c r11d r11e c0), by first | rfl | (simp [V.ren, V.renL, renF, lk]; done) | (simp [V.ren, V.renL, renF, lk]; omega), rfl, by decide, (F_p_spec_l1Cur_one_W r11c r11d r11e (2 : Int) r13 r13b r13c r13d c1), by first | rfl | (simp [V.ren, V.renL, renF, lk]; done) | (simp [V.ren, V.renL, renF, lk]; omega), WkT.refl _, rfl, by decide, trivial, (F_p_spec_l1Cur_question_W r13b r13c r13d (ln r11) r19 r19b r19c r19d c2), by first | rfl | (simp [V.ren, V.renL, renF, lk]; done) | (simp [V.ren, V.renL, renF, lk]; omega), WkT.refl _, rfl, ⟨⟨by first | rfl | (simp; done) | (simp []; done) | omega, by first | decide | (simp; done) | (simp []; done) | omega | (simp only [tlL]; omega) | (simp; omega)⟩, ⟨by first | rfl | (simp; done) | (simp []; done) | omega, by first | decide | (simp; done) | (simp []; done) | omega | (simp only [tlL]; omega) | (simp; omega)⟩, trivial⟩, by decide, by decide, by decide, by first | decide | omega | (simp only [tlL] <;> omega) | (simp <;> omega) | (simp [] <;> omega), trivial⟩ ⟨rfl, (WkT.refl _), (WkT.refl _), trivial⟩ rfl rfl (fun _ h => h)
theorem F_spec_DrawAnswerState_W_C (x0 : List Int) (y0 : List Int) (y1 : Int) (y2 : Int) (y3 : Bool) (h : F_spec_DrawAnswerState x0 = some (y0, y1, y2, y3)) : C Tryz.prog 122 [ty x0] (T.tup [T.agg [tl y0, ti y1], T.agg [ti y2, tb y3]]) :=
 CG.toC (ps := [(List.length (List.map (ti) y0) = (List.length y0) * 1)]) (F_spec_DrawAnswerState_W  x0 y0 y1 y2 y3 h) (by rfl) ⟨by first | rfl | omega | (simp <;> omega) | (simp [hl] <;> omega), trivial⟩
theorem F_spec_DrawVainQuestion_W (x0 : List Int) (y0 : List Int) (y1 : Int) (y2 : Int) (h : F_spec_DrawVainQuestion x0 = some (y0, y1, y2)) : CG Tryz.prog 67 [vy x0] [] (V.tup [V.agg [vo 9000 (List.length y0), vi y1], vi y2]) [(9000, oc 3 (List.map (ti) y0))] := by
 unfold F_spec_DrawVainQuestion at h
 refine CG.intro (tab := tab) tab_ok (fn := Tryz.f67) Tryz.func67 (by kernel_rfl) rfl (Nat.le_of_ble_eq_true rfl) (by kernel_rfl) ?_
 obtain ⟨r8, r8b, r8c, r8d, c0, h⟩ := bnd4_some h
 simp only [Option.some.injEq, Prod.mk.injEq] at h
 obtain ⟨rfl, rfl, rfl⟩ := h
 exact WP.pathG tab_ok mixed [(2, An.id 2002), (8, An.callG [(9000, 10080)] [vy x0] [] (V.tup [V.agg [vo 9000 (List.length r8), vi r8b], V.t (T.agg [ti r8c, tb r8d])]) [(9000, oc 3 (List.map (ti) r8))]), (4, An.id 2004), (5, An.id 2005)] [.keep [2, 3], .keepO [10080, 2002], .names [(10080, 9000), (2002, 2002)]] [9000] _ (r' := V.tup [V.agg [vo 9000 (List.length r8), vi r8b], vi r8c]) (ps := [(CG Tryz.prog 122 [vy x0] [] (V.tup [V.agg [vo 9000 (List.length r8), vi r8b], V.t (T.agg [ti r8c, tb r8d])]) [(9000, oc 3 (List.map (ti) r8))]), (WkT (ty x0) (ty x0)), ((0 + 2 ≤ 2 ∧ 2 = 2)), ((0 + 2 ≤ 2 ∧ 2 = 2)), (0 + 2 ≤ 2), (True), ((0 + 2 ≤ 2 ∧ 2 = 2)), (0 + 2 ≤ 2)]) (r := V.tup [V.agg [vo 9000 (List.length r8), vi r8b], vi r8c]) (N := [9000, 2002]) (O := [(9000, oc 3 (List.map (ti) r8))]) [] (by kernel_rfl) ⟨(F_spec_DrawAnswerState_W x0 r8 r8b r8c r8d c0), WkT.refl _, by decide, by decide, by decide, trivial, by decide, by decide, trivial⟩ ⟨rfl, (WkT.refl _), (WkT.refl _), trivial⟩ rfl rfl (fun _ h => h)
theorem F_spec_DrawVainQuestion_W_C (x0 : List Int) (y0 : List Int) (y1 : Int) (y2 : Int) (h : F_spec_DrawVainQuestion x0 = some (y0, y1, y2)) : C Tryz.prog 67 [ty x0] (T.tup [T.agg [tl y0, ti y1], ti y2]) :=
 CG.toC (ps := [(List.length (List.map (ti) y0) = (List.length y0) * 1)]) (F_spec_DrawVainQuestion_W  x0 y0 y1 y2 h) (by rfl) ⟨by first | rfl | omega | (simp <;> omega) | (simp [hl] <;> omega), trivial⟩
theorem F_spec_DrawHoldAnswer_W (x0 : List Int) (y0 : List Int) (y1 : Int) (y2 : Int) (h : F_spec_DrawHoldAnswer x0 = some (y0, y1, y2)) : CG Tryz.prog 14 [vy x0] [] (V.tup [V.agg [vo 9000 (List.length y0), vi y1], vi y2]) [(9000, oc 3 (List.map (ti) y0))] := by
 unfold F_spec_DrawHoldAnswer at h
 refine CG.intro (tab := tab) tab_ok (fn := Tryz.f14) Tryz.func14 (by kernel_rfl) rfl (Nat.le_of_ble_eq_true rfl) (by kernel_rfl) ?_
 obtain ⟨r5, r5b, r5c, c0, h⟩ := bnd3_some h
 simp only [Option.some.injEq, Prod.mk.injEq] at h
 obtain ⟨rfl, rfl, rfl⟩ := h
 exact WP.pathG tab_ok mixed [(2, An.id 2002), (5, An.callG [(9000, 10050)] [vy x0] [] (V.tup [V.agg [vo 9000 (List.length r5), vi r5b], vi r5c]) [(9000, oc 3 (List.map (ti) r5))])] [.keep [2, 3], .keepO [10050, 2002], .names [(10050, 9000), (2002, 2002)]] [9000] _ (r' := V.tup [V.agg [vo 9000 (List.length r5), vi r5b], vi r5c]) (ps := [(CG Tryz.prog 67 [vy x0] [] (V.tup [V.agg [vo 9000 (List.length r5), vi r5b], vi r5c]) [(9000, oc 3 (List.map (ti) r5))]), (WkT (ty x0) (ty x0)), ((0 + 2 ≤ 2 ∧ 2 = 2)), (0 + 2 ≤ 2)]) (r := V.tup [V.agg [vo 9000 (List.length r5), vi r5b], vi r5c]) (N := [9000, 2002]) (O := [(9000, oc 3 (List.map (ti) r5))]) [] (by kernel_rfl) ⟨(F_spec_DrawVainQuestion_W x0 r5 r5b r5c c0), WkT.refl _, by decide, by decide, trivial⟩ ⟨rfl, (WkT.refl _), (WkT.refl _), trivial⟩ rfl rfl (fun _ h => h)
theorem F_spec_DrawHoldAnswer_W_C (x0 : List Int) (y0 : List Int) (y1 : Int) (y2 : Int) (h : F_spec_DrawHoldAnswer x0 = some (y0, y1, y2)) : C Tryz.prog 14 [ty x0] (T.tup [T.agg [tl y0, ti y1], ti y2]) :=
 CG.toC (ps := [(List.length (List.map (ti) y0) = (List.length y0) * 1)]) (F_spec_DrawHoldAnswer_W  x0 y0 y1 y2 h) (by rfl) ⟨by first | rfl | omega | (simp <;> omega) | (simp [hl] <;> omega), trivial⟩
theorem F_impl_HoldAnswer_W (x0 : List Int) (x1 : Int) (x2 : Int) (y0 : Bool) (y1 : Bool) (h : F_impl_HoldAnswer x0 x1 x2 = some (y0, y1)) : C Tryz.prog 15 [T.agg [tl x0, ti x1], ti x2] (T.tup [tb y0, tb y1]) := by
 unfold F_impl_HoldAnswer at h
 refine C.intro (tab := tab) tab_ok (fn := Tryz.f15) Tryz.func15 (by kernel_rfl) rfl (Nat.le_of_ble_eq_true rfl) ?_
 refine WP.sk tm [(2, An.fz)] [] [(5, vb false), (4, vb false), (2, V.t (T.ptr [tl x0, ti x1])), (1, vi x2)] [] trivial ?_
 refine WP.seq ?_
 obtain ⟨J1, hJ1, h⟩ := jn_some h
 refine WP.joinA (fun (zz : Bool) => ⟨[], [(16, vb zz), (5, vb false), (4, vb false), (2, V.t (T.ptr [tl x0, ti x1])), (1, vi x2)], []⟩) (fun zz => J1 zz = some (y0, y1)) ?_ ?_
 ·obtain ⟨r9, c0, h⟩ := bnd1_some h
  rcases ite_some h with ⟨h1, h⟩ | ⟨h1, h⟩
  ·refine WP.qk tm [(8, An.fz), (9, An.callW [T.agg [tl x0, ti x1], tl [x2]] (tb r9)), (11, An.b true)] [(2 ≤ 2), ((1 = 1 ∧ 0 + 1 ≤ 1) ∧ True), (1 = 1 * 1), (C Tryz.prog 48 [T.agg [tl x0, ti x1], tl [x2]] (tb r9)), (WkL [T.agg [tl x0, ti x1], T.list 1 1 [ti x2]] [T.agg [tl x0, ti x1], tl [x2]]), ((!r9) = true)] [(16, vb true), (5, vb false), (4, vb false), (2, V.t (T.ptr [tl x0, ti x1])), (1, vi x2)] [] ⟨by decide, ⟨⟨by first | rfl | (simp; done) | (simp []; done) | omega, by first | decide | (simp; done) | (simp []; done) | omega | (simp only [tlL]; omega) | (simp; omega)⟩, trivial⟩, by decide, (F_impl_areListed_W x0 x1 [x2] r9 c0), (WkL.cons (WkT.refl _) (WkL.cons (WkT.eq (WkT.refl _) (by first | rfl | (simp only [tlS, tl, vl, vo, oc, ov, tbl, vbl, ty, vy] <;> rfl) | (simp <;> omega) | (simp []; done) | (rw [List.take_of_length_le (by simp [])] <;> rfl) | (simp [List.take_of_length_le]; done))) WkL.nil)), h1, trivial⟩ ?_
   exact ⟨(true), h, rfl⟩
  ·obtain ⟨c1, h⟩ := chk_some h
   refine WP.qk tm [(8, An.fz), (9, An.callW [T.agg [tl x0, ti x1], tl [x2]] (tb r9)), (11, An.b false), (13, An.callG [(9000, 10130)] [V.t (T.agg [tl x0, ti x1])] [] (vo 9000 (List.length (openN x0))) [(9000, oc 3 (List.map (ti) (openN x0)))])] [(2 ≤ 2), ((1 = 1 ∧ 0 + 1 ≤ 1) ∧ True), (1 = 1 * 1), (C Tryz.prog 48 [T.agg [tl x0, ti x1], tl [x2]] (tb r9)), (WkL [T.agg [tl x0, ti x1], T.list 1 1 [ti x2]] [T.agg [tl x0, ti x1], tl [x2]]), ((!r9) = false), (2 ≤ 2), (CG Tryz.prog 57 [V.t (T.agg [tl x0, ti x1])] [] (vo 9000 (List.length (openN x0))) [(9000, oc 3 (List.map (ti) (openN x0)))]), (WkT (T.agg [tl x0, ti x1]) (T.agg [tl x0, ti x1])), (True)] [(16, vb (decide ((ln (openN x0)) > (8 : Int)))), (5, vb false), (4, vb false), (2, V.t (T.ptr [tl x0, ti x1])), (1, vi x2)] [] ⟨by decide, ⟨⟨by first | rfl | (simp; done) | (simp []; done) | omega, by first | decide | (simp; done) | (simp []; done) | omega | (simp only [tlL]; omega) | (simp; omega)⟩, trivial⟩, by decide, (F_impl_areListed_W x0 x1 [x2] r9 c0), (WkL.cons (WkT.refl _) (WkL.cons (WkT.eq (WkT.refl _) (by first | rfl | (simp only [tlS, tl, vl, vo, oc, ov, tbl, vbl, ty, vy] <;> rfl) | (simp <;> omega) | (simp []; done) | (rw [List.take_of_length_le (by simp [])] <;> rfl) | (simp [List.take_of_length_le]; done))) WkL.nil)), h1, by decide, (open_C_G x0 x1 c1), WkT.refl _, trivial, trivial⟩ ?_
   exact ⟨(decide ((ln (openN x0)) > (8 : Int))), h, rfl⟩
 ·intro v16 h0
  have h := (show J1 v16 = some (y0, y1) from h0)
  rw [hJ1] at h
  rcases ite_some h with ⟨h2, h⟩ | ⟨h2, h⟩
  ·refine WP.yes h2 rfl ?_
   simp only [Option.some.injEq, Prod.mk.injEq] at h
   obtain ⟨rfl, rfl⟩ := h
   exact WP.pathW tab_ok mixed [] _ (ps := []) (r := T.tup [tb false, tb false]) (by kernel_rfl) trivial (WkT.eq (y := T.tup [tb false, tb false]) (WkT.refl _) rfl) (fun _ h => h)
  ·refine WP.no h2 rfl ?_
   refine WP.pk tm [] [] [(5, vb false), (4, vb false), (2, V.t (T.ptr [tl x0, ti x1])), (1, vi x2)] [] trivial ?_
   obtain ⟨r18, c0, h⟩ := bnd1_some h
   obtain ⟨r20, c1, h⟩ := bnd1_some h
   simp only [Option.some.injEq, Prod.mk.injEq] at h
   obtain ⟨rfl, rfl⟩ := h
   exact WP.pathW tab_ok mixed [(18, An.call (T.agg [T.fn 59 [] [], mapT (mpT r18)])), (20, An.call (tb r20))] _ (ps := [(2 ≤ 2), (C Tryz.prog 58 [T.fn 59 [] []] (T.agg [T.fn 59 [] [], mapT (mpT r18)])), (C Tryz.prog 61 [T.agg [tl x0, ti x1], T.agg [T.fn 59 [] [], mapT (mpT r18)], ti x2] (tb r20))]) (r := T.tup [tb r20, tb true]) (by kernel_rfl) ⟨by decide, (F_impl_neederOf_W 59 [] [] (fun u0 u1 => F_impl_bothWays u0 u1) (fun u0 u1 w0 w1 hh => F_impl_bothWays_W_C u0 u1 w0 w1 hh) r18 c0), (F_impl_State_hold_W x0 x1 59 [] [] (fun u0 u1 => F_impl_bothWays u0 u1) (fun u0 u1 w0 w1 hh => F_impl_bothWays_W_C u0 u1 w0 w1 hh) r18 x2 r20 c1), trivial⟩ (WkT.eq (y := T.tup [tb r20, tb true]) (WkT.refl _) rfl) (fun _ h => h)
theorem F_spec_HoldAnswer_W (x0 : List Int) (x1 : Int) (x2 : Int) (y0 : Bool) (y1 : Bool) (h : F_spec_HoldAnswer x0 x1 x2 = some (y0, y1)) : C Tryz.prog 16 [T.agg [tl x0, ti x1], ti x2] (T.tup [tb y0, tb y1]) := by
 unfold F_spec_HoldAnswer at h
 refine C.intro (tab := tab) tab_ok (fn := Tryz.f16) Tryz.func16 (by kernel_rfl) rfl (Nat.le_of_ble_eq_true rfl) ?_
 refine WP.sk tm [(2, An.fz)] [] [(5, vb false), (4, vb false), (2, V.t (T.ptr [tl x0, ti x1])), (1, vi x2)] [] trivial ?_
 refine WP.seq ?_
 obtain ⟨J1, hJ1, h⟩ := jn_some h
 refine WP.joinA (fun (zz : Bool) => ⟨[], [(20, vb zz), (5, vb false), (4, vb false), (2, V.t (T.ptr [tl x0, ti x1])), (1, vi x2)], []⟩) (fun zz => J1 zz = some (y0, y1)) ?_ ?_
 ·obtain ⟨c0, h⟩ := chk_some h
  rcases ite_some h with ⟨h1, h⟩ | ⟨h1, h⟩
  ·refine WP.qk tm [(7, An.call (tb (isStateN x0 x1))), (9, An.b true)] [(2 ≤ 2), (C Tryz.prog 68 [T.agg [tl x0, ti x1]] (tb (isStateN x0 x1))), ((!(isStateN x0 x1)) = true)] [(20, vb true), (5, vb false), (4, vb false), (2, V.t (T.ptr [tl x0, ti x1])), (1, vi x2)] [] ⟨by decide, (l2State_C x0 x1 c0), h1, trivial⟩ ?_
   exact ⟨(true), h, rfl⟩
  ·rcases ite_some h with ⟨h2, h⟩ | ⟨h2, h⟩
   ·refine WP.qk tm [(7, An.call (tb (isStateN x0 x1))), (9, An.b false), (12, An.call (tb (isQ (ln x0) x2))), (15, An.b true)] [(2 ≤ 2), (C Tryz.prog 68 [T.agg [tl x0, ti x1]] (tb (isStateN x0 x1))), ((!(isStateN x0 x1)) = false), (2 ≤ 2), (C Tryz.prog 69 [T.agg [tl x0, ti x1], ti x2] (tb (isQ (ln x0) x2))), ((!(isQ (ln x0) x2)) = true)] [(20, vb true), (5, vb false), (4, vb false), (2, V.t (T.ptr [tl x0, ti x1])), (1, vi x2)] [] ⟨by decide, (l2State_C x0 x1 c0), h1, by decide, (l2Question_C x0 x1 x2 c0), h2, trivial⟩ ?_
    exact ⟨(true), h, rfl⟩
   ·obtain ⟨r17, c1, h⟩ := bnd1_some h
    refine WP.qk tm [(7, An.call (tb (isStateN x0 x1))), (9, An.b false), (12, An.call (tb (isQ (ln x0) x2))), (15, An.b false), (17, An.callG [(9000, 10170)] [V.t (T.agg [tl x0, ti x1])] [] (vo 9000 (List.length r17)) [(9000, oc 3 (List.map (ti) r17))])] [(2 ≤ 2), (C Tryz.prog 68 [T.agg [tl x0, ti x1]] (tb (isStateN x0 x1))), ((!(isStateN x0 x1)) = false), (2 ≤ 2), (C Tryz.prog 69 [T.agg [tl x0, ti x1], ti x2] (tb (isQ (ln x0) x2))), ((!(isQ (ln x0) x2)) = false), (2 ≤ 2), (CG Tryz.prog 63 [V.t (T.agg [tl x0, ti x1])] [] (vo 9000 (List.length r17)) [(9000, oc 3 (List.map (ti) r17))]), (WkT (T.agg [tl x0, ti x1]) (T.agg [tl x0, ti x1])), (True)] [(20, vb (decide ((ln r17) > (8 : Int)))), (5, vb false), (4, vb false), (2, V.t (T.ptr [tl x0, ti x1])), (1, vi x2)] [] ⟨by decide, (l2State_C x0 x1 c0), h1, by decide, (l2Question_C x0 x1 x2 c0), h2, by decide, (F_spec_l2Open_W x0 x1 r17 c1), WkT.refl _, trivial, trivial⟩ ?_
    exact ⟨(decide ((ln r17) > (8 : Int))), h, rfl⟩
 ·intro v20 h0
  have h := (show J1 v20 = some (y0, y1) from h0)
  rw [hJ1] at h
  rcases ite_some h with ⟨h3, h⟩ | ⟨h3, h⟩
  ·refine WP.yes h3 rfl ?_
   simp only [Option.some.injEq, Prod.mk.injEq] at h
   obtain ⟨rfl, rfl⟩ := h
   exact WP.pathW tab_ok mixed [] _ (ps := []) (r := T.tup [tb false, tb false]) (by kernel_rfl) trivial (WkT.eq (y := T.tup [tb false, tb false]) (WkT.refl _) rfl) (fun _ h => h)
  ·refine WP.no h3 rfl ?_
   refine WP.pk tm [] [] [(5, vb false), (4, vb false), (2, V.t (T.ptr [tl x0, ti x1])), (1, vi x2)] [] trivial ?_
   obtain ⟨c0, h⟩ := chk_some h
   obtain ⟨r26, c1, h⟩ := bnd1_some h
   obtain ⟨r27, c2, h⟩ := bnd1_some h
   simp only [Option.some.injEq, Prod.mk.injEq] at h
   obtain ⟨rfl, rfl⟩ := h
   exact WP.pathW tab_ok mixed [(25, An.v (ti (x1 + 1))), (26, An.callG [(9000, 10260)] [vi (x1 + 1)] [] (vo 9000 (List.length r26)) [(9000, oc 3 (List.map (ti) r26))]), (27, An.call (tb r27))] _ (ps := [(2 ≤ 2), (True), (True), (wr (x1 + 1)), (CG Tryz.prog 64 [vi (x1 + 1)] [] (vo 9000 (List.length r26)) [(9000, oc 3 (List.map (ti) r26))]), (WkT (ti (x1 + 1)) (ti (x1 + 1))), (C Tryz.prog 65 [T.agg [tl x0, ti x1], ti x2, tl r26] (tb r27)), (List.length (List.map (ti) r26) = (List.length r26) * 1)]) (r := T.tup [tb r27, tb true]) (by kernel_rfl) ⟨by decide, trivial, trivial, wrapI c0, (F_spec_l4Needs_W (x1 + 1) r26 c1), WkT.refl _, (F_spec_l8Hold_W x0 x1 x2 r26 r27 c2), by first | rfl | omega | (simp only [tlL] <;> omega) | (simp <;> omega) | (simp [] <;> omega), trivial⟩ (WkT.eq (y := T.tup [tb r27, tb true]) (WkT.refl _) rfl) (fun _ h => h)
theorem F_spec_DrawSecretAnswers_W (x0 : List Int) (y0 : List Int) (y1 : Int) (y2 : List Int) (y3 : Int) (h : F_spec_DrawSecretAnswers x0 = some (y0, y1, y2, y3)) : CG Tryz.prog 17 [vy x0] [] (V.t (T.tup [T.agg [tl y0, ti y1], tl y2, ti y3])) [] := by
 unfold F_spec_DrawSecretAnswers at h
 refine CG.intro (tab := tab) tab_ok (fn := Tryz.f17) Tryz.func17 (by kernel_rfl) rfl (Nat.le_of_ble_eq_true rfl) (by kernel_rfl) ?_
 obtain ⟨r13, r13b, r13c, r13d, r13e, r13g, c0, h⟩ := bnd6_some h
 obtain ⟨r23, r23b, r23c, r23d, c1, h⟩ := bnd4_some h
 obtain ⟨r25, r25b, r25c, r25d, c2, h⟩ := bnd4_some h
 obtain ⟨c3, h⟩ := chk_some h
 obtain ⟨c4, h⟩ := chk_some h
 simp only [Option.some.injEq, Prod.mk.injEq] at h
 obtain ⟨rfl, rfl, rfl, rfl⟩ := h
 exact WP.pathG tab_ok mixed [(2, An.id 2002), (10, An.id 2010), (13, An.callG [(500, 2010)] [V.ref 500 0] [(500, oc 65 [ty x0, ti 0, T.int .u64 0])] (V.t (T.tup [T.agg [tl r13, ti r13b], tl r13c])) [(500, oc 65 [ty r13d, ti r13e, T.int .u64 r13g])]), (6, An.id 2006), (22, An.call (ti (maxN (1 : Int) (ln r13)))), (23, An.callG [(500, 2010)] [V.ref 500 0, vi (maxN (1 : Int) (ln r13))] [(500, oc 65 [ty r13d, ti r13e, T.int .u64 r13g])] (vi r23) [(500, oc 65 [ty r23b, ti r23c, T.int .u64 r23d])]), (25, An.callG [(500, 2010)] [V.ref 500 0, vi 24] [(500, oc 65 [ty r23b, ti r23c, T.int .u64 r23d])] (vi r25) [(500, oc 65 [ty r25b, ti r25c, T.int .u64 r25d])]), (26, An.v (ti (Int.tdiv r25 (23 : Int)))), (27, An.v (ti (r23 + (Int.tdiv r25 (23 : Int)))))] [.keep [2, 3, 4], .keepO [2002], .names [(2002, 2002)]] [] _ (r' := V.t (T.tup [T.agg [tl r13, ti r13b], tl r13c, ti (r23 + (Int.tdiv r25 (23 : Int)))])) (ps := [((1 = 1 ∧ 0 + 1 ≤ 3) ∧ True), (CG Tryz.prog 46 [V.ref 500 0] [(500, oc 65 [ty x0, ti 0, T.int .u64 0])] (V.t (T.tup [T.agg [tl r13, ti r13b], tl r13c])) [(500, oc 65 [ty r13d, ti r13e, T.int .u64 r13g])]), ((V.ref 500 0).ren (renF [(500, 2010)]) = V.ref 2010 0), ((oc 65 [ty x0, ti 0, T.int .u64 0]) = (oc 65 [ty x0, ti 0, T.int .u64 0]).ren (renF [(500, 2010)])), ((0 + 2 ≤ 2 ∧ 2 = 2)), (0 + 2 ≤ 2), (True), (C Tryz.prog 71 [ti 1, ti (ln r13)] (ti (maxN (1 : Int) (ln r13)))), (CG Tryz.prog 70 [V.ref 500 0, vi (maxN (1 : Int) (ln r13))] [(500, oc 65 [ty r13d, ti r13e, T.int .u64 r13g])] (vi r23) [(500, oc 65 [ty r23b, ti r23c, T.int .u64 r23d])]), ((V.ref 500 0).ren (renF [(500, 2010)]) = V.ref 2010 0), (WkT (ti (maxN (1 : Int) (ln r13))) (ti (maxN (1 : Int) (ln r13)))), ((oc 65 [ty r13d, ti r13e, T.int .u64 r13g]) = (oc 65 [ty r13d, ti r13e, T.int .u64 r13g]).ren (renF [(500, 2010)])), (CG Tryz.prog 70 [V.ref 500 0, vi 24] [(500, oc 65 [ty r23b, ti r23c, T.int .u64 r23d])] (vi r25) [(500, oc 65 [ty r25b, ti r25c, T.int .u64 r25d])]), ((V.ref 500 0).ren (renF [(500, 2010)]) = V.ref 2010 0), (WkT (ti 24) (ti 24)), ((oc 65 [ty r23b, ti r23c, T.int .u64 r23d]) = (oc 65 [ty r23b, ti r23c, T.int .u64 r23d]).ren (renF [(500, 2010)])), ((23 : Int) ≠ 0), (wr (Int.tdiv r25 (23 : Int))), (True), (wr (r23 + (Int.tdiv r25 (23 : Int)))), ((0 + 2 ≤ 2 ∧ 2 = 2)), (0 + 2 ≤ 2)]) (r := V.t (T.tup [T.agg [tl r13, ti r13b], tl r13c, ti (r23 + (Int.tdiv r25 (23 : Int)))])) (N := [2002]) (O := []) [] (by kernel_rfl) ⟨⟨⟨by first | rfl | (simp; done) | (simp []; done) | omega, by first | decide | (simp; done) | (simp []; done) | omega | (simp only [tlL]; omega) | (simp; omega)⟩, trivial⟩, (F_p_spec_l1Cur_fixed_W x0 (0 : Int) (0 : Int) r13 r13b r13c r13d r13e r13g c0), by first | rfl | (simp [V.ren, V.renL, renF, lk]; done) | (simp [V.ren, V.renL, renF, lk]; omega), rfl, by decide, by decide, trivial, (by have hh := (l1Most_C (1 : Int) (ln r13)); first | exact hh | simpa using hh), (F_p_spec_l1Cur_pick_W r13d r13e r13g (maxN (1 : Int) (ln r13)) r23 r23b r23c r23d c1), by first | rfl | (simp [V.ren, V.renL, renF, lk]; done) | (simp [V.ren, V.renL, renF, lk]; omega), WkT.refl _, rfl, (F_p_spec_l1Cur_pick_W r23b r23c r23d (24 : Int) r25 r25b r25c r25d c2), by first | rfl | (simp [V.ren, V.renL, renF, lk]; done) | (simp [V.ren, V.renL, renF, lk]; omega), WkT.refl _, rfl, (show (23 : Int) ≠ 0 by first | decide | (simp only [maxLen]; omega) | (unfold I64; omega) | (unfold I64; decide)), quo_told c3, trivial, wrapI c4, by decide, by first | decide | omega | (simp only [tlL] <;> omega) | (simp <;> omega) | (simp [] <;> omega), trivial⟩ ⟨(WkT.refl _), trivial⟩ rfl rfl (fun _ h => h)
theorem F_spec_DrawSecretAnswers_W_C (x0 : List Int) (y0 : List Int) (y1 : Int) (y2 : List Int) (y3 : Int) (h : F_spec_DrawSecretAnswers x0 = some (y0, y1, y2, y3)) : C Tryz.prog 17 [ty x0] (T.tup [T.agg [tl y0, ti y1], tl y2, ti y3]) :=
 CG.toC (ps := []) (F_spec_DrawSecretAnswers_W  x0 y0 y1 y2 y3 h) (by rfl) trivial
theorem F_impl_SecretAnswers_W (x0 : List Int) (x1 : Int) (x2 : List Int) (x3 : Int) (y0 : List Bool) (y1 : Bool) (h : F_impl_SecretAnswers x0 x1 x2 x3 = some (y0, y1)) : CG Tryz.prog 18 [V.t (T.agg [tl x0, ti x1]), vl x2, vi x3] [] (V.tup [vo 9000 (List.length y0), vb y1]) [(9000, oc 4 (List.map T.bool y0))] := by
 unfold F_impl_SecretAnswers at h
 refine CG.intro (tab := tab) tab_ok (fn := Tryz.f18) Tryz.func18 (by kernel_rfl) rfl (Nat.le_of_ble_eq_true rfl) (by kernel_rfl) ?_
 refine WP.sk tm [(3, An.fz)] [] [(7, vb false), (6, V.t (T.nils)), (3, V.t (T.ptr [tl x0, ti x1])), (1, vl x2), (2, vi x3)] [] trivial ?_
 refine WP.seq ?_
 obtain ⟨J1, hJ1, h⟩ := jn_some h
 refine WP.joinA (fun (zz : Bool) => ⟨[], [(20, vb zz), (7, vb false), (6, V.t (T.nils)), (1, vl x2), (2, vi x3)], []⟩) (fun zz => J1 zz = some (y0, y1)) ?_ ?_
 ·obtain ⟨r13, c0, h⟩ := bnd1_some h
  rcases ite_some h with ⟨h1, h⟩ | ⟨h1, h⟩
  ·refine WP.qk tm [(13, An.call (tb r13)), (15, An.b true)] [(2 ≤ 2), (C Tryz.prog 48 [T.agg [tl x0, ti x1], tl x2] (tb r13)), ((!r13) = true)] [(20, vb true), (7, vb false), (6, V.t (T.nils)), (1, vl x2), (2, vi x3)] [] ⟨by decide, (F_impl_areListed_W x0 x1 x2 r13 c0), h1, trivial⟩ ?_
   exact ⟨(true), h, rfl⟩
  ·obtain ⟨c1, h⟩ := chk_some h
   refine WP.qk tm [(13, An.call (tb r13)), (15, An.b false), (18, An.call (tb (opB x0 x3)))] [(2 ≤ 2), (C Tryz.prog 48 [T.agg [tl x0, ti x1], tl x2] (tb r13)), ((!r13) = false), (2 ≤ 2), (C Tryz.prog 72 [T.agg [tl x0, ti x1], ti x3] (tb (opB x0 x3)))] [(20, vb (!(opB x0 x3))), (7, vb false), (6, V.t (T.nils)), (1, vl x2), (2, vi x3)] [] ⟨by decide, (F_impl_areListed_W x0 x1 x2 r13 c0), h1, by decide, (isOpen_C x0 x1 x3 c1), trivial⟩ ?_
   exact ⟨(!(opB x0 x3)), h, rfl⟩
 ·intro v20 h0
  have h := (show J1 v20 = some (y0, y1) from h0)
  rw [hJ1] at h
  rcases ite_some h with ⟨h2, h⟩ | ⟨h2, h⟩
  ·refine WP.yes h2 rfl ?_
   simp only [Option.some.injEq, Prod.mk.injEq] at h
   obtain ⟨rfl, rfl⟩ := h
   exact WP.pathG tab_ok mixed [] [.keep [6, 7], .keepO [], .names []] [] _ (r' := V.tup [vo 9000 (List.length ([] : List Bool)), vb false]) (ps := []) (r := V.t (T.tup [T.nils, tb false])) (N := []) (O := []) [(9000, 4)] (by kernel_rfl) trivial ⟨(by first | rfl | (simp; done)), (WkT.refl _), trivial⟩ rfl rfl (fun _ h => h)
  ·refine WP.no h2 rfl ?_
   refine WP.pk tm [] [] [(7, vb false), (6, V.t (T.nils)), (1, vl x2), (2, vi x3)] [] trivial ?_
   refine WP.sk tm [(21, An.id 2021)] [(True), (0 = 0 * 1)] [(8, vo 2021 0), (7, vb false), (6, V.t (T.nils)), (1, vl x2), (2, vi x3)] [(2021, oc 4 [])] ⟨trivial, by decide, trivial⟩ ?_
   obtain ⟨J1, hJ1, h⟩ := jn_some h
   refine WP.joinA (fun (zz : (List Bool)) => ⟨[2021], [(8, vo 2021 (List.length zz)), (7, vb false), (6, V.t (T.nils))], [(2021, oc 4 (List.map T.bool zz))]⟩) (fun zz => J1 zz = some (y0, y1)) ?_ ?_
   ·refine WP.sk tm [] [] [(24, vi 0), (23, vi (ln x2)), (22, vl x2), (8, vo 2021 0), (7, vb false), (6, V.t (T.nils)), (2, vi x3)] [(2021, oc 4 [])] trivial ?_
    refine WP.block ?_
    refine WP.lp (α := Nat × (List Bool) × Int) (fun zz => ⟨[2021], [(24, vi zz.2.2), (23, vi (ln x2)), (22, vl x2), (8, vo 2021 (List.length zz.2.1)), (7, vb false), (6, V.t (T.nils)), (2, vi x3)], [(2021, oc 4 (List.map T.bool zz.2.1))]⟩) (fun zz => F_impl_SecretAnswers_L1 x2 x3 J1 zz.1 zz.2.1 zz.2.2 = some (y0, y1)) (fun zz => zz.1) (fuel, ([] : List Bool), (0 : Int)) h ?_
    rintro ⟨n, o21, v24⟩ h0
    have h := (show F_impl_SecretAnswers_L1 x2 x3 J1 n o21 v24 = some (y0, y1) from h0)
    rcases n with _ | n
    ·rw [F_impl_SecretAnswers_L1] at h; cases h
    ·rw [F_impl_SecretAnswers_L1] at h
     refine WP.sk tm [] [(True)] [(25, vb (decide (v24 < (ln x2)))), (24, vi v24), (23, vi (ln x2)), (22, vl x2), (8, vo 2021 (List.length o21)), (7, vb false), (6, V.t (T.nils)), (2, vi x3)] [(2021, oc 4 (List.map T.bool o21))] ⟨trivial, trivial⟩ ?_
     refine WP.seq ?_
     rcases ite_some h with ⟨h3, h⟩ | ⟨h3, h⟩
     ·refine WP.yes h3 rfl ?_
      refine WP.pk tm [] [] [(24, vi v24), (23, vi (ln x2)), (22, vl x2), (8, vo 2021 (List.length o21)), (7, vb false), (6, V.t (T.nils)), (2, vi x3)] [(2021, oc 4 (List.map T.bool o21))] trivial ?_
      refine WP.seq ?_
      refine WP.block ?_
      obtain ⟨c0, h⟩ := chk_some h
      obtain ⟨c1, h⟩ := chk_some h
      obtain ⟨c2, h⟩ := chk_some h
      refine WP.pn tm [(27, An.v (ti (gt x2 v24 0))), (31, An.call (tb (hasB (gt x2 v24 0) x3))), (32, An.fz), (33, An.id 2033)] [((0 ≤ v24 ∧ v24 < (ln x2))), ((List.drop ((Int.toNat v24) * 1) (List.map (ti) x2) : List T)[0]? = some (ti (gt x2 v24 0))), (ti (gt x2 v24 0) = ti (gt x2 v24 0)), (C Tryz.prog 73 [ti (gt x2 v24 0), ti x3] (tb (hasB (gt x2 v24 0) x3))), ((1 = 1 ∧ 0 + 1 ≤ 1) ∧ True), (1 = 1 * 1), (True), (List.length (List.map T.bool o21) = (List.length o21) * 1), ((((List.length o21) + 1) * 1 ≤ 140737488355328 ∧ (List.length o21) + 1 ≤ maxLen))] [2033, 2021] [(8, vo 2033 ((List.length o21) + 1)), (24, vi v24), (23, vi (ln x2)), (22, vl x2), (7, vb false), (6, V.t (T.nils)), (2, vi x3)] [(2033, oc 4 ((List.map T.bool o21) ++ [tb (hasB (gt x2 v24 0) x3)]))] ⟨c0, at1 (by simp) (by omega), rfl, (has_C (gt x2 v24 0) x3 c1), ⟨⟨by first | rfl | (simp; done) | (simp []; done) | omega, by first | decide | (simp; done) | (simp []; done) | omega | (simp only [tlL]; omega) | (simp; omega)⟩, trivial⟩, by decide, trivial, by first | rfl | omega | (simp only [tlL] <;> omega) | (simp <;> omega) | (simp [] <;> omega), c2, trivial⟩ ?_
      obtain ⟨c3, h⟩ := chk_some h
      refine WP.nk tm [(34, An.v (ti (v24 + 1)))] [(2033, 2021)] .normal [(True), (wr (v24 + 1))] [(24, vi (v24 + 1)), (23, vi (ln x2)), (22, vl x2), (8, vo 2021 ((List.length o21) + 1)), (7, vb false), (6, V.t (T.nils)), (2, vi x3)] [(2021, oc 4 ((List.map T.bool o21) ++ [tb (hasB (gt x2 v24 0) x3)]))] ⟨trivial, wrapI c3, trivial⟩ ?_
      exact ⟨(n, o21 ++ [hasB (gt x2 v24 0) x3], (v24 + 1)), h, Nat.lt_succ_self _, (by first | rfl | (simp only [tlS, tl, vl, vo, oc, ov, tbl, vbl, ty, vy] <;> rfl) | (simp <;> omega) | (simp []; done) | (rw [List.take_of_length_le (by simp [])] <;> rfl) | (simp [List.take_of_length_le]; done))⟩
     ·refine WP.no h3 rfl ?_
      refine WP.eq tm [] 0 [] [(8, vo 2021 (List.length o21)), (7, vb false), (6, V.t (T.nils))] [(2021, oc 4 (List.map T.bool o21))] trivial ?_
      exact ⟨(o21), h, rfl⟩
   ·intro o21 h0
    have h := (show J1 o21 = some (y0, y1) from h0)
    rw [hJ1] at h
    simp only [Option.some.injEq, Prod.mk.injEq] at h
    obtain ⟨rfl, rfl⟩ := h
    exact WP.pathG tab_ok mixed [] [.keep [6, 7], .keepO [2021], .names [(2021, 9000)]] [9000] _ (r' := V.tup [vo 9000 (List.length o21), vb true]) (ps := []) (r := V.tup [vo 9000 (List.length o21), vb true]) (N := [9000]) (O := [(9000, oc 4 (List.map T.bool o21))]) [] (by kernel_rfl) trivial ⟨rfl, (WkT.refl _), trivial⟩ rfl rfl (fun _ h => h)
theorem F_impl_SecretAnswers_W_C (x0 : List Int) (x1 : Int) (x2 : List Int) (x3 : Int) (y0 : List Bool) (y1 : Bool) (h : F_impl_SecretAnswers x0 x1 x2 x3 = some (y0, y1)) : C Tryz.prog 18 [T.agg [tl x0, ti x1], tl x2, ti x3] (T.tup [tbl y0, tb y1]) :=
 CG.toC (ps := [(List.length (List.map T.bool y0) = (List.length y0) * 1)]) (F_impl_SecretAnswers_W  x0 x1 x2 x3 y0 y1 h) (by rfl) ⟨by first | rfl | omega | (simp <;> omega) | (simp [hl] <;> omega), trivial⟩
theorem F_spec_l8Secret_W (x0 : List Int) (x1 : Int) (x2 : List Int) (x3 : Int) (y0 : Bool) (h : F_spec_l8Secret x0 x1 x2 x3 = some y0) : C Tryz.prog 74 [T.agg [tl x0, ti x1], tl x2, ti x3] (tb y0) := by
 unfold F_spec_l8Secret at h
 refine C.intro (tab := tab) tab_ok (fn := Tryz.f74) Tryz.func74 (by kernel_rfl) rfl (Nat.le_of_ble_eq_true rfl) ?_
 obtain ⟨r9, c0, h⟩ := bnd1_some h
 rcases ite_some h with ⟨h1, h⟩ | ⟨h1, h⟩
 ·obtain ⟨c1, h⟩ := chk_some h
  obtain ⟨n15, c2, h⟩ := nam_some h
  rcases ite_some h with ⟨h2, h⟩ | ⟨h2, h⟩
  ·obtain ⟨c3, h⟩ := chk_some h
   have h := Option.some.inj h
   subst h
   exact WP.pathW tab_ok mixed [(3, An.fz), (9, An.call (tb r9)), (10, An.b true), (15, An.v (ti n15)), (16, An.call (tb true)), (23, An.v (ti (gt x0 x3 0)))] _ (ps := [(2 ≤ 2), (C Tryz.prog 53 [T.agg [tl x0, ti x1], tl x2] (tb r9)), ((r9) = true), (True), (True), (ti (IntKind.wrap .i64 ((ln x0) - 1)) = ti n15), (C Tryz.prog 101 [ti x3, ti 0, ti n15] (tb true)), (True), ((0 ≤ x3 ∧ x3 < (ln x0))), ((List.drop ((Int.toNat x3) * 1) (List.map (ti) x0) : List T)[0]? = some (ti (gt x0 x3 0))), (ti (gt x0 x3 0) = ti (gt x0 x3 0)), (True)]) (r := tb (decide ((gt x0 x3 0) ≥ (0 : Int)))) (by kernel_rfl) ⟨by decide, (F_spec_l8Good_W x0 x1 x2 r9 c0), h1, trivial, trivial, Eq.trans (wrapI c1) (congrArg (ti) c2), (C.toB h2 (by have hh := (l1In_C x3 (0 : Int) n15); first | exact hh | simpa using hh)), trivial, c3, at1 (by simp) (by omega), rfl, trivial, trivial⟩ (WkT.eq (y := tb (decide ((gt x0 x3 0) ≥ (0 : Int)))) (WkT.refl _) rfl) (fun _ h => h)
  ·have h := Option.some.inj h
   subst h
   exact WP.pathW tab_ok mixed [(3, An.fz), (9, An.call (tb r9)), (10, An.b true), (15, An.v (ti n15)), (16, An.call (tb false))] _ (ps := [(2 ≤ 2), (C Tryz.prog 53 [T.agg [tl x0, ti x1], tl x2] (tb r9)), ((r9) = true), (True), (True), (ti (IntKind.wrap .i64 ((ln x0) - 1)) = ti n15), (C Tryz.prog 101 [ti x3, ti 0, ti n15] (tb false))]) (r := tb false) (by kernel_rfl) ⟨by decide, (F_spec_l8Good_W x0 x1 x2 r9 c0), h1, trivial, trivial, Eq.trans (wrapI c1) (congrArg (ti) c2), (C.toB h2 (by have hh := (l1In_C x3 (0 : Int) n15); first | exact hh | simpa using hh)), trivial⟩ (WkT.eq (y := tb false) (WkT.refl _) rfl) (fun _ h => h)
 ·have h := Option.some.inj h
  subst h
  exact WP.pathW tab_ok mixed [(3, An.fz), (9, An.call (tb r9)), (10, An.b false)] _ (ps := [(2 ≤ 2), (C Tryz.prog 53 [T.agg [tl x0, ti x1], tl x2] (tb r9)), ((r9) = false)]) (r := tb false) (by kernel_rfl) ⟨by decide, (F_spec_l8Good_W x0 x1 x2 r9 c0), h1, trivial⟩ (WkT.eq (y := tb false) (WkT.refl _) rfl) (fun _ h => h)
theorem F_spec_SecretAnswers_W (x0 : List Int) (x1 : Int) (x2 : List Int) (x3 : Int) (y0 : List Bool) (y1 : Bool) (h : F_spec_SecretAnswers x0 x1 x2 x3 = some (y0, y1)) : CG Tryz.prog 19 [V.t (T.agg [tl x0, ti x1]), vl x2, vi x3] [] (V.tup [vo 9000 (List.length y0), vb y1]) [(9000, oc 4 (List.map T.bool y0))] := by
 unfold F_spec_SecretAnswers at h
 refine CG.intro (tab := tab) tab_ok (fn := Tryz.f19) Tryz.func19 (by kernel_rfl) rfl (Nat.le_of_ble_eq_true rfl) (by kernel_rfl) ?_
 refine WP.sk tm [(3, An.fz)] [] [(7, vb false), (6, V.t (T.nils)), (3, V.t (T.ptr [tl x0, ti x1])), (1, vl x2), (2, vi x3)] [] trivial ?_
 refine WP.sk tm [(10, An.id 2010)] [(True), (0 = 0 * 1)] [(8, vo 2010 0), (7, vb false), (6, V.t (T.nils)), (3, V.t (T.ptr [tl x0, ti x1])), (1, vl x2), (2, vi x3)] [(2010, oc 4 [])] ⟨trivial, by decide, trivial⟩ ?_
 refine WP.seq ?_
 refine WP.seq ?_
 obtain ⟨r14, c0, h⟩ := bnd1_some h
 refine WP.pk tm [(14, An.call (tb r14))] [(2 ≤ 2), (C Tryz.prog 74 [T.agg [tl x0, ti x1], tl x2, ti x3] (tb r14))] [(15, vb (!r14)), (8, vo 2010 0), (7, vb false), (6, V.t (T.nils)), (1, vl x2), (2, vi x3)] [(2010, oc 4 [])] ⟨by decide, (F_spec_l8Secret_W x0 x1 x2 x3 r14 c0), trivial⟩ ?_
 rcases ite_some h with ⟨h1, h⟩ | ⟨h1, h⟩
 ·refine WP.yes h1 rfl ?_
  simp only [Option.some.injEq, Prod.mk.injEq] at h
  obtain ⟨rfl, rfl⟩ := h
  exact WP.pathG tab_ok mixed [] [.keep [6, 7], .keepO [2010], .names [(2010, 9000)]] [9000] _ (r' := V.tup [vo 9000 (List.length []), vb false]) (ps := []) (r := V.tup [vo 9000 0, vb false]) (N := [9000]) (O := [(9000, oc 4 [])]) [] (by kernel_rfl) trivial ⟨(congrArg (V.own 9000 1) (by first | rfl | (simp only [tlS, tl, vl, vo, oc, ov, tbl, vbl, ty, vy] <;> rfl) | (simp <;> omega) | (simp []; done) | (rw [List.take_of_length_le (by simp [])] <;> rfl) | (simp [List.take_of_length_le]; done))), (WkT.refl _), trivial⟩ rfl (by first | rfl | (simp only [tlS, tl, vl, vo, oc, ov, tbl, vbl, ty, vy] <;> rfl) | (simp <;> omega) | (simp []; done) | (rw [List.take_of_length_le (by simp [])] <;> rfl) | (simp [List.take_of_length_le]; done)) (fun _ h => h)
 ·refine WP.no h1 rfl ?_
  refine WP.pk tm [] [] [(8, vo 2010 0), (7, vb false), (6, V.t (T.nils)), (1, vl x2), (2, vi x3)] [(2010, oc 4 [])] trivial ?_
  obtain ⟨J1, hJ1, h⟩ := jn_some h
  refine WP.joinA (fun (zz : (List Bool)) => ⟨[2010], [(8, vo 2010 (List.length zz)), (7, vb false), (6, V.t (T.nils))], [(2010, oc 4 (List.map T.bool zz))]⟩) (fun zz => J1 zz = some (y0, y1)) ?_ ?_
  ·refine WP.sk tm [] [] [(9, vi 0), (8, vo 2010 0), (7, vb false), (6, V.t (T.nils)), (1, vl x2), (2, vi x3)] [(2010, oc 4 [])] trivial ?_
   refine WP.block ?_
   refine WP.lp (α := Nat × (List Bool) × Int) (fun zz => ⟨[2010], [(9, vi zz.2.2), (8, vo 2010 (List.length zz.2.1)), (7, vb false), (6, V.t (T.nils)), (1, vl x2), (2, vi x3)], [(2010, oc 4 (List.map T.bool zz.2.1))]⟩) (fun zz => F_spec_SecretAnswers_L1 x2 x3 J1 zz.1 zz.2.1 zz.2.2 = some (y0, y1)) (fun zz => zz.1) (fuel, ([] : List Bool), (0 : Int)) h ?_
   rintro ⟨n, o10, v9⟩ h0
   have h := (show F_spec_SecretAnswers_L1 x2 x3 J1 n o10 v9 = some (y0, y1) from h0)
   rcases n with _ | n
   ·rw [F_spec_SecretAnswers_L1] at h; cases h
   ·rw [F_spec_SecretAnswers_L1] at h
    refine WP.seq ?_
    refine WP.sk tm [] [(True)] [(20, vb (decide (v9 < (ln x2)))), (9, vi v9), (8, vo 2010 (List.length o10)), (7, vb false), (6, V.t (T.nils)), (1, vl x2), (2, vi x3)] [(2010, oc 4 (List.map T.bool o10))] ⟨trivial, trivial⟩ ?_
    rcases ite_some h with ⟨h2, h⟩ | ⟨h2, h⟩
    ·refine WP.yes h2 rfl ?_
     refine WP.pk tm [] [] [(9, vi v9), (8, vo 2010 (List.length o10)), (7, vb false), (6, V.t (T.nils)), (1, vl x2), (2, vi x3)] [(2010, oc 4 (List.map T.bool o10))] trivial ?_
     refine WP.seq ?_
     refine WP.block ?_
     obtain ⟨c1, h⟩ := chk_some h
     obtain ⟨c2, h⟩ := chk_some h
     obtain ⟨n30, c3, h⟩ := nam_some h
     obtain ⟨c4, h⟩ := chk_some h
     refine WP.pn tm [(27, An.v (ti (gt x2 v9 0))), (29, An.v (ti ((gt x2 v9 0) / 2 ^ Int.toNat x3))), (30, An.v (ti n30)), (32, An.fz), (33, An.id 2033)] [((0 ≤ v9 ∧ v9 < (ln x2))), ((List.drop ((Int.toNat v9) * 1) (List.map (ti) x2) : List T)[0]? = some (ti (gt x2 v9 0))), (ti (gt x2 v9 0) = ti (gt x2 v9 0)), (0 ≤ x3), (ti (Int.fdiv (gt x2 v9 0) (2 ^ (min (Int.toNat x3) 64))) = ti ((gt x2 v9 0) / 2 ^ Int.toNat x3)), (True), (ti (bits .and .i64 ((gt x2 v9 0) / 2 ^ Int.toNat x3) (1 : Int)) = ti n30), (True), ((1 = 1 ∧ 0 + 1 ≤ 1) ∧ True), (1 = 1 * 1), (True), (List.length (List.map T.bool o10) = (List.length o10) * 1), ((((List.length o10) + 1) * 1 ≤ 140737488355328 ∧ (List.length o10) + 1 ≤ maxLen))] [2033, 2010] [(8, vo 2033 ((List.length o10) + 1)), (9, vi v9), (7, vb false), (6, V.t (T.nils)), (1, vl x2), (2, vi x3)] [(2033, oc 4 ((List.map T.bool o10) ++ [tb (n30 == (1 : Int))]))] ⟨c1, at1 (by simp) (by omega), rfl, c2.1, shr_told c2, trivial, congrArg (ti) c3, trivial, ⟨⟨by first | rfl | (simp; done) | (simp []; done) | omega, by first | decide | (simp; done) | (simp []; done) | omega | (simp only [tlL]; omega) | (simp; omega)⟩, trivial⟩, by decide, trivial, by first | rfl | omega | (simp only [tlL] <;> omega) | (simp <;> omega) | (simp [] <;> omega), c4, trivial⟩ ?_
     obtain ⟨c5, h⟩ := chk_some h
     refine WP.nk tm [(22, An.v (ti (v9 + 1)))] [(2033, 2010)] .normal [(True), (wr (v9 + 1))] [(9, vi (v9 + 1)), (8, vo 2010 ((List.length o10) + 1)), (7, vb false), (6, V.t (T.nils)), (1, vl x2), (2, vi x3)] [(2010, oc 4 ((List.map T.bool o10) ++ [tb (n30 == (1 : Int))]))] ⟨trivial, wrapI c5, trivial⟩ ?_
     exact ⟨(n, o10 ++ [n30 == (1 : Int)], (v9 + 1)), h, Nat.lt_succ_self _, (by first | rfl | (simp only [tlS, tl, vl, vo, oc, ov, tbl, vbl, ty, vy] <;> rfl) | (simp <;> omega) | (simp []; done) | (rw [List.take_of_length_le (by simp [])] <;> rfl) | (simp [List.take_of_length_le]; done))⟩
    ·refine WP.no h2 rfl ?_
     refine WP.eq tm [] 0 [] [(8, vo 2010 (List.length o10)), (7, vb false), (6, V.t (T.nils))] [(2010, oc 4 (List.map T.bool o10))] trivial ?_
     exact ⟨(o10), h, rfl⟩
  ·intro o10 h0
   have h := (show J1 o10 = some (y0, y1) from h0)
   rw [hJ1] at h
   simp only [Option.some.injEq, Prod.mk.injEq] at h
   obtain ⟨rfl, rfl⟩ := h
   exact WP.pathG tab_ok mixed [] [.keep [6, 7], .keepO [2010], .names [(2010, 9000)]] [9000] _ (r' := V.tup [vo 9000 (List.length o10), vb true]) (ps := []) (r := V.tup [vo 9000 (List.length o10), vb true]) (N := [9000]) (O := [(9000, oc 4 (List.map T.bool o10))]) [] (by kernel_rfl) trivial ⟨rfl, (WkT.refl _), trivial⟩ rfl rfl (fun _ h => h)
theorem F_spec_SecretAnswers_W_C (x0 : List Int) (x1 : Int) (x2 : List Int) (x3 : Int) (y0 : List Bool) (y1 : Bool) (h : F_spec_SecretAnswers x0 x1 x2 x3 = some (y0, y1)) : C Tryz.prog 19 [T.agg [tl x0, ti x1], tl x2, ti x3] (T.tup [tbl y0, tb y1]) :=
 CG.toC (ps := [(List.length (List.map T.bool y0) = (List.length y0) * 1)]) (F_spec_SecretAnswers_W  x0 x1 x2 x3 y0 y1 h) (by rfl) ⟨by first | rfl | omega | (simp <;> omega) | (simp [hl] <;> omega), trivial⟩
theorem F_impl_ways_W (x0 : Int) (x1 : Int) (y0 : Int) (h : F_impl_ways x0 x1 = some y0) : C Tryz.prog 149 [ti x0, ti x1] (ti y0) := by
 unfold F_impl_ways at h
 refine C.intro (tab := tab) tab_ok (fn := Tryz.f149) Tryz.func149 (by kernel_rfl) rfl (Nat.le_of_ble_eq_true rfl) ?_
 refine WP.sk tm [] [] [(4, vi 0), (0, vi x0), (1, vi x1)] [] trivial ?_
 refine WP.sk tm [] [] [(5, vi 1), (4, vi 0), (0, vi x0), (1, vi x1)] [] trivial ?_
 obtain ⟨J1, hJ1, h⟩ := jn_some h
 refine WP.joinA (fun (zz : Int) => ⟨[], [(5, vi zz), (4, vi 0)], []⟩) (fun zz => J1 zz = some y0) ?_ ?_
 ·refine WP.sk tm [] [] [(8, vi 0), (7, vi x1), (5, vi 1), (4, vi 0), (0, vi x0)] [] trivial ?_
  refine WP.block ?_
  refine WP.lp (α := Nat × Int × Int) (fun zz => ⟨[], [(8, vi zz.2.1), (7, vi x1), (5, vi zz.2.2), (4, vi 0), (0, vi x0)], []⟩) (fun zz => F_impl_ways_L1 x0 x1 J1 zz.1 zz.2.1 zz.2.2 = some y0) (fun zz => zz.1) (fuel, (0 : Int), (1 : Int)) h ?_
  rintro ⟨n, v8, v5⟩ h0
  have h := (show F_impl_ways_L1 x0 x1 J1 n v8 v5 = some y0 from h0)
  rcases n with _ | n
  ·rw [F_impl_ways_L1] at h; cases h
  ·rw [F_impl_ways_L1] at h
   refine WP.sk tm [] [(True)] [(9, vb (decide (v8 < x1))), (8, vi v8), (7, vi x1), (5, vi v5), (4, vi 0), (0, vi x0)] [] ⟨trivial, trivial⟩ ?_
   refine WP.seq ?_
   rcases ite_some h with ⟨h1, h⟩ | ⟨h1, h⟩
   ·refine WP.yes h1 rfl ?_
    refine WP.pk tm [] [] [(8, vi v8), (7, vi x1), (5, vi v5), (4, vi 0), (0, vi x0)] [] trivial ?_
    refine WP.seq ?_
    refine WP.block ?_
    obtain ⟨c0, h⟩ := chk_some h
    obtain ⟨c1, h⟩ := chk_some h
    obtain ⟨c2, h⟩ := chk_some h
    obtain ⟨c3, h⟩ := chk_some h
    obtain ⟨c4, h⟩ := chk_some h
    refine WP.pk tm [(14, An.v (ti (x0 - v8))), (15, An.v (ti (v5 * (x0 - v8)))), (17, An.v (ti (v8 + 1))), (18, An.v (ti (Int.tdiv (v5 * (x0 - v8)) (v8 + 1))))] [(True), (wr (x0 - v8)), (True), (wr (v5 * (x0 - v8))), (True), (wr (v8 + 1)), ((v8 + 1) ≠ 0), (wr (Int.tdiv (v5 * (x0 - v8)) (v8 + 1)))] [(5, vi (Int.tdiv (v5 * (x0 - v8)) (v8 + 1))), (8, vi v8), (7, vi x1), (4, vi 0), (0, vi x0)] [] ⟨trivial, wrapI c0, trivial, wrapI c1, trivial, wrapI c2, c4, quo_told c3, trivial⟩ ?_
    refine WP.qk tm [(19, An.v (ti (v8 + 1)))] [(True), (wr (v8 + 1))] [(8, vi (v8 + 1)), (7, vi x1), (5, vi (Int.tdiv (v5 * (x0 - v8)) (v8 + 1))), (4, vi 0), (0, vi x0)] [] ⟨trivial, wrapI c2, trivial⟩ ?_
    exact ⟨(n, (v8 + 1), (Int.tdiv (v5 * (x0 - v8)) (v8 + 1))), h, Nat.lt_succ_self _, rfl⟩
   ·refine WP.no h1 rfl ?_
    refine WP.eq tm [] 0 [] [(5, vi v5), (4, vi 0)] [] trivial ?_
    exact ⟨(v5), h, rfl⟩
 ·intro v5 h0
  have h := (show J1 v5 = some y0 from h0)
  rw [hJ1] at h
  have h := Option.some.inj h
  subst h
  exact WP.pathW tab_ok mixed [] _ (ps := []) (r := ti v5) (by kernel_rfl) trivial (WkT.eq (y := ti v5) (WkT.refl _) rfl) (fun _ h => h)
theorem F_impl_ball_W (x0 : Int) (x1 : Int) (y0 : Int) (h : F_impl_ball x0 x1 = some y0) : C Tryz.prog 125 [ti x0, ti x1] (ti y0) := by
 unfold F_impl_ball at h
 refine C.intro (tab := tab) tab_ok (fn := Tryz.f125) Tryz.func125 (by kernel_rfl) rfl (Nat.le_of_ble_eq_true rfl) ?_
 refine WP.sk tm [] [] [(4, vi 0), (0, vi x0), (1, vi x1)] [] trivial ?_
 refine WP.sk tm [] [] [(5, vi 0), (4, vi 0), (0, vi x0), (1, vi x1)] [] trivial ?_
 obtain ⟨J1, hJ1, h⟩ := jn_some h
 refine WP.joinA (fun (zz : Int) => ⟨[], [(5, vi zz), (4, vi 0)], []⟩) (fun zz => J1 zz = some y0) ?_ ?_
 ·refine WP.seq ?_
  obtain ⟨c0, h⟩ := chk_some h
  refine WP.pk tm [(10, An.v (ti ((min x0 x1) + 1)))] [(True), (wr ((min x0 x1) + 1))] [(11, vi 0), (10, vi ((min x0 x1) + 1)), (5, vi 0), (4, vi 0), (0, vi x0)] [] ⟨trivial, wrapI c0, trivial⟩ ?_
  refine WP.block ?_
  refine WP.lp (α := Nat × Int × Int) (fun zz => ⟨[], [(11, vi zz.2.1), (10, vi ((min x0 x1) + 1)), (5, vi zz.2.2), (4, vi 0), (0, vi x0)], []⟩) (fun zz => F_impl_ball_L1 x0 x1 J1 zz.1 zz.2.1 zz.2.2 = some y0) (fun zz => zz.1) (fuel, (0 : Int), (0 : Int)) h ?_
  rintro ⟨n, v11, v5⟩ h0
  have h := (show F_impl_ball_L1 x0 x1 J1 n v11 v5 = some y0 from h0)
  rcases n with _ | n
  ·rw [F_impl_ball_L1] at h; cases h
  ·rw [F_impl_ball_L1] at h
   refine WP.sk tm [] [(True)] [(12, vb (decide (v11 < ((min x0 x1) + 1)))), (11, vi v11), (10, vi ((min x0 x1) + 1)), (5, vi v5), (4, vi 0), (0, vi x0)] [] ⟨trivial, trivial⟩ ?_
   refine WP.seq ?_
   rcases ite_some h with ⟨h1, h⟩ | ⟨h1, h⟩
   ·refine WP.yes h1 rfl ?_
    refine WP.pk tm [] [] [(11, vi v11), (10, vi ((min x0 x1) + 1)), (5, vi v5), (4, vi 0), (0, vi x0)] [] trivial ?_
    refine WP.seq ?_
    refine WP.block ?_
    obtain ⟨r17, c1, h⟩ := bnd1_some h
    obtain ⟨c2, h⟩ := chk_some h
    refine WP.pk tm [(17, An.call (ti r17)), (18, An.v (ti (v5 + r17)))] [(C Tryz.prog 149 [ti x0, ti v11] (ti r17)), (True), (wr (v5 + r17))] [(5, vi (v5 + r17)), (11, vi v11), (10, vi ((min x0 x1) + 1)), (4, vi 0), (0, vi x0)] [] ⟨(F_impl_ways_W x0 v11 r17 c1), trivial, wrapI c2, trivial⟩ ?_
    obtain ⟨c3, h⟩ := chk_some h
    refine WP.qk tm [(19, An.v (ti (v11 + 1)))] [(True), (wr (v11 + 1))] [(11, vi (v11 + 1)), (10, vi ((min x0 x1) + 1)), (5, vi (v5 + r17)), (4, vi 0), (0, vi x0)] [] ⟨trivial, wrapI c3, trivial⟩ ?_
    exact ⟨(n, (v11 + 1), (v5 + r17)), h, Nat.lt_succ_self _, rfl⟩
   ·refine WP.no h1 rfl ?_
    refine WP.eq tm [] 0 [] [(5, vi v5), (4, vi 0)] [] trivial ?_
    exact ⟨(v5), h, rfl⟩
 ·intro v5 h0
  have h := (show J1 v5 = some y0 from h0)
  rw [hJ1] at h
  have h := Option.some.inj h
  subst h
  exact WP.pathW tab_ok mixed [] _ (ps := []) (r := ti v5) (by kernel_rfl) trivial (WkT.eq (y := ti v5) (WkT.refl _) rfl) (fun _ h => h)
theorem F_impl_State_weight_W (x0 : List Int) (x1 : Int) (x2 : Int) (x3 : Int) (y0 : Int) (h : F_impl_State_weight x0 x1 x2 x3 = some y0) : C Tryz.prog 75 [T.agg [tl x0, ti x1], ti x2, ti x3] (ti y0) := by
 unfold F_impl_State_weight at h
 refine C.intro (tab := tab) tab_ok (fn := Tryz.f75) Tryz.func75 (by kernel_rfl) rfl (Nat.le_of_ble_eq_true rfl) ?_
 refine WP.sk tm [(3, An.fz)] [] [(6, vi 0), (3, V.t (T.ptr [tl x0, ti x1])), (1, vi x2), (2, vi x3)] [] trivial ?_
 refine WP.seq ?_
 refine WP.seq ?_
 obtain ⟨c0, h⟩ := chk_some h
 refine WP.pk tm [(11, An.v (ti (gt x0 x2 0)))] [(True), ((0 ≤ x2 ∧ x2 < (ln x0))), ((List.drop ((Int.toNat x2) * 1) (List.map (ti) x0) : List T)[0]? = some (ti (gt x0 x2 0))), (ti (gt x0 x2 0) = ti (gt x0 x2 0)), (True)] [(12, vb (decide ((gt x0 x2 0) < (0 : Int)))), (6, vi 0), (3, V.t (T.ptr [tl x0, ti x1])), (1, vi x2), (2, vi x3)] [] ⟨trivial, c0, at1 (by simp) (by omega), rfl, trivial, trivial⟩ ?_
 rcases ite_some h with ⟨h1, h⟩ | ⟨h1, h⟩
 ·refine WP.yes h1 rfl ?_
  have h := Option.some.inj h
  subst h
  exact WP.pathW tab_ok mixed [] _ (ps := []) (r := ti 0) (by kernel_rfl) trivial (WkT.eq (y := ti 0) (WkT.refl _) (by first | rfl | (simp only [tlS, tl, vl, vo, oc, ov, tbl, vbl, ty, vy] <;> rfl) | (simp <;> omega) | (simp []; done) | (rw [List.take_of_length_le (by simp [])] <;> rfl) | (simp [List.take_of_length_le]; done))) (fun _ h => h)
 ·refine WP.no h1 rfl ?_
  refine WP.pk tm [] [] [(6, vi 0), (3, V.t (T.ptr [tl x0, ti x1])), (1, vi x2), (2, vi x3)] [] trivial ?_
  obtain ⟨c1, h⟩ := chk_some h
  obtain ⟨r22, c2, h⟩ := bnd1_some h
  have h := Option.some.inj h
  subst h
  exact WP.pathW tab_ok mixed [(20, An.v (ti (gt x0 x2 0))), (21, An.v (ti (x1 - (gt x0 x2 0)))), (22, An.call (ti r22))] _ (ps := [(True), (True), ((0 ≤ x2 ∧ x2 < (ln x0))), ((List.drop ((Int.toNat x2) * 1) (List.map (ti) x0) : List T)[0]? = some (ti (gt x0 x2 0))), (ti (gt x0 x2 0) = ti (gt x0 x2 0)), (True), (wr (x1 - (gt x0 x2 0))), (C Tryz.prog 125 [ti x3, ti (x1 - (gt x0 x2 0))] (ti r22))]) (r := ti r22) (by kernel_rfl) ⟨trivial, trivial, c0, at1 (by simp) (by omega), rfl, trivial, wrapI c1, (F_impl_ball_W x3 (x1 - (gt x0 x2 0)) r22 c2), trivial⟩ (WkT.eq (y := ti r22) (WkT.refl _) rfl) (fun _ h => h)
theorem F_impl_CountSecretAnswers_W (x0 : List Int) (x1 : Int) (x2 : List Int) (x3 : Int) (y0 : Int) (y1 : Bool) (h : F_impl_CountSecretAnswers x0 x1 x2 x3 = some (y0, y1)) : C Tryz.prog 20 [T.agg [tl x0, ti x1], tl x2, ti x3] (T.tup [ti y0, tb y1]) := by
 unfold F_impl_CountSecretAnswers at h
 refine C.intro (tab := tab) tab_ok (fn := Tryz.f20) Tryz.func20 (by kernel_rfl) rfl (Nat.le_of_ble_eq_true rfl) ?_
 refine WP.sk tm [(3, An.fz)] [] [(7, vb false), (6, vi 0), (3, V.t (T.ptr [tl x0, ti x1])), (1, vl x2), (2, vi x3)] [] trivial ?_
 refine WP.seq ?_
 obtain ⟨J1, hJ1, h⟩ := jn_some h
 refine WP.joinA (fun (zz : Bool) => ⟨[], [(17, vb zz), (7, vb false), (6, vi 0), (3, V.t (T.ptr [tl x0, ti x1])), (1, vl x2), (2, vi x3)], []⟩) (fun zz => J1 zz = some (y0, y1)) ?_ ?_
 ·obtain ⟨r10, c0, h⟩ := bnd1_some h
  rcases ite_some h with ⟨h1, h⟩ | ⟨h1, h⟩
  ·refine WP.qk tm [(10, An.call (tb r10)), (12, An.b true)] [(2 ≤ 2), (C Tryz.prog 48 [T.agg [tl x0, ti x1], tl x2] (tb r10)), ((!r10) = true)] [(17, vb true), (7, vb false), (6, vi 0), (3, V.t (T.ptr [tl x0, ti x1])), (1, vl x2), (2, vi x3)] [] ⟨by decide, (F_impl_areListed_W x0 x1 x2 r10 c0), h1, trivial⟩ ?_
   exact ⟨(true), h, rfl⟩
  ·obtain ⟨c1, h⟩ := chk_some h
   refine WP.qk tm [(10, An.call (tb r10)), (12, An.b false), (15, An.call (tb (opB x0 x3)))] [(2 ≤ 2), (C Tryz.prog 48 [T.agg [tl x0, ti x1], tl x2] (tb r10)), ((!r10) = false), (2 ≤ 2), (C Tryz.prog 72 [T.agg [tl x0, ti x1], ti x3] (tb (opB x0 x3)))] [(17, vb (!(opB x0 x3))), (7, vb false), (6, vi 0), (3, V.t (T.ptr [tl x0, ti x1])), (1, vl x2), (2, vi x3)] [] ⟨by decide, (F_impl_areListed_W x0 x1 x2 r10 c0), h1, by decide, (isOpen_C x0 x1 x3 c1), trivial⟩ ?_
   exact ⟨(!(opB x0 x3)), h, rfl⟩
 ·intro v17 h0
  have h := (show J1 v17 = some (y0, y1) from h0)
  rw [hJ1] at h
  rcases ite_some h with ⟨h2, h⟩ | ⟨h2, h⟩
  ·refine WP.yes h2 rfl ?_
   simp only [Option.some.injEq, Prod.mk.injEq] at h
   obtain ⟨rfl, rfl⟩ := h
   exact WP.pathW tab_ok mixed [] _ (ps := []) (r := T.tup [ti 0, tb false]) (by kernel_rfl) trivial (WkT.eq (y := T.tup [ti 0, tb false]) (WkT.refl _) (by first | rfl | (simp only [tlS, tl, vl, vo, oc, ov, tbl, vbl, ty, vy] <;> rfl) | (simp <;> omega) | (simp []; done) | (rw [List.take_of_length_le (by simp [])] <;> rfl) | (simp [List.take_of_length_le]; done))) (fun _ h => h)
  ·refine WP.no h2 rfl ?_
   refine WP.pk tm [] [] [(7, vb false), (6, vi 0), (3, V.t (T.ptr [tl x0, ti x1])), (1, vl x2), (2, vi x3)] [] trivial ?_
   obtain ⟨r22, c0, h⟩ := bnd1_some h
   simp only [Option.some.injEq, Prod.mk.injEq] at h
   obtain ⟨rfl, rfl⟩ := h
   exact WP.pathW tab_ok mixed [(22, An.call (ti r22))] _ (ps := [(2 ≤ 2), (C Tryz.prog 75 [T.agg [tl x0, ti x1], ti x3, ti (ln x2)] (ti r22))]) (r := T.tup [ti r22, tb true]) (by kernel_rfl) ⟨by decide, (F_impl_State_weight_W x0 x1 x3 (ln x2) r22 c0), trivial⟩ (WkT.eq (y := T.tup [ti r22, tb true]) (WkT.refl _) rfl) (fun _ h => h)
theorem F_spec_CountSecretAnswers_W (x0 : List Int) (x1 : Int) (x2 : List Int) (x3 : Int) (y0 : Int) (y1 : Bool) (h : F_spec_CountSecretAnswers x0 x1 x2 x3 = some (y0, y1)) : C Tryz.prog 21 [T.agg [tl x0, ti x1], tl x2, ti x3] (T.tup [ti y0, tb y1]) := by
 unfold F_spec_CountSecretAnswers at h
 refine C.intro (tab := tab) tab_ok (fn := Tryz.f21) Tryz.func21 (by kernel_rfl) rfl (Nat.le_of_ble_eq_true rfl) ?_
 refine WP.sk tm [(3, An.fz)] [] [(7, vb false), (6, vi 0), (3, V.t (T.ptr [tl x0, ti x1])), (1, vl x2), (2, vi x3)] [] trivial ?_
 refine WP.seq ?_
 refine WP.seq ?_
 obtain ⟨r14, c0, h⟩ := bnd1_some h
 refine WP.pk tm [(14, An.call (tb r14))] [(2 ≤ 2), (C Tryz.prog 74 [T.agg [tl x0, ti x1], tl x2, ti x3] (tb r14))] [(15, vb (!r14)), (7, vb false), (6, vi 0), (3, V.t (T.ptr [tl x0, ti x1])), (1, vl x2), (2, vi x3)] [] ⟨by decide, (F_spec_l8Secret_W x0 x1 x2 x3 r14 c0), trivial⟩ ?_
 rcases ite_some h with ⟨h1, h⟩ | ⟨h1, h⟩
 ·refine WP.yes h1 rfl ?_
  simp only [Option.some.injEq, Prod.mk.injEq] at h
  obtain ⟨rfl, rfl⟩ := h
  exact WP.pathW tab_ok mixed [] _ (ps := []) (r := T.tup [ti 0, tb false]) (by kernel_rfl) trivial (WkT.eq (y := T.tup [ti 0, tb false]) (WkT.refl _) (by first | rfl | (simp only [tlS, tl, vl, vo, oc, ov, tbl, vbl, ty, vy] <;> rfl) | (simp <;> omega) | (simp []; done) | (rw [List.take_of_length_le (by simp [])] <;> rfl) | (simp [List.take_of_length_le]; done))) (fun _ h => h)
 ·refine WP.no h1 rfl ?_
  refine WP.pk tm [] [] [(7, vb false), (6, vi 0), (3, V.t (T.ptr [tl x0, ti x1])), (1, vl x2), (2, vi x3)] [] trivial ?_
  refine WP.sk tm [] [] [(9, vi 1), (8, vi 0), (7, vb false), (6, vi 0), (3, V.t (T.ptr [tl x0, ti x1])), (1, vl x2), (2, vi x3)] [] trivial ?_
  obtain ⟨J1, hJ1, h⟩ := jn_some h
  refine WP.joinA (fun (zz : Int) => ⟨[], [(8, vi zz), (7, vb false), (6, vi 0)], []⟩) (fun zz => J1 zz = some (y0, y1)) ?_ ?_
  ·refine WP.sk tm [] [] [(10, vi 0), (9, vi 1), (8, vi 0), (7, vb false), (6, vi 0), (3, V.t (T.ptr [tl x0, ti x1])), (1, vl x2), (2, vi x3)] [] trivial ?_
   refine WP.block ?_
   refine WP.lp (α := Nat × Int × Int × Int) (fun zz => ⟨[], [(10, vi zz.2.1), (9, vi zz.2.2.1), (8, vi zz.2.2.2), (7, vb false), (6, vi 0), (3, V.t (T.ptr [tl x0, ti x1])), (1, vl x2), (2, vi x3)], []⟩) (fun zz => F_spec_CountSecretAnswers_L1 x0 x1 x2 x3 J1 zz.1 zz.2.1 zz.2.2.1 zz.2.2.2 = some (y0, y1)) (fun zz => zz.1) (fuel, (0 : Int), (1 : Int), (0 : Int)) h ?_
   rintro ⟨n, v10, v9, v8⟩ h0
   have h := (show F_spec_CountSecretAnswers_L1 x0 x1 x2 x3 J1 n v10 v9 v8 = some (y0, y1) from h0)
   rcases n with _ | n
   ·rw [F_spec_CountSecretAnswers_L1] at h; cases h
   ·rw [F_spec_CountSecretAnswers_L1] at h
    refine WP.seq ?_
    obtain ⟨J2, hJ2, h⟩ := jn_some h
    refine WP.joinA (fun (zz : Bool) => ⟨[], [(31, vb zz), (10, vi v10), (9, vi v9), (8, vi v8), (7, vb false), (6, vi 0), (3, V.t (T.ptr [tl x0, ti x1])), (1, vl x2), (2, vi x3)], []⟩) (fun zz => J2 zz = some (y0, y1)) ?_ ?_
    ·obtain ⟨c1, h⟩ := chk_some h
     obtain ⟨c2, h⟩ := chk_some h
     rcases ite_some h with ⟨h2, h⟩ | ⟨h2, h⟩
     ·refine WP.qk tm [(23, An.v (ti (gt x0 x3 0))), (24, An.v (ti (x1 - (gt x0 x3 0)))), (25, An.b true)] [(True), (True), ((0 ≤ x3 ∧ x3 < (ln x0))), ((List.drop ((Int.toNat x3) * 1) (List.map (ti) x0) : List T)[0]? = some (ti (gt x0 x3 0))), (ti (gt x0 x3 0) = ti (gt x0 x3 0)), (True), (wr (x1 - (gt x0 x3 0))), (True), ((decide (v10 ≤ (x1 - (gt x0 x3 0)))) = true), (True)] [(31, vb (decide (v10 ≤ (ln x2)))), (10, vi v10), (9, vi v9), (8, vi v8), (7, vb false), (6, vi 0), (3, V.t (T.ptr [tl x0, ti x1])), (1, vl x2), (2, vi x3)] [] ⟨trivial, trivial, c1, at1 (by simp) (by omega), rfl, trivial, wrapI c2, trivial, h2, trivial, trivial⟩ ?_
      exact ⟨(decide (v10 ≤ (ln x2))), h, rfl⟩
     ·refine WP.qk tm [(23, An.v (ti (gt x0 x3 0))), (24, An.v (ti (x1 - (gt x0 x3 0)))), (25, An.b false)] [(True), (True), ((0 ≤ x3 ∧ x3 < (ln x0))), ((List.drop ((Int.toNat x3) * 1) (List.map (ti) x0) : List T)[0]? = some (ti (gt x0 x3 0))), (ti (gt x0 x3 0) = ti (gt x0 x3 0)), (True), (wr (x1 - (gt x0 x3 0))), (True), ((decide (v10 ≤ (x1 - (gt x0 x3 0)))) = false)] [(31, vb false), (10, vi v10), (9, vi v9), (8, vi v8), (7, vb false), (6, vi 0), (3, V.t (T.ptr [tl x0, ti x1])), (1, vl x2), (2, vi x3)] [] ⟨trivial, trivial, c1, at1 (by simp) (by omega), rfl, trivial, wrapI c2, trivial, h2, trivial⟩ ?_
      exact ⟨(false), h, rfl⟩
    ·intro v31 h0
     have h := (show J2 v31 = some (y0, y1) from h0)
     rw [hJ2] at h
     rcases ite_some h with ⟨h3, h⟩ | ⟨h3, h⟩
     ·refine WP.yes h3 rfl ?_
      refine WP.pk tm [] [] [(10, vi v10), (9, vi v9), (8, vi v8), (7, vb false), (6, vi 0), (3, V.t (T.ptr [tl x0, ti x1])), (1, vl x2), (2, vi x3)] [] trivial ?_
      refine WP.seq ?_
      refine WP.block ?_
      obtain ⟨c1, h⟩ := chk_some h
      obtain ⟨c2, h⟩ := chk_some h
      obtain ⟨c3, h⟩ := chk_some h
      obtain ⟨n42, c4, h⟩ := nam_some h
      obtain ⟨c5, h⟩ := chk_some h
      obtain ⟨c6, h⟩ := chk_some h
      obtain ⟨c7, h⟩ := chk_some h
      refine WP.pk tm [(36, An.v (ti (v8 + v9))), (41, An.v (ti ((ln x2) - v10))), (42, An.v (ti n42)), (44, An.v (ti (v10 + 1))), (45, An.v (ti (Int.tdiv n42 (v10 + 1))))] [(True), (wr (v8 + v9)), (True), (wr ((ln x2) - v10)), (True), (ti (IntKind.wrap .i64 (v9 * ((ln x2) - v10))) = ti n42), (True), (wr (v10 + 1)), ((v10 + 1) ≠ 0), (wr (Int.tdiv n42 (v10 + 1)))] [(9, vi (Int.tdiv n42 (v10 + 1))), (8, vi (v8 + v9)), (10, vi v10), (7, vb false), (6, vi 0), (3, V.t (T.ptr [tl x0, ti x1])), (1, vl x2), (2, vi x3)] [] ⟨trivial, wrapI c1, trivial, wrapI c2, trivial, Eq.trans (wrapI c3) (congrArg (ti) c4), trivial, wrapI c5, c7, quo_told c6, trivial⟩ ?_
      refine WP.qk tm [(33, An.v (ti (v10 + 1)))] [(True), (wr (v10 + 1))] [(10, vi (v10 + 1)), (9, vi (Int.tdiv n42 (v10 + 1))), (8, vi (v8 + v9)), (7, vb false), (6, vi 0), (3, V.t (T.ptr [tl x0, ti x1])), (1, vl x2), (2, vi x3)] [] ⟨trivial, wrapI c5, trivial⟩ ?_
      exact ⟨(n, (v10 + 1), (Int.tdiv n42 (v10 + 1)), (v8 + v9)), h, Nat.lt_succ_self _, rfl⟩
     ·refine WP.no h3 rfl ?_
      refine WP.eq tm [] 0 [] [(8, vi v8), (7, vb false), (6, vi 0)] [] trivial ?_
      exact ⟨(v8), h, rfl⟩
  ·intro v8 h0
   have h := (show J1 v8 = some (y0, y1) from h0)
   rw [hJ1] at h
   simp only [Option.some.injEq, Prod.mk.injEq] at h
   obtain ⟨rfl, rfl⟩ := h
   exact WP.pathW tab_ok mixed [] _ (ps := []) (r := T.tup [ti v8, tb true]) (by kernel_rfl) trivial (WkT.eq (y := T.tup [ti v8, tb true]) (WkT.refl _) rfl) (fun _ h => h)
theorem F_impl_OpenNumbers_W (x0 : List Int) (x1 : Int) (y0 : List Int) (y1 : Bool) (h : F_impl_OpenNumbers x0 x1 = some (y0, y1)) : CG Tryz.prog 22 [V.t (T.agg [tl x0, ti x1])] [] (V.tup [vo 9000 (List.length y0), vb y1]) [(9000, oc 3 (List.map (ti) y0))] := by
 unfold F_impl_OpenNumbers at h
 refine CG.intro (tab := tab) tab_ok (fn := Tryz.f22) Tryz.func22 (by kernel_rfl) rfl (Nat.le_of_ble_eq_true rfl) (by kernel_rfl) ?_
 refine WP.sk tm [(1, An.fz)] [] [(3, vb false), (2, V.t (T.nils)), (1, V.t (T.ptr [tl x0, ti x1]))] [] trivial ?_
 refine WP.seq ?_
 refine WP.seq ?_
 obtain ⟨c0, h⟩ := chk_some h
 refine WP.pk tm [(5, An.call (tb (isStateN x0 x1)))] [(2 ≤ 2), (C Tryz.prog 76 [T.agg [tl x0, ti x1]] (tb (isStateN x0 x1)))] [(6, vb (!(isStateN x0 x1))), (3, vb false), (2, V.t (T.nils)), (1, V.t (T.ptr [tl x0, ti x1]))] [] ⟨by decide, (isState_C x0 x1 c0), trivial⟩ ?_
 rcases ite_some h with ⟨h1, h⟩ | ⟨h1, h⟩
 ·refine WP.yes h1 rfl ?_
  simp only [Option.some.injEq, Prod.mk.injEq] at h
  obtain ⟨rfl, rfl⟩ := h
  exact WP.pathG tab_ok mixed [] [.keep [2, 3], .keepO [], .names []] [] _ (r' := V.tup [vo 9000 (List.length ([] : List Int)), vb false]) (ps := []) (r := V.t (T.tup [T.nils, tb false])) (N := []) (O := []) [(9000, 3)] (by kernel_rfl) trivial ⟨(by first | rfl | (simp; done)), (WkT.refl _), trivial⟩ rfl rfl (fun _ h => h)
 ·refine WP.no h1 rfl ?_
  refine WP.pk tm [] [] [(3, vb false), (2, V.t (T.nils)), (1, V.t (T.ptr [tl x0, ti x1]))] [] trivial ?_
  obtain ⟨c1, h⟩ := chk_some h
  simp only [Option.some.injEq, Prod.mk.injEq] at h
  obtain ⟨rfl, rfl⟩ := h
  exact WP.pathG tab_ok mixed [(8, An.callG [(9000, 10080)] [V.t (T.agg [tl x0, ti x1])] [] (vo 9000 (List.length (openN x0))) [(9000, oc 3 (List.map (ti) (openN x0)))])] [.keep [2, 3], .keepO [10080], .names [(10080, 9000)]] [9000] _ (r' := V.tup [vo 9000 (List.length (openN x0)), vb true]) (ps := [(2 ≤ 2), (CG Tryz.prog 57 [V.t (T.agg [tl x0, ti x1])] [] (vo 9000 (List.length (openN x0))) [(9000, oc 3 (List.map (ti) (openN x0)))]), (WkT (T.agg [tl x0, ti x1]) (T.agg [tl x0, ti x1]))]) (r := V.tup [vo 9000 (List.length (openN x0)), vb true]) (N := [9000]) (O := [(9000, oc 3 (List.map (ti) (openN x0)))]) [] (by kernel_rfl) ⟨by decide, (open_C_G x0 x1 c1), WkT.refl _, trivial⟩ ⟨rfl, (WkT.refl _), trivial⟩ rfl rfl (fun _ h => h)
theorem F_impl_OpenNumbers_W_C (x0 : List Int) (x1 : Int) (y0 : List Int) (y1 : Bool) (h : F_impl_OpenNumbers x0 x1 = some (y0, y1)) : C Tryz.prog 22 [T.agg [tl x0, ti x1]] (T.tup [tl y0, tb y1]) :=
 CG.toC (ps := [(List.length (List.map (ti) y0) = (List.length y0) * 1)]) (F_impl_OpenNumbers_W  x0 x1 y0 y1 h) (by rfl) ⟨by first | rfl | omega | (simp <;> omega) | (simp [hl] <;> omega), trivial⟩
theorem F_impl_CountsOf_W (x0 : List Int) (x1 : Int) (y0 : List Int) (y1 : Bool) (h : F_impl_CountsOf x0 x1 = some (y0, y1)) : CG Tryz.prog 23 [V.t (T.agg [tl x0, ti x1])] [] (V.tup [vo 9000 (List.length y0), vb y1]) [(9000, oc 3 (List.map (ti) y0))] := by
 unfold F_impl_CountsOf at h
 refine CG.intro (tab := tab) tab_ok (fn := Tryz.f23) Tryz.func23 (by kernel_rfl) rfl (Nat.le_of_ble_eq_true rfl) (by kernel_rfl) ?_
 refine WP.sk tm [(1, An.fz)] [] [(3, vb false), (2, V.t (T.nils)), (1, V.t (T.ptr [tl x0, ti x1]))] [] trivial ?_
 refine WP.seq ?_
 refine WP.seq ?_
 obtain ⟨c0, h⟩ := chk_some h
 refine WP.pk tm [(5, An.call (tb (isStateN x0 x1)))] [(2 ≤ 2), (C Tryz.prog 76 [T.agg [tl x0, ti x1]] (tb (isStateN x0 x1)))] [(6, vb (!(isStateN x0 x1))), (3, vb false), (2, V.t (T.nils)), (1, V.t (T.ptr [tl x0, ti x1]))] [] ⟨by decide, (isState_C x0 x1 c0), trivial⟩ ?_
 rcases ite_some h with ⟨h1, h⟩ | ⟨h1, h⟩
 ·refine WP.yes h1 rfl ?_
  simp only [Option.some.injEq, Prod.mk.injEq] at h
  obtain ⟨rfl, rfl⟩ := h
  exact WP.pathG tab_ok mixed [] [.keep [2, 3], .keepO [], .names []] [] _ (r' := V.tup [vo 9000 (List.length ([] : List Int)), vb false]) (ps := []) (r := V.t (T.tup [T.nils, tb false])) (N := []) (O := []) [(9000, 3)] (by kernel_rfl) trivial ⟨(by first | rfl | (simp; done)), (WkT.refl _), trivial⟩ rfl rfl (fun _ h => h)
 ·refine WP.no h1 rfl ?_
  refine WP.pk tm [] [] [(3, vb false), (2, V.t (T.nils)), (1, V.t (T.ptr [tl x0, ti x1]))] [] trivial ?_
  obtain ⟨r8, c1, h⟩ := bnd1_some h
  simp only [Option.some.injEq, Prod.mk.injEq] at h
  obtain ⟨rfl, rfl⟩ := h
  exact WP.pathG tab_ok mixed [(8, An.callG [(9000, 10080)] [V.t (T.agg [tl x0, ti x1])] [] (vo 9000 (List.length r8)) [(9000, oc 3 (List.map (ti) r8))])] [.keep [2, 3], .keepO [10080], .names [(10080, 9000)]] [9000] _ (r' := V.tup [vo 9000 (List.length r8), vb true]) (ps := [(2 ≤ 2), (CG Tryz.prog 77 [V.t (T.agg [tl x0, ti x1])] [] (vo 9000 (List.length r8)) [(9000, oc 3 (List.map (ti) r8))]), (WkT (T.agg [tl x0, ti x1]) (T.agg [tl x0, ti x1]))]) (r := V.tup [vo 9000 (List.length r8), vb true]) (N := [9000]) (O := [(9000, oc 3 (List.map (ti) r8))]) [] (by kernel_rfl) ⟨by decide, (F_impl_State_counts_W x0 x1 r8 c1), WkT.refl _, trivial⟩ ⟨rfl, (WkT.refl _), trivial⟩ rfl rfl (fun _ h => h)
theorem F_impl_CountsOf_W_C (x0 : List Int) (x1 : Int) (y0 : List Int) (y1 : Bool) (h : F_impl_CountsOf x0 x1 = some (y0, y1)) : C Tryz.prog 23 [T.agg [tl x0, ti x1]] (T.tup [tl y0, tb y1]) :=
 CG.toC (ps := [(List.length (List.map (ti) y0) = (List.length y0) * 1)]) (F_impl_CountsOf_W  x0 x1 y0 y1 h) (by rfl) ⟨by first | rfl | omega | (simp <;> omega) | (simp [hl] <;> omega), trivial⟩
theorem F_impl_sum_W (x0 : List Int) (y0 : Int) (h : F_impl_sum x0 = some y0) : C Tryz.prog 130 [tl x0] (ti y0) := by
 unfold F_impl_sum at h
 refine C.intro (tab := tab) tab_ok (fn := Tryz.f130) Tryz.func130 (by kernel_rfl) rfl (Nat.le_of_ble_eq_true rfl) ?_
 refine WP.sk tm [] [] [(2, vi 0), (0, vl x0)] [] trivial ?_
 refine WP.sk tm [] [] [(3, vi 0), (2, vi 0), (0, vl x0)] [] trivial ?_
 obtain ⟨J1, hJ1, h⟩ := jn_some h
 refine WP.joinA (fun (zz : Int) => ⟨[], [(3, vi zz), (2, vi 0)], []⟩) (fun zz => J1 zz = some y0) ?_ ?_
 ·refine WP.sk tm [] [] [(8, vi 0), (7, vi (ln x0)), (6, vl x0), (3, vi 0), (2, vi 0)] [] trivial ?_
  refine WP.block ?_
  refine WP.lp (α := Nat × Int × Int) (fun zz => ⟨[], [(8, vi zz.2.1), (7, vi (ln x0)), (6, vl x0), (3, vi zz.2.2), (2, vi 0)], []⟩) (fun zz => F_impl_sum_L1 x0 J1 zz.1 zz.2.1 zz.2.2 = some y0) (fun zz => zz.1) (fuel, (0 : Int), (0 : Int)) h ?_
  rintro ⟨n, v8, v3⟩ h0
  have h := (show F_impl_sum_L1 x0 J1 n v8 v3 = some y0 from h0)
  rcases n with _ | n
  ·rw [F_impl_sum_L1] at h; cases h
  ·rw [F_impl_sum_L1] at h
   refine WP.sk tm [] [(True)] [(9, vb (decide (v8 < (ln x0)))), (8, vi v8), (7, vi (ln x0)), (6, vl x0), (3, vi v3), (2, vi 0)] [] ⟨trivial, trivial⟩ ?_
   refine WP.seq ?_
   rcases ite_some h with ⟨h1, h⟩ | ⟨h1, h⟩
   ·refine WP.yes h1 rfl ?_
    refine WP.pk tm [] [] [(8, vi v8), (7, vi (ln x0)), (6, vl x0), (3, vi v3), (2, vi 0)] [] trivial ?_
    refine WP.seq ?_
    refine WP.block ?_
    obtain ⟨c0, h⟩ := chk_some h
    obtain ⟨c1, h⟩ := chk_some h
    refine WP.pk tm [(11, An.v (ti (gt x0 v8 0))), (14, An.v (ti (v3 + (gt x0 v8 0))))] [((0 ≤ v8 ∧ v8 < (ln x0))), ((List.drop ((Int.toNat v8) * 1) (List.map (ti) x0) : List T)[0]? = some (ti (gt x0 v8 0))), (ti (gt x0 v8 0) = ti (gt x0 v8 0)), (True), (wr (v3 + (gt x0 v8 0)))] [(3, vi (v3 + (gt x0 v8 0))), (8, vi v8), (7, vi (ln x0)), (6, vl x0), (2, vi 0)] [] ⟨c0, at1 (by simp) (by omega), rfl, trivial, wrapI c1, trivial⟩ ?_
    obtain ⟨c2, h⟩ := chk_some h
    refine WP.qk tm [(15, An.v (ti (v8 + 1)))] [(True), (wr (v8 + 1))] [(8, vi (v8 + 1)), (7, vi (ln x0)), (6, vl x0), (3, vi (v3 + (gt x0 v8 0))), (2, vi 0)] [] ⟨trivial, wrapI c2, trivial⟩ ?_
    exact ⟨(n, (v8 + 1), (v3 + (gt x0 v8 0))), h, Nat.lt_succ_self _, rfl⟩
   ·refine WP.no h1 rfl ?_
    refine WP.eq tm [] 0 [] [(3, vi v3), (2, vi 0)] [] trivial ?_
    exact ⟨(v3), h, rfl⟩
 ·intro v3 h0
  have h := (show J1 v3 = some y0 from h0)
  rw [hJ1] at h
  have h := Option.some.inj h
  subst h
  exact WP.pathW tab_ok mixed [] _ (ps := []) (r := ti v3) (by kernel_rfl) trivial (WkT.eq (y := ti v3) (WkT.refl _) rfl) (fun _ h => h)
theorem F_impl_AreCounts_W (x0 : List Int) (y0 : Bool) (h : F_impl_AreCounts x0 = some y0) : C Tryz.prog 78 [tl x0] (tb y0) := by
 unfold F_impl_AreCounts at h
 refine C.intro (tab := tab) tab_ok (fn := Tryz.f78) Tryz.func78 (by kernel_rfl) rfl (Nat.le_of_ble_eq_true rfl) ?_
 rcases ite_some h with ⟨h1, h⟩ | ⟨h1, h⟩
 ·obtain ⟨c0, h⟩ := chk_some h
  rcases ite_some h with ⟨h2, h⟩ | ⟨h2, h⟩
  ·obtain ⟨r13, c1, h⟩ := bnd1_some h
   have h := Option.some.inj h
   subst h
   exact WP.pathW tab_ok mixed [(5, An.call (tb true)), (8, An.call (tb (List.any x0 (fun x => !(decide (0 ≤ x) && decide (x ≤ 8)))))), (11, An.b true), (13, An.call (ti r13))] _ (ps := [(C Tryz.prog 99 [ti (ln x0), ti 1, ti 3] (tb true)), (C Tryz.prog 109 [tl x0, T.fn 129 [] []] (tb (List.any x0 (fun x => !(decide (0 ≤ x) && decide (x ≤ 8)))))), ((!(List.any x0 (fun x => !(decide (0 ≤ x) && decide (x ≤ 8))))) = true), (C Tryz.prog 130 [tl x0] (ti r13)), (True)]) (r := tb (decide (r13 ≤ (8 : Int)))) (by kernel_rfl) ⟨(C.toB h1 (by have hh := (in_C (ln x0) (1 : Int) (3 : Int)); first | exact hh | simpa using hh)), (containsFunc_C x0 _ _ _ (fun x => !(decide (0 ≤ x) && decide (x ≤ 8))) (fun x => (areCounts1_C x)) c0), h2, (F_impl_sum_W x0 r13 c1), trivial, trivial⟩ (WkT.eq (y := tb (decide (r13 ≤ (8 : Int)))) (WkT.refl _) rfl) (fun _ h => h)
  ·have h := Option.some.inj h
   subst h
   exact WP.pathW tab_ok mixed [(5, An.call (tb true)), (8, An.call (tb (List.any x0 (fun x => !(decide (0 ≤ x) && decide (x ≤ 8)))))), (11, An.b false)] _ (ps := [(C Tryz.prog 99 [ti (ln x0), ti 1, ti 3] (tb true)), (C Tryz.prog 109 [tl x0, T.fn 129 [] []] (tb (List.any x0 (fun x => !(decide (0 ≤ x) && decide (x ≤ 8)))))), ((!(List.any x0 (fun x => !(decide (0 ≤ x) && decide (x ≤ 8))))) = false)]) (r := tb false) (by kernel_rfl) ⟨(C.toB h1 (by have hh := (in_C (ln x0) (1 : Int) (3 : Int)); first | exact hh | simpa using hh)), (containsFunc_C x0 _ _ _ (fun x => !(decide (0 ≤ x) && decide (x ≤ 8))) (fun x => (areCounts1_C x)) c0), h2, trivial⟩ (WkT.eq (y := tb false) (WkT.refl _) rfl) (fun _ h => h)
 ·have h := Option.some.inj h
  subst h
  exact WP.pathW tab_ok mixed [(5, An.call (tb false))] _ (ps := [(C Tryz.prog 99 [ti (ln x0), ti 1, ti 3] (tb false))]) (r := tb false) (by kernel_rfl) ⟨(C.toB h1 (by have hh := (in_C (ln x0) (1 : Int) (3 : Int)); first | exact hh | simpa using hh)), trivial⟩ (WkT.eq (y := tb false) (WkT.refl _) rfl) (fun _ h => h)
theorem F_impl_NeedOf_W (x0 : List Int) (y0 : Int) (y1 : Bool) (h : F_impl_NeedOf x0 = some (y0, y1)) : C Tryz.prog 24 [tl x0] (T.tup [ti y0, tb y1]) := by
 unfold F_impl_NeedOf at h
 refine C.intro (tab := tab) tab_ok (fn := Tryz.f24) Tryz.func24 (by kernel_rfl) rfl (Nat.le_of_ble_eq_true rfl) ?_
 refine WP.sk tm [] [] [(3, vb false), (2, vi 0), (0, vl x0)] [] trivial ?_
 refine WP.seq ?_
 refine WP.seq ?_
 obtain ⟨r5, c0, h⟩ := bnd1_some h
 refine WP.pk tm [(5, An.call (tb r5))] [(C Tryz.prog 78 [tl x0] (tb r5))] [(6, vb (!r5)), (3, vb false), (2, vi 0), (0, vl x0)] [] ⟨(F_impl_AreCounts_W x0 r5 c0), trivial⟩ ?_
 rcases ite_some h with ⟨h1, h⟩ | ⟨h1, h⟩
 ·refine WP.yes h1 rfl ?_
  simp only [Option.some.injEq, Prod.mk.injEq] at h
  obtain ⟨rfl, rfl⟩ := h
  exact WP.pathW tab_ok mixed [] _ (ps := []) (r := T.tup [ti 0, tb false]) (by kernel_rfl) trivial (WkT.eq (y := T.tup [ti 0, tb false]) (WkT.refl _) (by first | rfl | (simp only [tlS, tl, vl, vo, oc, ov, tbl, vbl, ty, vy] <;> rfl) | (simp <;> omega) | (simp []; done) | (rw [List.take_of_length_le (by simp [])] <;> rfl) | (simp [List.take_of_length_le]; done))) (fun _ h => h)
 ·refine WP.no h1 rfl ?_
  refine WP.pk tm [] [] [(3, vb false), (2, vi 0), (0, vl x0)] [] trivial ?_
  obtain ⟨r7, c1, h⟩ := bnd1_some h
  obtain ⟨r9, c2, h⟩ := bnd1_some h
  simp only [Option.some.injEq, Prod.mk.injEq] at h
  obtain ⟨rfl, rfl⟩ := h
  exact WP.pathW tab_ok mixed [(7, An.call (T.agg [T.fn 59 [] [], mapT (mpT r7)])), (9, An.call (ti r9))] _ (ps := [(C Tryz.prog 58 [T.fn 59 [] []] (T.agg [T.fn 59 [] [], mapT (mpT r7)])), (C Tryz.prog 79 [T.agg [T.fn 59 [] [], mapT (mpT r7)], tl x0] (ti r9))]) (r := T.tup [ti r9, tb true]) (by kernel_rfl) ⟨(F_impl_neederOf_W 59 [] [] (fun u0 u1 => F_impl_bothWays u0 u1) (fun u0 u1 w0 w1 hh => F_impl_bothWays_W_C u0 u1 w0 w1 hh) r7 c1), (F_impl_needer_of_W 59 [] [] (fun u0 u1 => F_impl_bothWays u0 u1) (fun u0 u1 w0 w1 hh => F_impl_bothWays_W_C u0 u1 w0 w1 hh) r7 x0 r9 c2), trivial⟩ (WkT.eq (y := T.tup [ti r9, tb true]) (WkT.refl _) rfl) (fun _ h => h)
theorem F_laws_FnAnswerers_W (x0 : List Int) (y0 : Bool) (h : F_laws_FnAnswerers x0 = some y0) : C Tryz.prog 3 [ty x0] (tb y0) := by
 unfold F_laws_FnAnswerers at h
 refine C.intro (tab := tab) tab_ok (fn := Tryz.f3) Tryz.func3 (by as_aux_lemma => kernel_rfl) rfl (Nat.le_of_ble_eq_true rfl) ?_
 refine WP.sk tm [] [] [(2, vb false), (0, vy x0)] [] trivial ?_
 refine WP.seq ?_
 refine WP.seq ?_
 obtain ⟨c0, h⟩ := chk_some h
 refine WP.pk tm [(60, An.call (tb (decide ((ln x0) > (65536 : Int)))))] [(C Tryz.prog 5 [ty x0] (tb (decide ((ln x0) > (65536 : Int)))))] [(60, vb (decide ((ln x0) > (65536 : Int)))), (2, vb false), (0, vy x0)] [] ⟨(rBig_C x0 c0), trivial⟩ ?_
 rcases ite_some h with ⟨h1, h⟩ | ⟨h1, h⟩
 ·refine WP.yes h1 rfl ?_
  have h := Option.some.inj h
  subst h
  exact WP.pathW tab_ok mixed [] _ (ps := []) (r := tb true) (by as_aux_lemma => kernel_rfl) trivial (WkT.eq (y := tb true) (WkT.refl _) rfl) (fun _ h => h)
 ·refine WP.no h1 rfl ?_
  refine WP.pk tm [] [] [(2, vb false), (0, vy x0)] [] trivial ?_
  refine WP.seq ?_
  obtain ⟨r63, r63b, r63c, r63d, c1, h⟩ := bnd4_some h
  refine WP.pk tm [(63, An.call (T.tup [T.agg [tl r63, ti r63b], tl r63c, tbl r63d])), (3, An.id 2003)] [(C Tryz.prog 6 [ty x0] (T.tup [T.agg [tl r63, ti r63b], tl r63c, tbl r63d])), ((0 + 2 ≤ 2 ∧ 2 = 2))] [(5, vbl r63d), (4, vl r63c), (3, V.ref 2003 0), (2, vb false), (0, vy x0)] [(2003, oc 26 [tl r63, ti r63b])] ⟨(F_spec_DrawAnswerList_W_C x0 r63 r63b r63c r63d c1), by decide, trivial⟩ ?_
  refine WP.seq ?_
  obtain ⟨r71, r71b, r71c, c2, h⟩ := bnd3_some h
  refine WP.pn tm [(71, An.call (T.tup [T.agg [tl r71, ti r71b], tb r71c])), (6, An.id 2006)] [(0 + 2 ≤ 2), (C Tryz.prog 7 [T.agg [tl r63, ti r63b], tl r63c, tbl r63d] (T.tup [T.agg [tl r71, ti r71b], tb r71c])), ((0 + 2 ≤ 2 ∧ 2 = 2))] [2006, 2003] [(7, vb r71c), (6, V.ref 2006 0), (5, vbl r63d), (4, vl r63c), (3, V.ref 2003 0), (2, vb false), (0, vy x0)] [(2003, oc 26 [tl r63, ti r63b]), (2006, oc 26 [tl r71, ti r71b])] ⟨by decide, (F_impl_AnswerList_W_C r63 r63b r63c r63d r71 r71b r71c c2), by decide, trivial⟩ ?_
  refine WP.seq ?_
  refine WP.seq ?_
  obtain ⟨r78, r78b, r78c, c3, h⟩ := bnd3_some h
  refine WP.pn tm [(78, An.call (T.tup [T.agg [tl r78, ti r78b], tb r78c])), (8, An.id 2008)] [(0 + 2 ≤ 2), (C Tryz.prog 8 [T.agg [tl r63, ti r63b], tl r63c, tbl r63d] (T.tup [T.agg [tl r78, ti r78b], tb r78c])), ((0 + 2 ≤ 2 ∧ 2 = 2))] [2008, 2006, 2003] [(9, vb r78c), (8, V.ref 2008 0), (7, vb r71c), (6, V.ref 2006 0), (3, V.ref 2003 0), (2, vb false), (0, vy x0)] [(2003, oc 26 [tl r63, ti r63b]), (2006, oc 26 [tl r71, ti r71b]), (2008, oc 26 [tl r78, ti r78b])] ⟨by decide, (F_spec_AnswerList_W_C r63 r63b r63c r63d r78 r78b r78c c3), by decide, trivial⟩ ?_
  obtain ⟨J1, hJ1, h⟩ := jn_some h
  refine WP.joinA (fun (zz : Bool) => ⟨[2003, 2006], [(89, vb zz), (7, vb r71c), (6, V.ref 2006 0), (3, V.ref 2003 0), (2, vb false), (0, vy x0)], [(2003, oc 26 [tl r63, ti r63b]), (2006, oc 26 [tl r71, ti r71b])]⟩) (fun zz => J1 zz = some y0) ?_ ?_
  ·rcases ite_some h with ⟨h2, h⟩ | ⟨h2, h⟩
   ·refine WP.qk tm [(83, An.b true)] [(True), ((!(r71c == r78c)) = true)] [(89, vb true), (7, vb r71c), (6, V.ref 2006 0), (3, V.ref 2003 0), (2, vb false), (0, vy x0)] [(2003, oc 26 [tl r63, ti r63b]), (2006, oc 26 [tl r71, ti r71b])] ⟨trivial, h2, trivial⟩ ?_
    exact ⟨(true), h, rfl⟩
   ·obtain ⟨r87, c4, h⟩ := bnd1_some h
    refine WP.qk tm [(83, An.b false), (87, An.call (tb r87))] [(True), ((!(r71c == r78c)) = false), (0 + 2 ≤ 2), (0 + 2 ≤ 2), (C Tryz.prog 9 [T.agg [tl r71, ti r71b], T.agg [tl r78, ti r78b]] (tb r87))] [(89, vb (!r87)), (7, vb r71c), (6, V.ref 2006 0), (3, V.ref 2003 0), (2, vb false), (0, vy x0)] [(2003, oc 26 [tl r63, ti r63b]), (2006, oc 26 [tl r71, ti r71b])] ⟨trivial, h2, by decide, by decide, (F_laws_rState_W r71 r71b r78 r78b r87 c4), trivial⟩ ?_
    exact ⟨(!r87), h, rfl⟩
  ·intro v89 h0
   have h := (show J1 v89 = some y0 from h0)
   rw [hJ1] at h
   rcases ite_some h with ⟨h3, h⟩ | ⟨h3, h⟩
   ·refine WP.yes h3 rfl ?_
    have h := Option.some.inj h
    subst h
    exact WP.pathW tab_ok mixed [] _ (ps := []) (r := tb false) (by as_aux_lemma => kernel_rfl) trivial (WkT.eq (y := tb false) (WkT.refl _) rfl) (fun _ h => h)
   ·refine WP.no h3 rfl ?_
    refine WP.pk tm [] [] [(7, vb r71c), (6, V.ref 2006 0), (3, V.ref 2003 0), (2, vb false), (0, vy x0)] [(2003, oc 26 [tl r63, ti r63b]), (2006, oc 26 [tl r71, ti r71b])] trivial ?_
    refine WP.seq ?_
    obtain ⟨r92, r92b, r92c, c4, h⟩ := bnd3_some h
    refine WP.pn tm [(92, An.call (T.tup [T.agg [tl r92, ti r92b], tl r92c])), (10, An.id 2010)] [(C Tryz.prog 10 [ty x0] (T.tup [T.agg [tl r92, ti r92b], tl r92c])), ((0 + 2 ≤ 2 ∧ 2 = 2))] [2010, 2003, 2006] [(11, vl r92c), (10, V.ref 2010 0), (7, vb r71c), (6, V.ref 2006 0), (3, V.ref 2003 0), (2, vb false), (0, vy x0)] [(2003, oc 26 [tl r63, ti r63b]), (2006, oc 26 [tl r71, ti r71b]), (2010, oc 26 [tl r92, ti r92b])] ⟨(F_spec_DrawHoldPlay_W_C x0 r92 r92b r92c c4), by decide, trivial⟩ ?_
    refine WP.seq ?_
    obtain ⟨r98, r98b, r98c, r98d, c5, h⟩ := bnd4_some h
    refine WP.pn tm [(98, An.call (T.tup [tbl r98, T.agg [tl r98b, ti r98c], tb r98d])), (13, An.id 2013)] [(0 + 2 ≤ 2), (C Tryz.prog 11 [T.agg [tl r92, ti r92b], tl r92c] (T.tup [tbl r98, T.agg [tl r98b, ti r98c], tb r98d])), ((0 + 2 ≤ 2 ∧ 2 = 2))] [2013, 2010, 2003, 2006] [(14, vb r98d), (12, vbl r98), (13, V.ref 2013 0), (11, vl r92c), (10, V.ref 2010 0), (7, vb r71c), (6, V.ref 2006 0), (3, V.ref 2003 0), (2, vb false), (0, vy x0)] [(2003, oc 26 [tl r63, ti r63b]), (2006, oc 26 [tl r71, ti r71b]), (2010, oc 26 [tl r92, ti r92b]), (2013, oc 26 [tl r98b, ti r98c])] ⟨by decide, (F_impl_HoldPlay_W_C r92 r92b r92c r98 r98b r98c r98d c5), by decide, trivial⟩ ?_
    refine WP.seq ?_
    refine WP.seq ?_
    obtain ⟨r105, r105b, r105c, r105d, c6, h⟩ := bnd4_some h
    refine WP.pn tm [(105, An.call (T.tup [tbl r105, T.agg [tl r105b, ti r105c], tb r105d])), (16, An.id 2016)] [(0 + 2 ≤ 2), (C Tryz.prog 12 [T.agg [tl r92, ti r92b], tl r92c] (T.tup [tbl r105, T.agg [tl r105b, ti r105c], tb r105d])), ((0 + 2 ≤ 2 ∧ 2 = 2))] [2016, 2013, 2010, 2003, 2006] [(17, vb r105d), (15, vbl r105), (16, V.ref 2016 0), (14, vb r98d), (12, vbl r98), (13, V.ref 2013 0), (11, vl r92c), (10, V.ref 2010 0), (7, vb r71c), (6, V.ref 2006 0), (3, V.ref 2003 0), (2, vb false), (0, vy x0)] [(2003, oc 26 [tl r63, ti r63b]), (2006, oc 26 [tl r71, ti r71b]), (2010, oc 26 [tl r92, ti r92b]), (2013, oc 26 [tl r98b, ti r98c]), (2016, oc 26 [tl r105b, ti r105c])] ⟨by decide, (F_spec_HoldPlay_W_C r92 r92b r92c r105 r105b r105c r105d c6), by decide, trivial⟩ ?_
    obtain ⟨J1, hJ1, h⟩ := jn_some h
    refine WP.joinA (fun (zz : Bool) => ⟨[2003, 2006, 2010, 2013], [(123, vb zz), (14, vb r98d), (12, vbl r98), (13, V.ref 2013 0), (11, vl r92c), (10, V.ref 2010 0), (7, vb r71c), (6, V.ref 2006 0), (3, V.ref 2003 0), (2, vb false), (0, vy x0)], [(2003, oc 26 [tl r63, ti r63b]), (2006, oc 26 [tl r71, ti r71b]), (2010, oc 26 [tl r92, ti r92b]), (2013, oc 26 [tl r98b, ti r98c])]⟩) (fun zz => J1 zz = some y0) ?_ ?_
    ·rcases ite_some h with ⟨h4, h⟩ | ⟨h4, h⟩
     ·refine WP.qk tm [(111, An.b true)] [(True), ((!(r98d == r105d)) = true)] [(123, vb true), (14, vb r98d), (12, vbl r98), (13, V.ref 2013 0), (11, vl r92c), (10, V.ref 2010 0), (7, vb r71c), (6, V.ref 2006 0), (3, V.ref 2003 0), (2, vb false), (0, vy x0)] [(2003, oc 26 [tl r63, ti r63b]), (2006, oc 26 [tl r71, ti r71b]), (2010, oc 26 [tl r92, ti r92b]), (2013, oc 26 [tl r98b, ti r98c])] ⟨trivial, h4, trivial⟩ ?_
      exact ⟨(true), h, rfl⟩
     ·obtain ⟨r115, c7, h⟩ := bnd1_some h
      rcases ite_some h with ⟨h5, h⟩ | ⟨h5, h⟩
      ·refine WP.qk tm [(111, An.b false), (115, An.call (tb r115)), (118, An.b true)] [(True), ((!(r98d == r105d)) = false), (C Tryz.prog 13 [tbl r98, tbl r105] (tb r115)), ((!r115) = true)] [(123, vb true), (14, vb r98d), (12, vbl r98), (13, V.ref 2013 0), (11, vl r92c), (10, V.ref 2010 0), (7, vb r71c), (6, V.ref 2006 0), (3, V.ref 2003 0), (2, vb false), (0, vy x0)] [(2003, oc 26 [tl r63, ti r63b]), (2006, oc 26 [tl r71, ti r71b]), (2010, oc 26 [tl r92, ti r92b]), (2013, oc 26 [tl r98b, ti r98c])] ⟨trivial, h4, (F_laws_rBools_W r98 r105 r115 c7), h5, trivial⟩ ?_
       exact ⟨(true), h, rfl⟩
      ·obtain ⟨r121, c8, h⟩ := bnd1_some h
       refine WP.qk tm [(111, An.b false), (115, An.call (tb r115)), (118, An.b false), (121, An.call (tb r121))] [(True), ((!(r98d == r105d)) = false), (C Tryz.prog 13 [tbl r98, tbl r105] (tb r115)), ((!r115) = false), (0 + 2 ≤ 2), (0 + 2 ≤ 2), (C Tryz.prog 9 [T.agg [tl r98b, ti r98c], T.agg [tl r105b, ti r105c]] (tb r121))] [(123, vb (!r121)), (14, vb r98d), (12, vbl r98), (13, V.ref 2013 0), (11, vl r92c), (10, V.ref 2010 0), (7, vb r71c), (6, V.ref 2006 0), (3, V.ref 2003 0), (2, vb false), (0, vy x0)] [(2003, oc 26 [tl r63, ti r63b]), (2006, oc 26 [tl r71, ti r71b]), (2010, oc 26 [tl r92, ti r92b]), (2013, oc 26 [tl r98b, ti r98c])] ⟨trivial, h4, (F_laws_rBools_W r98 r105 r115 c7), h5, by decide, by decide, (F_laws_rState_W r98b r98c r105b r105c r121 c8), trivial⟩ ?_
       exact ⟨(!r121), h, rfl⟩
    ·intro v123 h0
     have h := (show J1 v123 = some y0 from h0)
     rw [hJ1] at h
     rcases ite_some h with ⟨h6, h⟩ | ⟨h6, h⟩
     ·refine WP.yes h6 rfl ?_
      have h := Option.some.inj h
      subst h
      exact WP.pathW tab_ok mixed [] _ (ps := []) (r := tb false) (by as_aux_lemma => kernel_rfl) trivial (WkT.eq (y := tb false) (WkT.refl _) rfl) (fun _ h => h)
     ·refine WP.no h6 rfl ?_
      refine WP.pk tm [] [] [(14, vb r98d), (12, vbl r98), (13, V.ref 2013 0), (11, vl r92c), (10, V.ref 2010 0), (7, vb r71c), (6, V.ref 2006 0), (3, V.ref 2003 0), (2, vb false), (0, vy x0)] [(2003, oc 26 [tl r63, ti r63b]), (2006, oc 26 [tl r71, ti r71b]), (2010, oc 26 [tl r92, ti r92b]), (2013, oc 26 [tl r98b, ti r98c])] trivial ?_
      refine WP.seq ?_
      obtain ⟨r126, r126b, r126c, c7, h⟩ := bnd3_some h
      refine WP.pn tm [(126, An.call (T.tup [T.agg [tl r126, ti r126b], ti r126c])), (18, An.id 2018)] [(C Tryz.prog 14 [ty x0] (T.tup [T.agg [tl r126, ti r126b], ti r126c])), ((0 + 2 ≤ 2 ∧ 2 = 2))] [2018, 2003, 2006, 2010, 2013] [(19, vi r126c), (18, V.ref 2018 0), (14, vb r98d), (12, vbl r98), (13, V.ref 2013 0), (11, vl r92c), (10, V.ref 2010 0), (7, vb r71c), (6, V.ref 2006 0), (3, V.ref 2003 0), (2, vb false), (0, vy x0)] [(2003, oc 26 [tl r63, ti r63b]), (2006, oc 26 [tl r71, ti r71b]), (2010, oc 26 [tl r92, ti r92b]), (2013, oc 26 [tl r98b, ti r98c]), (2018, oc 26 [tl r126, ti r126b])] ⟨(F_spec_DrawHoldAnswer_W_C x0 r126 r126b r126c c7), by decide, trivial⟩ ?_
      refine WP.seq ?_
      obtain ⟨r132, r132b, c8, h⟩ := bnd2_some h
      refine WP.pn tm [(132, An.call (T.tup [tb r132, tb r132b]))] [(0 + 2 ≤ 2), (C Tryz.prog 15 [T.agg [tl r126, ti r126b], ti r126c] (T.tup [tb r132, tb r132b]))] [2018, 2003, 2006, 2010, 2013] [(21, vb r132b), (20, vb r132), (19, vi r126c), (18, V.ref 2018 0), (14, vb r98d), (12, vbl r98), (13, V.ref 2013 0), (11, vl r92c), (10, V.ref 2010 0), (7, vb r71c), (6, V.ref 2006 0), (3, V.ref 2003 0), (2, vb false), (0, vy x0)] [(2003, oc 26 [tl r63, ti r63b]), (2006, oc 26 [tl r71, ti r71b]), (2010, oc 26 [tl r92, ti r92b]), (2013, oc 26 [tl r98b, ti r98c]), (2018, oc 26 [tl r126, ti r126b])] ⟨by decide, (F_impl_HoldAnswer_W r126 r126b r126c r132 r132b c8), trivial⟩ ?_
      refine WP.seq ?_
      refine WP.seq ?_
      obtain ⟨r138, r138b, c9, h⟩ := bnd2_some h
      refine WP.pn tm [(138, An.call (T.tup [tb r138, tb r138b]))] [(0 + 2 ≤ 2), (C Tryz.prog 16 [T.agg [tl r126, ti r126b], ti r126c] (T.tup [tb r138, tb r138b]))] [2018, 2003, 2006, 2010, 2013] [(23, vb r138b), (22, vb r138), (21, vb r132b), (20, vb r132), (14, vb r98d), (12, vbl r98), (13, V.ref 2013 0), (11, vl r92c), (10, V.ref 2010 0), (7, vb r71c), (6, V.ref 2006 0), (3, V.ref 2003 0), (2, vb false), (0, vy x0)] [(2003, oc 26 [tl r63, ti r63b]), (2006, oc 26 [tl r71, ti r71b]), (2010, oc 26 [tl r92, ti r92b]), (2013, oc 26 [tl r98b, ti r98c])] ⟨by decide, (F_spec_HoldAnswer_W r126 r126b r126c r138 r138b c9), trivial⟩ ?_
      obtain ⟨J1, hJ1, h⟩ := jn_some h
      refine WP.joinA (fun (zz : Bool) => ⟨[2003, 2006, 2010, 2013], [(148, vb zz), (14, vb r98d), (12, vbl r98), (13, V.ref 2013 0), (11, vl r92c), (10, V.ref 2010 0), (7, vb r71c), (6, V.ref 2006 0), (3, V.ref 2003 0), (2, vb false), (0, vy x0)], [(2003, oc 26 [tl r63, ti r63b]), (2006, oc 26 [tl r71, ti r71b]), (2010, oc 26 [tl r92, ti r92b]), (2013, oc 26 [tl r98b, ti r98c])]⟩) (fun zz => J1 zz = some y0) ?_ ?_
      ·rcases ite_some h with ⟨h7, h⟩ | ⟨h7, h⟩
       ·refine WP.qk tm [(143, An.b true)] [(True), ((!(r132 == r138)) = true)] [(148, vb true), (14, vb r98d), (12, vbl r98), (13, V.ref 2013 0), (11, vl r92c), (10, V.ref 2010 0), (7, vb r71c), (6, V.ref 2006 0), (3, V.ref 2003 0), (2, vb false), (0, vy x0)] [(2003, oc 26 [tl r63, ti r63b]), (2006, oc 26 [tl r71, ti r71b]), (2010, oc 26 [tl r92, ti r92b]), (2013, oc 26 [tl r98b, ti r98c])] ⟨trivial, h7, trivial⟩ ?_
        exact ⟨(true), h, rfl⟩
       ·refine WP.qk tm [(143, An.b false)] [(True), ((!(r132 == r138)) = false), (True)] [(148, vb (!(r132b == r138b))), (14, vb r98d), (12, vbl r98), (13, V.ref 2013 0), (11, vl r92c), (10, V.ref 2010 0), (7, vb r71c), (6, V.ref 2006 0), (3, V.ref 2003 0), (2, vb false), (0, vy x0)] [(2003, oc 26 [tl r63, ti r63b]), (2006, oc 26 [tl r71, ti r71b]), (2010, oc 26 [tl r92, ti r92b]), (2013, oc 26 [tl r98b, ti r98c])] ⟨trivial, h7, trivial, trivial⟩ ?_
        exact ⟨(!(r132b == r138b)), h, rfl⟩
      ·intro v148 h0
       have h := (show J1 v148 = some y0 from h0)
       rw [hJ1] at h
       rcases ite_some h with ⟨h8, h⟩ | ⟨h8, h⟩
       ·refine WP.yes h8 rfl ?_
        have h := Option.some.inj h
        subst h
        exact WP.pathW tab_ok mixed [] _ (ps := []) (r := tb false) (by as_aux_lemma => kernel_rfl) trivial (WkT.eq (y := tb false) (WkT.refl _) rfl) (fun _ h => h)
       ·refine WP.no h8 rfl ?_
        refine WP.pk tm [] [] [(14, vb r98d), (12, vbl r98), (13, V.ref 2013 0), (11, vl r92c), (10, V.ref 2010 0), (7, vb r71c), (6, V.ref 2006 0), (3, V.ref 2003 0), (2, vb false), (0, vy x0)] [(2003, oc 26 [tl r63, ti r63b]), (2006, oc 26 [tl r71, ti r71b]), (2010, oc 26 [tl r92, ti r92b]), (2013, oc 26 [tl r98b, ti r98c])] trivial ?_
        refine WP.seq ?_
        obtain ⟨r151, r151b, r151c, r151d, c10, h⟩ := bnd4_some h
        refine WP.pn tm [(151, An.call (T.tup [T.agg [tl r151, ti r151b], tl r151c, ti r151d])), (24, An.id 2024)] [(C Tryz.prog 17 [ty x0] (T.tup [T.agg [tl r151, ti r151b], tl r151c, ti r151d])), ((0 + 2 ≤ 2 ∧ 2 = 2))] [2024, 2003, 2006, 2010, 2013] [(26, vi r151d), (25, vl r151c), (24, V.ref 2024 0), (14, vb r98d), (12, vbl r98), (13, V.ref 2013 0), (11, vl r92c), (10, V.ref 2010 0), (7, vb r71c), (6, V.ref 2006 0), (3, V.ref 2003 0), (2, vb false)] [(2003, oc 26 [tl r63, ti r63b]), (2006, oc 26 [tl r71, ti r71b]), (2010, oc 26 [tl r92, ti r92b]), (2013, oc 26 [tl r98b, ti r98c]), (2024, oc 26 [tl r151, ti r151b])] ⟨(F_spec_DrawSecretAnswers_W_C x0 r151 r151b r151c r151d c10), by decide, trivial⟩ ?_
        refine WP.seq ?_
        obtain ⟨r159, r159b, c11, h⟩ := bnd2_some h
        refine WP.pn tm [(159, An.call (T.tup [tbl r159, tb r159b]))] [(0 + 2 ≤ 2), (C Tryz.prog 18 [T.agg [tl r151, ti r151b], tl r151c, ti r151d] (T.tup [tbl r159, tb r159b]))] [2024, 2003, 2006, 2010, 2013] [(28, vb r159b), (27, vbl r159), (26, vi r151d), (25, vl r151c), (24, V.ref 2024 0), (14, vb r98d), (12, vbl r98), (13, V.ref 2013 0), (11, vl r92c), (10, V.ref 2010 0), (7, vb r71c), (6, V.ref 2006 0), (3, V.ref 2003 0), (2, vb false)] [(2003, oc 26 [tl r63, ti r63b]), (2006, oc 26 [tl r71, ti r71b]), (2010, oc 26 [tl r92, ti r92b]), (2013, oc 26 [tl r98b, ti r98c]), (2024, oc 26 [tl r151, ti r151b])] ⟨by decide, (F_impl_SecretAnswers_W_C r151 r151b r151c r151d r159 r159b c11), trivial⟩ ?_
        refine WP.seq ?_
        refine WP.seq ?_
        obtain ⟨r166, r166b, c12, h⟩ := bnd2_some h
        refine WP.pn tm [(166, An.call (T.tup [tbl r166, tb r166b]))] [(0 + 2 ≤ 2), (C Tryz.prog 19 [T.agg [tl r151, ti r151b], tl r151c, ti r151d] (T.tup [tbl r166, tb r166b]))] [2024, 2003, 2006, 2010, 2013] [(30, vb r166b), (29, vbl r166), (28, vb r159b), (27, vbl r159), (26, vi r151d), (25, vl r151c), (24, V.ref 2024 0), (14, vb r98d), (12, vbl r98), (13, V.ref 2013 0), (11, vl r92c), (10, V.ref 2010 0), (7, vb r71c), (6, V.ref 2006 0), (3, V.ref 2003 0), (2, vb false)] [(2003, oc 26 [tl r63, ti r63b]), (2006, oc 26 [tl r71, ti r71b]), (2010, oc 26 [tl r92, ti r92b]), (2013, oc 26 [tl r98b, ti r98c]), (2024, oc 26 [tl r151, ti r151b])] ⟨by decide, (F_spec_SecretAnswers_W_C r151 r151b r151c r151d r166 r166b c12), trivial⟩ ?_
        obtain ⟨J1, hJ1, h⟩ := jn_some h
        refine WP.joinA (fun (zz : Bool) => ⟨[2003, 2006, 2010, 2013, 2024], [(177, vb zz), (28, vb r159b), (27, vbl r159), (26, vi r151d), (25, vl r151c), (24, V.ref 2024 0), (14, vb r98d), (12, vbl r98), (13, V.ref 2013 0), (11, vl r92c), (10, V.ref 2010 0), (7, vb r71c), (6, V.ref 2006 0), (3, V.ref 2003 0), (2, vb false)], [(2003, oc 26 [tl r63, ti r63b]), (2006, oc 26 [tl r71, ti r71b]), (2010, oc 26 [tl r92, ti r92b]), (2013, oc 26 [tl r98b, ti r98c]), (2024, oc 26 [tl r151, ti r151b])]⟩) (fun zz => J1 zz = some y0) ?_ ?_
        ·rcases ite_some h with ⟨h9, h⟩ | ⟨h9, h⟩
         ·refine WP.qk tm [(171, An.b true)] [(True), ((!(r159b == r166b)) = true)] [(177, vb true), (28, vb r159b), (27, vbl r159), (26, vi r151d), (25, vl r151c), (24, V.ref 2024 0), (14, vb r98d), (12, vbl r98), (13, V.ref 2013 0), (11, vl r92c), (10, V.ref 2010 0), (7, vb r71c), (6, V.ref 2006 0), (3, V.ref 2003 0), (2, vb false)] [(2003, oc 26 [tl r63, ti r63b]), (2006, oc 26 [tl r71, ti r71b]), (2010, oc 26 [tl r92, ti r92b]), (2013, oc 26 [tl r98b, ti r98c]), (2024, oc 26 [tl r151, ti r151b])] ⟨trivial, h9, trivial⟩ ?_
          exact ⟨(true), h, rfl⟩
         ·obtain ⟨r175, c13, h⟩ := bnd1_some h
          refine WP.qk tm [(171, An.b false), (175, An.call (tb r175))] [(True), ((!(r159b == r166b)) = false), (C Tryz.prog 13 [tbl r159, tbl r166] (tb r175))] [(177, vb (!r175)), (28, vb r159b), (27, vbl r159), (26, vi r151d), (25, vl r151c), (24, V.ref 2024 0), (14, vb r98d), (12, vbl r98), (13, V.ref 2013 0), (11, vl r92c), (10, V.ref 2010 0), (7, vb r71c), (6, V.ref 2006 0), (3, V.ref 2003 0), (2, vb false)] [(2003, oc 26 [tl r63, ti r63b]), (2006, oc 26 [tl r71, ti r71b]), (2010, oc 26 [tl r92, ti r92b]), (2013, oc 26 [tl r98b, ti r98c]), (2024, oc 26 [tl r151, ti r151b])] ⟨trivial, h9, (F_laws_rBools_W r159 r166 r175 c13), trivial⟩ ?_
          exact ⟨(!r175), h, rfl⟩
        ·intro v177 h0
         have h := (show J1 v177 = some y0 from h0)
         rw [hJ1] at h
         rcases ite_some h with ⟨h10, h⟩ | ⟨h10, h⟩
         ·refine WP.yes h10 rfl ?_
          have h := Option.some.inj h
          subst h
          exact WP.pathW tab_ok mixed [] _ (ps := []) (r := tb false) (by as_aux_lemma => kernel_rfl) trivial (WkT.eq (y := tb false) (WkT.refl _) rfl) (fun _ h => h)
         ·refine WP.no h10 rfl ?_
          refine WP.pk tm [] [] [(28, vb r159b), (27, vbl r159), (26, vi r151d), (25, vl r151c), (24, V.ref 2024 0), (14, vb r98d), (12, vbl r98), (13, V.ref 2013 0), (11, vl r92c), (10, V.ref 2010 0), (7, vb r71c), (6, V.ref 2006 0), (3, V.ref 2003 0), (2, vb false)] [(2003, oc 26 [tl r63, ti r63b]), (2006, oc 26 [tl r71, ti r71b]), (2010, oc 26 [tl r92, ti r92b]), (2013, oc 26 [tl r98b, ti r98c]), (2024, oc 26 [tl r151, ti r151b])] trivial ?_
          refine WP.seq ?_
          obtain ⟨r182, r182b, c13, h⟩ := bnd2_some h
          refine WP.pk tm [(182, An.call (T.tup [ti r182, tb r182b]))] [(0 + 2 ≤ 2), (C Tryz.prog 20 [T.agg [tl r151, ti r151b], tl r151c, ti r151d] (T.tup [ti r182, tb r182b]))] [(32, vb r182b), (31, vi r182), (28, vb r159b), (27, vbl r159), (26, vi r151d), (25, vl r151c), (24, V.ref 2024 0), (14, vb r98d), (12, vbl r98), (13, V.ref 2013 0), (11, vl r92c), (10, V.ref 2010 0), (7, vb r71c), (6, V.ref 2006 0), (3, V.ref 2003 0), (2, vb false)] [(2003, oc 26 [tl r63, ti r63b]), (2006, oc 26 [tl r71, ti r71b]), (2010, oc 26 [tl r92, ti r92b]), (2013, oc 26 [tl r98b, ti r98c]), (2024, oc 26 [tl r151, ti r151b])] ⟨by decide, (F_impl_CountSecretAnswers_W r151 r151b r151c r151d r182 r182b c13), trivial⟩ ?_
          refine WP.seq ?_
          refine WP.seq ?_
          obtain ⟨r189, r189b, c14, h⟩ := bnd2_some h
          refine WP.pk tm [(189, An.call (T.tup [ti r189, tb r189b]))] [(0 + 2 ≤ 2), (C Tryz.prog 21 [T.agg [tl r151, ti r151b], tl r151c, ti r151d] (T.tup [ti r189, tb r189b]))] [(34, vb r189b), (33, vi r189), (32, vb r182b), (31, vi r182), (28, vb r159b), (27, vbl r159), (26, vi r151d), (25, vl r151c), (24, V.ref 2024 0), (14, vb r98d), (12, vbl r98), (13, V.ref 2013 0), (11, vl r92c), (10, V.ref 2010 0), (7, vb r71c), (6, V.ref 2006 0), (3, V.ref 2003 0), (2, vb false)] [(2003, oc 26 [tl r63, ti r63b]), (2006, oc 26 [tl r71, ti r71b]), (2010, oc 26 [tl r92, ti r92b]), (2013, oc 26 [tl r98b, ti r98c]), (2024, oc 26 [tl r151, ti r151b])] ⟨by decide, (F_spec_CountSecretAnswers_W r151 r151b r151c r151d r189 r189b c14), trivial⟩ ?_
          obtain ⟨J1, hJ1, h⟩ := jn_some h
          refine WP.joinA (fun (zz : Bool) => ⟨[2003, 2006, 2010, 2013, 2024], [(211, vb zz), (28, vb r159b), (27, vbl r159), (26, vi r151d), (25, vl r151c), (24, V.ref 2024 0), (14, vb r98d), (12, vbl r98), (13, V.ref 2013 0), (11, vl r92c), (10, V.ref 2010 0), (7, vb r71c), (6, V.ref 2006 0), (3, V.ref 2003 0), (2, vb false)], [(2003, oc 26 [tl r63, ti r63b]), (2006, oc 26 [tl r71, ti r71b]), (2010, oc 26 [tl r92, ti r92b]), (2013, oc 26 [tl r98b, ti r98c]), (2024, oc 26 [tl r151, ti r151b])]⟩) (fun zz => J1 zz = some y0) ?_ ?_
          ·rcases ite_some h with ⟨h11, h⟩ | ⟨h11, h⟩
           ·refine WP.qk tm [(194, An.b true)] [(True), ((r182 != r189) = true)] [(211, vb true), (28, vb r159b), (27, vbl r159), (26, vi r151d), (25, vl r151c), (24, V.ref 2024 0), (14, vb r98d), (12, vbl r98), (13, V.ref 2013 0), (11, vl r92c), (10, V.ref 2010 0), (7, vb r71c), (6, V.ref 2006 0), (3, V.ref 2003 0), (2, vb false)] [(2003, oc 26 [tl r63, ti r63b]), (2006, oc 26 [tl r71, ti r71b]), (2010, oc 26 [tl r92, ti r92b]), (2013, oc 26 [tl r98b, ti r98c]), (2024, oc 26 [tl r151, ti r151b])] ⟨trivial, h11, trivial⟩ ?_
            exact ⟨(true), h, rfl⟩
           ·rcases ite_some h with ⟨h12, h⟩ | ⟨h12, h⟩
            ·refine WP.qk tm [(194, An.b false), (198, An.b true)] [(True), ((r182 != r189) = false), (True), ((!(r182b == r189b)) = true)] [(211, vb true), (28, vb r159b), (27, vbl r159), (26, vi r151d), (25, vl r151c), (24, V.ref 2024 0), (14, vb r98d), (12, vbl r98), (13, V.ref 2013 0), (11, vl r92c), (10, V.ref 2010 0), (7, vb r71c), (6, V.ref 2006 0), (3, V.ref 2003 0), (2, vb false)] [(2003, oc 26 [tl r63, ti r63b]), (2006, oc 26 [tl r71, ti r71b]), (2010, oc 26 [tl r92, ti r92b]), (2013, oc 26 [tl r98b, ti r98c]), (2024, oc 26 [tl r151, ti r151b])] ⟨trivial, h11, trivial, h12, trivial⟩ ?_
             exact ⟨(true), h, rfl⟩
            ·rcases ite_some h with ⟨h13, h⟩ | ⟨h13, h⟩
             ·refine WP.qk tm [(194, An.b false), (198, An.b false), (203, An.b true)] [(True), ((r182 != r189) = false), (True), ((!(r182b == r189b)) = false), (True), ((!(r182b == r159b)) = true)] [(211, vb true), (28, vb r159b), (27, vbl r159), (26, vi r151d), (25, vl r151c), (24, V.ref 2024 0), (14, vb r98d), (12, vbl r98), (13, V.ref 2013 0), (11, vl r92c), (10, V.ref 2010 0), (7, vb r71c), (6, V.ref 2006 0), (3, V.ref 2003 0), (2, vb false)] [(2003, oc 26 [tl r63, ti r63b]), (2006, oc 26 [tl r71, ti r71b]), (2010, oc 26 [tl r92, ti r92b]), (2013, oc 26 [tl r98b, ti r98c]), (2024, oc 26 [tl r151, ti r151b])] ⟨trivial, h11, trivial, h12, trivial, h13, trivial⟩ ?_
              exact ⟨(true), h, rfl⟩
             ·rcases ite_some h with ⟨h14, h⟩ | ⟨h14, h⟩
              ·refine WP.qk tm [(194, An.b false), (198, An.b false), (203, An.b false), (207, An.b true)] [(True), ((r182 != r189) = false), (True), ((!(r182b == r189b)) = false), (True), ((!(r182b == r159b)) = false), ((r182b) = true), (True)] [(211, vb (decide (r182 < (1 : Int)))), (28, vb r159b), (27, vbl r159), (26, vi r151d), (25, vl r151c), (24, V.ref 2024 0), (14, vb r98d), (12, vbl r98), (13, V.ref 2013 0), (11, vl r92c), (10, V.ref 2010 0), (7, vb r71c), (6, V.ref 2006 0), (3, V.ref 2003 0), (2, vb false)] [(2003, oc 26 [tl r63, ti r63b]), (2006, oc 26 [tl r71, ti r71b]), (2010, oc 26 [tl r92, ti r92b]), (2013, oc 26 [tl r98b, ti r98c]), (2024, oc 26 [tl r151, ti r151b])] ⟨trivial, h11, trivial, h12, trivial, h13, h14, trivial, trivial⟩ ?_
               exact ⟨(decide (r182 < (1 : Int))), h, rfl⟩
              ·refine WP.qk tm [(194, An.b false), (198, An.b false), (203, An.b false), (207, An.b false)] [(True), ((r182 != r189) = false), (True), ((!(r182b == r189b)) = false), (True), ((!(r182b == r159b)) = false), ((r182b) = false)] [(211, vb false), (28, vb r159b), (27, vbl r159), (26, vi r151d), (25, vl r151c), (24, V.ref 2024 0), (14, vb r98d), (12, vbl r98), (13, V.ref 2013 0), (11, vl r92c), (10, V.ref 2010 0), (7, vb r71c), (6, V.ref 2006 0), (3, V.ref 2003 0), (2, vb false)] [(2003, oc 26 [tl r63, ti r63b]), (2006, oc 26 [tl r71, ti r71b]), (2010, oc 26 [tl r92, ti r92b]), (2013, oc 26 [tl r98b, ti r98c]), (2024, oc 26 [tl r151, ti r151b])] ⟨trivial, h11, trivial, h12, trivial, h13, h14, trivial⟩ ?_
               exact ⟨(false), h, rfl⟩
          ·intro v211 h0
           have h := (show J1 v211 = some y0 from h0)
           rw [hJ1] at h
           rcases ite_some h with ⟨h15, h⟩ | ⟨h15, h⟩
           ·refine WP.yes h15 rfl ?_
            have h := Option.some.inj h
            subst h
            exact WP.pathW tab_ok mixed [] _ (ps := []) (r := tb false) (by as_aux_lemma => kernel_rfl) trivial (WkT.eq (y := tb false) (WkT.refl _) rfl) (fun _ h => h)
           ·refine WP.no h15 rfl ?_
            refine WP.pk tm [] [] [(28, vb r159b), (27, vbl r159), (26, vi r151d), (25, vl r151c), (24, V.ref 2024 0), (14, vb r98d), (12, vbl r98), (13, V.ref 2013 0), (11, vl r92c), (10, V.ref 2010 0), (7, vb r71c), (6, V.ref 2006 0), (3, V.ref 2003 0), (2, vb false)] [(2003, oc 26 [tl r63, ti r63b]), (2006, oc 26 [tl r71, ti r71b]), (2010, oc 26 [tl r92, ti r92b]), (2013, oc 26 [tl r98b, ti r98c]), (2024, oc 26 [tl r151, ti r151b])] trivial ?_
            obtain ⟨J1, hJ1, h⟩ := jn_some h
            refine WP.joinA (fun (zz : Unit) => ⟨[2003, 2006, 2010, 2013], [(14, vb r98d), (12, vbl r98), (13, V.ref 2013 0), (11, vl r92c), (10, V.ref 2010 0), (7, vb r71c), (6, V.ref 2006 0), (3, V.ref 2003 0), (2, vb false)], [(2003, oc 26 [tl r63, ti r63b]), (2006, oc 26 [tl r71, ti r71b]), (2010, oc 26 [tl r92, ti r92b]), (2013, oc 26 [tl r98b, ti r98c])]⟩) (fun zz => J1 () = some y0) ?_ ?_
            ·refine WP.sk tm [] [] [(212, vb r159b), (27, vbl r159), (26, vi r151d), (25, vl r151c), (24, V.ref 2024 0), (14, vb r98d), (12, vbl r98), (13, V.ref 2013 0), (11, vl r92c), (10, V.ref 2010 0), (7, vb r71c), (6, V.ref 2006 0), (3, V.ref 2003 0), (2, vb false)] [(2003, oc 26 [tl r63, ti r63b]), (2006, oc 26 [tl r71, ti r71b]), (2010, oc 26 [tl r92, ti r92b]), (2013, oc 26 [tl r98b, ti r98c]), (2024, oc 26 [tl r151, ti r151b])] trivial ?_
             rcases ite_some h with ⟨h16, h⟩ | ⟨h16, h⟩
             ·refine WP.yes h16 rfl ?_
              refine WP.seq ?_
              obtain ⟨r217, r217b, r217c, c15, h⟩ := bnd3_some h
              refine WP.pn tm [(217, An.call (T.tup [T.agg [tl r217, ti r217b], tb r217c])), (35, An.id 2035)] [(0 + 2 ≤ 2), (C Tryz.prog 7 [T.agg [tl r151, ti r151b], tl r151c, tbl r159] (T.tup [T.agg [tl r217, ti r217b], tb r217c])), ((0 + 2 ≤ 2 ∧ 2 = 2))] [2035, 2003, 2006, 2010, 2013, 2024] [(36, vb r217c), (35, V.ref 2035 0), (26, vi r151d), (25, vl r151c), (24, V.ref 2024 0), (14, vb r98d), (12, vbl r98), (13, V.ref 2013 0), (11, vl r92c), (10, V.ref 2010 0), (7, vb r71c), (6, V.ref 2006 0), (3, V.ref 2003 0), (2, vb false)] [(2003, oc 26 [tl r63, ti r63b]), (2006, oc 26 [tl r71, ti r71b]), (2010, oc 26 [tl r92, ti r92b]), (2013, oc 26 [tl r98b, ti r98c]), (2024, oc 26 [tl r151, ti r151b]), (2035, oc 26 [tl r217, ti r217b])] ⟨by decide, (F_impl_AnswerList_W_C r151 r151b r151c r159 r217 r217b r217c c15), by decide, trivial⟩ ?_
              refine WP.seq ?_
              obtain ⟨J2, hJ2, h⟩ := jn_some h
              refine WP.joinA (fun (zz : Bool) => ⟨[2003, 2006, 2010, 2013, 2024], [(234, vb zz), (25, vl r151c), (24, V.ref 2024 0), (14, vb r98d), (12, vbl r98), (13, V.ref 2013 0), (11, vl r92c), (10, V.ref 2010 0), (7, vb r71c), (6, V.ref 2006 0), (3, V.ref 2003 0), (2, vb false)], [(2003, oc 26 [tl r63, ti r63b]), (2006, oc 26 [tl r71, ti r71b]), (2010, oc 26 [tl r92, ti r92b]), (2013, oc 26 [tl r98b, ti r98c]), (2024, oc 26 [tl r151, ti r151b])]⟩) (fun zz => J2 zz = some y0) ?_ ?_
              ·rcases ite_some h with ⟨h17, h⟩ | ⟨h17, h⟩
               ·refine WP.qk tm [(222, An.b true)] [((!r217c) = true)] [(234, vb true), (25, vl r151c), (24, V.ref 2024 0), (14, vb r98d), (12, vbl r98), (13, V.ref 2013 0), (11, vl r92c), (10, V.ref 2010 0), (7, vb r71c), (6, V.ref 2006 0), (3, V.ref 2003 0), (2, vb false)] [(2003, oc 26 [tl r63, ti r63b]), (2006, oc 26 [tl r71, ti r71b]), (2010, oc 26 [tl r92, ti r92b]), (2013, oc 26 [tl r98b, ti r98c]), (2024, oc 26 [tl r151, ti r151b])] ⟨h17, trivial⟩ ?_
                exact ⟨(true), h, rfl⟩
               ·obtain ⟨c16, h⟩ := chk_some h
                obtain ⟨c17, h⟩ := chk_some h
                refine WP.qk tm [(222, An.b false), (227, An.v (ti (gt r217 r151d 0))), (232, An.v (ti (gt r151 r151d 0)))] [((!r217c) = false), (True), ((0 ≤ r151d ∧ r151d < (ln r217))), ((List.drop ((Int.toNat r151d) * 1) (List.map (ti) r217) : List T)[0]? = some (ti (gt r217 r151d 0))), (ti (gt r217 r151d 0) = ti (gt r217 r151d 0)), (True), ((0 ≤ r151d ∧ r151d < (ln r151))), ((List.drop ((Int.toNat r151d) * 1) (List.map (ti) r151) : List T)[0]? = some (ti (gt r151 r151d 0))), (ti (gt r151 r151d 0) = ti (gt r151 r151d 0)), (True)] [(234, vb ((gt r217 r151d 0) != (gt r151 r151d 0))), (25, vl r151c), (24, V.ref 2024 0), (14, vb r98d), (12, vbl r98), (13, V.ref 2013 0), (11, vl r92c), (10, V.ref 2010 0), (7, vb r71c), (6, V.ref 2006 0), (3, V.ref 2003 0), (2, vb false)] [(2003, oc 26 [tl r63, ti r63b]), (2006, oc 26 [tl r71, ti r71b]), (2010, oc 26 [tl r92, ti r92b]), (2013, oc 26 [tl r98b, ti r98c]), (2024, oc 26 [tl r151, ti r151b])] ⟨h17, trivial, c16, at1 (by simp) (by omega), rfl, trivial, c17, at1 (by simp) (by omega), rfl, trivial, trivial⟩ ?_
                exact ⟨((gt r217 r151d 0) != (gt r151 r151d 0)), h, rfl⟩
              ·intro v234 h0
               have h := (show J2 v234 = some y0 from h0)
               rw [hJ2] at h
               rcases ite_some h with ⟨h18, h⟩ | ⟨h18, h⟩
               ·refine WP.yes h18 rfl ?_
                have h := Option.some.inj h
                subst h
                exact WP.pathW tab_ok mixed [] _ (ps := []) (r := tb false) (by as_aux_lemma => kernel_rfl) trivial (WkT.eq (y := tb false) (WkT.refl _) rfl) (fun _ h => h)
               ·refine WP.no h18 rfl ?_
                refine WP.pk tm [] [] [(25, vl r151c), (24, V.ref 2024 0), (14, vb r98d), (12, vbl r98), (13, V.ref 2013 0), (11, vl r92c), (10, V.ref 2010 0), (7, vb r71c), (6, V.ref 2006 0), (3, V.ref 2003 0), (2, vb false)] [(2003, oc 26 [tl r63, ti r63b]), (2006, oc 26 [tl r71, ti r71b]), (2010, oc 26 [tl r92, ti r92b]), (2013, oc 26 [tl r98b, ti r98c]), (2024, oc 26 [tl r151, ti r151b])] trivial ?_
                refine WP.seq ?_
                obtain ⟨r237, r237b, c16, h⟩ := bnd2_some h
                refine WP.pk tm [(237, An.call (T.tup [tl r237, tb r237b]))] [(0 + 2 ≤ 2), (C Tryz.prog 22 [T.agg [tl r151, ti r151b]] (T.tup [tl r237, tb r237b]))] [(38, vb r237b), (37, vl r237), (25, vl r151c), (24, V.ref 2024 0), (14, vb r98d), (12, vbl r98), (13, V.ref 2013 0), (11, vl r92c), (10, V.ref 2010 0), (7, vb r71c), (6, V.ref 2006 0), (3, V.ref 2003 0), (2, vb false)] [(2003, oc 26 [tl r63, ti r63b]), (2006, oc 26 [tl r71, ti r71b]), (2010, oc 26 [tl r92, ti r92b]), (2013, oc 26 [tl r98b, ti r98c]), (2024, oc 26 [tl r151, ti r151b])] ⟨by decide, (F_impl_OpenNumbers_W_C r151 r151b r237 r237b c16), trivial⟩ ?_
                refine WP.seq ?_
                refine WP.sk tm [] [] [(241, vb (!r237b)), (37, vl r237), (25, vl r151c), (24, V.ref 2024 0), (14, vb r98d), (12, vbl r98), (13, V.ref 2013 0), (11, vl r92c), (10, V.ref 2010 0), (7, vb r71c), (6, V.ref 2006 0), (3, V.ref 2003 0), (2, vb false)] [(2003, oc 26 [tl r63, ti r63b]), (2006, oc 26 [tl r71, ti r71b]), (2010, oc 26 [tl r92, ti r92b]), (2013, oc 26 [tl r98b, ti r98c]), (2024, oc 26 [tl r151, ti r151b])] trivial ?_
                rcases ite_some h with ⟨h19, h⟩ | ⟨h19, h⟩
                ·refine WP.yes h19 rfl ?_
                 have h := Option.some.inj h
                 subst h
                 exact WP.pathW tab_ok mixed [] _ (ps := []) (r := tb false) (by as_aux_lemma => kernel_rfl) trivial (WkT.eq (y := tb false) (WkT.refl _) rfl) (fun _ h => h)
                ·refine WP.no h19 rfl ?_
                 refine WP.pk tm [] [] [(37, vl r237), (25, vl r151c), (24, V.ref 2024 0), (14, vb r98d), (12, vbl r98), (13, V.ref 2013 0), (11, vl r92c), (10, V.ref 2010 0), (7, vb r71c), (6, V.ref 2006 0), (3, V.ref 2003 0), (2, vb false)] [(2003, oc 26 [tl r63, ti r63b]), (2006, oc 26 [tl r71, ti r71b]), (2010, oc 26 [tl r92, ti r92b]), (2013, oc 26 [tl r98b, ti r98c]), (2024, oc 26 [tl r151, ti r151b])] trivial ?_
                 refine WP.sk tm [] [] [(40, vi 0), (39, vi 0), (37, vl r237), (25, vl r151c), (24, V.ref 2024 0), (14, vb r98d), (12, vbl r98), (13, V.ref 2013 0), (11, vl r92c), (10, V.ref 2010 0), (7, vb r71c), (6, V.ref 2006 0), (3, V.ref 2003 0), (2, vb false)] [(2003, oc 26 [tl r63, ti r63b]), (2006, oc 26 [tl r71, ti r71b]), (2010, oc 26 [tl r92, ti r92b]), (2013, oc 26 [tl r98b, ti r98c]), (2024, oc 26 [tl r151, ti r151b])] trivial ?_
                 obtain ⟨J2, hJ2, h⟩ := jn_some h
                 refine WP.joinA (fun (zz : Int) => ⟨[2003, 2006, 2010, 2013, 2024], [(40, vi 0), (39, vi zz), (25, vl r151c), (24, V.ref 2024 0), (14, vb r98d), (12, vbl r98), (13, V.ref 2013 0), (11, vl r92c), (10, V.ref 2010 0), (7, vb r71c), (6, V.ref 2006 0), (3, V.ref 2003 0), (2, vb false)], [(2003, oc 26 [tl r63, ti r63b]), (2006, oc 26 [tl r71, ti r71b]), (2010, oc 26 [tl r92, ti r92b]), (2013, oc 26 [tl r98b, ti r98c]), (2024, oc 26 [tl r151, ti r151b])]⟩) (fun zz => J2 zz = some y0) ?_ ?_
                 ·refine WP.sk tm [] [] [(41, vi 0), (40, vi 0), (39, vi 0), (37, vl r237), (25, vl r151c), (24, V.ref 2024 0), (14, vb r98d), (12, vbl r98), (13, V.ref 2013 0), (11, vl r92c), (10, V.ref 2010 0), (7, vb r71c), (6, V.ref 2006 0), (3, V.ref 2003 0), (2, vb false)] [(2003, oc 26 [tl r63, ti r63b]), (2006, oc 26 [tl r71, ti r71b]), (2010, oc 26 [tl r92, ti r92b]), (2013, oc 26 [tl r98b, ti r98c]), (2024, oc 26 [tl r151, ti r151b])] trivial ?_
                  refine WP.block ?_
                  refine WP.lp (α := Nat × Int × Int) (fun zz => ⟨[2003, 2006, 2010, 2013, 2024], [(41, vi zz.2.1), (40, vi 0), (39, vi zz.2.2), (37, vl r237), (25, vl r151c), (24, V.ref 2024 0), (14, vb r98d), (12, vbl r98), (13, V.ref 2013 0), (11, vl r92c), (10, V.ref 2010 0), (7, vb r71c), (6, V.ref 2006 0), (3, V.ref 2003 0), (2, vb false)], [(2003, oc 26 [tl r63, ti r63b]), (2006, oc 26 [tl r71, ti r71b]), (2010, oc 26 [tl r92, ti r92b]), (2013, oc 26 [tl r98b, ti r98c]), (2024, oc 26 [tl r151, ti r151b])]⟩) (fun zz => F_laws_FnAnswerers_L1 r151 r151b r151c r237 J2 zz.1 zz.2.1 zz.2.2 = some y0) (fun zz => zz.1) (fuel, (0 : Int), (0 : Int)) h ?_
                  rintro ⟨n, v41, v39⟩ h0
                  have h := (show F_laws_FnAnswerers_L1 r151 r151b r151c r237 J2 n v41 v39 = some y0 from h0)
                  rcases n with _ | n
                  ·rw [F_laws_FnAnswerers_L1] at h; cases h
                  ·rw [F_laws_FnAnswerers_L1] at h
                   refine WP.seq ?_
                   refine WP.sk tm [] [(True)] [(245, vb (decide (v41 < (ln r237)))), (41, vi v41), (40, vi 0), (39, vi v39), (37, vl r237), (25, vl r151c), (24, V.ref 2024 0), (14, vb r98d), (12, vbl r98), (13, V.ref 2013 0), (11, vl r92c), (10, V.ref 2010 0), (7, vb r71c), (6, V.ref 2006 0), (3, V.ref 2003 0), (2, vb false)] [(2003, oc 26 [tl r63, ti r63b]), (2006, oc 26 [tl r71, ti r71b]), (2010, oc 26 [tl r92, ti r92b]), (2013, oc 26 [tl r98b, ti r98c]), (2024, oc 26 [tl r151, ti r151b])] ⟨trivial, trivial⟩ ?_
                   rcases ite_some h with ⟨h20, h⟩ | ⟨h20, h⟩
                   ·refine WP.yes h20 rfl ?_
                    refine WP.pk tm [] [] [(41, vi v41), (40, vi 0), (39, vi v39), (37, vl r237), (25, vl r151c), (24, V.ref 2024 0), (14, vb r98d), (12, vbl r98), (13, V.ref 2013 0), (11, vl r92c), (10, V.ref 2010 0), (7, vb r71c), (6, V.ref 2006 0), (3, V.ref 2003 0), (2, vb false)] [(2003, oc 26 [tl r63, ti r63b]), (2006, oc 26 [tl r71, ti r71b]), (2010, oc 26 [tl r92, ti r92b]), (2013, oc 26 [tl r98b, ti r98c]), (2024, oc 26 [tl r151, ti r151b])] trivial ?_
                    refine WP.seq ?_
                    refine WP.block ?_
                    refine WP.seq ?_
                    obtain ⟨c17, h⟩ := chk_some h
                    obtain ⟨r255, r255b, c18, h⟩ := bnd2_some h
                    refine WP.pk tm [(254, An.v (ti (gt r237 v41 0))), (255, An.call (T.tup [ti r255, tb r255b]))] [(0 + 2 ≤ 2), ((0 ≤ v41 ∧ v41 < (ln r237))), ((List.drop ((Int.toNat v41) * 1) (List.map (ti) r237) : List T)[0]? = some (ti (gt r237 v41 0))), (ti (gt r237 v41 0) = ti (gt r237 v41 0)), (C Tryz.prog 20 [T.agg [tl r151, ti r151b], tl r151c, ti (gt r237 v41 0)] (T.tup [ti r255, tb r255b]))] [(43, vb r255b), (42, vi r255), (41, vi v41), (40, vi 0), (39, vi v39), (37, vl r237), (25, vl r151c), (24, V.ref 2024 0), (14, vb r98d), (12, vbl r98), (13, V.ref 2013 0), (11, vl r92c), (10, V.ref 2010 0), (7, vb r71c), (6, V.ref 2006 0), (3, V.ref 2003 0), (2, vb false)] [(2003, oc 26 [tl r63, ti r63b]), (2006, oc 26 [tl r71, ti r71b]), (2010, oc 26 [tl r92, ti r92b]), (2013, oc 26 [tl r98b, ti r98c]), (2024, oc 26 [tl r151, ti r151b])] ⟨by decide, c17, at1 (by simp) (by omega), rfl, (F_impl_CountSecretAnswers_W r151 r151b r151c (gt r237 v41 0) r255 r255b c18), trivial⟩ ?_
                    refine WP.seq ?_
                    refine WP.sk tm [] [] [(259, vb (!r255b)), (42, vi r255), (41, vi v41), (40, vi 0), (39, vi v39), (37, vl r237), (25, vl r151c), (24, V.ref 2024 0), (14, vb r98d), (12, vbl r98), (13, V.ref 2013 0), (11, vl r92c), (10, V.ref 2010 0), (7, vb r71c), (6, V.ref 2006 0), (3, V.ref 2003 0), (2, vb false)] [(2003, oc 26 [tl r63, ti r63b]), (2006, oc 26 [tl r71, ti r71b]), (2010, oc 26 [tl r92, ti r92b]), (2013, oc 26 [tl r98b, ti r98c]), (2024, oc 26 [tl r151, ti r151b])] trivial ?_
                    rcases ite_some h with ⟨h21, h⟩ | ⟨h21, h⟩
                    ·refine WP.yes h21 rfl ?_
                     have h := Option.some.inj h
                     subst h
                     exact WP.pathW tab_ok mixed [] _ (ps := []) (r := tb false) (by as_aux_lemma => kernel_rfl) trivial (WkT.eq (y := tb false) (WkT.refl _) rfl) (fun _ h => h)
                    ·refine WP.no h21 rfl ?_
                     refine WP.pk tm [] [] [(42, vi r255), (41, vi v41), (40, vi 0), (39, vi v39), (37, vl r237), (25, vl r151c), (24, V.ref 2024 0), (14, vb r98d), (12, vbl r98), (13, V.ref 2013 0), (11, vl r92c), (10, V.ref 2010 0), (7, vb r71c), (6, V.ref 2006 0), (3, V.ref 2003 0), (2, vb false)] [(2003, oc 26 [tl r63, ti r63b]), (2006, oc 26 [tl r71, ti r71b]), (2010, oc 26 [tl r92, ti r92b]), (2013, oc 26 [tl r98b, ti r98c]), (2024, oc 26 [tl r151, ti r151b])] trivial ?_
                     obtain ⟨c19, h⟩ := chk_some h
                     refine WP.pk tm [(262, An.v (ti (v39 + r255)))] [(True), (wr (v39 + r255))] [(39, vi (v39 + r255)), (41, vi v41), (40, vi 0), (37, vl r237), (25, vl r151c), (24, V.ref 2024 0), (14, vb r98d), (12, vbl r98), (13, V.ref 2013 0), (11, vl r92c), (10, V.ref 2010 0), (7, vb r71c), (6, V.ref 2006 0), (3, V.ref 2003 0), (2, vb false)] [(2003, oc 26 [tl r63, ti r63b]), (2006, oc 26 [tl r71, ti r71b]), (2010, oc 26 [tl r92, ti r92b]), (2013, oc 26 [tl r98b, ti r98c]), (2024, oc 26 [tl r151, ti r151b])] ⟨trivial, wrapI c19, trivial⟩ ?_
                     obtain ⟨c20, h⟩ := chk_some h
                     refine WP.qk tm [(247, An.v (ti (v41 + 1)))] [(True), (wr (v41 + 1))] [(41, vi (v41 + 1)), (40, vi 0), (39, vi (v39 + r255)), (37, vl r237), (25, vl r151c), (24, V.ref 2024 0), (14, vb r98d), (12, vbl r98), (13, V.ref 2013 0), (11, vl r92c), (10, V.ref 2010 0), (7, vb r71c), (6, V.ref 2006 0), (3, V.ref 2003 0), (2, vb false)] [(2003, oc 26 [tl r63, ti r63b]), (2006, oc 26 [tl r71, ti r71b]), (2010, oc 26 [tl r92, ti r92b]), (2013, oc 26 [tl r98b, ti r98c]), (2024, oc 26 [tl r151, ti r151b])] ⟨trivial, wrapI c20, trivial⟩ ?_
                     exact ⟨(n, (v41 + 1), (v39 + r255)), h, Nat.lt_succ_self _, rfl⟩
                   ·refine WP.no h20 rfl ?_
                    refine WP.eq tm [] 0 [] [(40, vi 0), (39, vi v39), (25, vl r151c), (24, V.ref 2024 0), (14, vb r98d), (12, vbl r98), (13, V.ref 2013 0), (11, vl r92c), (10, V.ref 2010 0), (7, vb r71c), (6, V.ref 2006 0), (3, V.ref 2003 0), (2, vb false)] [(2003, oc 26 [tl r63, ti r63b]), (2006, oc 26 [tl r71, ti r71b]), (2010, oc 26 [tl r92, ti r92b]), (2013, oc 26 [tl r98b, ti r98c]), (2024, oc 26 [tl r151, ti r151b])] trivial ?_
                    exact ⟨(v39), h, rfl⟩
                 ·intro v39 h0
                  have h := (show J2 v39 = some y0 from h0)
                  rw [hJ2] at h
                  obtain ⟨J2, hJ2, h⟩ := jn_some h
                  refine WP.joinA (fun (zz : Int) => ⟨[2003, 2006, 2010, 2013], [(40, vi zz), (39, vi v39), (14, vb r98d), (12, vbl r98), (13, V.ref 2013 0), (11, vl r92c), (10, V.ref 2010 0), (7, vb r71c), (6, V.ref 2006 0), (3, V.ref 2003 0), (2, vb false)], [(2003, oc 26 [tl r63, ti r63b]), (2006, oc 26 [tl r71, ti r71b]), (2010, oc 26 [tl r92, ti r92b]), (2013, oc 26 [tl r98b, ti r98c])]⟩) (fun zz => J2 zz = some y0) ?_ ?_
                  ·refine WP.sk tm [] [] [(44, vi 0), (40, vi 0), (39, vi v39), (25, vl r151c), (24, V.ref 2024 0), (14, vb r98d), (12, vbl r98), (13, V.ref 2013 0), (11, vl r92c), (10, V.ref 2010 0), (7, vb r71c), (6, V.ref 2006 0), (3, V.ref 2003 0), (2, vb false)] [(2003, oc 26 [tl r63, ti r63b]), (2006, oc 26 [tl r71, ti r71b]), (2010, oc 26 [tl r92, ti r92b]), (2013, oc 26 [tl r98b, ti r98c]), (2024, oc 26 [tl r151, ti r151b])] trivial ?_
                   refine WP.block ?_
                   refine WP.lp (α := Nat × Int × Int) (fun zz => ⟨[2003, 2006, 2010, 2013, 2024], [(44, vi zz.2.1), (40, vi zz.2.2), (39, vi v39), (25, vl r151c), (24, V.ref 2024 0), (14, vb r98d), (12, vbl r98), (13, V.ref 2013 0), (11, vl r92c), (10, V.ref 2010 0), (7, vb r71c), (6, V.ref 2006 0), (3, V.ref 2003 0), (2, vb false)], [(2003, oc 26 [tl r63, ti r63b]), (2006, oc 26 [tl r71, ti r71b]), (2010, oc 26 [tl r92, ti r92b]), (2013, oc 26 [tl r98b, ti r98c]), (2024, oc 26 [tl r151, ti r151b])]⟩) (fun zz => F_laws_FnAnswerers_L2 r151 r151b r151c J2 zz.1 zz.2.1 zz.2.2 = some y0) (fun zz => zz.1) (fuel, (0 : Int), (0 : Int)) h ?_
                   rintro ⟨n, v44, v40⟩ h0
                   have h := (show F_laws_FnAnswerers_L2 r151 r151b r151c J2 n v44 v40 = some y0 from h0)
                   rcases n with _ | n
                   ·rw [F_laws_FnAnswerers_L2] at h; cases h
                   ·rw [F_laws_FnAnswerers_L2] at h
                    refine WP.seq ?_
                    refine WP.seq ?_
                    obtain ⟨c17, h⟩ := chk_some h
                    refine WP.pk tm [(266, An.v (ti ((1 : Int) * 2 ^ Int.toNat (ln r151c))))] [(0 ≤ (ln r151c)), (ti (IntKind.wrap .i64 ((1 : Int) * 2 ^ (min (Int.toNat (ln r151c)) 64))) = ti ((1 : Int) * 2 ^ Int.toNat (ln r151c))), (True)] [(267, vb (decide (v44 < ((1 : Int) * 2 ^ Int.toNat (ln r151c))))), (44, vi v44), (40, vi v40), (39, vi v39), (25, vl r151c), (24, V.ref 2024 0), (14, vb r98d), (12, vbl r98), (13, V.ref 2013 0), (11, vl r92c), (10, V.ref 2010 0), (7, vb r71c), (6, V.ref 2006 0), (3, V.ref 2003 0), (2, vb false)] [(2003, oc 26 [tl r63, ti r63b]), (2006, oc 26 [tl r71, ti r71b]), (2010, oc 26 [tl r92, ti r92b]), (2013, oc 26 [tl r98b, ti r98c]), (2024, oc 26 [tl r151, ti r151b])] ⟨c17.1, shl_told c17, trivial, trivial⟩ ?_
                    rcases ite_some h with ⟨h22, h⟩ | ⟨h22, h⟩
                    ·refine WP.yes h22 rfl ?_
                     refine WP.pk tm [] [] [(44, vi v44), (40, vi v40), (39, vi v39), (25, vl r151c), (24, V.ref 2024 0), (14, vb r98d), (12, vbl r98), (13, V.ref 2013 0), (11, vl r92c), (10, V.ref 2010 0), (7, vb r71c), (6, V.ref 2006 0), (3, V.ref 2003 0), (2, vb false)] [(2003, oc 26 [tl r63, ti r63b]), (2006, oc 26 [tl r71, ti r71b]), (2010, oc 26 [tl r92, ti r92b]), (2013, oc 26 [tl r98b, ti r98c]), (2024, oc 26 [tl r151, ti r151b])] trivial ?_
                     obtain ⟨J3, hJ3, h⟩ := jn_some h
                     refine WP.joinA (fun (zz : Int) => ⟨[2003, 2006, 2010, 2013, 2024], [(40, vi zz), (44, vi v44), (39, vi v39), (25, vl r151c), (24, V.ref 2024 0), (14, vb r98d), (12, vbl r98), (13, V.ref 2013 0), (11, vl r92c), (10, V.ref 2010 0), (7, vb r71c), (6, V.ref 2006 0), (3, V.ref 2003 0), (2, vb false)], [(2003, oc 26 [tl r63, ti r63b]), (2006, oc 26 [tl r71, ti r71b]), (2010, oc 26 [tl r92, ti r92b]), (2013, oc 26 [tl r98b, ti r98c]), (2024, oc 26 [tl r151, ti r151b])]⟩) (fun zz => J3 zz = some y0) ?_ ?_
                     ·refine WP.block ?_
                      refine WP.sn tm [(270, An.id 2270)] [(True), (0 = 0 * 1)] [2270, 2003, 2006, 2010, 2013, 2024] [(45, vo 2270 0), (44, vi v44), (40, vi v40), (39, vi v39), (25, vl r151c), (24, V.ref 2024 0), (14, vb r98d), (12, vbl r98), (13, V.ref 2013 0), (11, vl r92c), (10, V.ref 2010 0), (7, vb r71c), (6, V.ref 2006 0), (3, V.ref 2003 0), (2, vb false)] [(2003, oc 26 [tl r63, ti r63b]), (2006, oc 26 [tl r71, ti r71b]), (2010, oc 26 [tl r92, ti r92b]), (2013, oc 26 [tl r98b, ti r98c]), (2024, oc 26 [tl r151, ti r151b]), (2270, oc 4 [])] ⟨trivial, by decide, trivial⟩ ?_
                      obtain ⟨J4, hJ4, h⟩ := jn_some h
                      refine WP.joinA (fun (zz : (List Bool)) => ⟨[2003, 2006, 2010, 2013, 2024, 2270], [(45, vo 2270 (List.length zz)), (44, vi v44), (40, vi v40), (39, vi v39), (25, vl r151c), (24, V.ref 2024 0), (14, vb r98d), (12, vbl r98), (13, V.ref 2013 0), (11, vl r92c), (10, V.ref 2010 0), (7, vb r71c), (6, V.ref 2006 0), (3, V.ref 2003 0), (2, vb false)], [(2003, oc 26 [tl r63, ti r63b]), (2006, oc 26 [tl r71, ti r71b]), (2010, oc 26 [tl r92, ti r92b]), (2013, oc 26 [tl r98b, ti r98c]), (2024, oc 26 [tl r151, ti r151b]), (2270, oc 4 (List.map T.bool zz))]⟩) (fun zz => J4 zz = some y0) ?_ ?_
                      ·refine WP.sn tm [] [] [2270, 2003, 2006, 2010, 2013, 2024] [(46, vi 0), (45, vo 2270 0), (44, vi v44), (40, vi v40), (39, vi v39), (25, vl r151c), (24, V.ref 2024 0), (14, vb r98d), (12, vbl r98), (13, V.ref 2013 0), (11, vl r92c), (10, V.ref 2010 0), (7, vb r71c), (6, V.ref 2006 0), (3, V.ref 2003 0), (2, vb false)] [(2003, oc 26 [tl r63, ti r63b]), (2006, oc 26 [tl r71, ti r71b]), (2010, oc 26 [tl r92, ti r92b]), (2013, oc 26 [tl r98b, ti r98c]), (2024, oc 26 [tl r151, ti r151b]), (2270, oc 4 [])] trivial ?_
                       refine WP.block ?_
                       refine WP.lp (α := Nat × (List Bool) × Int) (fun zz => ⟨[2003, 2006, 2010, 2013, 2024, 2270], [(46, vi zz.2.2), (45, vo 2270 (List.length zz.2.1)), (44, vi v44), (40, vi v40), (39, vi v39), (25, vl r151c), (24, V.ref 2024 0), (14, vb r98d), (12, vbl r98), (13, V.ref 2013 0), (11, vl r92c), (10, V.ref 2010 0), (7, vb r71c), (6, V.ref 2006 0), (3, V.ref 2003 0), (2, vb false)], [(2003, oc 26 [tl r63, ti r63b]), (2006, oc 26 [tl r71, ti r71b]), (2010, oc 26 [tl r92, ti r92b]), (2013, oc 26 [tl r98b, ti r98c]), (2024, oc 26 [tl r151, ti r151b]), (2270, oc 4 (List.map T.bool zz.2.1))]⟩) (fun zz => F_laws_FnAnswerers_L3 r151c v44 J4 zz.1 zz.2.1 zz.2.2 = some y0) (fun zz => zz.1) (fuel, ([] : List Bool), (0 : Int)) h ?_
                       rintro ⟨n, o270, v46⟩ h0
                       have h := (show F_laws_FnAnswerers_L3 r151c v44 J4 n o270 v46 = some y0 from h0)
                       rcases n with _ | n
                       ·rw [F_laws_FnAnswerers_L3] at h; cases h
                       ·rw [F_laws_FnAnswerers_L3] at h
                        refine WP.seq ?_
                        refine WP.sk tm [] [(True)] [(274, vb (decide (v46 < (ln r151c)))), (46, vi v46), (45, vo 2270 (List.length o270)), (44, vi v44), (40, vi v40), (39, vi v39), (25, vl r151c), (24, V.ref 2024 0), (14, vb r98d), (12, vbl r98), (13, V.ref 2013 0), (11, vl r92c), (10, V.ref 2010 0), (7, vb r71c), (6, V.ref 2006 0), (3, V.ref 2003 0), (2, vb false)] [(2003, oc 26 [tl r63, ti r63b]), (2006, oc 26 [tl r71, ti r71b]), (2010, oc 26 [tl r92, ti r92b]), (2013, oc 26 [tl r98b, ti r98c]), (2024, oc 26 [tl r151, ti r151b]), (2270, oc 4 (List.map T.bool o270))] ⟨trivial, trivial⟩ ?_
                        rcases ite_some h with ⟨h23, h⟩ | ⟨h23, h⟩
                        ·refine WP.yes h23 rfl ?_
                         refine WP.pk tm [] [] [(46, vi v46), (45, vo 2270 (List.length o270)), (44, vi v44), (40, vi v40), (39, vi v39), (25, vl r151c), (24, V.ref 2024 0), (14, vb r98d), (12, vbl r98), (13, V.ref 2013 0), (11, vl r92c), (10, V.ref 2010 0), (7, vb r71c), (6, V.ref 2006 0), (3, V.ref 2003 0), (2, vb false)] [(2003, oc 26 [tl r63, ti r63b]), (2006, oc 26 [tl r71, ti r71b]), (2010, oc 26 [tl r92, ti r92b]), (2013, oc 26 [tl r98b, ti r98c]), (2024, oc 26 [tl r151, ti r151b]), (2270, oc 4 (List.map T.bool o270))] trivial ?_
                         refine WP.seq ?_
                         refine WP.block ?_
                         obtain ⟨c18, h⟩ := chk_some h
                         obtain ⟨n281, c19, h⟩ := nam_some h
                         obtain ⟨c20, h⟩ := chk_some h
                         refine WP.pn tm [(280, An.v (ti (v44 / 2 ^ Int.toNat v46))), (281, An.v (ti n281)), (283, An.fz), (284, An.id 2284)] [(0 ≤ v46), (ti (Int.fdiv v44 (2 ^ (min (Int.toNat v46) 64))) = ti (v44 / 2 ^ Int.toNat v46)), (True), (ti (bits .and .i64 (v44 / 2 ^ Int.toNat v46) (1 : Int)) = ti n281), (True), ((1 = 1 ∧ 0 + 1 ≤ 1) ∧ True), (1 = 1 * 1), (True), (List.length (List.map T.bool o270) = (List.length o270) * 1), ((((List.length o270) + 1) * 1 ≤ 140737488355328 ∧ (List.length o270) + 1 ≤ maxLen))] [2284, 2003, 2006, 2010, 2013, 2024, 2270] [(45, vo 2284 ((List.length o270) + 1)), (46, vi v46), (44, vi v44), (40, vi v40), (39, vi v39), (25, vl r151c), (24, V.ref 2024 0), (14, vb r98d), (12, vbl r98), (13, V.ref 2013 0), (11, vl r92c), (10, V.ref 2010 0), (7, vb r71c), (6, V.ref 2006 0), (3, V.ref 2003 0), (2, vb false)] [(2003, oc 26 [tl r63, ti r63b]), (2006, oc 26 [tl r71, ti r71b]), (2010, oc 26 [tl r92, ti r92b]), (2013, oc 26 [tl r98b, ti r98c]), (2024, oc 26 [tl r151, ti r151b]), (2284, oc 4 ((List.map T.bool o270) ++ [tb (n281 == (1 : Int))]))] ⟨c18.1, shr_told c18, trivial, congrArg (ti) c19, trivial, ⟨⟨by first | rfl | (simp; done) | (simp []; done) | omega, by first | decide | (simp; done) | (simp []; done) | omega | (simp only [tlL]; omega) | (simp; omega)⟩, trivial⟩, by decide, trivial, by first | rfl | omega | (simp only [tlL] <;> omega) | (simp <;> omega) | (simp [] <;> omega), c20, trivial⟩ ?_
                         obtain ⟨c21, h⟩ := chk_some h
                         refine WP.nk tm [(276, An.v (ti (v46 + 1)))] [(2003, 2003), (2006, 2006), (2010, 2010), (2013, 2013), (2024, 2024), (2284, 2270)] .normal [(True), (wr (v46 + 1))] [(46, vi (v46 + 1)), (45, vo 2270 ((List.length o270) + 1)), (44, vi v44), (40, vi v40), (39, vi v39), (25, vl r151c), (24, V.ref 2024 0), (14, vb r98d), (12, vbl r98), (13, V.ref 2013 0), (11, vl r92c), (10, V.ref 2010 0), (7, vb r71c), (6, V.ref 2006 0), (3, V.ref 2003 0), (2, vb false)] [(2003, oc 26 [tl r63, ti r63b]), (2006, oc 26 [tl r71, ti r71b]), (2010, oc 26 [tl r92, ti r92b]), (2013, oc 26 [tl r98b, ti r98c]), (2024, oc 26 [tl r151, ti r151b]), (2270, oc 4 ((List.map T.bool o270) ++ [tb (n281 == (1 : Int))]))] ⟨trivial, wrapI c21, trivial⟩ ?_
                         exact ⟨(n, o270 ++ [n281 == (1 : Int)], (v46 + 1)), h, Nat.lt_succ_self _, (by first | rfl | (simp only [tlS, tl, vl, vo, oc, ov, tbl, vbl, ty, vy] <;> rfl) | (simp <;> omega) | (simp []; done) | (rw [List.take_of_length_le (by simp [])] <;> rfl) | (simp [List.take_of_length_le]; done))⟩
                        ·refine WP.no h23 rfl ?_
                         refine WP.eq tm [] 4 [] [(45, vo 2270 (List.length o270)), (44, vi v44), (40, vi v40), (39, vi v39), (25, vl r151c), (24, V.ref 2024 0), (14, vb r98d), (12, vbl r98), (13, V.ref 2013 0), (11, vl r92c), (10, V.ref 2010 0), (7, vb r71c), (6, V.ref 2006 0), (3, V.ref 2003 0), (2, vb false)] [(2003, oc 26 [tl r63, ti r63b]), (2006, oc 26 [tl r71, ti r71b]), (2010, oc 26 [tl r92, ti r92b]), (2013, oc 26 [tl r98b, ti r98c]), (2024, oc 26 [tl r151, ti r151b]), (2270, oc 4 (List.map T.bool o270))] trivial ?_
                         exact ⟨(o270), h, rfl⟩
                      ·intro o270 h0
                       have h := (show J4 o270 = some y0 from h0)
                       rw [hJ4] at h
                       refine WP.wk [.freeze 2270] (ps := [List.length (List.map T.bool o270) = (List.length o270) * 1]) (σ' := ⟨[2003, 2006, 2010, 2013, 2024, 2270], [(45, vbl o270), (44, vi v44), (40, vi v40), (39, vi v39), (25, vl r151c), (24, V.ref 2024 0), (14, vb r98d), (12, vbl r98), (13, V.ref 2013 0), (11, vl r92c), (10, V.ref 2010 0), (7, vb r71c), (6, V.ref 2006 0), (3, V.ref 2003 0), (2, vb false)], [(2003, oc 26 [tl r63, ti r63b]), (2006, oc 26 [tl r71, ti r71b]), (2010, oc 26 [tl r92, ti r92b]), (2013, oc 26 [tl r98b, ti r98c]), (2024, oc 26 [tl r151, ti r151b])]⟩) (by as_aux_lemma => kernel_rfl) ⟨by first | rfl | omega | (simp <;> omega) | (simp [hl] <;> omega), trivial⟩ ?_
                       refine WP.seq ?_
                       obtain ⟨r289, r289b, r289c, c18, h⟩ := bnd3_some h
                       refine WP.pn tm [(289, An.call (T.tup [T.agg [tl r289, ti r289b], tb r289c])), (47, An.id 2047)] [(0 + 2 ≤ 2), (C Tryz.prog 7 [T.agg [tl r151, ti r151b], tl r151c, tbl o270] (T.tup [T.agg [tl r289, ti r289b], tb r289c])), ((0 + 2 ≤ 2 ∧ 2 = 2))] [2047, 2003, 2006, 2010, 2013, 2024, 2270] [(48, vb r289c), (47, V.ref 2047 0), (44, vi v44), (40, vi v40), (39, vi v39), (25, vl r151c), (24, V.ref 2024 0), (14, vb r98d), (12, vbl r98), (13, V.ref 2013 0), (11, vl r92c), (10, V.ref 2010 0), (7, vb r71c), (6, V.ref 2006 0), (3, V.ref 2003 0), (2, vb false)] [(2003, oc 26 [tl r63, ti r63b]), (2006, oc 26 [tl r71, ti r71b]), (2010, oc 26 [tl r92, ti r92b]), (2013, oc 26 [tl r98b, ti r98c]), (2024, oc 26 [tl r151, ti r151b]), (2047, oc 26 [tl r289, ti r289b])] ⟨by decide, (F_impl_AnswerList_W_C r151 r151b r151c o270 r289 r289b r289c c18), by decide, trivial⟩ ?_
                       refine WP.seq ?_
                       obtain ⟨r294, r294b, c19, h⟩ := bnd2_some h
                       refine WP.pn tm [(294, An.call (T.tup [tl r294, tb r294b]))] [(0 + 2 ≤ 2), (C Tryz.prog 22 [T.agg [tl r289, ti r289b]] (T.tup [tl r294, tb r294b]))] [2047, 2003, 2006, 2010, 2013, 2024, 2270] [(50, vb r294b), (49, vl r294), (48, vb r289c), (44, vi v44), (40, vi v40), (39, vi v39), (25, vl r151c), (24, V.ref 2024 0), (14, vb r98d), (12, vbl r98), (13, V.ref 2013 0), (11, vl r92c), (10, V.ref 2010 0), (7, vb r71c), (6, V.ref 2006 0), (3, V.ref 2003 0), (2, vb false)] [(2003, oc 26 [tl r63, ti r63b]), (2006, oc 26 [tl r71, ti r71b]), (2010, oc 26 [tl r92, ti r92b]), (2013, oc 26 [tl r98b, ti r98c]), (2024, oc 26 [tl r151, ti r151b])] ⟨by decide, (F_impl_OpenNumbers_W_C r289 r289b r294 r294b c19), trivial⟩ ?_
                       refine WP.seq ?_
                       obtain ⟨J4, hJ4, h⟩ := jn_some h
                       refine WP.joinA (fun (zz : Bool) => ⟨[2003, 2006, 2010, 2013, 2024], [(302, vb zz), (49, vl r294), (44, vi v44), (40, vi v40), (39, vi v39), (25, vl r151c), (24, V.ref 2024 0), (14, vb r98d), (12, vbl r98), (13, V.ref 2013 0), (11, vl r92c), (10, V.ref 2010 0), (7, vb r71c), (6, V.ref 2006 0), (3, V.ref 2003 0), (2, vb false)], [(2003, oc 26 [tl r63, ti r63b]), (2006, oc 26 [tl r71, ti r71b]), (2010, oc 26 [tl r92, ti r92b]), (2013, oc 26 [tl r98b, ti r98c]), (2024, oc 26 [tl r151, ti r151b])]⟩) (fun zz => J4 zz = some y0) ?_ ?_
                       ·rcases ite_some h with ⟨h24, h⟩ | ⟨h24, h⟩
                        ·refine WP.qk tm [(299, An.b true)] [((!r289c) = true)] [(302, vb true), (49, vl r294), (44, vi v44), (40, vi v40), (39, vi v39), (25, vl r151c), (24, V.ref 2024 0), (14, vb r98d), (12, vbl r98), (13, V.ref 2013 0), (11, vl r92c), (10, V.ref 2010 0), (7, vb r71c), (6, V.ref 2006 0), (3, V.ref 2003 0), (2, vb false)] [(2003, oc 26 [tl r63, ti r63b]), (2006, oc 26 [tl r71, ti r71b]), (2010, oc 26 [tl r92, ti r92b]), (2013, oc 26 [tl r98b, ti r98c]), (2024, oc 26 [tl r151, ti r151b])] ⟨h24, trivial⟩ ?_
                         exact ⟨(true), h, rfl⟩
                        ·refine WP.qk tm [(299, An.b false)] [((!r289c) = false)] [(302, vb (!r294b)), (49, vl r294), (44, vi v44), (40, vi v40), (39, vi v39), (25, vl r151c), (24, V.ref 2024 0), (14, vb r98d), (12, vbl r98), (13, V.ref 2013 0), (11, vl r92c), (10, V.ref 2010 0), (7, vb r71c), (6, V.ref 2006 0), (3, V.ref 2003 0), (2, vb false)] [(2003, oc 26 [tl r63, ti r63b]), (2006, oc 26 [tl r71, ti r71b]), (2010, oc 26 [tl r92, ti r92b]), (2013, oc 26 [tl r98b, ti r98c]), (2024, oc 26 [tl r151, ti r151b])] ⟨h24, trivial⟩ ?_
                         exact ⟨(!r294b), h, rfl⟩
                       ·intro v302 h0
                        have h := (show J4 v302 = some y0 from h0)
                        rw [hJ4] at h
                        rcases ite_some h with ⟨h25, h⟩ | ⟨h25, h⟩
                        ·refine WP.yes h25 rfl ?_
                         have h := Option.some.inj h
                         subst h
                         exact WP.pathW tab_ok mixed [] _ (ps := []) (r := tb false) (by as_aux_lemma => kernel_rfl) trivial (WkT.eq (y := tb false) (WkT.refl _) rfl) (fun _ h => h)
                        ·refine WP.no h25 rfl ?_
                         refine WP.pk tm [] [] [(49, vl r294), (44, vi v44), (40, vi v40), (39, vi v39), (25, vl r151c), (24, V.ref 2024 0), (14, vb r98d), (12, vbl r98), (13, V.ref 2013 0), (11, vl r92c), (10, V.ref 2010 0), (7, vb r71c), (6, V.ref 2006 0), (3, V.ref 2003 0), (2, vb false)] [(2003, oc 26 [tl r63, ti r63b]), (2006, oc 26 [tl r71, ti r71b]), (2010, oc 26 [tl r92, ti r92b]), (2013, oc 26 [tl r98b, ti r98c]), (2024, oc 26 [tl r151, ti r151b])] trivial ?_
                         obtain ⟨c20, h⟩ := chk_some h
                         refine WP.qk tm [(306, An.v (ti (v40 + (ln r294))))] [(True), (wr (v40 + (ln r294)))] [(40, vi (v40 + (ln r294))), (44, vi v44), (39, vi v39), (25, vl r151c), (24, V.ref 2024 0), (14, vb r98d), (12, vbl r98), (13, V.ref 2013 0), (11, vl r92c), (10, V.ref 2010 0), (7, vb r71c), (6, V.ref 2006 0), (3, V.ref 2003 0), (2, vb false)] [(2003, oc 26 [tl r63, ti r63b]), (2006, oc 26 [tl r71, ti r71b]), (2010, oc 26 [tl r92, ti r92b]), (2013, oc 26 [tl r98b, ti r98c]), (2024, oc 26 [tl r151, ti r151b])] ⟨trivial, wrapI c20, trivial⟩ ?_
                         exact ⟨((v40 + (ln r294))), h, rfl⟩
                     ·intro v40b h0
                      have h := (show J3 v40b = some y0 from h0)
                      rw [hJ3] at h
                      obtain ⟨c18, h⟩ := chk_some h
                      refine WP.qk tm [(269, An.v (ti (v44 + 1)))] [(True), (wr (v44 + 1))] [(44, vi (v44 + 1)), (40, vi v40b), (39, vi v39), (25, vl r151c), (24, V.ref 2024 0), (14, vb r98d), (12, vbl r98), (13, V.ref 2013 0), (11, vl r92c), (10, V.ref 2010 0), (7, vb r71c), (6, V.ref 2006 0), (3, V.ref 2003 0), (2, vb false)] [(2003, oc 26 [tl r63, ti r63b]), (2006, oc 26 [tl r71, ti r71b]), (2010, oc 26 [tl r92, ti r92b]), (2013, oc 26 [tl r98b, ti r98c]), (2024, oc 26 [tl r151, ti r151b])] ⟨trivial, wrapI c18, trivial⟩ ?_
                      exact ⟨(n, (v44 + 1), v40b), h, Nat.lt_succ_self _, rfl⟩
                    ·refine WP.no h22 rfl ?_
                     refine WP.eq tm [] 2 [] [(40, vi v40), (39, vi v39), (14, vb r98d), (12, vbl r98), (13, V.ref 2013 0), (11, vl r92c), (10, V.ref 2010 0), (7, vb r71c), (6, V.ref 2006 0), (3, V.ref 2003 0), (2, vb false)] [(2003, oc 26 [tl r63, ti r63b]), (2006, oc 26 [tl r71, ti r71b]), (2010, oc 26 [tl r92, ti r92b]), (2013, oc 26 [tl r98b, ti r98c])] trivial ?_
                     exact ⟨(v40), h, rfl⟩
                  ·intro v40 h0
                   have h := (show J2 v40 = some y0 from h0)
                   rw [hJ2] at h
                   refine WP.sk tm [] [(True)] [(309, vb (v39 != v40)), (14, vb r98d), (12, vbl r98), (13, V.ref 2013 0), (11, vl r92c), (10, V.ref 2010 0), (7, vb r71c), (6, V.ref 2006 0), (3, V.ref 2003 0), (2, vb false)] [(2003, oc 26 [tl r63, ti r63b]), (2006, oc 26 [tl r71, ti r71b]), (2010, oc 26 [tl r92, ti r92b]), (2013, oc 26 [tl r98b, ti r98c])] ⟨trivial, trivial⟩ ?_
                   rcases ite_some h with ⟨h26, h⟩ | ⟨h26, h⟩
                   ·refine WP.yes h26 rfl ?_
                    have h := Option.some.inj h
                    subst h
                    exact WP.pathW tab_ok mixed [] _ (ps := []) (r := tb false) (by as_aux_lemma => kernel_rfl) trivial (WkT.eq (y := tb false) (WkT.refl _) rfl) (fun _ h => h)
                   ·refine WP.no h26 rfl ?_
                    refine WP.qk tm [] [] [(14, vb r98d), (12, vbl r98), (13, V.ref 2013 0), (11, vl r92c), (10, V.ref 2010 0), (7, vb r71c), (6, V.ref 2006 0), (3, V.ref 2003 0), (2, vb false)] [(2003, oc 26 [tl r63, ti r63b]), (2006, oc 26 [tl r71, ti r71b]), (2010, oc 26 [tl r92, ti r92b]), (2013, oc 26 [tl r98b, ti r98c])] trivial ?_
                    exact ⟨(), h, rfl⟩
             ·refine WP.no h16 rfl ?_
              refine WP.qk tm [] [] [(14, vb r98d), (12, vbl r98), (13, V.ref 2013 0), (11, vl r92c), (10, V.ref 2010 0), (7, vb r71c), (6, V.ref 2006 0), (3, V.ref 2003 0), (2, vb false)] [(2003, oc 26 [tl r63, ti r63b]), (2006, oc 26 [tl r71, ti r71b]), (2010, oc 26 [tl r92, ti r92b]), (2013, oc 26 [tl r98b, ti r98c])] trivial ?_
              exact ⟨(), h, rfl⟩
            ·intro _ h0
             have h := (show J1 () = some y0 from h0)
             rw [hJ1] at h
             obtain ⟨J1, hJ1, h⟩ := jn_some h
             refine WP.joinA (fun (zz : Unit) => ⟨[2003, 2006], [(7, vb r71c), (6, V.ref 2006 0), (3, V.ref 2003 0), (2, vb false)], [(2003, oc 26 [tl r63, ti r63b]), (2006, oc 26 [tl r71, ti r71b])]⟩) (fun zz => J1 () = some y0) ?_ ?_
             ·refine WP.sk tm [] [] [(310, vb r98d), (12, vbl r98), (13, V.ref 2013 0), (11, vl r92c), (10, V.ref 2010 0), (7, vb r71c), (6, V.ref 2006 0), (3, V.ref 2003 0), (2, vb false)] [(2003, oc 26 [tl r63, ti r63b]), (2006, oc 26 [tl r71, ti r71b]), (2010, oc 26 [tl r92, ti r92b]), (2013, oc 26 [tl r98b, ti r98c])] trivial ?_
              rcases ite_some h with ⟨h27, h⟩ | ⟨h27, h⟩
              ·refine WP.yes h27 rfl ?_
               refine WP.seq ?_
               obtain ⟨r315, r315b, r315c, c15, h⟩ := bnd3_some h
               refine WP.pn tm [(315, An.call (T.tup [T.agg [tl r315, ti r315b], tb r315c])), (51, An.id 2051)] [(0 + 2 ≤ 2), (C Tryz.prog 7 [T.agg [tl r92, ti r92b], tl r92c, tbl r98] (T.tup [T.agg [tl r315, ti r315b], tb r315c])), ((0 + 2 ≤ 2 ∧ 2 = 2))] [2051, 2003, 2006, 2010, 2013] [(52, vb r315c), (51, V.ref 2051 0), (13, V.ref 2013 0), (11, vl r92c), (10, V.ref 2010 0), (7, vb r71c), (6, V.ref 2006 0), (3, V.ref 2003 0), (2, vb false)] [(2003, oc 26 [tl r63, ti r63b]), (2006, oc 26 [tl r71, ti r71b]), (2010, oc 26 [tl r92, ti r92b]), (2013, oc 26 [tl r98b, ti r98c]), (2051, oc 26 [tl r315, ti r315b])] ⟨by decide, (F_impl_AnswerList_W_C r92 r92b r92c r98 r315 r315b r315c c15), by decide, trivial⟩ ?_
               refine WP.seq ?_
               obtain ⟨r320, r320b, c16, h⟩ := bnd2_some h
               refine WP.pn tm [(320, An.call (T.tup [tl r320, tb r320b]))] [(0 + 2 ≤ 2), (C Tryz.prog 23 [T.agg [tl r92, ti r92b]] (T.tup [tl r320, tb r320b]))] [2051, 2003, 2006, 2010, 2013] [(54, vb r320b), (53, vl r320), (52, vb r315c), (51, V.ref 2051 0), (13, V.ref 2013 0), (11, vl r92c), (7, vb r71c), (6, V.ref 2006 0), (3, V.ref 2003 0), (2, vb false)] [(2003, oc 26 [tl r63, ti r63b]), (2006, oc 26 [tl r71, ti r71b]), (2013, oc 26 [tl r98b, ti r98c]), (2051, oc 26 [tl r315, ti r315b])] ⟨by decide, (F_impl_CountsOf_W_C r92 r92b r320 r320b c16), trivial⟩ ?_
               refine WP.seq ?_
               obtain ⟨r325, r325b, c17, h⟩ := bnd2_some h
               refine WP.pn tm [(325, An.call (T.tup [ti r325, tb r325b]))] [(C Tryz.prog 24 [tl r320] (T.tup [ti r325, tb r325b]))] [2051, 2003, 2006, 2010, 2013] [(56, vb r325b), (55, vi r325), (54, vb r320b), (52, vb r315c), (51, V.ref 2051 0), (13, V.ref 2013 0), (11, vl r92c), (7, vb r71c), (6, V.ref 2006 0), (3, V.ref 2003 0), (2, vb false)] [(2003, oc 26 [tl r63, ti r63b]), (2006, oc 26 [tl r71, ti r71b]), (2013, oc 26 [tl r98b, ti r98c]), (2051, oc 26 [tl r315, ti r315b])] ⟨(F_impl_NeedOf_W r320 r325 r325b c17), trivial⟩ ?_
               refine WP.seq ?_
               obtain ⟨r330, r330b, c18, h⟩ := bnd2_some h
               refine WP.pn tm [(330, An.call (T.tup [tl r330, tb r330b]))] [(0 + 2 ≤ 2), (C Tryz.prog 22 [T.agg [tl r98b, ti r98c]] (T.tup [tl r330, tb r330b]))] [2051, 2003, 2006, 2010, 2013] [(58, vb r330b), (57, vl r330), (56, vb r325b), (55, vi r325), (54, vb r320b), (52, vb r315c), (51, V.ref 2051 0), (13, V.ref 2013 0), (11, vl r92c), (7, vb r71c), (6, V.ref 2006 0), (3, V.ref 2003 0), (2, vb false)] [(2003, oc 26 [tl r63, ti r63b]), (2006, oc 26 [tl r71, ti r71b]), (2013, oc 26 [tl r98b, ti r98c]), (2051, oc 26 [tl r315, ti r315b])] ⟨by decide, (F_impl_OpenNumbers_W_C r98b r98c r330 r330b c18), trivial⟩ ?_
               obtain ⟨J2, hJ2, h⟩ := jn_some h
               refine WP.joinA (fun (zz : Bool) => ⟨[2003, 2006], [(363, vb zz), (7, vb r71c), (6, V.ref 2006 0), (3, V.ref 2003 0), (2, vb false)], [(2003, oc 26 [tl r63, ti r63b]), (2006, oc 26 [tl r71, ti r71b])]⟩) (fun zz => J2 zz = some y0) ?_ ?_
               ·rcases ite_some h with ⟨h28, h⟩ | ⟨h28, h⟩
                ·refine WP.qk tm [(335, An.b true)] [((!r315c) = true)] [(363, vb true), (7, vb r71c), (6, V.ref 2006 0), (3, V.ref 2003 0), (2, vb false)] [(2003, oc 26 [tl r63, ti r63b]), (2006, oc 26 [tl r71, ti r71b])] ⟨h28, trivial⟩ ?_
                 exact ⟨(true), h, rfl⟩
                ·rcases ite_some h with ⟨h29, h⟩ | ⟨h29, h⟩
                 ·refine WP.qk tm [(335, An.b false), (339, An.b true)] [((!r315c) = false), ((!r320b) = true)] [(363, vb true), (7, vb r71c), (6, V.ref 2006 0), (3, V.ref 2003 0), (2, vb false)] [(2003, oc 26 [tl r63, ti r63b]), (2006, oc 26 [tl r71, ti r71b])] ⟨h28, h29, trivial⟩ ?_
                  exact ⟨(true), h, rfl⟩
                 ·rcases ite_some h with ⟨h30, h⟩ | ⟨h30, h⟩
                  ·refine WP.qk tm [(335, An.b false), (339, An.b false), (343, An.b true)] [((!r315c) = false), ((!r320b) = false), ((!r325b) = true)] [(363, vb true), (7, vb r71c), (6, V.ref 2006 0), (3, V.ref 2003 0), (2, vb false)] [(2003, oc 26 [tl r63, ti r63b]), (2006, oc 26 [tl r71, ti r71b])] ⟨h28, h29, h30, trivial⟩ ?_
                   exact ⟨(true), h, rfl⟩
                  ·rcases ite_some h with ⟨h31, h⟩ | ⟨h31, h⟩
                   ·refine WP.qk tm [(335, An.b false), (339, An.b false), (343, An.b false), (347, An.b true)] [((!r315c) = false), ((!r320b) = false), ((!r325b) = false), ((!r330b) = true)] [(363, vb true), (7, vb r71c), (6, V.ref 2006 0), (3, V.ref 2003 0), (2, vb false)] [(2003, oc 26 [tl r63, ti r63b]), (2006, oc 26 [tl r71, ti r71b])] ⟨h28, h29, h30, h31, trivial⟩ ?_
                    exact ⟨(true), h, rfl⟩
                   ·obtain ⟨r350, c19, h⟩ := bnd1_some h
                    rcases ite_some h with ⟨h32, h⟩ | ⟨h32, h⟩
                    ·refine WP.qk tm [(335, An.b false), (339, An.b false), (343, An.b false), (347, An.b false), (350, An.call (tb r350)), (353, An.b true)] [((!r315c) = false), ((!r320b) = false), ((!r325b) = false), ((!r330b) = false), (0 + 2 ≤ 2), (0 + 2 ≤ 2), (C Tryz.prog 9 [T.agg [tl r315, ti r315b], T.agg [tl r98b, ti r98c]] (tb r350)), ((!r350) = true)] [(363, vb true), (7, vb r71c), (6, V.ref 2006 0), (3, V.ref 2003 0), (2, vb false)] [(2003, oc 26 [tl r63, ti r63b]), (2006, oc 26 [tl r71, ti r71b])] ⟨h28, h29, h30, h31, by decide, by decide, (F_laws_rState_W r315 r315b r98b r98c r350 c19), h32, trivial⟩ ?_
                     exact ⟨(true), h, rfl⟩
                    ·rcases ite_some h with ⟨h33, h⟩ | ⟨h33, h⟩
                     ·refine WP.qk tm [(335, An.b false), (339, An.b false), (343, An.b false), (347, An.b false), (350, An.call (tb r350)), (353, An.b false), (357, An.b true)] [((!r315c) = false), ((!r320b) = false), ((!r325b) = false), ((!r330b) = false), (0 + 2 ≤ 2), (0 + 2 ≤ 2), (C Tryz.prog 9 [T.agg [tl r315, ti r315b], T.agg [tl r98b, ti r98c]] (tb r350)), ((!r350) = false), (True), ((decide ((ln r92c) < r325)) = true), (True)] [(363, vb (decide ((ln r330) < (2 : Int)))), (7, vb r71c), (6, V.ref 2006 0), (3, V.ref 2003 0), (2, vb false)] [(2003, oc 26 [tl r63, ti r63b]), (2006, oc 26 [tl r71, ti r71b])] ⟨h28, h29, h30, h31, by decide, by decide, (F_laws_rState_W r315 r315b r98b r98c r350 c19), h32, trivial, h33, trivial, trivial⟩ ?_
                      exact ⟨(decide ((ln r330) < (2 : Int))), h, rfl⟩
                     ·refine WP.qk tm [(335, An.b false), (339, An.b false), (343, An.b false), (347, An.b false), (350, An.call (tb r350)), (353, An.b false), (357, An.b false)] [((!r315c) = false), ((!r320b) = false), ((!r325b) = false), ((!r330b) = false), (0 + 2 ≤ 2), (0 + 2 ≤ 2), (C Tryz.prog 9 [T.agg [tl r315, ti r315b], T.agg [tl r98b, ti r98c]] (tb r350)), ((!r350) = false), (True), ((decide ((ln r92c) < r325)) = false)] [(363, vb false), (7, vb r71c), (6, V.ref 2006 0), (3, V.ref 2003 0), (2, vb false)] [(2003, oc 26 [tl r63, ti r63b]), (2006, oc 26 [tl r71, ti r71b])] ⟨h28, h29, h30, h31, by decide, by decide, (F_laws_rState_W r315 r315b r98b r98c r350 c19), h32, trivial, h33, trivial⟩ ?_
                      exact ⟨(false), h, rfl⟩
               ·intro v363 h0
                have h := (show J2 v363 = some y0 from h0)
                rw [hJ2] at h
                rcases ite_some h with ⟨h34, h⟩ | ⟨h34, h⟩
                ·refine WP.yes h34 rfl ?_
                 have h := Option.some.inj h
                 subst h
                 exact WP.pathW tab_ok mixed [] _ (ps := []) (r := tb false) (by as_aux_lemma => kernel_rfl) trivial (WkT.eq (y := tb false) (WkT.refl _) rfl) (fun _ h => h)
                ·refine WP.no h34 rfl ?_
                 refine WP.qk tm [] [] [(7, vb r71c), (6, V.ref 2006 0), (3, V.ref 2003 0), (2, vb false)] [(2003, oc 26 [tl r63, ti r63b]), (2006, oc 26 [tl r71, ti r71b])] trivial ?_
                 exact ⟨(), h, rfl⟩
              ·refine WP.no h27 rfl ?_
               refine WP.qk tm [] [] [(7, vb r71c), (6, V.ref 2006 0), (3, V.ref 2003 0), (2, vb false)] [(2003, oc 26 [tl r63, ti r63b]), (2006, oc 26 [tl r71, ti r71b])] trivial ?_
               exact ⟨(), h, rfl⟩
             ·intro _ h0
              have h := (show J1 () = some y0 from h0)
              rw [hJ1] at h
              rcases ite_some h with ⟨h35, h⟩ | ⟨h35, h⟩
              ·have h := Option.some.inj h
               subst h
               exact WP.pathW tab_ok mixed [(366, An.b true)] _ (ps := [((!r71c) = true)]) (r := tb true) (by as_aux_lemma => kernel_rfl) ⟨h35, trivial⟩ (WkT.eq (y := tb true) (WkT.refl _) rfl) (fun _ h => h)
              ·have h := Option.some.inj h
               subst h
               exact WP.pathW tab_ok mixed [(366, An.b false)] _ (ps := [((!r71c) = false), (True), (True), (True)]) (r := tb ((ln r71) == (ln r63))) (by as_aux_lemma => kernel_rfl) ⟨h35, trivial, trivial, trivial, trivial⟩ (WkT.eq (y := tb ((ln r71) == (ln r63))) (WkT.refl _) rfl) (fun _ h => h)

end Go.Proofs.YtopodonemnnjdaaGreat.AuAn
