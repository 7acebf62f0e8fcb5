/-
  The walks: each function of the program returns what the plain function beside it returns. No statement is proved here.
-/
import Derived.Test.YtopodonemnnjdaaGreatTlGroupc
import Derived.Test.YtopodonemnnjdaaGreatTlGroupd

import Derived.Test.YtopodonemnnjdaaGreatAuAnF
import Derived.Test.YtopodonemnnjdaaGreatProg
import Derived.Test.YtopodonemnnjdaaGreatAuAnO
namespace Go.Proofs.YtopodonemnnjdaaGreat.AuAna
open Go Go.Tl Go.Proofs
open Go.Proofs.YtopodonemnnjdaaGreat.AuAnO hiding tab tab_ok mixed tm
set_option linter.unusedVariables false
set_option linter.unusedSimpArgs false
set_option maxRecDepth 100000
set_option maxHeartbeats 4000000
def tab : Tab := [(3, ⟨.int .i64, 1, 8, [.int .i64 0]⟩), (4, ⟨.bool, 1, 1, [.bool false]⟩), (5, ⟨.int .u8, 1, 1, [.int .u8 0]⟩), (22, ⟨.slice 5 1 1, 1, 24, [.nils]⟩), (24, ⟨.slice 3 1 8, 1, 24, [.nils]⟩), (26, ⟨.struct [(0, 1, false), (1, 1, false)], 2, 32, [.nils, .int .i64 0]⟩), (27, ⟨.slice 4 1 1, 1, 24, [.nils]⟩), (62, ⟨.pointer 65, 1, 8, [.nilp]⟩), (63, ⟨.int .u64, 1, 8, [.int .u64 0]⟩), (65, ⟨.struct [(0, 1, false), (1, 1, false), (2, 1, false)], 3, 40, [.nils, .int .i64 0, .int .u64 0]⟩), (76, ⟨.func, 1, 8, [.nilf]⟩), (77, ⟨.map 118 3, 1, 8, [.nilm]⟩), (79, ⟨.struct [(0, 1, false), (1, 1, false)], 2, 16, [.nilf, .nilm]⟩), (84, ⟨.struct [(0, 1, false), (1, 1, false)], 2, 16, [.int .i64 0, .bool false]⟩), (95, ⟨.func, 1, 8, [.nilf]⟩), (105, ⟨.array 2 26 2 true, 4, 64, [.nils, .int .i64 0, .nils, .int .i64 0]⟩), (118, ⟨.array 3 3 1 false, 3, 24, [.int .i64 0, .int .i64 0, .int .i64 0]⟩), (122, ⟨.slice 118 3 24, 1, 24, [.nils]⟩), (124, ⟨.slice 24 1 24, 1, 24, [.nils]⟩), (129, ⟨.func, 1, 8, [.nilf]⟩)]
theorem tab_ok : chkTab Tryz.prog tab = true := by kernel_rfl
theorem mixed : Tryz.prog.follows .mixedOrders = true := by kernel_rfl
abbrev tm := And.intro tab_ok mixed
theorem F_p_spec_l1Cur_next_W (x0 : List Int) (x1 : Int) (x2 : Int) (y0 : Int) (y1 : List Int) (y2 : Int) (y3 : Int) (h : F_p_spec_l1Cur_next x0 x1 x2 = some (y0, y1, y2, y3)) : CG Tryz.prog 124 [V.ref 500 0] [(500, oc 65 [ty x0, ti x1, T.int .u64 x2])] (vi y0) [(500, oc 65 [ty y1, ti y2, T.int .u64 y3])] := by
 unfold F_p_spec_l1Cur_next at h
 refine CG.intro (tab := tab) tab_ok (fn := Tryz.f124) Tryz.func124 (by kernel_rfl) rfl (Nat.le_of_ble_eq_true rfl) (by kernel_rfl) ?_
 refine WP.sk tm [] [] [(2, vi 0), (0, V.ref 500 0)] [(500, oc 65 [ty x0, ti x1, T.int .u64 x2])] trivial ?_
 refine WP.sk tm [] [] [(3, vi 0), (2, vi 0), (0, V.ref 500 0)] [(500, oc 65 [ty x0, ti x1, T.int .u64 x2])] trivial ?_
 obtain ⟨J1, hJ1, h⟩ := jn_some h
 refine WP.joinA (fun (zz : Int) => ⟨[500], [(3, vi zz), (2, vi 0), (0, V.ref 500 0)], [(500, oc 65 [ty x0, ti x1, T.int .u64 x2])]⟩) (fun zz => J1 zz = some (y0, y1, y2, y3)) ?_ ?_
 ·refine WP.sk tm [] [(True), (True), (True)] [(13, vb (decide (x1 < (ln x0)))), (3, vi 0), (2, vi 0), (0, V.ref 500 0)] [(500, oc 65 [ty x0, ti x1, T.int .u64 x2])] ⟨trivial, trivial, trivial, trivial⟩ ?_
  rcases ite_some h with ⟨h1, h⟩ | ⟨h1, h⟩
  ·refine WP.yes h1 rfl ?_
   obtain ⟨c0, h⟩ := chk_some h
   obtain ⟨c1, h⟩ := chk_some h
   refine WP.qk tm [(23, An.v (T.int .u8 (gt x0 x1 0))), (24, An.v (ti (gt x0 x1 0)))] [(True), (True), ((0 ≤ x1 ∧ x1 < (ln x0))), ((List.drop ((Int.toNat x1) * 1) (List.map (T.int .u8) x0) : List T)[0]? = some (T.int .u8 (gt x0 x1 0))), (T.int .u8 (gt x0 x1 0) = T.int .u8 (gt x0 x1 0)), (wr (gt x0 x1 0))] [(3, vi (gt x0 x1 0)), (2, vi 0), (0, V.ref 500 0)] [(500, oc 65 [ty x0, ti x1, T.int .u64 x2])] ⟨trivial, trivial, c0, at1 (by simp) (by omega), rfl, wrapI c1, trivial⟩ ?_
   exact ⟨((gt x0 x1 0)), h, rfl⟩
  ·refine WP.no h1 rfl ?_
   refine WP.qk tm [] [] [(3, vi 0), (2, vi 0), (0, V.ref 500 0)] [(500, oc 65 [ty x0, ti x1, T.int .u64 x2])] trivial ?_
   exact ⟨((0 : Int)), h, (by first | rfl | (simp only [tlS, tl, vl, vo, oc, ov, tbl, vbl, ty, vy] <;> rfl) | (simp <;> omega) | (simp []; done) | (rw [List.take_of_length_le (by simp [])] <;> rfl) | (simp [List.take_of_length_le]; done))⟩
 ·intro v3 h0
  have h := (show J1 v3 = some (y0, y1, y2, y3) from h0)
  rw [hJ1] at h
  refine WP.seq ?_
  obtain ⟨c0, h⟩ := chk_some h
  refine WP.pk tm [(29, An.v (ti (x1 + 1)))] [(True), (True), (wr (x1 + 1)), (1 < 3)] [(3, vi v3), (2, vi 0), (0, V.ref 500 0)] [(500, oc 65 [ty x0, ti (x1 + 1), T.int .u64 x2])] ⟨trivial, trivial, wrapI c0, by decide, trivial⟩ ?_
  refine WP.seq ?_
  obtain ⟨n37, c1, h⟩ := nam_some h
  obtain ⟨n40, c2, h⟩ := nam_some h
  refine WP.pk tm [(37, An.v (T.int .u64 n37)), (40, An.v (T.int .u64 n40))] [(True), (True), (T.int .u64 (IntKind.wrap .u64 (x2 * 6364136223846793005)) = T.int .u64 n37), (True), (T.int .u64 (IntKind.wrap .u64 (n37 + (IntKind.wrap .u64 v3))) = T.int .u64 n40), (True), (2 < 3)] [(3, vi v3), (2, vi 0), (0, V.ref 500 0)] [(500, oc 65 [ty x0, ti (x1 + 1), T.int .u64 (IntKind.wrap .u64 (n40 + 462197))])] ⟨trivial, trivial, congrArg (T.int .u64) c1, trivial, congrArg (T.int .u64) c2, trivial, by decide, trivial⟩ ?_
  refine WP.seq ?_
  refine WP.sk tm [] [(True), (True), (True)] [(53, vb (decide ((x1 + 1) ≤ (ln x0)))), (3, vi v3), (2, vi 0), (0, V.ref 500 0)] [(500, oc 65 [ty x0, ti (x1 + 1), T.int .u64 (IntKind.wrap .u64 (n40 + 462197))])] ⟨trivial, trivial, trivial, trivial⟩ ?_
  rcases ite_some h with ⟨h2, h⟩ | ⟨h2, h⟩
  ·refine WP.yes h2 rfl ?_
   simp only [Option.some.injEq, Prod.mk.injEq] at h
   obtain ⟨rfl, rfl, rfl, rfl⟩ := h
   exact WP.pathG tab_ok mixed [] [.keep [2], .keepO [500], .names [(500, 500)]] [500] _ (r' := vi v3) (ps := []) (r := vi v3) (N := [500]) (O := [(500, oc 65 [ty x0, ti (x1 + 1), T.int .u64 (IntKind.wrap .u64 (n40 + 462197))])]) [] (by kernel_rfl) trivial ⟨(WkT.refl _), trivial⟩ rfl rfl (fun _ h => h)
  ·refine WP.no h2 rfl ?_
   refine WP.pk tm [] [] [(2, vi 0), (0, V.ref 500 0)] [(500, oc 65 [ty x0, ti (x1 + 1), T.int .u64 (IntKind.wrap .u64 (n40 + 462197))])] trivial ?_
   obtain ⟨n60, c3, h⟩ := nam_some h
   obtain ⟨c4, h⟩ := chk_some h
   simp only [Option.some.injEq, Prod.mk.injEq] at h
   obtain ⟨rfl, rfl, rfl, rfl⟩ := h
   exact WP.pathG tab_ok mixed [(59, An.v (T.int .u64 ((IntKind.wrap .u64 (n40 + 462197)) / 2 ^ Int.toNat (40 : Int)))), (60, An.v (T.int .u64 n60)), (61, An.v (ti n60))] [.keep [2], .keepO [500], .names [(500, 500)]] [500] _ (r' := vi n60) (ps := [(True), (0 ≤ (40 : Int)), (T.int .u64 (Int.fdiv (IntKind.wrap .u64 (n40 + 462197)) (2 ^ (min (Int.toNat (40 : Int)) 64))) = T.int .u64 ((IntKind.wrap .u64 (n40 + 462197)) / 2 ^ Int.toNat (40 : Int))), (True), (T.int .u64 (bits .and .u64 ((IntKind.wrap .u64 (n40 + 462197)) / 2 ^ Int.toNat (40 : Int)) (255 : Int)) = T.int .u64 n60), (wr n60)]) (r := vi n60) (N := [500]) (O := [(500, oc 65 [ty x0, ti (x1 + 1), T.int .u64 (IntKind.wrap .u64 (n40 + 462197))])]) [] (by kernel_rfl) ⟨trivial, (show (0 ≤ (40 : Int) ∧ (40 : Int) < 64) by first | decide | (simp only [maxLen]; omega) | (unfold I64; omega) | (unfold I64; decide)).1, shr_told (show (0 ≤ (40 : Int) ∧ (40 : Int) < 64) by first | decide | (simp only [maxLen]; omega) | (unfold I64; omega) | (unfold I64; decide)), trivial, congrArg (T.int .u64) c3, wrapI c4, trivial⟩ ⟨(WkT.refl _), trivial⟩ rfl rfl (fun _ h => h)
theorem F_p_spec_l1Cur_pick_W (x0 : List Int) (x1 : Int) (x2 : Int) (x3 : Int) (y0 : Int) (y1 : List Int) (y2 : Int) (y3 : Int) (h : F_p_spec_l1Cur_pick x0 x1 x2 x3 = some (y0, y1, y2, y3)) : CG Tryz.prog 70 [V.ref 500 0, vi x3] [(500, oc 65 [ty x0, ti x1, T.int .u64 x2])] (vi y0) [(500, oc 65 [ty y1, ti y2, T.int .u64 y3])] := by
 unfold F_p_spec_l1Cur_pick at h
 refine CG.intro (tab := tab) tab_ok (fn := Tryz.f70) Tryz.func70 (by kernel_rfl) rfl (Nat.le_of_ble_eq_true rfl) (by kernel_rfl) ?_
 refine WP.sk tm [] [] [(4, vi 0), (0, V.ref 500 0), (1, vi x3)] [(500, oc 65 [ty x0, ti x1, T.int .u64 x2])] trivial ?_
 refine WP.seq ?_
 refine WP.sk tm [] [(True)] [(7, vb (decide (x3 ≤ (1 : Int)))), (4, vi 0), (0, V.ref 500 0), (1, vi x3)] [(500, oc 65 [ty x0, ti x1, T.int .u64 x2])] ⟨trivial, trivial⟩ ?_
 rcases ite_some h with ⟨h1, h⟩ | ⟨h1, h⟩
 ·refine WP.yes h1 rfl ?_
  simp only [Option.some.injEq, Prod.mk.injEq] at h
  obtain ⟨rfl, rfl, rfl, rfl⟩ := h
  exact WP.pathG tab_ok mixed [] [.keep [4], .keepO [500], .names [(500, 500)]] [500] _ (r' := vi (0 : Int)) (ps := []) (r := vi 0) (N := [500]) (O := [(500, oc 65 [ty x0, ti x1, T.int .u64 x2])]) [] (by kernel_rfl) trivial ⟨(WkT.eq (WkT.refl _) (by first | rfl | (simp only [tlS, tl, vl, vo, oc, ov, tbl, vbl, ty, vy] <;> rfl) | (simp <;> omega) | (simp []; done) | (rw [List.take_of_length_le (by simp [])] <;> rfl) | (simp [List.take_of_length_le]; done))), trivial⟩ rfl rfl (fun _ h => h)
 ·refine WP.no h1 rfl ?_
  refine WP.pk tm [] [] [(4, vi 0), (0, V.ref 500 0), (1, vi x3)] [(500, oc 65 [ty x0, ti x1, T.int .u64 x2])] trivial ?_
  refine WP.seq ?_
  obtain ⟨r9, r9b, r9c, r9d, c0, h⟩ := bnd4_some h
  refine WP.pk tm [(9, An.callG [(500, 500)] [V.ref 500 0] [(500, oc 65 [ty x0, ti x1, T.int .u64 x2])] (vi r9) [(500, oc 65 [ty r9b, ti r9c, T.int .u64 r9d])])] [(CG Tryz.prog 124 [V.ref 500 0] [(500, oc 65 [ty x0, ti x1, T.int .u64 x2])] (vi r9) [(500, oc 65 [ty r9b, ti r9c, T.int .u64 r9d])]), ((V.ref 500 0).ren (renF [(500, 500)]) = V.ref 500 0), ((oc 65 [ty x0, ti x1, T.int .u64 x2]) = (oc 65 [ty x0, ti x1, T.int .u64 x2]).ren (renF [(500, 500)]))] [(5, vi r9), (4, vi 0), (0, V.ref 500 0), (1, vi x3)] [(500, oc 65 [ty r9b, ti r9c, T.int .u64 r9d])] ⟨(F_p_spec_l1Cur_next_W x0 x1 x2 r9 r9b r9c r9d c0), by first | rfl | (simp [V.ren, V.renL, renF, lk]; done) | (simp [V.ren, V.renL, renF, lk]; omega), rfl, trivial⟩ ?_
  obtain ⟨J1, hJ1, h⟩ := jn_some h
  refine WP.joinA (fun (zz : (List Int) × Int × Int × Int) => ⟨[500], [(5, vi zz.2.2.2), (4, vi 0), (1, vi x3)], [(500, oc 65 [ty zz.1, ti zz.2.1, T.int .u64 zz.2.2.1])]⟩) (fun zz => J1 zz.1 zz.2.1 zz.2.2.1 zz.2.2.2 = some (y0, y1, y2, y3)) ?_ ?_
  ·refine WP.sk tm [] [(True)] [(11, vb (decide (x3 > (200 : Int)))), (5, vi r9), (4, vi 0), (0, V.ref 500 0), (1, vi x3)] [(500, oc 65 [ty r9b, ti r9c, T.int .u64 r9d])] ⟨trivial, trivial⟩ ?_
   rcases ite_some h with ⟨h2, h⟩ | ⟨h2, h⟩
   ·refine WP.yes h2 rfl ?_
    obtain ⟨c1, h⟩ := chk_some h
    obtain ⟨r15, r15b, r15c, r15d, c2, h⟩ := bnd4_some h
    obtain ⟨c3, h⟩ := chk_some h
    refine WP.qk tm [(13, An.v (ti (r9 * 256))), (15, An.callG [(500, 500)] [V.ref 500 0] [(500, oc 65 [ty r9b, ti r9c, T.int .u64 r9d])] (vi r15) [(500, oc 65 [ty r15b, ti r15c, T.int .u64 r15d])]), (16, An.v (ti ((r9 * 256) + r15)))] [(True), (wr (r9 * 256)), (CG Tryz.prog 124 [V.ref 500 0] [(500, oc 65 [ty r9b, ti r9c, T.int .u64 r9d])] (vi r15) [(500, oc 65 [ty r15b, ti r15c, T.int .u64 r15d])]), ((V.ref 500 0).ren (renF [(500, 500)]) = V.ref 500 0), ((oc 65 [ty r9b, ti r9c, T.int .u64 r9d]) = (oc 65 [ty r9b, ti r9c, T.int .u64 r9d]).ren (renF [(500, 500)])), (True), (wr ((r9 * 256) + r15))] [(5, vi ((r9 * 256) + r15)), (4, vi 0), (1, vi x3)] [(500, oc 65 [ty r15b, ti r15c, T.int .u64 r15d])] ⟨trivial, wrapI c1, (F_p_spec_l1Cur_next_W r9b r9c r9d r15 r15b r15c r15d c2), by first | rfl | (simp [V.ren, V.renL, renF, lk]; done) | (simp [V.ren, V.renL, renF, lk]; omega), rfl, trivial, wrapI c3, trivial⟩ ?_
    exact ⟨(r15b, r15c, r15d, ((r9 * 256) + r15)), h, rfl⟩
   ·refine WP.no h2 rfl ?_
    refine WP.qk tm [] [] [(5, vi r9), (4, vi 0), (1, vi x3)] [(500, oc 65 [ty r9b, ti r9c, T.int .u64 r9d])] trivial ?_
    exact ⟨(r9b, r9c, r9d, r9), h, rfl⟩
  ·rintro ⟨o500, o500b, o500c, v5⟩ h0
   have h := (show J1 o500 o500b o500c v5 = some (y0, y1, y2, y3) from h0)
   rw [hJ1] at h
   obtain ⟨c1, h⟩ := chk_some h
   simp only [Option.some.injEq, Prod.mk.injEq] at h
   obtain ⟨rfl, rfl, rfl, rfl⟩ := h
   exact WP.pathG tab_ok mixed [] [.keep [4], .keepO [500], .names [(500, 500)]] [500] _ (r' := vi (Int.tmod v5 x3)) (ps := [(x3 ≠ 0)]) (r := vi (Int.tmod v5 x3)) (N := [500]) (O := [(500, oc 65 [ty o500, ti o500b, T.int .u64 o500c])]) [] (by kernel_rfl) ⟨c1, trivial⟩ ⟨(WkT.refl _), trivial⟩ rfl rfl (fun _ h => h)
theorem F_p_spec_l1Cur_one_W (x0 : List Int) (x1 : Int) (x2 : Int) (x3 : Int) (y0 : Bool) (y1 : List Int) (y2 : Int) (y3 : Int) (h : F_p_spec_l1Cur_one x0 x1 x2 x3 = some (y0, y1, y2, y3)) : CG Tryz.prog 47 [V.ref 500 0, vi x3] [(500, oc 65 [ty x0, ti x1, T.int .u64 x2])] (vb y0) [(500, oc 65 [ty y1, ti y2, T.int .u64 y3])] := by
 unfold F_p_spec_l1Cur_one at h
 refine CG.intro (tab := tab) tab_ok (fn := Tryz.f47) Tryz.func47 (by kernel_rfl) rfl (Nat.le_of_ble_eq_true rfl) (by kernel_rfl) ?_
 obtain ⟨r7, r7b, r7c, r7d, c0, h⟩ := bnd4_some h
 simp only [Option.some.injEq, Prod.mk.injEq] at h
 obtain ⟨rfl, rfl, rfl, rfl⟩ := h
 exact WP.pathG tab_ok mixed [(7, An.callG [(500, 500)] [V.ref 500 0, vi x3] [(500, oc 65 [ty x0, ti x1, T.int .u64 x2])] (vi r7) [(500, oc 65 [ty r7b, ti r7c, T.int .u64 r7d])])] [.keep [4], .keepO [500], .names [(500, 500)]] [500] _ (r' := vb (r7 == (0 : Int))) (ps := [(CG Tryz.prog 70 [V.ref 500 0, vi x3] [(500, oc 65 [ty x0, ti x1, T.int .u64 x2])] (vi r7) [(500, oc 65 [ty r7b, ti r7c, T.int .u64 r7d])]), ((V.ref 500 0).ren (renF [(500, 500)]) = V.ref 500 0), (WkT (ti x3) (ti x3)), ((oc 65 [ty x0, ti x1, T.int .u64 x2]) = (oc 65 [ty x0, ti x1, T.int .u64 x2]).ren (renF [(500, 500)])), (True)]) (r := vb (r7 == (0 : Int))) (N := [500]) (O := [(500, oc 65 [ty r7b, ti r7c, T.int .u64 r7d])]) [] (by kernel_rfl) ⟨(F_p_spec_l1Cur_pick_W x0 x1 x2 x3 r7 r7b r7c r7d c0), by first | rfl | (simp [V.ren, V.renL, renF, lk]; done) | (simp [V.ren, V.renL, renF, lk]; omega), WkT.refl _, rfl, trivial, trivial⟩ ⟨(WkT.refl _), trivial⟩ rfl rfl (fun _ h => h)
theorem F_p_spec_l1Cur_among_W (x0 : List Int) (x1 : Int) (x2 : Int) (x3 : List Int) (y0 : Int) (y1 : List Int) (y2 : Int) (y3 : Int) (h : F_p_spec_l1Cur_among x0 x1 x2 x3 = some (y0, y1, y2, y3)) : CG Tryz.prog 98 [V.ref 500 0, vl x3] [(500, oc 65 [ty x0, ti x1, T.int .u64 x2])] (vi y0) [(500, oc 65 [ty y1, ti y2, T.int .u64 y3])] := by
 unfold F_p_spec_l1Cur_among at h
 refine CG.intro (tab := tab) tab_ok (fn := Tryz.f98) Tryz.func98 (by kernel_rfl) rfl (Nat.le_of_ble_eq_true rfl) (by kernel_rfl) ?_
 obtain ⟨r9, r9b, r9c, r9d, c0, h⟩ := bnd4_some h
 obtain ⟨c1, h⟩ := chk_some h
 simp only [Option.some.injEq, Prod.mk.injEq] at h
 obtain ⟨rfl, rfl, rfl, rfl⟩ := h
 exact WP.pathG tab_ok mixed [(9, An.callG [(500, 500)] [V.ref 500 0, vi (ln x3)] [(500, oc 65 [ty x0, ti x1, T.int .u64 x2])] (vi r9) [(500, oc 65 [ty r9b, ti r9c, T.int .u64 r9d])]), (11, An.v (ti (gt x3 r9 0)))] [.keep [4], .keepO [500], .names [(500, 500)]] [500] _ (r' := vi (gt x3 r9 0)) (ps := [(CG Tryz.prog 70 [V.ref 500 0, vi (ln x3)] [(500, oc 65 [ty x0, ti x1, T.int .u64 x2])] (vi r9) [(500, oc 65 [ty r9b, ti r9c, T.int .u64 r9d])]), ((V.ref 500 0).ren (renF [(500, 500)]) = V.ref 500 0), (WkT (ti (ln x3)) (ti (ln x3))), ((oc 65 [ty x0, ti x1, T.int .u64 x2]) = (oc 65 [ty x0, ti x1, T.int .u64 x2]).ren (renF [(500, 500)])), ((0 ≤ r9 ∧ r9 < (ln x3))), ((List.drop ((Int.toNat r9) * 1) (List.map (ti) x3) : List T)[0]? = some (ti (gt x3 r9 0))), (ti (gt x3 r9 0) = ti (gt x3 r9 0))]) (r := vi (gt x3 r9 0)) (N := [500]) (O := [(500, oc 65 [ty r9b, ti r9c, T.int .u64 r9d])]) [] (by kernel_rfl) ⟨(F_p_spec_l1Cur_pick_W x0 x1 x2 (ln x3) r9 r9b r9c r9d c0), by first | rfl | (simp [V.ren, V.renL, renF, lk]; done) | (simp [V.ren, V.renL, renF, lk]; omega), WkT.refl _, rfl, c1, at1 (by simp) (by omega), rfl, trivial⟩ ⟨(WkT.refl _), trivial⟩ rfl rfl (fun _ h => h)
theorem F_spec_l2Start_W (x0 : Int) (x1 : Int) (y0 : List Int) (y1 : Int) (h : F_spec_l2Start x0 x1 = some (y0, y1)) : CG Tryz.prog 102 [vi x0, vi x1] [] (V.agg [vo 9000 (List.length y0), vi y1]) [(9000, oc 3 (List.map (ti) y0))] := by
 unfold F_spec_l2Start at h
 refine CG.intro (tab := tab) tab_ok (fn := Tryz.f102) Tryz.func102 (by kernel_rfl) rfl (Nat.le_of_ble_eq_true rfl) (by kernel_rfl) ?_
 obtain ⟨c0, h⟩ := chk_some h
 simp only [Option.some.injEq, Prod.mk.injEq] at h
 obtain ⟨rfl, rfl⟩ := h
 exact WP.pathG tab_ok mixed [(4, An.id 2004), (6, An.id 2006)] [.keep [4], .keepO [2006, 2004], .names [(2006, 9000), (2004, 2004)]] [9000] _ (r' := V.agg [vo 9000 (List.length (List.replicate (Int.toNat x0) (0 : Int))), vi x1]) (ps := [((0 ≤ x0 ∧ x0 ≤ x0 ∧ (8 : Int) * x0 ≤ 281474976710656 ∧ x0 ≤ (maxLen : Int))), ((1 = 1 ∧ 0 + 1 ≤ 2) ∧ (1 = 1 ∧ 1 + 1 ≤ 2) ∧ True), ((0 + 2 ≤ 2 ∧ 2 = 2)), (0 + 2 ≤ 2)]) (r := V.agg [vo 9000 (Int.toNat x0), vi x1]) (N := [9000, 2004]) (O := [(9000, oc 3 (List.replicate (Int.toNat x0) (ti 0)))]) [] (by kernel_rfl) ⟨c0, ⟨⟨by decide, by decide⟩, ⟨by decide, by decide⟩, trivial⟩, by decide, by decide, trivial⟩ ⟨(congrArg (V.own 9000 1) (by first | rfl | (simp only [tlS, tl, vl, vo, oc, ov, tbl, vbl, ty, vy] <;> rfl) | (simp <;> omega) | (simp []; done) | (rw [List.take_of_length_le (by simp [])] <;> rfl) | (simp [List.take_of_length_le]; done))), (WkT.refl _), trivial⟩ rfl (by first | rfl | (simp only [tlS, tl, vl, vo, oc, ov, tbl, vbl, ty, vy] <;> rfl) | (simp <;> omega) | (simp []; done) | (rw [List.take_of_length_le (by simp [])] <;> rfl) | (simp [List.take_of_length_le]; done)) (fun _ h => h)
theorem F_spec_l2Start_W_C (x0 : Int) (x1 : Int) (y0 : List Int) (y1 : Int) (h : F_spec_l2Start x0 x1 = some (y0, y1)) : C Tryz.prog 102 [ti x0, ti x1] (T.agg [tl y0, ti y1]) :=
 CG.toC (ps := [(List.length (List.map (ti) y0) = (List.length y0) * 1)]) (F_spec_l2Start_W  x0 x1 y0 y1 h) (by rfl) ⟨by first | rfl | omega | (simp <;> omega) | (simp [hl] <;> omega), trivial⟩
theorem F_p_spec_l1Cur_many_W (x0 : List Int) (x1 : Int) (x2 : Int) (y0 : Int) (y1 : List Int) (y2 : Int) (y3 : Int) (h : F_p_spec_l1Cur_many x0 x1 x2 = some (y0, y1, y2, y3)) : CG Tryz.prog 97 [V.ref 500 0] [(500, oc 65 [ty x0, ti x1, T.int .u64 x2])] (vi y0) [(500, oc 65 [ty y1, ti y2, T.int .u64 y3])] := by
 unfold F_p_spec_l1Cur_many at h
 refine CG.intro (tab := tab) tab_ok (fn := Tryz.f97) Tryz.func97 (by kernel_rfl) rfl (Nat.le_of_ble_eq_true rfl) (by kernel_rfl) ?_
 obtain ⟨r5, r5b, r5c, r5d, c0, h⟩ := bnd4_some h
 simp only [Option.some.injEq, Prod.mk.injEq] at h
 obtain ⟨rfl, rfl, rfl, rfl⟩ := h
 exact WP.pathG tab_ok mixed [(4, An.fz), (5, An.callG [(500, 500)] [V.ref 500 0, vl [(4 : Int), (6 : Int), (8 : Int), (3 : Int), (5 : Int), (2 : Int), (7 : Int), (12 : Int), (1 : Int), (0 : Int), (13 : Int), (4 : Int), (6 : Int), (8 : Int), (3 : Int), (5 : Int)]] [(500, oc 65 [ty x0, ti x1, T.int .u64 x2])] (vi r5) [(500, oc 65 [ty r5b, ti r5c, T.int .u64 r5d])])] [.keep [2], .keepO [500], .names [(500, 500)]] [500] _ (r' := vi r5) (ps := [((1 = 1 ∧ 0 + 1 ≤ 16) ∧ (1 = 1 ∧ 1 + 1 ≤ 16) ∧ (1 = 1 ∧ 2 + 1 ≤ 16) ∧ (1 = 1 ∧ 3 + 1 ≤ 16) ∧ (1 = 1 ∧ 4 + 1 ≤ 16) ∧ (1 = 1 ∧ 5 + 1 ≤ 16) ∧ (1 = 1 ∧ 6 + 1 ≤ 16) ∧ (1 = 1 ∧ 7 + 1 ≤ 16) ∧ (1 = 1 ∧ 8 + 1 ≤ 16) ∧ (1 = 1 ∧ 9 + 1 ≤ 16) ∧ (1 = 1 ∧ 10 + 1 ≤ 16) ∧ (1 = 1 ∧ 11 + 1 ≤ 16) ∧ (1 = 1 ∧ 12 + 1 ≤ 16) ∧ (1 = 1 ∧ 13 + 1 ≤ 16) ∧ (1 = 1 ∧ 14 + 1 ≤ 16) ∧ (1 = 1 ∧ 15 + 1 ≤ 16) ∧ True), (16 = 16 * 1), (CG Tryz.prog 98 [V.ref 500 0, vl [(4 : Int), (6 : Int), (8 : Int), (3 : Int), (5 : Int), (2 : Int), (7 : Int), (12 : Int), (1 : Int), (0 : Int), (13 : Int), (4 : Int), (6 : Int), (8 : Int), (3 : Int), (5 : Int)]] [(500, oc 65 [ty x0, ti x1, T.int .u64 x2])] (vi r5) [(500, oc 65 [ty r5b, ti r5c, T.int .u64 r5d])]), ((V.ref 500 0).ren (renF [(500, 500)]) = V.ref 500 0), (WkT (T.list 16 1 [ti 4, ti 6, ti 8, ti 3, ti 5, ti 2, ti 7, ti 12, ti 1, ti 0, ti 13, ti 4, ti 6, ti 8, ti 3, ti 5]) (tl [(4 : Int), (6 : Int), (8 : Int), (3 : Int), (5 : Int), (2 : Int), (7 : Int), (12 : Int), (1 : Int), (0 : Int), (13 : Int), (4 : Int), (6 : Int), (8 : Int), (3 : Int), (5 : Int)])), ((oc 65 [ty x0, ti x1, T.int .u64 x2]) = (oc 65 [ty x0, ti x1, T.int .u64 x2]).ren (renF [(500, 500)]))]) (r := vi r5) (N := [500]) (O := [(500, oc 65 [ty r5b, ti r5c, T.int .u64 r5d])]) [] (by kernel_rfl) ⟨⟨⟨by first | rfl | (simp; done) | (simp []; done) | omega, by first | decide | (simp; done) | (simp []; done) | omega | (simp only [tlL]; omega) | (simp; omega)⟩, ⟨by first | rfl | (simp; done) | (simp []; done) | omega, by first | decide | (simp; done) | (simp []; done) | omega | (simp only [tlL]; omega) | (simp; omega)⟩, ⟨by first | rfl | (simp; done) | (simp []; done) | omega, by first | decide | (simp; done) | (simp []; done) | omega | (simp only [tlL]; omega) | (simp; omega)⟩, ⟨by first | rfl | (simp; done) | (simp []; done) | omega, by first | decide | (simp; done) | (simp []; done) | omega | (simp only [tlL]; omega) | (simp; omega)⟩, ⟨by first | rfl | (simp; done) | (simp []; done) | omega, by first | decide | (simp; done) | (simp []; done) | omega | (simp only [tlL]; omega) | (simp; omega)⟩, ⟨by first | rfl | (simp; done) | (simp []; done) | omega, by first | decide | (simp; done) | (simp []; done) | omega | (simp only [tlL]; omega) | (simp; omega)⟩, ⟨by first | rfl | (simp; done) | (simp []; done) | omega, by first | decide | (simp; done) | (simp []; done) | omega | (simp only [tlL]; omega) | (simp; omega)⟩, ⟨by first | rfl | (simp; done) | (simp []; done) | omega, by first | decide | (simp; done) | (simp []; done) | omega | (simp only [tlL]; omega) | (simp; omega)⟩, ⟨by first | rfl | (simp; done) | (simp []; done) | omega, by first | decide | (simp; done) | (simp []; done) | omega | (simp only [tlL]; omega) | (simp; omega)⟩, ⟨by first | rfl | (simp; done) | (simp []; done) | omega, by first | decide | (simp; done) | (simp []; done) | omega | (simp only [tlL]; omega) | (simp; omega)⟩, ⟨by first | rfl | (simp; done) | (simp []; done) | omega, by first | decide | (simp; done) | (simp []; done) | omega | (simp only [tlL]; omega) | (simp; omega)⟩, ⟨by first | rfl | (simp; done) | (simp []; done) | omega, by first | decide | (simp; done) | (simp []; done) | omega | (simp only [tlL]; omega) | (simp; omega)⟩, ⟨by first | rfl | (simp; done) | (simp []; done) | omega, by first | decide | (simp; done) | (simp []; done) | omega | (simp only [tlL]; omega) | (simp; omega)⟩, ⟨by first | rfl | (simp; done) | (simp []; done) | omega, by first | decide | (simp; done) | (simp []; done) | omega | (simp only [tlL]; omega) | (simp; omega)⟩, ⟨by first | rfl | (simp; done) | (simp []; done) | omega, by first | decide | (simp; done) | (simp []; done) | omega | (simp only [tlL]; omega) | (simp; omega)⟩, ⟨by first | rfl | (simp; done) | (simp []; done) | omega, by first | decide | (simp; done) | (simp []; done) | omega | (simp only [tlL]; omega) | (simp; omega)⟩, trivial⟩, by decide, (F_p_spec_l1Cur_among_W x0 x1 x2 [(4 : Int), (6 : Int), (8 : Int), (3 : Int), (5 : Int), (2 : Int), (7 : Int), (12 : Int), (1 : Int), (0 : Int), (13 : Int), (4 : Int), (6 : Int), (8 : Int), (3 : Int), (5 : Int)] r5 r5b r5c r5d c0), by first | rfl | (simp [V.ren, V.renL, renF, lk]; done) | (simp [V.ren, V.renL, renF, lk]; omega), WkT.eq (WkT.refl _) (by first | rfl | (simp only [tlS, tl, vl, vo, oc, ov, tbl, vbl, ty, vy] <;> rfl) | (simp <;> omega) | (simp []; done) | (rw [List.take_of_length_le (by simp [])] <;> rfl) | (simp [List.take_of_length_le]; done)), rfl, trivial⟩ ⟨(WkT.refl _), trivial⟩ rfl rfl (fun _ h => h)
theorem F_p_spec_l1Cur_lies_W (x0 : List Int) (x1 : Int) (x2 : Int) (y0 : Int) (y1 : List Int) (y2 : Int) (y3 : Int) (h : F_p_spec_l1Cur_lies x0 x1 x2 = some (y0, y1, y2, y3)) : CG Tryz.prog 137 [V.ref 500 0] [(500, oc 65 [ty x0, ti x1, T.int .u64 x2])] (vi y0) [(500, oc 65 [ty y1, ti y2, T.int .u64 y3])] := by
 unfold F_p_spec_l1Cur_lies at h
 refine CG.intro (tab := tab) tab_ok (fn := Tryz.f137) Tryz.func137 (by kernel_rfl) rfl (Nat.le_of_ble_eq_true rfl) (by kernel_rfl) ?_
 obtain ⟨r5, r5b, r5c, r5d, c0, h⟩ := bnd4_some h
 simp only [Option.some.injEq, Prod.mk.injEq] at h
 obtain ⟨rfl, rfl, rfl, rfl⟩ := h
 exact WP.pathG tab_ok mixed [(4, An.fz), (5, An.callG [(500, 500)] [V.ref 500 0, vl [(1 : Int), (1 : Int), (2 : Int), (0 : Int), (1 : Int), (2 : Int), (1 : Int), (3 : Int), (-1 : Int), (1 : Int), (2 : Int), (0 : Int)]] [(500, oc 65 [ty x0, ti x1, T.int .u64 x2])] (vi r5) [(500, oc 65 [ty r5b, ti r5c, T.int .u64 r5d])])] [.keep [2], .keepO [500], .names [(500, 500)]] [500] _ (r' := vi r5) (ps := [((1 = 1 ∧ 0 + 1 ≤ 12) ∧ (1 = 1 ∧ 1 + 1 ≤ 12) ∧ (1 = 1 ∧ 2 + 1 ≤ 12) ∧ (1 = 1 ∧ 3 + 1 ≤ 12) ∧ (1 = 1 ∧ 4 + 1 ≤ 12) ∧ (1 = 1 ∧ 5 + 1 ≤ 12) ∧ (1 = 1 ∧ 6 + 1 ≤ 12) ∧ (1 = 1 ∧ 7 + 1 ≤ 12) ∧ (1 = 1 ∧ 8 + 1 ≤ 12) ∧ (1 = 1 ∧ 9 + 1 ≤ 12) ∧ (1 = 1 ∧ 10 + 1 ≤ 12) ∧ (1 = 1 ∧ 11 + 1 ≤ 12) ∧ True), (12 = 12 * 1), (CG Tryz.prog 98 [V.ref 500 0, vl [(1 : Int), (1 : Int), (2 : Int), (0 : Int), (1 : Int), (2 : Int), (1 : Int), (3 : Int), (-1 : Int), (1 : Int), (2 : Int), (0 : Int)]] [(500, oc 65 [ty x0, ti x1, T.int .u64 x2])] (vi r5) [(500, oc 65 [ty r5b, ti r5c, T.int .u64 r5d])]), ((V.ref 500 0).ren (renF [(500, 500)]) = V.ref 500 0), (WkT (T.list 12 1 [ti 1, ti 1, ti 2, ti 0, ti 1, ti 2, ti 1, ti 3, ti (-1), ti 1, ti 2, ti 0]) (tl [(1 : Int), (1 : Int), (2 : Int), (0 : Int), (1 : Int), (2 : Int), (1 : Int), (3 : Int), (-1 : Int), (1 : Int), (2 : Int), (0 : Int)])), ((oc 65 [ty x0, ti x1, T.int .u64 x2]) = (oc 65 [ty x0, ti x1, T.int .u64 x2]).ren (renF [(500, 500)]))]) (r := vi r5) (N := [500]) (O := [(500, oc 65 [ty r5b, ti r5c, T.int .u64 r5d])]) [] (by kernel_rfl) ⟨⟨⟨by first | rfl | (simp; done) | (simp []; done) | omega, by first | decide | (simp; done) | (simp []; done) | omega | (simp only [tlL]; omega) | (simp; omega)⟩, ⟨by first | rfl | (simp; done) | (simp []; done) | omega, by first | decide | (simp; done) | (simp []; done) | omega | (simp only [tlL]; omega) | (simp; omega)⟩, ⟨by first | rfl | (simp; done) | (simp []; done) | omega, by first | decide | (simp; done) | (simp []; done) | omega | (simp only [tlL]; omega) | (simp; omega)⟩, ⟨by first | rfl | (simp; done) | (simp []; done) | omega, by first | decide | (simp; done) | (simp []; done) | omega | (simp only [tlL]; omega) | (simp; omega)⟩, ⟨by first | rfl | (simp; done) | (simp []; done) | omega, by first | decide | (simp; done) | (simp []; done) | omega | (simp only [tlL]; omega) | (simp; omega)⟩, ⟨by first | rfl | (simp; done) | (simp []; done) | omega, by first | decide | (simp; done) | (simp []; done) | omega | (simp only [tlL]; omega) | (simp; omega)⟩, ⟨by first | rfl | (simp; done) | (simp []; done) | omega, by first | decide | (simp; done) | (simp []; done) | omega | (simp only [tlL]; omega) | (simp; omega)⟩, ⟨by first | rfl | (simp; done) | (simp []; done) | omega, by first | decide | (simp; done) | (simp []; done) | omega | (simp only [tlL]; omega) | (simp; omega)⟩, ⟨by first | rfl | (simp; done) | (simp []; done) | omega, by first | decide | (simp; done) | (simp []; done) | omega | (simp only [tlL]; omega) | (simp; omega)⟩, ⟨by first | rfl | (simp; done) | (simp []; done) | omega, by first | decide | (simp; done) | (simp []; done) | omega | (simp only [tlL]; omega) | (simp; omega)⟩, ⟨by first | rfl | (simp; done) | (simp []; done) | omega, by first | decide | (simp; done) | (simp []; done) | omega | (simp only [tlL]; omega) | (simp; omega)⟩, ⟨by first | rfl | (simp; done) | (simp []; done) | omega, by first | decide | (simp; done) | (simp []; done) | omega | (simp only [tlL]; omega) | (simp; omega)⟩, trivial⟩, by decide, (F_p_spec_l1Cur_among_W x0 x1 x2 [(1 : Int), (1 : Int), (2 : Int), (0 : Int), (1 : Int), (2 : Int), (1 : Int), (3 : Int), (-1 : Int), (1 : Int), (2 : Int), (0 : Int)] r5 r5b r5c r5d c0), by first | rfl | (simp [V.ren, V.renL, renF, lk]; done) | (simp [V.ren, V.renL, renF, lk]; omega), WkT.eq (WkT.refl _) (by first | rfl | (simp only [tlS, tl, vl, vo, oc, ov, tbl, vbl, ty, vy] <;> rfl) | (simp <;> omega) | (simp []; done) | (rw [List.take_of_length_le (by simp [])] <;> rfl) | (simp [List.take_of_length_le]; done)), rfl, trivial⟩ ⟨(WkT.refl _), trivial⟩ rfl rfl (fun _ h => h)
theorem F_p_spec_l1Cur_state_W (x0 : List Int) (x1 : Int) (x2 : Int) (y0 : List Int) (y1 : Int) (y2 : List Int) (y3 : Int) (y4 : Int) (h : F_p_spec_l1Cur_state x0 x1 x2 = some (y0, y1, y2, y3, y4)) : CG Tryz.prog 107 [V.ref 500 0] [(500, oc 65 [ty x0, ti x1, T.int .u64 x2])] (V.agg [vo 9000 (List.length y0), vi y1]) [(500, oc 65 [ty y2, ti y3, T.int .u64 y4]), (9000, oc 3 (List.map (ti) y0))] := by
 unfold F_p_spec_l1Cur_state at h
 refine CG.intro (tab := tab) tab_ok (fn := Tryz.f107) Tryz.func107 (by kernel_rfl) rfl (Nat.le_of_ble_eq_true rfl) (by kernel_rfl) ?_
 refine WP.sn tm [(2, An.id 2002)] [] [2002, 500] [(2, V.ref 2002 0), (0, V.ref 500 0)] [(500, oc 65 [ty x0, ti x1, T.int .u64 x2]), (2002, oc 26 [T.nils, ti 0])] trivial ?_
 refine WP.seq ?_
 obtain ⟨r9, r9b, r9c, r9d, c0, h⟩ := bnd4_some h
 obtain ⟨r11, r11b, r11c, r11d, c1, h⟩ := bnd4_some h
 refine WP.pn tm [(9, An.callG [(500, 500)] [V.ref 500 0] [(500, oc 65 [ty x0, ti x1, T.int .u64 x2])] (vi r9) [(500, oc 65 [ty r9b, ti r9c, T.int .u64 r9d])]), (11, An.callG [(500, 500)] [V.ref 500 0] [(500, oc 65 [ty r9b, ti r9c, T.int .u64 r9d])] (vi r11) [(500, oc 65 [ty r11b, ti r11c, T.int .u64 r11d])])] [(CG Tryz.prog 137 [V.ref 500 0] [(500, oc 65 [ty x0, ti x1, T.int .u64 x2])] (vi r9) [(500, oc 65 [ty r9b, ti r9c, T.int .u64 r9d])]), ((V.ref 500 0).ren (renF [(500, 500)]) = V.ref 500 0), ((oc 65 [ty x0, ti x1, T.int .u64 x2]) = (oc 65 [ty x0, ti x1, T.int .u64 x2]).ren (renF [(500, 500)])), (CG Tryz.prog 97 [V.ref 500 0] [(500, oc 65 [ty r9b, ti r9c, T.int .u64 r9d])] (vi r11) [(500, oc 65 [ty r11b, ti r11c, T.int .u64 r11d])]), ((V.ref 500 0).ren (renF [(500, 500)]) = V.ref 500 0), ((oc 65 [ty r9b, ti r9c, T.int .u64 r9d]) = (oc 65 [ty r9b, ti r9c, T.int .u64 r9d]).ren (renF [(500, 500)]))] [2002, 500] [(4, vi r11), (3, vi r9), (2, V.ref 2002 0), (0, V.ref 500 0)] [(500, oc 65 [ty r11b, ti r11c, T.int .u64 r11d]), (2002, oc 26 [T.nils, ti 0])] ⟨(F_p_spec_l1Cur_lies_W x0 x1 x2 r9 r9b r9c r9d c0), by first | rfl | (simp [V.ren, V.renL, renF, lk]; done) | (simp [V.ren, V.renL, renF, lk]; omega), rfl, (F_p_spec_l1Cur_many_W r9b r9c r9d r11 r11b r11c r11d c1), by first | rfl | (simp [V.ren, V.renL, renF, lk]; done) | (simp [V.ren, V.renL, renF, lk]; omega), rfl, trivial⟩ ?_
 refine WP.sn tm [(12, An.id 2012), (5, An.id 2005)] [(True), (0 = 0 * 1), ((1 = 1 ∧ 0 + 1 ≤ 2) ∧ (1 = 1 ∧ 1 + 1 ≤ 2) ∧ True), ((0 + 2 ≤ 2 ∧ 2 = 2))] [2005, 2012, 2002, 500] [(5, V.ref 2005 0), (4, vi r11), (3, vi r9), (2, V.ref 2002 0), (0, V.ref 500 0)] [(500, oc 65 [ty r11b, ti r11c, T.int .u64 r11d]), (2002, oc 26 [T.nils, ti 0]), (2005, ov 26 [vo 2012 0, vi r9]), (2012, oc 3 [])] ⟨trivial, by decide, ⟨⟨by decide, by decide⟩, ⟨by decide, by decide⟩, trivial⟩, by decide, trivial⟩ ?_
 obtain ⟨J1, hJ1, h⟩ := jn_some h
 refine WP.joinA (fun (zz : (List Int) × Int × Int × (List Int)) => ⟨[500, 2002, 2005, 2012], [(5, V.ref 2005 0), (4, vi r11), (3, vi r9), (2, V.ref 2002 0), (0, V.ref 500 0)], [(500, oc 65 [ty zz.1, ti zz.2.1, T.int .u64 zz.2.2.1]), (2002, oc 26 [T.nils, ti 0]), (2005, ov 26 [vo 2012 (List.length zz.2.2.2), vi r9]), (2012, oc 3 (List.map (ti) zz.2.2.2))]⟩) (fun zz => J1 zz.1 zz.2.1 zz.2.2.1 zz.2.2.2 = some (y0, y1, y2, y3, y4)) ?_ ?_
 ·refine WP.sn tm [] [] [2005, 2012, 2002, 500] [(6, vi 0), (5, V.ref 2005 0), (4, vi r11), (3, vi r9), (2, V.ref 2002 0), (0, V.ref 500 0)] [(500, oc 65 [ty r11b, ti r11c, T.int .u64 r11d]), (2002, oc 26 [T.nils, ti 0]), (2005, ov 26 [vo 2012 0, vi r9]), (2012, oc 3 [])] trivial ?_
  refine WP.block ?_
  refine WP.lp (α := Nat × (List Int) × Int × Int × (List Int) × Int) (fun zz => ⟨[500, 2002, 2005, 2012], [(6, vi zz.2.2.2.2.2), (5, V.ref 2005 0), (4, vi r11), (3, vi r9), (2, V.ref 2002 0), (0, V.ref 500 0)], [(500, oc 65 [ty zz.2.1, ti zz.2.2.1, T.int .u64 zz.2.2.2.1]), (2002, oc 26 [T.nils, ti 0]), (2005, ov 26 [vo 2012 (List.length zz.2.2.2.2.1), vi r9]), (2012, oc 3 (List.map (ti) zz.2.2.2.2.1))]⟩) (fun zz => F_p_spec_l1Cur_state_L1 r9 r11 J1 zz.1 zz.2.1 zz.2.2.1 zz.2.2.2.1 zz.2.2.2.2.1 zz.2.2.2.2.2 = some (y0, y1, y2, y3, y4)) (fun zz => zz.1) (fuel, r11b, r11c, r11d, ([] : List Int), (0 : Int)) h ?_
  rintro ⟨n, o500, o500b, o500c, o12, v6⟩ h0
  have h := (show F_p_spec_l1Cur_state_L1 r9 r11 J1 n o500 o500b o500c o12 v6 = some (y0, y1, y2, y3, y4) from h0)
  rcases n with _ | n
  ·rw [F_p_spec_l1Cur_state_L1] at h; cases h
  ·rw [F_p_spec_l1Cur_state_L1] at h
   refine WP.seq ?_
   refine WP.sk tm [] [(True)] [(17, vb (decide (v6 < r11))), (6, vi v6), (5, V.ref 2005 0), (4, vi r11), (3, vi r9), (2, V.ref 2002 0), (0, V.ref 500 0)] [(500, oc 65 [ty o500, ti o500b, T.int .u64 o500c]), (2002, oc 26 [T.nils, ti 0]), (2005, ov 26 [vo 2012 (List.length o12), vi r9]), (2012, oc 3 (List.map (ti) o12))] ⟨trivial, trivial⟩ ?_
   rcases ite_some h with ⟨h1, h⟩ | ⟨h1, h⟩
   ·refine WP.yes h1 rfl ?_
    refine WP.pk tm [] [] [(6, vi v6), (5, V.ref 2005 0), (4, vi r11), (3, vi r9), (2, V.ref 2002 0), (0, V.ref 500 0)] [(500, oc 65 [ty o500, ti o500b, T.int .u64 o500c]), (2002, oc 26 [T.nils, ti 0]), (2005, ov 26 [vo 2012 (List.length o12), vi r9]), (2012, oc 3 (List.map (ti) o12))] trivial ?_
    refine WP.seq ?_
    refine WP.block ?_
    obtain ⟨c2, h⟩ := chk_some h
    obtain ⟨r26, r26b, r26c, r26d, c3, h⟩ := bnd4_some h
    obtain ⟨r28, r28b, r28c, r28d, c4, h⟩ := bnd4_some h
    obtain ⟨c5, h⟩ := chk_some h
    obtain ⟨c6, h⟩ := chk_some h
    obtain ⟨c7, h⟩ := chk_some h
    refine WP.pn tm [(24, An.v (ti (r9 + 2))), (25, An.call (ti (maxN (1 : Int) (r9 + 2)))), (26, An.callG [(500, 500)] [V.ref 500 0, vi (maxN (1 : Int) (r9 + 2))] [(500, oc 65 [ty o500, ti o500b, T.int .u64 o500c])] (vi r26) [(500, oc 65 [ty r26b, ti r26c, T.int .u64 r26d])]), (28, An.callG [(500, 500)] [V.ref 500 0, vi 6] [(500, oc 65 [ty r26b, ti r26c, T.int .u64 r26d])] (vi r28) [(500, oc 65 [ty r28b, ti r28c, T.int .u64 r28d])]), (29, An.v (ti (Int.tdiv r28 (5 : Int)))), (30, An.v (ti (r26 - (Int.tdiv r28 (5 : Int))))), (31, An.fz), (32, An.id 2032)] [(True), (True), (wr (r9 + 2)), (C Tryz.prog 71 [ti 1, ti (r9 + 2)] (ti (maxN (1 : Int) (r9 + 2)))), (CG Tryz.prog 70 [V.ref 500 0, vi (maxN (1 : Int) (r9 + 2))] [(500, oc 65 [ty o500, ti o500b, T.int .u64 o500c])] (vi r26) [(500, oc 65 [ty r26b, ti r26c, T.int .u64 r26d])]), ((V.ref 500 0).ren (renF [(500, 500)]) = V.ref 500 0), (WkT (ti (maxN (1 : Int) (r9 + 2))) (ti (maxN (1 : Int) (r9 + 2)))), ((oc 65 [ty o500, ti o500b, T.int .u64 o500c]) = (oc 65 [ty o500, ti o500b, T.int .u64 o500c]).ren (renF [(500, 500)])), (CG Tryz.prog 70 [V.ref 500 0, vi 6] [(500, oc 65 [ty r26b, ti r26c, T.int .u64 r26d])] (vi r28) [(500, oc 65 [ty r28b, ti r28c, T.int .u64 r28d])]), ((V.ref 500 0).ren (renF [(500, 500)]) = V.ref 500 0), (WkT (ti 6) (ti 6)), ((oc 65 [ty r26b, ti r26c, T.int .u64 r26d]) = (oc 65 [ty r26b, ti r26c, T.int .u64 r26d]).ren (renF [(500, 500)])), ((5 : Int) ≠ 0), (wr (Int.tdiv r28 (5 : Int))), (True), (wr (r26 - (Int.tdiv r28 (5 : Int)))), ((1 = 1 ∧ 0 + 1 ≤ 1) ∧ True), (1 = 1 * 1), (True), (List.length (List.map (ti) o12) = (List.length o12) * 1), ((((List.length o12) + 1) * 8 ≤ 140737488355328 ∧ (List.length o12) + 1 ≤ maxLen)), (0 < 2)] [2032, 500, 2002, 2005, 2012] [(6, vi v6), (5, V.ref 2005 0), (4, vi r11), (3, vi r9), (2, V.ref 2002 0), (0, V.ref 500 0)] [(500, oc 65 [ty r28b, ti r28c, T.int .u64 r28d]), (2002, oc 26 [T.nils, ti 0]), (2005, ov 26 [vo 2032 ((List.length o12) + 1), vi r9]), (2032, oc 3 ((List.map (ti) o12) ++ [ti (r26 - (Int.tdiv r28 (5 : Int)))]))] ⟨trivial, trivial, wrapI c2, (by have hh := (l1Most_C (1 : Int) (r9 + 2)); first | exact hh | simpa using hh), (F_p_spec_l1Cur_pick_W o500 o500b o500c (maxN (1 : Int) (r9 + 2)) r26 r26b r26c r26d c3), by first | rfl | (simp [V.ren, V.renL, renF, lk]; done) | (simp [V.ren, V.renL, renF, lk]; omega), WkT.refl _, rfl, (F_p_spec_l1Cur_pick_W r26b r26c r26d (6 : Int) r28 r28b r28c r28d c4), by first | rfl | (simp [V.ren, V.renL, renF, lk]; done) | (simp [V.ren, V.renL, renF, lk]; omega), WkT.refl _, rfl, (show (5 : Int) ≠ 0 by first | decide | (simp only [maxLen]; omega) | (unfold I64; omega) | (unfold I64; decide)), quo_told c5, trivial, wrapI c6, ⟨⟨by first | rfl | (simp; done) | (simp []; done) | omega, by first | decide | (simp; done) | (simp []; done) | omega | (simp only [tlL]; omega) | (simp; omega)⟩, trivial⟩, by decide, trivial, by first | rfl | omega | (simp only [tlL] <;> omega) | (simp <;> omega) | (simp [] <;> omega), c7, by decide, trivial⟩ ?_
    obtain ⟨c8, h⟩ := chk_some h
    refine WP.nk tm [(19, An.v (ti (v6 + 1)))] [(500, 500), (2002, 2002), (2005, 2005), (2032, 2012)] .normal [(True), (wr (v6 + 1))] [(6, vi (v6 + 1)), (5, V.ref 2005 0), (4, vi r11), (3, vi r9), (2, V.ref 2002 0), (0, V.ref 500 0)] [(500, oc 65 [ty r28b, ti r28c, T.int .u64 r28d]), (2002, oc 26 [T.nils, ti 0]), (2005, ov 26 [vo 2012 ((List.length o12) + 1), vi r9]), (2012, oc 3 ((List.map (ti) o12) ++ [ti (r26 - (Int.tdiv r28 (5 : Int)))]))] ⟨trivial, wrapI c8, trivial⟩ ?_
    exact ⟨(n, r28b, r28c, r28d, o12 ++ [(r26 - (Int.tdiv r28 (5 : Int)))], (v6 + 1)), h, Nat.lt_succ_self _, (by first | rfl | (simp only [tlS, tl, vl, vo, oc, ov, tbl, vbl, ty, vy] <;> rfl) | (simp <;> omega) | (simp []; done) | (rw [List.take_of_length_le (by simp [])] <;> rfl) | (simp [List.take_of_length_le]; done))⟩
   ·refine WP.no h1 rfl ?_
    refine WP.eq tm [] 0 [] [(5, V.ref 2005 0), (4, vi r11), (3, vi r9), (2, V.ref 2002 0), (0, V.ref 500 0)] [(500, oc 65 [ty o500, ti o500b, T.int .u64 o500c]), (2002, oc 26 [T.nils, ti 0]), (2005, ov 26 [vo 2012 (List.length o12), vi r9]), (2012, oc 3 (List.map (ti) o12))] trivial ?_
    exact ⟨(o500, o500b, o500c, o12), h, rfl⟩
 ·rintro ⟨o500, o500b, o500c, o12⟩ h0
  have h := (show J1 o500 o500b o500c o12 = some (y0, y1, y2, y3, y4) from h0)
  rw [hJ1] at h
  obtain ⟨J1, hJ1, h⟩ := jn_some h
  refine WP.joinA (fun (zz : (List Int) × Int × Int × (List Int)) => ⟨[500, 2002, 2005, 2012], [(5, V.ref 2005 0), (2, V.ref 2002 0)], [(500, oc 65 [ty zz.1, ti zz.2.1, T.int .u64 zz.2.2.1]), (2002, oc 26 [T.nils, ti 0]), (2005, ov 26 [vo 2012 (List.length zz.2.2.2), vi r9]), (2012, oc 3 (List.map (ti) zz.2.2.2))]⟩) (fun zz => J1 zz.1 zz.2.1 zz.2.2.1 zz.2.2.2 = some (y0, y1, y2, y3, y4)) ?_ ?_
  ·refine WP.sk tm [] [] [(7, vi 0), (5, V.ref 2005 0), (4, vi r11), (3, vi r9), (2, V.ref 2002 0), (0, V.ref 500 0)] [(500, oc 65 [ty o500, ti o500b, T.int .u64 o500c]), (2002, oc 26 [T.nils, ti 0]), (2005, ov 26 [vo 2012 (List.length o12), vi r9]), (2012, oc 3 (List.map (ti) o12))] trivial ?_
   refine WP.block ?_
   refine WP.lp (α := Nat × (List Int) × Int × Int × (List Int) × Int) (fun zz => ⟨[500, 2002, 2005, 2012], [(7, vi zz.2.2.2.2.2), (5, V.ref 2005 0), (4, vi r11), (3, vi r9), (2, V.ref 2002 0), (0, V.ref 500 0)], [(500, oc 65 [ty zz.2.1, ti zz.2.2.1, T.int .u64 zz.2.2.2.1]), (2002, oc 26 [T.nils, ti 0]), (2005, ov 26 [vo 2012 (List.length zz.2.2.2.2.1), vi r9]), (2012, oc 3 (List.map (ti) zz.2.2.2.2.1))]⟩) (fun zz => F_p_spec_l1Cur_state_L2 r9 r11 J1 zz.1 zz.2.1 zz.2.2.1 zz.2.2.2.1 zz.2.2.2.2.1 zz.2.2.2.2.2 = some (y0, y1, y2, y3, y4)) (fun zz => zz.1) (fuel, o500, o500b, o500c, o12, (0 : Int)) h ?_
   rintro ⟨n, o500d, o500e, o500g, o12b, v7⟩ h0
   have h := (show F_p_spec_l1Cur_state_L2 r9 r11 J1 n o500d o500e o500g o12b v7 = some (y0, y1, y2, y3, y4) from h0)
   rcases n with _ | n
   ·rw [F_p_spec_l1Cur_state_L2] at h; cases h
   ·rw [F_p_spec_l1Cur_state_L2] at h
    refine WP.seq ?_
    refine WP.sk tm [] [(True)] [(36, vb (decide (v7 < r11))), (7, vi v7), (5, V.ref 2005 0), (4, vi r11), (3, vi r9), (2, V.ref 2002 0), (0, V.ref 500 0)] [(500, oc 65 [ty o500d, ti o500e, T.int .u64 o500g]), (2002, oc 26 [T.nils, ti 0]), (2005, ov 26 [vo 2012 (List.length o12b), vi r9]), (2012, oc 3 (List.map (ti) o12b))] ⟨trivial, trivial⟩ ?_
    rcases ite_some h with ⟨h2, h⟩ | ⟨h2, h⟩
    ·refine WP.yes h2 rfl ?_
     refine WP.pk tm [] [] [(7, vi v7), (5, V.ref 2005 0), (4, vi r11), (3, vi r9), (2, V.ref 2002 0), (0, V.ref 500 0)] [(500, oc 65 [ty o500d, ti o500e, T.int .u64 o500g]), (2002, oc 26 [T.nils, ti 0]), (2005, ov 26 [vo 2012 (List.length o12b), vi r9]), (2012, oc 3 (List.map (ti) o12b))] trivial ?_
     refine WP.seq ?_
     refine WP.block ?_
     obtain ⟨J2, hJ2, h⟩ := jn_some h
     refine WP.joinA (fun (zz : (List Int) × Int × Int × Bool) => ⟨[500, 2002, 2005, 2012], [(50, vb zz.2.2.2), (7, vi v7), (5, V.ref 2005 0), (4, vi r11), (3, vi r9), (2, V.ref 2002 0), (0, V.ref 500 0)], [(500, oc 65 [ty zz.1, ti zz.2.1, T.int .u64 zz.2.2.1]), (2002, oc 26 [T.nils, ti 0]), (2005, ov 26 [vo 2012 (List.length o12b), vi r9]), (2012, oc 3 (List.map (ti) o12b))]⟩) (fun zz => J2 zz.1 zz.2.1 zz.2.2.1 zz.2.2.2 = some (y0, y1, y2, y3, y4)) ?_ ?_
     ·obtain ⟨c2, h⟩ := chk_some h
      rcases ite_some h with ⟨h3, h⟩ | ⟨h3, h⟩
      ·obtain ⟨r48, r48b, r48c, r48d, c3, h⟩ := bnd4_some h
       refine WP.qk tm [(43, An.v (ti (gt o12b v7 0))), (45, An.b true), (48, An.callG [(500, 500)] [V.ref 500 0, vi 30] [(500, oc 65 [ty o500d, ti o500e, T.int .u64 o500g])] (vb r48) [(500, oc 65 [ty r48b, ti r48c, T.int .u64 r48d])])] [(True), ((0 ≤ v7 ∧ v7 < (ln o12b))), ((List.map (ti) o12b : List T)[(Int.toNat v7) * 1]? = some (ti (gt o12b v7 0))), (ti (gt o12b v7 0) = ti (gt o12b v7 0)), (True), ((decide ((gt o12b v7 0) > r9)) = true), (CG Tryz.prog 47 [V.ref 500 0, vi 30] [(500, oc 65 [ty o500d, ti o500e, T.int .u64 o500g])] (vb r48) [(500, oc 65 [ty r48b, ti r48c, T.int .u64 r48d])]), ((V.ref 500 0).ren (renF [(500, 500)]) = V.ref 500 0), (WkT (ti 30) (ti 30)), ((oc 65 [ty o500d, ti o500e, T.int .u64 o500g]) = (oc 65 [ty o500d, ti o500e, T.int .u64 o500g]).ren (renF [(500, 500)]))] [(50, vb (!r48)), (7, vi v7), (5, V.ref 2005 0), (4, vi r11), (3, vi r9), (2, V.ref 2002 0), (0, V.ref 500 0)] [(500, oc 65 [ty r48b, ti r48c, T.int .u64 r48d]), (2002, oc 26 [T.nils, ti 0]), (2005, ov 26 [vo 2012 (List.length o12b), vi r9]), (2012, oc 3 (List.map (ti) o12b))] ⟨trivial, c2, atM (by simp) (by first | omega | (simp only [tlL]; omega) | (simp; omega)), rfl, trivial, h3, (F_p_spec_l1Cur_one_W o500d o500e o500g (30 : Int) r48 r48b r48c r48d c3), by first | rfl | (simp [V.ren, V.renL, renF, lk]; done) | (simp [V.ren, V.renL, renF, lk]; omega), WkT.refl _, rfl, trivial⟩ ?_
       exact ⟨(r48b, r48c, r48d, !r48), h, rfl⟩
      ·refine WP.qk tm [(43, An.v (ti (gt o12b v7 0))), (45, An.b false)] [(True), ((0 ≤ v7 ∧ v7 < (ln o12b))), ((List.map (ti) o12b : List T)[(Int.toNat v7) * 1]? = some (ti (gt o12b v7 0))), (ti (gt o12b v7 0) = ti (gt o12b v7 0)), (True), ((decide ((gt o12b v7 0) > r9)) = false)] [(50, vb false), (7, vi v7), (5, V.ref 2005 0), (4, vi r11), (3, vi r9), (2, V.ref 2002 0), (0, V.ref 500 0)] [(500, oc 65 [ty o500d, ti o500e, T.int .u64 o500g]), (2002, oc 26 [T.nils, ti 0]), (2005, ov 26 [vo 2012 (List.length o12b), vi r9]), (2012, oc 3 (List.map (ti) o12b))] ⟨trivial, c2, atM (by simp) (by first | omega | (simp only [tlL]; omega) | (simp; omega)), rfl, trivial, h3, trivial⟩ ?_
       exact ⟨(o500d, o500e, o500g, false), h, rfl⟩
     ·rintro ⟨o500i, o500j, o500k, v50⟩ h0
      have h := (show J2 o500i o500j o500k v50 = some (y0, y1, y2, y3, y4) from h0)
      rw [hJ2] at h
      rcases ite_some h with ⟨h4, h⟩ | ⟨h4, h⟩
      ·refine WP.yes h4 rfl ?_
       obtain ⟨c2, h⟩ := chk_some h
       refine WP.pk tm [] [(True), ((0 ≤ v7 ∧ v7 < (ln o12b))), ((Int.toNat v7) * 1 < List.length (List.map (ti) o12b))] [(7, vi v7), (5, V.ref 2005 0), (4, vi r11), (3, vi r9), (2, V.ref 2002 0), (0, V.ref 500 0)] [(500, oc 65 [ty o500i, ti o500j, T.int .u64 o500k]), (2002, oc 26 [T.nils, ti 0]), (2005, ov 26 [vo 2012 (List.length o12b), vi r9]), (2012, oc 3 (List.set (List.map (ti) o12b) ((Int.toNat v7) * 1) (ti (-1))))] ⟨trivial, c2, by first | decide | omega | (simp only [tlL] <;> omega) | (simp <;> omega) | (simp [] <;> omega), trivial⟩ ?_
       obtain ⟨c3, h⟩ := chk_some h
       refine WP.qk tm [(38, An.v (ti (v7 + 1)))] [(True), (wr (v7 + 1))] [(7, vi (v7 + 1)), (5, V.ref 2005 0), (4, vi r11), (3, vi r9), (2, V.ref 2002 0), (0, V.ref 500 0)] [(500, oc 65 [ty o500i, ti o500j, T.int .u64 o500k]), (2002, oc 26 [T.nils, ti 0]), (2005, ov 26 [vo 2012 (List.length o12b), vi r9]), (2012, oc 3 (List.set (List.map (ti) o12b) ((Int.toNat v7) * 1) (ti (-1))))] ⟨trivial, wrapI c3, trivial⟩ ?_
       exact ⟨(n, o500i, o500j, o500k, List.set o12b (Int.toNat v7) (-1 : Int), (v7 + 1)), h, Nat.lt_succ_self _, (by first | rfl | (simp only [tlS, tl, vl, vo, oc, ov, tbl, vbl, ty, vy] <;> rfl) | (simp <;> omega) | (simp []; done) | (rw [List.take_of_length_le (by simp [])] <;> rfl) | (simp [List.take_of_length_le]; done))⟩
      ·refine WP.no h4 rfl ?_
       refine WP.pk tm [] [] [(7, vi v7), (5, V.ref 2005 0), (4, vi r11), (3, vi r9), (2, V.ref 2002 0), (0, V.ref 500 0)] [(500, oc 65 [ty o500i, ti o500j, T.int .u64 o500k]), (2002, oc 26 [T.nils, ti 0]), (2005, ov 26 [vo 2012 (List.length o12b), vi r9]), (2012, oc 3 (List.map (ti) o12b))] trivial ?_
       obtain ⟨c2, h⟩ := chk_some h
       refine WP.qk tm [(38, An.v (ti (v7 + 1)))] [(True), (wr (v7 + 1))] [(7, vi (v7 + 1)), (5, V.ref 2005 0), (4, vi r11), (3, vi r9), (2, V.ref 2002 0), (0, V.ref 500 0)] [(500, oc 65 [ty o500i, ti o500j, T.int .u64 o500k]), (2002, oc 26 [T.nils, ti 0]), (2005, ov 26 [vo 2012 (List.length o12b), vi r9]), (2012, oc 3 (List.map (ti) o12b))] ⟨trivial, wrapI c2, trivial⟩ ?_
       exact ⟨(n, o500i, o500j, o500k, o12b, (v7 + 1)), h, Nat.lt_succ_self _, rfl⟩
    ·refine WP.no h2 rfl ?_
     refine WP.eq tm [] 2 [] [(5, V.ref 2005 0), (2, V.ref 2002 0)] [(500, oc 65 [ty o500d, ti o500e, T.int .u64 o500g]), (2002, oc 26 [T.nils, ti 0]), (2005, ov 26 [vo 2012 (List.length o12b), vi r9]), (2012, oc 3 (List.map (ti) o12b))] trivial ?_
     exact ⟨(o500d, o500e, o500g, o12b), h, rfl⟩
  ·rintro ⟨o500d, o500e, o500g, o12b⟩ h0
   have h := (show J1 o500d o500e o500g o12b = some (y0, y1, y2, y3, y4) from h0)
   rw [hJ1] at h
   simp only [Option.some.injEq, Prod.mk.injEq] at h
   obtain ⟨rfl, rfl, rfl, rfl, rfl⟩ := h
   exact WP.pathG tab_ok mixed [] [.keep [2], .keepO [500, 2012, 2002], .names [(500, 500), (2012, 9000), (2002, 2002)]] [500, 9000] _ (r' := V.agg [vo 9000 (List.length o12b), vi r9]) (ps := [(0 + 2 ≤ 2), ((0 + 2 ≤ 2 ∧ 2 = 2)), (0 + 2 ≤ 2)]) (r := V.agg [vo 9000 (List.length o12b), vi r9]) (N := [500, 9000, 2002]) (O := [(500, oc 65 [ty o500d, ti o500e, T.int .u64 o500g]), (9000, oc 3 (List.map (ti) o12b))]) [] (by kernel_rfl) ⟨by decide, by decide, by decide, trivial⟩ ⟨rfl, (WkT.refl _), trivial⟩ rfl rfl (fun _ h => h)
theorem F_p_spec_l1Cur_question_W (x0 : List Int) (x1 : Int) (x2 : Int) (x3 : Int) (y0 : Int) (y1 : List Int) (y2 : Int) (y3 : Int) (h : F_p_spec_l1Cur_question x0 x1 x2 x3 = some (y0, y1, y2, y3)) : CG Tryz.prog 108 [V.ref 500 0, vi x3] [(500, oc 65 [ty x0, ti x1, T.int .u64 x2])] (vi y0) [(500, oc 65 [ty y1, ti y2, T.int .u64 y3])] := by
 unfold F_p_spec_l1Cur_question at h
 refine CG.intro (tab := tab) tab_ok (fn := Tryz.f108) Tryz.func108 (by kernel_rfl) rfl (Nat.le_of_ble_eq_true rfl) (by kernel_rfl) ?_
 refine WP.sk tm [] [] [(4, vi 0), (0, V.ref 500 0), (1, vi x3)] [(500, oc 65 [ty x0, ti x1, T.int .u64 x2])] trivial ?_
 refine WP.seq ?_
 refine WP.seq ?_
 obtain ⟨r6, r6b, r6c, r6d, c0, h⟩ := bnd4_some h
 refine WP.pk tm [(6, An.callG [(500, 500)] [V.ref 500 0, vi 24] [(500, oc 65 [ty x0, ti x1, T.int .u64 x2])] (vb r6) [(500, oc 65 [ty r6b, ti r6c, T.int .u64 r6d])])] [(CG Tryz.prog 47 [V.ref 500 0, vi 24] [(500, oc 65 [ty x0, ti x1, T.int .u64 x2])] (vb r6) [(500, oc 65 [ty r6b, ti r6c, T.int .u64 r6d])]), ((V.ref 500 0).ren (renF [(500, 500)]) = V.ref 500 0), (WkT (ti 24) (ti 24)), ((oc 65 [ty x0, ti x1, T.int .u64 x2]) = (oc 65 [ty x0, ti x1, T.int .u64 x2]).ren (renF [(500, 500)]))] [(6, vb r6), (4, vi 0), (0, V.ref 500 0), (1, vi x3)] [(500, oc 65 [ty r6b, ti r6c, T.int .u64 r6d])] ⟨(F_p_spec_l1Cur_one_W x0 x1 x2 (24 : Int) r6 r6b r6c r6d c0), by first | rfl | (simp [V.ren, V.renL, renF, lk]; done) | (simp [V.ren, V.renL, renF, lk]; omega), WkT.refl _, rfl, trivial⟩ ?_
 rcases ite_some h with ⟨h1, h⟩ | ⟨h1, h⟩
 ·refine WP.yes h1 rfl ?_
  obtain ⟨c1, h⟩ := chk_some h
  obtain ⟨r13, r13b, r13c, r13d, c2, h⟩ := bnd4_some h
  simp only [Option.some.injEq, Prod.mk.injEq] at h
  obtain ⟨rfl, rfl, rfl, rfl⟩ := h
  exact WP.pathG tab_ok mixed [(9, An.call (ti (minN x3 (13 : Int)))), (10, An.call (ti (maxN (0 : Int) (minN x3 (13 : Int))))), (11, An.v (ti ((1 : Int) * 2 ^ Int.toNat (maxN (0 : Int) (minN x3 (13 : Int)))))), (12, An.fz), (13, An.callG [(500, 500)] [V.ref 500 0, vl [(-1 : Int), ((1 : Int) * 2 ^ Int.toNat (maxN (0 : Int) (minN x3 (13 : Int)))), (4611686018427387904 : Int)]] [(500, oc 65 [ty r6b, ti r6c, T.int .u64 r6d])] (vi r13) [(500, oc 65 [ty r13b, ti r13c, T.int .u64 r13d])])] [.keep [4], .keepO [500], .names [(500, 500)]] [500] _ (r' := vi r13) (ps := [(C Tryz.prog 138 [ti x3, ti 13] (ti (minN x3 (13 : Int)))), (C Tryz.prog 71 [ti 0, ti (minN x3 (13 : Int))] (ti (maxN (0 : Int) (minN x3 (13 : Int))))), (0 ≤ (maxN (0 : Int) (minN x3 (13 : Int)))), (ti (IntKind.wrap .i64 ((1 : Int) * 2 ^ (min (Int.toNat (maxN (0 : Int) (minN x3 (13 : Int)))) 64))) = ti ((1 : Int) * 2 ^ Int.toNat (maxN (0 : Int) (minN x3 (13 : Int))))), ((1 = 1 ∧ 0 + 1 ≤ 3) ∧ (1 = 1 ∧ 1 + 1 ≤ 3) ∧ (1 = 1 ∧ 2 + 1 ≤ 3) ∧ True), (3 = 3 * 1), (CG Tryz.prog 98 [V.ref 500 0, vl [(-1 : Int), ((1 : Int) * 2 ^ Int.toNat (maxN (0 : Int) (minN x3 (13 : Int)))), (4611686018427387904 : Int)]] [(500, oc 65 [ty r6b, ti r6c, T.int .u64 r6d])] (vi r13) [(500, oc 65 [ty r13b, ti r13c, T.int .u64 r13d])]), ((V.ref 500 0).ren (renF [(500, 500)]) = V.ref 500 0), (WkT (T.list 3 1 [ti (-1), ti ((1 : Int) * 2 ^ Int.toNat (maxN (0 : Int) (minN x3 (13 : Int)))), ti 4611686018427387904]) (tl [(-1 : Int), ((1 : Int) * 2 ^ Int.toNat (maxN (0 : Int) (minN x3 (13 : Int)))), (4611686018427387904 : Int)])), ((oc 65 [ty r6b, ti r6c, T.int .u64 r6d]) = (oc 65 [ty r6b, ti r6c, T.int .u64 r6d]).ren (renF [(500, 500)]))]) (r := vi r13) (N := [500]) (O := [(500, oc 65 [ty r13b, ti r13c, T.int .u64 r13d])]) [] (by kernel_rfl) ⟨(by have hh := (l1Least_C x3 (13 : Int)); first | exact hh | simpa using hh), (by have hh := (l1Most_C (0 : Int) (minN x3 (13 : Int))); first | exact hh | simpa using hh), c1.1, shl_told c1, ⟨⟨by first | rfl | (simp; done) | (simp []; done) | omega, by first | decide | (simp; done) | (simp []; done) | omega | (simp only [tlL]; omega) | (simp; omega)⟩, ⟨by first | rfl | (simp; done) | (simp []; done) | omega, by first | decide | (simp; done) | (simp []; done) | omega | (simp only [tlL]; omega) | (simp; omega)⟩, ⟨by first | rfl | (simp; done) | (simp []; done) | omega, by first | decide | (simp; done) | (simp []; done) | omega | (simp only [tlL]; omega) | (simp; omega)⟩, trivial⟩, by decide, (F_p_spec_l1Cur_among_W r6b r6c r6d [(-1 : Int), ((1 : Int) * 2 ^ Int.toNat (maxN (0 : Int) (minN x3 (13 : Int)))), (4611686018427387904 : Int)] r13 r13b r13c r13d c2), by first | rfl | (simp [V.ren, V.renL, renF, lk]; done) | (simp [V.ren, V.renL, renF, lk]; omega), WkT.eq (WkT.refl _) (by first | rfl | (simp only [tlS, tl, vl, vo, oc, ov, tbl, vbl, ty, vy] <;> rfl) | (simp <;> omega) | (simp []; done) | (rw [List.take_of_length_le (by simp [])] <;> rfl) | (simp [List.take_of_length_le]; done)), rfl, trivial⟩ ⟨(WkT.refl _), trivial⟩ rfl rfl (fun _ h => h)
 ·refine WP.no h1 rfl ?_
  refine WP.pk tm [] [] [(4, vi 0), (0, V.ref 500 0), (1, vi x3)] [(500, oc 65 [ty r6b, ti r6c, T.int .u64 r6d])] trivial ?_
  obtain ⟨c1, h⟩ := chk_some h
  obtain ⟨r19, r19b, r19c, r19d, c2, h⟩ := bnd4_some h
  simp only [Option.some.injEq, Prod.mk.injEq] at h
  obtain ⟨rfl, rfl, rfl, rfl⟩ := h
  exact WP.pathG tab_ok mixed [(16, An.call (ti (minN x3 (12 : Int)))), (17, An.call (ti (maxN (0 : Int) (minN x3 (12 : Int))))), (18, An.v (ti ((1 : Int) * 2 ^ Int.toNat (maxN (0 : Int) (minN x3 (12 : Int)))))), (19, An.callG [(500, 500)] [V.ref 500 0, vi ((1 : Int) * 2 ^ Int.toNat (maxN (0 : Int) (minN x3 (12 : Int))))] [(500, oc 65 [ty r6b, ti r6c, T.int .u64 r6d])] (vi r19) [(500, oc 65 [ty r19b, ti r19c, T.int .u64 r19d])])] [.keep [4], .keepO [500], .names [(500, 500)]] [500] _ (r' := vi r19) (ps := [(C Tryz.prog 138 [ti x3, ti 12] (ti (minN x3 (12 : Int)))), (C Tryz.prog 71 [ti 0, ti (minN x3 (12 : Int))] (ti (maxN (0 : Int) (minN x3 (12 : Int))))), (0 ≤ (maxN (0 : Int) (minN x3 (12 : Int)))), (ti (IntKind.wrap .i64 ((1 : Int) * 2 ^ (min (Int.toNat (maxN (0 : Int) (minN x3 (12 : Int)))) 64))) = ti ((1 : Int) * 2 ^ Int.toNat (maxN (0 : Int) (minN x3 (12 : Int))))), (CG Tryz.prog 70 [V.ref 500 0, vi ((1 : Int) * 2 ^ Int.toNat (maxN (0 : Int) (minN x3 (12 : Int))))] [(500, oc 65 [ty r6b, ti r6c, T.int .u64 r6d])] (vi r19) [(500, oc 65 [ty r19b, ti r19c, T.int .u64 r19d])]), ((V.ref 500 0).ren (renF [(500, 500)]) = V.ref 500 0), (WkT (ti ((1 : Int) * 2 ^ Int.toNat (maxN (0 : Int) (minN x3 (12 : Int))))) (ti ((1 : Int) * 2 ^ Int.toNat (maxN (0 : Int) (minN x3 (12 : Int)))))), ((oc 65 [ty r6b, ti r6c, T.int .u64 r6d]) = (oc 65 [ty r6b, ti r6c, T.int .u64 r6d]).ren (renF [(500, 500)]))]) (r := vi r19) (N := [500]) (O := [(500, oc 65 [ty r19b, ti r19c, T.int .u64 r19d])]) [] (by kernel_rfl) ⟨(by have hh := (l1Least_C x3 (12 : Int)); first | exact hh | simpa using hh), (by have hh := (l1Most_C (0 : Int) (minN x3 (12 : Int))); first | exact hh | simpa using hh), c1.1, shl_told c1, (F_p_spec_l1Cur_pick_W r6b r6c r6d ((1 : Int) * 2 ^ Int.toNat (maxN (0 : Int) (minN x3 (12 : Int)))) r19 r19b r19c r19d c2), by first | rfl | (simp [V.ren, V.renL, renF, lk]; done) | (simp [V.ren, V.renL, renF, lk]; omega), WkT.refl _, rfl, trivial⟩ ⟨(WkT.refl _), trivial⟩ rfl rfl (fun _ h => h)
theorem F_p_spec_l1Cur_fixed_W (x0 : List Int) (x1 : Int) (x2 : Int) (y0 : List Int) (y1 : Int) (y2 : List Int) (y3 : List Int) (y4 : Int) (y5 : Int) (h : F_p_spec_l1Cur_fixed x0 x1 x2 = some (y0, y1, y2, y3, y4, y5)) : CG Tryz.prog 46 [V.ref 500 0] [(500, oc 65 [ty x0, ti x1, T.int .u64 x2])] (V.t (T.tup [T.agg [tl y0, ti y1], tl y2])) [(500, oc 65 [ty y3, ti y4, T.int .u64 y5])] := by
 unfold F_p_spec_l1Cur_fixed at h
 refine CG.intro (tab := tab) tab_ok (fn := Tryz.f46) Tryz.func46 (by kernel_rfl) rfl (Nat.le_of_ble_eq_true rfl) (by kernel_rfl) ?_
 refine WP.sn tm [(2, An.id 2002)] [] [2002, 500] [(3, V.t (T.nils)), (2, V.ref 2002 0), (0, V.ref 500 0)] [(500, oc 65 [ty x0, ti x1, T.int .u64 x2]), (2002, oc 26 [T.nils, ti 0])] trivial ?_
 refine WP.seq ?_
 obtain ⟨r12, r12b, r12c, r12d, r12e, c0, h⟩ := bnd5_some h
 refine WP.pn tm [(12, An.callG [(500, 500), (9000, 10120)] [V.ref 500 0] [(500, oc 65 [ty x0, ti x1, T.int .u64 x2])] (V.agg [vo 9000 (List.length r12), vi r12b]) [(500, oc 65 [ty r12c, ti r12d, T.int .u64 r12e]), (9000, oc 3 (List.map (ti) r12))]), (4, An.id 2004)] [(CG Tryz.prog 107 [V.ref 500 0] [(500, oc 65 [ty x0, ti x1, T.int .u64 x2])] (V.agg [vo 9000 (List.length r12), vi r12b]) [(500, oc 65 [ty r12c, ti r12d, T.int .u64 r12e]), (9000, oc 3 (List.map (ti) r12))]), ((V.ref 500 0).ren (renF [(500, 500), (9000, 10120)]) = V.ref 500 0), ((oc 65 [ty x0, ti x1, T.int .u64 x2]) = (oc 65 [ty x0, ti x1, T.int .u64 x2]).ren (renF [(500, 500), (9000, 10120)])), ((0 + 2 ≤ 2 ∧ 2 = 2))] [2004, 10120, 2002, 500] [(4, V.ref 2004 0), (3, V.t (T.nils)), (2, V.ref 2002 0), (0, V.ref 500 0)] [(500, oc 65 [ty r12c, ti r12d, T.int .u64 r12e]), (2002, oc 26 [T.nils, ti 0]), (2004, ov 26 [vo 10120 (List.length r12), vi r12b]), (10120, oc 3 (List.map (ti) r12))] ⟨(F_p_spec_l1Cur_state_W x0 x1 x2 r12 r12b r12c r12d r12e c0), by first | rfl | (simp [V.ren, V.renL, renF, lk]; done) | (simp [V.ren, V.renL, renF, lk]; omega), rfl, by decide, trivial⟩ ?_
 obtain ⟨J1, hJ1, h⟩ := jn_some h
 refine WP.joinA (fun (zz : (List Int) × Int × Int × (List Int) × Int) => ⟨[500, 2002, 2004, 10200], [(4, V.ref 2004 0), (3, V.t (T.nils)), (2, V.ref 2002 0), (0, V.ref 500 0)], [(500, oc 65 [ty zz.1, ti zz.2.1, T.int .u64 zz.2.2.1]), (2002, oc 26 [T.nils, ti 0]), (2004, ov 26 [vo 10200 (List.length zz.2.2.2.1), vi zz.2.2.2.2]), (10200, oc 3 (List.map (ti) zz.2.2.2.1))]⟩) (fun zz => J1 zz.1 zz.2.1 zz.2.2.1 zz.2.2.2.1 zz.2.2.2.2 = some (y0, y1, y2, y3, y4, y5)) ?_ ?_
 ·refine WP.seq ?_
  obtain ⟨r14, r14b, r14c, r14d, c1, h⟩ := bnd4_some h
  refine WP.pn tm [(14, An.callG [(500, 500)] [V.ref 500 0, vi 2] [(500, oc 65 [ty r12c, ti r12d, T.int .u64 r12e])] (vb r14) [(500, oc 65 [ty r14b, ti r14c, T.int .u64 r14d])])] [(CG Tryz.prog 47 [V.ref 500 0, vi 2] [(500, oc 65 [ty r12c, ti r12d, T.int .u64 r12e])] (vb r14) [(500, oc 65 [ty r14b, ti r14c, T.int .u64 r14d])]), ((V.ref 500 0).ren (renF [(500, 500)]) = V.ref 500 0), (WkT (ti 2) (ti 2)), ((oc 65 [ty r12c, ti r12d, T.int .u64 r12e]) = (oc 65 [ty r12c, ti r12d, T.int .u64 r12e]).ren (renF [(500, 500)]))] [2004, 10120, 2002, 500] [(14, vb r14), (4, V.ref 2004 0), (3, V.t (T.nils)), (2, V.ref 2002 0), (0, V.ref 500 0)] [(500, oc 65 [ty r14b, ti r14c, T.int .u64 r14d]), (2002, oc 26 [T.nils, ti 0]), (2004, ov 26 [vo 10120 (List.length r12), vi r12b]), (10120, oc 3 (List.map (ti) r12))] ⟨(F_p_spec_l1Cur_one_W r12c r12d r12e (2 : Int) r14 r14b r14c r14d c1), by first | rfl | (simp [V.ren, V.renL, renF, lk]; done) | (simp [V.ren, V.renL, renF, lk]; omega), WkT.refl _, rfl, trivial⟩ ?_
  rcases ite_some h with ⟨h1, h⟩ | ⟨h1, h⟩
  ·refine WP.yes h1 rfl ?_
   obtain ⟨r16, r16b, r16c, r16d, c2, h⟩ := bnd4_some h
   obtain ⟨c3, h⟩ := chk_some h
   obtain ⟨r19, r19b, r19c, r19d, c4, h⟩ := bnd4_some h
   obtain ⟨r20, r20b, c5, h⟩ := bnd2_some h
   refine WP.qk tm [(16, An.callG [(500, 500)] [V.ref 500 0, vi 6] [(500, oc 65 [ty r14b, ti r14c, T.int .u64 r14d])] (vi r16) [(500, oc 65 [ty r16b, ti r16c, T.int .u64 r16d])]), (17, An.v (ti ((2 : Int) + r16))), (19, An.callG [(500, 500)] [V.ref 500 0, vi 3] [(500, oc 65 [ty r16b, ti r16c, T.int .u64 r16d])] (vi r19) [(500, oc 65 [ty r19b, ti r19c, T.int .u64 r19d])]), (20, An.callG [(9000, 10200)] [vi ((2 : Int) + r16), vi r19] [] (V.agg [vo 9000 (List.length r20), vi r20b]) [(9000, oc 3 (List.map (ti) r20))])] [(CG Tryz.prog 70 [V.ref 500 0, vi 6] [(500, oc 65 [ty r14b, ti r14c, T.int .u64 r14d])] (vi r16) [(500, oc 65 [ty r16b, ti r16c, T.int .u64 r16d])]), ((V.ref 500 0).ren (renF [(500, 500)]) = V.ref 500 0), (WkT (ti 6) (ti 6)), ((oc 65 [ty r14b, ti r14c, T.int .u64 r14d]) = (oc 65 [ty r14b, ti r14c, T.int .u64 r14d]).ren (renF [(500, 500)])), (True), (wr ((2 : Int) + r16)), (CG Tryz.prog 70 [V.ref 500 0, vi 3] [(500, oc 65 [ty r16b, ti r16c, T.int .u64 r16d])] (vi r19) [(500, oc 65 [ty r19b, ti r19c, T.int .u64 r19d])]), ((V.ref 500 0).ren (renF [(500, 500)]) = V.ref 500 0), (WkT (ti 3) (ti 3)), ((oc 65 [ty r16b, ti r16c, T.int .u64 r16d]) = (oc 65 [ty r16b, ti r16c, T.int .u64 r16d]).ren (renF [(500, 500)])), (CG Tryz.prog 102 [vi ((2 : Int) + r16), vi r19] [] (V.agg [vo 9000 (List.length r20), vi r20b]) [(9000, oc 3 (List.map (ti) r20))]), (WkT (ti ((2 : Int) + r16)) (ti ((2 : Int) + r16))), (WkT (ti r19) (ti r19)), ((0 + 2 ≤ 2 ∧ 2 = 2))] [(4, V.ref 2004 0), (3, V.t (T.nils)), (2, V.ref 2002 0), (0, V.ref 500 0)] [(500, oc 65 [ty r19b, ti r19c, T.int .u64 r19d]), (2002, oc 26 [T.nils, ti 0]), (2004, ov 26 [vo 10200 (List.length r20), vi r20b]), (10200, oc 3 (List.map (ti) r20))] ⟨(F_p_spec_l1Cur_pick_W r14b r14c r14d (6 : Int) r16 r16b r16c r16d c2), by first | rfl | (simp [V.ren, V.renL, renF, lk]; done) | (simp [V.ren, V.renL, renF, lk]; omega), WkT.refl _, rfl, trivial, wrapI c3, (F_p_spec_l1Cur_pick_W r16b r16c r16d (3 : Int) r19 r19b r19c r19d c4), by first | rfl | (simp [V.ren, V.renL, renF, lk]; done) | (simp [V.ren, V.renL, renF, lk]; omega), WkT.refl _, rfl, (F_spec_l2Start_W ((2 : Int) + r16) r19 r20 r20b c5), WkT.refl _, WkT.refl _, by decide, trivial⟩ ?_
   exact ⟨(r19b, r19c, r19d, r20, r20b), h, rfl⟩
  ·refine WP.no h1 rfl ?_
   refine WP.nk tm [] [(500, 500), (2002, 2002), (2004, 2004), (10120, 10200)] .normal [] [(4, V.ref 2004 0), (3, V.t (T.nils)), (2, V.ref 2002 0), (0, V.ref 500 0)] [(500, oc 65 [ty r14b, ti r14c, T.int .u64 r14d]), (2002, oc 26 [T.nils, ti 0]), (2004, ov 26 [vo 10200 (List.length r12), vi r12b]), (10200, oc 3 (List.map (ti) r12))] trivial ?_
   exact ⟨(r14b, r14c, r14d, r12, r12b), h, rfl⟩
 ·rintro ⟨o500, o500b, o500c, o10200, o4⟩ h0
  have h := (show J1 o500 o500b o500c o10200 o4 = some (y0, y1, y2, y3, y4, y5) from h0)
  rw [hJ1] at h
  refine WP.sn tm [(21, An.id 2021)] [(True), (0 = 0 * 1), (True)] [2021, 500, 2002, 2004, 10200] [(6, vi (ln o10200)), (5, vo 2021 0), (4, V.ref 2004 0), (3, V.t (T.nils)), (2, V.ref 2002 0), (0, V.ref 500 0)] [(500, oc 65 [ty o500, ti o500b, T.int .u64 o500c]), (2002, oc 26 [T.nils, ti 0]), (2004, ov 26 [vo 10200 (List.length o10200), vi o4]), (2021, oc 3 []), (10200, oc 3 (List.map (ti) o10200))] ⟨trivial, by decide, trivial, trivial⟩ ?_
  obtain ⟨J1, hJ1, h⟩ := jn_some h
  refine WP.joinA (fun (zz : (List Int) × Int × Int × (List Int)) => ⟨[500, 2002, 2004, 2021, 10200], [(6, vi (ln o10200)), (5, vo 2021 (List.length zz.2.2.2)), (4, V.ref 2004 0), (3, V.t (T.nils)), (2, V.ref 2002 0), (0, V.ref 500 0)], [(500, oc 65 [ty zz.1, ti zz.2.1, T.int .u64 zz.2.2.1]), (2002, oc 26 [T.nils, ti 0]), (2004, ov 26 [vo 10200 (List.length o10200), vi o4]), (2021, oc 3 (List.map (ti) zz.2.2.2)), (10200, oc 3 (List.map (ti) o10200))]⟩) (fun zz => J1 zz.1 zz.2.1 zz.2.2.1 zz.2.2.2 = some (y0, y1, y2, y3, y4, y5)) ?_ ?_
  ·refine WP.seq ?_
   obtain ⟨r27, r27b, r27c, r27d, c1, h⟩ := bnd4_some h
   refine WP.pn tm [(26, An.fz), (27, An.callG [(500, 500)] [V.ref 500 0, vl [(3 : Int), (4 : Int), (2 : Int), (5 : Int), (1 : Int), (0 : Int), (6 : Int), (8 : Int)]] [(500, oc 65 [ty o500, ti o500b, T.int .u64 o500c])] (vi r27) [(500, oc 65 [ty r27b, ti r27c, T.int .u64 r27d])])] [((1 = 1 ∧ 0 + 1 ≤ 8) ∧ (1 = 1 ∧ 1 + 1 ≤ 8) ∧ (1 = 1 ∧ 2 + 1 ≤ 8) ∧ (1 = 1 ∧ 3 + 1 ≤ 8) ∧ (1 = 1 ∧ 4 + 1 ≤ 8) ∧ (1 = 1 ∧ 5 + 1 ≤ 8) ∧ (1 = 1 ∧ 6 + 1 ≤ 8) ∧ (1 = 1 ∧ 7 + 1 ≤ 8) ∧ True), (8 = 8 * 1), (CG Tryz.prog 98 [V.ref 500 0, vl [(3 : Int), (4 : Int), (2 : Int), (5 : Int), (1 : Int), (0 : Int), (6 : Int), (8 : Int)]] [(500, oc 65 [ty o500, ti o500b, T.int .u64 o500c])] (vi r27) [(500, oc 65 [ty r27b, ti r27c, T.int .u64 r27d])]), ((V.ref 500 0).ren (renF [(500, 500)]) = V.ref 500 0), (WkT (T.list 8 1 [ti 3, ti 4, ti 2, ti 5, ti 1, ti 0, ti 6, ti 8]) (tl [(3 : Int), (4 : Int), (2 : Int), (5 : Int), (1 : Int), (0 : Int), (6 : Int), (8 : Int)])), ((oc 65 [ty o500, ti o500b, T.int .u64 o500c]) = (oc 65 [ty o500, ti o500b, T.int .u64 o500c]).ren (renF [(500, 500)]))] [2021, 500, 2002, 2004, 10200] [(7, vi r27), (6, vi (ln o10200)), (5, vo 2021 0), (4, V.ref 2004 0), (3, V.t (T.nils)), (2, V.ref 2002 0), (0, V.ref 500 0)] [(500, oc 65 [ty r27b, ti r27c, T.int .u64 r27d]), (2002, oc 26 [T.nils, ti 0]), (2004, ov 26 [vo 10200 (List.length o10200), vi o4]), (2021, oc 3 []), (10200, oc 3 (List.map (ti) o10200))] ⟨⟨⟨by first | rfl | (simp; done) | (simp []; done) | omega, by first | decide | (simp; done) | (simp []; done) | omega | (simp only [tlL]; omega) | (simp; omega)⟩, ⟨by first | rfl | (simp; done) | (simp []; done) | omega, by first | decide | (simp; done) | (simp []; done) | omega | (simp only [tlL]; omega) | (simp; omega)⟩, ⟨by first | rfl | (simp; done) | (simp []; done) | omega, by first | decide | (simp; done) | (simp []; done) | omega | (simp only [tlL]; omega) | (simp; omega)⟩, ⟨by first | rfl | (simp; done) | (simp []; done) | omega, by first | decide | (simp; done) | (simp []; done) | omega | (simp only [tlL]; omega) | (simp; omega)⟩, ⟨by first | rfl | (simp; done) | (simp []; done) | omega, by first | decide | (simp; done) | (simp []; done) | omega | (simp only [tlL]; omega) | (simp; omega)⟩, ⟨by first | rfl | (simp; done) | (simp []; done) | omega, by first | decide | (simp; done) | (simp []; done) | omega | (simp only [tlL]; omega) | (simp; omega)⟩, ⟨by first | rfl | (simp; done) | (simp []; done) | omega, by first | decide | (simp; done) | (simp []; done) | omega | (simp only [tlL]; omega) | (simp; omega)⟩, ⟨by first | rfl | (simp; done) | (simp []; done) | omega, by first | decide | (simp; done) | (simp []; done) | omega | (simp only [tlL]; omega) | (simp; omega)⟩, trivial⟩, by decide, (F_p_spec_l1Cur_among_W o500 o500b o500c [(3 : Int), (4 : Int), (2 : Int), (5 : Int), (1 : Int), (0 : Int), (6 : Int), (8 : Int)] r27 r27b r27c r27d c1), by first | rfl | (simp [V.ren, V.renL, renF, lk]; done) | (simp [V.ren, V.renL, renF, lk]; omega), WkT.eq (WkT.refl _) (by first | rfl | (simp only [tlS, tl, vl, vo, oc, ov, tbl, vbl, ty, vy] <;> rfl) | (simp <;> omega) | (simp []; done) | (rw [List.take_of_length_le (by simp [])] <;> rfl) | (simp [List.take_of_length_le]; done)), rfl, trivial⟩ ?_
   refine WP.block ?_
   refine WP.lp (α := Nat × (List Int) × Int × Int × (List Int) × Int) (fun zz => ⟨[500, 2002, 2004, 2021, 10200], [(7, vi zz.2.2.2.2.2), (6, vi (ln o10200)), (5, vo 2021 (List.length zz.2.2.2.2.1)), (4, V.ref 2004 0), (3, V.t (T.nils)), (2, V.ref 2002 0), (0, V.ref 500 0)], [(500, oc 65 [ty zz.2.1, ti zz.2.2.1, T.int .u64 zz.2.2.2.1]), (2002, oc 26 [T.nils, ti 0]), (2004, ov 26 [vo 10200 (List.length o10200), vi o4]), (2021, oc 3 (List.map (ti) zz.2.2.2.2.1)), (10200, oc 3 (List.map (ti) o10200))]⟩) (fun zz => F_p_spec_l1Cur_fixed_L1 o10200 J1 zz.1 zz.2.1 zz.2.2.1 zz.2.2.2.1 zz.2.2.2.2.1 zz.2.2.2.2.2 = some (y0, y1, y2, y3, y4, y5)) (fun zz => zz.1) (fuel, r27b, r27c, r27d, ([] : List Int), r27) h ?_
   rintro ⟨n, o500d, o500e, o500g, o21, v7⟩ h0
   have h := (show F_p_spec_l1Cur_fixed_L1 o10200 J1 n o500d o500e o500g o21 v7 = some (y0, y1, y2, y3, y4, y5) from h0)
   rcases n with _ | n
   ·rw [F_p_spec_l1Cur_fixed_L1] at h; cases h
   ·rw [F_p_spec_l1Cur_fixed_L1] at h
    refine WP.seq ?_
    refine WP.sk tm [] [(True)] [(29, vb (decide (v7 > (0 : Int)))), (7, vi v7), (6, vi (ln o10200)), (5, vo 2021 (List.length o21)), (4, V.ref 2004 0), (3, V.t (T.nils)), (2, V.ref 2002 0), (0, V.ref 500 0)] [(500, oc 65 [ty o500d, ti o500e, T.int .u64 o500g]), (2002, oc 26 [T.nils, ti 0]), (2004, ov 26 [vo 10200 (List.length o10200), vi o4]), (2021, oc 3 (List.map (ti) o21)), (10200, oc 3 (List.map (ti) o10200))] ⟨trivial, trivial⟩ ?_
    rcases ite_some h with ⟨h2, h⟩ | ⟨h2, h⟩
    ·refine WP.yes h2 rfl ?_
     refine WP.pk tm [] [] [(7, vi v7), (6, vi (ln o10200)), (5, vo 2021 (List.length o21)), (4, V.ref 2004 0), (3, V.t (T.nils)), (2, V.ref 2002 0), (0, V.ref 500 0)] [(500, oc 65 [ty o500d, ti o500e, T.int .u64 o500g]), (2002, oc 26 [T.nils, ti 0]), (2004, ov 26 [vo 10200 (List.length o10200), vi o4]), (2021, oc 3 (List.map (ti) o21)), (10200, oc 3 (List.map (ti) o10200))] trivial ?_
     refine WP.seq ?_
     refine WP.block ?_
     obtain ⟨r35, r35b, r35c, r35d, c2, h⟩ := bnd4_some h
     obtain ⟨c3, h⟩ := chk_some h
     refine WP.pn tm [(35, An.callG [(500, 500)] [V.ref 500 0, vi (ln o10200)] [(500, oc 65 [ty o500d, ti o500e, T.int .u64 o500g])] (vi r35) [(500, oc 65 [ty r35b, ti r35c, T.int .u64 r35d])]), (36, An.fz), (37, An.id 2037)] [(CG Tryz.prog 108 [V.ref 500 0, vi (ln o10200)] [(500, oc 65 [ty o500d, ti o500e, T.int .u64 o500g])] (vi r35) [(500, oc 65 [ty r35b, ti r35c, T.int .u64 r35d])]), ((V.ref 500 0).ren (renF [(500, 500)]) = V.ref 500 0), (WkT (ti (ln o10200)) (ti (ln o10200))), ((oc 65 [ty o500d, ti o500e, T.int .u64 o500g]) = (oc 65 [ty o500d, ti o500e, T.int .u64 o500g]).ren (renF [(500, 500)])), ((1 = 1 ∧ 0 + 1 ≤ 1) ∧ True), (1 = 1 * 1), (True), (List.length (List.map (ti) o21) = (List.length o21) * 1), ((((List.length o21) + 1) * 8 ≤ 140737488355328 ∧ (List.length o21) + 1 ≤ maxLen))] [2037, 500, 2002, 2004, 2021, 10200] [(5, vo 2037 ((List.length o21) + 1)), (7, vi v7), (6, vi (ln o10200)), (4, V.ref 2004 0), (3, V.t (T.nils)), (2, V.ref 2002 0), (0, V.ref 500 0)] [(500, oc 65 [ty r35b, ti r35c, T.int .u64 r35d]), (2002, oc 26 [T.nils, ti 0]), (2004, ov 26 [vo 10200 (List.length o10200), vi o4]), (2037, oc 3 ((List.map (ti) o21) ++ [ti r35])), (10200, oc 3 (List.map (ti) o10200))] ⟨(F_p_spec_l1Cur_question_W o500d o500e o500g (ln o10200) r35 r35b r35c r35d c2), by first | rfl | (simp [V.ren, V.renL, renF, lk]; done) | (simp [V.ren, V.renL, renF, lk]; omega), WkT.refl _, rfl, ⟨⟨by first | rfl | (simp; done) | (simp []; done) | omega, by first | decide | (simp; done) | (simp []; done) | omega | (simp only [tlL]; omega) | (simp; omega)⟩, trivial⟩, by decide, trivial, by first | rfl | omega | (simp only [tlL] <;> omega) | (simp <;> omega) | (simp [] <;> omega), c3, trivial⟩ ?_
     obtain ⟨c4, h⟩ := chk_some h
     refine WP.nk tm [(31, An.v (ti (v7 - 1)))] [(500, 500), (2002, 2002), (2004, 2004), (2037, 2021), (10200, 10200)] .normal [(True), (wr (v7 - 1))] [(7, vi (v7 - 1)), (6, vi (ln o10200)), (5, vo 2021 ((List.length o21) + 1)), (4, V.ref 2004 0), (3, V.t (T.nils)), (2, V.ref 2002 0), (0, V.ref 500 0)] [(500, oc 65 [ty r35b, ti r35c, T.int .u64 r35d]), (2002, oc 26 [T.nils, ti 0]), (2004, ov 26 [vo 10200 (List.length o10200), vi o4]), (2021, oc 3 ((List.map (ti) o21) ++ [ti r35])), (10200, oc 3 (List.map (ti) o10200))] ⟨trivial, wrapI c4, trivial⟩ ?_
     exact ⟨(n, r35b, r35c, r35d, o21 ++ [r35], (v7 - 1)), h, Nat.lt_succ_self _, (by first | rfl | (simp only [tlS, tl, vl, vo, oc, ov, tbl, vbl, ty, vy] <;> rfl) | (simp <;> omega) | (simp []; done) | (rw [List.take_of_length_le (by simp [])] <;> rfl) | (simp [List.take_of_length_le]; done))⟩
    ·refine WP.no h2 rfl ?_
     refine WP.eq tm [] 0 [] [(6, vi (ln o10200)), (5, vo 2021 (List.length o21)), (4, V.ref 2004 0), (3, V.t (T.nils)), (2, V.ref 2002 0), (0, V.ref 500 0)] [(500, oc 65 [ty o500d, ti o500e, T.int .u64 o500g]), (2002, oc 26 [T.nils, ti 0]), (2004, ov 26 [vo 10200 (List.length o10200), vi o4]), (2021, oc 3 (List.map (ti) o21)), (10200, oc 3 (List.map (ti) o10200))] trivial ?_
     exact ⟨(o500d, o500e, o500g, o21), h, rfl⟩
  ·rintro ⟨o500d, o500e, o500g, o21⟩ h0
   have h := (show J1 o500d o500e o500g o21 = some (y0, y1, y2, y3, y4, y5) from h0)
   rw [hJ1] at h
   obtain ⟨J1, hJ1, h⟩ := jn_some h
   refine WP.joinA (fun (zz : (List Int) × Int × Int × (List Int)) => ⟨[500, 2002, 2004, 10200], [(5, vl zz.2.2.2), (4, V.ref 2004 0), (3, V.t (T.nils)), (2, V.ref 2002 0), (0, V.ref 500 0)], [(500, oc 65 [ty zz.1, ti zz.2.1, T.int .u64 zz.2.2.1]), (2002, oc 26 [T.nils, ti 0]), (2004, ov 26 [vo 10200 (List.length o10200), vi o4]), (10200, oc 3 (List.map (ti) o10200))]⟩) (fun zz => J1 zz.1 zz.2.1 zz.2.2.1 zz.2.2.2 = some (y0, y1, y2, y3, y4, y5)) ?_ ?_
   ·obtain ⟨J2, hJ2, h⟩ := jn_some h
    refine WP.joinA (fun (zz : (List Int) × Int × Int × Bool) => ⟨[500, 2002, 2004, 2021, 10200], [(43, vb zz.2.2.2), (6, vi (ln o10200)), (5, vo 2021 (List.length o21)), (4, V.ref 2004 0), (3, V.t (T.nils)), (2, V.ref 2002 0), (0, V.ref 500 0)], [(500, oc 65 [ty zz.1, ti zz.2.1, T.int .u64 zz.2.2.1]), (2002, oc 26 [T.nils, ti 0]), (2004, ov 26 [vo 10200 (List.length o10200), vi o4]), (2021, oc 3 (List.map (ti) o21)), (10200, oc 3 (List.map (ti) o10200))]⟩) (fun zz => J2 zz.1 zz.2.1 zz.2.2.1 zz.2.2.2 = some (y0, y1, y2, y3, y4, y5)) ?_ ?_
    ·obtain ⟨r39, r39b, r39c, r39d, c1, h⟩ := bnd4_some h
     rcases ite_some h with ⟨h3, h⟩ | ⟨h3, h⟩
     ·refine WP.qk tm [(39, An.callG [(500, 500)] [V.ref 500 0, vi 3] [(500, oc 65 [ty o500d, ti o500e, T.int .u64 o500g])] (vb r39) [(500, oc 65 [ty r39b, ti r39c, T.int .u64 r39d])]), (40, An.b true), (42, An.call (tb (decide ((ln o10200) ≥ (1 : Int)) && decide ((ln o10200) ≤ (8 : Int)))))] [(CG Tryz.prog 47 [V.ref 500 0, vi 3] [(500, oc 65 [ty o500d, ti o500e, T.int .u64 o500g])] (vb r39) [(500, oc 65 [ty r39b, ti r39c, T.int .u64 r39d])]), ((V.ref 500 0).ren (renF [(500, 500)]) = V.ref 500 0), (WkT (ti 3) (ti 3)), ((oc 65 [ty o500d, ti o500e, T.int .u64 o500g]) = (oc 65 [ty o500d, ti o500e, T.int .u64 o500g]).ren (renF [(500, 500)])), ((r39) = true), (C Tryz.prog 101 [ti (ln o10200), ti 1, ti 8] (tb (decide ((ln o10200) ≥ (1 : Int)) && decide ((ln o10200) ≤ (8 : Int)))))] [(43, vb (decide ((ln o10200) ≥ (1 : Int)) && decide ((ln o10200) ≤ (8 : Int)))), (6, vi (ln o10200)), (5, vo 2021 (List.length o21)), (4, V.ref 2004 0), (3, V.t (T.nils)), (2, V.ref 2002 0), (0, V.ref 500 0)] [(500, oc 65 [ty r39b, ti r39c, T.int .u64 r39d]), (2002, oc 26 [T.nils, ti 0]), (2004, ov 26 [vo 10200 (List.length o10200), vi o4]), (2021, oc 3 (List.map (ti) o21)), (10200, oc 3 (List.map (ti) o10200))] ⟨(F_p_spec_l1Cur_one_W o500d o500e o500g (3 : Int) r39 r39b r39c r39d c1), by first | rfl | (simp [V.ren, V.renL, renF, lk]; done) | (simp [V.ren, V.renL, renF, lk]; omega), WkT.refl _, rfl, h3, (by have hh := (l1In_C (ln o10200) (1 : Int) (8 : Int)); first | exact hh | simpa using hh), trivial⟩ ?_
      exact ⟨(r39b, r39c, r39d, decide ((ln o10200) ≥ (1 : Int)) && decide ((ln o10200) ≤ (8 : Int))), h, rfl⟩
     ·refine WP.qk tm [(39, An.callG [(500, 500)] [V.ref 500 0, vi 3] [(500, oc 65 [ty o500d, ti o500e, T.int .u64 o500g])] (vb r39) [(500, oc 65 [ty r39b, ti r39c, T.int .u64 r39d])]), (40, An.b false)] [(CG Tryz.prog 47 [V.ref 500 0, vi 3] [(500, oc 65 [ty o500d, ti o500e, T.int .u64 o500g])] (vb r39) [(500, oc 65 [ty r39b, ti r39c, T.int .u64 r39d])]), ((V.ref 500 0).ren (renF [(500, 500)]) = V.ref 500 0), (WkT (ti 3) (ti 3)), ((oc 65 [ty o500d, ti o500e, T.int .u64 o500g]) = (oc 65 [ty o500d, ti o500e, T.int .u64 o500g]).ren (renF [(500, 500)])), ((r39) = false)] [(43, vb false), (6, vi (ln o10200)), (5, vo 2021 (List.length o21)), (4, V.ref 2004 0), (3, V.t (T.nils)), (2, V.ref 2002 0), (0, V.ref 500 0)] [(500, oc 65 [ty r39b, ti r39c, T.int .u64 r39d]), (2002, oc 26 [T.nils, ti 0]), (2004, ov 26 [vo 10200 (List.length o10200), vi o4]), (2021, oc 3 (List.map (ti) o21)), (10200, oc 3 (List.map (ti) o10200))] ⟨(F_p_spec_l1Cur_one_W o500d o500e o500g (3 : Int) r39 r39b r39c r39d c1), by first | rfl | (simp [V.ren, V.renL, renF, lk]; done) | (simp [V.ren, V.renL, renF, lk]; omega), WkT.refl _, rfl, h3, trivial⟩ ?_
      exact ⟨(r39b, r39c, r39d, false), h, rfl⟩
    ·rintro ⟨o500i, o500j, o500k, v43⟩ h0
     have h := (show J2 o500i o500j o500k v43 = some (y0, y1, y2, y3, y4, y5) from h0)
     rw [hJ2] at h
     rcases ite_some h with ⟨h4, h⟩ | ⟨h4, h⟩
     ·refine WP.yes h4 rfl ?_
      refine WP.sn tm [(44, An.id 2044)] [(True), (0 = 0 * 1)] [2044, 500, 2002, 2004, 2021, 10200] [(5, vo 2044 0), (6, vi (ln o10200)), (4, V.ref 2004 0), (3, V.t (T.nils)), (2, V.ref 2002 0), (0, V.ref 500 0)] [(500, oc 65 [ty o500i, ti o500j, T.int .u64 o500k]), (2002, oc 26 [T.nils, ti 0]), (2004, ov 26 [vo 10200 (List.length o10200), vi o4]), (2044, oc 3 []), (10200, oc 3 (List.map (ti) o10200))] ⟨trivial, by decide, trivial⟩ ?_
      obtain ⟨J2, hJ2, h⟩ := jn_some h
      refine WP.joinA (fun (zz : (List Int)) => ⟨[500, 2002, 2004, 2044, 10200], [(5, vo 2044 (List.length zz)), (4, V.ref 2004 0), (3, V.t (T.nils)), (2, V.ref 2002 0), (0, V.ref 500 0)], [(500, oc 65 [ty o500i, ti o500j, T.int .u64 o500k]), (2002, oc 26 [T.nils, ti 0]), (2004, ov 26 [vo 10200 (List.length o10200), vi o4]), (2044, oc 3 (List.map (ti) zz)), (10200, oc 3 (List.map (ti) o10200))]⟩) (fun zz => J2 zz = some (y0, y1, y2, y3, y4, y5)) ?_ ?_
      ·refine WP.sn tm [] [] [2044, 500, 2002, 2004, 2021, 10200] [(8, vi 0), (5, vo 2044 0), (6, vi (ln o10200)), (4, V.ref 2004 0), (3, V.t (T.nils)), (2, V.ref 2002 0), (0, V.ref 500 0)] [(500, oc 65 [ty o500i, ti o500j, T.int .u64 o500k]), (2002, oc 26 [T.nils, ti 0]), (2004, ov 26 [vo 10200 (List.length o10200), vi o4]), (2044, oc 3 []), (10200, oc 3 (List.map (ti) o10200))] trivial ?_
       refine WP.block ?_
       refine WP.lp (α := Nat × (List Int) × Int) (fun zz => ⟨[500, 2002, 2004, 2044, 10200], [(8, vi zz.2.2), (5, vo 2044 (List.length zz.2.1)), (6, vi (ln o10200)), (4, V.ref 2004 0), (3, V.t (T.nils)), (2, V.ref 2002 0), (0, V.ref 500 0)], [(500, oc 65 [ty o500i, ti o500j, T.int .u64 o500k]), (2002, oc 26 [T.nils, ti 0]), (2004, ov 26 [vo 10200 (List.length o10200), vi o4]), (2044, oc 3 (List.map (ti) zz.2.1)), (10200, oc 3 (List.map (ti) o10200))]⟩) (fun zz => F_p_spec_l1Cur_fixed_L2 o10200 J2 zz.1 zz.2.1 zz.2.2 = some (y0, y1, y2, y3, y4, y5)) (fun zz => zz.1) (fuel, ([] : List Int), (0 : Int)) h ?_
       rintro ⟨n, o44, v8⟩ h0
       have h := (show F_p_spec_l1Cur_fixed_L2 o10200 J2 n o44 v8 = some (y0, y1, y2, y3, y4, y5) from h0)
       rcases n with _ | n
       ·rw [F_p_spec_l1Cur_fixed_L2] at h; cases h
       ·rw [F_p_spec_l1Cur_fixed_L2] at h
        refine WP.seq ?_
        obtain ⟨J3, hJ3, h⟩ := jn_some h
        refine WP.joinA (fun (zz : Bool) => ⟨[500, 2002, 2004, 2044, 10200], [(51, vb zz), (8, vi v8), (5, vo 2044 (List.length o44)), (6, vi (ln o10200)), (4, V.ref 2004 0), (3, V.t (T.nils)), (2, V.ref 2002 0), (0, V.ref 500 0)], [(500, oc 65 [ty o500i, ti o500j, T.int .u64 o500k]), (2002, oc 26 [T.nils, ti 0]), (2004, ov 26 [vo 10200 (List.length o10200), vi o4]), (2044, oc 3 (List.map (ti) o44)), (10200, oc 3 (List.map (ti) o10200))]⟩) (fun zz => J3 zz = some (y0, y1, y2, y3, y4, y5)) ?_ ?_
        ·rcases ite_some h with ⟨h5, h⟩ | ⟨h5, h⟩
         ·refine WP.qk tm [(46, An.b true)] [(True), ((decide (v8 < (8 : Int))) = true), (True)] [(51, vb (decide ((ln o44) < (8 : Int)))), (8, vi v8), (5, vo 2044 (List.length o44)), (6, vi (ln o10200)), (4, V.ref 2004 0), (3, V.t (T.nils)), (2, V.ref 2002 0), (0, V.ref 500 0)] [(500, oc 65 [ty o500i, ti o500j, T.int .u64 o500k]), (2002, oc 26 [T.nils, ti 0]), (2004, ov 26 [vo 10200 (List.length o10200), vi o4]), (2044, oc 3 (List.map (ti) o44)), (10200, oc 3 (List.map (ti) o10200))] ⟨trivial, h5, trivial, trivial⟩ ?_
          exact ⟨(decide ((ln o44) < (8 : Int))), h, rfl⟩
         ·refine WP.qk tm [(46, An.b false)] [(True), ((decide (v8 < (8 : Int))) = false)] [(51, vb false), (8, vi v8), (5, vo 2044 (List.length o44)), (6, vi (ln o10200)), (4, V.ref 2004 0), (3, V.t (T.nils)), (2, V.ref 2002 0), (0, V.ref 500 0)] [(500, oc 65 [ty o500i, ti o500j, T.int .u64 o500k]), (2002, oc 26 [T.nils, ti 0]), (2004, ov 26 [vo 10200 (List.length o10200), vi o4]), (2044, oc 3 (List.map (ti) o44)), (10200, oc 3 (List.map (ti) o10200))] ⟨trivial, h5, trivial⟩ ?_
          exact ⟨(false), h, rfl⟩
        ·intro v51 h0
         have h := (show J3 v51 = some (y0, y1, y2, y3, y4, y5) from h0)
         rw [hJ3] at h
         rcases ite_some h with ⟨h6, h⟩ | ⟨h6, h⟩
         ·refine WP.yes h6 rfl ?_
          refine WP.pk tm [] [] [(8, vi v8), (5, vo 2044 (List.length o44)), (6, vi (ln o10200)), (4, V.ref 2004 0), (3, V.t (T.nils)), (2, V.ref 2002 0), (0, V.ref 500 0)] [(500, oc 65 [ty o500i, ti o500j, T.int .u64 o500k]), (2002, oc 26 [T.nils, ti 0]), (2004, ov 26 [vo 10200 (List.length o10200), vi o4]), (2044, oc 3 (List.map (ti) o44)), (10200, oc 3 (List.map (ti) o10200))] trivial ?_
          obtain ⟨J3, hJ3, h⟩ := jn_some h
          refine WP.joinA (fun (zz : (List Int)) => ⟨[500, 2002, 2004, 2071, 10200], [(5, vo 2071 (List.length zz)), (8, vi v8), (6, vi (ln o10200)), (4, V.ref 2004 0), (3, V.t (T.nils)), (2, V.ref 2002 0), (0, V.ref 500 0)], [(500, oc 65 [ty o500i, ti o500j, T.int .u64 o500k]), (2002, oc 26 [T.nils, ti 0]), (2004, ov 26 [vo 10200 (List.length o10200), vi o4]), (2071, oc 3 (List.map (ti) zz)), (10200, oc 3 (List.map (ti) o10200))]⟩) (fun zz => J3 zz = some (y0, y1, y2, y3, y4, y5)) ?_ ?_
          ·refine WP.block ?_
           refine WP.sk tm [] [] [(9, vi 0), (8, vi v8), (5, vo 2044 (List.length o44)), (6, vi (ln o10200)), (4, V.ref 2004 0), (3, V.t (T.nils)), (2, V.ref 2002 0), (0, V.ref 500 0)] [(500, oc 65 [ty o500i, ti o500j, T.int .u64 o500k]), (2002, oc 26 [T.nils, ti 0]), (2004, ov 26 [vo 10200 (List.length o10200), vi o4]), (2044, oc 3 (List.map (ti) o44)), (10200, oc 3 (List.map (ti) o10200))] trivial ?_
           obtain ⟨J4, hJ4, h⟩ := jn_some h
           refine WP.joinA (fun (zz : Int) => ⟨[500, 2002, 2004, 2044, 10200], [(9, vi zz), (8, vi v8), (5, vo 2044 (List.length o44)), (6, vi (ln o10200)), (4, V.ref 2004 0), (3, V.t (T.nils)), (2, V.ref 2002 0), (0, V.ref 500 0)], [(500, oc 65 [ty o500i, ti o500j, T.int .u64 o500k]), (2002, oc 26 [T.nils, ti 0]), (2004, ov 26 [vo 10200 (List.length o10200), vi o4]), (2044, oc 3 (List.map (ti) o44)), (10200, oc 3 (List.map (ti) o10200))]⟩) (fun zz => J4 zz = some (y0, y1, y2, y3, y4, y5)) ?_ ?_
           ·refine WP.sk tm [] [] [(10, vi 0), (9, vi 0), (8, vi v8), (5, vo 2044 (List.length o44)), (6, vi (ln o10200)), (4, V.ref 2004 0), (3, V.t (T.nils)), (2, V.ref 2002 0), (0, V.ref 500 0)] [(500, oc 65 [ty o500i, ti o500j, T.int .u64 o500k]), (2002, oc 26 [T.nils, ti 0]), (2004, ov 26 [vo 10200 (List.length o10200), vi o4]), (2044, oc 3 (List.map (ti) o44)), (10200, oc 3 (List.map (ti) o10200))] trivial ?_
            refine WP.block ?_
            refine WP.lp (α := Nat × Int × Int) (fun zz => ⟨[500, 2002, 2004, 2044, 10200], [(10, vi zz.2.1), (9, vi zz.2.2), (8, vi v8), (5, vo 2044 (List.length o44)), (6, vi (ln o10200)), (4, V.ref 2004 0), (3, V.t (T.nils)), (2, V.ref 2002 0), (0, V.ref 500 0)], [(500, oc 65 [ty o500i, ti o500j, T.int .u64 o500k]), (2002, oc 26 [T.nils, ti 0]), (2004, ov 26 [vo 10200 (List.length o10200), vi o4]), (2044, oc 3 (List.map (ti) o44)), (10200, oc 3 (List.map (ti) o10200))]⟩) (fun zz => F_p_spec_l1Cur_fixed_L3 o10200 v8 J4 zz.1 zz.2.1 zz.2.2 = some (y0, y1, y2, y3, y4, y5)) (fun zz => zz.1) (fuel, (0 : Int), (0 : Int)) h ?_
            rintro ⟨n, v10, v9⟩ h0
            have h := (show F_p_spec_l1Cur_fixed_L3 o10200 v8 J4 n v10 v9 = some (y0, y1, y2, y3, y4, y5) from h0)
            rcases n with _ | n
            ·rw [F_p_spec_l1Cur_fixed_L3] at h; cases h
            ·rw [F_p_spec_l1Cur_fixed_L3] at h
             refine WP.seq ?_
             refine WP.sk tm [] [(True)] [(56, vb (decide (v10 < (ln o10200)))), (10, vi v10), (9, vi v9), (8, vi v8), (5, vo 2044 (List.length o44)), (6, vi (ln o10200)), (4, V.ref 2004 0), (3, V.t (T.nils)), (2, V.ref 2002 0), (0, V.ref 500 0)] [(500, oc 65 [ty o500i, ti o500j, T.int .u64 o500k]), (2002, oc 26 [T.nils, ti 0]), (2004, ov 26 [vo 10200 (List.length o10200), vi o4]), (2044, oc 3 (List.map (ti) o44)), (10200, oc 3 (List.map (ti) o10200))] ⟨trivial, trivial⟩ ?_
             rcases ite_some h with ⟨h7, h⟩ | ⟨h7, h⟩
             ·refine WP.yes h7 rfl ?_
              refine WP.pk tm [] [] [(10, vi v10), (9, vi v9), (8, vi v8), (5, vo 2044 (List.length o44)), (6, vi (ln o10200)), (4, V.ref 2004 0), (3, V.t (T.nils)), (2, V.ref 2002 0), (0, V.ref 500 0)] [(500, oc 65 [ty o500i, ti o500j, T.int .u64 o500k]), (2002, oc 26 [T.nils, ti 0]), (2004, ov 26 [vo 10200 (List.length o10200), vi o4]), (2044, oc 3 (List.map (ti) o44)), (10200, oc 3 (List.map (ti) o10200))] trivial ?_
              refine WP.seq ?_
              refine WP.block ?_
              obtain ⟨c1, h⟩ := chk_some h
              obtain ⟨n64, c2, h⟩ := nam_some h
              obtain ⟨c3, h⟩ := chk_some h
              obtain ⟨n67, c4, h⟩ := nam_some h
              refine WP.pk tm [(63, An.v (ti (v10 / 2 ^ Int.toNat (Int.tmod v8 (3 : Int))))), (64, An.v (ti n64)), (66, An.v (ti (n64 * 2 ^ Int.toNat v10))), (67, An.v (ti n67))] [((3 : Int) ≠ 0), (0 ≤ (Int.tmod v8 (3 : Int))), (ti (Int.fdiv v10 (2 ^ (min (Int.toNat (Int.tmod v8 (3 : Int))) 64))) = ti (v10 / 2 ^ Int.toNat (Int.tmod v8 (3 : Int)))), (True), (ti (bits .and .i64 (v10 / 2 ^ Int.toNat (Int.tmod v8 (3 : Int))) (1 : Int)) = ti n64), (0 ≤ v10), (ti (IntKind.wrap .i64 (n64 * 2 ^ (min (Int.toNat v10) 64))) = ti (n64 * 2 ^ Int.toNat v10)), (True), (ti (bits .or .i64 v9 (n64 * 2 ^ Int.toNat v10)) = ti n67)] [(9, vi n67), (10, vi v10), (8, vi v8), (5, vo 2044 (List.length o44)), (6, vi (ln o10200)), (4, V.ref 2004 0), (3, V.t (T.nils)), (2, V.ref 2002 0), (0, V.ref 500 0)] [(500, oc 65 [ty o500i, ti o500j, T.int .u64 o500k]), (2002, oc 26 [T.nils, ti 0]), (2004, ov 26 [vo 10200 (List.length o10200), vi o4]), (2044, oc 3 (List.map (ti) o44)), (10200, oc 3 (List.map (ti) o10200))] ⟨by decide, c1.1, shr_told c1, trivial, congrArg (ti) c2, c3.1, shl_told c3, trivial, congrArg (ti) c4, trivial⟩ ?_
              obtain ⟨c5, h⟩ := chk_some h
              refine WP.qk tm [(58, An.v (ti (v10 + 1)))] [(True), (wr (v10 + 1))] [(10, vi (v10 + 1)), (9, vi n67), (8, vi v8), (5, vo 2044 (List.length o44)), (6, vi (ln o10200)), (4, V.ref 2004 0), (3, V.t (T.nils)), (2, V.ref 2002 0), (0, V.ref 500 0)] [(500, oc 65 [ty o500i, ti o500j, T.int .u64 o500k]), (2002, oc 26 [T.nils, ti 0]), (2004, ov 26 [vo 10200 (List.length o10200), vi o4]), (2044, oc 3 (List.map (ti) o44)), (10200, oc 3 (List.map (ti) o10200))] ⟨trivial, wrapI c5, trivial⟩ ?_
              exact ⟨(n, (v10 + 1), n67), h, Nat.lt_succ_self _, rfl⟩
             ·refine WP.no h7 rfl ?_
              refine WP.eq tm [] 4 [] [(9, vi v9), (8, vi v8), (5, vo 2044 (List.length o44)), (6, vi (ln o10200)), (4, V.ref 2004 0), (3, V.t (T.nils)), (2, V.ref 2002 0), (0, V.ref 500 0)] [(500, oc 65 [ty o500i, ti o500j, T.int .u64 o500k]), (2002, oc 26 [T.nils, ti 0]), (2004, ov 26 [vo 10200 (List.length o10200), vi o4]), (2044, oc 3 (List.map (ti) o44)), (10200, oc 3 (List.map (ti) o10200))] trivial ?_
              exact ⟨(v9), h, rfl⟩
           ·intro v9 h0
            have h := (show J4 v9 = some (y0, y1, y2, y3, y4, y5) from h0)
            rw [hJ4] at h
            obtain ⟨c1, h⟩ := chk_some h
            refine WP.qk tm [(70, An.fz), (71, An.id 2071)] [((1 = 1 ∧ 0 + 1 ≤ 1) ∧ True), (1 = 1 * 1), (True), (List.length (List.map (ti) o44) = (List.length o44) * 1), ((((List.length o44) + 1) * 8 ≤ 140737488355328 ∧ (List.length o44) + 1 ≤ maxLen))] [(5, vo 2071 ((List.length o44) + 1)), (8, vi v8), (6, vi (ln o10200)), (4, V.ref 2004 0), (3, V.t (T.nils)), (2, V.ref 2002 0), (0, V.ref 500 0)] [(500, oc 65 [ty o500i, ti o500j, T.int .u64 o500k]), (2002, oc 26 [T.nils, ti 0]), (2004, ov 26 [vo 10200 (List.length o10200), vi o4]), (2071, oc 3 ((List.map (ti) o44) ++ [ti v9])), (10200, oc 3 (List.map (ti) o10200))] ⟨⟨⟨by first | rfl | (simp; done) | (simp []; done) | omega, by first | decide | (simp; done) | (simp []; done) | omega | (simp only [tlL]; omega) | (simp; omega)⟩, trivial⟩, by decide, trivial, by first | rfl | omega | (simp only [tlL] <;> omega) | (simp <;> omega) | (simp [] <;> omega), c1, trivial⟩ ?_
            exact ⟨(o44 ++ [v9]), h, (by first | rfl | (simp only [tlS, tl, vl, vo, oc, ov, tbl, vbl, ty, vy] <;> rfl) | (simp <;> omega) | (simp []; done) | (rw [List.take_of_length_le (by simp [])] <;> rfl) | (simp [List.take_of_length_le]; done))⟩
          ·intro o71 h0
           have h := (show J3 o71 = some (y0, y1, y2, y3, y4, y5) from h0)
           rw [hJ3] at h
           obtain ⟨c1, h⟩ := chk_some h
           refine WP.nk tm [(53, An.v (ti (v8 + 1)))] [(500, 500), (2002, 2002), (2004, 2004), (2071, 2044), (10200, 10200)] .normal [(True), (wr (v8 + 1))] [(8, vi (v8 + 1)), (5, vo 2044 (List.length o71)), (6, vi (ln o10200)), (4, V.ref 2004 0), (3, V.t (T.nils)), (2, V.ref 2002 0), (0, V.ref 500 0)] [(500, oc 65 [ty o500i, ti o500j, T.int .u64 o500k]), (2002, oc 26 [T.nils, ti 0]), (2004, ov 26 [vo 10200 (List.length o10200), vi o4]), (2044, oc 3 (List.map (ti) o71)), (10200, oc 3 (List.map (ti) o10200))] ⟨trivial, wrapI c1, trivial⟩ ?_
           exact ⟨(n, o71, (v8 + 1)), h, Nat.lt_succ_self _, rfl⟩
         ·refine WP.no h6 rfl ?_
          refine WP.eq tm [] 2 [] [(5, vo 2044 (List.length o44)), (4, V.ref 2004 0), (3, V.t (T.nils)), (2, V.ref 2002 0), (0, V.ref 500 0)] [(500, oc 65 [ty o500i, ti o500j, T.int .u64 o500k]), (2002, oc 26 [T.nils, ti 0]), (2004, ov 26 [vo 10200 (List.length o10200), vi o4]), (2044, oc 3 (List.map (ti) o44)), (10200, oc 3 (List.map (ti) o10200))] trivial ?_
          exact ⟨(o44), h, rfl⟩
      ·intro o44 h0
       have h := (show J2 o44 = some (y0, y1, y2, y3, y4, y5) from h0)
       rw [hJ2] at h
       obtain ⟨r74, r74b, r74c, r74d, c1, h⟩ := bnd4_some h
       obtain ⟨c2, h⟩ := chk_some h
       refine WP.path tab_ok mixed [(74, An.callG [(500, 500)] [V.ref 500 0, vi 9] [(500, oc 65 [ty o500i, ti o500j, T.int .u64 o500k])] (vi r74) [(500, oc 65 [ty r74b, ti r74c, T.int .u64 r74d])])] [.freeze 2044, .keep [5, 4, 3, 2, 0], .keepO [500, 2002, 2004, 10200], .names [(500, 500), (2002, 2002), (2004, 2004), (10200, 10200)]] (ps := [(CG Tryz.prog 70 [V.ref 500 0, vi 9] [(500, oc 65 [ty o500i, ti o500j, T.int .u64 o500k])] (vi r74) [(500, oc 65 [ty r74b, ti r74c, T.int .u64 r74d])]), ((V.ref 500 0).ren (renF [(500, 500)]) = V.ref 500 0), (WkT (ti 9) (ti 9)), ((oc 65 [ty o500i, ti o500j, T.int .u64 o500k]) = (oc 65 [ty o500i, ti o500j, T.int .u64 o500k]).ren (renF [(500, 500)])), ((0 ≤ (0 : Int) ∧ (0 : Int) ≤ r74 ∧ r74 ≤ (ln o44))), (0 + ((Int.toNat r74) - 0) * 1 ≤ List.length (List.map (ti) o44)), (0 + ((Int.toNat r74) - 0) * 1 ≤ List.length (List.map (ti) o44)), (List.length (List.map (ti) o44) = (List.length o44) * 1)]) (e := .normal) (σ' := ⟨[500, 2002, 2004, 10200], [(5, V.t (T.list ((Int.toNat r74) - 0) 1 (List.take (((Int.toNat r74) - 0) * 1) (List.map (ti) o44)))), (4, V.ref 2004 0), (3, V.t (T.nils)), (2, V.ref 2002 0), (0, V.ref 500 0)], [(500, oc 65 [ty r74b, ti r74c, T.int .u64 r74d]), (2002, oc 26 [T.nils, ti 0]), (2004, ov 26 [vo 10200 (List.length o10200), vi o4]), (10200, oc 3 (List.map (ti) o10200))]⟩) (by kernel_rfl) ⟨(F_p_spec_l1Cur_pick_W o500i o500j o500k (9 : Int) r74 r74b r74c r74d c1), by first | rfl | (simp [V.ren, V.renL, renF, lk]; done) | (simp [V.ren, V.renL, renF, lk]; omega), WkT.refl _, rfl, c2, by first | decide | omega | (simp only [tlL] <;> omega) | (simp <;> omega) | (simp [] <;> omega), by first | decide | omega | (simp only [tlL] <;> omega) | (simp <;> omega) | (simp [] <;> omega), by first | rfl | omega | (simp only [tlL] <;> omega) | (simp <;> omega) | (simp [] <;> omega), trivial⟩ ?_
       exact ⟨(r74b, r74c, r74d, List.take ((Int.toNat r74) - 0) o44), h, (by first | rfl | (simp only [tlS, tl, vl, vo, oc, ov, tbl, vbl, ty, vy] <;> rfl) | (simp <;> omega) | (simp []; done) | (rw [List.take_of_length_le (by simp [])] <;> rfl) | (simp [List.take_of_length_le]; done))⟩
     ·refine WP.no h4 rfl ?_
      refine WP.path tab_ok mixed [] [.freeze 2021, .keep [5, 4, 3, 2, 0], .keepO [500, 2002, 2004, 10200], .names [(500, 500), (2002, 2002), (2004, 2004), (10200, 10200)]] (ps := [(List.length (List.map (ti) o21) = (List.length o21) * 1)]) (e := .normal) (σ' := ⟨[500, 2002, 2004, 10200], [(5, vl o21), (4, V.ref 2004 0), (3, V.t (T.nils)), (2, V.ref 2002 0), (0, V.ref 500 0)], [(500, oc 65 [ty o500i, ti o500j, T.int .u64 o500k]), (2002, oc 26 [T.nils, ti 0]), (2004, ov 26 [vo 10200 (List.length o10200), vi o4]), (10200, oc 3 (List.map (ti) o10200))]⟩) (by kernel_rfl) ⟨by first | rfl | omega | (simp only [tlL] <;> omega) | (simp <;> omega) | (simp [] <;> omega), trivial⟩ ?_
      exact ⟨(o500i, o500j, o500k, o21), h, rfl⟩
   ·rintro ⟨o500i, o500j, o500k, v5⟩ h0
    have h := (show J1 o500i o500j o500k v5 = some (y0, y1, y2, y3, y4, y5) from h0)
    rw [hJ1] at h
    obtain ⟨J1, hJ1, h⟩ := jn_some h
    refine WP.joinA (fun (zz : (List Int) × Int × Int × (List Int)) => ⟨[500, 2002, 2004, 10200], [(5, vl zz.2.2.2), (4, V.ref 2004 0), (3, V.t (T.nils)), (2, V.ref 2002 0)], [(500, oc 65 [ty zz.1, ti zz.2.1, T.int .u64 zz.2.2.1]), (2002, oc 26 [T.nils, ti 0]), (2004, ov 26 [vo 10200 (List.length o10200), vi o4]), (10200, oc 3 (List.map (ti) o10200))]⟩) (fun zz => J1 zz.1 zz.2.1 zz.2.2.1 zz.2.2.2 = some (y0, y1, y2, y3, y4, y5)) ?_ ?_
    ·refine WP.seq ?_
     obtain ⟨r77, r77b, r77c, r77d, c1, h⟩ := bnd4_some h
     refine WP.pk tm [(77, An.callG [(500, 500)] [V.ref 500 0, vi 40] [(500, oc 65 [ty o500i, ti o500j, T.int .u64 o500k])] (vb r77) [(500, oc 65 [ty r77b, ti r77c, T.int .u64 r77d])])] [(CG Tryz.prog 47 [V.ref 500 0, vi 40] [(500, oc 65 [ty o500i, ti o500j, T.int .u64 o500k])] (vb r77) [(500, oc 65 [ty r77b, ti r77c, T.int .u64 r77d])]), ((V.ref 500 0).ren (renF [(500, 500)]) = V.ref 500 0), (WkT (ti 40) (ti 40)), ((oc 65 [ty o500i, ti o500j, T.int .u64 o500k]) = (oc 65 [ty o500i, ti o500j, T.int .u64 o500k]).ren (renF [(500, 500)]))] [(77, vb r77), (5, vl v5), (4, V.ref 2004 0), (3, V.t (T.nils)), (2, V.ref 2002 0)] [(500, oc 65 [ty r77b, ti r77c, T.int .u64 r77d]), (2002, oc 26 [T.nils, ti 0]), (2004, ov 26 [vo 10200 (List.length o10200), vi o4]), (10200, oc 3 (List.map (ti) o10200))] ⟨(F_p_spec_l1Cur_one_W o500i o500j o500k (40 : Int) r77 r77b r77c r77d c1), by first | rfl | (simp [V.ren, V.renL, renF, lk]; done) | (simp [V.ren, V.renL, renF, lk]; omega), WkT.refl _, rfl, trivial⟩ ?_
     rcases ite_some h with ⟨h8, h⟩ | ⟨h8, h⟩
     ·refine WP.yes h8 rfl ?_
      refine WP.path tab_ok mixed [(78, An.id 2078)] [.freeze 2078, .keep [5, 4, 3, 2], .keepO [500, 2002, 2004, 10200], .names [(500, 500), (2002, 2002), (2004, 2004), (10200, 10200)]] (ps := [((1 = 1 ∧ 0 + 1 ≤ 9) ∧ (1 = 1 ∧ 1 + 1 ≤ 9) ∧ (1 = 1 ∧ 2 + 1 ≤ 9) ∧ (1 = 1 ∧ 3 + 1 ≤ 9) ∧ (1 = 1 ∧ 4 + 1 ≤ 9) ∧ (1 = 1 ∧ 5 + 1 ≤ 9) ∧ (1 = 1 ∧ 6 + 1 ≤ 9) ∧ (1 = 1 ∧ 7 + 1 ≤ 9) ∧ (1 = 1 ∧ 8 + 1 ≤ 9) ∧ True), (9 = 9 * 1), (9 = 9 * 1), (9 = 9 * 1)]) (e := .normal) (σ' := ⟨[500, 2002, 2004, 10200], [(5, V.t (T.list 9 1 [ti 0, ti 0, ti 0, ti 0, ti 0, ti 0, ti 0, ti 0, ti 0])), (4, V.ref 2004 0), (3, V.t (T.nils)), (2, V.ref 2002 0)], [(500, oc 65 [ty r77b, ti r77c, T.int .u64 r77d]), (2002, oc 26 [T.nils, ti 0]), (2004, ov 26 [vo 10200 (List.length o10200), vi o4]), (10200, oc 3 (List.map (ti) o10200))]⟩) (by kernel_rfl) ⟨⟨⟨by first | rfl | (simp; done) | (simp []; done) | omega, by first | decide | (simp; done) | (simp []; done) | omega | (simp only [tlL]; omega) | (simp; omega)⟩, ⟨by first | rfl | (simp; done) | (simp []; done) | omega, by first | decide | (simp; done) | (simp []; done) | omega | (simp only [tlL]; omega) | (simp; omega)⟩, ⟨by first | rfl | (simp; done) | (simp []; done) | omega, by first | decide | (simp; done) | (simp []; done) | omega | (simp only [tlL]; omega) | (simp; omega)⟩, ⟨by first | rfl | (simp; done) | (simp []; done) | omega, by first | decide | (simp; done) | (simp []; done) | omega | (simp only [tlL]; omega) | (simp; omega)⟩, ⟨by first | rfl | (simp; done) | (simp []; done) | omega, by first | decide | (simp; done) | (simp []; done) | omega | (simp only [tlL]; omega) | (simp; omega)⟩, ⟨by first | rfl | (simp; done) | (simp []; done) | omega, by first | decide | (simp; done) | (simp []; done) | omega | (simp only [tlL]; omega) | (simp; omega)⟩, ⟨by first | rfl | (simp; done) | (simp []; done) | omega, by first | decide | (simp; done) | (simp []; done) | omega | (simp only [tlL]; omega) | (simp; omega)⟩, ⟨by first | rfl | (simp; done) | (simp []; done) | omega, by first | decide | (simp; done) | (simp []; done) | omega | (simp only [tlL]; omega) | (simp; omega)⟩, ⟨by first | rfl | (simp; done) | (simp []; done) | omega, by first | decide | (simp; done) | (simp []; done) | omega | (simp only [tlL]; omega) | (simp; omega)⟩, trivial⟩, by decide, by first | rfl | omega | (simp only [tlL] <;> omega) | (simp <;> omega) | (simp [] <;> omega), by first | rfl | omega | (simp only [tlL] <;> omega) | (simp <;> omega) | (simp [] <;> omega), trivial⟩ ?_
      exact ⟨(r77b, r77c, r77d, [(0 : Int), (0 : Int), (0 : Int), (0 : Int), (0 : Int), (0 : Int), (0 : Int), (0 : Int), (0 : Int)]), h, (by first | rfl | (simp only [tlS, tl, vl, vo, oc, ov, tbl, vbl, ty, vy] <;> rfl) | (simp <;> omega) | (simp []; done) | (rw [List.take_of_length_le (by simp [])] <;> rfl) | (simp [List.take_of_length_le]; done))⟩
     ·refine WP.no h8 rfl ?_
      refine WP.qk tm [] [] [(5, vl v5), (4, V.ref 2004 0), (3, V.t (T.nils)), (2, V.ref 2002 0)] [(500, oc 65 [ty r77b, ti r77c, T.int .u64 r77d]), (2002, oc 26 [T.nils, ti 0]), (2004, ov 26 [vo 10200 (List.length o10200), vi o4]), (10200, oc 3 (List.map (ti) o10200))] trivial ?_
      exact ⟨(r77b, r77c, r77d, v5), h, rfl⟩
    ·rintro ⟨o500l, o500m, o500n, v5b⟩ h0
     have h := (show J1 o500l o500m o500n v5b = some (y0, y1, y2, y3, y4, y5) from h0)
     rw [hJ1] at h
     simp only [Option.some.injEq, Prod.mk.injEq] at h
     obtain ⟨rfl, rfl, rfl, rfl, rfl, rfl⟩ := h
     exact WP.pathG tab_ok mixed [] [.keep [2, 3], .keepO [500, 2002, 10200], .freeze 10200, .names [(500, 500), (2002, 2002)]] [500] _ (r' := V.t (T.tup [T.agg [tl o10200, ti o4], tl v5b])) (ps := [(0 + 2 ≤ 2), ((0 + 2 ≤ 2 ∧ 2 = 2)), (List.length (List.map (ti) o10200) = (List.length o10200) * 1), (0 + 2 ≤ 2)]) (r := V.t (T.tup [T.agg [tl o10200, ti o4], tl v5b])) (N := [500, 2002]) (O := [(500, oc 65 [ty o500l, ti o500m, T.int .u64 o500n])]) [] (by kernel_rfl) ⟨by decide, by decide, by first | rfl | omega | (simp only [tlL] <;> omega) | (simp <;> omega) | (simp [] <;> omega), by decide, trivial⟩ ⟨(WkT.refl _), trivial⟩ rfl rfl (fun _ h => h)
theorem F_spec_DrawAnswerList_W (x0 : List Int) (y0 : List Int) (y1 : Int) (y2 : List Int) (y3 : List Bool) (h : F_spec_DrawAnswerList x0 = some (y0, y1, y2, y3)) : CG Tryz.prog 6 [vy x0] [] (V.t (T.tup [T.agg [tl y0, ti y1], tl y2, tbl y3])) [] := by
 unfold F_spec_DrawAnswerList at h
 refine CG.intro (tab := tab) tab_ok (fn := Tryz.f6) Tryz.func6 (by kernel_rfl) rfl (Nat.le_of_ble_eq_true rfl) (by kernel_rfl) ?_
 refine WP.sk tm [(2, An.id 2002)] [] [(4, V.t (T.nils)), (3, V.t (T.nils)), (2, V.ref 2002 0), (0, vy x0)] [(2002, oc 26 [T.nils, ti 0])] trivial ?_
 refine WP.sn tm [(12, An.id 2012)] [((1 = 1 ∧ 0 + 1 ≤ 3) ∧ True)] [2012, 2002] [(5, V.ref 2012 0), (4, V.t (T.nils)), (3, V.t (T.nils)), (2, V.ref 2002 0)] [(2002, oc 26 [T.nils, ti 0]), (2012, oc 65 [ty x0, ti 0, T.int .u64 0])] ⟨⟨⟨by first | rfl | (simp; done) | (simp []; done) | omega, by first | decide | (simp; done) | (simp []; done) | omega | (simp only [tlL]; omega) | (simp; omega)⟩, trivial⟩, trivial⟩ ?_
 refine WP.seq ?_
 obtain ⟨r15, r15b, r15c, r15d, r15e, r15g, c0, h⟩ := bnd6_some h
 refine WP.pn tm [(15, An.callG [(500, 2012)] [V.ref 500 0] [(500, oc 65 [ty x0, ti 0, T.int .u64 0])] (V.t (T.tup [T.agg [tl r15, ti r15b], tl r15c])) [(500, oc 65 [ty r15d, ti r15e, T.int .u64 r15g])]), (6, An.id 2006)] [(CG Tryz.prog 46 [V.ref 500 0] [(500, oc 65 [ty x0, ti 0, T.int .u64 0])] (V.t (T.tup [T.agg [tl r15, ti r15b], tl r15c])) [(500, oc 65 [ty r15d, ti r15e, T.int .u64 r15g])]), ((V.ref 500 0).ren (renF [(500, 2012)]) = V.ref 2012 0), ((oc 65 [ty x0, ti 0, T.int .u64 0]) = (oc 65 [ty x0, ti 0, T.int .u64 0]).ren (renF [(500, 2012)])), ((0 + 2 ≤ 2 ∧ 2 = 2))] [2006, 2012, 2002] [(7, vl r15c), (6, V.ref 2006 0), (5, V.ref 2012 0), (4, V.t (T.nils)), (3, V.t (T.nils)), (2, V.ref 2002 0)] [(2002, oc 26 [T.nils, ti 0]), (2006, oc 26 [tl r15, ti r15b]), (2012, oc 65 [ty r15d, ti r15e, T.int .u64 r15g])] ⟨(F_p_spec_l1Cur_fixed_W x0 (0 : Int) (0 : Int) r15 r15b r15c r15d r15e r15g c0), by first | rfl | (simp [V.ren, V.renL, renF, lk]; done) | (simp [V.ren, V.renL, renF, lk]; omega), rfl, by decide, trivial⟩ ?_
 refine WP.sn tm [(18, An.id 2018)] [(True), (0 = 0 * 1)] [2018, 2006, 2012, 2002] [(8, vo 2018 0), (7, vl r15c), (6, V.ref 2006 0), (5, V.ref 2012 0), (4, V.t (T.nils)), (3, V.t (T.nils)), (2, V.ref 2002 0)] [(2002, oc 26 [T.nils, ti 0]), (2006, oc 26 [tl r15, ti r15b]), (2012, oc 65 [ty r15d, ti r15e, T.int .u64 r15g]), (2018, oc 4 [])] ⟨trivial, by decide, trivial⟩ ?_
 obtain ⟨J1, hJ1, h⟩ := jn_some h
 refine WP.joinA (fun (zz : (List Int) × Int × Int × (List Bool)) => ⟨[2002, 2006, 2012, 2018], [(8, vo 2018 (List.length zz.2.2.2)), (7, vl r15c), (6, V.ref 2006 0), (5, V.ref 2012 0), (4, V.t (T.nils)), (3, V.t (T.nils)), (2, V.ref 2002 0)], [(2002, oc 26 [T.nils, ti 0]), (2006, oc 26 [tl r15, ti r15b]), (2012, oc 65 [ty zz.1, ti zz.2.1, T.int .u64 zz.2.2.1]), (2018, oc 4 (List.map T.bool zz.2.2.2))]⟩) (fun zz => J1 zz.1 zz.2.1 zz.2.2.1 zz.2.2.2 = some (y0, y1, y2, y3)) ?_ ?_
 ·refine WP.sn tm [] [] [2018, 2006, 2012, 2002] [(9, vi 0), (8, vo 2018 0), (7, vl r15c), (6, V.ref 2006 0), (5, V.ref 2012 0), (4, V.t (T.nils)), (3, V.t (T.nils)), (2, V.ref 2002 0)] [(2002, oc 26 [T.nils, ti 0]), (2006, oc 26 [tl r15, ti r15b]), (2012, oc 65 [ty r15d, ti r15e, T.int .u64 r15g]), (2018, oc 4 [])] trivial ?_
  refine WP.block ?_
  refine WP.lp (α := Nat × (List Int) × Int × Int × (List Bool) × Int) (fun zz => ⟨[2002, 2006, 2012, 2018], [(9, vi zz.2.2.2.2.2), (8, vo 2018 (List.length zz.2.2.2.2.1)), (7, vl r15c), (6, V.ref 2006 0), (5, V.ref 2012 0), (4, V.t (T.nils)), (3, V.t (T.nils)), (2, V.ref 2002 0)], [(2002, oc 26 [T.nils, ti 0]), (2006, oc 26 [tl r15, ti r15b]), (2012, oc 65 [ty zz.2.1, ti zz.2.2.1, T.int .u64 zz.2.2.2.1]), (2018, oc 4 (List.map T.bool zz.2.2.2.2.1))]⟩) (fun zz => F_spec_DrawAnswerList_L1 r15c J1 zz.1 zz.2.1 zz.2.2.1 zz.2.2.2.1 zz.2.2.2.2.1 zz.2.2.2.2.2 = some (y0, y1, y2, y3)) (fun zz => zz.1) (fuel, r15d, r15e, r15g, ([] : List Bool), (0 : Int)) h ?_
  rintro ⟨n, o12, o12b, o12c, o18, v9⟩ h0
  have h := (show F_spec_DrawAnswerList_L1 r15c J1 n o12 o12b o12c o18 v9 = some (y0, y1, y2, y3) from h0)
  rcases n with _ | n
  ·rw [F_spec_DrawAnswerList_L1] at h; cases h
  ·rw [F_spec_DrawAnswerList_L1] at h
   refine WP.seq ?_
   refine WP.sk tm [] [(True)] [(22, vb (decide (v9 < (ln r15c)))), (9, vi v9), (8, vo 2018 (List.length o18)), (7, vl r15c), (6, V.ref 2006 0), (5, V.ref 2012 0), (4, V.t (T.nils)), (3, V.t (T.nils)), (2, V.ref 2002 0)] [(2002, oc 26 [T.nils, ti 0]), (2006, oc 26 [tl r15, ti r15b]), (2012, oc 65 [ty o12, ti o12b, T.int .u64 o12c]), (2018, oc 4 (List.map T.bool o18))] ⟨trivial, trivial⟩ ?_
   rcases ite_some h with ⟨h1, h⟩ | ⟨h1, h⟩
   ·refine WP.yes h1 rfl ?_
    refine WP.pk tm [] [] [(9, vi v9), (8, vo 2018 (List.length o18)), (7, vl r15c), (6, V.ref 2006 0), (5, V.ref 2012 0), (4, V.t (T.nils)), (3, V.t (T.nils)), (2, V.ref 2002 0)] [(2002, oc 26 [T.nils, ti 0]), (2006, oc 26 [tl r15, ti r15b]), (2012, oc 65 [ty o12, ti o12b, T.int .u64 o12c]), (2018, oc 4 (List.map T.bool o18))] trivial ?_
    refine WP.seq ?_
    refine WP.block ?_
    obtain ⟨r27, r27b, r27c, r27d, c1, h⟩ := bnd4_some h
    obtain ⟨c2, h⟩ := chk_some h
    refine WP.pn tm [(27, An.callG [(500, 2012)] [V.ref 500 0, vi 2] [(500, oc 65 [ty o12, ti o12b, T.int .u64 o12c])] (vb r27) [(500, oc 65 [ty r27b, ti r27c, T.int .u64 r27d])]), (28, An.fz), (29, An.id 2029)] [(CG Tryz.prog 47 [V.ref 500 0, vi 2] [(500, oc 65 [ty o12, ti o12b, T.int .u64 o12c])] (vb r27) [(500, oc 65 [ty r27b, ti r27c, T.int .u64 r27d])]), ((V.ref 500 0).ren (renF [(500, 2012)]) = V.ref 2012 0), (WkT (ti 2) (ti 2)), ((oc 65 [ty o12, ti o12b, T.int .u64 o12c]) = (oc 65 [ty o12, ti o12b, T.int .u64 o12c]).ren (renF [(500, 2012)])), ((1 = 1 ∧ 0 + 1 ≤ 1) ∧ True), (1 = 1 * 1), (True), (List.length (List.map T.bool o18) = (List.length o18) * 1), ((((List.length o18) + 1) * 1 ≤ 140737488355328 ∧ (List.length o18) + 1 ≤ maxLen))] [2029, 2002, 2006, 2012, 2018] [(8, vo 2029 ((List.length o18) + 1)), (9, vi v9), (7, vl r15c), (6, V.ref 2006 0), (5, V.ref 2012 0), (4, V.t (T.nils)), (3, V.t (T.nils)), (2, V.ref 2002 0)] [(2002, oc 26 [T.nils, ti 0]), (2006, oc 26 [tl r15, ti r15b]), (2012, oc 65 [ty r27b, ti r27c, T.int .u64 r27d]), (2029, oc 4 ((List.map T.bool o18) ++ [tb r27]))] ⟨(F_p_spec_l1Cur_one_W o12 o12b o12c (2 : Int) r27 r27b r27c r27d c1), by first | rfl | (simp [V.ren, V.renL, renF, lk]; done) | (simp [V.ren, V.renL, renF, lk]; omega), WkT.refl _, rfl, ⟨⟨by first | rfl | (simp; done) | (simp []; done) | omega, by first | decide | (simp; done) | (simp []; done) | omega | (simp only [tlL]; omega) | (simp; omega)⟩, trivial⟩, by decide, trivial, by first | rfl | omega | (simp only [tlL] <;> omega) | (simp <;> omega) | (simp [] <;> omega), c2, trivial⟩ ?_
    obtain ⟨c3, h⟩ := chk_some h
    refine WP.nk tm [(24, An.v (ti (v9 + 1)))] [(2002, 2002), (2006, 2006), (2012, 2012), (2029, 2018)] .normal [(True), (wr (v9 + 1))] [(9, vi (v9 + 1)), (8, vo 2018 ((List.length o18) + 1)), (7, vl r15c), (6, V.ref 2006 0), (5, V.ref 2012 0), (4, V.t (T.nils)), (3, V.t (T.nils)), (2, V.ref 2002 0)] [(2002, oc 26 [T.nils, ti 0]), (2006, oc 26 [tl r15, ti r15b]), (2012, oc 65 [ty r27b, ti r27c, T.int .u64 r27d]), (2018, oc 4 ((List.map T.bool o18) ++ [tb r27]))] ⟨trivial, wrapI c3, trivial⟩ ?_
    exact ⟨(n, r27b, r27c, r27d, o18 ++ [r27], (v9 + 1)), h, Nat.lt_succ_self _, (by first | rfl | (simp only [tlS, tl, vl, vo, oc, ov, tbl, vbl, ty, vy] <;> rfl) | (simp <;> omega) | (simp []; done) | (rw [List.take_of_length_le (by simp [])] <;> rfl) | (simp [List.take_of_length_le]; done))⟩
   ·refine WP.no h1 rfl ?_
    refine WP.eq tm [] 0 [] [(8, vo 2018 (List.length o18)), (7, vl r15c), (6, V.ref 2006 0), (5, V.ref 2012 0), (4, V.t (T.nils)), (3, V.t (T.nils)), (2, V.ref 2002 0)] [(2002, oc 26 [T.nils, ti 0]), (2006, oc 26 [tl r15, ti r15b]), (2012, oc 65 [ty o12, ti o12b, T.int .u64 o12c]), (2018, oc 4 (List.map T.bool o18))] trivial ?_
    exact ⟨(o12, o12b, o12c, o18), h, rfl⟩
 ·rintro ⟨o12, o12b, o12c, o18⟩ h0
  have h := (show J1 o12 o12b o12c o18 = some (y0, y1, y2, y3) from h0)
  rw [hJ1] at h
  obtain ⟨J1, hJ1, h⟩ := jn_some h
  refine WP.joinA (fun (zz : (List Bool)) => ⟨[2002, 2006, 2034], [(8, vo 2034 (List.length zz)), (7, vl r15c), (6, V.ref 2006 0), (4, V.t (T.nils)), (3, V.t (T.nils)), (2, V.ref 2002 0)], [(2002, oc 26 [T.nils, ti 0]), (2006, oc 26 [tl r15, ti r15b]), (2034, oc 4 (List.map T.bool zz))]⟩) (fun zz => J1 zz = some (y0, y1, y2, y3)) ?_ ?_
  ·refine WP.seq ?_
   obtain ⟨r31, r31b, r31c, r31d, c1, h⟩ := bnd4_some h
   refine WP.pn tm [(31, An.callG [(500, 2012)] [V.ref 500 0, vi 24] [(500, oc 65 [ty o12, ti o12b, T.int .u64 o12c])] (vb r31) [(500, oc 65 [ty r31b, ti r31c, T.int .u64 r31d])])] [(CG Tryz.prog 47 [V.ref 500 0, vi 24] [(500, oc 65 [ty o12, ti o12b, T.int .u64 o12c])] (vb r31) [(500, oc 65 [ty r31b, ti r31c, T.int .u64 r31d])]), ((V.ref 500 0).ren (renF [(500, 2012)]) = V.ref 2012 0), (WkT (ti 24) (ti 24)), ((oc 65 [ty o12, ti o12b, T.int .u64 o12c]) = (oc 65 [ty o12, ti o12b, T.int .u64 o12c]).ren (renF [(500, 2012)]))] [2002, 2006, 2012, 2018] [(31, vb r31), (8, vo 2018 (List.length o18)), (7, vl r15c), (6, V.ref 2006 0), (4, V.t (T.nils)), (3, V.t (T.nils)), (2, V.ref 2002 0)] [(2002, oc 26 [T.nils, ti 0]), (2006, oc 26 [tl r15, ti r15b]), (2018, oc 4 (List.map T.bool o18))] ⟨(F_p_spec_l1Cur_one_W o12 o12b o12c (24 : Int) r31 r31b r31c r31d c1), by first | rfl | (simp [V.ren, V.renL, renF, lk]; done) | (simp [V.ren, V.renL, renF, lk]; omega), WkT.refl _, rfl, trivial⟩ ?_
   rcases ite_some h with ⟨h2, h⟩ | ⟨h2, h⟩
   ·refine WP.yes h2 rfl ?_
    obtain ⟨c2, h⟩ := chk_some h
    refine WP.qk tm [(33, An.fz), (34, An.id 2034)] [((1 = 1 ∧ 0 + 1 ≤ 1) ∧ True), (1 = 1 * 1), (True), (List.length (List.map T.bool o18) = (List.length o18) * 1), ((((List.length o18) + 1) * 1 ≤ 140737488355328 ∧ (List.length o18) + 1 ≤ maxLen))] [(8, vo 2034 ((List.length o18) + 1)), (7, vl r15c), (6, V.ref 2006 0), (4, V.t (T.nils)), (3, V.t (T.nils)), (2, V.ref 2002 0)] [(2002, oc 26 [T.nils, ti 0]), (2006, oc 26 [tl r15, ti r15b]), (2034, oc 4 ((List.map T.bool o18) ++ [tb true]))] ⟨⟨⟨by first | rfl | (simp; done) | (simp []; done) | omega, by first | decide | (simp; done) | (simp []; done) | omega | (simp only [tlL]; omega) | (simp; omega)⟩, trivial⟩, by decide, trivial, by first | rfl | omega | (simp only [tlL] <;> omega) | (simp <;> omega) | (simp [] <;> omega), c2, trivial⟩ ?_
    exact ⟨(o18 ++ [true]), h, (by first | rfl | (simp only [tlS, tl, vl, vo, oc, ov, tbl, vbl, ty, vy] <;> rfl) | (simp <;> omega) | (simp []; done) | (rw [List.take_of_length_le (by simp [])] <;> rfl) | (simp [List.take_of_length_le]; done))⟩
   ·refine WP.no h2 rfl ?_
    refine WP.nk tm [] [(2002, 2002), (2006, 2006), (2018, 2034)] .normal [] [(8, vo 2034 (List.length o18)), (7, vl r15c), (6, V.ref 2006 0), (4, V.t (T.nils)), (3, V.t (T.nils)), (2, V.ref 2002 0)] [(2002, oc 26 [T.nils, ti 0]), (2006, oc 26 [tl r15, ti r15b]), (2034, oc 4 (List.map T.bool o18))] trivial ?_
    exact ⟨(o18), h, rfl⟩
  ·intro o34 h0
   have h := (show J1 o34 = some (y0, y1, y2, y3) from h0)
   rw [hJ1] at h
   simp only [Option.some.injEq, Prod.mk.injEq] at h
   obtain ⟨rfl, rfl, rfl, rfl⟩ := h
   exact WP.pathG tab_ok mixed [] [.keep [2, 3, 4], .keepO [2002, 2034], .freeze 2034, .names [(2002, 2002)]] [] _ (r' := V.t (T.tup [T.agg [tl r15, ti r15b], tl r15c, tbl o34])) (ps := [(0 + 2 ≤ 2), ((0 + 2 ≤ 2 ∧ 2 = 2)), (List.length (List.map T.bool o34) = (List.length o34) * 1), (0 + 2 ≤ 2)]) (r := V.t (T.tup [T.agg [tl r15, ti r15b], tl r15c, tbl o34])) (N := [2002]) (O := []) [] (by kernel_rfl) ⟨by decide, by decide, by first | rfl | omega | (simp only [tlL] <;> omega) | (simp <;> omega) | (simp [] <;> omega), by first | decide | omega | (simp only [tlL] <;> omega) | (simp <;> omega) | (simp [] <;> omega), trivial⟩ ⟨(WkT.refl _), trivial⟩ rfl rfl (fun _ h => h)
theorem F_spec_DrawAnswerList_W_C (x0 : List Int) (y0 : List Int) (y1 : Int) (y2 : List Int) (y3 : List Bool) (h : F_spec_DrawAnswerList x0 = some (y0, y1, y2, y3)) : C Tryz.prog 6 [ty x0] (T.tup [T.agg [tl y0, ti y1], tl y2, tbl y3]) :=
 CG.toC (ps := []) (F_spec_DrawAnswerList_W  x0 y0 y1 y2 y3 h) (by rfl) trivial
theorem F_impl_areListed_W (x0 : List Int) (x1 : Int) (x2 : List Int) (y0 : Bool) (h : F_impl_areListed x0 x1 x2 = some y0) : C Tryz.prog 48 [T.agg [tl x0, ti x1], tl x2] (tb y0) := by
 unfold F_impl_areListed at h
 refine C.intro (tab := tab) tab_ok (fn := Tryz.f48) Tryz.func48 (by kernel_rfl) rfl (Nat.le_of_ble_eq_true rfl) ?_
 obtain ⟨c0, h⟩ := chk_some h
 rcases ite_some h with ⟨h1, h⟩ | ⟨h1, h⟩
 ·rcases ite_some h with ⟨h2, h⟩ | ⟨h2, h⟩
  ·obtain ⟨c1, h⟩ := chk_some h
   have h := Option.some.inj h
   subst h
   exact WP.pathW tab_ok mixed [(2, An.fz), (6, An.call (tb true)), (10, An.b true), (15, An.call (tb (List.any x2 (fun x => !(isQ (ln x0) x)))))] _ (ps := [(2 ≤ 2), (C Tryz.prog 76 [T.agg [tl x0, ti x1]] (tb true)), (True), ((decide ((ln x2) ≤ (8 : Int))) = true), (C Tryz.prog 109 [tl x2, T.fn 110 [] [T.ptr [tl x0, ti x1]]] (tb (List.any x2 (fun x => !(isQ (ln x0) x)))))]) (r := tb (!(List.any x2 (fun x => !(isQ (ln x0) x))))) (by kernel_rfl) ⟨by decide, (C.toB h1 (isState_C x0 x1 c0)), trivial, h2, (containsFunc_C x2 _ _ _ (fun x => !(isQ (ln x0) x)) (fun x => (areListed1_C x x0 x1)) c1), trivial⟩ (WkT.eq (y := tb (!(List.any x2 (fun x => !(isQ (ln x0) x))))) (WkT.refl _) rfl) (fun _ h => h)
  ·have h := Option.some.inj h
   subst h
   exact WP.pathW tab_ok mixed [(2, An.fz), (6, An.call (tb true)), (10, An.b false)] _ (ps := [(2 ≤ 2), (C Tryz.prog 76 [T.agg [tl x0, ti x1]] (tb true)), (True), ((decide ((ln x2) ≤ (8 : Int))) = false)]) (r := tb false) (by kernel_rfl) ⟨by decide, (C.toB h1 (isState_C x0 x1 c0)), trivial, h2, trivial⟩ (WkT.eq (y := tb false) (WkT.refl _) rfl) (fun _ h => h)
 ·have h := Option.some.inj h
  subst h
  exact WP.pathW tab_ok mixed [(2, An.fz), (6, An.call (tb false))] _ (ps := [(2 ≤ 2), (C Tryz.prog 76 [T.agg [tl x0, ti x1]] (tb false))]) (r := tb false) (by kernel_rfl) ⟨by decide, (C.toB h1 (isState_C x0 x1 c0)), trivial⟩ (WkT.eq (y := tb false) (WkT.refl _) rfl) (fun _ h => h)
theorem F_impl_State_told_W (x0 : List Int) (x1 : Int) (x2 : List Int) (x3 : List Bool) (y0 : List Int) (y1 : Int) (h : F_impl_State_told x0 x1 x2 x3 = some (y0, y1)) : CG Tryz.prog 49 [V.t (T.agg [tl x0, ti x1]), vl x2, vbl x3] [] (V.t (T.agg [tl y0, ti y1])) [] := by
 unfold F_impl_State_told at h
 refine CG.intro (tab := tab) tab_ok (fn := Tryz.f49) Tryz.func49 (by kernel_rfl) rfl (Nat.le_of_ble_eq_true rfl) (by kernel_rfl) ?_
 refine WP.sn tm [(3, An.id 2003), (6, An.id 2006)] [] [2006, 2003] [(6, V.ref 2006 0), (3, V.ref 2003 0), (1, vl x2), (2, vbl x3)] [(2003, oc 26 [tl x0, ti x1]), (2006, oc 26 [T.nils, ti 0])] trivial ?_
 obtain ⟨J1, hJ1, h⟩ := jn_some h
 refine WP.joinA (fun (zz : (List Int)) => ⟨[2003, 2006], [(6, V.ref 2006 0), (3, V.ref 2003 0)], [(2003, oc 26 [tl zz, ti x1]), (2006, oc 26 [T.nils, ti 0])]⟩) (fun zz => J1 zz = some (y0, y1)) ?_ ?_
 ·refine WP.sn tm [] [] [2006, 2003] [(11, vi 0), (10, vi (ln x2)), (9, vl x2), (6, V.ref 2006 0), (3, V.ref 2003 0), (2, vbl x3)] [(2003, oc 26 [tl x0, ti x1]), (2006, oc 26 [T.nils, ti 0])] trivial ?_
  refine WP.block ?_
  refine WP.lp (α := Nat × (List Int) × Int) (fun zz => ⟨[2003, 2006], [(11, vi zz.2.2), (10, vi (ln x2)), (9, vl x2), (6, V.ref 2006 0), (3, V.ref 2003 0), (2, vbl x3)], [(2003, oc 26 [tl zz.2.1, ti x1]), (2006, oc 26 [T.nils, ti 0])]⟩) (fun zz => F_impl_State_told_L1 x1 x2 x3 J1 zz.1 zz.2.1 zz.2.2 = some (y0, y1)) (fun zz => zz.1) (fuel, x0, (0 : Int)) h ?_
  rintro ⟨n, o3, v11⟩ h0
  have h := (show F_impl_State_told_L1 x1 x2 x3 J1 n o3 v11 = some (y0, y1) from h0)
  rcases n with _ | n
  ·rw [F_impl_State_told_L1] at h; cases h
  ·rw [F_impl_State_told_L1] at h
   refine WP.sk tm [] [(True)] [(12, vb (decide (v11 < (ln x2)))), (11, vi v11), (10, vi (ln x2)), (9, vl x2), (6, V.ref 2006 0), (3, V.ref 2003 0), (2, vbl x3)] [(2003, oc 26 [tl o3, ti x1]), (2006, oc 26 [T.nils, ti 0])] ⟨trivial, trivial⟩ ?_
   refine WP.seq ?_
   rcases ite_some h with ⟨h1, h⟩ | ⟨h1, h⟩
   ·refine WP.yes h1 rfl ?_
    refine WP.pk tm [] [] [(11, vi v11), (10, vi (ln x2)), (9, vl x2), (6, V.ref 2006 0), (3, V.ref 2003 0), (2, vbl x3)] [(2003, oc 26 [tl o3, ti x1]), (2006, oc 26 [T.nils, ti 0])] trivial ?_
    refine WP.seq ?_
    refine WP.block ?_
    obtain ⟨c0, h⟩ := chk_some h
    obtain ⟨c1, h⟩ := chk_some h
    obtain ⟨c2, h⟩ := chk_some h
    refine WP.pk tm [(15, An.v (ti (gt x2 v11 0))), (21, An.v (tb (gt x3 v11 false))), (23, An.call (T.agg [tl (ansN x1 (gt x2 v11 0) (gt x3 v11 false) o3), ti x1]))] [((0 ≤ v11 ∧ v11 < (ln x2))), ((List.drop ((Int.toNat v11) * 1) (List.map (ti) x2) : List T)[0]? = some (ti (gt x2 v11 0))), (ti (gt x2 v11 0) = ti (gt x2 v11 0)), (0 + 2 ≤ 2), ((0 ≤ v11 ∧ v11 < (ln x3))), ((List.drop ((Int.toNat v11) * 1) (List.map T.bool x3) : List T)[0]? = some (tb (gt x3 v11 false))), (tb (gt x3 v11 false) = tb (gt x3 v11 false)), ((1 = 1 ∧ 0 + 1 ≤ 2) ∧ (1 = 1 ∧ 1 + 1 ≤ 2) ∧ True), (C Tryz.prog 62 [T.agg [tl o3, ti x1], T.agg [ti (gt x2 v11 0), tb (gt x3 v11 false)]] (T.agg [tl (ansN x1 (gt x2 v11 0) (gt x3 v11 false) o3), ti x1])), ((0 + 2 ≤ 2 ∧ 2 = 2))] [(11, vi v11), (10, vi (ln x2)), (9, vl x2), (6, V.ref 2006 0), (3, V.ref 2003 0), (2, vbl x3)] [(2003, oc 26 [tl (ansN x1 (gt x2 v11 0) (gt x3 v11 false) o3), ti x1]), (2006, oc 26 [T.nils, ti 0])] ⟨c0, at1 (by simp) (by omega), rfl, by decide, c1, at1 (by simp) (by omega), rfl, ⟨⟨by first | rfl | (simp; done) | (simp []; done) | omega, by first | decide | (simp; done) | (simp []; done) | omega | (simp only [tlL]; omega) | (simp; omega)⟩, ⟨by first | rfl | (simp; done) | (simp []; done) | omega, by first | decide | (simp; done) | (simp []; done) | omega | (simp only [tlL]; omega) | (simp; omega)⟩, trivial⟩, (answered_C o3 x1 (gt x2 v11 0) (gt x3 v11 false) c2), by decide, trivial⟩ ?_
    obtain ⟨c3, h⟩ := chk_some h
    refine WP.qk tm [(24, An.v (ti (v11 + 1)))] [(True), (wr (v11 + 1))] [(11, vi (v11 + 1)), (10, vi (ln x2)), (9, vl x2), (6, V.ref 2006 0), (3, V.ref 2003 0), (2, vbl x3)] [(2003, oc 26 [tl (ansN x1 (gt x2 v11 0) (gt x3 v11 false) o3), ti x1]), (2006, oc 26 [T.nils, ti 0])] ⟨trivial, wrapI c3, trivial⟩ ?_
    exact ⟨(n, ansN x1 (gt x2 v11 0) (gt x3 v11 false) o3, (v11 + 1)), h, Nat.lt_succ_self _, rfl⟩
   ·refine WP.no h1 rfl ?_
    refine WP.eq tm [] 0 [] [(6, V.ref 2006 0), (3, V.ref 2003 0)] [(2003, oc 26 [tl o3, ti x1]), (2006, oc 26 [T.nils, ti 0])] trivial ?_
    exact ⟨(o3), h, rfl⟩
 ·intro o3 h0
  have h := (show J1 o3 = some (y0, y1) from h0)
  rw [hJ1] at h
  simp only [Option.some.injEq, Prod.mk.injEq] at h
  obtain ⟨rfl, rfl⟩ := h
  exact WP.pathG tab_ok mixed [] [.keep [6], .keepO [2006], .names [(2006, 2006)]] [] _ (r' := V.t (T.agg [tl o3, ti x1])) (ps := [(0 + 2 ≤ 2), ((0 + 2 ≤ 2 ∧ 2 = 2)), (0 + 2 ≤ 2)]) (r := V.t (T.agg [tl o3, ti x1])) (N := [2006]) (O := []) [] (by kernel_rfl) ⟨by decide, by decide, by first | decide | omega | (simp only [tlL] <;> omega) | (simp <;> omega) | (simp [] <;> omega), trivial⟩ ⟨(WkT.refl _), trivial⟩ rfl rfl (fun _ h => h)
theorem F_impl_State_told_W_C (x0 : List Int) (x1 : Int) (x2 : List Int) (x3 : List Bool) (y0 : List Int) (y1 : Int) (h : F_impl_State_told x0 x1 x2 x3 = some (y0, y1)) : C Tryz.prog 49 [T.agg [tl x0, ti x1], tl x2, tbl x3] (T.agg [tl y0, ti y1]) :=
 CG.toC (ps := []) (F_impl_State_told_W  x0 x1 x2 x3 y0 y1 h) (by rfl) trivial
theorem F_impl_AnswerList_W (x0 : List Int) (x1 : Int) (x2 : List Int) (x3 : List Bool) (y0 : List Int) (y1 : Int) (y2 : Bool) (h : F_impl_AnswerList x0 x1 x2 x3 = some (y0, y1, y2)) : CG Tryz.prog 7 [V.t (T.agg [tl x0, ti x1]), vl x2, vbl x3] [] (V.tup [V.agg [vo 9000 (List.length y0), vi y1], vb y2]) [(9000, oc 3 (List.map (ti) y0))] := by
 unfold F_impl_AnswerList at h
 refine CG.intro (tab := tab) tab_ok (fn := Tryz.f7) Tryz.func7 (by kernel_rfl) rfl (Nat.le_of_ble_eq_true rfl) (by kernel_rfl) ?_
 refine WP.sk tm [(3, An.fz), (6, An.id 2006)] [] [(7, vb false), (6, V.ref 2006 0), (3, V.t (T.ptr [tl x0, ti x1])), (1, vl x2), (2, vbl x3)] [(2006, oc 26 [T.nils, ti 0])] trivial ?_
 refine WP.seq ?_
 obtain ⟨J1, hJ1, h⟩ := jn_some h
 refine WP.joinA (fun (zz : Bool) => ⟨[2006], [(18, vb zz), (7, vb false), (6, V.ref 2006 0), (3, V.t (T.ptr [tl x0, ti x1])), (1, vl x2), (2, vbl x3)], [(2006, oc 26 [T.nils, ti 0])]⟩) (fun zz => J1 zz = some (y0, y1, y2)) ?_ ?_
 ·obtain ⟨r10, c0, h⟩ := bnd1_some h
  rcases ite_some h with ⟨h1, h⟩ | ⟨h1, h⟩
  ·refine WP.qk tm [(10, An.call (tb r10)), (12, An.b true)] [(2 ≤ 2), (C Tryz.prog 48 [T.agg [tl x0, ti x1], tl x2] (tb r10)), ((!r10) = true)] [(18, vb true), (7, vb false), (6, V.ref 2006 0), (3, V.t (T.ptr [tl x0, ti x1])), (1, vl x2), (2, vbl x3)] [(2006, oc 26 [T.nils, ti 0])] ⟨by decide, (F_impl_areListed_W x0 x1 x2 r10 c0), h1, trivial⟩ ?_
   exact ⟨(true), h, rfl⟩
  ·refine WP.qk tm [(10, An.call (tb r10)), (12, An.b false)] [(2 ≤ 2), (C Tryz.prog 48 [T.agg [tl x0, ti x1], tl x2] (tb r10)), ((!r10) = false), (True)] [(18, vb ((ln x3) != (ln x2))), (7, vb false), (6, V.ref 2006 0), (3, V.t (T.ptr [tl x0, ti x1])), (1, vl x2), (2, vbl x3)] [(2006, oc 26 [T.nils, ti 0])] ⟨by decide, (F_impl_areListed_W x0 x1 x2 r10 c0), h1, trivial, trivial⟩ ?_
   exact ⟨((ln x3) != (ln x2)), h, rfl⟩
 ·intro v18 h0
  have h := (show J1 v18 = some (y0, y1, y2) from h0)
  rw [hJ1] at h
  rcases ite_some h with ⟨h2, h⟩ | ⟨h2, h⟩
  ·refine WP.yes h2 rfl ?_
   simp only [Option.some.injEq, Prod.mk.injEq] at h
   obtain ⟨rfl, rfl, rfl⟩ := h
   exact WP.pathG tab_ok mixed [] [.keep [6, 7], .keepO [2006], .names [(2006, 2006)]] [] _ (r' := V.tup [V.agg [vo 9000 (List.length ([] : List Int)), vi (0 : Int)], vb false]) (ps := [(True), ((0 + 2 ≤ 2 ∧ 2 = 2)), (0 + 2 ≤ 2)]) (r := V.t (T.tup [T.agg [T.nils, ti 0], tb false])) (N := [2006]) (O := []) [(9000, 3)] (by kernel_rfl) ⟨trivial, by decide, by first | decide | omega | (simp only [tlL] <;> omega) | (simp <;> omega) | (simp [] <;> omega), trivial⟩ ⟨(by first | rfl | (simp; done)), (WkT.eq (WkT.refl _) (by first | rfl | (simp only [tlS, tl, vl, vo, oc, ov, tbl, vbl, ty, vy] <;> rfl) | (simp <;> omega) | (simp []; done) | (rw [List.take_of_length_le (by simp [])] <;> rfl) | (simp [List.take_of_length_le]; done))), (WkT.refl _), trivial⟩ rfl rfl (fun _ h => h)
  ·refine WP.no h2 rfl ?_
   refine WP.pk tm [] [] [(7, vb false), (6, V.ref 2006 0), (3, V.t (T.ptr [tl x0, ti x1])), (1, vl x2), (2, vbl x3)] [(2006, oc 26 [T.nils, ti 0])] trivial ?_
   obtain ⟨c0, h⟩ := chk_some h
   obtain ⟨r24, r24b, c1, h⟩ := bnd2_some h
   obtain ⟨c2, h⟩ := chk_some h
   simp only [Option.some.injEq, Prod.mk.injEq] at h
   obtain ⟨rfl, rfl, rfl⟩ := h
   exact WP.pathG tab_ok mixed [(23, An.call (tbl x3)), (24, An.call (T.agg [tl r24, ti r24b])), (25, An.callG [(9000, 10250)] [V.t (T.agg [tl r24, ti r24b]), V.t (T.fn 52 [] [])] [] (V.agg [vo 9000 (List.length (afterN r24b (fun (x : Nat) => false) r24)), vi r24b]) [(9000, oc 3 (List.map (ti) (afterN r24b (fun (x : Nat) => false) r24)))])] [.keep [6, 7], .keepO [10250, 2006], .names [(10250, 9000), (2006, 2006)]] [9000] _ (r' := V.tup [V.agg [vo 9000 (List.length (afterN r24b (fun (x : Nat) => false) r24)), vi r24b], vb true]) (ps := [(2 ≤ 2), (C Tryz.prog 50 [tbl x3] (tbl x3)), (C Tryz.prog 49 [T.agg [tl x0, ti x1], tl x2, tbl x3] (T.agg [tl r24, ti r24b])), (CG Tryz.prog 51 [V.t (T.agg [tl r24, ti r24b]), V.t (T.fn 52 [] [])] [] (V.agg [vo 9000 (List.length (afterN r24b (fun (x : Nat) => false) r24)), vi r24b]) [(9000, oc 3 (List.map (ti) (afterN r24b (fun (x : Nat) => false) r24)))]), (WkT (T.agg [tl r24, ti r24b]) (T.agg [tl r24, ti r24b])), (WkT (T.fn 52 [] []) (T.fn 52 [] [])), ((0 + 2 ≤ 2 ∧ 2 = 2)), (0 + 2 ≤ 2)]) (r := V.tup [V.agg [vo 9000 (List.length (afterN r24b (fun (x : Nat) => false) r24)), vi r24b], vb true]) (N := [9000, 2006]) (O := [(9000, oc 3 (List.map (ti) (afterN r24b (fun (x : Nat) => false) r24)))]) [] (by kernel_rfl) ⟨by decide, (cloneB_C x3 c0), (F_impl_State_told_W_C x0 x1 x2 x3 r24 r24b c1), (after_C_G r24 r24b 52 [] [] (fun (x : Nat) => false) (fun x => (answerList1_C (x : Int))) c2), WkT.refl _, WkT.refl _, by decide, by decide, trivial⟩ ⟨rfl, (WkT.refl _), (WkT.refl _), trivial⟩ rfl rfl (fun _ h => h)
theorem F_impl_AnswerList_W_C (x0 : List Int) (x1 : Int) (x2 : List Int) (x3 : List Bool) (y0 : List Int) (y1 : Int) (y2 : Bool) (h : F_impl_AnswerList x0 x1 x2 x3 = some (y0, y1, y2)) : C Tryz.prog 7 [T.agg [tl x0, ti x1], tl x2, tbl x3] (T.tup [T.agg [tl y0, ti y1], tb y2]) :=
 CG.toC (ps := [(List.length (List.map (ti) y0) = (List.length y0) * 1)]) (F_impl_AnswerList_W  x0 x1 x2 x3 y0 y1 y2 h) (by rfl) ⟨by first | rfl | omega | (simp <;> omega) | (simp [hl] <;> omega), trivial⟩
theorem F_spec_l8Good_W (x0 : List Int) (x1 : Int) (x2 : List Int) (y0 : Bool) (h : F_spec_l8Good x0 x1 x2 = some y0) : C Tryz.prog 53 [T.agg [tl x0, ti x1], tl x2] (tb y0) := by
 unfold F_spec_l8Good at h
 refine C.intro (tab := tab) tab_ok (fn := Tryz.f53) Tryz.func53 (by kernel_rfl) rfl (Nat.le_of_ble_eq_true rfl) ?_
 refine WP.sk tm [(2, An.fz)] [] [(4, vb false), (2, V.t (T.ptr [tl x0, ti x1])), (1, vl x2)] [] trivial ?_
 refine WP.seq ?_
 obtain ⟨J1, hJ1, h⟩ := jn_some h
 refine WP.joinA (fun (zz : Bool) => ⟨[], [(13, vb zz), (4, vb false), (2, V.t (T.ptr [tl x0, ti x1])), (1, vl x2)], []⟩) (fun zz => J1 zz = some y0) ?_ ?_
 ·obtain ⟨c0, h⟩ := chk_some h
  rcases ite_some h with ⟨h1, h⟩ | ⟨h1, h⟩
  ·refine WP.qk tm [(7, An.call (tb (isStateN x0 x1))), (9, An.b true)] [(2 ≤ 2), (C Tryz.prog 68 [T.agg [tl x0, ti x1]] (tb (isStateN x0 x1))), ((!(isStateN x0 x1)) = true)] [(13, vb true), (4, vb false), (2, V.t (T.ptr [tl x0, ti x1])), (1, vl x2)] [] ⟨by decide, (l2State_C x0 x1 c0), h1, trivial⟩ ?_
   exact ⟨(true), h, rfl⟩
  ·refine WP.qk tm [(7, An.call (tb (isStateN x0 x1))), (9, An.b false)] [(2 ≤ 2), (C Tryz.prog 68 [T.agg [tl x0, ti x1]] (tb (isStateN x0 x1))), ((!(isStateN x0 x1)) = false), (True)] [(13, vb (decide ((ln x2) > (8 : Int)))), (4, vb false), (2, V.t (T.ptr [tl x0, ti x1])), (1, vl x2)] [] ⟨by decide, (l2State_C x0 x1 c0), h1, trivial, trivial⟩ ?_
   exact ⟨(decide ((ln x2) > (8 : Int))), h, rfl⟩
 ·intro v13 h0
  have h := (show J1 v13 = some y0 from h0)
  rw [hJ1] at h
  rcases ite_some h with ⟨h2, h⟩ | ⟨h2, h⟩
  ·refine WP.yes h2 rfl ?_
   have h := Option.some.inj h
   subst h
   exact WP.pathW tab_ok mixed [] _ (ps := []) (r := tb false) (by kernel_rfl) trivial (WkT.eq (y := tb false) (WkT.refl _) rfl) (fun _ h => h)
  ·refine WP.no h2 rfl ?_
   refine WP.pk tm [] [] [(4, vb false), (2, V.t (T.ptr [tl x0, ti x1])), (1, vl x2)] [] trivial ?_
   obtain ⟨J1, hJ1, h⟩ := jn_some h
   refine WP.joinA (fun (zz : Unit) => ⟨[], [(4, vb false)], []⟩) (fun zz => J1 () = some y0) ?_ ?_
   ·refine WP.sk tm [] [] [(5, vi 0), (4, vb false), (2, V.t (T.ptr [tl x0, ti x1])), (1, vl x2)] [] trivial ?_
    refine WP.block ?_
    refine WP.lp (α := Nat × Int) (fun zz => ⟨[], [(5, vi zz.2), (4, vb false), (2, V.t (T.ptr [tl x0, ti x1])), (1, vl x2)], []⟩) (fun zz => F_spec_l8Good_L1 x0 x2 J1 zz.1 zz.2 = some y0) (fun zz => zz.1) (fuel, (0 : Int)) h ?_
    rintro ⟨n, v5⟩ h0
    have h := (show F_spec_l8Good_L1 x0 x2 J1 n v5 = some y0 from h0)
    rcases n with _ | n
    ·rw [F_spec_l8Good_L1] at h; cases h
    ·rw [F_spec_l8Good_L1] at h
     refine WP.seq ?_
     refine WP.sk tm [] [(True)] [(17, vb (decide (v5 < (ln x2)))), (5, vi v5), (4, vb false), (2, V.t (T.ptr [tl x0, ti x1])), (1, vl x2)] [] ⟨trivial, trivial⟩ ?_
     rcases ite_some h with ⟨h3, h⟩ | ⟨h3, h⟩
     ·refine WP.yes h3 rfl ?_
      refine WP.pk tm [] [] [(5, vi v5), (4, vb false), (2, V.t (T.ptr [tl x0, ti x1])), (1, vl x2)] [] trivial ?_
      refine WP.seq ?_
      refine WP.block ?_
      refine WP.seq ?_
      obtain ⟨c0, h⟩ := chk_some h
      obtain ⟨c1, h⟩ := chk_some h
      refine WP.pk tm [(24, An.v (ti (gt x2 v5 0))), (25, An.call (tb (isQ (ln x0) (gt x2 v5 0))))] [(2 ≤ 2), ((0 ≤ v5 ∧ v5 < (ln x2))), ((List.drop ((Int.toNat v5) * 1) (List.map (ti) x2) : List T)[0]? = some (ti (gt x2 v5 0))), (ti (gt x2 v5 0) = ti (gt x2 v5 0)), (C Tryz.prog 69 [T.agg [tl x0, ti x1], ti (gt x2 v5 0)] (tb (isQ (ln x0) (gt x2 v5 0))))] [(26, vb (!(isQ (ln x0) (gt x2 v5 0)))), (5, vi v5), (4, vb false), (2, V.t (T.ptr [tl x0, ti x1])), (1, vl x2)] [] ⟨by decide, c0, at1 (by simp) (by omega), rfl, (l2Question_C x0 x1 (gt x2 v5 0) c1), trivial⟩ ?_
      rcases ite_some h with ⟨h4, h⟩ | ⟨h4, h⟩
      ·refine WP.yes h4 rfl ?_
       have h := Option.some.inj h
       subst h
       exact WP.pathW tab_ok mixed [] _ (ps := []) (r := tb false) (by kernel_rfl) trivial (WkT.eq (y := tb false) (WkT.refl _) rfl) (fun _ h => h)
      ·refine WP.no h4 rfl ?_
       refine WP.pk tm [] [] [(5, vi v5), (4, vb false), (2, V.t (T.ptr [tl x0, ti x1])), (1, vl x2)] [] trivial ?_
       obtain ⟨c2, h⟩ := chk_some h
       refine WP.qk tm [(19, An.v (ti (v5 + 1)))] [(True), (wr (v5 + 1))] [(5, vi (v5 + 1)), (4, vb false), (2, V.t (T.ptr [tl x0, ti x1])), (1, vl x2)] [] ⟨trivial, wrapI c2, trivial⟩ ?_
       exact ⟨(n, (v5 + 1)), h, Nat.lt_succ_self _, rfl⟩
     ·refine WP.no h3 rfl ?_
      refine WP.eq tm [] 0 [] [(4, vb false)] [] trivial ?_
      exact ⟨(), h, rfl⟩
   ·intro _ h0
    have h := (show J1 () = some y0 from h0)
    rw [hJ1] at h
    have h := Option.some.inj h
    subst h
    exact WP.pathW tab_ok mixed [] _ (ps := []) (r := tb true) (by kernel_rfl) trivial (WkT.eq (y := tb true) (WkT.refl _) rfl) (fun _ h => h)
theorem F_spec_l8End_W (x0 : List Int) (x1 : Int) (x2 : List Int) (x3 : List Bool) (y0 : List Int) (y1 : Int) (h : F_spec_l8End x0 x1 x2 x3 = some (y0, y1)) : CG Tryz.prog 54 [V.t (T.agg [tl x0, ti x1]), vl x2, vbl x3] [] (V.t (T.agg [tl y0, ti y1])) [] := by
 unfold F_spec_l8End at h
 refine CG.intro (tab := tab) tab_ok (fn := Tryz.f54) Tryz.func54 (by kernel_rfl) rfl (Nat.le_of_ble_eq_true rfl) (by kernel_rfl) ?_
 refine WP.sn tm [(3, An.id 2003), (6, An.id 2006)] [] [2006, 2003] [(6, V.ref 2006 0), (3, V.ref 2003 0), (1, vl x2), (2, vbl x3)] [(2003, oc 26 [tl x0, ti x1]), (2006, oc 26 [T.nils, ti 0])] trivial ?_
 obtain ⟨J1, hJ1, h⟩ := jn_some h
 refine WP.joinA (fun (zz : (List Int)) => ⟨[2003, 2006], [(6, V.ref 2006 0), (3, V.ref 2003 0)], [(2003, oc 26 [tl zz, ti x1]), (2006, oc 26 [T.nils, ti 0])]⟩) (fun zz => J1 zz = some (y0, y1)) ?_ ?_
 ·refine WP.sn tm [] [] [2006, 2003] [(7, vi 0), (6, V.ref 2006 0), (3, V.ref 2003 0), (1, vl x2), (2, vbl x3)] [(2003, oc 26 [tl x0, ti x1]), (2006, oc 26 [T.nils, ti 0])] trivial ?_
  refine WP.block ?_
  refine WP.lp (α := Nat × (List Int) × Int) (fun zz => ⟨[2003, 2006], [(7, vi zz.2.2), (6, V.ref 2006 0), (3, V.ref 2003 0), (1, vl x2), (2, vbl x3)], [(2003, oc 26 [tl zz.2.1, ti x1]), (2006, oc 26 [T.nils, ti 0])]⟩) (fun zz => F_spec_l8End_L1 x1 x2 x3 J1 zz.1 zz.2.1 zz.2.2 = some (y0, y1)) (fun zz => zz.1) (fuel, x0, (0 : Int)) h ?_
  rintro ⟨n, o3, v7⟩ h0
  have h := (show F_spec_l8End_L1 x1 x2 x3 J1 n o3 v7 = some (y0, y1) from h0)
  rcases n with _ | n
  ·rw [F_spec_l8End_L1] at h; cases h
  ·rw [F_spec_l8End_L1] at h
   refine WP.seq ?_
   refine WP.sk tm [] [(True)] [(11, vb (decide (v7 < (ln x2)))), (7, vi v7), (6, V.ref 2006 0), (3, V.ref 2003 0), (1, vl x2), (2, vbl x3)] [(2003, oc 26 [tl o3, ti x1]), (2006, oc 26 [T.nils, ti 0])] ⟨trivial, trivial⟩ ?_
   rcases ite_some h with ⟨h1, h⟩ | ⟨h1, h⟩
   ·refine WP.yes h1 rfl ?_
    refine WP.pk tm [] [] [(7, vi v7), (6, V.ref 2006 0), (3, V.ref 2003 0), (1, vl x2), (2, vbl x3)] [(2003, oc 26 [tl o3, ti x1]), (2006, oc 26 [T.nils, ti 0])] trivial ?_
    refine WP.seq ?_
    refine WP.block ?_
    obtain ⟨c0, h⟩ := chk_some h
    obtain ⟨c1, h⟩ := chk_some h
    obtain ⟨c2, h⟩ := chk_some h
    refine WP.pk tm [(18, An.v (ti (gt x2 v7 0))), (22, An.v (tb (gt x3 v7 false))), (23, An.call (T.agg [tl (ansN x1 (gt x2 v7 0) (gt x3 v7 false) o3), ti x1]))] [(0 + 2 ≤ 2), ((0 ≤ v7 ∧ v7 < (ln x2))), ((List.drop ((Int.toNat v7) * 1) (List.map (ti) x2) : List T)[0]? = some (ti (gt x2 v7 0))), (ti (gt x2 v7 0) = ti (gt x2 v7 0)), ((0 ≤ v7 ∧ v7 < (ln x3))), ((List.drop ((Int.toNat v7) * 1) (List.map T.bool x3) : List T)[0]? = some (tb (gt x3 v7 false))), (tb (gt x3 v7 false) = tb (gt x3 v7 false)), (C Tryz.prog 66 [T.agg [tl o3, ti x1], ti (gt x2 v7 0), tb (gt x3 v7 false)] (T.agg [tl (ansN x1 (gt x2 v7 0) (gt x3 v7 false) o3), ti x1])), ((0 + 2 ≤ 2 ∧ 2 = 2))] [(7, vi v7), (6, V.ref 2006 0), (3, V.ref 2003 0), (1, vl x2), (2, vbl x3)] [(2003, oc 26 [tl (ansN x1 (gt x2 v7 0) (gt x3 v7 false) o3), ti x1]), (2006, oc 26 [T.nils, ti 0])] ⟨by decide, c0, at1 (by simp) (by omega), rfl, c1, at1 (by simp) (by omega), rfl, (l2After_C o3 x1 (gt x2 v7 0) (gt x3 v7 false) c2), by decide, trivial⟩ ?_
    obtain ⟨c3, h⟩ := chk_some h
    refine WP.qk tm [(13, An.v (ti (v7 + 1)))] [(True), (wr (v7 + 1))] [(7, vi (v7 + 1)), (6, V.ref 2006 0), (3, V.ref 2003 0), (1, vl x2), (2, vbl x3)] [(2003, oc 26 [tl (ansN x1 (gt x2 v7 0) (gt x3 v7 false) o3), ti x1]), (2006, oc 26 [T.nils, ti 0])] ⟨trivial, wrapI c3, trivial⟩ ?_
    exact ⟨(n, ansN x1 (gt x2 v7 0) (gt x3 v7 false) o3, (v7 + 1)), h, Nat.lt_succ_self _, rfl⟩
   ·refine WP.no h1 rfl ?_
    refine WP.eq tm [] 0 [] [(6, V.ref 2006 0), (3, V.ref 2003 0)] [(2003, oc 26 [tl o3, ti x1]), (2006, oc 26 [T.nils, ti 0])] trivial ?_
    exact ⟨(o3), h, rfl⟩
 ·intro o3 h0
  have h := (show J1 o3 = some (y0, y1) from h0)
  rw [hJ1] at h
  simp only [Option.some.injEq, Prod.mk.injEq] at h
  obtain ⟨rfl, rfl⟩ := h
  exact WP.pathG tab_ok mixed [] [.keep [6], .keepO [2006], .names [(2006, 2006)]] [] _ (r' := V.t (T.agg [tl o3, ti x1])) (ps := [(0 + 2 ≤ 2), ((0 + 2 ≤ 2 ∧ 2 = 2)), (0 + 2 ≤ 2)]) (r := V.t (T.agg [tl o3, ti x1])) (N := [2006]) (O := []) [] (by kernel_rfl) ⟨by decide, by decide, by first | decide | omega | (simp only [tlL] <;> omega) | (simp <;> omega) | (simp [] <;> omega), trivial⟩ ⟨(WkT.refl _), trivial⟩ rfl rfl (fun _ h => h)
theorem F_spec_l8End_W_C (x0 : List Int) (x1 : Int) (x2 : List Int) (x3 : List Bool) (y0 : List Int) (y1 : Int) (h : F_spec_l8End x0 x1 x2 x3 = some (y0, y1)) : C Tryz.prog 54 [T.agg [tl x0, ti x1], tl x2, tbl x3] (T.agg [tl y0, ti y1]) :=
 CG.toC (ps := []) (F_spec_l8End_W  x0 x1 x2 x3 y0 y1 h) (by rfl) trivial
theorem F_spec_AnswerList_W (x0 : List Int) (x1 : Int) (x2 : List Int) (x3 : List Bool) (y0 : List Int) (y1 : Int) (y2 : Bool) (h : F_spec_AnswerList x0 x1 x2 x3 = some (y0, y1, y2)) : CG Tryz.prog 8 [V.t (T.agg [tl x0, ti x1]), vl x2, vbl x3] [] (V.t (T.tup [T.agg [tl y0, ti y1], tb y2])) [] := by
 unfold F_spec_AnswerList at h
 refine CG.intro (tab := tab) tab_ok (fn := Tryz.f8) Tryz.func8 (by kernel_rfl) rfl (Nat.le_of_ble_eq_true rfl) (by kernel_rfl) ?_
 refine WP.sk tm [(3, An.fz), (6, An.id 2006)] [] [(7, vb false), (6, V.ref 2006 0), (3, V.t (T.ptr [tl x0, ti x1])), (1, vl x2), (2, vbl x3)] [(2006, oc 26 [T.nils, ti 0])] trivial ?_
 refine WP.seq ?_
 obtain ⟨J1, hJ1, h⟩ := jn_some h
 refine WP.joinA (fun (zz : Bool) => ⟨[2006], [(18, vb zz), (7, vb false), (6, V.ref 2006 0), (3, V.t (T.ptr [tl x0, ti x1])), (1, vl x2), (2, vbl x3)], [(2006, oc 26 [T.nils, ti 0])]⟩) (fun zz => J1 zz = some (y0, y1, y2)) ?_ ?_
 ·obtain ⟨r10, c0, h⟩ := bnd1_some h
  rcases ite_some h with ⟨h1, h⟩ | ⟨h1, h⟩
  ·refine WP.qk tm [(10, An.call (tb r10)), (12, An.b true)] [(2 ≤ 2), (C Tryz.prog 53 [T.agg [tl x0, ti x1], tl x2] (tb r10)), ((!r10) = true)] [(18, vb true), (7, vb false), (6, V.ref 2006 0), (3, V.t (T.ptr [tl x0, ti x1])), (1, vl x2), (2, vbl x3)] [(2006, oc 26 [T.nils, ti 0])] ⟨by decide, (F_spec_l8Good_W x0 x1 x2 r10 c0), h1, trivial⟩ ?_
   exact ⟨(true), h, rfl⟩
  ·refine WP.qk tm [(10, An.call (tb r10)), (12, An.b false)] [(2 ≤ 2), (C Tryz.prog 53 [T.agg [tl x0, ti x1], tl x2] (tb r10)), ((!r10) = false), (True)] [(18, vb ((ln x3) != (ln x2))), (7, vb false), (6, V.ref 2006 0), (3, V.t (T.ptr [tl x0, ti x1])), (1, vl x2), (2, vbl x3)] [(2006, oc 26 [T.nils, ti 0])] ⟨by decide, (F_spec_l8Good_W x0 x1 x2 r10 c0), h1, trivial, trivial⟩ ?_
   exact ⟨((ln x3) != (ln x2)), h, rfl⟩
 ·intro v18 h0
  have h := (show J1 v18 = some (y0, y1, y2) from h0)
  rw [hJ1] at h
  rcases ite_some h with ⟨h2, h⟩ | ⟨h2, h⟩
  ·refine WP.yes h2 rfl ?_
   simp only [Option.some.injEq, Prod.mk.injEq] at h
   obtain ⟨rfl, rfl, rfl⟩ := h
   exact WP.pathG tab_ok mixed [] [.keep [6, 7], .keepO [2006], .names [(2006, 2006)]] [] _ (r' := V.t (T.tup [T.agg [tl [], ti (0 : Int)], tb false])) (ps := [(True), ((0 + 2 ≤ 2 ∧ 2 = 2)), (0 + 2 ≤ 2)]) (r := V.t (T.tup [T.agg [T.nils, ti 0], tb false])) (N := [2006]) (O := []) [] (by kernel_rfl) ⟨trivial, by decide, by first | decide | omega | (simp only [tlL] <;> omega) | (simp <;> omega) | (simp [] <;> omega), trivial⟩ ⟨(WkT.tup (WkL.cons (WkT.agg (WkL.cons (WkT.nil _) (WkL.cons (WkT.eq (WkT.refl _) (by first | rfl | (simp only [tlS, tl, vl, vo, oc, ov, tbl, vbl, ty, vy] <;> rfl) | (simp <;> omega) | (simp []; done) | (rw [List.take_of_length_le (by simp [])] <;> rfl) | (simp [List.take_of_length_le]; done))) WkL.nil))) (WkL.cons (WkT.refl _) WkL.nil))), trivial⟩ rfl rfl (fun _ h => h)
  ·refine WP.no h2 rfl ?_
   refine WP.pk tm [] [] [(7, vb false), (6, V.ref 2006 0), (3, V.t (T.ptr [tl x0, ti x1])), (1, vl x2), (2, vbl x3)] [(2006, oc 26 [T.nils, ti 0])] trivial ?_
   obtain ⟨c0, h⟩ := chk_some h
   obtain ⟨r28, r28b, c1, h⟩ := bnd2_some h
   simp only [Option.some.injEq, Prod.mk.injEq] at h
   obtain ⟨rfl, rfl, rfl⟩ := h
   exact WP.pathG tab_ok mixed [(22, An.call (tl x0)), (28, An.callG [] [V.t (T.agg [tl x0, ti x1]), vl x2, vbl x3] [] (V.t (T.agg [tl r28, ti r28b])) [])] [.keep [6, 7], .keepO [2006], .names [(2006, 2006)]] [] _ (r' := V.t (T.tup [T.agg [tl r28, ti r28b], tb true])) (ps := [(True), (C Tryz.prog 55 [tl x0] (tl x0)), (True), ((1 = 1 ∧ 0 + 1 ≤ 2) ∧ (1 = 1 ∧ 1 + 1 ≤ 2) ∧ True), (CG Tryz.prog 54 [V.t (T.agg [tl x0, ti x1]), vl x2, vbl x3] [] (V.t (T.agg [tl r28, ti r28b])) []), (WkT (T.agg [tl x0, ti x1]) (T.agg [tl x0, ti x1])), (WkT (tl x2) (tl x2)), (WkT (tbl x3) (tbl x3)), ((0 + 2 ≤ 2 ∧ 2 = 2)), (0 + 2 ≤ 2)]) (r := V.t (T.tup [T.agg [tl r28, ti r28b], tb true])) (N := [2006]) (O := []) [] (by kernel_rfl) ⟨trivial, (l1Own_C x0 c0), trivial, ⟨⟨by first | rfl | (simp; done) | (simp []; done) | omega, by first | decide | (simp; done) | (simp []; done) | omega | (simp only [tlL]; omega) | (simp; omega)⟩, ⟨by first | rfl | (simp; done) | (simp []; done) | omega, by first | decide | (simp; done) | (simp []; done) | omega | (simp only [tlL]; omega) | (simp; omega)⟩, trivial⟩, (F_spec_l8End_W x0 x1 x2 x3 r28 r28b c1), WkT.refl _, WkT.refl _, WkT.refl _, by decide, by first | decide | omega | (simp only [tlL] <;> omega) | (simp <;> omega) | (simp [] <;> omega), trivial⟩ ⟨(WkT.refl _), trivial⟩ rfl rfl (fun _ h => h)
theorem F_spec_AnswerList_W_C (x0 : List Int) (x1 : Int) (x2 : List Int) (x3 : List Bool) (y0 : List Int) (y1 : Int) (y2 : Bool) (h : F_spec_AnswerList x0 x1 x2 x3 = some (y0, y1, y2)) : C Tryz.prog 8 [T.agg [tl x0, ti x1], tl x2, tbl x3] (T.tup [T.agg [tl y0, ti y1], tb y2]) :=
 CG.toC (ps := []) (F_spec_AnswerList_W  x0 x1 x2 x3 y0 y1 y2 h) (by rfl) trivial
theorem F_laws_rInts_W (x0 : List Int) (x1 : List Int) (y0 : Bool) (h : F_laws_rInts x0 x1 = some y0) : C Tryz.prog 41 [tl x0, tl x1] (tb y0) := by
 unfold F_laws_rInts at h
 refine C.intro (tab := tab) tab_ok (fn := Tryz.f41) Tryz.func41 (by kernel_rfl) rfl (Nat.le_of_ble_eq_true rfl) ?_
 refine WP.sk tm [] [] [(4, vb false), (0, vl x0), (1, vl x1)] [] trivial ?_
 refine WP.seq ?_
 refine WP.sk tm [] [(True)] [(10, vb ((ln x0) != (ln x1))), (4, vb false), (0, vl x0), (1, vl x1)] [] ⟨trivial, trivial⟩ ?_
 rcases ite_some h with ⟨h1, h⟩ | ⟨h1, h⟩
 ·refine WP.yes h1 rfl ?_
  have h := Option.some.inj h
  subst h
  exact WP.pathW tab_ok mixed [] _ (ps := []) (r := tb false) (by kernel_rfl) trivial (WkT.eq (y := tb false) (WkT.refl _) rfl) (fun _ h => h)
 ·refine WP.no h1 rfl ?_
  refine WP.pk tm [] [] [(4, vb false), (0, vl x0), (1, vl x1)] [] trivial ?_
  obtain ⟨J1, hJ1, h⟩ := jn_some h
  refine WP.joinA (fun (zz : Unit) => ⟨[], [(4, vb false)], []⟩) (fun zz => J1 () = some y0) ?_ ?_
  ·refine WP.sk tm [] [] [(5, vi 0), (4, vb false), (0, vl x0), (1, vl x1)] [] trivial ?_
   refine WP.block ?_
   refine WP.lp (α := Nat × Int) (fun zz => ⟨[], [(5, vi zz.2), (4, vb false), (0, vl x0), (1, vl x1)], []⟩) (fun zz => F_laws_rInts_L1 x0 x1 J1 zz.1 zz.2 = some y0) (fun zz => zz.1) (fuel, (0 : Int)) h ?_
   rintro ⟨n, v5⟩ h0
   have h := (show F_laws_rInts_L1 x0 x1 J1 n v5 = some y0 from h0)
   rcases n with _ | n
   ·rw [F_laws_rInts_L1] at h; cases h
   ·rw [F_laws_rInts_L1] at h
    refine WP.seq ?_
    refine WP.sk tm [] [(True)] [(14, vb (decide (v5 < (ln x0)))), (5, vi v5), (4, vb false), (0, vl x0), (1, vl x1)] [] ⟨trivial, trivial⟩ ?_
    rcases ite_some h with ⟨h2, h⟩ | ⟨h2, h⟩
    ·refine WP.yes h2 rfl ?_
     refine WP.pk tm [] [] [(5, vi v5), (4, vb false), (0, vl x0), (1, vl x1)] [] trivial ?_
     refine WP.seq ?_
     refine WP.block ?_
     refine WP.seq ?_
     obtain ⟨c0, h⟩ := chk_some h
     obtain ⟨c1, h⟩ := chk_some h
     refine WP.pk tm [(20, An.v (ti (gt x0 v5 0))), (24, An.v (ti (gt x1 v5 0)))] [((0 ≤ v5 ∧ v5 < (ln x0))), ((List.drop ((Int.toNat v5) * 1) (List.map (ti) x0) : List T)[0]? = some (ti (gt x0 v5 0))), (ti (gt x0 v5 0) = ti (gt x0 v5 0)), ((0 ≤ v5 ∧ v5 < (ln x1))), ((List.drop ((Int.toNat v5) * 1) (List.map (ti) x1) : List T)[0]? = some (ti (gt x1 v5 0))), (ti (gt x1 v5 0) = ti (gt x1 v5 0)), (True)] [(25, vb ((gt x0 v5 0) != (gt x1 v5 0))), (5, vi v5), (4, vb false), (0, vl x0), (1, vl x1)] [] ⟨c0, at1 (by simp) (by omega), rfl, c1, at1 (by simp) (by omega), rfl, trivial, trivial⟩ ?_
     rcases ite_some h with ⟨h3, h⟩ | ⟨h3, h⟩
     ·refine WP.yes h3 rfl ?_
      have h := Option.some.inj h
      subst h
      exact WP.pathW tab_ok mixed [] _ (ps := []) (r := tb false) (by kernel_rfl) trivial (WkT.eq (y := tb false) (WkT.refl _) rfl) (fun _ h => h)
     ·refine WP.no h3 rfl ?_
      refine WP.pk tm [] [] [(5, vi v5), (4, vb false), (0, vl x0), (1, vl x1)] [] trivial ?_
      obtain ⟨c2, h⟩ := chk_some h
      refine WP.qk tm [(16, An.v (ti (v5 + 1)))] [(True), (wr (v5 + 1))] [(5, vi (v5 + 1)), (4, vb false), (0, vl x0), (1, vl x1)] [] ⟨trivial, wrapI c2, trivial⟩ ?_
      exact ⟨(n, (v5 + 1)), h, Nat.lt_succ_self _, rfl⟩
    ·refine WP.no h2 rfl ?_
     refine WP.eq tm [] 0 [] [(4, vb false)] [] trivial ?_
     exact ⟨(), h, rfl⟩
  ·intro _ h0
   have h := (show J1 () = some y0 from h0)
   rw [hJ1] at h
   have h := Option.some.inj h
   subst h
   exact WP.pathW tab_ok mixed [] _ (ps := []) (r := tb true) (by kernel_rfl) trivial (WkT.eq (y := tb true) (WkT.refl _) rfl) (fun _ h => h)
theorem F_laws_rState_W (x0 : List Int) (x1 : Int) (x2 : List Int) (x3 : Int) (y0 : Bool) (h : F_laws_rState x0 x1 x2 x3 = some y0) : C Tryz.prog 9 [T.agg [tl x0, ti x1], T.agg [tl x2, ti x3]] (tb y0) := by
 unfold F_laws_rState at h
 refine C.intro (tab := tab) tab_ok (fn := Tryz.f9) Tryz.func9 (by kernel_rfl) rfl (Nat.le_of_ble_eq_true rfl) ?_
 rcases ite_some h with ⟨h1, h⟩ | ⟨h1, h⟩
 ·obtain ⟨r15, c0, h⟩ := bnd1_some h
  have h := Option.some.inj h
  subst h
  exact WP.pathW tab_ok mixed [(2, An.fz), (3, An.fz), (9, An.b true), (15, An.call (tb r15))] _ (ps := [(True), (True), (True), ((x1 == x3) = true), (True), (True), (C Tryz.prog 41 [tl x0, tl x2] (tb r15))]) (r := tb r15) (by kernel_rfl) ⟨trivial, trivial, trivial, h1, trivial, trivial, (F_laws_rInts_W x0 x2 r15 c0), trivial⟩ (WkT.eq (y := tb r15) (WkT.refl _) rfl) (fun _ h => h)
 ·have h := Option.some.inj h
  subst h
  exact WP.pathW tab_ok mixed [(2, An.fz), (3, An.fz), (9, An.b false)] _ (ps := [(True), (True), (True), ((x1 == x3) = false)]) (r := tb false) (by kernel_rfl) ⟨trivial, trivial, trivial, h1, trivial⟩ (WkT.eq (y := tb false) (WkT.refl _) rfl) (fun _ h => h)
theorem F_spec_DrawCountFair_W (x0 : List Int) (y0 : List Int) (y1 : Int) (y2 : List Int) (h : F_spec_DrawCountFair x0 = some (y0, y1, y2)) : CG Tryz.prog 56 [vy x0] [] (V.t (T.tup [T.agg [tl y0, ti y1], tl y2])) [] := by
 unfold F_spec_DrawCountFair at h
 refine CG.intro (tab := tab) tab_ok (fn := Tryz.f56) Tryz.func56 (by kernel_rfl) rfl (Nat.le_of_ble_eq_true rfl) (by kernel_rfl) ?_
 obtain ⟨r9, r9b, r9c, r9d, r9e, r9g, c0, h⟩ := bnd6_some h
 simp only [Option.some.injEq, Prod.mk.injEq] at h
 obtain ⟨rfl, rfl, rfl⟩ := h
 exact WP.pathG tab_ok mixed [(2, An.id 2002), (7, An.id 2007), (9, An.callG [(500, 2007)] [V.ref 500 0] [(500, oc 65 [ty x0, ti 0, T.int .u64 0])] (V.t (T.tup [T.agg [tl r9, ti r9b], tl r9c])) [(500, oc 65 [ty r9d, ti r9e, T.int .u64 r9g])])] [.keep [2, 3], .keepO [2002], .names [(2002, 2002)]] [] _ (r' := V.t (T.tup [T.agg [tl r9, ti r9b], tl r9c])) (ps := [((1 = 1 ∧ 0 + 1 ≤ 3) ∧ True), (CG Tryz.prog 46 [V.ref 500 0] [(500, oc 65 [ty x0, ti 0, T.int .u64 0])] (V.t (T.tup [T.agg [tl r9, ti r9b], tl r9c])) [(500, oc 65 [ty r9d, ti r9e, T.int .u64 r9g])]), ((V.ref 500 0).ren (renF [(500, 2007)]) = V.ref 2007 0), ((oc 65 [ty x0, ti 0, T.int .u64 0]) = (oc 65 [ty x0, ti 0, T.int .u64 0]).ren (renF [(500, 2007)])), ((0 + 2 ≤ 2 ∧ 2 = 2)), (0 + 2 ≤ 2)]) (r := V.t (T.tup [T.agg [tl r9, ti r9b], tl r9c])) (N := [2002]) (O := []) [] (by kernel_rfl) ⟨⟨⟨by first | rfl | (simp; done) | (simp []; done) | omega, by first | decide | (simp; done) | (simp []; done) | omega | (simp only [tlL]; omega) | (simp; omega)⟩, trivial⟩, (F_p_spec_l1Cur_fixed_W x0 (0 : Int) (0 : Int) r9 r9b r9c r9d r9e r9g c0), by first | rfl | (simp [V.ren, V.renL, renF, lk]; done) | (simp [V.ren, V.renL, renF, lk]; omega), rfl, by decide, by first | decide | omega | (simp only [tlL] <;> omega) | (simp <;> omega) | (simp [] <;> omega), trivial⟩ ⟨(WkT.refl _), trivial⟩ rfl rfl (fun _ h => h)
theorem F_spec_DrawCountFair_W_C (x0 : List Int) (y0 : List Int) (y1 : Int) (y2 : List Int) (h : F_spec_DrawCountFair x0 = some (y0, y1, y2)) : C Tryz.prog 56 [ty x0] (T.tup [T.agg [tl y0, ti y1], tl y2]) :=
 CG.toC (ps := []) (F_spec_DrawCountFair_W  x0 y0 y1 y2 h) (by rfl) trivial
theorem F_spec_DrawHoldPlay_W (x0 : List Int) (y0 : List Int) (y1 : Int) (y2 : List Int) (h : F_spec_DrawHoldPlay x0 = some (y0, y1, y2)) : CG Tryz.prog 10 [vy x0] [] (V.t (T.tup [T.agg [tl y0, ti y1], tl y2])) [] := by
 unfold F_spec_DrawHoldPlay at h
 refine CG.intro (tab := tab) tab_ok (fn := Tryz.f10) Tryz.func10 (by kernel_rfl) rfl (Nat.le_of_ble_eq_true rfl) (by kernel_rfl) ?_
 obtain ⟨r5, r5b, r5c, c0, h⟩ := bnd3_some h
 simp only [Option.some.injEq, Prod.mk.injEq] at h
 obtain ⟨rfl, rfl, rfl⟩ := h
 exact WP.pathG tab_ok mixed [(2, An.id 2002), (5, An.callG [] [vy x0] [] (V.t (T.tup [T.agg [tl r5, ti r5b], tl r5c])) [])] [.keep [2, 3], .keepO [2002], .names [(2002, 2002)]] [] _ (r' := V.t (T.tup [T.agg [tl r5, ti r5b], tl r5c])) (ps := [(CG Tryz.prog 56 [vy x0] [] (V.t (T.tup [T.agg [tl r5, ti r5b], tl r5c])) []), (WkT (ty x0) (ty x0)), ((0 + 2 ≤ 2 ∧ 2 = 2)), (0 + 2 ≤ 2)]) (r := V.t (T.tup [T.agg [tl r5, ti r5b], tl r5c])) (N := [2002]) (O := []) [] (by kernel_rfl) ⟨(F_spec_DrawCountFair_W x0 r5 r5b r5c c0), WkT.refl _, by decide, by first | decide | omega | (simp only [tlL] <;> omega) | (simp <;> omega) | (simp [] <;> omega), trivial⟩ ⟨(WkT.refl _), trivial⟩ rfl rfl (fun _ h => h)
theorem F_spec_DrawHoldPlay_W_C (x0 : List Int) (y0 : List Int) (y1 : Int) (y2 : List Int) (h : F_spec_DrawHoldPlay x0 = some (y0, y1, y2)) : C Tryz.prog 10 [ty x0] (T.tup [T.agg [tl y0, ti y1], tl y2]) :=
 CG.toC (ps := []) (F_spec_DrawHoldPlay_W  x0 y0 y1 y2 h) (by rfl) trivial
theorem F_slices_IndexFunc_____int___int__W (x0 : List (List Int)) (g1 : FuncId) (pre1 caps1 : List T) (p1 : (List Int) → Option (Bool)) (hp1 : ∀ (a1_0 : List Int) (b1_1 : Bool), p1 a1_0 = some b1_1 → C Tryz.prog g1 (pre1 ++ ([tl a1_0] ++ caps1)) (tb b1_1)) (y0 : Int) (h : F_slices_IndexFunc_____int___int_ x0 p1 = some y0) : C Tryz.prog 150 [T.list (List.length x0) 1 (List.map (fun l => T.list (List.length l) 1 (List.map (ti) l)) x0), T.fn g1 pre1 caps1] (ti y0) := by
 unfold F_slices_IndexFunc_____int___int_ at h
 refine C.intro (tab := tab) tab_ok (fn := Tryz.f150) Tryz.func150 (by kernel_rfl) rfl (Nat.le_of_ble_eq_true rfl) ?_
 refine WP.sk tm [] [] [(4, vi 0), (0, V.t (T.list (List.length x0) 1 (List.map (fun l => T.list (List.length l) 1 (List.map (ti) l)) x0))), (1, V.t (T.fn g1 pre1 caps1))] [] trivial ?_
 obtain ⟨J1, hJ1, h⟩ := jn_some h
 refine WP.joinA (fun (zz : Unit) => ⟨[], [(4, vi 0)], []⟩) (fun zz => J1 () = some y0) ?_ ?_
 ·refine WP.sk tm [] [] [(8, vi 0), (7, vi (ln x0)), (4, vi 0), (0, V.t (T.list (List.length x0) 1 (List.map (fun l => T.list (List.length l) 1 (List.map (ti) l)) x0))), (1, V.t (T.fn g1 pre1 caps1))] [] trivial ?_
  refine WP.block ?_
  refine WP.lp (α := Nat × Int) (fun zz => ⟨[], [(8, vi zz.2), (7, vi (ln x0)), (4, vi 0), (0, V.t (T.list (List.length x0) 1 (List.map (fun l => T.list (List.length l) 1 (List.map (ti) l)) x0))), (1, V.t (T.fn g1 pre1 caps1))], []⟩) (fun zz => F_slices_IndexFunc_____int___int__L1 x0 p1 J1 zz.1 zz.2 = some y0) (fun zz => zz.1) (fuel, (0 : Int)) h ?_
  rintro ⟨n, v8⟩ h0
  have h := (show F_slices_IndexFunc_____int___int__L1 x0 p1 J1 n v8 = some y0 from h0)
  rcases n with _ | n
  ·rw [F_slices_IndexFunc_____int___int__L1] at h; cases h
  ·rw [F_slices_IndexFunc_____int___int__L1] at h
   refine WP.sk tm [] [(True)] [(9, vb (decide (v8 < (ln x0)))), (8, vi v8), (7, vi (ln x0)), (4, vi 0), (0, V.t (T.list (List.length x0) 1 (List.map (fun l => T.list (List.length l) 1 (List.map (ti) l)) x0))), (1, V.t (T.fn g1 pre1 caps1))] [] ⟨trivial, trivial⟩ ?_
   refine WP.seq ?_
   rcases ite_some h with ⟨h1, h⟩ | ⟨h1, h⟩
   ·refine WP.yes h1 rfl ?_
    refine WP.pk tm [] [] [(8, vi v8), (7, vi (ln x0)), (4, vi 0), (0, V.t (T.list (List.length x0) 1 (List.map (fun l => T.list (List.length l) 1 (List.map (ti) l)) x0))), (1, V.t (T.fn g1 pre1 caps1))] [] trivial ?_
    refine WP.seq ?_
    refine WP.block ?_
    refine WP.sk tm [] [] [(5, vi v8), (8, vi v8), (7, vi (ln x0)), (4, vi 0), (0, V.t (T.list (List.length x0) 1 (List.map (fun l => T.list (List.length l) 1 (List.map (ti) l)) x0))), (1, V.t (T.fn g1 pre1 caps1))] [] trivial ?_
    refine WP.seq ?_
    obtain ⟨c0, h⟩ := chk_some h
    obtain ⟨r16, c1, h⟩ := bnd1_some h
    refine WP.pk tm [(15, An.v (tl (gt x0 v8 []))), (16, An.call (tb r16))] [((0 ≤ v8 ∧ v8 < (ln x0))), ((List.drop ((Int.toNat v8) * 1) (List.map (fun l => T.list (List.length l) 1 (List.map (ti) l)) x0) : List T)[0]? = some (tl (gt x0 v8 []))), (tl (gt x0 v8 []) = tl (gt x0 v8 [])), (C Tryz.prog g1 (pre1 ++ ([tl (gt x0 v8 [])] ++ caps1)) (tb r16))] [(16, vb r16), (5, vi v8), (8, vi v8), (7, vi (ln x0)), (4, vi 0), (0, V.t (T.list (List.length x0) 1 (List.map (fun l => T.list (List.length l) 1 (List.map (ti) l)) x0))), (1, V.t (T.fn g1 pre1 caps1))] [] ⟨c0, at1 (by simp) (by omega), rfl, (hp1 (gt x0 v8 []) r16 c1), trivial⟩ ?_
    rcases ite_some h with ⟨h2, h⟩ | ⟨h2, h⟩
    ·refine WP.yes h2 rfl ?_
     have h := Option.some.inj h
     subst h
     exact WP.pathW tab_ok mixed [] _ (ps := []) (r := ti v8) (by kernel_rfl) trivial (WkT.eq (y := ti v8) (WkT.refl _) rfl) (fun _ h => h)
    ·refine WP.no h2 rfl ?_
     refine WP.pk tm [] [] [(8, vi v8), (7, vi (ln x0)), (4, vi 0), (0, V.t (T.list (List.length x0) 1 (List.map (fun l => T.list (List.length l) 1 (List.map (ti) l)) x0))), (1, V.t (T.fn g1 pre1 caps1))] [] trivial ?_
     obtain ⟨c2, h⟩ := chk_some h
     refine WP.qk tm [(18, An.v (ti (v8 + 1)))] [(True), (wr (v8 + 1))] [(8, vi (v8 + 1)), (7, vi (ln x0)), (4, vi 0), (0, V.t (T.list (List.length x0) 1 (List.map (fun l => T.list (List.length l) 1 (List.map (ti) l)) x0))), (1, V.t (T.fn g1 pre1 caps1))] [] ⟨trivial, wrapI c2, trivial⟩ ?_
     exact ⟨(n, (v8 + 1)), h, Nat.lt_succ_self _, rfl⟩
   ·refine WP.no h1 rfl ?_
    refine WP.eq tm [] 0 [] [(4, vi 0)] [] trivial ?_
    exact ⟨(), h, rfl⟩
 ·intro _ h0
  have h := (show J1 () = some y0 from h0)
  rw [hJ1] at h
  have h := Option.some.inj h
  subst h
  exact WP.pathW tab_ok mixed [] _ (ps := []) (r := ti (-1)) (by kernel_rfl) trivial (WkT.eq (y := ti (-1)) (WkT.refl _) (by first | rfl | (simp only [tlS, tl, vl, vo, oc, ov, tbl, vbl, ty, vy] <;> rfl) | (simp <;> omega) | (simp []; done) | (rw [List.take_of_length_le (by simp [])] <;> rfl) | (simp [List.take_of_length_le]; done))) (fun _ h => h)
theorem F_slices_ContainsFunc_____int___int__W (x0 : List (List Int)) (g1 : FuncId) (pre1 caps1 : List T) (p1 : (List Int) → Option (Bool)) (hp1 : ∀ (a1_0 : List Int) (b1_1 : Bool), p1 a1_0 = some b1_1 → C Tryz.prog g1 (pre1 ++ ([tl a1_0] ++ caps1)) (tb b1_1)) (y0 : Bool) (h : F_slices_ContainsFunc_____int___int_ x0 p1 = some y0) : C Tryz.prog 140 [T.list (List.length x0) 1 (List.map (fun l => T.list (List.length l) 1 (List.map (ti) l)) x0), T.fn g1 pre1 caps1] (tb y0) := by
 unfold F_slices_ContainsFunc_____int___int_ at h
 refine C.intro (tab := tab) tab_ok (fn := Tryz.f140) Tryz.func140 (by kernel_rfl) rfl (Nat.le_of_ble_eq_true rfl) ?_
 obtain ⟨r7, c0, h⟩ := bnd1_some h
 have h := Option.some.inj h
 subst h
 exact WP.pathW tab_ok mixed [(7, An.call (ti r7))] _ (ps := [(C Tryz.prog 150 [T.list (List.length x0) 1 (List.map (fun l => T.list (List.length l) 1 (List.map (ti) l)) x0), T.fn g1 pre1 caps1] (ti r7)), (True)]) (r := tb (decide (r7 ≥ (0 : Int)))) (by kernel_rfl) ⟨(F_slices_IndexFunc_____int___int__W x0 g1 pre1 caps1 p1 hp1 r7 c0), trivial, trivial⟩ (WkT.eq (y := tb (decide (r7 ≥ (0 : Int)))) (WkT.refl _) rfl) (fun _ h => h)
theorem F_impl_splits_W (x0 : List Int) (y0 : List (List Int)) (h : F_impl_splits x0 = some y0) : CG Tryz.prog 141 [vl x0] [] (vo 9000 (List.length y0)) [(9000, oc 24 (List.map (fun l => T.list (List.length l) 1 (List.map (ti) l)) y0))] := by
 unfold F_impl_splits at h
 refine CG.intro (tab := tab) tab_ok (fn := Tryz.f141) Tryz.func141 (by kernel_rfl) rfl (Nat.le_of_ble_eq_true rfl) (by kernel_rfl) ?_
 refine WP.sk tm [] [] [(2, V.t (T.nils)), (0, vl x0)] [] trivial ?_
 refine WP.sk tm [(10, An.fz), (11, An.id 2011)] [(True), (0 = 0 * 1), ((1 = 1 ∧ 0 + 1 ≤ 1) ∧ True), (1 = 1 * 1)] [(3, vo 2011 1), (2, V.t (T.nils)), (0, vl x0)] [(2011, oc 24 [T.list 0 1 []])] ⟨trivial, by decide, ⟨⟨by first | rfl | (simp; done) | (simp []; done) | omega, by first | decide | (simp; done) | (simp []; done) | omega | (simp only [tlL]; omega) | (simp; omega)⟩, trivial⟩, by decide, trivial⟩ ?_
 obtain ⟨J1, hJ1, h⟩ := jn_some h
 refine WP.joinA (fun (zz : (List (List Int))) => ⟨[2011], [(3, vo 2011 (List.length zz)), (2, V.t (T.nils))], [(2011, oc 24 (List.map (fun l => T.list (List.length l) 1 (List.map (ti) l)) zz))]⟩) (fun zz => J1 zz = some y0) ?_ ?_
 ·refine WP.sk tm [] [] [(14, vi 0), (13, vi (ln x0)), (12, vl x0), (3, vo 2011 1), (2, V.t (T.nils))] [(2011, oc 24 [T.list 0 1 []])] trivial ?_
  refine WP.block ?_
  refine WP.lp (α := Nat × (List (List Int)) × Int) (fun zz => ⟨[2011], [(14, vi zz.2.2), (13, vi (ln x0)), (12, vl x0), (3, vo 2011 (List.length zz.2.1)), (2, V.t (T.nils))], [(2011, oc 24 (List.map (fun l => T.list (List.length l) 1 (List.map (ti) l)) zz.2.1))]⟩) (fun zz => F_impl_splits_L1 x0 J1 zz.1 zz.2.1 zz.2.2 = some y0) (fun zz => zz.1) (fuel, [([] : List Int)], (0 : Int)) h ?_
  rintro ⟨n, o11, v14⟩ h0
  have h := (show F_impl_splits_L1 x0 J1 n o11 v14 = some y0 from h0)
  rcases n with _ | n
  ·rw [F_impl_splits_L1] at h; cases h
  ·rw [F_impl_splits_L1] at h
   refine WP.sk tm [] [(True)] [(15, vb (decide (v14 < (ln x0)))), (14, vi v14), (13, vi (ln x0)), (12, vl x0), (3, vo 2011 (List.length o11)), (2, V.t (T.nils))] [(2011, oc 24 (List.map (fun l => T.list (List.length l) 1 (List.map (ti) l)) o11))] ⟨trivial, trivial⟩ ?_
   refine WP.seq ?_
   rcases ite_some h with ⟨h1, h⟩ | ⟨h1, h⟩
   ·refine WP.yes h1 rfl ?_
    refine WP.pk tm [] [] [(14, vi v14), (13, vi (ln x0)), (12, vl x0), (3, vo 2011 (List.length o11)), (2, V.t (T.nils))] [(2011, oc 24 (List.map (fun l => T.list (List.length l) 1 (List.map (ti) l)) o11))] trivial ?_
    obtain ⟨J2, hJ2, h⟩ := jn_some h
    refine WP.joinA (fun (zz : (List (List Int))) => ⟨[2018], [(3, vo 2018 (List.length zz)), (14, vi v14), (13, vi (ln x0)), (12, vl x0), (2, V.t (T.nils))], [(2018, oc 24 (List.map (fun l => T.list (List.length l) 1 (List.map (ti) l)) zz))]⟩) (fun zz => J2 zz = some y0) ?_ ?_
    ·refine WP.block ?_
     refine WP.seq ?_
     obtain ⟨c0, h⟩ := chk_some h
     refine WP.pk tm [(17, An.v (ti (gt x0 v14 0)))] [((0 ≤ v14 ∧ v14 < (ln x0))), ((List.drop ((Int.toNat v14) * 1) (List.map (ti) x0) : List T)[0]? = some (ti (gt x0 v14 0))), (ti (gt x0 v14 0) = ti (gt x0 v14 0))] [(5, vi (gt x0 v14 0)), (14, vi v14), (13, vi (ln x0)), (12, vl x0), (3, vo 2011 (List.length o11)), (2, V.t (T.nils))] [(2011, oc 24 (List.map (fun l => T.list (List.length l) 1 (List.map (ti) l)) o11))] ⟨c0, at1 (by simp) (by omega), rfl, trivial⟩ ?_
     refine WP.sn tm [(18, An.id 2018)] [(True), (0 = 0 * 1)] [2018, 2011] [(6, vo 2018 0), (5, vi (gt x0 v14 0)), (14, vi v14), (13, vi (ln x0)), (12, vl x0), (3, vo 2011 (List.length o11)), (2, V.t (T.nils))] [(2011, oc 24 (List.map (fun l => T.list (List.length l) 1 (List.map (ti) l)) o11)), (2018, oc 24 [])] ⟨trivial, by decide, trivial⟩ ?_
     obtain ⟨J3, hJ3, h⟩ := jn_some h
     refine WP.joinA (fun (zz : (List (List Int))) => ⟨[2011, 2018], [(6, vo 2018 (List.length zz)), (14, vi v14), (13, vi (ln x0)), (12, vl x0), (3, vo 2011 (List.length o11)), (2, V.t (T.nils))], [(2011, oc 24 (List.map (fun l => T.list (List.length l) 1 (List.map (ti) l)) o11)), (2018, oc 24 (List.map (fun l => T.list (List.length l) 1 (List.map (ti) l)) zz))]⟩) (fun zz => J3 zz = some y0) ?_ ?_
     ·refine WP.sn tm [] [] [2018, 2011] [(21, vi 0), (20, vi (ln o11)), (19, vo 2011 (List.length o11)), (6, vo 2018 0), (5, vi (gt x0 v14 0)), (14, vi v14), (13, vi (ln x0)), (12, vl x0), (3, vo 2011 (List.length o11)), (2, V.t (T.nils))] [(2011, oc 24 (List.map (fun l => T.list (List.length l) 1 (List.map (ti) l)) o11)), (2018, oc 24 [])] trivial ?_
      refine WP.block ?_
      refine WP.lp (α := Nat × (List (List Int)) × Int) (fun zz => ⟨[2011, 2018], [(21, vi zz.2.2), (20, vi (ln o11)), (19, vo 2011 (List.length o11)), (6, vo 2018 (List.length zz.2.1)), (5, vi (gt x0 v14 0)), (14, vi v14), (13, vi (ln x0)), (12, vl x0), (3, vo 2011 (List.length o11)), (2, V.t (T.nils))], [(2011, oc 24 (List.map (fun l => T.list (List.length l) 1 (List.map (ti) l)) o11)), (2018, oc 24 (List.map (fun l => T.list (List.length l) 1 (List.map (ti) l)) zz.2.1))]⟩) (fun zz => F_impl_splits_L2 x0 o11 v14 J3 zz.1 zz.2.1 zz.2.2 = some y0) (fun zz => zz.1) (fuel, ([] : List (List Int)), (0 : Int)) h ?_
      rintro ⟨n, o18, v21⟩ h0
      have h := (show F_impl_splits_L2 x0 o11 v14 J3 n o18 v21 = some y0 from h0)
      rcases n with _ | n
      ·rw [F_impl_splits_L2] at h; cases h
      ·rw [F_impl_splits_L2] at h
       refine WP.sk tm [] [(True)] [(22, vb (decide (v21 < (ln o11)))), (21, vi v21), (20, vi (ln o11)), (19, vo 2011 (List.length o11)), (6, vo 2018 (List.length o18)), (5, vi (gt x0 v14 0)), (14, vi v14), (13, vi (ln x0)), (12, vl x0), (3, vo 2011 (List.length o11)), (2, V.t (T.nils))] [(2011, oc 24 (List.map (fun l => T.list (List.length l) 1 (List.map (ti) l)) o11)), (2018, oc 24 (List.map (fun l => T.list (List.length l) 1 (List.map (ti) l)) o18))] ⟨trivial, trivial⟩ ?_
       refine WP.seq ?_
       rcases ite_some h with ⟨h2, h⟩ | ⟨h2, h⟩
       ·refine WP.yes h2 rfl ?_
        refine WP.pk tm [] [] [(21, vi v21), (20, vi (ln o11)), (19, vo 2011 (List.length o11)), (6, vo 2018 (List.length o18)), (5, vi (gt x0 v14 0)), (14, vi v14), (13, vi (ln x0)), (12, vl x0), (3, vo 2011 (List.length o11)), (2, V.t (T.nils))] [(2011, oc 24 (List.map (fun l => T.list (List.length l) 1 (List.map (ti) l)) o11)), (2018, oc 24 (List.map (fun l => T.list (List.length l) 1 (List.map (ti) l)) o18))] trivial ?_
        obtain ⟨J4, hJ4, h⟩ := jn_some h
        refine WP.joinA (fun (zz : (List (List Int))) => ⟨[2011, 2018], [(21, vi v21), (20, vi (ln o11)), (19, vo 2011 (List.length o11)), (6, vo 2018 (List.length zz)), (5, vi (gt x0 v14 0)), (14, vi v14), (13, vi (ln x0)), (12, vl x0), (3, vo 2011 (List.length o11)), (2, V.t (T.nils))], [(2011, oc 24 (List.map (fun l => T.list (List.length l) 1 (List.map (ti) l)) o11)), (2018, oc 24 (List.map (fun l => T.list (List.length l) 1 (List.map (ti) l)) zz))]⟩) (fun zz => J4 zz = some y0) ?_ ?_
        ·refine WP.block ?_
         refine WP.seq ?_
         obtain ⟨c1, h⟩ := chk_some h
         refine WP.pk tm [(24, An.v (tl (gt o11 v21 [])))] [((0 ≤ v21 ∧ v21 < (ln o11))), ((List.map (fun l => T.list (List.length l) 1 (List.map (ti) l)) o11 : List T)[(Int.toNat v21) * 1]? = some (tl (gt o11 v21 []))), (tl (gt o11 v21 []) = tl (gt o11 v21 []))] [(8, vl (gt o11 v21 [])), (21, vi v21), (20, vi (ln o11)), (19, vo 2011 (List.length o11)), (6, vo 2018 (List.length o18)), (5, vi (gt x0 v14 0)), (14, vi v14), (13, vi (ln x0)), (12, vl x0), (3, vo 2011 (List.length o11)), (2, V.t (T.nils))] [(2011, oc 24 (List.map (fun l => T.list (List.length l) 1 (List.map (ti) l)) o11)), (2018, oc 24 (List.map (fun l => T.list (List.length l) 1 (List.map (ti) l)) o18))] ⟨c1, atM (by simp) (by first | omega | (simp only [tlL]; omega) | (simp; omega)), rfl, trivial⟩ ?_
         refine WP.seq ?_
         obtain ⟨c2, h⟩ := chk_some h
         obtain ⟨n26, c3, h⟩ := nam_some h
         refine WP.pk tm [(26, An.v (ti n26))] [(True), (ti (IntKind.wrap .i64 ((gt x0 v14 0) + 1)) = ti n26)] [(27, vi 0), (26, vi n26), (8, vl (gt o11 v21 [])), (21, vi v21), (20, vi (ln o11)), (19, vo 2011 (List.length o11)), (6, vo 2018 (List.length o18)), (5, vi (gt x0 v14 0)), (14, vi v14), (13, vi (ln x0)), (12, vl x0), (3, vo 2011 (List.length o11)), (2, V.t (T.nils))] [(2011, oc 24 (List.map (fun l => T.list (List.length l) 1 (List.map (ti) l)) o11)), (2018, oc 24 (List.map (fun l => T.list (List.length l) 1 (List.map (ti) l)) o18))] ⟨trivial, Eq.trans (wrapI c2) (congrArg (ti) c3), trivial⟩ ?_
         refine WP.block ?_
         refine WP.lp (α := Nat × (List (List Int)) × Int) (fun zz => ⟨[2011, 2018], [(27, vi zz.2.2), (26, vi n26), (8, vl (gt o11 v21 [])), (21, vi v21), (20, vi (ln o11)), (19, vo 2011 (List.length o11)), (6, vo 2018 (List.length zz.2.1)), (5, vi (gt x0 v14 0)), (14, vi v14), (13, vi (ln x0)), (12, vl x0), (3, vo 2011 (List.length o11)), (2, V.t (T.nils))], [(2011, oc 24 (List.map (fun l => T.list (List.length l) 1 (List.map (ti) l)) o11)), (2018, oc 24 (List.map (fun l => T.list (List.length l) 1 (List.map (ti) l)) zz.2.1))]⟩) (fun zz => F_impl_splits_L3 o11 v21 J4 n26 zz.1 zz.2.1 zz.2.2 = some y0) (fun zz => zz.1) (fuel, o18, (0 : Int)) h ?_
         rintro ⟨n, o18b, v27⟩ h0
         have h := (show F_impl_splits_L3 o11 v21 J4 n26 n o18b v27 = some y0 from h0)
         rcases n with _ | n
         ·rw [F_impl_splits_L3] at h; cases h
         ·rw [F_impl_splits_L3] at h
          refine WP.sk tm [] [(True)] [(28, vb (decide (v27 < n26))), (27, vi v27), (26, vi n26), (8, vl (gt o11 v21 [])), (21, vi v21), (20, vi (ln o11)), (19, vo 2011 (List.length o11)), (6, vo 2018 (List.length o18b)), (5, vi (gt x0 v14 0)), (14, vi v14), (13, vi (ln x0)), (12, vl x0), (3, vo 2011 (List.length o11)), (2, V.t (T.nils))] [(2011, oc 24 (List.map (fun l => T.list (List.length l) 1 (List.map (ti) l)) o11)), (2018, oc 24 (List.map (fun l => T.list (List.length l) 1 (List.map (ti) l)) o18b))] ⟨trivial, trivial⟩ ?_
          refine WP.seq ?_
          rcases ite_some h with ⟨h3, h⟩ | ⟨h3, h⟩
          ·refine WP.yes h3 rfl ?_
           refine WP.pk tm [] [] [(27, vi v27), (26, vi n26), (8, vl (gt o11 v21 [])), (21, vi v21), (20, vi (ln o11)), (19, vo 2011 (List.length o11)), (6, vo 2018 (List.length o18b)), (5, vi (gt x0 v14 0)), (14, vi v14), (13, vi (ln x0)), (12, vl x0), (3, vo 2011 (List.length o11)), (2, V.t (T.nils))] [(2011, oc 24 (List.map (fun l => T.list (List.length l) 1 (List.map (ti) l)) o11)), (2018, oc 24 (List.map (fun l => T.list (List.length l) 1 (List.map (ti) l)) o18b))] trivial ?_
           refine WP.seq ?_
           refine WP.block ?_
           obtain ⟨c4, h⟩ := chk_some h
           obtain ⟨c5, h⟩ := chk_some h
           obtain ⟨c6, h⟩ := chk_some h
           refine WP.pn tm [(32, An.callG [(9000, 10320)] [vl (gt o11 v21 [])] [] (vo 9000 (List.length (gt o11 v21 []))) [(9000, oc 3 (List.map (ti) (gt o11 v21 [])))]), (34, An.fz), (35, An.fz), (36, An.fz), (37, An.id 2037)] [(CG Tryz.prog 111 [vl (gt o11 v21 [])] [] (vo 9000 (List.length (gt o11 v21 []))) [(9000, oc 3 (List.map (ti) (gt o11 v21 [])))]), (WkT (tl (gt o11 v21 [])) (tl (gt o11 v21 []))), ((1 = 1 ∧ 0 + 1 ≤ 1) ∧ True), (1 = 1 * 1), (True), (List.length (List.map (ti) (gt o11 v21 [])) = (List.length (gt o11 v21 [])) * 1), ((((List.length (gt o11 v21 [])) + 1) * 8 ≤ 140737488355328 ∧ (List.length (gt o11 v21 [])) + 1 ≤ maxLen)), ((1 = 1 ∧ 0 + 1 ≤ 1) ∧ True), (1 = 1 * 1), (True), (List.length (List.map (fun l => T.list (List.length l) 1 (List.map (ti) l)) o18b) = (List.length o18b) * 1), ((((List.length o18b) + 1) * 24 ≤ 140737488355328 ∧ (List.length o18b) + 1 ≤ maxLen))] [2037, 10320, 2011, 2018] [(6, vo 2037 ((List.length o18b) + 1)), (27, vi v27), (26, vi n26), (8, vl (gt o11 v21 [])), (21, vi v21), (20, vi (ln o11)), (19, vo 2011 (List.length o11)), (5, vi (gt x0 v14 0)), (14, vi v14), (13, vi (ln x0)), (12, vl x0), (3, vo 2011 (List.length o11)), (2, V.t (T.nils))] [(2011, oc 24 (List.map (fun l => T.list (List.length l) 1 (List.map (ti) l)) o11)), (2037, oc 24 ((List.map (fun l => T.list (List.length l) 1 (List.map (ti) l)) o18b) ++ [T.list ((List.length (gt o11 v21 [])) + 1) 1 ((List.map (ti) (gt o11 v21 [])) ++ [ti v27])]))] ⟨(clone_C_G (gt o11 v21 []) c4), WkT.refl _, ⟨⟨by first | rfl | (simp; done) | (simp []; done) | omega, by first | decide | (simp; done) | (simp []; done) | omega | (simp only [tlL]; omega) | (simp; omega)⟩, trivial⟩, by decide, trivial, by first | rfl | omega | (simp only [tlL] <;> omega) | (simp <;> omega) | (simp [] <;> omega), c5, ⟨⟨by first | rfl | (simp; done) | (simp []; done) | omega, by first | decide | (simp; done) | (simp []; done) | omega | (simp only [tlL]; omega) | (simp; omega)⟩, trivial⟩, by decide, trivial, by first | rfl | omega | (simp only [tlL] <;> omega) | (simp <;> omega) | (simp [] <;> omega), c6, trivial⟩ ?_
           obtain ⟨c7, h⟩ := chk_some h
           refine WP.nk tm [(38, An.v (ti (v27 + 1)))] [(2011, 2011), (2037, 2018)] .normal [(True), (wr (v27 + 1))] [(27, vi (v27 + 1)), (26, vi n26), (8, vl (gt o11 v21 [])), (21, vi v21), (20, vi (ln o11)), (19, vo 2011 (List.length o11)), (6, vo 2018 ((List.length o18b) + 1)), (5, vi (gt x0 v14 0)), (14, vi v14), (13, vi (ln x0)), (12, vl x0), (3, vo 2011 (List.length o11)), (2, V.t (T.nils))] [(2011, oc 24 (List.map (fun l => T.list (List.length l) 1 (List.map (ti) l)) o11)), (2018, oc 24 ((List.map (fun l => T.list (List.length l) 1 (List.map (ti) l)) o18b) ++ [T.list ((List.length (gt o11 v21 [])) + 1) 1 ((List.map (ti) (gt o11 v21 [])) ++ [ti v27])]))] ⟨trivial, wrapI c7, trivial⟩ ?_
           exact ⟨(n, o18b ++ [(gt o11 v21 []) ++ [v27]], (v27 + 1)), h, Nat.lt_succ_self _, (by first | rfl | (simp only [tlS, tl, vl, vo, oc, ov, tbl, vbl, ty, vy] <;> rfl) | (simp <;> omega) | (simp []; done) | (rw [List.take_of_length_le (by simp [])] <;> rfl) | (simp [List.take_of_length_le]; done))⟩
          ·refine WP.no h3 rfl ?_
           refine WP.eq tm [] 4 [] [(21, vi v21), (20, vi (ln o11)), (19, vo 2011 (List.length o11)), (6, vo 2018 (List.length o18b)), (5, vi (gt x0 v14 0)), (14, vi v14), (13, vi (ln x0)), (12, vl x0), (3, vo 2011 (List.length o11)), (2, V.t (T.nils))] [(2011, oc 24 (List.map (fun l => T.list (List.length l) 1 (List.map (ti) l)) o11)), (2018, oc 24 (List.map (fun l => T.list (List.length l) 1 (List.map (ti) l)) o18b))] trivial ?_
           exact ⟨(o18b), h, rfl⟩
        ·intro o18b h0
         have h := (show J4 o18b = some y0 from h0)
         rw [hJ4] at h
         obtain ⟨c1, h⟩ := chk_some h
         refine WP.qk tm [(39, An.v (ti (v21 + 1)))] [(True), (wr (v21 + 1))] [(21, vi (v21 + 1)), (20, vi (ln o11)), (19, vo 2011 (List.length o11)), (6, vo 2018 (List.length o18b)), (5, vi (gt x0 v14 0)), (14, vi v14), (13, vi (ln x0)), (12, vl x0), (3, vo 2011 (List.length o11)), (2, V.t (T.nils))] [(2011, oc 24 (List.map (fun l => T.list (List.length l) 1 (List.map (ti) l)) o11)), (2018, oc 24 (List.map (fun l => T.list (List.length l) 1 (List.map (ti) l)) o18b))] ⟨trivial, wrapI c1, trivial⟩ ?_
         exact ⟨(n, o18b, (v21 + 1)), h, Nat.lt_succ_self _, rfl⟩
       ·refine WP.no h2 rfl ?_
        refine WP.eq tm [] 2 [] [(6, vo 2018 (List.length o18)), (14, vi v14), (13, vi (ln x0)), (12, vl x0), (3, vo 2011 (List.length o11)), (2, V.t (T.nils))] [(2011, oc 24 (List.map (fun l => T.list (List.length l) 1 (List.map (ti) l)) o11)), (2018, oc 24 (List.map (fun l => T.list (List.length l) 1 (List.map (ti) l)) o18))] trivial ?_
        exact ⟨(o18), h, rfl⟩
     ·intro o18 h0
      have h := (show J3 o18 = some y0 from h0)
      rw [hJ3] at h
      refine WP.qk tm [] [] [(3, vo 2018 (List.length o18)), (14, vi v14), (13, vi (ln x0)), (12, vl x0), (2, V.t (T.nils))] [(2018, oc 24 (List.map (fun l => T.list (List.length l) 1 (List.map (ti) l)) o18))] trivial ?_
      exact ⟨(o18), h, rfl⟩
    ·intro o18 h0
     have h := (show J2 o18 = some y0 from h0)
     rw [hJ2] at h
     obtain ⟨c0, h⟩ := chk_some h
     refine WP.nk tm [(41, An.v (ti (v14 + 1)))] [(2018, 2011)] .normal [(True), (wr (v14 + 1))] [(14, vi (v14 + 1)), (13, vi (ln x0)), (12, vl x0), (3, vo 2011 (List.length o18)), (2, V.t (T.nils))] [(2011, oc 24 (List.map (fun l => T.list (List.length l) 1 (List.map (ti) l)) o18))] ⟨trivial, wrapI c0, trivial⟩ ?_
     exact ⟨(n, o18, (v14 + 1)), h, Nat.lt_succ_self _, rfl⟩
   ·refine WP.no h1 rfl ?_
    refine WP.eq tm [] 0 [] [(3, vo 2011 (List.length o11)), (2, V.t (T.nils))] [(2011, oc 24 (List.map (fun l => T.list (List.length l) 1 (List.map (ti) l)) o11))] trivial ?_
    exact ⟨(o11), h, rfl⟩
 ·intro o11 h0
  have h := (show J1 o11 = some y0 from h0)
  rw [hJ1] at h
  have h := Option.some.inj h
  subst h
  exact WP.pathG tab_ok mixed [] [.keep [2], .keepO [2011], .names [(2011, 9000)]] [9000] _ (r' := vo 9000 (List.length o11)) (ps := []) (r := vo 9000 (List.length o11)) (N := [9000]) (O := [(9000, oc 24 (List.map (fun l => T.list (List.length l) 1 (List.map (ti) l)) o11))]) [] (by kernel_rfl) trivial ⟨rfl, trivial⟩ rfl rfl (fun _ h => h)
theorem F_impl_splits_W_C (x0 : List Int) (y0 : List (List Int)) (h : F_impl_splits x0 = some y0) : C Tryz.prog 141 [tl x0] (T.list (List.length y0) 1 (List.map (fun l => T.list (List.length l) 1 (List.map (ti) l)) y0)) :=
 CG.toC (ps := [(List.length (List.map (fun l => T.list (List.length l) 1 (List.map (ti) l)) y0) = (List.length y0) * 1)]) (F_impl_splits_W  x0 y0 h) (by rfl) ⟨by first | rfl | omega | (simp <;> omega) | (simp [hl] <;> omega), trivial⟩
theorem F_impl_needs_1_W (x0 : List Int) (gf0 : FuncId) (pref0 capsf0 : List T) (pf0 : (List Int) → (List Int) → Option ((List Int) × (List Int))) (hpf0 : ∀ (af0_0 : List Int) (af0_1 : List Int) (bf0_2 : List Int) (bf0_3 : List Int), pf0 af0_0 af0_1 = some (bf0_2, bf0_3) → C Tryz.prog gf0 (pref0 ++ ([tl af0_0, tl af0_1] ++ capsf0)) (T.tup [tl bf0_2, tl bf0_3])) (x1 : Int) (x2 : Int) (x3 : Int) (x4 : List (K3 × Int)) (y0 : Bool) (h : F_impl_needs_1 x0 pf0 x1 x2 x3 x4 = some y0) : C Tryz.prog 142 [tl x0, T.ptr [T.fn gf0 pref0 capsf0], T.ptr [ti x1, ti x2, ti x3], T.ptr [mapT (mpT x4)]] (tb y0) := by
 unfold F_impl_needs_1 at h
 refine C.intro (tab := tab) tab_ok (fn := Tryz.f142) Tryz.func142 (by kernel_rfl) rfl (Nat.le_of_ble_eq_true rfl) ?_
 obtain ⟨r16, r16b, c0, h⟩ := bnd2_some h
 obtain ⟨c1, h⟩ := chk_some h
 obtain ⟨g23, c2, h⟩ := nam_some h
 obtain ⟨c3, h⟩ := chk_some h
 obtain ⟨g30, c4, h⟩ := nam_some h
 rcases ite_some h with ⟨h1, h⟩ | ⟨h1, h⟩
 ·have h := Option.some.inj h
  subst h
  exact WP.pathW tab_ok mixed [(16, An.callW [tl [x1, x2, x3], tl x0] (T.tup [tl r16, tl r16b])), (22, An.call (T.agg [ti (tri r16 0), ti (tri r16 1), ti (tri r16 2)])), (23, An.v (T.tup [ti (Option.getD g23 (0 : Int)), tb (Option.isSome g23)])), (25, An.b true), (29, An.call (T.agg [ti (tri r16b 0), ti (tri r16b 1), ti (tri r16b 2)])), (30, An.v (T.tup [ti (Option.getD g30 (0 : Int)), tb (Option.isSome g30)]))] _ (ps := [(True), ((0 ≤ (0 : Int) ∧ (0 : Int) ≤ (3 : Int) ∧ (3 : Int) ≤ (3 : Nat) ∧ 3 * 1 ≤ 3 ∧ 3 ≤ maxLen)), (C Tryz.prog gf0 (pref0 ++ ([tl [x1, x2, x3], tl x0] ++ capsf0)) (T.tup [tl r16, tl r16b])), (WkL [T.list 3 1 [ti x1, ti x2, ti x3], tl x0] [tl [x1, x2, x3], tl x0]), (True), (C Tryz.prog 131 [tl r16] (T.agg [ti (tri r16 0), ti (tri r16 1), ti (tri r16 2)])), (∃ G, KeyRun Tryz.prog 118 G ∧ G (T.agg [ti (tri r16 0), ti (tri r16 1), ti (tri r16 2)]) ∧ ∀ x ∈ ent (mpT x4), G x.1), (List.length (List.map (·.1) (mpT x4)) = List.length (List.map (·.2) (mpT x4))), ((lookR true (ti (0 : Int)) (lookT (ent (mpT x4)) (T.agg [ti (tri r16 0), ti (tri r16 1), ti (tri r16 2)]))) = T.tup [ti (Option.getD g23 (0 : Int)), tb (Option.isSome g23)]), ((Option.isSome g23) = true), (True), (C Tryz.prog 131 [tl r16b] (T.agg [ti (tri r16b 0), ti (tri r16b 1), ti (tri r16b 2)])), (∃ G, KeyRun Tryz.prog 118 G ∧ G (T.agg [ti (tri r16b 0), ti (tri r16b 1), ti (tri r16b 2)]) ∧ ∀ x ∈ ent (mpT x4), G x.1), (List.length (List.map (·.1) (mpT x4)) = List.length (List.map (·.2) (mpT x4))), ((lookR true (ti (0 : Int)) (lookT (ent (mpT x4)) (T.agg [ti (tri r16b 0), ti (tri r16b 1), ti (tri r16b 2)]))) = T.tup [ti (Option.getD g30 (0 : Int)), tb (Option.isSome g30)])]) (r := tb (Option.isSome g30)) (by kernel_rfl) ⟨trivial, by decide, (hpf0 [x1, x2, x3] x0 r16 r16b c0), (WkL.cons (WkT.eq (WkT.refl _) (by first | rfl | (simp only [tlS, tl, vl, vo, oc, ov, tbl, vbl, ty, vy] <;> rfl) | (simp <;> omega) | (simp []; done) | (rw [List.take_of_length_le (by simp [])] <;> rfl) | (simp [List.take_of_length_le]; done))) (WkL.cons (WkT.refl _) WkL.nil)), trivial, (tripleOf_C r16 c1), ent_keys (keys_tri Tryz.underlying118 Tryz.underlying3 (by kernel_rfl) (by kernel_rfl) x4 ((tri r16 0), (tri r16 1), (tri r16 2))), ent_len _, ent_look (look_mpT_ok c2), h1, trivial, (tripleOf_C r16b c3), ent_keys (keys_tri Tryz.underlying118 Tryz.underlying3 (by kernel_rfl) (by kernel_rfl) x4 ((tri r16b 0), (tri r16b 1), (tri r16b 2))), ent_len _, ent_look (look_mpT_ok c4), trivial⟩ (WkT.eq (y := tb (Option.isSome g30)) (WkT.refl _) rfl) (fun _ h => h)
 ·have h := Option.some.inj h
  subst h
  exact WP.pathW tab_ok mixed [(16, An.callW [tl [x1, x2, x3], tl x0] (T.tup [tl r16, tl r16b])), (22, An.call (T.agg [ti (tri r16 0), ti (tri r16 1), ti (tri r16 2)])), (23, An.v (T.tup [ti (Option.getD g23 (0 : Int)), tb (Option.isSome g23)])), (25, An.b false), (29, An.call (T.agg [ti (tri r16b 0), ti (tri r16b 1), ti (tri r16b 2)])), (30, An.v (T.tup [ti (Option.getD g30 (0 : Int)), tb (Option.isSome g30)]))] _ (ps := [(True), ((0 ≤ (0 : Int) ∧ (0 : Int) ≤ (3 : Int) ∧ (3 : Int) ≤ (3 : Nat) ∧ 3 * 1 ≤ 3 ∧ 3 ≤ maxLen)), (C Tryz.prog gf0 (pref0 ++ ([tl [x1, x2, x3], tl x0] ++ capsf0)) (T.tup [tl r16, tl r16b])), (WkL [T.list 3 1 [ti x1, ti x2, ti x3], tl x0] [tl [x1, x2, x3], tl x0]), (True), (C Tryz.prog 131 [tl r16] (T.agg [ti (tri r16 0), ti (tri r16 1), ti (tri r16 2)])), (∃ G, KeyRun Tryz.prog 118 G ∧ G (T.agg [ti (tri r16 0), ti (tri r16 1), ti (tri r16 2)]) ∧ ∀ x ∈ ent (mpT x4), G x.1), (List.length (List.map (·.1) (mpT x4)) = List.length (List.map (·.2) (mpT x4))), ((lookR true (ti (0 : Int)) (lookT (ent (mpT x4)) (T.agg [ti (tri r16 0), ti (tri r16 1), ti (tri r16 2)]))) = T.tup [ti (Option.getD g23 (0 : Int)), tb (Option.isSome g23)]), ((Option.isSome g23) = false), (True), (C Tryz.prog 131 [tl r16b] (T.agg [ti (tri r16b 0), ti (tri r16b 1), ti (tri r16b 2)])), (∃ G, KeyRun Tryz.prog 118 G ∧ G (T.agg [ti (tri r16b 0), ti (tri r16b 1), ti (tri r16b 2)]) ∧ ∀ x ∈ ent (mpT x4), G x.1), (List.length (List.map (·.1) (mpT x4)) = List.length (List.map (·.2) (mpT x4))), ((lookR true (ti (0 : Int)) (lookT (ent (mpT x4)) (T.agg [ti (tri r16b 0), ti (tri r16b 1), ti (tri r16b 2)]))) = T.tup [ti (Option.getD g30 (0 : Int)), tb (Option.isSome g30)])]) (r := tb false) (by kernel_rfl) ⟨trivial, by decide, (hpf0 [x1, x2, x3] x0 r16 r16b c0), (WkL.cons (WkT.eq (WkT.refl _) (by first | rfl | (simp only [tlS, tl, vl, vo, oc, ov, tbl, vbl, ty, vy] <;> rfl) | (simp <;> omega) | (simp []; done) | (rw [List.take_of_length_le (by simp [])] <;> rfl) | (simp [List.take_of_length_le]; done))) (WkL.cons (WkT.refl _) WkL.nil)), trivial, (tripleOf_C r16 c1), ent_keys (keys_tri Tryz.underlying118 Tryz.underlying3 (by kernel_rfl) (by kernel_rfl) x4 ((tri r16 0), (tri r16 1), (tri r16 2))), ent_len _, ent_look (look_mpT_ok c2), h1, trivial, (tripleOf_C r16b c3), ent_keys (keys_tri Tryz.underlying118 Tryz.underlying3 (by kernel_rfl) (by kernel_rfl) x4 ((tri r16b 0), (tri r16b 1), (tri r16b 2))), ent_len _, ent_look (look_mpT_ok c4), trivial⟩ (WkT.eq (y := tb false) (WkT.refl _) rfl) (fun _ h => h)
theorem F_slices_IndexFunc___impl_triple_impl_triple__W (x0 : List Nd) (g1 : FuncId) (pre1 caps1 : List T) (p1 : Int → Int → Int → Option (Bool)) (hp1 : ∀ (a1_0 : Int) (a1_1 : Int) (a1_2 : Int) (b1_3 : Bool), p1 a1_0 a1_1 a1_2 = some b1_3 → C Tryz.prog g1 (pre1 ++ ([T.agg [ti a1_0, ti a1_1, ti a1_2]] ++ caps1)) (tb b1_3)) (y0 : Int) (h : F_slices_IndexFunc___impl_triple_impl_triple_ x0 p1 = some y0) : C Tryz.prog 151 [T.list (List.length x0) 3 (List.flatMap nodeC x0), T.fn g1 pre1 caps1] (ti y0) := by
 unfold F_slices_IndexFunc___impl_triple_impl_triple_ at h
 refine C.intro (tab := tab) tab_ok (fn := Tryz.f151) Tryz.func151 (by kernel_rfl) rfl (Nat.le_of_ble_eq_true rfl) ?_
 refine WP.sk tm [] [] [(4, vi 0), (0, V.t (T.list (List.length x0) 3 (List.flatMap nodeC x0))), (1, V.t (T.fn g1 pre1 caps1))] [] trivial ?_
 obtain ⟨J1, hJ1, h⟩ := jn_some h
 refine WP.joinA (fun (zz : Unit) => ⟨[], [(4, vi 0)], []⟩) (fun zz => J1 () = some y0) ?_ ?_
 ·refine WP.sk tm [] [] [(8, vi 0), (7, vi (ln x0)), (4, vi 0), (0, V.t (T.list (List.length x0) 3 (List.flatMap nodeC x0))), (1, V.t (T.fn g1 pre1 caps1))] [] trivial ?_
  refine WP.block ?_
  refine WP.lp (α := Nat × Int) (fun zz => ⟨[], [(8, vi zz.2), (7, vi (ln x0)), (4, vi 0), (0, V.t (T.list (List.length x0) 3 (List.flatMap nodeC x0))), (1, V.t (T.fn g1 pre1 caps1))], []⟩) (fun zz => F_slices_IndexFunc___impl_triple_impl_triple__L1 x0 p1 J1 zz.1 zz.2 = some y0) (fun zz => zz.1) (fuel, (0 : Int)) h ?_
  rintro ⟨n, v8⟩ h0
  have h := (show F_slices_IndexFunc___impl_triple_impl_triple__L1 x0 p1 J1 n v8 = some y0 from h0)
  rcases n with _ | n
  ·rw [F_slices_IndexFunc___impl_triple_impl_triple__L1] at h; cases h
  ·rw [F_slices_IndexFunc___impl_triple_impl_triple__L1] at h
   refine WP.sk tm [] [(True)] [(9, vb (decide (v8 < (ln x0)))), (8, vi v8), (7, vi (ln x0)), (4, vi 0), (0, V.t (T.list (List.length x0) 3 (List.flatMap nodeC x0))), (1, V.t (T.fn g1 pre1 caps1))] [] ⟨trivial, trivial⟩ ?_
   refine WP.seq ?_
   rcases ite_some h with ⟨h1, h⟩ | ⟨h1, h⟩
   ·refine WP.yes h1 rfl ?_
    refine WP.pk tm [] [] [(8, vi v8), (7, vi (ln x0)), (4, vi 0), (0, V.t (T.list (List.length x0) 3 (List.flatMap nodeC x0))), (1, V.t (T.fn g1 pre1 caps1))] [] trivial ?_
    refine WP.seq ?_
    refine WP.block ?_
    refine WP.sk tm [] [] [(5, vi v8), (8, vi v8), (7, vi (ln x0)), (4, vi 0), (0, V.t (T.list (List.length x0) 3 (List.flatMap nodeC x0))), (1, V.t (T.fn g1 pre1 caps1))] [] trivial ?_
    refine WP.seq ?_
    obtain ⟨c0, h⟩ := chk_some h
    obtain ⟨r16, c1, h⟩ := bnd1_some h
    refine WP.pk tm [(15, An.v (T.agg [ti ((gt x0 v8 (0, 0, 0)).1), ti ((gt x0 v8 (0, 0, 0)).2.1), ti ((gt x0 v8 (0, 0, 0)).2.2)])), (16, An.call (tb r16))] [((0 ≤ v8 ∧ v8 < (ln x0))), (3 ≤ List.length (List.drop ((Int.toNat v8) * 3) (List.flatMap nodeC x0))), (T.agg (List.take 3 (List.drop ((Int.toNat v8) * 3) (List.flatMap nodeC x0))) = T.agg [ti ((gt x0 v8 (0, 0, 0)).1), ti ((gt x0 v8 (0, 0, 0)).2.1), ti ((gt x0 v8 (0, 0, 0)).2.2)]), (C Tryz.prog g1 (pre1 ++ ([T.agg [ti ((gt x0 v8 (0, 0, 0)).1), ti ((gt x0 v8 (0, 0, 0)).2.1), ti ((gt x0 v8 (0, 0, 0)).2.2)]] ++ caps1)) (tb r16))] [(16, vb r16), (5, vi v8), (8, vi v8), (7, vi (ln x0)), (4, vi 0), (0, V.t (T.list (List.length x0) 3 (List.flatMap nodeC x0))), (1, V.t (T.fn g1 pre1 caps1))] [] ⟨c0, fit_node (i := Int.toNat v8) (by simp) (by omega), at_node (by simp) (by omega), (hp1 ((gt x0 v8 (0, 0, 0)).1) ((gt x0 v8 (0, 0, 0)).2.1) ((gt x0 v8 (0, 0, 0)).2.2) r16 c1), trivial⟩ ?_
    rcases ite_some h with ⟨h2, h⟩ | ⟨h2, h⟩
    ·refine WP.yes h2 rfl ?_
     have h := Option.some.inj h
     subst h
     exact WP.pathW tab_ok mixed [] _ (ps := []) (r := ti v8) (by kernel_rfl) trivial (WkT.eq (y := ti v8) (WkT.refl _) rfl) (fun _ h => h)
    ·refine WP.no h2 rfl ?_
     refine WP.pk tm [] [] [(8, vi v8), (7, vi (ln x0)), (4, vi 0), (0, V.t (T.list (List.length x0) 3 (List.flatMap nodeC x0))), (1, V.t (T.fn g1 pre1 caps1))] [] trivial ?_
     obtain ⟨c2, h⟩ := chk_some h
     refine WP.qk tm [(18, An.v (ti (v8 + 1)))] [(True), (wr (v8 + 1))] [(8, vi (v8 + 1)), (7, vi (ln x0)), (4, vi 0), (0, V.t (T.list (List.length x0) 3 (List.flatMap nodeC x0))), (1, V.t (T.fn g1 pre1 caps1))] [] ⟨trivial, wrapI c2, trivial⟩ ?_
     exact ⟨(n, (v8 + 1)), h, Nat.lt_succ_self _, rfl⟩
   ·refine WP.no h1 rfl ?_
    refine WP.eq tm [] 0 [] [(4, vi 0)] [] trivial ?_
    exact ⟨(), h, rfl⟩
 ·intro _ h0
  have h := (show J1 () = some y0 from h0)
  rw [hJ1] at h
  have h := Option.some.inj h
  subst h
  exact WP.pathW tab_ok mixed [] _ (ps := []) (r := ti (-1)) (by kernel_rfl) trivial (WkT.eq (y := ti (-1)) (WkT.refl _) (by first | rfl | (simp only [tlS, tl, vl, vo, oc, ov, tbl, vbl, ty, vy] <;> rfl) | (simp <;> omega) | (simp []; done) | (rw [List.take_of_length_le (by simp [])] <;> rfl) | (simp [List.take_of_length_le]; done))) (fun _ h => h)
theorem F_slices_DeleteFunc___impl_triple_impl_triple__W (x0 : List Nd) (g1 : FuncId) (pre1 caps1 : List T) (p1 : Int → Int → Int → Option (Bool)) (hp1 : ∀ (a1_0 : Int) (a1_1 : Int) (a1_2 : Int) (b1_3 : Bool), p1 a1_0 a1_1 a1_2 = some b1_3 → C Tryz.prog g1 (pre1 ++ ([T.agg [ti a1_0, ti a1_1, ti a1_2]] ++ caps1)) (tb b1_3)) (y0 : List Nd) (h : F_slices_DeleteFunc___impl_triple_impl_triple_ x0 p1 = some y0) : CG Tryz.prog 143 [V.own 500 3 (List.length x0), V.t (T.fn g1 pre1 caps1)] [(500, oc 118 (List.flatMap nodeC x0))] (V.own 500 3 (List.length y0)) [(500, oc 118 (List.flatMap nodeC y0))] := by
 unfold F_slices_DeleteFunc___impl_triple_impl_triple_ at h
 refine CG.intro (tab := tab) tab_ok (fn := Tryz.f143) Tryz.func143 (by kernel_rfl) rfl (Nat.le_of_ble_eq_true rfl) (by kernel_rfl) ?_
 refine WP.sk tm [] [] [(4, V.t (T.nils)), (0, V.own 500 3 (List.length x0)), (1, V.t (T.fn g1 pre1 caps1))] [(500, oc 118 (List.flatMap nodeC x0))] trivial ?_
 refine WP.seq ?_
 obtain ⟨r10, c0, h⟩ := bnd1_some h
 refine WP.pk tm [(10, An.call (ti r10))] [(C Tryz.prog 151 [T.list (List.length x0) 3 (List.flatMap nodeC x0), T.fn g1 pre1 caps1] (ti r10)), (List.length (List.flatMap nodeC x0) = (List.length x0) * 3)] [(5, vi r10), (4, V.t (T.nils)), (0, V.own 500 3 (List.length x0)), (1, V.t (T.fn g1 pre1 caps1))] [(500, oc 118 (List.flatMap nodeC x0))] ⟨(F_slices_IndexFunc___impl_triple_impl_triple__W x0 g1 pre1 caps1 p1 hp1 r10 c0), by first | exact len_node _ | (rw [len_node]; first | done | omega | (simp; done) | (simp only [tlL]; omega) | (simp; omega)), trivial⟩ ?_
 refine WP.seq ?_
 refine WP.sk tm [] [(True)] [(12, vb (r10 == (-1 : Int))), (5, vi r10), (4, V.t (T.nils)), (0, V.own 500 3 (List.length x0)), (1, V.t (T.fn g1 pre1 caps1))] [(500, oc 118 (List.flatMap nodeC x0))] ⟨trivial, trivial⟩ ?_
 rcases ite_some h with ⟨h1, h⟩ | ⟨h1, h⟩
 ·refine WP.yes h1 rfl ?_
  have h := Option.some.inj h
  subst h
  exact WP.pathG tab_ok mixed [] [.keep [4], .keepO [500], .names [(500, 500)]] [500] _ (r' := V.own 500 3 (List.length x0)) (ps := []) (r := V.own 500 3 (List.length x0)) (N := [500]) (O := [(500, oc 118 (List.flatMap nodeC x0))]) [] (by kernel_rfl) trivial ⟨rfl, trivial⟩ rfl rfl (fun _ h => h)
 ·refine WP.no h1 rfl ?_
  refine WP.pk tm [] [] [(5, vi r10), (4, V.t (T.nils)), (0, V.own 500 3 (List.length x0)), (1, V.t (T.fn g1 pre1 caps1))] [(500, oc 118 (List.flatMap nodeC x0))] trivial ?_
  obtain ⟨J1, hJ1, h⟩ := jn_some h
  refine WP.joinA (fun (zz : (List Nd) × Int) => ⟨[500], [(5, vi zz.2), (4, V.t (T.nils)), (0, V.own 500 3 (List.length zz.1))], [(500, oc 118 (List.flatMap nodeC zz.1))]⟩) (fun zz => J1 zz.1 zz.2 = some y0) ?_ ?_
  ·refine WP.seq ?_
   obtain ⟨c1, h⟩ := chk_some h
   refine WP.pk tm [(15, An.v (ti (r10 + 1)))] [(True), (wr (r10 + 1))] [(6, vi (r10 + 1)), (5, vi r10), (4, V.t (T.nils)), (0, V.own 500 3 (List.length x0)), (1, V.t (T.fn g1 pre1 caps1))] [(500, oc 118 (List.flatMap nodeC x0))] ⟨trivial, wrapI c1, trivial⟩ ?_
   refine WP.block ?_
   refine WP.wk [.keep [6, 5, 4, 0, 1], .keepO [500], .names [(500, 500)]] (σ' := ⟨[500], [(6, vi (r10 + 1)), (5, vi r10), (4, V.t (T.nils)), (0, V.own 500 3 (List.length x0)), (1, V.t (T.fn g1 pre1 caps1))], [(500, oc 118 (List.flatMap nodeC x0))]⟩) (ps := []) (by kernel_rfl) trivial ?_
   refine WP.loop (α := Nat × (List Nd) × Int × Int) (fun zz => ⟨[500], [(6, vi zz.2.2.1), (5, vi zz.2.2.2), (4, V.t (T.nils)), (0, V.own 500 3 (List.length zz.2.1)), (1, V.t (T.fn g1 pre1 caps1))], [(500, oc 118 (List.flatMap nodeC zz.2.1))]⟩) (fun zz => F_slices_DeleteFunc___impl_triple_impl_triple__L1 p1 J1 zz.1 zz.2.1 zz.2.2.1 zz.2.2.2 = some y0) (fun zz => zz.1) (fuel, x0, (r10 + 1), r10) h ?_
   rintro ⟨n, o500, v6, v5⟩ h0
   have h := (show F_slices_DeleteFunc___impl_triple_impl_triple__L1 p1 J1 n o500 v6 v5 = some y0 from h0)
   rcases n with _ | n
   ·rw [F_slices_DeleteFunc___impl_triple_impl_triple__L1] at h; cases h
   ·rw [F_slices_DeleteFunc___impl_triple_impl_triple__L1] at h
    refine WP.seq ?_
    refine WP.sk tm [] [(True)] [(19, vb (decide (v6 < (ln o500)))), (6, vi v6), (5, vi v5), (4, V.t (T.nils)), (0, V.own 500 3 (List.length o500)), (1, V.t (T.fn g1 pre1 caps1))] [(500, oc 118 (List.flatMap nodeC o500))] ⟨trivial, trivial⟩ ?_
    rcases ite_some h with ⟨h2, h⟩ | ⟨h2, h⟩
    ·refine WP.yes h2 rfl ?_
     refine WP.pk tm [] [] [(6, vi v6), (5, vi v5), (4, V.t (T.nils)), (0, V.own 500 3 (List.length o500)), (1, V.t (T.fn g1 pre1 caps1))] [(500, oc 118 (List.flatMap nodeC o500))] trivial ?_
     refine WP.seq ?_
     refine WP.block ?_
     refine WP.seq ?_
     obtain ⟨c2, h⟩ := chk_some h
     refine WP.pn tm [(25, An.v (T.agg [ti ((gt o500 v6 (0, 0, 0)).1), ti ((gt o500 v6 (0, 0, 0)).2.1), ti ((gt o500 v6 (0, 0, 0)).2.2)])), (7, An.id 2007)] [((0 ≤ v6 ∧ v6 < (ln o500))), ((Int.toNat v6) * 3 + 3 ≤ List.length (List.flatMap nodeC o500)), (T.agg (List.take 3 (List.drop ((Int.toNat v6) * 3) (List.flatMap nodeC o500))) = T.agg [ti ((gt o500 v6 (0, 0, 0)).1), ti ((gt o500 v6 (0, 0, 0)).2.1), ti ((gt o500 v6 (0, 0, 0)).2.2)]), ((0 + 3 ≤ 3 ∧ 3 = 3))] [2007, 500] [(7, V.ref 2007 0), (6, vi v6), (5, vi v5), (4, V.t (T.nils)), (0, V.own 500 3 (List.length o500)), (1, V.t (T.fn g1 pre1 caps1))] [(500, oc 118 (List.flatMap nodeC o500)), (2007, oc 118 [ti ((gt o500 v6 (0, 0, 0)).1), ti ((gt o500 v6 (0, 0, 0)).2.1), ti ((gt o500 v6 (0, 0, 0)).2.2)])] ⟨c2, by rw [len_node]; omega, at_node (by simp) (by omega), by decide, trivial⟩ ?_
     refine WP.seq ?_
     obtain ⟨r28, c3, h⟩ := bnd1_some h
     refine WP.pn tm [(28, An.call (tb r28))] [(0 + 3 ≤ 3), (C Tryz.prog g1 (pre1 ++ ([T.agg [ti ((gt o500 v6 (0, 0, 0)).1), ti ((gt o500 v6 (0, 0, 0)).2.1), ti ((gt o500 v6 (0, 0, 0)).2.2)]] ++ caps1)) (tb r28))] [2007, 500] [(29, vb (!r28)), (7, V.ref 2007 0), (6, vi v6), (5, vi v5), (4, V.t (T.nils)), (0, V.own 500 3 (List.length o500)), (1, V.t (T.fn g1 pre1 caps1))] [(500, oc 118 (List.flatMap nodeC o500)), (2007, oc 118 [ti ((gt o500 v6 (0, 0, 0)).1), ti ((gt o500 v6 (0, 0, 0)).2.1), ti ((gt o500 v6 (0, 0, 0)).2.2)])] ⟨by decide, (hp1 ((gt o500 v6 (0, 0, 0)).1) ((gt o500 v6 (0, 0, 0)).2.1) ((gt o500 v6 (0, 0, 0)).2.2) r28 c3), trivial⟩ ?_
     rcases ite_some h with ⟨h3, h⟩ | ⟨h3, h⟩
     ·refine WP.yes h3 rfl ?_
      obtain ⟨c4, h⟩ := chk_some h
      obtain ⟨c5, h⟩ := chk_some h
      refine WP.pn tm [(1000033, An.o (List.flatMap nodeC (List.set o500 (Int.toNat v5) (((gt o500 v6 (0, 0, 0)).1), ((gt o500 v6 (0, 0, 0)).2.1), ((gt o500 v6 (0, 0, 0)).2.2))))), (35, An.v (ti (v5 + 1)))] [(0 + 3 ≤ 3), ((0 ≤ v5 ∧ v5 < (ln o500))), (((Int.toNat v5) * 3 + 3 ≤ List.length (List.flatMap nodeC o500) ∧ 3 = 3)), ((((List.take ((Int.toNat v5) * 3) (List.flatMap nodeC o500)) ++ [ti ((gt o500 v6 (0, 0, 0)).1), ti ((gt o500 v6 (0, 0, 0)).2.1), ti ((gt o500 v6 (0, 0, 0)).2.2)]) ++ (List.drop (((Int.toNat v5) * 3) + 3) (List.flatMap nodeC o500)) : List T) = (List.flatMap nodeC (List.set o500 (Int.toNat v5) (((gt o500 v6 (0, 0, 0)).1), ((gt o500 v6 (0, 0, 0)).2.1), ((gt o500 v6 (0, 0, 0)).2.2))))), (True), (wr (v5 + 1))] [2007, 500] [(5, vi (v5 + 1)), (6, vi v6), (4, V.t (T.nils)), (0, V.own 500 3 (List.length o500)), (1, V.t (T.fn g1 pre1 caps1))] [(500, oc 118 (List.flatMap nodeC (List.set o500 (Int.toNat v5) (((gt o500 v6 (0, 0, 0)).1), ((gt o500 v6 (0, 0, 0)).2.1), ((gt o500 v6 (0, 0, 0)).2.2)))))] ⟨by decide, c4, ⟨by first | omega | (rw [len_node]; omega) | (rw [len_node, List.length_set]; omega), by first | rfl | omega | (simp only [tlL] <;> omega) | (simp <;> omega) | (simp [] <;> omega)⟩, (by rw [List.append_assoc]; exact putF (f := nodeC) (c := 3) (xs := o500) (y := (((gt o500 v6 (0, 0, 0)).1), ((gt o500 v6 (0, 0, 0)).2.1), ((gt o500 v6 (0, 0, 0)).2.2))) (i := (Int.toNat v5)) (fun _ => rfl) rfl rfl (by omega)), trivial, wrapI c5, trivial⟩ ?_
      obtain ⟨c6, h⟩ := chk_some h
      refine WP.qk tm [(21, An.v (ti (v6 + 1)))] [(True), (wr (v6 + 1))] [(6, vi (v6 + 1)), (5, vi (v5 + 1)), (4, V.t (T.nils)), (0, V.own 500 3 (List.length o500)), (1, V.t (T.fn g1 pre1 caps1))] [(500, oc 118 (List.flatMap nodeC (List.set o500 (Int.toNat v5) (((gt o500 v6 (0, 0, 0)).1), ((gt o500 v6 (0, 0, 0)).2.1), ((gt o500 v6 (0, 0, 0)).2.2)))))] ⟨trivial, wrapI c6, trivial⟩ ?_
      exact ⟨(n, List.set o500 (Int.toNat v5) (((gt o500 v6 (0, 0, 0)).1), ((gt o500 v6 (0, 0, 0)).2.1), ((gt o500 v6 (0, 0, 0)).2.2)), (v6 + 1), (v5 + 1)), h, Nat.lt_succ_self _, (by first | rfl | (simp only [tlS, tl, vl, vo, oc, ov, tbl, vbl, ty, vy] <;> rfl) | (simp <;> omega) | (simp []; done) | (rw [List.take_of_length_le (by simp [])] <;> rfl) | (simp [List.take_of_length_le]; done))⟩
     ·refine WP.no h3 rfl ?_
      refine WP.pn tm [] [] [2007, 500] [(6, vi v6), (5, vi v5), (4, V.t (T.nils)), (0, V.own 500 3 (List.length o500)), (1, V.t (T.fn g1 pre1 caps1))] [(500, oc 118 (List.flatMap nodeC o500))] trivial ?_
      obtain ⟨c4, h⟩ := chk_some h
      refine WP.qk tm [(21, An.v (ti (v6 + 1)))] [(True), (wr (v6 + 1))] [(6, vi (v6 + 1)), (5, vi v5), (4, V.t (T.nils)), (0, V.own 500 3 (List.length o500)), (1, V.t (T.fn g1 pre1 caps1))] [(500, oc 118 (List.flatMap nodeC o500))] ⟨trivial, wrapI c4, trivial⟩ ?_
      exact ⟨(n, o500, (v6 + 1), v5), h, Nat.lt_succ_self _, rfl⟩
    ·refine WP.no h2 rfl ?_
     refine WP.eq tm [] 0 [] [(5, vi v5), (4, V.t (T.nils)), (0, V.own 500 3 (List.length o500))] [(500, oc 118 (List.flatMap nodeC o500))] trivial ?_
     exact ⟨(o500, v5), h, rfl⟩
  ·rintro ⟨o500, v5⟩ h0
   have h := (show J1 o500 v5 = some y0 from h0)
   rw [hJ1] at h
   obtain ⟨c1, h⟩ := chk_some h
   obtain ⟨c2, h⟩ := chk_some h
   have h := Option.some.inj h
   subst h
   exact WP.pathG tab_ok mixed [(41, An.o (List.flatMap nodeC (List.take (Int.toNat v5) o500)))] [.keep [4], .keepO [500], .names [(500, 500)]] [500] _ (r' := V.own 500 3 (List.length (List.take (Int.toNat v5) o500))) (ps := [((0 ≤ v5 ∧ v5 ≤ ((List.length o500 : Nat) : Int) ∧ ((List.length o500 : Nat) : Int) ≤ ((List.length o500 : Nat) : Int))), (((Int.toNat v5) * 3) + (((Int.toNat ((List.length o500 : Nat) : Int)) - (Int.toNat v5)) * 3) ≤ List.length (List.flatMap nodeC o500)), ((0 ≤ v5 ∧ v5 ≤ ((List.length o500 : Nat) : Int))), (List.take ((Int.toNat v5) * 3) ((List.take ((Int.toNat v5) * 3) (List.flatMap nodeC o500) ++ List.flatten (List.replicate ((Int.toNat ((List.length o500 : Nat) : Int)) - (Int.toNat v5)) [ti 0, ti 0, ti 0])) ++ (List.drop (((Int.toNat v5) * 3) + (((Int.toNat ((List.length o500 : Nat) : Int)) - (Int.toNat v5)) * 3)) (List.flatMap nodeC o500))) = List.flatMap nodeC (List.take (Int.toNat v5) o500))]) (r := V.own 500 3 (Int.toNat v5)) (N := [500]) (O := [(500, oc 118 (List.flatMap nodeC (List.take (Int.toNat v5) o500)))]) [] (by kernel_rfl) ⟨c1, by first | decide | omega | (simp only [tlL] <;> omega) | (simp <;> omega) | (simp [] <;> omega), c2, cutF (f := nodeC) (c := 3) (fun _ => rfl) (i := Int.toNat v5) (by first | rfl | omega | simp) (by first | rfl | omega | simp) (by omega), trivial⟩ ⟨(congrArg (V.own 500 3) (by first | rfl | (simp only [tlS, tl, vl, vo, oc, ov, tbl, vbl, ty, vy] <;> rfl) | (simp <;> omega) | (simp []; done) | (rw [List.take_of_length_le (by simp [])] <;> rfl) | (simp [List.take_of_length_le]; done))), trivial⟩ rfl rfl (fun _ h => h)
theorem F_slices_Index___impl_triple_impl_triple__W (x0 : List Nd) (x1 : Int) (x2 : Int) (x3 : Int) (y0 : Int) (h : F_slices_Index___impl_triple_impl_triple_ x0 x1 x2 x3 = some y0) : C Tryz.prog 152 [T.list (List.length x0) 3 (List.flatMap nodeC x0), T.agg [ti x1, ti x2, ti x3]] (ti y0) := by
 unfold F_slices_Index___impl_triple_impl_triple_ at h
 refine C.intro (tab := tab) tab_ok (fn := Tryz.f152) Tryz.func152 (by kernel_rfl) rfl (Nat.le_of_ble_eq_true rfl) ?_
 refine WP.sk tm [(3, An.fz)] [] [(4, vi 0), (3, V.t (T.ptr [ti x1, ti x2, ti x3])), (0, V.t (T.list (List.length x0) 3 (List.flatMap nodeC x0)))] [] trivial ?_
 obtain ⟨J1, hJ1, h⟩ := jn_some h
 refine WP.joinA (fun (zz : Unit) => ⟨[], [(4, vi 0)], []⟩) (fun zz => J1 () = some y0) ?_ ?_
 ·refine WP.sk tm [] [] [(8, vi 0), (7, vi (ln x0)), (4, vi 0), (3, V.t (T.ptr [ti x1, ti x2, ti x3])), (0, V.t (T.list (List.length x0) 3 (List.flatMap nodeC x0)))] [] trivial ?_
  refine WP.block ?_
  refine WP.lp (α := Nat × Int) (fun zz => ⟨[], [(8, vi zz.2), (7, vi (ln x0)), (4, vi 0), (3, V.t (T.ptr [ti x1, ti x2, ti x3])), (0, V.t (T.list (List.length x0) 3 (List.flatMap nodeC x0)))], []⟩) (fun zz => F_slices_Index___impl_triple_impl_triple__L1 x0 x1 x2 x3 J1 zz.1 zz.2 = some y0) (fun zz => zz.1) (fuel, (0 : Int)) h ?_
  rintro ⟨n, v8⟩ h0
  have h := (show F_slices_Index___impl_triple_impl_triple__L1 x0 x1 x2 x3 J1 n v8 = some y0 from h0)
  rcases n with _ | n
  ·rw [F_slices_Index___impl_triple_impl_triple__L1] at h; cases h
  ·rw [F_slices_Index___impl_triple_impl_triple__L1] at h
   refine WP.sk tm [] [(True)] [(9, vb (decide (v8 < (ln x0)))), (8, vi v8), (7, vi (ln x0)), (4, vi 0), (3, V.t (T.ptr [ti x1, ti x2, ti x3])), (0, V.t (T.list (List.length x0) 3 (List.flatMap nodeC x0)))] [] ⟨trivial, trivial⟩ ?_
   refine WP.seq ?_
   rcases ite_some h with ⟨h1, h⟩ | ⟨h1, h⟩
   ·refine WP.yes h1 rfl ?_
    refine WP.pk tm [] [] [(8, vi v8), (7, vi (ln x0)), (4, vi 0), (3, V.t (T.ptr [ti x1, ti x2, ti x3])), (0, V.t (T.list (List.length x0) 3 (List.flatMap nodeC x0)))] [] trivial ?_
    refine WP.seq ?_
    refine WP.block ?_
    refine WP.sk tm [] [] [(5, vi v8), (8, vi v8), (7, vi (ln x0)), (4, vi 0), (3, V.t (T.ptr [ti x1, ti x2, ti x3])), (0, V.t (T.list (List.length x0) 3 (List.flatMap nodeC x0)))] [] trivial ?_
    refine WP.seq ?_
    obtain ⟨c0, h⟩ := chk_some h
    obtain ⟨n16, c1, h⟩ := nam_some h
    refine WP.pk tm [(15, An.v (T.agg [ti ((gt x0 v8 (0, 0, 0)).1), ti ((gt x0 v8 (0, 0, 0)).2.1), ti ((gt x0 v8 (0, 0, 0)).2.2)])), (16, An.v (tb n16))] [(3 ≤ 3), ((0 ≤ v8 ∧ v8 < (ln x0))), (3 ≤ List.length (List.drop ((Int.toNat v8) * 3) (List.flatMap nodeC x0))), (T.agg (List.take 3 (List.drop ((Int.toNat v8) * 3) (List.flatMap nodeC x0))) = T.agg [ti ((gt x0 v8 (0, 0, 0)).1), ti ((gt x0 v8 (0, 0, 0)).2.1), ti ((gt x0 v8 (0, 0, 0)).2.2)]), (chkEq Tryz.prog 118 [ti x1, ti x2, ti x3] = true), (tb ((x1 == ((gt x0 v8 (0, 0, 0)).1)) && ((x2 == ((gt x0 v8 (0, 0, 0)).2.1)) && ((x3 == ((gt x0 v8 (0, 0, 0)).2.2)) && (true)))) = tb n16)] [(16, vb n16), (5, vi v8), (8, vi v8), (7, vi (ln x0)), (4, vi 0), (3, V.t (T.ptr [ti x1, ti x2, ti x3])), (0, V.t (T.list (List.length x0) 3 (List.flatMap nodeC x0)))] [] ⟨by decide, c0, fit_node (i := Int.toNat v8) (by simp) (by omega), at_node (by simp) (by omega), by kernel_rfl, congrArg (tb) c1, trivial⟩ ?_
    rcases ite_some h with ⟨h2, h⟩ | ⟨h2, h⟩
    ·refine WP.yes h2 rfl ?_
     have h := Option.some.inj h
     subst h
     exact WP.pathW tab_ok mixed [] _ (ps := []) (r := ti v8) (by kernel_rfl) trivial (WkT.eq (y := ti v8) (WkT.refl _) rfl) (fun _ h => h)
    ·refine WP.no h2 rfl ?_
     refine WP.pk tm [] [] [(8, vi v8), (7, vi (ln x0)), (4, vi 0), (3, V.t (T.ptr [ti x1, ti x2, ti x3])), (0, V.t (T.list (List.length x0) 3 (List.flatMap nodeC x0)))] [] trivial ?_
     obtain ⟨c2, h⟩ := chk_some h
     refine WP.qk tm [(18, An.v (ti (v8 + 1)))] [(True), (wr (v8 + 1))] [(8, vi (v8 + 1)), (7, vi (ln x0)), (4, vi 0), (3, V.t (T.ptr [ti x1, ti x2, ti x3])), (0, V.t (T.list (List.length x0) 3 (List.flatMap nodeC x0)))] [] ⟨trivial, wrapI c2, trivial⟩ ?_
     exact ⟨(n, (v8 + 1)), h, Nat.lt_succ_self _, rfl⟩
   ·refine WP.no h1 rfl ?_
    refine WP.eq tm [] 0 [] [(4, vi 0)] [] trivial ?_
    exact ⟨(), h, rfl⟩
 ·intro _ h0
  have h := (show J1 () = some y0 from h0)
  rw [hJ1] at h
  have h := Option.some.inj h
  subst h
  exact WP.pathW tab_ok mixed [] _ (ps := []) (r := ti (-1)) (by kernel_rfl) trivial (WkT.eq (y := ti (-1)) (WkT.refl _) (by first | rfl | (simp only [tlS, tl, vl, vo, oc, ov, tbl, vbl, ty, vy] <;> rfl) | (simp <;> omega) | (simp []; done) | (rw [List.take_of_length_le (by simp [])] <;> rfl) | (simp [List.take_of_length_le]; done))) (fun _ h => h)
theorem F_slices_Contains___impl_triple_impl_triple__W (x0 : List Nd) (x1 : Int) (x2 : Int) (x3 : Int) (y0 : Bool) (h : F_slices_Contains___impl_triple_impl_triple_ x0 x1 x2 x3 = some y0) : C Tryz.prog 145 [T.list (List.length x0) 3 (List.flatMap nodeC x0), T.agg [ti x1, ti x2, ti x3]] (tb y0) := by
 unfold F_slices_Contains___impl_triple_impl_triple_ at h
 refine C.intro (tab := tab) tab_ok (fn := Tryz.f145) Tryz.func145 (by kernel_rfl) rfl (Nat.le_of_ble_eq_true rfl) ?_
 obtain ⟨r7, c0, h⟩ := bnd1_some h
 have h := Option.some.inj h
 subst h
 exact WP.pathW tab_ok mixed [(3, An.fz), (7, An.call (ti r7))] _ (ps := [(3 ≤ 3), (C Tryz.prog 152 [T.list (List.length x0) 3 (List.flatMap nodeC x0), T.agg [ti x1, ti x2, ti x3]] (ti r7)), (True)]) (r := tb (decide (r7 ≥ (0 : Int)))) (by kernel_rfl) ⟨by decide, (F_slices_Index___impl_triple_impl_triple__W x0 x1 x2 x3 r7 c0), trivial, trivial⟩ (WkT.eq (y := tb (decide (r7 ≥ (0 : Int)))) (WkT.refl _) rfl) (fun _ h => h)
theorem F_impl_needs_2_W (x0 : Int) (x1 : Int) (x2 : Int) (x3 : List Nd) (y0 : Bool) (h : F_impl_needs_2 x0 x1 x2 x3 = some y0) : C Tryz.prog 144 [T.agg [ti x0, ti x1, ti x2], T.ptr [T.list (List.length x3) 3 (List.flatMap nodeC x3)]] (tb y0) := by
 unfold F_impl_needs_2 at h
 refine C.intro (tab := tab) tab_ok (fn := Tryz.f144) Tryz.func144 (by kernel_rfl) rfl (Nat.le_of_ble_eq_true rfl) ?_
 obtain ⟨r6, c0, h⟩ := bnd1_some h
 have h := Option.some.inj h
 subst h
 exact WP.pathW tab_ok mixed [(2, An.fz), (6, An.call (tb r6))] _ (ps := [(True), (3 ≤ 3), (C Tryz.prog 145 [T.list (List.length x3) 3 (List.flatMap nodeC x3), T.agg [ti x0, ti x1, ti x2]] (tb r6))]) (r := tb r6) (by kernel_rfl) ⟨trivial, by decide, (F_slices_Contains___impl_triple_impl_triple__W x3 x0 x1 x2 r6 c0), trivial⟩ (WkT.eq (y := tb r6) (WkT.refl _) rfl) (fun _ h => h)

end Go.Proofs.YtopodonemnnjdaaGreat.AuAna
