/-
  The walks: each function of the program returns what the plain function beside it returns. No statement is proved here.
-/
import Derived.Test.YtopodonemnnjdaaGreatTlGroupc
import Derived.Test.YtopodonemnnjdaaGreatTlGroupd

import Derived.Test.YtopodonemnnjdaaGreatAuCoF
import Derived.Test.YtopodonemnnjdaaGreatProg
import Derived.Test.YtopodonemnnjdaaGreatAuCoO
namespace Go.Proofs.YtopodonemnnjdaaGreat.AuCoa
open Go Go.Tl Go.Proofs
open Go.Proofs.YtopodonemnnjdaaGreat.AuCoO hiding tab tab_ok mixed tm
set_option linter.unusedVariables false
set_option linter.unusedSimpArgs false
set_option maxRecDepth 100000
set_option maxHeartbeats 4000000
def tab : Tab := [(3, ⟨.int .i64, 1, 8, [.int .i64 0]⟩), (4, ⟨.bool, 1, 1, [.bool false]⟩), (5, ⟨.int .u8, 1, 1, [.int .u8 0]⟩), (22, ⟨.slice 5 1 1, 1, 24, [.nils]⟩), (24, ⟨.slice 3 1 8, 1, 24, [.nils]⟩), (26, ⟨.struct [(0, 1, false), (1, 1, false)], 2, 32, [.nils, .int .i64 0]⟩), (27, ⟨.slice 4 1 1, 1, 24, [.nils]⟩), (62, ⟨.pointer 65, 1, 8, [.nilp]⟩), (63, ⟨.int .u64, 1, 8, [.int .u64 0]⟩), (65, ⟨.struct [(0, 1, false), (1, 1, false), (2, 1, false)], 3, 40, [.nils, .int .i64 0, .int .u64 0]⟩), (76, ⟨.func, 1, 8, [.nilf]⟩), (77, ⟨.map 118 3, 1, 8, [.nilm]⟩), (79, ⟨.struct [(0, 1, false), (1, 1, false)], 2, 16, [.nilf, .nilm]⟩), (84, ⟨.struct [(0, 1, false), (1, 1, false)], 2, 16, [.int .i64 0, .bool false]⟩), (95, ⟨.func, 1, 8, [.nilf]⟩), (98, ⟨.map 3 3, 1, 8, [.nilm]⟩), (100, ⟨.struct [(0, 1, false)], 1, 8, [.nilm]⟩), (105, ⟨.array 2 26 2 true, 4, 64, [.nils, .int .i64 0, .nils, .int .i64 0]⟩), (118, ⟨.array 3 3 1 false, 3, 24, [.int .i64 0, .int .i64 0, .int .i64 0]⟩), (122, ⟨.slice 118 3 24, 1, 24, [.nils]⟩), (124, ⟨.slice 24 1 24, 1, 24, [.nils]⟩), (129, ⟨.func, 1, 8, [.nilf]⟩)]
theorem tab_ok : chkTab Tryz.prog tab = true := by kernel_rfl
theorem mixed : Tryz.prog.follows .mixedOrders = true := by kernel_rfl
abbrev tm := And.intro tab_ok mixed
theorem F_laws_rBools_W (x0 : List Bool) (x1 : List Bool) (y0 : Bool) (h : F_laws_rBools x0 x1 = some y0) : C Tryz.prog 13 [tbl x0, tbl x1] (tb y0) := by
 unfold F_laws_rBools at h
 refine C.intro (tab := tab) tab_ok (fn := Tryz.f13) Tryz.func13 (by kernel_rfl) rfl (Nat.le_of_ble_eq_true rfl) ?_
 refine WP.sk tm [] [] [(4, vb false), (0, vbl x0), (1, vbl x1)] [] trivial ?_
 refine WP.seq ?_
 refine WP.sk tm [] [(True)] [(10, vb ((ln x0) != (ln x1))), (4, vb false), (0, vbl x0), (1, vbl x1)] [] ⟨trivial, trivial⟩ ?_
 rcases ite_some h with ⟨h1, h⟩ | ⟨h1, h⟩
 ·refine WP.yes h1 rfl ?_
  have h := Option.some.inj h
  subst h
  exact WP.pathW tab_ok mixed [] _ (ps := []) (r := tb false) (by kernel_rfl) trivial (WkT.eq (y := tb false) (WkT.refl _) rfl) (fun _ h => h)
 ·refine WP.no h1 rfl ?_
  refine WP.pk tm [] [] [(4, vb false), (0, vbl x0), (1, vbl x1)] [] trivial ?_
  obtain ⟨J1, hJ1, h⟩ := jn_some h
  refine WP.joinA (fun (zz : Unit) => ⟨[], [(4, vb false)], []⟩) (fun zz => J1 () = some y0) ?_ ?_
  ·refine WP.sk tm [] [] [(5, vi 0), (4, vb false), (0, vbl x0), (1, vbl x1)] [] trivial ?_
   refine WP.block ?_
   refine WP.lp (α := Nat × Int) (fun zz => ⟨[], [(5, vi zz.2), (4, vb false), (0, vbl x0), (1, vbl x1)], []⟩) (fun zz => F_laws_rBools_L1 x0 x1 J1 zz.1 zz.2 = some y0) (fun zz => zz.1) (fuel, (0 : Int)) h ?_
   rintro ⟨n, v5⟩ h0
   have h := (show F_laws_rBools_L1 x0 x1 J1 n v5 = some y0 from h0)
   rcases n with _ | n
   ·rw [F_laws_rBools_L1] at h; cases h
   ·rw [F_laws_rBools_L1] at h
    refine WP.seq ?_
    refine WP.sk tm [] [(True)] [(14, vb (decide (v5 < (ln x0)))), (5, vi v5), (4, vb false), (0, vbl x0), (1, vbl x1)] [] ⟨trivial, trivial⟩ ?_
    rcases ite_some h with ⟨h2, h⟩ | ⟨h2, h⟩
    ·refine WP.yes h2 rfl ?_
     refine WP.pk tm [] [] [(5, vi v5), (4, vb false), (0, vbl x0), (1, vbl x1)] [] trivial ?_
     refine WP.seq ?_
     refine WP.block ?_
     refine WP.seq ?_
     obtain ⟨c0, c1, h⟩ := chk2 h
     refine WP.pk tm [(20, An.v (tb (gt x0 v5 false))), (24, An.v (tb (gt x1 v5 false)))] [(ib v5 x0), ((List.drop ((Int.toNat v5) * 1) (List.map T.bool x0) : List T)[0]? = some (tb (gt x0 v5 false))), (rf (tb (gt x0 v5 false))), (ib v5 x1), ((List.drop ((Int.toNat v5) * 1) (List.map T.bool x1) : List T)[0]? = some (tb (gt x1 v5 false))), (rf (tb (gt x1 v5 false))), (True)] [(25, vb (!((gt x0 v5 false) == (gt x1 v5 false)))), (5, vi v5), (4, vb false), (0, vbl x0), (1, vbl x1)] [] ⟨c0, at1 (by simp) (by omega), rfl, c1, at1 (by simp) (by omega), rfl, trivial, trivial⟩ ?_
     rcases ite_some h with ⟨h3, h⟩ | ⟨h3, h⟩
     ·refine WP.yes h3 rfl ?_
      have h := Option.some.inj h
      subst h
      exact WP.pathW tab_ok mixed [] _ (ps := []) (r := tb false) (by kernel_rfl) trivial (WkT.eq (y := tb false) (WkT.refl _) rfl) (fun _ h => h)
     ·refine WP.no h3 rfl ?_
      refine WP.pk tm [] [] [(5, vi v5), (4, vb false), (0, vbl x0), (1, vbl x1)] [] trivial ?_
      obtain ⟨c2, h⟩ := chk_some h
      refine WP.qk tm [(16, An.v (ti (v5 + 1)))] [(True), (wr (v5 + 1))] [(5, vi (v5 + 1)), (4, vb false), (0, vbl x0), (1, vbl x1)] [] ⟨trivial, wrapI c2, trivial⟩ ?_
      exact ⟨(n, (v5 + 1)), h, Nat.lt_succ_self _, rfl⟩
    ·refine WP.no h2 rfl ?_
     refine WP.eq tm [] 0 [] [(4, vb false)] [] trivial ?_
     exact ⟨(), h, rfl⟩
  ·intro _ h0
   have h := (show J1 () = some y0 from h0)
   rw [hJ1] at h
   have h := Option.some.inj h
   subst h
   exact WP.pathW tab_ok mixed [] _ (ps := []) (r := tb true) (by kernel_rfl) trivial (WkT.eq (y := tb true) (WkT.refl _) rfl) (fun _ h => h)
theorem F_iS_counts_W (x0 : List Int) (x1 : Int) (y0 : List Int) (h : F_iS_counts x0 x1 = some y0) : CG Tryz.prog 77 [V.t (T.agg [tl x0, ti x1])] [] (vo 9000 (List.length y0)) [(9000, oc 3 (List.map (ti) y0))] := by
 unfold F_iS_counts at h
 refine CG.intro (tab := tab) tab_ok (fn := Tryz.f77) Tryz.func77 (by kernel_rfl) rfl (Nat.le_of_ble_eq_true rfl) (by kernel_rfl) ?_
 refine WP.sk tm [(1, An.fz)] [] [(2, V.t (T.nils)), (1, V.t (T.ptr [tl x0, ti x1]))] [] trivial ?_
 refine WP.seq ?_
 obtain ⟨c0, c1, h⟩ := chk2 h
 refine WP.pk tm [(8, An.v (ti (x1 + 1))), (9, An.id 2009)] [(True), (True), (wr (x1 + 1)), ((0 ≤ (x1 + 1) ∧ (x1 + 1) ≤ (x1 + 1) ∧ (8 : Int) * (x1 + 1) ≤ 281474976710656 ∧ (x1 + 1) ≤ (maxLen : Int)))] [(3, vo 2009 (Int.toNat (x1 + 1))), (2, V.t (T.nils)), (1, V.t (T.ptr [tl x0, ti x1]))] [(2009, oc 3 (List.replicate (Int.toNat (x1 + 1)) (ti 0)))] ⟨trivial, trivial, wrapI c0, c1, trivial⟩ ?_
 obtain ⟨J1, hJ1, h⟩ := jn_some h
 refine WP.joinA (fun (zz : (List Int)) => ⟨[2009], [(3, vo 2009 (List.length zz)), (2, V.t (T.nils))], [(2009, oc 3 (List.map (ti) zz))]⟩) (fun zz => J1 zz = some y0) ?_ ?_
 ·refine WP.sk tm [] [(True)] [(13, vi 0), (12, vi (ln x0)), (11, vl x0), (3, vo 2009 (Int.toNat (x1 + 1))), (2, V.t (T.nils))] [(2009, oc 3 (List.replicate (Int.toNat (x1 + 1)) (ti 0)))] ⟨trivial, trivial⟩ ?_
  refine WP.block ?_
  refine WP.wk [.keep [13, 12, 11, 3, 2], .keepO [2009], .names [(2009, 2009)]] (σ' := ⟨[2009], [(13, vi 0), (12, vi (ln x0)), (11, vl x0), (3, vo 2009 (Int.toNat (x1 + 1))), (2, V.t (T.nils))], [(2009, oc 3 (List.replicate (Int.toNat (x1 + 1)) (ti 0)))]⟩) (ps := []) (by kernel_rfl) trivial ?_
  refine WP.st (σ' := ⟨[2009], [(13, vi (0 : Int)), (12, vi (ln x0)), (11, vl x0), (3, vo 2009 (List.length (List.replicate (Int.toNat (x1 + 1)) (0 : Int)))), (2, V.t (T.nils))], [(2009, oc 3 (List.map (ti) (List.replicate (Int.toNat (x1 + 1)) (0 : Int))))]⟩) (by simp <;> omega) ?_
  refine WP.loop (α := Nat × (List Int) × Int) (fun zz => ⟨[2009], [(13, vi zz.2.2), (12, vi ((List.length x0 : Nat) : Int)), (11, vl x0), (3, vo 2009 (List.length zz.2.1)), (2, V.t (T.nils))], [(2009, oc 3 (List.map (T.int .i64) zz.2.1))]⟩) (fun zz => F_iS_counts_L1 x0 J1 zz.1 zz.2.1 zz.2.2 = some y0) (fun zz => zz.1) (fuel, List.replicate (Int.toNat (x1 + (1 : Int))) (0 : Int), (0 : Int)) h ?_
  rintro ⟨n, o9, v13⟩ h0
  have h := (show F_iS_counts_L1 x0 J1 n o9 v13 = some y0 from h0)
  rcases n with _ | n
  ·rw [F_iS_counts_L1] at h; cases h
  ·rw [F_iS_counts_L1] at h
   refine WP.sk tm [] [(True)] [(14, vb (decide (v13 < (ln x0)))), (13, vi v13), (12, vi (ln x0)), (11, vl x0), (3, vo 2009 (List.length o9)), (2, V.t (T.nils))] [(2009, oc 3 (List.map (ti) o9))] ⟨trivial, trivial⟩ ?_
   refine WP.seq ?_
   rcases ite_some h with ⟨h1, h⟩ | ⟨h1, h⟩
   ·refine WP.yes h1 rfl ?_
    refine WP.pk tm [] [] [(13, vi v13), (12, vi (ln x0)), (11, vl x0), (3, vo 2009 (List.length o9)), (2, V.t (T.nils))] [(2009, oc 3 (List.map (ti) o9))] trivial ?_
    refine WP.seq ?_
    refine WP.block ?_
    refine WP.seq ?_
    obtain ⟨c2, h⟩ := chk_some h
    refine WP.pk tm [(16, An.v (ti (gt x0 v13 0)))] [(ib v13 x0), ((List.drop ((Int.toNat v13) * 1) (List.map (ti) x0) : List T)[0]? = some (ti (gt x0 v13 0))), (rf (ti (gt x0 v13 0)))] [(5, vi (gt x0 v13 0)), (13, vi v13), (12, vi (ln x0)), (11, vl x0), (3, vo 2009 (List.length o9)), (2, V.t (T.nils))] [(2009, oc 3 (List.map (ti) o9))] ⟨c2, at1 (by simp) (by omega), rfl, trivial⟩ ?_
    refine WP.sk tm [] [(True)] [(18, vb (decide ((gt x0 v13 0) ≥ (0 : Int)))), (5, vi (gt x0 v13 0)), (13, vi v13), (12, vi (ln x0)), (11, vl x0), (3, vo 2009 (List.length o9)), (2, V.t (T.nils))] [(2009, oc 3 (List.map (ti) o9))] ⟨trivial, trivial⟩ ?_
    rcases ite_some h with ⟨h2, h⟩ | ⟨h2, h⟩
    ·refine WP.yes h2 rfl ?_
     obtain ⟨c3, c4, h⟩ := chk2 h
     obtain ⟨n23, c5, h⟩ := nam_some h
     refine WP.path tab_ok mixed [(22, An.v (ti (List.getD o9 (Int.toNat (List.getD x0 (Int.toNat v13) 0)) 0))), (23, An.v (ti n23))] [.keep [13, 12, 11, 3, 2], .keepO [2009]] (ps := [((0 ≤ (List.getD x0 (Int.toNat v13) 0) ∧ (List.getD x0 (Int.toNat v13) 0) < ((List.length o9 : Nat) : Int))), ((List.map (T.int .i64) o9 : List T)[(Int.toNat (List.getD x0 (Int.toNat v13) 0)) * 1]? = some (ti (List.getD o9 (Int.toNat (List.getD x0 (Int.toNat v13) 0)) 0))), (ti (List.getD o9 (Int.toNat (List.getD x0 (Int.toNat v13) 0)) 0) = ti (List.getD o9 (Int.toNat (List.getD x0 (Int.toNat v13) 0)) 0)), (True), (T.int .i64 (IntKind.wrap .i64 ((List.getD o9 (Int.toNat (List.getD x0 (Int.toNat v13) 0)) 0) + (1 : Int))) = ti n23), ((0 ≤ (List.getD x0 (Int.toNat v13) 0) ∧ (List.getD x0 (Int.toNat v13) 0) < ((List.length o9 : Nat) : Int))), ((Int.toNat (List.getD x0 (Int.toNat v13) 0)) * 1 < List.length (List.map (T.int .i64) o9))]) (e := .normal) (σ' := ⟨[2009], [(13, vi v13), (12, vi ((List.length x0 : Nat) : Int)), (11, vl x0), (3, vo 2009 (List.length o9)), (2, V.t (T.nils))], [(2009, oc 3 (List.set (List.map (T.int .i64) o9) ((Int.toNat (List.getD x0 (Int.toNat v13) 0)) * 1) (ti n23)))]⟩) (by kernel_rfl) ⟨c3, atM (by simp) (by first | omega | (simp only [tlL]; omega) | (simp; omega)), rfl, trivial, Eq.trans (wrapI c4) (congrArg (ti) c5), c3, by first | decide | omega | (simp only [tlL] <;> omega) | (simp <;> omega) | (simp [] <;> omega), trivial⟩ ?_
     obtain ⟨c6, h⟩ := chk_some h
     refine WP.qk tm [(25, An.v (ti (v13 + 1)))] [(True), (wr (v13 + 1))] [(13, vi (v13 + 1)), (12, vi (ln x0)), (11, vl x0), (3, vo 2009 (List.length o9)), (2, V.t (T.nils))] [(2009, oc 3 (List.set (List.map (ti) o9) ((Int.toNat (gt x0 v13 0)) * 1) (ti n23)))] ⟨trivial, wrapI c6, trivial⟩ ?_
     exact ⟨(n, List.set o9 (Int.toNat (gt x0 v13 0)) n23, (v13 + 1)), h, Nat.lt_succ_self _, (by first | rfl | (simp only [tlS, tl, vl, vo, oc, ov, tbl, vbl, ty, vy] <;> rfl) | (simp <;> omega) | (simp []; done) | (rw [List.take_of_length_le (by simp [])] <;> rfl) | (simp [List.take_of_length_le]; done))⟩
    ·refine WP.no h2 rfl ?_
     refine WP.pk tm [] [] [(13, vi v13), (12, vi (ln x0)), (11, vl x0), (3, vo 2009 (List.length o9)), (2, V.t (T.nils))] [(2009, oc 3 (List.map (ti) o9))] trivial ?_
     obtain ⟨c3, h⟩ := chk_some h
     refine WP.qk tm [(25, An.v (ti (v13 + 1)))] [(True), (wr (v13 + 1))] [(13, vi (v13 + 1)), (12, vi (ln x0)), (11, vl x0), (3, vo 2009 (List.length o9)), (2, V.t (T.nils))] [(2009, oc 3 (List.map (ti) o9))] ⟨trivial, wrapI c3, trivial⟩ ?_
     exact ⟨(n, o9, (v13 + 1)), h, Nat.lt_succ_self _, rfl⟩
   ·refine WP.no h1 rfl ?_
    refine WP.eq tm [] 0 [] [(3, vo 2009 (List.length o9)), (2, V.t (T.nils))] [(2009, oc 3 (List.map (ti) o9))] trivial ?_
    exact ⟨(o9), h, rfl⟩
 ·intro o9 h0
  have h := (show J1 o9 = some y0 from h0)
  rw [hJ1] at h
  have h := Option.some.inj h
  subst h
  exact WP.pathG tab_ok mixed [] [.keep [2], .keepO [2009], .names [(2009, 9000)]] [9000] _ (r' := vo 9000 (List.length o9)) (ps := []) (r := vo 9000 (List.length o9)) (N := [9000]) (O := [(9000, oc 3 (List.map (ti) o9))]) [] (by kernel_rfl) trivial ⟨rfl, trivial⟩ rfl rfl (fun _ h => h)
theorem F_iS_counts_W_C (x0 : List Int) (x1 : Int) (y0 : List Int) (h : F_iS_counts x0 x1 = some y0) : C Tryz.prog 77 [T.agg [tl x0, ti x1]] (tl y0) :=
 CG.toC (ps := [(List.length (List.map (ti) y0) = (List.length y0) * 1)]) (F_iS_counts_W  x0 x1 y0 h) (by rfl) ⟨by first | rfl | omega | (simp <;> omega) | (simp [hl] <;> omega), trivial⟩
theorem F_i_CountsOf_W (x0 : List Int) (x1 : Int) (y0 : List Int) (y1 : Bool) (h : F_i_CountsOf x0 x1 = some (y0, y1)) : CG Tryz.prog 23 [V.t (T.agg [tl x0, ti x1])] [] (V.tup [vo 9000 (List.length y0), vb y1]) [(9000, oc 3 (List.map (ti) y0))] := by
 unfold F_i_CountsOf at h
 refine CG.intro (tab := tab) tab_ok (fn := Tryz.f23) Tryz.func23 (by kernel_rfl) rfl (Nat.le_of_ble_eq_true rfl) (by kernel_rfl) ?_
 refine WP.sk tm [(1, An.fz)] [] [(3, vb false), (2, V.t (T.nils)), (1, V.t (T.ptr [tl x0, ti x1]))] [] trivial ?_
 refine WP.seq ?_
 refine WP.seq ?_
 obtain ⟨c0, h⟩ := chk_some h
 refine WP.pk tm [(5, An.call (tb (isStateN x0 x1)))] [(2 ≤ 2), (C Tryz.prog 76 [T.agg [tl x0, ti x1]] (tb (isStateN x0 x1)))] [(6, vb (!(isStateN x0 x1))), (3, vb false), (2, V.t (T.nils)), (1, V.t (T.ptr [tl x0, ti x1]))] [] ⟨by decide, (isState_C x0 x1 c0), trivial⟩ ?_
 rcases ite_some h with ⟨h1, h⟩ | ⟨h1, h⟩
 ·refine WP.yes h1 rfl ?_
  simp only [Option.some.injEq, Prod.mk.injEq] at h
  obtain ⟨rfl, rfl⟩ := h
  exact WP.pathG tab_ok mixed [] [.keep [2, 3], .keepO [], .names []] [] _ (r' := V.tup [vo 9000 (List.length ([] : List Int)), vb false]) (ps := []) (r := V.t (T.tup [T.nils, tb false])) (N := []) (O := []) [(9000, 3)] (by kernel_rfl) trivial ⟨(by first | rfl | (simp; done)), (WkT.refl _), trivial⟩ rfl rfl (fun _ h => h)
 ·refine WP.no h1 rfl ?_
  refine WP.pk tm [] [] [(3, vb false), (2, V.t (T.nils)), (1, V.t (T.ptr [tl x0, ti x1]))] [] trivial ?_
  obtain ⟨r8, c1, h⟩ := bnd1_some h
  simp only [Option.some.injEq, Prod.mk.injEq] at h
  obtain ⟨rfl, rfl⟩ := h
  exact WP.pathG tab_ok mixed [(8, An.callG [(9000, 10080)] [V.t (T.agg [tl x0, ti x1])] [] (vo 9000 (List.length r8)) [(9000, oc 3 (List.map (ti) r8))])] [.keep [2, 3], .keepO [10080], .names [(10080, 9000)]] [9000] _ (r' := V.tup [vo 9000 (List.length r8), vb true]) (ps := [(2 ≤ 2), (CG Tryz.prog 77 [V.t (T.agg [tl x0, ti x1])] [] (vo 9000 (List.length r8)) [(9000, oc 3 (List.map (ti) r8))]), (WkT (T.agg [tl x0, ti x1]) (T.agg [tl x0, ti x1]))]) (r := V.tup [vo 9000 (List.length r8), vb true]) (N := [9000]) (O := [(9000, oc 3 (List.map (ti) r8))]) [] (by kernel_rfl) ⟨by decide, (F_iS_counts_W x0 x1 r8 c1), WkT.refl _, trivial⟩ ⟨rfl, (WkT.refl _), trivial⟩ rfl rfl (fun _ h => h)
theorem F_i_CountsOf_W_C (x0 : List Int) (x1 : Int) (y0 : List Int) (y1 : Bool) (h : F_i_CountsOf x0 x1 = some (y0, y1)) : C Tryz.prog 23 [T.agg [tl x0, ti x1]] (T.tup [tl y0, tb y1]) :=
 CG.toC (ps := [(List.length (List.map (ti) y0) = (List.length y0) * 1)]) (F_i_CountsOf_W  x0 x1 y0 y1 h) (by rfl) ⟨by first | rfl | omega | (simp <;> omega) | (simp [hl] <;> omega), trivial⟩
theorem F_sIi_W (x0 : List (List Int)) (g1 : FuncId) (pre1 caps1 : List T) (p1 : (List Int) → Option (Bool)) (hp1 : ∀ (a1_0 : List Int) (b1_1 : Bool), p1 a1_0 = some b1_1 → C Tryz.prog g1 (pre1 ++ ([tl a1_0] ++ caps1)) (tb b1_1)) (y0 : Int) (h : F_sIi x0 p1 = some y0) : C Tryz.prog 150 [T.list (List.length x0) 1 (List.map (fun l => T.list (List.length l) 1 (List.map (ti) l)) x0), T.fn g1 pre1 caps1] (ti y0) := by
 unfold F_sIi at h
 refine C.intro (tab := tab) tab_ok (fn := Tryz.f150) Tryz.func150 (by kernel_rfl) rfl (Nat.le_of_ble_eq_true rfl) ?_
 refine WP.sk tm [] [] [(4, vi 0), (0, V.t (T.list (List.length x0) 1 (List.map (fun l => T.list (List.length l) 1 (List.map (ti) l)) x0))), (1, V.t (T.fn g1 pre1 caps1))] [] trivial ?_
 obtain ⟨J1, hJ1, h⟩ := jn_some h
 refine WP.joinA (fun (zz : Unit) => ⟨[], [(4, vi 0)], []⟩) (fun zz => J1 () = some y0) ?_ ?_
 ·refine WP.sk tm [] [] [(8, vi 0), (7, vi (ln x0)), (4, vi 0), (0, V.t (T.list (List.length x0) 1 (List.map (fun l => T.list (List.length l) 1 (List.map (ti) l)) x0))), (1, V.t (T.fn g1 pre1 caps1))] [] trivial ?_
  refine WP.block ?_
  refine WP.lp (α := Nat × Int) (fun zz => ⟨[], [(8, vi zz.2), (7, vi (ln x0)), (4, vi 0), (0, V.t (T.list (List.length x0) 1 (List.map (fun l => T.list (List.length l) 1 (List.map (ti) l)) x0))), (1, V.t (T.fn g1 pre1 caps1))], []⟩) (fun zz => F_sIi_L1 x0 p1 J1 zz.1 zz.2 = some y0) (fun zz => zz.1) (fuel, (0 : Int)) h ?_
  rintro ⟨n, v8⟩ h0
  have h := (show F_sIi_L1 x0 p1 J1 n v8 = some y0 from h0)
  rcases n with _ | n
  ·rw [F_sIi_L1] at h; cases h
  ·rw [F_sIi_L1] at h
   refine WP.sk tm [] [(True)] [(9, vb (decide (v8 < (ln x0)))), (8, vi v8), (7, vi (ln x0)), (4, vi 0), (0, V.t (T.list (List.length x0) 1 (List.map (fun l => T.list (List.length l) 1 (List.map (ti) l)) x0))), (1, V.t (T.fn g1 pre1 caps1))] [] ⟨trivial, trivial⟩ ?_
   refine WP.seq ?_
   rcases ite_some h with ⟨h1, h⟩ | ⟨h1, h⟩
   ·refine WP.yes h1 rfl ?_
    refine WP.pk tm [] [] [(8, vi v8), (7, vi (ln x0)), (4, vi 0), (0, V.t (T.list (List.length x0) 1 (List.map (fun l => T.list (List.length l) 1 (List.map (ti) l)) x0))), (1, V.t (T.fn g1 pre1 caps1))] [] trivial ?_
    refine WP.seq ?_
    refine WP.block ?_
    refine WP.sk tm [] [] [(5, vi v8), (8, vi v8), (7, vi (ln x0)), (4, vi 0), (0, V.t (T.list (List.length x0) 1 (List.map (fun l => T.list (List.length l) 1 (List.map (ti) l)) x0))), (1, V.t (T.fn g1 pre1 caps1))] [] trivial ?_
    refine WP.seq ?_
    obtain ⟨c0, h⟩ := chk_some h
    obtain ⟨r16, c1, h⟩ := bnd1_some h
    refine WP.pk tm [(15, An.v (tl (gt x0 v8 []))), (16, An.call (tb r16))] [(ib v8 x0), ((List.drop ((Int.toNat v8) * 1) (List.map (fun l => T.list (List.length l) 1 (List.map (ti) l)) x0) : List T)[0]? = some (tl (gt x0 v8 []))), (rf (tl (gt x0 v8 []))), (C Tryz.prog g1 (pre1 ++ ([tl (gt x0 v8 [])] ++ caps1)) (tb r16))] [(16, vb r16), (5, vi v8), (8, vi v8), (7, vi (ln x0)), (4, vi 0), (0, V.t (T.list (List.length x0) 1 (List.map (fun l => T.list (List.length l) 1 (List.map (ti) l)) x0))), (1, V.t (T.fn g1 pre1 caps1))] [] ⟨c0, at1 (by simp) (by omega), rfl, (hp1 (gt x0 v8 []) r16 c1), trivial⟩ ?_
    rcases ite_some h with ⟨h2, h⟩ | ⟨h2, h⟩
    ·refine WP.yes h2 rfl ?_
     have h := Option.some.inj h
     subst h
     exact WP.pathW tab_ok mixed [] _ (ps := []) (r := ti v8) (by kernel_rfl) trivial (WkT.eq (y := ti v8) (WkT.refl _) rfl) (fun _ h => h)
    ·refine WP.no h2 rfl ?_
     refine WP.pk tm [] [] [(8, vi v8), (7, vi (ln x0)), (4, vi 0), (0, V.t (T.list (List.length x0) 1 (List.map (fun l => T.list (List.length l) 1 (List.map (ti) l)) x0))), (1, V.t (T.fn g1 pre1 caps1))] [] trivial ?_
     obtain ⟨c2, h⟩ := chk_some h
     refine WP.qk tm [(18, An.v (ti (v8 + 1)))] [(True), (wr (v8 + 1))] [(8, vi (v8 + 1)), (7, vi (ln x0)), (4, vi 0), (0, V.t (T.list (List.length x0) 1 (List.map (fun l => T.list (List.length l) 1 (List.map (ti) l)) x0))), (1, V.t (T.fn g1 pre1 caps1))] [] ⟨trivial, wrapI c2, trivial⟩ ?_
     exact ⟨(n, (v8 + 1)), h, Nat.lt_succ_self _, rfl⟩
   ·refine WP.no h1 rfl ?_
    refine WP.eq tm [] 0 [] [(4, vi 0)] [] trivial ?_
    exact ⟨(), h, rfl⟩
 ·intro _ h0
  have h := (show J1 () = some y0 from h0)
  rw [hJ1] at h
  have h := Option.some.inj h
  subst h
  exact WP.pathW tab_ok mixed [] _ (ps := []) (r := ti (-1)) (by kernel_rfl) trivial (WkT.eq (y := ti (-1)) (WkT.refl _) (by first | rfl | (simp only [tlS, tl, vl, vo, oc, ov, tbl, vbl, ty, vy] <;> rfl) | (simp <;> omega) | (simp []; done) | (rw [List.take_of_length_le (by simp [])] <;> rfl) | (simp [List.take_of_length_le]; done))) (fun _ h => h)
theorem F_sCi_W (x0 : List (List Int)) (g1 : FuncId) (pre1 caps1 : List T) (p1 : (List Int) → Option (Bool)) (hp1 : ∀ (a1_0 : List Int) (b1_1 : Bool), p1 a1_0 = some b1_1 → C Tryz.prog g1 (pre1 ++ ([tl a1_0] ++ caps1)) (tb b1_1)) (y0 : Bool) (h : F_sCi x0 p1 = some y0) : C Tryz.prog 140 [T.list (List.length x0) 1 (List.map (fun l => T.list (List.length l) 1 (List.map (ti) l)) x0), T.fn g1 pre1 caps1] (tb y0) := by
 unfold F_sCi at h
 refine C.intro (tab := tab) tab_ok (fn := Tryz.f140) Tryz.func140 (by kernel_rfl) rfl (Nat.le_of_ble_eq_true rfl) ?_
 obtain ⟨r7, c0, h⟩ := bnd1_some h
 have h := Option.some.inj h
 subst h
 exact WP.pathW tab_ok mixed [(7, An.call (ti r7))] _ (ps := [(C Tryz.prog 150 [T.list (List.length x0) 1 (List.map (fun l => T.list (List.length l) 1 (List.map (ti) l)) x0), T.fn g1 pre1 caps1] (ti r7)), (True)]) (r := tb (decide (r7 ≥ (0 : Int)))) (by kernel_rfl) ⟨(F_sIi_W x0 g1 pre1 caps1 p1 hp1 r7 c0), trivial, trivial⟩ (WkT.eq (y := tb (decide (r7 ≥ (0 : Int)))) (WkT.refl _) rfl) (fun _ h => h)
theorem F_i_splits_W (x0 : List Int) (y0 : List (List Int)) (h : F_i_splits x0 = some y0) : CG Tryz.prog 141 [vl x0] [] (vo 9000 (List.length y0)) [(9000, oc 24 (List.map (fun l => T.list (List.length l) 1 (List.map (ti) l)) y0))] := by
 unfold F_i_splits at h
 refine CG.intro (tab := tab) tab_ok (fn := Tryz.f141) Tryz.func141 (by kernel_rfl) rfl (Nat.le_of_ble_eq_true rfl) (by kernel_rfl) ?_
 refine WP.sk tm [] [] [(2, V.t (T.nils)), (0, vl x0)] [] trivial ?_
 refine WP.sk tm [(10, An.fz), (11, An.id 2011)] [(True), (0 = 0 * 1), ((1 = 1 ∧ 0 + 1 ≤ 1) ∧ True), (1 = 1 * 1)] [(3, vo 2011 1), (2, V.t (T.nils)), (0, vl x0)] [(2011, oc 24 [T.list 0 1 []])] ⟨trivial, by decide, ⟨⟨by first | rfl | (simp; done) | (simp []; done) | omega, by first | decide | (simp; done) | (simp []; done) | omega | (simp only [tlL]; omega) | (simp; omega)⟩, trivial⟩, by decide, trivial⟩ ?_
 obtain ⟨J1, hJ1, h⟩ := jn_some h
 refine WP.joinA (fun (zz : (List (List Int))) => ⟨[2011], [(3, vo 2011 (List.length zz)), (2, V.t (T.nils))], [(2011, oc 24 (List.map (fun l => T.list (List.length l) 1 (List.map (ti) l)) zz))]⟩) (fun zz => J1 zz = some y0) ?_ ?_
 ·refine WP.sk tm [] [] [(14, vi 0), (13, vi (ln x0)), (12, vl x0), (3, vo 2011 1), (2, V.t (T.nils))] [(2011, oc 24 [T.list 0 1 []])] trivial ?_
  refine WP.block ?_
  refine WP.lp (α := Nat × (List (List Int)) × Int) (fun zz => ⟨[2011], [(14, vi zz.2.2), (13, vi (ln x0)), (12, vl x0), (3, vo 2011 (List.length zz.2.1)), (2, V.t (T.nils))], [(2011, oc 24 (List.map (fun l => T.list (List.length l) 1 (List.map (ti) l)) zz.2.1))]⟩) (fun zz => F_i_splits_L1 x0 J1 zz.1 zz.2.1 zz.2.2 = some y0) (fun zz => zz.1) (fuel, [([] : List Int)], (0 : Int)) h ?_
  rintro ⟨n, o11, v14⟩ h0
  have h := (show F_i_splits_L1 x0 J1 n o11 v14 = some y0 from h0)
  rcases n with _ | n
  ·rw [F_i_splits_L1] at h; cases h
  ·rw [F_i_splits_L1] at h
   refine WP.sk tm [] [(True)] [(15, vb (decide (v14 < (ln x0)))), (14, vi v14), (13, vi (ln x0)), (12, vl x0), (3, vo 2011 (List.length o11)), (2, V.t (T.nils))] [(2011, oc 24 (List.map (fun l => T.list (List.length l) 1 (List.map (ti) l)) o11))] ⟨trivial, trivial⟩ ?_
   refine WP.seq ?_
   rcases ite_some h with ⟨h1, h⟩ | ⟨h1, h⟩
   ·refine WP.yes h1 rfl ?_
    refine WP.pk tm [] [] [(14, vi v14), (13, vi (ln x0)), (12, vl x0), (3, vo 2011 (List.length o11)), (2, V.t (T.nils))] [(2011, oc 24 (List.map (fun l => T.list (List.length l) 1 (List.map (ti) l)) o11))] trivial ?_
    obtain ⟨J2, hJ2, h⟩ := jn_some h
    refine WP.joinA (fun (zz : (List (List Int))) => ⟨[2018], [(3, vo 2018 (List.length zz)), (14, vi v14), (13, vi (ln x0)), (12, vl x0), (2, V.t (T.nils))], [(2018, oc 24 (List.map (fun l => T.list (List.length l) 1 (List.map (ti) l)) zz))]⟩) (fun zz => J2 zz = some y0) ?_ ?_
    ·refine WP.block ?_
     refine WP.seq ?_
     obtain ⟨c0, h⟩ := chk_some h
     refine WP.pk tm [(17, An.v (ti (gt x0 v14 0)))] [(ib v14 x0), ((List.drop ((Int.toNat v14) * 1) (List.map (ti) x0) : List T)[0]? = some (ti (gt x0 v14 0))), (rf (ti (gt x0 v14 0)))] [(5, vi (gt x0 v14 0)), (14, vi v14), (13, vi (ln x0)), (12, vl x0), (3, vo 2011 (List.length o11)), (2, V.t (T.nils))] [(2011, oc 24 (List.map (fun l => T.list (List.length l) 1 (List.map (ti) l)) o11))] ⟨c0, at1 (by simp) (by omega), rfl, trivial⟩ ?_
     refine WP.sn tm [(18, An.id 2018)] [(True), (0 = 0 * 1)] [2018, 2011] [(6, vo 2018 0), (5, vi (gt x0 v14 0)), (14, vi v14), (13, vi (ln x0)), (12, vl x0), (3, vo 2011 (List.length o11)), (2, V.t (T.nils))] [(2011, oc 24 (List.map (fun l => T.list (List.length l) 1 (List.map (ti) l)) o11)), (2018, oc 24 [])] ⟨trivial, by decide, trivial⟩ ?_
     obtain ⟨J3, hJ3, h⟩ := jn_some h
     refine WP.joinA (fun (zz : (List (List Int))) => ⟨[2011, 2018], [(6, vo 2018 (List.length zz)), (14, vi v14), (13, vi (ln x0)), (12, vl x0), (3, vo 2011 (List.length o11)), (2, V.t (T.nils))], [(2011, oc 24 (List.map (fun l => T.list (List.length l) 1 (List.map (ti) l)) o11)), (2018, oc 24 (List.map (fun l => T.list (List.length l) 1 (List.map (ti) l)) zz))]⟩) (fun zz => J3 zz = some y0) ?_ ?_
     ·refine WP.sn tm [] [] [2018, 2011] [(21, vi 0), (20, vi (ln o11)), (19, vo 2011 (List.length o11)), (6, vo 2018 0), (5, vi (gt x0 v14 0)), (14, vi v14), (13, vi (ln x0)), (12, vl x0), (3, vo 2011 (List.length o11)), (2, V.t (T.nils))] [(2011, oc 24 (List.map (fun l => T.list (List.length l) 1 (List.map (ti) l)) o11)), (2018, oc 24 [])] trivial ?_
      refine WP.block ?_
      refine WP.lp (α := Nat × (List (List Int)) × Int) (fun zz => ⟨[2011, 2018], [(21, vi zz.2.2), (20, vi (ln o11)), (19, vo 2011 (List.length o11)), (6, vo 2018 (List.length zz.2.1)), (5, vi (gt x0 v14 0)), (14, vi v14), (13, vi (ln x0)), (12, vl x0), (3, vo 2011 (List.length o11)), (2, V.t (T.nils))], [(2011, oc 24 (List.map (fun l => T.list (List.length l) 1 (List.map (ti) l)) o11)), (2018, oc 24 (List.map (fun l => T.list (List.length l) 1 (List.map (ti) l)) zz.2.1))]⟩) (fun zz => F_i_splits_L2 x0 o11 v14 J3 zz.1 zz.2.1 zz.2.2 = some y0) (fun zz => zz.1) (fuel, ([] : List (List Int)), (0 : Int)) h ?_
      rintro ⟨n, o18, v21⟩ h0
      have h := (show F_i_splits_L2 x0 o11 v14 J3 n o18 v21 = some y0 from h0)
      rcases n with _ | n
      ·rw [F_i_splits_L2] at h; cases h
      ·rw [F_i_splits_L2] at h
       refine WP.sk tm [] [(True)] [(22, vb (decide (v21 < (ln o11)))), (21, vi v21), (20, vi (ln o11)), (19, vo 2011 (List.length o11)), (6, vo 2018 (List.length o18)), (5, vi (gt x0 v14 0)), (14, vi v14), (13, vi (ln x0)), (12, vl x0), (3, vo 2011 (List.length o11)), (2, V.t (T.nils))] [(2011, oc 24 (List.map (fun l => T.list (List.length l) 1 (List.map (ti) l)) o11)), (2018, oc 24 (List.map (fun l => T.list (List.length l) 1 (List.map (ti) l)) o18))] ⟨trivial, trivial⟩ ?_
       refine WP.seq ?_
       rcases ite_some h with ⟨h2, h⟩ | ⟨h2, h⟩
       ·refine WP.yes h2 rfl ?_
        refine WP.pk tm [] [] [(21, vi v21), (20, vi (ln o11)), (19, vo 2011 (List.length o11)), (6, vo 2018 (List.length o18)), (5, vi (gt x0 v14 0)), (14, vi v14), (13, vi (ln x0)), (12, vl x0), (3, vo 2011 (List.length o11)), (2, V.t (T.nils))] [(2011, oc 24 (List.map (fun l => T.list (List.length l) 1 (List.map (ti) l)) o11)), (2018, oc 24 (List.map (fun l => T.list (List.length l) 1 (List.map (ti) l)) o18))] trivial ?_
        obtain ⟨J4, hJ4, h⟩ := jn_some h
        refine WP.joinA (fun (zz : (List (List Int))) => ⟨[2011, 2018], [(21, vi v21), (20, vi (ln o11)), (19, vo 2011 (List.length o11)), (6, vo 2018 (List.length zz)), (5, vi (gt x0 v14 0)), (14, vi v14), (13, vi (ln x0)), (12, vl x0), (3, vo 2011 (List.length o11)), (2, V.t (T.nils))], [(2011, oc 24 (List.map (fun l => T.list (List.length l) 1 (List.map (ti) l)) o11)), (2018, oc 24 (List.map (fun l => T.list (List.length l) 1 (List.map (ti) l)) zz))]⟩) (fun zz => J4 zz = some y0) ?_ ?_
        ·refine WP.block ?_
         refine WP.seq ?_
         obtain ⟨c1, h⟩ := chk_some h
         refine WP.pk tm [(24, An.v (tl (gt o11 v21 [])))] [(ib v21 o11), ((List.map (fun l => T.list (List.length l) 1 (List.map (ti) l)) o11 : List T)[(Int.toNat v21) * 1]? = some (tl (gt o11 v21 []))), (rf (tl (gt o11 v21 [])))] [(8, vl (gt o11 v21 [])), (21, vi v21), (20, vi (ln o11)), (19, vo 2011 (List.length o11)), (6, vo 2018 (List.length o18)), (5, vi (gt x0 v14 0)), (14, vi v14), (13, vi (ln x0)), (12, vl x0), (3, vo 2011 (List.length o11)), (2, V.t (T.nils))] [(2011, oc 24 (List.map (fun l => T.list (List.length l) 1 (List.map (ti) l)) o11)), (2018, oc 24 (List.map (fun l => T.list (List.length l) 1 (List.map (ti) l)) o18))] ⟨c1, atM (by simp) (by first | omega | (simp only [tlL]; omega) | (simp; omega)), rfl, trivial⟩ ?_
         refine WP.seq ?_
         obtain ⟨c2, h⟩ := chk_some h
         obtain ⟨n26, c3, h⟩ := nam_some h
         refine WP.pk tm [(26, An.v (ti n26))] [(True), (ti (IntKind.wrap .i64 ((gt x0 v14 0) + 1)) = ti n26)] [(27, vi 0), (26, vi n26), (8, vl (gt o11 v21 [])), (21, vi v21), (20, vi (ln o11)), (19, vo 2011 (List.length o11)), (6, vo 2018 (List.length o18)), (5, vi (gt x0 v14 0)), (14, vi v14), (13, vi (ln x0)), (12, vl x0), (3, vo 2011 (List.length o11)), (2, V.t (T.nils))] [(2011, oc 24 (List.map (fun l => T.list (List.length l) 1 (List.map (ti) l)) o11)), (2018, oc 24 (List.map (fun l => T.list (List.length l) 1 (List.map (ti) l)) o18))] ⟨trivial, Eq.trans (wrapI c2) (congrArg (ti) c3), trivial⟩ ?_
         refine WP.block ?_
         refine WP.lp (α := Nat × (List (List Int)) × Int) (fun zz => ⟨[2011, 2018], [(27, vi zz.2.2), (26, vi n26), (8, vl (gt o11 v21 [])), (21, vi v21), (20, vi (ln o11)), (19, vo 2011 (List.length o11)), (6, vo 2018 (List.length zz.2.1)), (5, vi (gt x0 v14 0)), (14, vi v14), (13, vi (ln x0)), (12, vl x0), (3, vo 2011 (List.length o11)), (2, V.t (T.nils))], [(2011, oc 24 (List.map (fun l => T.list (List.length l) 1 (List.map (ti) l)) o11)), (2018, oc 24 (List.map (fun l => T.list (List.length l) 1 (List.map (ti) l)) zz.2.1))]⟩) (fun zz => F_i_splits_L3 o11 v21 J4 n26 zz.1 zz.2.1 zz.2.2 = some y0) (fun zz => zz.1) (fuel, o18, (0 : Int)) h ?_
         rintro ⟨n, o18b, v27⟩ h0
         have h := (show F_i_splits_L3 o11 v21 J4 n26 n o18b v27 = some y0 from h0)
         rcases n with _ | n
         ·rw [F_i_splits_L3] at h; cases h
         ·rw [F_i_splits_L3] at h
          refine WP.sk tm [] [(True)] [(28, vb (decide (v27 < n26))), (27, vi v27), (26, vi n26), (8, vl (gt o11 v21 [])), (21, vi v21), (20, vi (ln o11)), (19, vo 2011 (List.length o11)), (6, vo 2018 (List.length o18b)), (5, vi (gt x0 v14 0)), (14, vi v14), (13, vi (ln x0)), (12, vl x0), (3, vo 2011 (List.length o11)), (2, V.t (T.nils))] [(2011, oc 24 (List.map (fun l => T.list (List.length l) 1 (List.map (ti) l)) o11)), (2018, oc 24 (List.map (fun l => T.list (List.length l) 1 (List.map (ti) l)) o18b))] ⟨trivial, trivial⟩ ?_
          refine WP.seq ?_
          rcases ite_some h with ⟨h3, h⟩ | ⟨h3, h⟩
          ·refine WP.yes h3 rfl ?_
           refine WP.pk tm [] [] [(27, vi v27), (26, vi n26), (8, vl (gt o11 v21 [])), (21, vi v21), (20, vi (ln o11)), (19, vo 2011 (List.length o11)), (6, vo 2018 (List.length o18b)), (5, vi (gt x0 v14 0)), (14, vi v14), (13, vi (ln x0)), (12, vl x0), (3, vo 2011 (List.length o11)), (2, V.t (T.nils))] [(2011, oc 24 (List.map (fun l => T.list (List.length l) 1 (List.map (ti) l)) o11)), (2018, oc 24 (List.map (fun l => T.list (List.length l) 1 (List.map (ti) l)) o18b))] trivial ?_
           refine WP.seq ?_
           refine WP.block ?_
           obtain ⟨c4, c5, h⟩ := chk2 h
           obtain ⟨c6, h⟩ := chk_some h
           refine WP.pn tm [(32, An.callG [(9000, 10320)] [vl (gt o11 v21 [])] [] (vo 9000 (List.length (gt o11 v21 []))) [(9000, oc 3 (List.map (ti) (gt o11 v21 [])))]), (34, An.fz), (35, An.fz), (36, An.fz), (37, An.id 2037)] [(CG Tryz.prog 111 [vl (gt o11 v21 [])] [] (vo 9000 (List.length (gt o11 v21 []))) [(9000, oc 3 (List.map (ti) (gt o11 v21 [])))]), (WkT (tl (gt o11 v21 [])) (tl (gt o11 v21 []))), ((1 = 1 ∧ 0 + 1 ≤ 1) ∧ True), (1 = 1 * 1), (True), (List.length (List.map (ti) (gt o11 v21 [])) = (List.length (gt o11 v21 [])) * 1), ((((List.length (gt o11 v21 [])) + 1) * 8 ≤ 140737488355328 ∧ (List.length (gt o11 v21 [])) + 1 ≤ maxLen)), ((1 = 1 ∧ 0 + 1 ≤ 1) ∧ True), (1 = 1 * 1), (True), (List.length (List.map (fun l => T.list (List.length l) 1 (List.map (ti) l)) o18b) = (List.length o18b) * 1), ((((List.length o18b) + 1) * 24 ≤ 140737488355328 ∧ (List.length o18b) + 1 ≤ maxLen))] [2037, 10320, 2011, 2018] [(6, vo 2037 ((List.length o18b) + 1)), (27, vi v27), (26, vi n26), (8, vl (gt o11 v21 [])), (21, vi v21), (20, vi (ln o11)), (19, vo 2011 (List.length o11)), (5, vi (gt x0 v14 0)), (14, vi v14), (13, vi (ln x0)), (12, vl x0), (3, vo 2011 (List.length o11)), (2, V.t (T.nils))] [(2011, oc 24 (List.map (fun l => T.list (List.length l) 1 (List.map (ti) l)) o11)), (2037, oc 24 ((List.map (fun l => T.list (List.length l) 1 (List.map (ti) l)) o18b) ++ [T.list ((List.length (gt o11 v21 [])) + 1) 1 ((List.map (ti) (gt o11 v21 [])) ++ [ti v27])]))] ⟨(clone_C_G (gt o11 v21 []) c4), WkT.refl _, ⟨⟨by first | rfl | (simp; done) | (simp []; done) | omega, by first | decide | (simp; done) | (simp []; done) | omega | (simp only [tlL]; omega) | (simp; omega)⟩, trivial⟩, by decide, trivial, by first | rfl | omega | (simp only [tlL] <;> omega) | (simp <;> omega) | (simp [] <;> omega), c5, ⟨⟨by first | rfl | (simp; done) | (simp []; done) | omega, by first | decide | (simp; done) | (simp []; done) | omega | (simp only [tlL]; omega) | (simp; omega)⟩, trivial⟩, by decide, trivial, by first | rfl | omega | (simp only [tlL] <;> omega) | (simp <;> omega) | (simp [] <;> omega), c6, trivial⟩ ?_
           obtain ⟨c7, h⟩ := chk_some h
           refine WP.nk tm [(38, An.v (ti (v27 + 1)))] [(2011, 2011), (2037, 2018)] .normal [(True), (wr (v27 + 1))] [(27, vi (v27 + 1)), (26, vi n26), (8, vl (gt o11 v21 [])), (21, vi v21), (20, vi (ln o11)), (19, vo 2011 (List.length o11)), (6, vo 2018 ((List.length o18b) + 1)), (5, vi (gt x0 v14 0)), (14, vi v14), (13, vi (ln x0)), (12, vl x0), (3, vo 2011 (List.length o11)), (2, V.t (T.nils))] [(2011, oc 24 (List.map (fun l => T.list (List.length l) 1 (List.map (ti) l)) o11)), (2018, oc 24 ((List.map (fun l => T.list (List.length l) 1 (List.map (ti) l)) o18b) ++ [T.list ((List.length (gt o11 v21 [])) + 1) 1 ((List.map (ti) (gt o11 v21 [])) ++ [ti v27])]))] ⟨trivial, wrapI c7, trivial⟩ ?_
           exact ⟨(n, o18b ++ [(gt o11 v21 []) ++ [v27]], (v27 + 1)), h, Nat.lt_succ_self _, (by first | rfl | (simp only [tlS, tl, vl, vo, oc, ov, tbl, vbl, ty, vy] <;> rfl) | (simp <;> omega) | (simp []; done) | (rw [List.take_of_length_le (by simp [])] <;> rfl) | (simp [List.take_of_length_le]; done))⟩
          ·refine WP.no h3 rfl ?_
           refine WP.eq tm [] 4 [] [(21, vi v21), (20, vi (ln o11)), (19, vo 2011 (List.length o11)), (6, vo 2018 (List.length o18b)), (5, vi (gt x0 v14 0)), (14, vi v14), (13, vi (ln x0)), (12, vl x0), (3, vo 2011 (List.length o11)), (2, V.t (T.nils))] [(2011, oc 24 (List.map (fun l => T.list (List.length l) 1 (List.map (ti) l)) o11)), (2018, oc 24 (List.map (fun l => T.list (List.length l) 1 (List.map (ti) l)) o18b))] trivial ?_
           exact ⟨(o18b), h, rfl⟩
        ·intro o18b h0
         have h := (show J4 o18b = some y0 from h0)
         rw [hJ4] at h
         obtain ⟨c1, h⟩ := chk_some h
         refine WP.qk tm [(39, An.v (ti (v21 + 1)))] [(True), (wr (v21 + 1))] [(21, vi (v21 + 1)), (20, vi (ln o11)), (19, vo 2011 (List.length o11)), (6, vo 2018 (List.length o18b)), (5, vi (gt x0 v14 0)), (14, vi v14), (13, vi (ln x0)), (12, vl x0), (3, vo 2011 (List.length o11)), (2, V.t (T.nils))] [(2011, oc 24 (List.map (fun l => T.list (List.length l) 1 (List.map (ti) l)) o11)), (2018, oc 24 (List.map (fun l => T.list (List.length l) 1 (List.map (ti) l)) o18b))] ⟨trivial, wrapI c1, trivial⟩ ?_
         exact ⟨(n, o18b, (v21 + 1)), h, Nat.lt_succ_self _, rfl⟩
       ·refine WP.no h2 rfl ?_
        refine WP.eq tm [] 2 [] [(6, vo 2018 (List.length o18)), (14, vi v14), (13, vi (ln x0)), (12, vl x0), (3, vo 2011 (List.length o11)), (2, V.t (T.nils))] [(2011, oc 24 (List.map (fun l => T.list (List.length l) 1 (List.map (ti) l)) o11)), (2018, oc 24 (List.map (fun l => T.list (List.length l) 1 (List.map (ti) l)) o18))] trivial ?_
        exact ⟨(o18), h, rfl⟩
     ·intro o18 h0
      have h := (show J3 o18 = some y0 from h0)
      rw [hJ3] at h
      refine WP.qk tm [] [] [(3, vo 2018 (List.length o18)), (14, vi v14), (13, vi (ln x0)), (12, vl x0), (2, V.t (T.nils))] [(2018, oc 24 (List.map (fun l => T.list (List.length l) 1 (List.map (ti) l)) o18))] trivial ?_
      exact ⟨(o18), h, rfl⟩
    ·intro o18 h0
     have h := (show J2 o18 = some y0 from h0)
     rw [hJ2] at h
     obtain ⟨c0, h⟩ := chk_some h
     refine WP.nk tm [(41, An.v (ti (v14 + 1)))] [(2018, 2011)] .normal [(True), (wr (v14 + 1))] [(14, vi (v14 + 1)), (13, vi (ln x0)), (12, vl x0), (3, vo 2011 (List.length o18)), (2, V.t (T.nils))] [(2011, oc 24 (List.map (fun l => T.list (List.length l) 1 (List.map (ti) l)) o18))] ⟨trivial, wrapI c0, trivial⟩ ?_
     exact ⟨(n, o18, (v14 + 1)), h, Nat.lt_succ_self _, rfl⟩
   ·refine WP.no h1 rfl ?_
    refine WP.eq tm [] 0 [] [(3, vo 2011 (List.length o11)), (2, V.t (T.nils))] [(2011, oc 24 (List.map (fun l => T.list (List.length l) 1 (List.map (ti) l)) o11))] trivial ?_
    exact ⟨(o11), h, rfl⟩
 ·intro o11 h0
  have h := (show J1 o11 = some y0 from h0)
  rw [hJ1] at h
  have h := Option.some.inj h
  subst h
  exact WP.pathG tab_ok mixed [] [.keep [2], .keepO [2011], .names [(2011, 9000)]] [9000] _ (r' := vo 9000 (List.length o11)) (ps := []) (r := vo 9000 (List.length o11)) (N := [9000]) (O := [(9000, oc 24 (List.map (fun l => T.list (List.length l) 1 (List.map (ti) l)) o11))]) [] (by kernel_rfl) trivial ⟨rfl, trivial⟩ rfl rfl (fun _ h => h)
theorem F_i_splits_W_C (x0 : List Int) (y0 : List (List Int)) (h : F_i_splits x0 = some y0) : C Tryz.prog 141 [tl x0] (T.list (List.length y0) 1 (List.map (fun l => T.list (List.length l) 1 (List.map (ti) l)) y0)) :=
 CG.toC (ps := [(List.length (List.map (fun l => T.list (List.length l) 1 (List.map (ti) l)) y0) = (List.length y0) * 1)]) (F_i_splits_W  x0 y0 h) (by rfl) ⟨by first | rfl | omega | (simp <;> omega) | (simp [hl] <;> omega), trivial⟩
theorem F_i_needs_1_W (x0 : List Int) (gf0 : FuncId) (pref0 capsf0 : List T) (pf0 : (List Int) → (List Int) → Option ((List Int) × (List Int))) (hpf0 : ∀ (af0_0 : List Int) (af0_1 : List Int) (bf0_2 : List Int) (bf0_3 : List Int), pf0 af0_0 af0_1 = some (bf0_2, bf0_3) → C Tryz.prog gf0 (pref0 ++ ([tl af0_0, tl af0_1] ++ capsf0)) (T.tup [tl bf0_2, tl bf0_3])) (x1 : Int) (x2 : Int) (x3 : Int) (x4 : List (K3 × Int)) (y0 : Bool) (h : F_i_needs_1 x0 pf0 x1 x2 x3 x4 = some y0) : C Tryz.prog 142 [tl x0, T.ptr [T.fn gf0 pref0 capsf0], T.ptr [ti x1, ti x2, ti x3], T.ptr [mapT (mpT x4)]] (tb y0) := by
 unfold F_i_needs_1 at h
 refine C.intro (tab := tab) tab_ok (fn := Tryz.f142) Tryz.func142 (by kernel_rfl) rfl (Nat.le_of_ble_eq_true rfl) ?_
 obtain ⟨r16, r16b, c0, h⟩ := bnd2_some h
 obtain ⟨c1, h⟩ := chk_some h
 obtain ⟨g23, c2, h⟩ := nam_some h
 obtain ⟨c3, h⟩ := chk_some h
 obtain ⟨g30, c4, h⟩ := nam_some h
 rcases ite_some h with ⟨h1, h⟩ | ⟨h1, h⟩
 ·have h := Option.some.inj h
  subst h
  exact WP.pathW tab_ok mixed [(16, An.callW [tl [x1, x2, x3], tl x0] (T.tup [tl r16, tl r16b])), (22, An.call (T.agg [ti (tri r16 0), ti (tri r16 1), ti (tri r16 2)])), (23, An.v (T.tup [ti (Option.getD g23 (0 : Int)), tb (Option.isSome g23)])), (25, An.b true), (29, An.call (T.agg [ti (tri r16b 0), ti (tri r16b 1), ti (tri r16b 2)])), (30, An.v (T.tup [ti (Option.getD g30 (0 : Int)), tb (Option.isSome g30)]))] _ (ps := [(True), ((0 ≤ (0 : Int) ∧ (0 : Int) ≤ (3 : Int) ∧ (3 : Int) ≤ (3 : Nat) ∧ 3 * 1 ≤ 3 ∧ 3 ≤ maxLen)), (C Tryz.prog gf0 (pref0 ++ ([tl [x1, x2, x3], tl x0] ++ capsf0)) (T.tup [tl r16, tl r16b])), (WkL [T.list 3 1 [ti x1, ti x2, ti x3], tl x0] [tl [x1, x2, x3], tl x0]), (True), (C Tryz.prog 131 [tl r16] (T.agg [ti (tri r16 0), ti (tri r16 1), ti (tri r16 2)])), (∃ G, KeyRun Tryz.prog 118 G ∧ G (T.agg [ti (tri r16 0), ti (tri r16 1), ti (tri r16 2)]) ∧ ∀ x ∈ ent (mpT x4), G x.1), (List.length (List.map (·.1) (mpT x4)) = List.length (List.map (·.2) (mpT x4))), ((lookR true (ti (0 : Int)) (lookT (ent (mpT x4)) (T.agg [ti (tri r16 0), ti (tri r16 1), ti (tri r16 2)]))) = T.tup [ti (Option.getD g23 (0 : Int)), tb (Option.isSome g23)]), ((Option.isSome g23) = true), (True), (C Tryz.prog 131 [tl r16b] (T.agg [ti (tri r16b 0), ti (tri r16b 1), ti (tri r16b 2)])), (∃ G, KeyRun Tryz.prog 118 G ∧ G (T.agg [ti (tri r16b 0), ti (tri r16b 1), ti (tri r16b 2)]) ∧ ∀ x ∈ ent (mpT x4), G x.1), (List.length (List.map (·.1) (mpT x4)) = List.length (List.map (·.2) (mpT x4))), ((lookR true (ti (0 : Int)) (lookT (ent (mpT x4)) (T.agg [ti (tri r16b 0), ti (tri r16b 1), ti (tri r16b 2)]))) = T.tup [ti (Option.getD g30 (0 : Int)), tb (Option.isSome g30)])]) (r := tb (Option.isSome g30)) (by kernel_rfl) ⟨trivial, by decide, (hpf0 [x1, x2, x3] x0 r16 r16b c0), (WkL.cons (WkT.eq (WkT.refl _) (by first | rfl | (simp only [tlS, tl, vl, vo, oc, ov, tbl, vbl, ty, vy] <;> rfl) | (simp <;> omega) | (simp []; done) | (rw [List.take_of_length_le (by simp [])] <;> rfl) | (simp [List.take_of_length_le]; done))) (WkL.cons (WkT.refl _) WkL.nil)), trivial, (tripleOf_C r16 c1), ent_keys (keys_tri Tryz.underlying118 Tryz.underlying3 (by kernel_rfl) (by kernel_rfl) x4 ((tri r16 0), (tri r16 1), (tri r16 2))), ent_len _, ent_look (look_mpT_ok c2), h1, trivial, (tripleOf_C r16b c3), ent_keys (keys_tri Tryz.underlying118 Tryz.underlying3 (by kernel_rfl) (by kernel_rfl) x4 ((tri r16b 0), (tri r16b 1), (tri r16b 2))), ent_len _, ent_look (look_mpT_ok c4), trivial⟩ (WkT.eq (y := tb (Option.isSome g30)) (WkT.refl _) rfl) (fun _ h => h)
 ·have h := Option.some.inj h
  subst h
  exact WP.pathW tab_ok mixed [(16, An.callW [tl [x1, x2, x3], tl x0] (T.tup [tl r16, tl r16b])), (22, An.call (T.agg [ti (tri r16 0), ti (tri r16 1), ti (tri r16 2)])), (23, An.v (T.tup [ti (Option.getD g23 (0 : Int)), tb (Option.isSome g23)])), (25, An.b false), (29, An.call (T.agg [ti (tri r16b 0), ti (tri r16b 1), ti (tri r16b 2)])), (30, An.v (T.tup [ti (Option.getD g30 (0 : Int)), tb (Option.isSome g30)]))] _ (ps := [(True), ((0 ≤ (0 : Int) ∧ (0 : Int) ≤ (3 : Int) ∧ (3 : Int) ≤ (3 : Nat) ∧ 3 * 1 ≤ 3 ∧ 3 ≤ maxLen)), (C Tryz.prog gf0 (pref0 ++ ([tl [x1, x2, x3], tl x0] ++ capsf0)) (T.tup [tl r16, tl r16b])), (WkL [T.list 3 1 [ti x1, ti x2, ti x3], tl x0] [tl [x1, x2, x3], tl x0]), (True), (C Tryz.prog 131 [tl r16] (T.agg [ti (tri r16 0), ti (tri r16 1), ti (tri r16 2)])), (∃ G, KeyRun Tryz.prog 118 G ∧ G (T.agg [ti (tri r16 0), ti (tri r16 1), ti (tri r16 2)]) ∧ ∀ x ∈ ent (mpT x4), G x.1), (List.length (List.map (·.1) (mpT x4)) = List.length (List.map (·.2) (mpT x4))), ((lookR true (ti (0 : Int)) (lookT (ent (mpT x4)) (T.agg [ti (tri r16 0), ti (tri r16 1), ti (tri r16 2)]))) = T.tup [ti (Option.getD g23 (0 : Int)), tb (Option.isSome g23)]), ((Option.isSome g23) = false), (True), (C Tryz.prog 131 [tl r16b] (T.agg [ti (tri r16b 0), ti (tri r16b 1), ti (tri r16b 2)])), (∃ G, KeyRun Tryz.prog 118 G ∧ G (T.agg [ti (tri r16b 0), ti (tri r16b 1), ti (tri r16b 2)]) ∧ ∀ x ∈ ent (mpT x4), G x.1), (List.length (List.map (·.1) (mpT x4)) = List.length (List.map (·.2) (mpT x4))), ((lookR true (ti (0 : Int)) (lookT (ent (mpT x4)) (T.agg [ti (tri r16b 0), ti (tri r16b 1), ti (tri r16b 2)]))) = T.tup [ti (Option.getD g30 (0 : Int)), tb (Option.isSome g30)])]) (r := tb false) (by kernel_rfl) ⟨trivial, by decide, (hpf0 [x1, x2, x3] x0 r16 r16b c0), (WkL.cons (WkT.eq (WkT.refl _) (by first | rfl | (simp only [tlS, tl, vl, vo, oc, ov, tbl, vbl, ty, vy] <;> rfl) | (simp <;> omega) | (simp []; done) | (rw [List.take_of_length_le (by simp [])] <;> rfl) | (simp [List.take_of_length_le]; done))) (WkL.cons (WkT.refl _) WkL.nil)), trivial, (tripleOf_C r16 c1), ent_keys (keys_tri Tryz.underlying118 Tryz.underlying3 (by kernel_rfl) (by kernel_rfl) x4 ((tri r16 0), (tri r16 1), (tri r16 2))), ent_len _, ent_look (look_mpT_ok c2), h1, trivial, (tripleOf_C r16b c3), ent_keys (keys_tri Tryz.underlying118 Tryz.underlying3 (by kernel_rfl) (by kernel_rfl) x4 ((tri r16b 0), (tri r16b 1), (tri r16b 2))), ent_len _, ent_look (look_mpT_ok c4), trivial⟩ (WkT.eq (y := tb false) (WkT.refl _) rfl) (fun _ h => h)
theorem F_sIt_W (x0 : List Nd) (g1 : FuncId) (pre1 caps1 : List T) (p1 : Int → Int → Int → Option (Bool)) (hp1 : ∀ (a1_0 : Int) (a1_1 : Int) (a1_2 : Int) (b1_3 : Bool), p1 a1_0 a1_1 a1_2 = some b1_3 → C Tryz.prog g1 (pre1 ++ ([T.agg [ti a1_0, ti a1_1, ti a1_2]] ++ caps1)) (tb b1_3)) (y0 : Int) (h : F_sIt x0 p1 = some y0) : C Tryz.prog 151 [T.list (List.length x0) 3 (List.flatMap nodeC x0), T.fn g1 pre1 caps1] (ti y0) := by
 unfold F_sIt at h
 refine C.intro (tab := tab) tab_ok (fn := Tryz.f151) Tryz.func151 (by kernel_rfl) rfl (Nat.le_of_ble_eq_true rfl) ?_
 refine WP.sk tm [] [] [(4, vi 0), (0, V.t (T.list (List.length x0) 3 (List.flatMap nodeC x0))), (1, V.t (T.fn g1 pre1 caps1))] [] trivial ?_
 obtain ⟨J1, hJ1, h⟩ := jn_some h
 refine WP.joinA (fun (zz : Unit) => ⟨[], [(4, vi 0)], []⟩) (fun zz => J1 () = some y0) ?_ ?_
 ·refine WP.sk tm [] [] [(8, vi 0), (7, vi (ln x0)), (4, vi 0), (0, V.t (T.list (List.length x0) 3 (List.flatMap nodeC x0))), (1, V.t (T.fn g1 pre1 caps1))] [] trivial ?_
  refine WP.block ?_
  refine WP.lp (α := Nat × Int) (fun zz => ⟨[], [(8, vi zz.2), (7, vi (ln x0)), (4, vi 0), (0, V.t (T.list (List.length x0) 3 (List.flatMap nodeC x0))), (1, V.t (T.fn g1 pre1 caps1))], []⟩) (fun zz => F_sIt_L1 x0 p1 J1 zz.1 zz.2 = some y0) (fun zz => zz.1) (fuel, (0 : Int)) h ?_
  rintro ⟨n, v8⟩ h0
  have h := (show F_sIt_L1 x0 p1 J1 n v8 = some y0 from h0)
  rcases n with _ | n
  ·rw [F_sIt_L1] at h; cases h
  ·rw [F_sIt_L1] at h
   refine WP.sk tm [] [(True)] [(9, vb (decide (v8 < (ln x0)))), (8, vi v8), (7, vi (ln x0)), (4, vi 0), (0, V.t (T.list (List.length x0) 3 (List.flatMap nodeC x0))), (1, V.t (T.fn g1 pre1 caps1))] [] ⟨trivial, trivial⟩ ?_
   refine WP.seq ?_
   rcases ite_some h with ⟨h1, h⟩ | ⟨h1, h⟩
   ·refine WP.yes h1 rfl ?_
    refine WP.pk tm [] [] [(8, vi v8), (7, vi (ln x0)), (4, vi 0), (0, V.t (T.list (List.length x0) 3 (List.flatMap nodeC x0))), (1, V.t (T.fn g1 pre1 caps1))] [] trivial ?_
    refine WP.seq ?_
    refine WP.block ?_
    refine WP.sk tm [] [] [(5, vi v8), (8, vi v8), (7, vi (ln x0)), (4, vi 0), (0, V.t (T.list (List.length x0) 3 (List.flatMap nodeC x0))), (1, V.t (T.fn g1 pre1 caps1))] [] trivial ?_
    refine WP.seq ?_
    obtain ⟨c0, h⟩ := chk_some h
    obtain ⟨r16, c1, h⟩ := bnd1_some h
    refine WP.pk tm [(15, An.v (T.agg [ti ((gt x0 v8 (0, 0, 0)).1), ti ((gt x0 v8 (0, 0, 0)).2.1), ti ((gt x0 v8 (0, 0, 0)).2.2)])), (16, An.call (tb r16))] [(ib v8 x0), (3 ≤ List.length (List.drop ((Int.toNat v8) * 3) (List.flatMap nodeC x0))), (T.agg (List.take 3 (List.drop ((Int.toNat v8) * 3) (List.flatMap nodeC x0))) = T.agg [ti ((gt x0 v8 (0, 0, 0)).1), ti ((gt x0 v8 (0, 0, 0)).2.1), ti ((gt x0 v8 (0, 0, 0)).2.2)]), (C Tryz.prog g1 (pre1 ++ ([T.agg [ti ((gt x0 v8 (0, 0, 0)).1), ti ((gt x0 v8 (0, 0, 0)).2.1), ti ((gt x0 v8 (0, 0, 0)).2.2)]] ++ caps1)) (tb r16))] [(16, vb r16), (5, vi v8), (8, vi v8), (7, vi (ln x0)), (4, vi 0), (0, V.t (T.list (List.length x0) 3 (List.flatMap nodeC x0))), (1, V.t (T.fn g1 pre1 caps1))] [] ⟨c0, fit_node (i := Int.toNat v8) (by simp) (by omega), at_node (by simp) (by omega), (hp1 ((gt x0 v8 (0, 0, 0)).1) ((gt x0 v8 (0, 0, 0)).2.1) ((gt x0 v8 (0, 0, 0)).2.2) r16 c1), trivial⟩ ?_
    rcases ite_some h with ⟨h2, h⟩ | ⟨h2, h⟩
    ·refine WP.yes h2 rfl ?_
     have h := Option.some.inj h
     subst h
     exact WP.pathW tab_ok mixed [] _ (ps := []) (r := ti v8) (by kernel_rfl) trivial (WkT.eq (y := ti v8) (WkT.refl _) rfl) (fun _ h => h)
    ·refine WP.no h2 rfl ?_
     refine WP.pk tm [] [] [(8, vi v8), (7, vi (ln x0)), (4, vi 0), (0, V.t (T.list (List.length x0) 3 (List.flatMap nodeC x0))), (1, V.t (T.fn g1 pre1 caps1))] [] trivial ?_
     obtain ⟨c2, h⟩ := chk_some h
     refine WP.qk tm [(18, An.v (ti (v8 + 1)))] [(True), (wr (v8 + 1))] [(8, vi (v8 + 1)), (7, vi (ln x0)), (4, vi 0), (0, V.t (T.list (List.length x0) 3 (List.flatMap nodeC x0))), (1, V.t (T.fn g1 pre1 caps1))] [] ⟨trivial, wrapI c2, trivial⟩ ?_
     exact ⟨(n, (v8 + 1)), h, Nat.lt_succ_self _, rfl⟩
   ·refine WP.no h1 rfl ?_
    refine WP.eq tm [] 0 [] [(4, vi 0)] [] trivial ?_
    exact ⟨(), h, rfl⟩
 ·intro _ h0
  have h := (show J1 () = some y0 from h0)
  rw [hJ1] at h
  have h := Option.some.inj h
  subst h
  exact WP.pathW tab_ok mixed [] _ (ps := []) (r := ti (-1)) (by kernel_rfl) trivial (WkT.eq (y := ti (-1)) (WkT.refl _) (by first | rfl | (simp only [tlS, tl, vl, vo, oc, ov, tbl, vbl, ty, vy] <;> rfl) | (simp <;> omega) | (simp []; done) | (rw [List.take_of_length_le (by simp [])] <;> rfl) | (simp [List.take_of_length_le]; done))) (fun _ h => h)
theorem F_sDt_W (x0 : List Nd) (g1 : FuncId) (pre1 caps1 : List T) (p1 : Int → Int → Int → Option (Bool)) (hp1 : ∀ (a1_0 : Int) (a1_1 : Int) (a1_2 : Int) (b1_3 : Bool), p1 a1_0 a1_1 a1_2 = some b1_3 → C Tryz.prog g1 (pre1 ++ ([T.agg [ti a1_0, ti a1_1, ti a1_2]] ++ caps1)) (tb b1_3)) (y0 : List Nd) (h : F_sDt x0 p1 = some y0) : CG Tryz.prog 143 [V.own 500 3 (List.length x0), V.t (T.fn g1 pre1 caps1)] [(500, oc 118 (List.flatMap nodeC x0))] (V.own 500 3 (List.length y0)) [(500, oc 118 (List.flatMap nodeC y0))] := by
 unfold F_sDt at h
 refine CG.intro (tab := tab) tab_ok (fn := Tryz.f143) Tryz.func143 (by kernel_rfl) rfl (Nat.le_of_ble_eq_true rfl) (by kernel_rfl) ?_
 refine WP.sk tm [] [] [(4, V.t (T.nils)), (0, V.own 500 3 (List.length x0)), (1, V.t (T.fn g1 pre1 caps1))] [(500, oc 118 (List.flatMap nodeC x0))] trivial ?_
 refine WP.seq ?_
 obtain ⟨r10, c0, h⟩ := bnd1_some h
 refine WP.pk tm [(10, An.call (ti r10))] [(C Tryz.prog 151 [T.list (List.length x0) 3 (List.flatMap nodeC x0), T.fn g1 pre1 caps1] (ti r10)), (List.length (List.flatMap nodeC x0) = (List.length x0) * 3)] [(5, vi r10), (4, V.t (T.nils)), (0, V.own 500 3 (List.length x0)), (1, V.t (T.fn g1 pre1 caps1))] [(500, oc 118 (List.flatMap nodeC x0))] ⟨(F_sIt_W x0 g1 pre1 caps1 p1 hp1 r10 c0), by first | exact len_node _ | (rw [len_node]; first | done | omega | (simp; done) | (simp only [tlL]; omega) | (simp; omega)), trivial⟩ ?_
 refine WP.seq ?_
 refine WP.sk tm [] [(True)] [(12, vb (r10 == (-1 : Int))), (5, vi r10), (4, V.t (T.nils)), (0, V.own 500 3 (List.length x0)), (1, V.t (T.fn g1 pre1 caps1))] [(500, oc 118 (List.flatMap nodeC x0))] ⟨trivial, trivial⟩ ?_
 rcases ite_some h with ⟨h1, h⟩ | ⟨h1, h⟩
 ·refine WP.yes h1 rfl ?_
  have h := Option.some.inj h
  subst h
  exact WP.pathG tab_ok mixed [] [.keep [4], .keepO [500], .names [(500, 500)]] [500] _ (r' := V.own 500 3 (List.length x0)) (ps := []) (r := V.own 500 3 (List.length x0)) (N := [500]) (O := [(500, oc 118 (List.flatMap nodeC x0))]) [] (by kernel_rfl) trivial ⟨rfl, trivial⟩ rfl rfl (fun _ h => h)
 ·refine WP.no h1 rfl ?_
  refine WP.pk tm [] [] [(5, vi r10), (4, V.t (T.nils)), (0, V.own 500 3 (List.length x0)), (1, V.t (T.fn g1 pre1 caps1))] [(500, oc 118 (List.flatMap nodeC x0))] trivial ?_
  obtain ⟨J1, hJ1, h⟩ := jn_some h
  refine WP.joinA (fun (zz : (List Nd) × Int) => ⟨[500], [(5, vi zz.2), (4, V.t (T.nils)), (0, V.own 500 3 (List.length zz.1))], [(500, oc 118 (List.flatMap nodeC zz.1))]⟩) (fun zz => J1 zz.1 zz.2 = some y0) ?_ ?_
  ·refine WP.seq ?_
   obtain ⟨c1, h⟩ := chk_some h
   refine WP.pk tm [(15, An.v (ti (r10 + 1)))] [(True), (wr (r10 + 1))] [(6, vi (r10 + 1)), (5, vi r10), (4, V.t (T.nils)), (0, V.own 500 3 (List.length x0)), (1, V.t (T.fn g1 pre1 caps1))] [(500, oc 118 (List.flatMap nodeC x0))] ⟨trivial, wrapI c1, trivial⟩ ?_
   refine WP.block ?_
   refine WP.wk [.keep [6, 5, 4, 0, 1], .keepO [500], .names [(500, 500)]] (σ' := ⟨[500], [(6, vi (r10 + 1)), (5, vi r10), (4, V.t (T.nils)), (0, V.own 500 3 (List.length x0)), (1, V.t (T.fn g1 pre1 caps1))], [(500, oc 118 (List.flatMap nodeC x0))]⟩) (ps := []) (by kernel_rfl) trivial ?_
   refine WP.loop (α := Nat × (List Nd) × Int × Int) (fun zz => ⟨[500], [(6, vi zz.2.2.1), (5, vi zz.2.2.2), (4, V.t (T.nils)), (0, V.own 500 3 (List.length zz.2.1)), (1, V.t (T.fn g1 pre1 caps1))], [(500, oc 118 (List.flatMap nodeC zz.2.1))]⟩) (fun zz => F_sDt_L1 p1 J1 zz.1 zz.2.1 zz.2.2.1 zz.2.2.2 = some y0) (fun zz => zz.1) (fuel, x0, (r10 + 1), r10) h ?_
   rintro ⟨n, o500, v6, v5⟩ h0
   have h := (show F_sDt_L1 p1 J1 n o500 v6 v5 = some y0 from h0)
   rcases n with _ | n
   ·rw [F_sDt_L1] at h; cases h
   ·rw [F_sDt_L1] at h
    refine WP.seq ?_
    refine WP.sk tm [] [(True)] [(19, vb (decide (v6 < (ln o500)))), (6, vi v6), (5, vi v5), (4, V.t (T.nils)), (0, V.own 500 3 (List.length o500)), (1, V.t (T.fn g1 pre1 caps1))] [(500, oc 118 (List.flatMap nodeC o500))] ⟨trivial, trivial⟩ ?_
    rcases ite_some h with ⟨h2, h⟩ | ⟨h2, h⟩
    ·refine WP.yes h2 rfl ?_
     refine WP.pk tm [] [] [(6, vi v6), (5, vi v5), (4, V.t (T.nils)), (0, V.own 500 3 (List.length o500)), (1, V.t (T.fn g1 pre1 caps1))] [(500, oc 118 (List.flatMap nodeC o500))] trivial ?_
     refine WP.seq ?_
     refine WP.block ?_
     refine WP.seq ?_
     obtain ⟨c2, h⟩ := chk_some h
     refine WP.pn tm [(25, An.v (T.agg [ti ((gt o500 v6 (0, 0, 0)).1), ti ((gt o500 v6 (0, 0, 0)).2.1), ti ((gt o500 v6 (0, 0, 0)).2.2)])), (7, An.id 2007)] [(ib v6 o500), ((Int.toNat v6) * 3 + 3 ≤ List.length (List.flatMap nodeC o500)), (T.agg (List.take 3 (List.drop ((Int.toNat v6) * 3) (List.flatMap nodeC o500))) = T.agg [ti ((gt o500 v6 (0, 0, 0)).1), ti ((gt o500 v6 (0, 0, 0)).2.1), ti ((gt o500 v6 (0, 0, 0)).2.2)]), ((0 + 3 ≤ 3 ∧ 3 = 3))] [2007, 500] [(7, V.ref 2007 0), (6, vi v6), (5, vi v5), (4, V.t (T.nils)), (0, V.own 500 3 (List.length o500)), (1, V.t (T.fn g1 pre1 caps1))] [(500, oc 118 (List.flatMap nodeC o500)), (2007, oc 118 [ti ((gt o500 v6 (0, 0, 0)).1), ti ((gt o500 v6 (0, 0, 0)).2.1), ti ((gt o500 v6 (0, 0, 0)).2.2)])] ⟨c2, by rw [len_node]; omega, at_node (by simp) (by omega), by decide, trivial⟩ ?_
     refine WP.seq ?_
     obtain ⟨r28, c3, h⟩ := bnd1_some h
     refine WP.pn tm [(28, An.call (tb r28))] [(0 + 3 ≤ 3), (C Tryz.prog g1 (pre1 ++ ([T.agg [ti ((gt o500 v6 (0, 0, 0)).1), ti ((gt o500 v6 (0, 0, 0)).2.1), ti ((gt o500 v6 (0, 0, 0)).2.2)]] ++ caps1)) (tb r28))] [2007, 500] [(29, vb (!r28)), (7, V.ref 2007 0), (6, vi v6), (5, vi v5), (4, V.t (T.nils)), (0, V.own 500 3 (List.length o500)), (1, V.t (T.fn g1 pre1 caps1))] [(500, oc 118 (List.flatMap nodeC o500)), (2007, oc 118 [ti ((gt o500 v6 (0, 0, 0)).1), ti ((gt o500 v6 (0, 0, 0)).2.1), ti ((gt o500 v6 (0, 0, 0)).2.2)])] ⟨by decide, (hp1 ((gt o500 v6 (0, 0, 0)).1) ((gt o500 v6 (0, 0, 0)).2.1) ((gt o500 v6 (0, 0, 0)).2.2) r28 c3), trivial⟩ ?_
     rcases ite_some h with ⟨h3, h⟩ | ⟨h3, h⟩
     ·refine WP.yes h3 rfl ?_
      obtain ⟨c4, c5, h⟩ := chk2 h
      refine WP.pn tm [(1000033, An.o (List.flatMap nodeC (List.set o500 (Int.toNat v5) (((gt o500 v6 (0, 0, 0)).1), ((gt o500 v6 (0, 0, 0)).2.1), ((gt o500 v6 (0, 0, 0)).2.2))))), (35, An.v (ti (v5 + 1)))] [(0 + 3 ≤ 3), (ib v5 o500), (((Int.toNat v5) * 3 + 3 ≤ List.length (List.flatMap nodeC o500) ∧ 3 = 3)), ((((List.take ((Int.toNat v5) * 3) (List.flatMap nodeC o500)) ++ [ti ((gt o500 v6 (0, 0, 0)).1), ti ((gt o500 v6 (0, 0, 0)).2.1), ti ((gt o500 v6 (0, 0, 0)).2.2)]) ++ (List.drop (((Int.toNat v5) * 3) + 3) (List.flatMap nodeC o500)) : List T) = (List.flatMap nodeC (List.set o500 (Int.toNat v5) (((gt o500 v6 (0, 0, 0)).1), ((gt o500 v6 (0, 0, 0)).2.1), ((gt o500 v6 (0, 0, 0)).2.2))))), (True), (wr (v5 + 1))] [2007, 500] [(5, vi (v5 + 1)), (6, vi v6), (4, V.t (T.nils)), (0, V.own 500 3 (List.length o500)), (1, V.t (T.fn g1 pre1 caps1))] [(500, oc 118 (List.flatMap nodeC (List.set o500 (Int.toNat v5) (((gt o500 v6 (0, 0, 0)).1), ((gt o500 v6 (0, 0, 0)).2.1), ((gt o500 v6 (0, 0, 0)).2.2)))))] ⟨by decide, c4, ⟨by first | omega | (rw [len_node]; omega) | (rw [len_node, List.length_set]; omega), by first | rfl | omega | (simp only [tlL] <;> omega) | (simp <;> omega) | (simp [] <;> omega)⟩, (by rw [List.append_assoc]; exact putF (f := nodeC) (c := 3) (xs := o500) (y := (((gt o500 v6 (0, 0, 0)).1), ((gt o500 v6 (0, 0, 0)).2.1), ((gt o500 v6 (0, 0, 0)).2.2))) (i := (Int.toNat v5)) (fun _ => rfl) rfl rfl (by omega)), trivial, wrapI c5, trivial⟩ ?_
      obtain ⟨c6, h⟩ := chk_some h
      refine WP.qk tm [(21, An.v (ti (v6 + 1)))] [(True), (wr (v6 + 1))] [(6, vi (v6 + 1)), (5, vi (v5 + 1)), (4, V.t (T.nils)), (0, V.own 500 3 (List.length o500)), (1, V.t (T.fn g1 pre1 caps1))] [(500, oc 118 (List.flatMap nodeC (List.set o500 (Int.toNat v5) (((gt o500 v6 (0, 0, 0)).1), ((gt o500 v6 (0, 0, 0)).2.1), ((gt o500 v6 (0, 0, 0)).2.2)))))] ⟨trivial, wrapI c6, trivial⟩ ?_
      exact ⟨(n, List.set o500 (Int.toNat v5) (((gt o500 v6 (0, 0, 0)).1), ((gt o500 v6 (0, 0, 0)).2.1), ((gt o500 v6 (0, 0, 0)).2.2)), (v6 + 1), (v5 + 1)), h, Nat.lt_succ_self _, (by first | rfl | (simp only [tlS, tl, vl, vo, oc, ov, tbl, vbl, ty, vy] <;> rfl) | (simp <;> omega) | (simp []; done) | (rw [List.take_of_length_le (by simp [])] <;> rfl) | (simp [List.take_of_length_le]; done))⟩
     ·refine WP.no h3 rfl ?_
      refine WP.pn tm [] [] [2007, 500] [(6, vi v6), (5, vi v5), (4, V.t (T.nils)), (0, V.own 500 3 (List.length o500)), (1, V.t (T.fn g1 pre1 caps1))] [(500, oc 118 (List.flatMap nodeC o500))] trivial ?_
      obtain ⟨c4, h⟩ := chk_some h
      refine WP.qk tm [(21, An.v (ti (v6 + 1)))] [(True), (wr (v6 + 1))] [(6, vi (v6 + 1)), (5, vi v5), (4, V.t (T.nils)), (0, V.own 500 3 (List.length o500)), (1, V.t (T.fn g1 pre1 caps1))] [(500, oc 118 (List.flatMap nodeC o500))] ⟨trivial, wrapI c4, trivial⟩ ?_
      exact ⟨(n, o500, (v6 + 1), v5), h, Nat.lt_succ_self _, rfl⟩
    ·refine WP.no h2 rfl ?_
     refine WP.eq tm [] 0 [] [(5, vi v5), (4, V.t (T.nils)), (0, V.own 500 3 (List.length o500))] [(500, oc 118 (List.flatMap nodeC o500))] trivial ?_
     exact ⟨(o500, v5), h, rfl⟩
  ·rintro ⟨o500, v5⟩ h0
   have h := (show J1 o500 v5 = some y0 from h0)
   rw [hJ1] at h
   obtain ⟨c1, c2, h⟩ := chk2 h
   have h := Option.some.inj h
   subst h
   exact WP.pathG tab_ok mixed [(41, An.o (List.flatMap nodeC (List.take (Int.toNat v5) o500)))] [.keep [4], .keepO [500], .names [(500, 500)]] [500] _ (r' := V.own 500 3 (List.length (List.take (Int.toNat v5) o500))) (ps := [((0 ≤ v5 ∧ v5 ≤ ((List.length o500 : Nat) : Int) ∧ ((List.length o500 : Nat) : Int) ≤ ((List.length o500 : Nat) : Int))), (((Int.toNat v5) * 3) + (((Int.toNat ((List.length o500 : Nat) : Int)) - (Int.toNat v5)) * 3) ≤ List.length (List.flatMap nodeC o500)), ((0 ≤ v5 ∧ v5 ≤ ((List.length o500 : Nat) : Int))), (List.take ((Int.toNat v5) * 3) ((List.take ((Int.toNat v5) * 3) (List.flatMap nodeC o500) ++ List.flatten (List.replicate ((Int.toNat ((List.length o500 : Nat) : Int)) - (Int.toNat v5)) [ti 0, ti 0, ti 0])) ++ (List.drop (((Int.toNat v5) * 3) + (((Int.toNat ((List.length o500 : Nat) : Int)) - (Int.toNat v5)) * 3)) (List.flatMap nodeC o500))) = List.flatMap nodeC (List.take (Int.toNat v5) o500))]) (r := V.own 500 3 (Int.toNat v5)) (N := [500]) (O := [(500, oc 118 (List.flatMap nodeC (List.take (Int.toNat v5) o500)))]) [] (by kernel_rfl) ⟨c1, by first | decide | omega | (simp only [tlL] <;> omega) | (simp <;> omega) | (simp [] <;> omega), c2, cutF (f := nodeC) (c := 3) (fun _ => rfl) (i := Int.toNat v5) (by first | rfl | omega | simp) (by first | rfl | omega | simp) (by omega), trivial⟩ ⟨(congrArg (V.own 500 3) (by first | rfl | (simp only [tlS, tl, vl, vo, oc, ov, tbl, vbl, ty, vy] <;> rfl) | (simp <;> omega) | (simp []; done) | (rw [List.take_of_length_le (by simp [])] <;> rfl) | (simp [List.take_of_length_le]; done))), trivial⟩ rfl rfl (fun _ h => h)
theorem F_sJt_W (x0 : List Nd) (x1 : Int) (x2 : Int) (x3 : Int) (y0 : Int) (h : F_sJt x0 x1 x2 x3 = some y0) : C Tryz.prog 152 [T.list (List.length x0) 3 (List.flatMap nodeC x0), T.agg [ti x1, ti x2, ti x3]] (ti y0) := by
 unfold F_sJt at h
 refine C.intro (tab := tab) tab_ok (fn := Tryz.f152) Tryz.func152 (by kernel_rfl) rfl (Nat.le_of_ble_eq_true rfl) ?_
 refine WP.sk tm [(3, An.fz)] [] [(4, vi 0), (3, V.t (T.ptr [ti x1, ti x2, ti x3])), (0, V.t (T.list (List.length x0) 3 (List.flatMap nodeC x0)))] [] trivial ?_
 obtain ⟨J1, hJ1, h⟩ := jn_some h
 refine WP.joinA (fun (zz : Unit) => ⟨[], [(4, vi 0)], []⟩) (fun zz => J1 () = some y0) ?_ ?_
 ·refine WP.sk tm [] [] [(8, vi 0), (7, vi (ln x0)), (4, vi 0), (3, V.t (T.ptr [ti x1, ti x2, ti x3])), (0, V.t (T.list (List.length x0) 3 (List.flatMap nodeC x0)))] [] trivial ?_
  refine WP.block ?_
  refine WP.lp (α := Nat × Int) (fun zz => ⟨[], [(8, vi zz.2), (7, vi (ln x0)), (4, vi 0), (3, V.t (T.ptr [ti x1, ti x2, ti x3])), (0, V.t (T.list (List.length x0) 3 (List.flatMap nodeC x0)))], []⟩) (fun zz => F_sJt_L1 x0 x1 x2 x3 J1 zz.1 zz.2 = some y0) (fun zz => zz.1) (fuel, (0 : Int)) h ?_
  rintro ⟨n, v8⟩ h0
  have h := (show F_sJt_L1 x0 x1 x2 x3 J1 n v8 = some y0 from h0)
  rcases n with _ | n
  ·rw [F_sJt_L1] at h; cases h
  ·rw [F_sJt_L1] at h
   refine WP.sk tm [] [(True)] [(9, vb (decide (v8 < (ln x0)))), (8, vi v8), (7, vi (ln x0)), (4, vi 0), (3, V.t (T.ptr [ti x1, ti x2, ti x3])), (0, V.t (T.list (List.length x0) 3 (List.flatMap nodeC x0)))] [] ⟨trivial, trivial⟩ ?_
   refine WP.seq ?_
   rcases ite_some h with ⟨h1, h⟩ | ⟨h1, h⟩
   ·refine WP.yes h1 rfl ?_
    refine WP.pk tm [] [] [(8, vi v8), (7, vi (ln x0)), (4, vi 0), (3, V.t (T.ptr [ti x1, ti x2, ti x3])), (0, V.t (T.list (List.length x0) 3 (List.flatMap nodeC x0)))] [] trivial ?_
    refine WP.seq ?_
    refine WP.block ?_
    refine WP.sk tm [] [] [(5, vi v8), (8, vi v8), (7, vi (ln x0)), (4, vi 0), (3, V.t (T.ptr [ti x1, ti x2, ti x3])), (0, V.t (T.list (List.length x0) 3 (List.flatMap nodeC x0)))] [] trivial ?_
    refine WP.seq ?_
    obtain ⟨c0, h⟩ := chk_some h
    obtain ⟨n16, c1, h⟩ := nam_some h
    refine WP.pk tm [(15, An.v (T.agg [ti ((gt x0 v8 (0, 0, 0)).1), ti ((gt x0 v8 (0, 0, 0)).2.1), ti ((gt x0 v8 (0, 0, 0)).2.2)])), (16, An.v (tb n16))] [(3 ≤ 3), (ib v8 x0), (3 ≤ List.length (List.drop ((Int.toNat v8) * 3) (List.flatMap nodeC x0))), (T.agg (List.take 3 (List.drop ((Int.toNat v8) * 3) (List.flatMap nodeC x0))) = T.agg [ti ((gt x0 v8 (0, 0, 0)).1), ti ((gt x0 v8 (0, 0, 0)).2.1), ti ((gt x0 v8 (0, 0, 0)).2.2)]), (chkEq Tryz.prog 118 [ti x1, ti x2, ti x3] = true), (tb ((x1 == ((gt x0 v8 (0, 0, 0)).1)) && ((x2 == ((gt x0 v8 (0, 0, 0)).2.1)) && ((x3 == ((gt x0 v8 (0, 0, 0)).2.2)) && (true)))) = tb n16)] [(16, vb n16), (5, vi v8), (8, vi v8), (7, vi (ln x0)), (4, vi 0), (3, V.t (T.ptr [ti x1, ti x2, ti x3])), (0, V.t (T.list (List.length x0) 3 (List.flatMap nodeC x0)))] [] ⟨by decide, c0, fit_node (i := Int.toNat v8) (by simp) (by omega), at_node (by simp) (by omega), by kernel_rfl, congrArg (tb) c1, trivial⟩ ?_
    rcases ite_some h with ⟨h2, h⟩ | ⟨h2, h⟩
    ·refine WP.yes h2 rfl ?_
     have h := Option.some.inj h
     subst h
     exact WP.pathW tab_ok mixed [] _ (ps := []) (r := ti v8) (by kernel_rfl) trivial (WkT.eq (y := ti v8) (WkT.refl _) rfl) (fun _ h => h)
    ·refine WP.no h2 rfl ?_
     refine WP.pk tm [] [] [(8, vi v8), (7, vi (ln x0)), (4, vi 0), (3, V.t (T.ptr [ti x1, ti x2, ti x3])), (0, V.t (T.list (List.length x0) 3 (List.flatMap nodeC x0)))] [] trivial ?_
     obtain ⟨c2, h⟩ := chk_some h
     refine WP.qk tm [(18, An.v (ti (v8 + 1)))] [(True), (wr (v8 + 1))] [(8, vi (v8 + 1)), (7, vi (ln x0)), (4, vi 0), (3, V.t (T.ptr [ti x1, ti x2, ti x3])), (0, V.t (T.list (List.length x0) 3 (List.flatMap nodeC x0)))] [] ⟨trivial, wrapI c2, trivial⟩ ?_
     exact ⟨(n, (v8 + 1)), h, Nat.lt_succ_self _, rfl⟩
   ·refine WP.no h1 rfl ?_
    refine WP.eq tm [] 0 [] [(4, vi 0)] [] trivial ?_
    exact ⟨(), h, rfl⟩
 ·intro _ h0
  have h := (show J1 () = some y0 from h0)
  rw [hJ1] at h
  have h := Option.some.inj h
  subst h
  exact WP.pathW tab_ok mixed [] _ (ps := []) (r := ti (-1)) (by kernel_rfl) trivial (WkT.eq (y := ti (-1)) (WkT.refl _) (by first | rfl | (simp only [tlS, tl, vl, vo, oc, ov, tbl, vbl, ty, vy] <;> rfl) | (simp <;> omega) | (simp []; done) | (rw [List.take_of_length_le (by simp [])] <;> rfl) | (simp [List.take_of_length_le]; done))) (fun _ h => h)
theorem F_sCt_W (x0 : List Nd) (x1 : Int) (x2 : Int) (x3 : Int) (y0 : Bool) (h : F_sCt x0 x1 x2 x3 = some y0) : C Tryz.prog 145 [T.list (List.length x0) 3 (List.flatMap nodeC x0), T.agg [ti x1, ti x2, ti x3]] (tb y0) := by
 unfold F_sCt at h
 refine C.intro (tab := tab) tab_ok (fn := Tryz.f145) Tryz.func145 (by kernel_rfl) rfl (Nat.le_of_ble_eq_true rfl) ?_
 obtain ⟨r7, c0, h⟩ := bnd1_some h
 have h := Option.some.inj h
 subst h
 exact WP.pathW tab_ok mixed [(3, An.fz), (7, An.call (ti r7))] _ (ps := [(3 ≤ 3), (C Tryz.prog 152 [T.list (List.length x0) 3 (List.flatMap nodeC x0), T.agg [ti x1, ti x2, ti x3]] (ti r7)), (True)]) (r := tb (decide (r7 ≥ (0 : Int)))) (by kernel_rfl) ⟨by decide, (F_sJt_W x0 x1 x2 x3 r7 c0), trivial, trivial⟩ (WkT.eq (y := tb (decide (r7 ≥ (0 : Int)))) (WkT.refl _) rfl) (fun _ h => h)
theorem F_i_needs_2_W (x0 : Int) (x1 : Int) (x2 : Int) (x3 : List Nd) (y0 : Bool) (h : F_i_needs_2 x0 x1 x2 x3 = some y0) : C Tryz.prog 144 [T.agg [ti x0, ti x1, ti x2], T.ptr [T.list (List.length x3) 3 (List.flatMap nodeC x3)]] (tb y0) := by
 unfold F_i_needs_2 at h
 refine C.intro (tab := tab) tab_ok (fn := Tryz.f144) Tryz.func144 (by kernel_rfl) rfl (Nat.le_of_ble_eq_true rfl) ?_
 obtain ⟨r6, c0, h⟩ := bnd1_some h
 have h := Option.some.inj h
 subst h
 exact WP.pathW tab_ok mixed [(2, An.fz), (6, An.call (tb r6))] _ (ps := [(True), (3 ≤ 3), (C Tryz.prog 145 [T.list (List.length x3) 3 (List.flatMap nodeC x3), T.agg [ti x0, ti x1, ti x2]] (tb r6))]) (r := tb r6) (by kernel_rfl) ⟨trivial, by decide, (F_sCt_W x3 x0 x1 x2 r6 c0), trivial⟩ (WkT.eq (y := tb r6) (WkT.refl _) rfl) (fun _ h => h)
theorem F_i_needs_W (g0 : FuncId) (pre0 caps0 : List T) (p0 : (List Int) → (List Int) → Option ((List Int) × (List Int))) (hp0 : ∀ (a0_0 : List Int) (a0_1 : List Int) (b0_2 : List Int) (b0_3 : List Int), p0 a0_0 a0_1 = some (b0_2, b0_3) → C Tryz.prog g0 (pre0 ++ ([tl a0_0, tl a0_1] ++ caps0)) (T.tup [tl b0_2, tl b0_3])) (y0 : List (K3 × Int)) (h : F_i_needs p0 = some y0) : CG Tryz.prog 112 [V.t (T.fn g0 pre0 caps0)] [] (V.mapr 9000) [(9000, Tl.Obj.map (mpT y0))] := by
 unfold F_i_needs at h
 refine CG.intro (tab := tab) tab_ok (fn := Tryz.f112) Tryz.func112 (by as_aux_lemma => kernel_rfl) rfl (Nat.le_of_ble_eq_true rfl) (by as_aux_lemma => kernel_rfl) ?_
 refine WP.sk tm [(1, An.fz)] [] [(2, V.t (T.nilm)), (1, V.t (T.ptr [T.fn g0 pre0 caps0]))] [] trivial ?_
 refine WP.sn tm [(15, An.id 2015), (16, An.id 2016), (3, An.id 2003)] [(True), (0 = 0 * 3), (0 < 1)] [2003, 2016, 2015] [(4, V.own 2016 3 0), (3, V.ref 2003 0), (2, V.t (T.nilm)), (1, V.t (T.ptr [T.fn g0 pre0 caps0]))] [(2003, ov 77 [V.mapr 2015]), (2015, Tl.Obj.map (mpT ([] : List (K3 × Int)))), (2016, oc 118 [])] ⟨trivial, by decide, by decide, trivial⟩ ?_
 obtain ⟨J1, hJ1, h⟩ := jn_some h
 refine WP.joinA (fun (zz : (List Nd) × (List (K3 × Int))) => ⟨[2003, 2015, 2016], [(4, V.own 2016 3 (List.length zz.1)), (3, V.ref 2003 0), (2, V.t (T.nilm)), (1, V.t (T.ptr [T.fn g0 pre0 caps0]))], [(2003, ov 77 [V.mapr 2015]), (2015, Tl.Obj.map (mpT zz.2)), (2016, oc 118 (List.flatMap nodeC zz.1))]⟩) (fun zz => J1 zz.1 zz.2 = some y0) ?_ ?_
 ·refine WP.sn tm [] [] [2003, 2016, 2015] [(17, vi 0), (4, V.own 2016 3 0), (3, V.ref 2003 0), (2, V.t (T.nilm)), (1, V.t (T.ptr [T.fn g0 pre0 caps0]))] [(2003, ov 77 [V.mapr 2015]), (2015, Tl.Obj.map (mpT ([] : List (K3 × Int)))), (2016, oc 118 [])] trivial ?_
  refine WP.block ?_
  refine WP.lp (α := Nat × (List Nd) × (List (K3 × Int)) × Int) (fun zz => ⟨[2003, 2015, 2016], [(17, vi zz.2.2.2), (4, V.own 2016 3 (List.length zz.2.1)), (3, V.ref 2003 0), (2, V.t (T.nilm)), (1, V.t (T.ptr [T.fn g0 pre0 caps0]))], [(2003, ov 77 [V.mapr 2015]), (2015, Tl.Obj.map (mpT zz.2.2.1)), (2016, oc 118 (List.flatMap nodeC zz.2.1))]⟩) (fun zz => F_i_needs_L1 J1 zz.1 zz.2.1 zz.2.2.1 zz.2.2.2 = some y0) (fun zz => zz.1) (fuel, ([] : List Nd), ([] : List (K3 × Int)), (0 : Int)) h ?_
  rintro ⟨n, o16, o15, v17⟩ h0
  have h := (show F_i_needs_L1 J1 n o16 o15 v17 = some y0 from h0)
  rcases n with _ | n
  ·rw [F_i_needs_L1] at h; cases h
  ·rw [F_i_needs_L1] at h
   refine WP.sk tm [] [(True)] [(18, vb (decide (v17 < (9 : Int)))), (17, vi v17), (4, V.own 2016 3 (List.length o16)), (3, V.ref 2003 0), (2, V.t (T.nilm)), (1, V.t (T.ptr [T.fn g0 pre0 caps0]))] [(2003, ov 77 [V.mapr 2015]), (2015, Tl.Obj.map (mpT o15)), (2016, oc 118 (List.flatMap nodeC o16))] ⟨trivial, trivial⟩ ?_
   refine WP.seq ?_
   rcases ite_some h with ⟨h1, h⟩ | ⟨h1, h⟩
   ·refine WP.yes h1 rfl ?_
    refine WP.pk tm [] [] [(17, vi v17), (4, V.own 2016 3 (List.length o16)), (3, V.ref 2003 0), (2, V.t (T.nilm)), (1, V.t (T.ptr [T.fn g0 pre0 caps0]))] [(2003, ov 77 [V.mapr 2015]), (2015, Tl.Obj.map (mpT o15)), (2016, oc 118 (List.flatMap nodeC o16))] trivial ?_
    obtain ⟨J2, hJ2, h⟩ := jn_some h
    refine WP.joinA (fun (zz : (List Nd) × (List (K3 × Int))) => ⟨[2003, 2015, 2016], [(17, vi v17), (4, V.own 2016 3 (List.length zz.1)), (3, V.ref 2003 0), (2, V.t (T.nilm)), (1, V.t (T.ptr [T.fn g0 pre0 caps0]))], [(2003, ov 77 [V.mapr 2015]), (2015, Tl.Obj.map (mpT zz.2)), (2016, oc 118 (List.flatMap nodeC zz.1))]⟩) (fun zz => J2 zz.1 zz.2 = some y0) ?_ ?_
    ·refine WP.block ?_
     refine WP.sk tm [] [] [(5, vi v17), (17, vi v17), (4, V.own 2016 3 (List.length o16)), (3, V.ref 2003 0), (2, V.t (T.nilm)), (1, V.t (T.ptr [T.fn g0 pre0 caps0]))] [(2003, ov 77 [V.mapr 2015]), (2015, Tl.Obj.map (mpT o15)), (2016, oc 118 (List.flatMap nodeC o16))] trivial ?_
     refine WP.seq ?_
     obtain ⟨c0, h⟩ := chk_some h
     refine WP.pk tm [(21, An.v (ti ((9 : Int) - v17)))] [(True), (wr ((9 : Int) - v17))] [(22, vi 0), (21, vi ((9 : Int) - v17)), (5, vi v17), (17, vi v17), (4, V.own 2016 3 (List.length o16)), (3, V.ref 2003 0), (2, V.t (T.nilm)), (1, V.t (T.ptr [T.fn g0 pre0 caps0]))] [(2003, ov 77 [V.mapr 2015]), (2015, Tl.Obj.map (mpT o15)), (2016, oc 118 (List.flatMap nodeC o16))] ⟨trivial, wrapI c0, trivial⟩ ?_
     refine WP.block ?_
     refine WP.lp (α := Nat × (List Nd) × (List (K3 × Int)) × Int) (fun zz => ⟨[2003, 2015, 2016], [(22, vi zz.2.2.2), (21, vi ((9 : Int) - v17)), (5, vi v17), (17, vi v17), (4, V.own 2016 3 (List.length zz.2.1)), (3, V.ref 2003 0), (2, V.t (T.nilm)), (1, V.t (T.ptr [T.fn g0 pre0 caps0]))], [(2003, ov 77 [V.mapr 2015]), (2015, Tl.Obj.map (mpT zz.2.2.1)), (2016, oc 118 (List.flatMap nodeC zz.2.1))]⟩) (fun zz => F_i_needs_L2 v17 J2 zz.1 zz.2.1 zz.2.2.1 zz.2.2.2 = some y0) (fun zz => zz.1) (fuel, o16, o15, (0 : Int)) h ?_
     rintro ⟨n, o16b, o15b, v22⟩ h0
     have h := (show F_i_needs_L2 v17 J2 n o16b o15b v22 = some y0 from h0)
     rcases n with _ | n
     ·rw [F_i_needs_L2] at h; cases h
     ·rw [F_i_needs_L2] at h
      refine WP.sk tm [] [(True)] [(23, vb (decide (v22 < ((9 : Int) - v17)))), (22, vi v22), (21, vi ((9 : Int) - v17)), (5, vi v17), (17, vi v17), (4, V.own 2016 3 (List.length o16b)), (3, V.ref 2003 0), (2, V.t (T.nilm)), (1, V.t (T.ptr [T.fn g0 pre0 caps0]))] [(2003, ov 77 [V.mapr 2015]), (2015, Tl.Obj.map (mpT o15b)), (2016, oc 118 (List.flatMap nodeC o16b))] ⟨trivial, trivial⟩ ?_
      refine WP.seq ?_
      rcases ite_some h with ⟨h2, h⟩ | ⟨h2, h⟩
      ·refine WP.yes h2 rfl ?_
       refine WP.pk tm [] [] [(22, vi v22), (21, vi ((9 : Int) - v17)), (5, vi v17), (17, vi v17), (4, V.own 2016 3 (List.length o16b)), (3, V.ref 2003 0), (2, V.t (T.nilm)), (1, V.t (T.ptr [T.fn g0 pre0 caps0]))] [(2003, ov 77 [V.mapr 2015]), (2015, Tl.Obj.map (mpT o15b)), (2016, oc 118 (List.flatMap nodeC o16b))] trivial ?_
       obtain ⟨J3, hJ3, h⟩ := jn_some h
       refine WP.joinA (fun (zz : (List Nd) × (List (K3 × Int))) => ⟨[2003, 2015, 2016], [(22, vi v22), (21, vi ((9 : Int) - v17)), (5, vi v17), (17, vi v17), (4, V.own 2016 3 (List.length zz.1)), (3, V.ref 2003 0), (2, V.t (T.nilm)), (1, V.t (T.ptr [T.fn g0 pre0 caps0]))], [(2003, ov 77 [V.mapr 2015]), (2015, Tl.Obj.map (mpT zz.2)), (2016, oc 118 (List.flatMap nodeC zz.1))]⟩) (fun zz => J3 zz.1 zz.2 = some y0) ?_ ?_
       ·refine WP.block ?_
        refine WP.sk tm [] [] [(6, vi v22), (22, vi v22), (21, vi ((9 : Int) - v17)), (5, vi v17), (17, vi v17), (4, V.own 2016 3 (List.length o16b)), (3, V.ref 2003 0), (2, V.t (T.nilm)), (1, V.t (T.ptr [T.fn g0 pre0 caps0]))] [(2003, ov 77 [V.mapr 2015]), (2015, Tl.Obj.map (mpT o15b)), (2016, oc 118 (List.flatMap nodeC o16b))] trivial ?_
        refine WP.seq ?_
        obtain ⟨c1, h⟩ := chk_some h
        refine WP.pk tm [(26, An.v (ti ((9 : Int) - v17))), (28, An.v (ti (((9 : Int) - v17) - v22)))] [(True), (wr ((9 : Int) - v17)), (True), (wr (((9 : Int) - v17) - v22))] [(29, vi 0), (28, vi (((9 : Int) - v17) - v22)), (6, vi v22), (22, vi v22), (21, vi ((9 : Int) - v17)), (5, vi v17), (17, vi v17), (4, V.own 2016 3 (List.length o16b)), (3, V.ref 2003 0), (2, V.t (T.nilm)), (1, V.t (T.ptr [T.fn g0 pre0 caps0]))] [(2003, ov 77 [V.mapr 2015]), (2015, Tl.Obj.map (mpT o15b)), (2016, oc 118 (List.flatMap nodeC o16b))] ⟨trivial, wrapI c0, trivial, wrapI c1, trivial⟩ ?_
        refine WP.block ?_
        refine WP.lp (α := Nat × (List Nd) × (List (K3 × Int)) × Int) (fun zz => ⟨[2003, 2015, 2016], [(29, vi zz.2.2.2), (28, vi (((9 : Int) - v17) - v22)), (6, vi v22), (22, vi v22), (21, vi ((9 : Int) - v17)), (5, vi v17), (17, vi v17), (4, V.own 2016 3 (List.length zz.2.1)), (3, V.ref 2003 0), (2, V.t (T.nilm)), (1, V.t (T.ptr [T.fn g0 pre0 caps0]))], [(2003, ov 77 [V.mapr 2015]), (2015, Tl.Obj.map (mpT zz.2.2.1)), (2016, oc 118 (List.flatMap nodeC zz.2.1))]⟩) (fun zz => F_i_needs_L3 v17 v22 J3 zz.1 zz.2.1 zz.2.2.1 zz.2.2.2 = some y0) (fun zz => zz.1) (fuel, o16b, o15b, (0 : Int)) h ?_
        rintro ⟨n, o16c, o15c, v29⟩ h0
        have h := (show F_i_needs_L3 v17 v22 J3 n o16c o15c v29 = some y0 from h0)
        rcases n with _ | n
        ·rw [F_i_needs_L3] at h; cases h
        ·rw [F_i_needs_L3] at h
         refine WP.sk tm [] [(True)] [(30, vb (decide (v29 < (((9 : Int) - v17) - v22)))), (29, vi v29), (28, vi (((9 : Int) - v17) - v22)), (6, vi v22), (22, vi v22), (21, vi ((9 : Int) - v17)), (5, vi v17), (17, vi v17), (4, V.own 2016 3 (List.length o16c)), (3, V.ref 2003 0), (2, V.t (T.nilm)), (1, V.t (T.ptr [T.fn g0 pre0 caps0]))] [(2003, ov 77 [V.mapr 2015]), (2015, Tl.Obj.map (mpT o15c)), (2016, oc 118 (List.flatMap nodeC o16c))] ⟨trivial, trivial⟩ ?_
         refine WP.seq ?_
         rcases ite_some h with ⟨h3, h⟩ | ⟨h3, h⟩
         ·refine WP.yes h3 rfl ?_
          refine WP.pk tm [] [] [(29, vi v29), (28, vi (((9 : Int) - v17) - v22)), (6, vi v22), (22, vi v22), (21, vi ((9 : Int) - v17)), (5, vi v17), (17, vi v17), (4, V.own 2016 3 (List.length o16c)), (3, V.ref 2003 0), (2, V.t (T.nilm)), (1, V.t (T.ptr [T.fn g0 pre0 caps0]))] [(2003, ov 77 [V.mapr 2015]), (2015, Tl.Obj.map (mpT o15c)), (2016, oc 118 (List.flatMap nodeC o16c))] trivial ?_
          refine WP.seq ?_
          refine WP.block ?_
          refine WP.sk tm [] [] [(7, vi v29), (29, vi v29), (28, vi (((9 : Int) - v17) - v22)), (6, vi v22), (22, vi v22), (21, vi ((9 : Int) - v17)), (5, vi v17), (17, vi v17), (4, V.own 2016 3 (List.length o16c)), (3, V.ref 2003 0), (2, V.t (T.nilm)), (1, V.t (T.ptr [T.fn g0 pre0 caps0]))] [(2003, ov 77 [V.mapr 2015]), (2015, Tl.Obj.map (mpT o15c)), (2016, oc 118 (List.flatMap nodeC o16c))] trivial ?_
          refine WP.sn tm [(8, An.id 2008)] [((1 = 1 ∧ 0 + 1 ≤ 3) ∧ (1 = 1 ∧ 1 + 1 ≤ 3) ∧ (1 = 1 ∧ 2 + 1 ≤ 3) ∧ True), ((0 + 3 ≤ 3 ∧ 3 = 3))] [2008, 2003, 2015, 2016] [(8, V.ref 2008 0), (7, vi v29), (29, vi v29), (28, vi (((9 : Int) - v17) - v22)), (6, vi v22), (22, vi v22), (21, vi ((9 : Int) - v17)), (5, vi v17), (17, vi v17), (4, V.own 2016 3 (List.length o16c)), (3, V.ref 2003 0), (2, V.t (T.nilm)), (1, V.t (T.ptr [T.fn g0 pre0 caps0]))] [(2003, ov 77 [V.mapr 2015]), (2008, oc 118 [ti v17, ti v22, ti v29]), (2015, Tl.Obj.map (mpT o15c)), (2016, oc 118 (List.flatMap nodeC o16c))] ⟨⟨⟨by first | rfl | (simp; done) | (simp []; done) | omega, by first | decide | (simp; done) | (simp []; done) | omega | (simp only [tlL]; omega) | (simp; omega)⟩, ⟨by first | rfl | (simp; done) | (simp []; done) | omega, by first | decide | (simp; done) | (simp []; done) | omega | (simp only [tlL]; omega) | (simp; omega)⟩, ⟨by first | rfl | (simp; done) | (simp []; done) | omega, by first | decide | (simp; done) | (simp []; done) | omega | (simp only [tlL]; omega) | (simp; omega)⟩, trivial⟩, by decide, trivial⟩ ?_
          refine WP.seq ?_
          obtain ⟨c2, c3, h⟩ := chk2 h
          refine WP.pn tm [(38, An.v (ti (v17 + v22))), (40, An.v (ti ((v17 + v22) + v29)))] [(True), (wr (v17 + v22)), (True), (wr ((v17 + v22) + v29)), (True)] [2008, 2003, 2015, 2016] [(41, vb (decide (((v17 + v22) + v29) ≤ (1 : Int)))), (8, V.ref 2008 0), (29, vi v29), (28, vi (((9 : Int) - v17) - v22)), (6, vi v22), (22, vi v22), (21, vi ((9 : Int) - v17)), (5, vi v17), (17, vi v17), (4, V.own 2016 3 (List.length o16c)), (3, V.ref 2003 0), (2, V.t (T.nilm)), (1, V.t (T.ptr [T.fn g0 pre0 caps0]))] [(2003, ov 77 [V.mapr 2015]), (2008, oc 118 [ti v17, ti v22, ti v29]), (2015, Tl.Obj.map (mpT o15c)), (2016, oc 118 (List.flatMap nodeC o16c))] ⟨trivial, wrapI c2, trivial, wrapI c3, trivial, trivial⟩ ?_
          rcases ite_some h with ⟨h4, h⟩ | ⟨h4, h⟩
          ·refine WP.yes h4 rfl ?_
           refine WP.pn tm [(2000042, An.mp (mpT (tput o15c (v17, v22, v29) (0 : Int))))] [(True), (0 + 3 ≤ 3), (∃ G, KeyRun Tryz.prog 118 G ∧ G (T.agg [ti v17, ti v22, ti v29]) ∧ ∀ x ∈ mpT o15c, G x.1), (putT (mpT o15c) (T.agg [ti v17, ti v22, ti v29]) (ti 0) = mpT (tput o15c (v17, v22, v29) (0 : Int)))] [2008, 2003, 2015, 2016] [(29, vi v29), (28, vi (((9 : Int) - v17) - v22)), (6, vi v22), (22, vi v22), (21, vi ((9 : Int) - v17)), (5, vi v17), (17, vi v17), (4, V.own 2016 3 (List.length o16c)), (3, V.ref 2003 0), (2, V.t (T.nilm)), (1, V.t (T.ptr [T.fn g0 pre0 caps0]))] [(2003, ov 77 [V.mapr 2015]), (2015, Tl.Obj.map (mpT (tput o15c (v17, v22, v29) (0 : Int)))), (2016, oc 118 (List.flatMap nodeC o16c))] ⟨trivial, by decide, keys_tri Tryz.underlying118 Tryz.underlying3 (by as_aux_lemma => kernel_rfl) (by as_aux_lemma => kernel_rfl) o15c (v17, v22, v29), put_tri o15c (v17, v22, v29) (0 : Int), trivial⟩ ?_
           obtain ⟨c4, h⟩ := chk_some h
           refine WP.qk tm [(48, An.v (ti (v29 + 1)))] [(True), (wr (v29 + 1))] [(29, vi (v29 + 1)), (28, vi (((9 : Int) - v17) - v22)), (6, vi v22), (22, vi v22), (21, vi ((9 : Int) - v17)), (5, vi v17), (17, vi v17), (4, V.own 2016 3 (List.length o16c)), (3, V.ref 2003 0), (2, V.t (T.nilm)), (1, V.t (T.ptr [T.fn g0 pre0 caps0]))] [(2003, ov 77 [V.mapr 2015]), (2015, Tl.Obj.map (mpT (tput o15c (v17, v22, v29) (0 : Int)))), (2016, oc 118 (List.flatMap nodeC o16c))] ⟨trivial, wrapI c4, trivial⟩ ?_
           exact ⟨(n, o16c, (tput o15c (v17, v22, v29) (0 : Int)), (v29 + 1)), h, Nat.lt_succ_self _, rfl⟩
          ·refine WP.no h4 rfl ?_
           obtain ⟨c4, h⟩ := chk_some h
           refine WP.pn tm [(46, An.fz), (47, An.id 2047)] [(0 + 3 ≤ 3), ((3 = 3 ∧ 0 + 3 ≤ 3) ∧ True), (3 = 1 * 3), (True), (List.length (List.flatMap nodeC o16c) = (List.length o16c) * 3), ((((List.length o16c) + 1) * 24 ≤ 140737488355328 ∧ (List.length o16c) + 1 ≤ maxLen))] [2047, 2008, 2003, 2015, 2016] [(4, V.own 2047 3 ((List.length o16c) + 1)), (29, vi v29), (28, vi (((9 : Int) - v17) - v22)), (6, vi v22), (22, vi v22), (21, vi ((9 : Int) - v17)), (5, vi v17), (17, vi v17), (3, V.ref 2003 0), (2, V.t (T.nilm)), (1, V.t (T.ptr [T.fn g0 pre0 caps0]))] [(2003, ov 77 [V.mapr 2015]), (2015, Tl.Obj.map (mpT o15c)), (2047, oc 118 ((List.flatMap nodeC o16c) ++ [ti v17, ti v22, ti v29]))] ⟨by decide, ⟨⟨by first | rfl | (simp; done) | (simp []; done) | omega, by first | decide | (simp; done) | (simp []; done) | omega | (simp only [tlL]; omega) | (simp; omega)⟩, trivial⟩, by decide, trivial, by first | exact len_node _ | (rw [len_node]; first | done | omega | (simp; done) | (simp only [tlL]; omega) | (simp; omega)), c4, trivial⟩ ?_
           obtain ⟨c5, h⟩ := chk_some h
           refine WP.nk tm [(48, An.v (ti (v29 + 1)))] [(2003, 2003), (2015, 2015), (2047, 2016)] .normal [(True), (wr (v29 + 1))] [(29, vi (v29 + 1)), (28, vi (((9 : Int) - v17) - v22)), (6, vi v22), (22, vi v22), (21, vi ((9 : Int) - v17)), (5, vi v17), (17, vi v17), (4, V.own 2016 3 ((List.length o16c) + 1)), (3, V.ref 2003 0), (2, V.t (T.nilm)), (1, V.t (T.ptr [T.fn g0 pre0 caps0]))] [(2003, ov 77 [V.mapr 2015]), (2015, Tl.Obj.map (mpT o15c)), (2016, oc 118 ((List.flatMap nodeC o16c) ++ [ti v17, ti v22, ti v29]))] ⟨trivial, wrapI c5, trivial⟩ ?_
           exact ⟨(n, o16c ++ [(v17, v22, v29)], o15c, (v29 + 1)), h, Nat.lt_succ_self _, (by first | rfl | (simp only [tlS, tl, vl, vo, oc, ov, tbl, vbl, ty, vy] <;> rfl) | (simp <;> omega) | (simp []; done) | (rw [List.take_of_length_le (by simp [])] <;> rfl) | (simp [List.take_of_length_le]; done))⟩
         ·refine WP.no h3 rfl ?_
          refine WP.eq tm [] 4 [] [(22, vi v22), (21, vi ((9 : Int) - v17)), (5, vi v17), (17, vi v17), (4, V.own 2016 3 (List.length o16c)), (3, V.ref 2003 0), (2, V.t (T.nilm)), (1, V.t (T.ptr [T.fn g0 pre0 caps0]))] [(2003, ov 77 [V.mapr 2015]), (2015, Tl.Obj.map (mpT o15c)), (2016, oc 118 (List.flatMap nodeC o16c))] trivial ?_
          exact ⟨(o16c, o15c), h, rfl⟩
       ·rintro ⟨o16c, o15c⟩ h0
        have h := (show J3 o16c o15c = some y0 from h0)
        rw [hJ3] at h
        obtain ⟨c1, h⟩ := chk_some h
        refine WP.qk tm [(49, An.v (ti (v22 + 1)))] [(True), (wr (v22 + 1))] [(22, vi (v22 + 1)), (21, vi ((9 : Int) - v17)), (5, vi v17), (17, vi v17), (4, V.own 2016 3 (List.length o16c)), (3, V.ref 2003 0), (2, V.t (T.nilm)), (1, V.t (T.ptr [T.fn g0 pre0 caps0]))] [(2003, ov 77 [V.mapr 2015]), (2015, Tl.Obj.map (mpT o15c)), (2016, oc 118 (List.flatMap nodeC o16c))] ⟨trivial, wrapI c1, trivial⟩ ?_
        exact ⟨(n, o16c, o15c, (v22 + 1)), h, Nat.lt_succ_self _, rfl⟩
      ·refine WP.no h2 rfl ?_
       refine WP.eq tm [] 2 [] [(17, vi v17), (4, V.own 2016 3 (List.length o16b)), (3, V.ref 2003 0), (2, V.t (T.nilm)), (1, V.t (T.ptr [T.fn g0 pre0 caps0]))] [(2003, ov 77 [V.mapr 2015]), (2015, Tl.Obj.map (mpT o15b)), (2016, oc 118 (List.flatMap nodeC o16b))] trivial ?_
       exact ⟨(o16b, o15b), h, rfl⟩
    ·rintro ⟨o16b, o15b⟩ h0
     have h := (show J2 o16b o15b = some y0 from h0)
     rw [hJ2] at h
     obtain ⟨c0, h⟩ := chk_some h
     refine WP.qk tm [(50, An.v (ti (v17 + 1)))] [(True), (wr (v17 + 1))] [(17, vi (v17 + 1)), (4, V.own 2016 3 (List.length o16b)), (3, V.ref 2003 0), (2, V.t (T.nilm)), (1, V.t (T.ptr [T.fn g0 pre0 caps0]))] [(2003, ov 77 [V.mapr 2015]), (2015, Tl.Obj.map (mpT o15b)), (2016, oc 118 (List.flatMap nodeC o16b))] ⟨trivial, wrapI c0, trivial⟩ ?_
     exact ⟨(n, o16b, o15b, (v17 + 1)), h, Nat.lt_succ_self _, rfl⟩
   ·refine WP.no h1 rfl ?_
    refine WP.eq tm [] 0 [] [(4, V.own 2016 3 (List.length o16)), (3, V.ref 2003 0), (2, V.t (T.nilm)), (1, V.t (T.ptr [T.fn g0 pre0 caps0]))] [(2003, ov 77 [V.mapr 2015]), (2015, Tl.Obj.map (mpT o15)), (2016, oc 118 (List.flatMap nodeC o16))] trivial ?_
    exact ⟨(o16, o15), h, rfl⟩
 ·rintro ⟨o16, o15⟩ h0
  have h := (show J1 o16 o15 = some y0 from h0)
  rw [hJ1] at h
  obtain ⟨J1, hJ1, h⟩ := jn_some h
  refine WP.joinA (fun (zz : (List (K3 × Int))) => ⟨[2003, 2015], [(3, V.ref 2003 0), (2, V.t (T.nilm))], [(2003, ov 77 [V.mapr 2015]), (2015, Tl.Obj.map (mpT zz))]⟩) (fun zz => J1 zz = some y0) ?_ ?_
  ·refine WP.sk tm [] [] [(9, vi 1), (4, V.own 2016 3 (List.length o16)), (3, V.ref 2003 0), (2, V.t (T.nilm)), (1, V.t (T.ptr [T.fn g0 pre0 caps0]))] [(2003, ov 77 [V.mapr 2015]), (2015, Tl.Obj.map (mpT o15)), (2016, oc 118 (List.flatMap nodeC o16))] trivial ?_
   refine WP.block ?_
   refine WP.lp (α := Nat × (List Nd) × (List (K3 × Int)) × Int) (fun zz => ⟨[2003, 2015, 2016], [(9, vi zz.2.2.2), (4, V.own 2016 3 (List.length zz.2.1)), (3, V.ref 2003 0), (2, V.t (T.nilm)), (1, V.t (T.ptr [T.fn g0 pre0 caps0]))], [(2003, ov 77 [V.mapr 2015]), (2015, Tl.Obj.map (mpT zz.2.2.1)), (2016, oc 118 (List.flatMap nodeC zz.2.1))]⟩) (fun zz => F_i_needs_L4 p0 J1 zz.1 zz.2.1 zz.2.2.1 zz.2.2.2 = some y0) (fun zz => zz.1) (fuel, o16, o15, (1 : Int)) h ?_
   rintro ⟨n, o16b, o15b, v9⟩ h0
   have h := (show F_i_needs_L4 p0 J1 n o16b o15b v9 = some y0 from h0)
   rcases n with _ | n
   ·rw [F_i_needs_L4] at h; cases h
   ·rw [F_i_needs_L4] at h
    refine WP.seq ?_
    refine WP.sk tm [] [(True)] [(53, vb (decide ((ln o16b) > (0 : Int)))), (9, vi v9), (4, V.own 2016 3 (List.length o16b)), (3, V.ref 2003 0), (2, V.t (T.nilm)), (1, V.t (T.ptr [T.fn g0 pre0 caps0]))] [(2003, ov 77 [V.mapr 2015]), (2015, Tl.Obj.map (mpT o15b)), (2016, oc 118 (List.flatMap nodeC o16b))] ⟨trivial, trivial⟩ ?_
    rcases ite_some h with ⟨h5, h⟩ | ⟨h5, h⟩
    ·refine WP.yes h5 rfl ?_
     refine WP.pk tm [] [] [(9, vi v9), (4, V.own 2016 3 (List.length o16b)), (3, V.ref 2003 0), (2, V.t (T.nilm)), (1, V.t (T.ptr [T.fn g0 pre0 caps0]))] [(2003, ov 77 [V.mapr 2015]), (2015, Tl.Obj.map (mpT o15b)), (2016, oc 118 (List.flatMap nodeC o16b))] trivial ?_
     obtain ⟨J2, hJ2, h⟩ := jn_some h
     refine WP.joinA (fun (zz : (List Nd) × (List (K3 × Int))) => ⟨[2003, 2015, 2016], [(4, V.own 2016 3 (List.length zz.1)), (9, vi v9), (3, V.ref 2003 0), (2, V.t (T.nilm)), (1, V.t (T.ptr [T.fn g0 pre0 caps0]))], [(2003, ov 77 [V.mapr 2015]), (2015, Tl.Obj.map (mpT zz.2)), (2016, oc 118 (List.flatMap nodeC zz.1))]⟩) (fun zz => J2 zz.1 zz.2 = some y0) ?_ ?_
     ·refine WP.block ?_
      refine WP.sn tm [(56, An.id 2056), (10, An.id 2010)] [(True), (0 = 0 * 3), (0 < 1)] [2010, 2056, 2003, 2015, 2016] [(10, V.ref 2010 0), (9, vi v9), (4, V.own 2016 3 (List.length o16b)), (3, V.ref 2003 0), (2, V.t (T.nilm)), (1, V.t (T.ptr [T.fn g0 pre0 caps0]))] [(2003, ov 77 [V.mapr 2015]), (2010, ov 122 [V.own 2056 3 0]), (2015, Tl.Obj.map (mpT o15b)), (2016, oc 118 (List.flatMap nodeC o16b)), (2056, oc 118 [])] ⟨trivial, by decide, by decide, trivial⟩ ?_
      obtain ⟨J3, hJ3, h⟩ := jn_some h
      refine WP.joinA (fun (zz : (List Nd)) => ⟨[2003, 2010, 2015, 2016, 2056], [(10, V.ref 2010 0), (9, vi v9), (4, V.own 2016 3 (List.length o16b)), (3, V.ref 2003 0), (2, V.t (T.nilm)), (1, V.t (T.ptr [T.fn g0 pre0 caps0]))], [(2003, ov 77 [V.mapr 2015]), (2010, ov 122 [V.own 2056 3 (List.length zz)]), (2015, Tl.Obj.map (mpT o15b)), (2016, oc 118 (List.flatMap nodeC o16b)), (2056, oc 118 (List.flatMap nodeC zz))]⟩) (fun zz => J3 zz = some y0) ?_ ?_
      ·refine WP.sn tm [] [] [2010, 2056, 2003, 2015, 2016] [(59, vi 0), (58, vi (ln o16b)), (57, V.own 2016 3 (List.length o16b)), (10, V.ref 2010 0), (9, vi v9), (4, V.own 2016 3 (List.length o16b)), (3, V.ref 2003 0), (2, V.t (T.nilm)), (1, V.t (T.ptr [T.fn g0 pre0 caps0]))] [(2003, ov 77 [V.mapr 2015]), (2010, ov 122 [V.own 2056 3 0]), (2015, Tl.Obj.map (mpT o15b)), (2016, oc 118 (List.flatMap nodeC o16b)), (2056, oc 118 [])] trivial ?_
       refine WP.block ?_
       refine WP.lp (α := Nat × (List Nd) × Int) (fun zz => ⟨[2003, 2010, 2015, 2016, 2056], [(59, vi zz.2.2), (58, vi (ln o16b)), (57, V.own 2016 3 (List.length o16b)), (10, V.ref 2010 0), (9, vi v9), (4, V.own 2016 3 (List.length o16b)), (3, V.ref 2003 0), (2, V.t (T.nilm)), (1, V.t (T.ptr [T.fn g0 pre0 caps0]))], [(2003, ov 77 [V.mapr 2015]), (2010, ov 122 [V.own 2056 3 (List.length zz.2.1)]), (2015, Tl.Obj.map (mpT o15b)), (2016, oc 118 (List.flatMap nodeC o16b)), (2056, oc 118 (List.flatMap nodeC zz.2.1))]⟩) (fun zz => F_i_needs_L5 p0 o16b o15b J3 zz.1 zz.2.1 zz.2.2 = some y0) (fun zz => zz.1) (fuel, ([] : List Nd), (0 : Int)) h ?_
       rintro ⟨n, o56, v59⟩ h0
       have h := (show F_i_needs_L5 p0 o16b o15b J3 n o56 v59 = some y0 from h0)
       rcases n with _ | n
       ·rw [F_i_needs_L5] at h; cases h
       ·rw [F_i_needs_L5] at h
        refine WP.sk tm [] [(True)] [(60, vb (decide (v59 < (ln o16b)))), (59, vi v59), (58, vi (ln o16b)), (57, V.own 2016 3 (List.length o16b)), (10, V.ref 2010 0), (9, vi v9), (4, V.own 2016 3 (List.length o16b)), (3, V.ref 2003 0), (2, V.t (T.nilm)), (1, V.t (T.ptr [T.fn g0 pre0 caps0]))] [(2003, ov 77 [V.mapr 2015]), (2010, ov 122 [V.own 2056 3 (List.length o56)]), (2015, Tl.Obj.map (mpT o15b)), (2016, oc 118 (List.flatMap nodeC o16b)), (2056, oc 118 (List.flatMap nodeC o56))] ⟨trivial, trivial⟩ ?_
        refine WP.seq ?_
        rcases ite_some h with ⟨h6, h⟩ | ⟨h6, h⟩
        ·refine WP.yes h6 rfl ?_
         refine WP.pk tm [] [] [(59, vi v59), (58, vi (ln o16b)), (57, V.own 2016 3 (List.length o16b)), (10, V.ref 2010 0), (9, vi v9), (4, V.own 2016 3 (List.length o16b)), (3, V.ref 2003 0), (2, V.t (T.nilm)), (1, V.t (T.ptr [T.fn g0 pre0 caps0]))] [(2003, ov 77 [V.mapr 2015]), (2010, ov 122 [V.own 2056 3 (List.length o56)]), (2015, Tl.Obj.map (mpT o15b)), (2016, oc 118 (List.flatMap nodeC o16b)), (2056, oc 118 (List.flatMap nodeC o56))] trivial ?_
         refine WP.seq ?_
         refine WP.block ?_
         refine WP.seq ?_
         obtain ⟨c0, h⟩ := chk_some h
         refine WP.path tab_ok mixed [(62, An.v (T.agg [ti ((gt o16b v59 (0, 0, 0)).1), ti ((gt o16b v59 (0, 0, 0)).2.1), ti ((gt o16b v59 (0, 0, 0)).2.2)])), (12, An.id 2012)] [.keep [12, 59, 58, 57, 10, 9, 4, 3, 2, 1], .keepO [2003, 2010, 2012, 2015, 2016, 2056], .freeze 2012] (ps := [(ib v59 o16b), ((Int.toNat v59) * 3 + 3 ≤ List.length (List.flatMap nodeC o16b)), (T.agg (List.take 3 (List.drop ((Int.toNat v59) * 3) (List.flatMap nodeC o16b))) = T.agg [ti ((gt o16b v59 (0, 0, 0)).1), ti ((gt o16b v59 (0, 0, 0)).2.1), ti ((gt o16b v59 (0, 0, 0)).2.2)]), ((0 + 3 ≤ 3 ∧ 3 = 3))]) (e := .normal) (σ' := ⟨[2012, 2003, 2010, 2015, 2016, 2056], [(12, V.t (T.ptr [ti ((gt o16b v59 (0, 0, 0)).1), ti ((gt o16b v59 (0, 0, 0)).2.1), ti ((gt o16b v59 (0, 0, 0)).2.2)])), (59, vi v59), (58, vi (ln o16b)), (57, V.own 2016 3 (List.length o16b)), (10, V.ref 2010 0), (9, vi v9), (4, V.own 2016 3 (List.length o16b)), (3, V.ref 2003 0), (2, V.t (T.nilm)), (1, V.t (T.ptr [T.fn g0 pre0 caps0]))], [(2003, ov 77 [V.mapr 2015]), (2010, ov 122 [V.own 2056 3 (List.length o56)]), (2015, Tl.Obj.map (mpT o15b)), (2016, oc 118 (List.flatMap nodeC o16b)), (2056, oc 118 (List.flatMap nodeC o56))]⟩) (by as_aux_lemma => kernel_rfl) ⟨c0, by rw [len_node]; omega, at_node (by simp) (by omega), by decide, trivial⟩ ?_
         refine WP.seq ?_
         obtain ⟨r64, c1, h⟩ := bnd1_some h
         obtain ⟨r66, c2, h⟩ := bnd1_some h
         refine WP.pn tm [(64, An.callG [(9000, 10640)] [vl [((gt o16b v59 (0, 0, 0)).1), ((gt o16b v59 (0, 0, 0)).2.1), ((gt o16b v59 (0, 0, 0)).2.2)]] [] (vo 9000 (List.length r64)) [(9000, oc 24 (List.map (fun l => T.list (List.length l) 1 (List.map (ti) l)) r64))]), (66, An.call (tb r66))] [((0 ≤ (0 : Int) ∧ (0 : Int) ≤ (3 : Int) ∧ (3 : Int) ≤ (3 : Nat) ∧ 3 * 1 ≤ 3 ∧ 3 ≤ maxLen)), (CG Tryz.prog 141 [vl [((gt o16b v59 (0, 0, 0)).1), ((gt o16b v59 (0, 0, 0)).2.1), ((gt o16b v59 (0, 0, 0)).2.2)]] [] (vo 9000 (List.length r64)) [(9000, oc 24 (List.map (fun l => T.list (List.length l) 1 (List.map (ti) l)) r64))]), (WkT (T.list 3 1 [ti ((gt o16b v59 (0, 0, 0)).1), ti ((gt o16b v59 (0, 0, 0)).2.1), ti ((gt o16b v59 (0, 0, 0)).2.2)]) (tl [((gt o16b v59 (0, 0, 0)).1), ((gt o16b v59 (0, 0, 0)).2.1), ((gt o16b v59 (0, 0, 0)).2.2)])), (C Tryz.prog 140 [T.list (List.length r64) 1 (List.map (fun l => T.list (List.length l) 1 (List.map (ti) l)) r64), T.fn 142 [] [T.ptr [T.fn g0 pre0 caps0], T.ptr [ti ((gt o16b v59 (0, 0, 0)).1), ti ((gt o16b v59 (0, 0, 0)).2.1), ti ((gt o16b v59 (0, 0, 0)).2.2)], T.ptr [mapT (mpT o15b)]]] (tb r66)), (List.length (List.map (fun l => T.list (List.length l) 1 (List.map (ti) l)) r64) = (List.length r64) * 1)] [10640, 2012, 2003, 2010, 2015, 2016, 2056] [(66, vb r66), (12, V.t (T.ptr [ti ((gt o16b v59 (0, 0, 0)).1), ti ((gt o16b v59 (0, 0, 0)).2.1), ti ((gt o16b v59 (0, 0, 0)).2.2)])), (59, vi v59), (58, vi (ln o16b)), (57, V.own 2016 3 (List.length o16b)), (10, V.ref 2010 0), (9, vi v9), (4, V.own 2016 3 (List.length o16b)), (3, V.ref 2003 0), (2, V.t (T.nilm)), (1, V.t (T.ptr [T.fn g0 pre0 caps0]))] [(2003, ov 77 [V.mapr 2015]), (2010, ov 122 [V.own 2056 3 (List.length o56)]), (2015, Tl.Obj.map (mpT o15b)), (2016, oc 118 (List.flatMap nodeC o16b)), (2056, oc 118 (List.flatMap nodeC o56))] ⟨by decide, (F_i_splits_W [((gt o16b v59 (0, 0, 0)).1), ((gt o16b v59 (0, 0, 0)).2.1), ((gt o16b v59 (0, 0, 0)).2.2)] r64 c1), WkT.eq (WkT.refl _) (by first | rfl | (simp only [tlS, tl, vl, vo, oc, ov, tbl, vbl, ty, vy] <;> rfl) | (simp <;> omega) | (simp []; done) | (rw [List.take_of_length_le (by simp [])] <;> rfl) | (simp [List.take_of_length_le]; done)), (F_sCi_W r64 142 [] [T.ptr [T.fn g0 pre0 caps0], T.ptr [ti ((gt o16b v59 (0, 0, 0)).1), ti ((gt o16b v59 (0, 0, 0)).2.1), ti ((gt o16b v59 (0, 0, 0)).2.2)], T.ptr [mapT (mpT o15b)]] (fun u0 => F_i_needs_1 u0 p0 ((gt o16b v59 (0, 0, 0)).1) ((gt o16b v59 (0, 0, 0)).2.1) ((gt o16b v59 (0, 0, 0)).2.2) o15b) (fun u0 w0 hh => F_i_needs_1_W u0 g0 pre0 caps0 p0 hp0 ((gt o16b v59 (0, 0, 0)).1) ((gt o16b v59 (0, 0, 0)).2.1) ((gt o16b v59 (0, 0, 0)).2.2) o15b w0 hh) r66 c2), by first | rfl | omega | (simp only [tlL] <;> omega) | (simp <;> omega) | (simp [] <;> omega), trivial⟩ ?_
         rcases ite_some h with ⟨h7, h⟩ | ⟨h7, h⟩
         ·refine WP.yes h7 rfl ?_
          obtain ⟨c3, h⟩ := chk_some h
          refine WP.pn tm [(69, An.fz), (70, An.id 2070)] [(True), (3 ≤ 3), ((3 = 3 ∧ 0 + 3 ≤ 3) ∧ True), (3 = 1 * 3), (True), (List.length (List.flatMap nodeC o56) = (List.length o56) * 3), ((((List.length o56) + 1) * 24 ≤ 140737488355328 ∧ (List.length o56) + 1 ≤ maxLen)), (0 < 1)] [2070, 10640, 2012, 2003, 2010, 2015, 2016, 2056] [(59, vi v59), (58, vi (ln o16b)), (57, V.own 2016 3 (List.length o16b)), (10, V.ref 2010 0), (9, vi v9), (4, V.own 2016 3 (List.length o16b)), (3, V.ref 2003 0), (2, V.t (T.nilm)), (1, V.t (T.ptr [T.fn g0 pre0 caps0]))] [(2003, ov 77 [V.mapr 2015]), (2010, ov 122 [V.own 2070 3 ((List.length o56) + 1)]), (2015, Tl.Obj.map (mpT o15b)), (2016, oc 118 (List.flatMap nodeC o16b)), (2070, oc 118 ((List.flatMap nodeC o56) ++ [ti ((gt o16b v59 (0, 0, 0)).1), ti ((gt o16b v59 (0, 0, 0)).2.1), ti ((gt o16b v59 (0, 0, 0)).2.2)]))] ⟨trivial, by decide, ⟨⟨by first | rfl | (simp; done) | (simp []; done) | omega, by first | decide | (simp; done) | (simp []; done) | omega | (simp only [tlL]; omega) | (simp; omega)⟩, trivial⟩, by decide, trivial, by first | exact len_node _ | (rw [len_node]; first | done | omega | (simp; done) | (simp only [tlL]; omega) | (simp; omega)), c3, by decide, trivial⟩ ?_
          obtain ⟨c4, h⟩ := chk_some h
          refine WP.nk tm [(71, An.v (ti (v59 + 1)))] [(2003, 2003), (2010, 2010), (2015, 2015), (2016, 2016), (2070, 2056)] .normal [(True), (wr (v59 + 1))] [(59, vi (v59 + 1)), (58, vi (ln o16b)), (57, V.own 2016 3 (List.length o16b)), (10, V.ref 2010 0), (9, vi v9), (4, V.own 2016 3 (List.length o16b)), (3, V.ref 2003 0), (2, V.t (T.nilm)), (1, V.t (T.ptr [T.fn g0 pre0 caps0]))] [(2003, ov 77 [V.mapr 2015]), (2010, ov 122 [V.own 2056 3 ((List.length o56) + 1)]), (2015, Tl.Obj.map (mpT o15b)), (2016, oc 118 (List.flatMap nodeC o16b)), (2056, oc 118 ((List.flatMap nodeC o56) ++ [ti ((gt o16b v59 (0, 0, 0)).1), ti ((gt o16b v59 (0, 0, 0)).2.1), ti ((gt o16b v59 (0, 0, 0)).2.2)]))] ⟨trivial, wrapI c4, trivial⟩ ?_
          exact ⟨(n, o56 ++ [(((gt o16b v59 (0, 0, 0)).1), ((gt o16b v59 (0, 0, 0)).2.1), ((gt o16b v59 (0, 0, 0)).2.2))], (v59 + 1)), h, Nat.lt_succ_self _, (by first | rfl | (simp only [tlS, tl, vl, vo, oc, ov, tbl, vbl, ty, vy] <;> rfl) | (simp <;> omega) | (simp []; done) | (rw [List.take_of_length_le (by simp [])] <;> rfl) | (simp [List.take_of_length_le]; done))⟩
         ·refine WP.no h7 rfl ?_
          refine WP.pn tm [] [] [10640, 2012, 2003, 2010, 2015, 2016, 2056] [(59, vi v59), (58, vi (ln o16b)), (57, V.own 2016 3 (List.length o16b)), (10, V.ref 2010 0), (9, vi v9), (4, V.own 2016 3 (List.length o16b)), (3, V.ref 2003 0), (2, V.t (T.nilm)), (1, V.t (T.ptr [T.fn g0 pre0 caps0]))] [(2003, ov 77 [V.mapr 2015]), (2010, ov 122 [V.own 2056 3 (List.length o56)]), (2015, Tl.Obj.map (mpT o15b)), (2016, oc 118 (List.flatMap nodeC o16b)), (2056, oc 118 (List.flatMap nodeC o56))] trivial ?_
          obtain ⟨c3, h⟩ := chk_some h
          refine WP.qk tm [(71, An.v (ti (v59 + 1)))] [(True), (wr (v59 + 1))] [(59, vi (v59 + 1)), (58, vi (ln o16b)), (57, V.own 2016 3 (List.length o16b)), (10, V.ref 2010 0), (9, vi v9), (4, V.own 2016 3 (List.length o16b)), (3, V.ref 2003 0), (2, V.t (T.nilm)), (1, V.t (T.ptr [T.fn g0 pre0 caps0]))] [(2003, ov 77 [V.mapr 2015]), (2010, ov 122 [V.own 2056 3 (List.length o56)]), (2015, Tl.Obj.map (mpT o15b)), (2016, oc 118 (List.flatMap nodeC o16b)), (2056, oc 118 (List.flatMap nodeC o56))] ⟨trivial, wrapI c3, trivial⟩ ?_
          exact ⟨(n, o56, (v59 + 1)), h, Nat.lt_succ_self _, rfl⟩
        ·refine WP.no h6 rfl ?_
         refine WP.eq tm [] 8 [] [(10, V.ref 2010 0), (9, vi v9), (4, V.own 2016 3 (List.length o16b)), (3, V.ref 2003 0), (2, V.t (T.nilm)), (1, V.t (T.ptr [T.fn g0 pre0 caps0]))] [(2003, ov 77 [V.mapr 2015]), (2010, ov 122 [V.own 2056 3 (List.length o56)]), (2015, Tl.Obj.map (mpT o15b)), (2016, oc 118 (List.flatMap nodeC o16b)), (2056, oc 118 (List.flatMap nodeC o56))] trivial ?_
         exact ⟨(o56), h, rfl⟩
      ·intro o56 h0
       have h := (show J3 o56 = some y0 from h0)
       rw [hJ3] at h
       refine WP.wk [.freeze 2056] (ps := [List.length (List.flatMap nodeC o56) = (List.length o56) * 3]) (σ' := ⟨[2003, 2010, 2015, 2016, 2056], [(10, V.ref 2010 0), (9, vi v9), (4, V.own 2016 3 (List.length o16b)), (3, V.ref 2003 0), (2, V.t (T.nilm)), (1, V.t (T.ptr [T.fn g0 pre0 caps0]))], [(2003, ov 77 [V.mapr 2015]), (2010, ov 122 [V.t (T.list (List.length o56) 3 (List.flatMap nodeC o56))]), (2015, Tl.Obj.map (mpT o15b)), (2016, oc 118 (List.flatMap nodeC o16b))]⟩) (by as_aux_lemma => kernel_rfl) ⟨by first | exact len_node _ | (rw [len_node]; first | done | omega | (simp; done) | (simp; omega)), trivial⟩ ?_
       obtain ⟨J3, hJ3, h⟩ := jn_some h
       refine WP.joinA (fun (zz : (List (K3 × Int))) => ⟨[2003, 2010, 2015, 2016], [(10, V.ref 2010 0), (9, vi v9), (4, V.own 2016 3 (List.length o16b)), (3, V.ref 2003 0), (2, V.t (T.nilm)), (1, V.t (T.ptr [T.fn g0 pre0 caps0]))], [(2003, ov 77 [V.mapr 2015]), (2010, ov 122 [V.t (T.list (List.length o56) 3 (List.flatMap nodeC o56))]), (2015, Tl.Obj.map (mpT zz)), (2016, oc 118 (List.flatMap nodeC o16b))]⟩) (fun zz => J3 zz = some y0) ?_ ?_
       ·refine WP.sn tm [] [(True)] [2003, 2010, 2015, 2016, 2056] [(74, vi 0), (73, vi (ln o56)), (72, V.t (T.list (List.length o56) 3 (List.flatMap nodeC o56))), (10, V.ref 2010 0), (9, vi v9), (4, V.own 2016 3 (List.length o16b)), (3, V.ref 2003 0), (2, V.t (T.nilm)), (1, V.t (T.ptr [T.fn g0 pre0 caps0]))] [(2003, ov 77 [V.mapr 2015]), (2010, ov 122 [V.t (T.list (List.length o56) 3 (List.flatMap nodeC o56))]), (2015, Tl.Obj.map (mpT o15b)), (2016, oc 118 (List.flatMap nodeC o16b))] ⟨trivial, trivial⟩ ?_
        refine WP.block ?_
        refine WP.lp (α := Nat × (List (K3 × Int)) × Int) (fun zz => ⟨[2003, 2010, 2015, 2016], [(74, vi zz.2.2), (73, vi (ln o56)), (72, V.t (T.list (List.length o56) 3 (List.flatMap nodeC o56))), (10, V.ref 2010 0), (9, vi v9), (4, V.own 2016 3 (List.length o16b)), (3, V.ref 2003 0), (2, V.t (T.nilm)), (1, V.t (T.ptr [T.fn g0 pre0 caps0]))], [(2003, ov 77 [V.mapr 2015]), (2010, ov 122 [V.t (T.list (List.length o56) 3 (List.flatMap nodeC o56))]), (2015, Tl.Obj.map (mpT zz.2.1)), (2016, oc 118 (List.flatMap nodeC o16b))]⟩) (fun zz => F_i_needs_L6 v9 o56 J3 zz.1 zz.2.1 zz.2.2 = some y0) (fun zz => zz.1) (fuel, o15b, (0 : Int)) h ?_
        rintro ⟨n, o15c, v74⟩ h0
        have h := (show F_i_needs_L6 v9 o56 J3 n o15c v74 = some y0 from h0)
        rcases n with _ | n
        ·rw [F_i_needs_L6] at h; cases h
        ·rw [F_i_needs_L6] at h
         refine WP.sk tm [] [(True)] [(75, vb (decide (v74 < (ln o56)))), (74, vi v74), (73, vi (ln o56)), (72, V.t (T.list (List.length o56) 3 (List.flatMap nodeC o56))), (10, V.ref 2010 0), (9, vi v9), (4, V.own 2016 3 (List.length o16b)), (3, V.ref 2003 0), (2, V.t (T.nilm)), (1, V.t (T.ptr [T.fn g0 pre0 caps0]))] [(2003, ov 77 [V.mapr 2015]), (2010, ov 122 [V.t (T.list (List.length o56) 3 (List.flatMap nodeC o56))]), (2015, Tl.Obj.map (mpT o15c)), (2016, oc 118 (List.flatMap nodeC o16b))] ⟨trivial, trivial⟩ ?_
         refine WP.seq ?_
         rcases ite_some h with ⟨h8, h⟩ | ⟨h8, h⟩
         ·refine WP.yes h8 rfl ?_
          refine WP.pk tm [] [] [(74, vi v74), (73, vi (ln o56)), (72, V.t (T.list (List.length o56) 3 (List.flatMap nodeC o56))), (10, V.ref 2010 0), (9, vi v9), (4, V.own 2016 3 (List.length o16b)), (3, V.ref 2003 0), (2, V.t (T.nilm)), (1, V.t (T.ptr [T.fn g0 pre0 caps0]))] [(2003, ov 77 [V.mapr 2015]), (2010, ov 122 [V.t (T.list (List.length o56) 3 (List.flatMap nodeC o56))]), (2015, Tl.Obj.map (mpT o15c)), (2016, oc 118 (List.flatMap nodeC o16b))] trivial ?_
          refine WP.seq ?_
          refine WP.block ?_
          obtain ⟨c0, h⟩ := chk_some h
          refine WP.pn tm [(77, An.v (T.agg [ti ((gt o56 v74 (0, 0, 0)).1), ti ((gt o56 v74 (0, 0, 0)).2.1), ti ((gt o56 v74 (0, 0, 0)).2.2)])), (14, An.id 2014), (2000078, An.mp (mpT (tput o15c (((gt o56 v74 (0, 0, 0)).1), ((gt o56 v74 (0, 0, 0)).2.1), ((gt o56 v74 (0, 0, 0)).2.2)) v9)))] [(ib v74 o56), (3 ≤ List.length (List.drop ((Int.toNat v74) * 3) (List.flatMap nodeC o56))), (T.agg (List.take 3 (List.drop ((Int.toNat v74) * 3) (List.flatMap nodeC o56))) = T.agg [ti ((gt o56 v74 (0, 0, 0)).1), ti ((gt o56 v74 (0, 0, 0)).2.1), ti ((gt o56 v74 (0, 0, 0)).2.2)]), ((0 + 3 ≤ 3 ∧ 3 = 3)), (True), (0 + 3 ≤ 3), (∃ G, KeyRun Tryz.prog 118 G ∧ G (T.agg [ti ((gt o56 v74 (0, 0, 0)).1), ti ((gt o56 v74 (0, 0, 0)).2.1), ti ((gt o56 v74 (0, 0, 0)).2.2)]) ∧ ∀ x ∈ mpT o15c, G x.1), (putT (mpT o15c) (T.agg [ti ((gt o56 v74 (0, 0, 0)).1), ti ((gt o56 v74 (0, 0, 0)).2.1), ti ((gt o56 v74 (0, 0, 0)).2.2)]) (ti v9) = mpT (tput o15c (((gt o56 v74 (0, 0, 0)).1), ((gt o56 v74 (0, 0, 0)).2.1), ((gt o56 v74 (0, 0, 0)).2.2)) v9))] [2014, 2003, 2010, 2015, 2016] [(74, vi v74), (73, vi (ln o56)), (72, V.t (T.list (List.length o56) 3 (List.flatMap nodeC o56))), (10, V.ref 2010 0), (9, vi v9), (4, V.own 2016 3 (List.length o16b)), (3, V.ref 2003 0), (2, V.t (T.nilm)), (1, V.t (T.ptr [T.fn g0 pre0 caps0]))] [(2003, ov 77 [V.mapr 2015]), (2010, ov 122 [V.t (T.list (List.length o56) 3 (List.flatMap nodeC o56))]), (2015, Tl.Obj.map (mpT (tput o15c (((gt o56 v74 (0, 0, 0)).1), ((gt o56 v74 (0, 0, 0)).2.1), ((gt o56 v74 (0, 0, 0)).2.2)) v9))), (2016, oc 118 (List.flatMap nodeC o16b))] ⟨c0, fit_node (i := Int.toNat v74) (by simp) (by omega), at_node (by simp) (by omega), by decide, trivial, by decide, keys_tri Tryz.underlying118 Tryz.underlying3 (by as_aux_lemma => kernel_rfl) (by as_aux_lemma => kernel_rfl) o15c (((gt o56 v74 (0, 0, 0)).1), ((gt o56 v74 (0, 0, 0)).2.1), ((gt o56 v74 (0, 0, 0)).2.2)), put_tri o15c (((gt o56 v74 (0, 0, 0)).1), ((gt o56 v74 (0, 0, 0)).2.1), ((gt o56 v74 (0, 0, 0)).2.2)) v9, trivial⟩ ?_
          obtain ⟨c1, h⟩ := chk_some h
          refine WP.qk tm [(81, An.v (ti (v74 + 1)))] [(True), (wr (v74 + 1))] [(74, vi (v74 + 1)), (73, vi (ln o56)), (72, V.t (T.list (List.length o56) 3 (List.flatMap nodeC o56))), (10, V.ref 2010 0), (9, vi v9), (4, V.own 2016 3 (List.length o16b)), (3, V.ref 2003 0), (2, V.t (T.nilm)), (1, V.t (T.ptr [T.fn g0 pre0 caps0]))] [(2003, ov 77 [V.mapr 2015]), (2010, ov 122 [V.t (T.list (List.length o56) 3 (List.flatMap nodeC o56))]), (2015, Tl.Obj.map (mpT (tput o15c (((gt o56 v74 (0, 0, 0)).1), ((gt o56 v74 (0, 0, 0)).2.1), ((gt o56 v74 (0, 0, 0)).2.2)) v9))), (2016, oc 118 (List.flatMap nodeC o16b))] ⟨trivial, wrapI c1, trivial⟩ ?_
          exact ⟨(n, (tput o15c (((gt o56 v74 (0, 0, 0)).1), ((gt o56 v74 (0, 0, 0)).2.1), ((gt o56 v74 (0, 0, 0)).2.2)) v9), (v74 + 1)), h, Nat.lt_succ_self _, rfl⟩
         ·refine WP.no h8 rfl ?_
          refine WP.eq tm [] 10 [] [(10, V.ref 2010 0), (9, vi v9), (4, V.own 2016 3 (List.length o16b)), (3, V.ref 2003 0), (2, V.t (T.nilm)), (1, V.t (T.ptr [T.fn g0 pre0 caps0]))] [(2003, ov 77 [V.mapr 2015]), (2010, ov 122 [V.t (T.list (List.length o56) 3 (List.flatMap nodeC o56))]), (2015, Tl.Obj.map (mpT o15c)), (2016, oc 118 (List.flatMap nodeC o16b))] trivial ?_
          exact ⟨(o15c), h, rfl⟩
       ·intro o15c h0
        have h := (show J3 o15c = some y0 from h0)
        rw [hJ3] at h
        obtain ⟨r84, c0, h⟩ := bnd1_some h
        refine WP.qk tm [(84, An.callG [(500, 2016)] [V.own 500 3 (List.length o16b), V.t (T.fn 144 [] [T.ptr [T.list (List.length o56) 3 (List.flatMap nodeC o56)]])] [(500, oc 118 (List.flatMap nodeC o16b))] (V.own 500 3 (List.length r84)) [(500, oc 118 (List.flatMap nodeC r84))])] [(CG Tryz.prog 143 [V.own 500 3 (List.length o16b), V.t (T.fn 144 [] [T.ptr [T.list (List.length o56) 3 (List.flatMap nodeC o56)]])] [(500, oc 118 (List.flatMap nodeC o16b))] (V.own 500 3 (List.length r84)) [(500, oc 118 (List.flatMap nodeC r84))]), ((V.own 500 3 (List.length r84)).flat = true), (flatO [(500, oc 118 (List.flatMap nodeC r84))] = true), ((V.own 500 3 (List.length o16b)).ren (renF [(500, 2016)]) = V.own 2016 3 (List.length o16b)), (WkT (T.fn 144 [] [T.ptr [T.list (List.length o56) 3 (List.flatMap nodeC o56)]]) (T.fn 144 [] [T.ptr [T.list (List.length o56) 3 (List.flatMap nodeC o56)]])), (rn (oc 118 (List.flatMap nodeC o16b)) [(500, 2016)])] [(4, V.own 2016 3 (List.length r84)), (9, vi v9), (3, V.ref 2003 0), (2, V.t (T.nilm)), (1, V.t (T.ptr [T.fn g0 pre0 caps0]))] [(2003, ov 77 [V.mapr 2015]), (2015, Tl.Obj.map (mpT o15c)), (2016, oc 118 (List.flatMap nodeC r84))] ⟨(F_sDt_W o16b 144 [] [T.ptr [T.list (List.length o56) 3 (List.flatMap nodeC o56)]] (fun u0 u1 u2 => F_i_needs_2 u0 u1 u2 o56) (fun u0 u1 u2 w0 hh => F_i_needs_2_W u0 u1 u2 o56 w0 hh) r84 c0), by first | rfl | (simp [V.flats, V.flat, T.flats, T.flat, flats_app, flats_int, flats_bool, flats_str, flats_node, flats_asked, flats_pair, flats_recs, flats_fact, flatEs_mpB, flatEs_mpI, flatEs_mp3]; done), by first | rfl | (simp [flatO, Tl.Obj.flat, V.flats, V.flat, T.flats, T.flat, flats_app, flats_int, flats_bool, flats_str, flats_node, flats_asked, flats_pair, flats_recs, flats_fact, flatEs_mpB, flatEs_mpI, flatEs_mp3]; done), by first | rfl | (simp [V.ren, V.renL, renF, lk]; done) | (simp [V.ren, V.renL, renF, lk]; omega), WkT.refl _, rfl, trivial⟩ ?_
        exact ⟨(r84, o15c), h, rfl⟩
     ·rintro ⟨o16c, o15c⟩ h0
      have h := (show J2 o16c o15c = some y0 from h0)
      rw [hJ2] at h
      obtain ⟨c0, h⟩ := chk_some h
      refine WP.qk tm [(55, An.v (ti (v9 + 1)))] [(True), (wr (v9 + 1))] [(9, vi (v9 + 1)), (4, V.own 2016 3 (List.length o16c)), (3, V.ref 2003 0), (2, V.t (T.nilm)), (1, V.t (T.ptr [T.fn g0 pre0 caps0]))] [(2003, ov 77 [V.mapr 2015]), (2015, Tl.Obj.map (mpT o15c)), (2016, oc 118 (List.flatMap nodeC o16c))] ⟨trivial, wrapI c0, trivial⟩ ?_
      exact ⟨(n, o16c, o15c, (v9 + 1)), h, Nat.lt_succ_self _, rfl⟩
    ·refine WP.no h5 rfl ?_
     refine WP.eq tm [] 6 [] [(3, V.ref 2003 0), (2, V.t (T.nilm))] [(2003, ov 77 [V.mapr 2015]), (2015, Tl.Obj.map (mpT o15b))] trivial ?_
     exact ⟨(o15b), h, rfl⟩
  ·intro o15b h0
   have h := (show J1 o15b = some y0 from h0)
   rw [hJ1] at h
   have h := Option.some.inj h
   subst h
   exact WP.pathG tab_ok mixed [] [.keep [2], .keepO [2015], .names [(2015, 9000)]] [9000] _ (r' := V.mapr 9000) (ps := [(True)]) (r := V.mapr 9000) (N := [9000]) (O := [(9000, Tl.Obj.map (mpT o15b))]) [] (by as_aux_lemma => kernel_rfl) ⟨trivial, trivial⟩ ⟨(by first | rfl | (simp only [tlS, tl, vl, vo, oc, ov, tbl, vbl, ty, vy] <;> rfl) | (simp <;> omega) | (simp []; done) | (rw [List.take_of_length_le (by simp [])] <;> rfl) | (simp [List.take_of_length_le]; done)), trivial⟩ rfl rfl (fun _ h => h)
theorem F_i_neederOf_W (g0 : FuncId) (pre0 caps0 : List T) (p0 : (List Int) → (List Int) → Option ((List Int) × (List Int))) (hp0 : ∀ (a0_0 : List Int) (a0_1 : List Int) (b0_2 : List Int) (b0_3 : List Int), p0 a0_0 a0_1 = some (b0_2, b0_3) → C Tryz.prog g0 (pre0 ++ ([tl a0_0, tl a0_1] ++ caps0)) (T.tup [tl b0_2, tl b0_3])) (y0 : List (K3 × Int)) (h : F_i_neederOf p0 = some y0) : C Tryz.prog 58 [T.fn g0 pre0 caps0] (T.agg [T.fn g0 pre0 caps0, mapT (mpT y0)]) := by
 unfold F_i_neederOf at h
 refine C.intro (tab := tab) tab_ok (fn := Tryz.f58) Tryz.func58 (by kernel_rfl) rfl (Nat.le_of_ble_eq_true rfl) ?_
 obtain ⟨r5, c0, h⟩ := bnd1_some h
 have h := Option.some.inj h
 subst h
 exact WP.pathW tab_ok mixed [(2, An.id 2002), (5, An.callG [(9000, 10050)] [V.t (T.fn g0 pre0 caps0)] [] (V.mapr 9000) [(9000, Tl.Obj.map (mpT r5))])] _ (ps := [(CG Tryz.prog 112 [V.t (T.fn g0 pre0 caps0)] [] (V.mapr 9000) [(9000, Tl.Obj.map (mpT r5))]), (WkT (T.fn g0 pre0 caps0) (T.fn g0 pre0 caps0)), ((1 = 1 ∧ 0 + 1 ≤ 2) ∧ (1 = 1 ∧ 1 + 1 ≤ 2) ∧ True), ((0 + 2 ≤ 2 ∧ 2 = 2)), (0 + 2 ≤ 2)]) (r := T.agg [T.fn g0 pre0 caps0, mapT (mpT r5)]) (by kernel_rfl) ⟨(F_i_needs_W g0 pre0 caps0 p0 hp0 r5 c0), WkT.refl _, ⟨⟨by decide, by decide⟩, ⟨by decide, by decide⟩, trivial⟩, by decide, by decide, trivial⟩ (WkT.eq (y := T.agg [T.fn g0 pre0 caps0, mapT (mpT r5)]) (WkT.refl _) rfl) (fun _ h => h)
theorem F_i_left_W (x0 : List Int) (x1 : List Int) (y0 : List Int) (h : F_i_left x0 x1 = some y0) : CG Tryz.prog 113 [vl x0, vl x1] [] (vo 9000 (List.length y0)) [(9000, oc 3 (List.map (ti) y0))] := by
 unfold F_i_left at h
 refine CG.intro (tab := tab) tab_ok (fn := Tryz.f113) Tryz.func113 (by kernel_rfl) rfl (Nat.le_of_ble_eq_true rfl) (by kernel_rfl) ?_
 refine WP.sk tm [] [] [(4, V.t (T.nils)), (0, vl x0), (1, vl x1)] [] trivial ?_
 refine WP.sk tm [(8, An.id 2008)] [(True), (0 = 0 * 1)] [(5, vo 2008 0), (4, V.t (T.nils)), (0, vl x0), (1, vl x1)] [(2008, oc 3 [])] ⟨trivial, by decide, trivial⟩ ?_
 obtain ⟨J1, hJ1, h⟩ := jn_some h
 refine WP.joinA (fun (zz : (List Int)) => ⟨[2008], [(5, vo 2008 (List.length zz)), (4, V.t (T.nils))], [(2008, oc 3 (List.map (ti) zz))]⟩) (fun zz => J1 zz = some y0) ?_ ?_
 ·refine WP.sk tm [] [] [(11, vi 0), (10, vi (ln x1)), (9, vl x1), (5, vo 2008 0), (4, V.t (T.nils)), (0, vl x0)] [(2008, oc 3 [])] trivial ?_
  refine WP.block ?_
  refine WP.lp (α := Nat × (List Int) × Int) (fun zz => ⟨[2008], [(11, vi zz.2.2), (10, vi (ln x1)), (9, vl x1), (5, vo 2008 (List.length zz.2.1)), (4, V.t (T.nils)), (0, vl x0)], [(2008, oc 3 (List.map (ti) zz.2.1))]⟩) (fun zz => F_i_left_L1 x0 x1 J1 zz.1 zz.2.1 zz.2.2 = some y0) (fun zz => zz.1) (fuel, ([] : List Int), (0 : Int)) h ?_
  rintro ⟨n, o8, v11⟩ h0
  have h := (show F_i_left_L1 x0 x1 J1 n o8 v11 = some y0 from h0)
  rcases n with _ | n
  ·rw [F_i_left_L1] at h; cases h
  ·rw [F_i_left_L1] at h
   refine WP.sk tm [] [(True)] [(12, vb (decide (v11 < (ln x1)))), (11, vi v11), (10, vi (ln x1)), (9, vl x1), (5, vo 2008 (List.length o8)), (4, V.t (T.nils)), (0, vl x0)] [(2008, oc 3 (List.map (ti) o8))] ⟨trivial, trivial⟩ ?_
   refine WP.seq ?_
   rcases ite_some h with ⟨h1, h⟩ | ⟨h1, h⟩
   ·refine WP.yes h1 rfl ?_
    refine WP.pk tm [] [] [(11, vi v11), (10, vi (ln x1)), (9, vl x1), (5, vo 2008 (List.length o8)), (4, V.t (T.nils)), (0, vl x0)] [(2008, oc 3 (List.map (ti) o8))] trivial ?_
    refine WP.seq ?_
    refine WP.block ?_
    obtain ⟨c0, c1, h⟩ := chk2 h
    obtain ⟨c2, h⟩ := chk_some h
    obtain ⟨n22, c3, h⟩ := nam_some h
    obtain ⟨c4, h⟩ := chk_some h
    refine WP.pn tm [(15, An.v (ti (gt x1 v11 0))), (20, An.v (ti (gt x0 v11 0))), (22, An.v (ti n22)), (23, An.fz), (24, An.id 2024)] [(ib v11 x1), ((List.drop ((Int.toNat v11) * 1) (List.map (ti) x1) : List T)[0]? = some (ti (gt x1 v11 0))), (rf (ti (gt x1 v11 0))), (ib v11 x0), ((List.drop ((Int.toNat v11) * 1) (List.map (ti) x0) : List T)[0]? = some (ti (gt x0 v11 0))), (rf (ti (gt x0 v11 0))), (True), (ti (IntKind.wrap .i64 ((gt x0 v11 0) - (gt x1 v11 0))) = ti n22), ((1 = 1 ∧ 0 + 1 ≤ 1) ∧ True), (1 = 1 * 1), (True), (List.length (List.map (ti) o8) = (List.length o8) * 1), ((((List.length o8) + 1) * 8 ≤ 140737488355328 ∧ (List.length o8) + 1 ≤ maxLen))] [2024, 2008] [(5, vo 2024 ((List.length o8) + 1)), (11, vi v11), (10, vi (ln x1)), (9, vl x1), (4, V.t (T.nils)), (0, vl x0)] [(2024, oc 3 ((List.map (ti) o8) ++ [ti n22]))] ⟨c0, at1 (by simp) (by omega), rfl, c1, at1 (by simp) (by omega), rfl, trivial, Eq.trans (wrapI c2) (congrArg (ti) c3), ⟨⟨by first | rfl | (simp; done) | (simp []; done) | omega, by first | decide | (simp; done) | (simp []; done) | omega | (simp only [tlL]; omega) | (simp; omega)⟩, trivial⟩, by decide, trivial, by first | rfl | omega | (simp only [tlL] <;> omega) | (simp <;> omega) | (simp [] <;> omega), c4, trivial⟩ ?_
    obtain ⟨c5, h⟩ := chk_some h
    refine WP.nk tm [(25, An.v (ti (v11 + 1)))] [(2024, 2008)] .normal [(True), (wr (v11 + 1))] [(11, vi (v11 + 1)), (10, vi (ln x1)), (9, vl x1), (5, vo 2008 ((List.length o8) + 1)), (4, V.t (T.nils)), (0, vl x0)] [(2008, oc 3 ((List.map (ti) o8) ++ [ti n22]))] ⟨trivial, wrapI c5, trivial⟩ ?_
    exact ⟨(n, o8 ++ [n22], (v11 + 1)), h, Nat.lt_succ_self _, (by first | rfl | (simp only [tlS, tl, vl, vo, oc, ov, tbl, vbl, ty, vy] <;> rfl) | (simp <;> omega) | (simp []; done) | (rw [List.take_of_length_le (by simp [])] <;> rfl) | (simp [List.take_of_length_le]; done))⟩
   ·refine WP.no h1 rfl ?_
    refine WP.eq tm [] 0 [] [(5, vo 2008 (List.length o8)), (4, V.t (T.nils))] [(2008, oc 3 (List.map (ti) o8))] trivial ?_
    exact ⟨(o8), h, rfl⟩
 ·intro o8 h0
  have h := (show J1 o8 = some y0 from h0)
  rw [hJ1] at h
  have h := Option.some.inj h
  subst h
  exact WP.pathG tab_ok mixed [] [.keep [4], .keepO [2008], .names [(2008, 9000)]] [9000] _ (r' := vo 9000 (List.length o8)) (ps := []) (r := vo 9000 (List.length o8)) (N := [9000]) (O := [(9000, oc 3 (List.map (ti) o8))]) [] (by kernel_rfl) trivial ⟨rfl, trivial⟩ rfl rfl (fun _ h => h)
theorem F_i_left_W_C (x0 : List Int) (x1 : List Int) (y0 : List Int) (h : F_i_left x0 x1 = some y0) : C Tryz.prog 113 [tl x0, tl x1] (tl y0) :=
 CG.toC (ps := [(List.length (List.map (ti) y0) = (List.length y0) * 1)]) (F_i_left_W  x0 x1 y0 h) (by rfl) ⟨by first | rfl | omega | (simp <;> omega) | (simp [hl] <;> omega), trivial⟩
theorem F_i_moved_W (x0 : List Int) (x1 : List Int) (y0 : List Int) (h : F_i_moved x0 x1 = some y0) : CG Tryz.prog 114 [vl x0, vl x1] [] (vo 9000 (List.length y0)) [(9000, oc 3 (List.map (ti) y0))] := by
 unfold F_i_moved at h
 refine CG.intro (tab := tab) tab_ok (fn := Tryz.f114) Tryz.func114 (by kernel_rfl) rfl (Nat.le_of_ble_eq_true rfl) (by kernel_rfl) ?_
 refine WP.sk tm [] [] [(4, V.t (T.nils)), (0, vl x0), (1, vl x1)] [] trivial ?_
 refine WP.seq ?_
 obtain ⟨c0, h⟩ := chk_some h
 refine WP.pk tm [(8, An.callG [(9000, 10080)] [vl x0] [] (vo 9000 (List.length x0)) [(9000, oc 3 (List.map (ti) x0))])] [(CG Tryz.prog 111 [vl x0] [] (vo 9000 (List.length x0)) [(9000, oc 3 (List.map (ti) x0))]), (WkT (tl x0) (tl x0))] [(5, vo 10080 (List.length x0)), (4, V.t (T.nils)), (1, vl x1)] [(10080, oc 3 (List.map (ti) x0))] ⟨(clone_C_G x0 c0), WkT.refl _, trivial⟩ ?_
 obtain ⟨J1, hJ1, h⟩ := jn_some h
 refine WP.joinA (fun (zz : (List Int)) => ⟨[10080], [(5, vo 10080 (List.length zz)), (4, V.t (T.nils))], [(10080, oc 3 (List.map (ti) zz))]⟩) (fun zz => J1 zz = some y0) ?_ ?_
 ·refine WP.sk tm [] [] [(6, vi 1), (5, vo 10080 (List.length x0)), (4, V.t (T.nils)), (1, vl x1)] [(10080, oc 3 (List.map (ti) x0))] trivial ?_
  refine WP.block ?_
  refine WP.lp (α := Nat × (List Int) × Int) (fun zz => ⟨[10080], [(6, vi zz.2.2), (5, vo 10080 (List.length zz.2.1)), (4, V.t (T.nils)), (1, vl x1)], [(10080, oc 3 (List.map (ti) zz.2.1))]⟩) (fun zz => F_i_moved_L1 x1 J1 zz.1 zz.2.1 zz.2.2 = some y0) (fun zz => zz.1) (fuel, x0, (1 : Int)) h ?_
  rintro ⟨n, o10080, v6⟩ h0
  have h := (show F_i_moved_L1 x1 J1 n o10080 v6 = some y0 from h0)
  rcases n with _ | n
  ·rw [F_i_moved_L1] at h; cases h
  ·rw [F_i_moved_L1] at h
   refine WP.seq ?_
   refine WP.sk tm [] [(True)] [(12, vb (decide (v6 < (ln o10080)))), (6, vi v6), (5, vo 10080 (List.length o10080)), (4, V.t (T.nils)), (1, vl x1)] [(10080, oc 3 (List.map (ti) o10080))] ⟨trivial, trivial⟩ ?_
   rcases ite_some h with ⟨h1, h⟩ | ⟨h1, h⟩
   ·refine WP.yes h1 rfl ?_
    refine WP.pk tm [] [] [(6, vi v6), (5, vo 10080 (List.length o10080)), (4, V.t (T.nils)), (1, vl x1)] [(10080, oc 3 (List.map (ti) o10080))] trivial ?_
    refine WP.seq ?_
    refine WP.block ?_
    obtain ⟨c1, c2, h⟩ := chk2 h
    obtain ⟨c3, c4, h⟩ := chk2 h
    obtain ⟨n24, c5, h⟩ := nam_some h
    refine WP.pk tm [(18, An.v (ti (gt o10080 v6 0))), (21, An.v (ti (v6 - 1))), (23, An.v (ti (List.getD x1 (Int.toNat (v6 - 1)) 0))), (24, An.v (ti n24))] [(ib v6 o10080), ((List.map (ti) o10080 : List T)[(Int.toNat v6) * 1]? = some (ti (gt o10080 v6 0))), (rf (ti (gt o10080 v6 0))), (True), (wr (v6 - 1)), ((0 ≤ (v6 - 1) ∧ (v6 - 1) < (ln x1))), ((List.drop ((Int.toNat (v6 - 1)) * 1) (List.map (ti) x1) : List T)[0]? = some (ti (List.getD x1 (Int.toNat (v6 - 1)) 0))), (rf (ti (List.getD x1 (Int.toNat (v6 - 1)) 0))), (True), (ti (IntKind.wrap .i64 ((gt o10080 v6 0) + (List.getD x1 (Int.toNat (v6 - 1)) 0))) = ti n24), (ib v6 o10080), ((Int.toNat v6) * 1 < List.length (List.map (ti) o10080))] [(6, vi v6), (5, vo 10080 (List.length o10080)), (4, V.t (T.nils)), (1, vl x1)] [(10080, oc 3 (List.set (List.map (ti) o10080) ((Int.toNat v6) * 1) (ti n24)))] ⟨c1, atM (by simp) (by first | omega | (simp only [tlL]; omega) | (simp; omega)), rfl, trivial, wrapI c2, c3, at1 (by simp) (by omega), rfl, trivial, Eq.trans (wrapI c4) (congrArg (ti) c5), c1, by first | decide | omega | (simp only [tlL] <;> omega) | (simp <;> omega) | (simp [] <;> omega), trivial⟩ ?_
    obtain ⟨c6, h⟩ := chk_some h
    refine WP.qk tm [(14, An.v (ti (v6 + 1)))] [(True), (wr (v6 + 1))] [(6, vi (v6 + 1)), (5, vo 10080 (List.length o10080)), (4, V.t (T.nils)), (1, vl x1)] [(10080, oc 3 (List.set (List.map (ti) o10080) ((Int.toNat v6) * 1) (ti n24)))] ⟨trivial, wrapI c6, trivial⟩ ?_
    exact ⟨(n, List.set o10080 (Int.toNat v6) n24, (v6 + 1)), h, Nat.lt_succ_self _, (by first | rfl | (simp only [tlS, tl, vl, vo, oc, ov, tbl, vbl, ty, vy] <;> rfl) | (simp <;> omega) | (simp []; done) | (rw [List.take_of_length_le (by simp [])] <;> rfl) | (simp [List.take_of_length_le]; done))⟩
   ·refine WP.no h1 rfl ?_
    refine WP.eq tm [] 0 [] [(5, vo 10080 (List.length o10080)), (4, V.t (T.nils))] [(10080, oc 3 (List.map (ti) o10080))] trivial ?_
    exact ⟨(o10080), h, rfl⟩
 ·intro o10080 h0
  have h := (show J1 o10080 = some y0 from h0)
  rw [hJ1] at h
  have h := Option.some.inj h
  subst h
  exact WP.pathG tab_ok mixed [] [.keep [4], .keepO [10080], .names [(10080, 9000)]] [9000] _ (r' := vo 9000 (List.length o10080)) (ps := []) (r := vo 9000 (List.length o10080)) (N := [9000]) (O := [(9000, oc 3 (List.map (ti) o10080))]) [] (by kernel_rfl) trivial ⟨rfl, trivial⟩ rfl rfl (fun _ h => h)
theorem F_i_moved_W_C (x0 : List Int) (x1 : List Int) (y0 : List Int) (h : F_i_moved x0 x1 = some y0) : C Tryz.prog 114 [tl x0, tl x1] (tl y0) :=
 CG.toC (ps := [(List.length (List.map (ti) y0) = (List.length y0) * 1)]) (F_i_moved_W  x0 x1 y0 h) (by rfl) ⟨by first | rfl | omega | (simp <;> omega) | (simp [hl] <;> omega), trivial⟩
theorem F_i_bothWays_W (x0 : List Int) (x1 : List Int) (y0 : List Int) (y1 : List Int) (h : F_i_bothWays x0 x1 = some (y0, y1)) : CG Tryz.prog 59 [vl x0, vl x1] [] (V.tup [vo 9000 (List.length y0), vo 9001 (List.length y1)]) [(9000, oc 3 (List.map (ti) y0)), (9001, oc 3 (List.map (ti) y1))] := by
 unfold F_i_bothWays at h
 refine CG.intro (tab := tab) tab_ok (fn := Tryz.f59) Tryz.func59 (by kernel_rfl) rfl (Nat.le_of_ble_eq_true rfl) (by kernel_rfl) ?_
 obtain ⟨r9, c0, h⟩ := bnd1_some h
 obtain ⟨r12, c1, h⟩ := bnd1_some h
 obtain ⟨r15, c2, h⟩ := bnd1_some h
 simp only [Option.some.injEq, Prod.mk.injEq] at h
 obtain ⟨rfl, rfl⟩ := h
 exact WP.pathG tab_ok mixed [(9, An.callG [(9000, 10090)] [vl x0, vl x1] [] (vo 9000 (List.length r9)) [(9000, oc 3 (List.map (ti) r9))]), (12, An.callG [(9000, 10120)] [vl x1, vl r9] [] (vo 9000 (List.length r12)) [(9000, oc 3 (List.map (ti) r12))]), (15, An.callG [(9000, 10150)] [vl r9, vl x1] [] (vo 9000 (List.length r15)) [(9000, oc 3 (List.map (ti) r15))])] [.keep [4, 5], .keepO [10120, 10150], .names [(10120, 9000), (10150, 9001)]] [9000, 9001] _ (r' := V.tup [vo 9000 (List.length r12), vo 9001 (List.length r15)]) (ps := [(CG Tryz.prog 113 [vl x0, vl x1] [] (vo 9000 (List.length r9)) [(9000, oc 3 (List.map (ti) r9))]), (WkT (tl x0) (tl x0)), (WkT (tl x1) (tl x1)), (CG Tryz.prog 114 [vl x1, vl r9] [] (vo 9000 (List.length r12)) [(9000, oc 3 (List.map (ti) r12))]), ((vo 9000 (List.length r12)).flat = true), (flatO [(9000, oc 3 (List.map (ti) r12))] = true), (WkT (tl x1) (tl x1)), (List.length (List.map (ti) r9) = (List.length r9) * 1), (WkT (tl r9) (tl r9)), (CG Tryz.prog 114 [vl r9, vl x1] [] (vo 9000 (List.length r15)) [(9000, oc 3 (List.map (ti) r15))]), ((vo 9000 (List.length r15)).flat = true), (flatO [(9000, oc 3 (List.map (ti) r15))] = true), (List.length (List.map (ti) r9) = (List.length r9) * 1), (WkT (tl r9) (tl r9)), (WkT (tl x1) (tl x1))]) (r := V.tup [vo 9000 (List.length r12), vo 9001 (List.length r15)]) (N := [9000, 9001]) (O := [(9000, oc 3 (List.map (ti) r12)), (9001, oc 3 (List.map (ti) r15))]) [] (by kernel_rfl) ⟨(F_i_left_W x0 x1 r9 c0), WkT.refl _, WkT.refl _, (F_i_moved_W x1 r9 r12 c1), by first | rfl | (simp [V.flats, V.flat, T.flats, T.flat, flats_app, flats_int, flats_bool, flats_str, flats_node, flats_asked, flats_pair, flats_recs, flats_fact, flatEs_mpB, flatEs_mpI, flatEs_mp3]; done), by first | rfl | (simp [flatO, Tl.Obj.flat, V.flats, V.flat, T.flats, T.flat, flats_app, flats_int, flats_bool, flats_str, flats_node, flats_asked, flats_pair, flats_recs, flats_fact, flatEs_mpB, flatEs_mpI, flatEs_mp3]; done), WkT.refl _, by first | rfl | omega | (simp only [tlL] <;> omega) | (simp <;> omega) | (simp [] <;> omega), WkT.refl _, (F_i_moved_W r9 x1 r15 c2), by first | rfl | (simp [V.flats, V.flat, T.flats, T.flat, flats_app, flats_int, flats_bool, flats_str, flats_node, flats_asked, flats_pair, flats_recs, flats_fact, flatEs_mpB, flatEs_mpI, flatEs_mp3]; done), by first | rfl | (simp [flatO, Tl.Obj.flat, V.flats, V.flat, T.flats, T.flat, flats_app, flats_int, flats_bool, flats_str, flats_node, flats_asked, flats_pair, flats_recs, flats_fact, flatEs_mpB, flatEs_mpI, flatEs_mp3]; done), by first | rfl | omega | (simp only [tlL] <;> omega) | (simp <;> omega) | (simp [] <;> omega), WkT.refl _, WkT.refl _, trivial⟩ ⟨rfl, rfl, trivial⟩ rfl rfl (fun _ h => h)
theorem F_i_bothWays_W_C (x0 : List Int) (x1 : List Int) (y0 : List Int) (y1 : List Int) (h : F_i_bothWays x0 x1 = some (y0, y1)) : C Tryz.prog 59 [tl x0, tl x1] (T.tup [tl y0, tl y1]) :=
 CG.toC (ps := [(List.length (List.map (ti) y0) = (List.length y0) * 1), (List.length (List.map (ti) y1) = (List.length y1) * 1)]) (F_i_bothWays_W  x0 x1 y0 y1 h) (by rfl) ⟨by first | rfl | omega | (simp <;> omega) | (simp [hl] <;> omega), by first | rfl | omega | (simp <;> omega) | (simp [hl] <;> omega), trivial⟩
theorem F_i_sum_W (x0 : List Int) (y0 : Int) (h : F_i_sum x0 = some y0) : C Tryz.prog 130 [tl x0] (ti y0) := by
 unfold F_i_sum at h
 refine C.intro (tab := tab) tab_ok (fn := Tryz.f130) Tryz.func130 (by kernel_rfl) rfl (Nat.le_of_ble_eq_true rfl) ?_
 refine WP.sk tm [] [] [(2, vi 0), (0, vl x0)] [] trivial ?_
 refine WP.sk tm [] [] [(3, vi 0), (2, vi 0), (0, vl x0)] [] trivial ?_
 obtain ⟨J1, hJ1, h⟩ := jn_some h
 refine WP.joinA (fun (zz : Int) => ⟨[], [(3, vi zz), (2, vi 0)], []⟩) (fun zz => J1 zz = some y0) ?_ ?_
 ·refine WP.sk tm [] [] [(8, vi 0), (7, vi (ln x0)), (6, vl x0), (3, vi 0), (2, vi 0)] [] trivial ?_
  refine WP.block ?_
  refine WP.lp (α := Nat × Int × Int) (fun zz => ⟨[], [(8, vi zz.2.1), (7, vi (ln x0)), (6, vl x0), (3, vi zz.2.2), (2, vi 0)], []⟩) (fun zz => F_i_sum_L1 x0 J1 zz.1 zz.2.1 zz.2.2 = some y0) (fun zz => zz.1) (fuel, (0 : Int), (0 : Int)) h ?_
  rintro ⟨n, v8, v3⟩ h0
  have h := (show F_i_sum_L1 x0 J1 n v8 v3 = some y0 from h0)
  rcases n with _ | n
  ·rw [F_i_sum_L1] at h; cases h
  ·rw [F_i_sum_L1] at h
   refine WP.sk tm [] [(True)] [(9, vb (decide (v8 < (ln x0)))), (8, vi v8), (7, vi (ln x0)), (6, vl x0), (3, vi v3), (2, vi 0)] [] ⟨trivial, trivial⟩ ?_
   refine WP.seq ?_
   rcases ite_some h with ⟨h1, h⟩ | ⟨h1, h⟩
   ·refine WP.yes h1 rfl ?_
    refine WP.pk tm [] [] [(8, vi v8), (7, vi (ln x0)), (6, vl x0), (3, vi v3), (2, vi 0)] [] trivial ?_
    refine WP.seq ?_
    refine WP.block ?_
    obtain ⟨c0, c1, h⟩ := chk2 h
    refine WP.pk tm [(11, An.v (ti (gt x0 v8 0))), (14, An.v (ti (v3 + (gt x0 v8 0))))] [(ib v8 x0), ((List.drop ((Int.toNat v8) * 1) (List.map (ti) x0) : List T)[0]? = some (ti (gt x0 v8 0))), (rf (ti (gt x0 v8 0))), (True), (wr (v3 + (gt x0 v8 0)))] [(3, vi (v3 + (gt x0 v8 0))), (8, vi v8), (7, vi (ln x0)), (6, vl x0), (2, vi 0)] [] ⟨c0, at1 (by simp) (by omega), rfl, trivial, wrapI c1, trivial⟩ ?_
    obtain ⟨c2, h⟩ := chk_some h
    refine WP.qk tm [(15, An.v (ti (v8 + 1)))] [(True), (wr (v8 + 1))] [(8, vi (v8 + 1)), (7, vi (ln x0)), (6, vl x0), (3, vi (v3 + (gt x0 v8 0))), (2, vi 0)] [] ⟨trivial, wrapI c2, trivial⟩ ?_
    exact ⟨(n, (v8 + 1), (v3 + (gt x0 v8 0))), h, Nat.lt_succ_self _, rfl⟩
   ·refine WP.no h1 rfl ?_
    refine WP.eq tm [] 0 [] [(3, vi v3), (2, vi 0)] [] trivial ?_
    exact ⟨(v3), h, rfl⟩
 ·intro v3 h0
  have h := (show J1 v3 = some y0 from h0)
  rw [hJ1] at h
  have h := Option.some.inj h
  subst h
  exact WP.pathW tab_ok mixed [] _ (ps := []) (r := ti v3) (by kernel_rfl) trivial (WkT.eq (y := ti v3) (WkT.refl _) rfl) (fun _ h => h)
theorem F_i_AreCounts_W (x0 : List Int) (y0 : Bool) (h : F_i_AreCounts x0 = some y0) : C Tryz.prog 78 [tl x0] (tb y0) := by
 unfold F_i_AreCounts at h
 refine C.intro (tab := tab) tab_ok (fn := Tryz.f78) Tryz.func78 (by kernel_rfl) rfl (Nat.le_of_ble_eq_true rfl) ?_
 rcases ite_some h with ⟨h1, h⟩ | ⟨h1, h⟩
 ·obtain ⟨c0, h⟩ := chk_some h
  rcases ite_some h with ⟨h2, h⟩ | ⟨h2, h⟩
  ·obtain ⟨r13, c1, h⟩ := bnd1_some h
   have h := Option.some.inj h
   subst h
   exact WP.pathW tab_ok mixed [(5, An.call (tb true)), (8, An.call (tb (List.any x0 (fun x => !(decide (0 ≤ x) && decide (x ≤ 8)))))), (11, An.b true), (13, An.call (ti r13))] _ (ps := [(C Tryz.prog 99 [ti (ln x0), ti 1, ti 3] (tb true)), (C Tryz.prog 109 [tl x0, T.fn 129 [] []] (tb (List.any x0 (fun x => !(decide (0 ≤ x) && decide (x ≤ 8)))))), ((!(List.any x0 (fun x => !(decide (0 ≤ x) && decide (x ≤ 8))))) = true), (C Tryz.prog 130 [tl x0] (ti r13)), (True)]) (r := tb (decide (r13 ≤ (8 : Int)))) (by kernel_rfl) ⟨(C.toB h1 (by have hh := (in_C (ln x0) (1 : Int) (3 : Int)); first | exact hh | simpa using hh)), (containsFunc_C x0 _ _ _ (fun x => !(decide (0 ≤ x) && decide (x ≤ 8))) (fun x => (areCounts1_C x)) c0), h2, (F_i_sum_W x0 r13 c1), trivial, trivial⟩ (WkT.eq (y := tb (decide (r13 ≤ (8 : Int)))) (WkT.refl _) rfl) (fun _ h => h)
  ·have h := Option.some.inj h
   subst h
   exact WP.pathW tab_ok mixed [(5, An.call (tb true)), (8, An.call (tb (List.any x0 (fun x => !(decide (0 ≤ x) && decide (x ≤ 8)))))), (11, An.b false)] _ (ps := [(C Tryz.prog 99 [ti (ln x0), ti 1, ti 3] (tb true)), (C Tryz.prog 109 [tl x0, T.fn 129 [] []] (tb (List.any x0 (fun x => !(decide (0 ≤ x) && decide (x ≤ 8)))))), ((!(List.any x0 (fun x => !(decide (0 ≤ x) && decide (x ≤ 8))))) = false)]) (r := tb false) (by kernel_rfl) ⟨(C.toB h1 (by have hh := (in_C (ln x0) (1 : Int) (3 : Int)); first | exact hh | simpa using hh)), (containsFunc_C x0 _ _ _ (fun x => !(decide (0 ≤ x) && decide (x ≤ 8))) (fun x => (areCounts1_C x)) c0), h2, trivial⟩ (WkT.eq (y := tb false) (WkT.refl _) rfl) (fun _ h => h)
 ·have h := Option.some.inj h
  subst h
  exact WP.pathW tab_ok mixed [(5, An.call (tb false))] _ (ps := [(C Tryz.prog 99 [ti (ln x0), ti 1, ti 3] (tb false))]) (r := tb false) (by kernel_rfl) ⟨(C.toB h1 (by have hh := (in_C (ln x0) (1 : Int) (3 : Int)); first | exact hh | simpa using hh)), trivial⟩ (WkT.eq (y := tb false) (WkT.refl _) rfl) (fun _ h => h)
theorem F_i_needer_of_W (gf0 : FuncId) (pref0 capsf0 : List T) (pf0 : (List Int) → (List Int) → Option ((List Int) × (List Int))) (hpf0 : ∀ (af0_0 : List Int) (af0_1 : List Int) (bf0_2 : List Int) (bf0_3 : List Int), pf0 af0_0 af0_1 = some (bf0_2, bf0_3) → C Tryz.prog gf0 (pref0 ++ ([tl af0_0, tl af0_1] ++ capsf0)) (T.tup [tl bf0_2, tl bf0_3])) (x0 : List (K3 × Int)) (x1 : List Int) (y0 : Int) (h : F_i_needer_of pf0 x0 x1 = some y0) : C Tryz.prog 79 [T.agg [T.fn gf0 pref0 capsf0, mapT (mpT x0)], tl x1] (ti y0) := by
 unfold F_i_needer_of at h
 refine C.intro (tab := tab) tab_ok (fn := Tryz.f79) Tryz.func79 (by kernel_rfl) rfl (Nat.le_of_ble_eq_true rfl) ?_
 obtain ⟨c0, h⟩ := chk_some h
 obtain ⟨g9, c1, h⟩ := nam_some h
 have h := Option.some.inj h
 subst h
 exact WP.pathW tab_ok mixed [(2, An.fz), (8, An.call (T.agg [ti (tri x1 0), ti (tri x1 1), ti (tri x1 2)])), (9, An.v (ti (Option.getD g9 (0 : Int))))] _ (ps := [(True), (C Tryz.prog 131 [tl x1] (T.agg [ti (tri x1 0), ti (tri x1 1), ti (tri x1 2)])), (∃ G, KeyRun Tryz.prog 118 G ∧ G (T.agg [ti (tri x1 0), ti (tri x1 1), ti (tri x1 2)]) ∧ ∀ x ∈ ent (mpT x0), G x.1), (List.length (List.map (·.1) (mpT x0)) = List.length (List.map (·.2) (mpT x0))), ((lookR false (ti (0 : Int)) (lookT (ent (mpT x0)) (T.agg [ti (tri x1 0), ti (tri x1 1), ti (tri x1 2)]))) = ti (Option.getD g9 (0 : Int)))]) (r := ti (Option.getD g9 (0 : Int))) (by kernel_rfl) ⟨trivial, (tripleOf_C x1 c0), ent_keys (keys_tri Tryz.underlying118 Tryz.underlying3 (by kernel_rfl) (by kernel_rfl) x0 ((tri x1 0), (tri x1 1), (tri x1 2))), ent_len _, ent_look (look_mpT c1), trivial⟩ (WkT.eq (y := ti (Option.getD g9 (0 : Int))) (WkT.refl _) rfl) (fun _ h => h)
theorem F_i_NeedOf_W (x0 : List Int) (y0 : Int) (y1 : Bool) (h : F_i_NeedOf x0 = some (y0, y1)) : C Tryz.prog 24 [tl x0] (T.tup [ti y0, tb y1]) := by
 unfold F_i_NeedOf at h
 refine C.intro (tab := tab) tab_ok (fn := Tryz.f24) Tryz.func24 (by kernel_rfl) rfl (Nat.le_of_ble_eq_true rfl) ?_
 refine WP.sk tm [] [] [(3, vb false), (2, vi 0), (0, vl x0)] [] trivial ?_
 refine WP.seq ?_
 refine WP.seq ?_
 obtain ⟨r5, c0, h⟩ := bnd1_some h
 refine WP.pk tm [(5, An.call (tb r5))] [(C Tryz.prog 78 [tl x0] (tb r5))] [(6, vb (!r5)), (3, vb false), (2, vi 0), (0, vl x0)] [] ⟨(F_i_AreCounts_W x0 r5 c0), trivial⟩ ?_
 rcases ite_some h with ⟨h1, h⟩ | ⟨h1, h⟩
 ·refine WP.yes h1 rfl ?_
  simp only [Option.some.injEq, Prod.mk.injEq] at h
  obtain ⟨rfl, rfl⟩ := h
  exact WP.pathW tab_ok mixed [] _ (ps := []) (r := T.tup [ti 0, tb false]) (by kernel_rfl) trivial (WkT.eq (y := T.tup [ti 0, tb false]) (WkT.refl _) (by first | rfl | (simp only [tlS, tl, vl, vo, oc, ov, tbl, vbl, ty, vy] <;> rfl) | (simp <;> omega) | (simp []; done) | (rw [List.take_of_length_le (by simp [])] <;> rfl) | (simp [List.take_of_length_le]; done))) (fun _ h => h)
 ·refine WP.no h1 rfl ?_
  refine WP.pk tm [] [] [(3, vb false), (2, vi 0), (0, vl x0)] [] trivial ?_
  obtain ⟨r7, c1, h⟩ := bnd1_some h
  obtain ⟨r9, c2, h⟩ := bnd1_some h
  simp only [Option.some.injEq, Prod.mk.injEq] at h
  obtain ⟨rfl, rfl⟩ := h
  exact WP.pathW tab_ok mixed [(7, An.call (T.agg [T.fn 59 [] [], mapT (mpT r7)])), (9, An.call (ti r9))] _ (ps := [(C Tryz.prog 58 [T.fn 59 [] []] (T.agg [T.fn 59 [] [], mapT (mpT r7)])), (C Tryz.prog 79 [T.agg [T.fn 59 [] [], mapT (mpT r7)], tl x0] (ti r9))]) (r := T.tup [ti r9, tb true]) (by kernel_rfl) ⟨(F_i_neederOf_W 59 [] [] (fun u0 u1 => F_i_bothWays u0 u1) (fun u0 u1 w0 w1 hh => F_i_bothWays_W_C u0 u1 w0 w1 hh) r7 c1), (F_i_needer_of_W 59 [] [] (fun u0 u1 => F_i_bothWays u0 u1) (fun u0 u1 w0 w1 hh => F_i_bothWays_W_C u0 u1 w0 w1 hh) r7 x0 r9 c2), trivial⟩ (WkT.eq (y := T.tup [ti r9, tb true]) (WkT.refl _) rfl) (fun _ h => h)
theorem F_pc_next_W (x0 : List Int) (x1 : Int) (x2 : Int) (y0 : Int) (y1 : List Int) (y2 : Int) (y3 : Int) (h : F_pc_next x0 x1 x2 = some (y0, y1, y2, y3)) : CG Tryz.prog 124 [V.ref 500 0] [(500, oc 65 [ty x0, ti x1, T.int .u64 x2])] (vi y0) [(500, oc 65 [ty y1, ti y2, T.int .u64 y3])] := by
 unfold F_pc_next at h
 refine CG.intro (tab := tab) tab_ok (fn := Tryz.f124) Tryz.func124 (by kernel_rfl) rfl (Nat.le_of_ble_eq_true rfl) (by kernel_rfl) ?_
 refine WP.sk tm [] [] [(2, vi 0), (0, V.ref 500 0)] [(500, oc 65 [ty x0, ti x1, T.int .u64 x2])] trivial ?_
 refine WP.sk tm [] [] [(3, vi 0), (2, vi 0), (0, V.ref 500 0)] [(500, oc 65 [ty x0, ti x1, T.int .u64 x2])] trivial ?_
 obtain ⟨J1, hJ1, h⟩ := jn_some h
 refine WP.joinA (fun (zz : Int) => ⟨[500], [(3, vi zz), (2, vi 0), (0, V.ref 500 0)], [(500, oc 65 [ty x0, ti x1, T.int .u64 x2])]⟩) (fun zz => J1 zz = some (y0, y1, y2, y3)) ?_ ?_
 ·refine WP.sk tm [] [(True), (True), (True)] [(13, vb (decide (x1 < (ln x0)))), (3, vi 0), (2, vi 0), (0, V.ref 500 0)] [(500, oc 65 [ty x0, ti x1, T.int .u64 x2])] ⟨trivial, trivial, trivial, trivial⟩ ?_
  rcases ite_some h with ⟨h1, h⟩ | ⟨h1, h⟩
  ·refine WP.yes h1 rfl ?_
   obtain ⟨c0, c1, h⟩ := chk2 h
   refine WP.qk tm [(23, An.v (T.int .u8 (gt x0 x1 0))), (24, An.v (ti (gt x0 x1 0)))] [(True), (True), (ib x1 x0), ((List.drop ((Int.toNat x1) * 1) (List.map (T.int .u8) x0) : List T)[0]? = some (T.int .u8 (gt x0 x1 0))), (T.int .u8 (gt x0 x1 0) = T.int .u8 (gt x0 x1 0)), (wr (gt x0 x1 0))] [(3, vi (gt x0 x1 0)), (2, vi 0), (0, V.ref 500 0)] [(500, oc 65 [ty x0, ti x1, T.int .u64 x2])] ⟨trivial, trivial, c0, at1 (by simp) (by omega), rfl, wrapI c1, trivial⟩ ?_
   exact ⟨((gt x0 x1 0)), h, rfl⟩
  ·refine WP.no h1 rfl ?_
   refine WP.qk tm [] [] [(3, vi 0), (2, vi 0), (0, V.ref 500 0)] [(500, oc 65 [ty x0, ti x1, T.int .u64 x2])] trivial ?_
   exact ⟨((0 : Int)), h, (by first | rfl | (simp only [tlS, tl, vl, vo, oc, ov, tbl, vbl, ty, vy] <;> rfl) | (simp <;> omega) | (simp []; done) | (rw [List.take_of_length_le (by simp [])] <;> rfl) | (simp [List.take_of_length_le]; done))⟩
 ·intro v3 h0
  have h := (show J1 v3 = some (y0, y1, y2, y3) from h0)
  rw [hJ1] at h
  refine WP.seq ?_
  obtain ⟨c0, h⟩ := chk_some h
  refine WP.pk tm [(29, An.v (ti (x1 + 1)))] [(True), (True), (wr (x1 + 1)), (1 < 3)] [(3, vi v3), (2, vi 0), (0, V.ref 500 0)] [(500, oc 65 [ty x0, ti (x1 + 1), T.int .u64 x2])] ⟨trivial, trivial, wrapI c0, by decide, trivial⟩ ?_
  refine WP.seq ?_
  obtain ⟨n37, c1, h⟩ := nam_some h
  obtain ⟨n40, c2, h⟩ := nam_some h
  refine WP.pk tm [(37, An.v (T.int .u64 n37)), (40, An.v (T.int .u64 n40))] [(True), (True), (T.int .u64 (IntKind.wrap .u64 (x2 * 6364136223846793005)) = T.int .u64 n37), (True), (T.int .u64 (IntKind.wrap .u64 (n37 + (IntKind.wrap .u64 v3))) = T.int .u64 n40), (True), (2 < 3)] [(3, vi v3), (2, vi 0), (0, V.ref 500 0)] [(500, oc 65 [ty x0, ti (x1 + 1), T.int .u64 (IntKind.wrap .u64 (n40 + 462197))])] ⟨trivial, trivial, congrArg (T.int .u64) c1, trivial, congrArg (T.int .u64) c2, trivial, by decide, trivial⟩ ?_
  refine WP.seq ?_
  refine WP.sk tm [] [(True), (True), (True)] [(53, vb (decide ((x1 + 1) ≤ (ln x0)))), (3, vi v3), (2, vi 0), (0, V.ref 500 0)] [(500, oc 65 [ty x0, ti (x1 + 1), T.int .u64 (IntKind.wrap .u64 (n40 + 462197))])] ⟨trivial, trivial, trivial, trivial⟩ ?_
  rcases ite_some h with ⟨h2, h⟩ | ⟨h2, h⟩
  ·refine WP.yes h2 rfl ?_
   simp only [Option.some.injEq, Prod.mk.injEq] at h
   obtain ⟨rfl, rfl, rfl, rfl⟩ := h
   exact WP.pathG tab_ok mixed [] [.keep [2], .keepO [500], .names [(500, 500)]] [500] _ (r' := vi v3) (ps := []) (r := vi v3) (N := [500]) (O := [(500, oc 65 [ty x0, ti (x1 + 1), T.int .u64 (IntKind.wrap .u64 (n40 + 462197))])]) [] (by kernel_rfl) trivial ⟨(WkT.refl _), trivial⟩ rfl rfl (fun _ h => h)
  ·refine WP.no h2 rfl ?_
   refine WP.pk tm [] [] [(2, vi 0), (0, V.ref 500 0)] [(500, oc 65 [ty x0, ti (x1 + 1), T.int .u64 (IntKind.wrap .u64 (n40 + 462197))])] trivial ?_
   obtain ⟨n60, c3, h⟩ := nam_some h
   obtain ⟨c4, h⟩ := chk_some h
   simp only [Option.some.injEq, Prod.mk.injEq] at h
   obtain ⟨rfl, rfl, rfl, rfl⟩ := h
   exact WP.pathG tab_ok mixed [(59, An.v (T.int .u64 ((IntKind.wrap .u64 (n40 + 462197)) / 2 ^ Int.toNat (40 : Int)))), (60, An.v (T.int .u64 n60)), (61, An.v (ti n60))] [.keep [2], .keepO [500], .names [(500, 500)]] [500] _ (r' := vi n60) (ps := [(True), (0 ≤ (40 : Int)), (T.int .u64 (Int.fdiv (IntKind.wrap .u64 (n40 + 462197)) (2 ^ (min (Int.toNat (40 : Int)) 64))) = T.int .u64 ((IntKind.wrap .u64 (n40 + 462197)) / 2 ^ Int.toNat (40 : Int))), (True), (T.int .u64 (bits .and .u64 ((IntKind.wrap .u64 (n40 + 462197)) / 2 ^ Int.toNat (40 : Int)) (255 : Int)) = T.int .u64 n60), (wr n60)]) (r := vi n60) (N := [500]) (O := [(500, oc 65 [ty x0, ti (x1 + 1), T.int .u64 (IntKind.wrap .u64 (n40 + 462197))])]) [] (by kernel_rfl) ⟨trivial, (show (0 ≤ (40 : Int) ∧ (40 : Int) < 64) by first | decide | (simp only [maxLen]; omega) | (unfold I64; omega) | (unfold I64; decide)).1, shr_told (show (0 ≤ (40 : Int) ∧ (40 : Int) < 64) by first | decide | (simp only [maxLen]; omega) | (unfold I64; omega) | (unfold I64; decide)), trivial, congrArg (T.int .u64) c3, wrapI c4, trivial⟩ ⟨(WkT.refl _), trivial⟩ rfl rfl (fun _ h => h)
theorem F_pc_pick_W (x0 : List Int) (x1 : Int) (x2 : Int) (x3 : Int) (y0 : Int) (y1 : List Int) (y2 : Int) (y3 : Int) (h : F_pc_pick x0 x1 x2 x3 = some (y0, y1, y2, y3)) : CG Tryz.prog 70 [V.ref 500 0, vi x3] [(500, oc 65 [ty x0, ti x1, T.int .u64 x2])] (vi y0) [(500, oc 65 [ty y1, ti y2, T.int .u64 y3])] := by
 unfold F_pc_pick at h
 refine CG.intro (tab := tab) tab_ok (fn := Tryz.f70) Tryz.func70 (by kernel_rfl) rfl (Nat.le_of_ble_eq_true rfl) (by kernel_rfl) ?_
 refine WP.sk tm [] [] [(4, vi 0), (0, V.ref 500 0), (1, vi x3)] [(500, oc 65 [ty x0, ti x1, T.int .u64 x2])] trivial ?_
 refine WP.seq ?_
 refine WP.sk tm [] [(True)] [(7, vb (decide (x3 ≤ (1 : Int)))), (4, vi 0), (0, V.ref 500 0), (1, vi x3)] [(500, oc 65 [ty x0, ti x1, T.int .u64 x2])] ⟨trivial, trivial⟩ ?_
 rcases ite_some h with ⟨h1, h⟩ | ⟨h1, h⟩
 ·refine WP.yes h1 rfl ?_
  simp only [Option.some.injEq, Prod.mk.injEq] at h
  obtain ⟨rfl, rfl, rfl, rfl⟩ := h
  exact WP.pathG tab_ok mixed [] [.keep [4], .keepO [500], .names [(500, 500)]] [500] _ (r' := vi (0 : Int)) (ps := []) (r := vi 0) (N := [500]) (O := [(500, oc 65 [ty x0, ti x1, T.int .u64 x2])]) [] (by kernel_rfl) trivial ⟨(WkT.eq (WkT.refl _) (by first | rfl | (simp only [tlS, tl, vl, vo, oc, ov, tbl, vbl, ty, vy] <;> rfl) | (simp <;> omega) | (simp []; done) | (rw [List.take_of_length_le (by simp [])] <;> rfl) | (simp [List.take_of_length_le]; done))), trivial⟩ rfl rfl (fun _ h => h)
 ·refine WP.no h1 rfl ?_
  refine WP.pk tm [] [] [(4, vi 0), (0, V.ref 500 0), (1, vi x3)] [(500, oc 65 [ty x0, ti x1, T.int .u64 x2])] trivial ?_
  refine WP.seq ?_
  obtain ⟨r9, r9b, r9c, r9d, c0, h⟩ := bnd4_some h
  refine WP.pk tm [(9, An.callG [(500, 500)] [V.ref 500 0] [(500, oc 65 [ty x0, ti x1, T.int .u64 x2])] (vi r9) [(500, oc 65 [ty r9b, ti r9c, T.int .u64 r9d])])] [(CG Tryz.prog 124 [V.ref 500 0] [(500, oc 65 [ty x0, ti x1, T.int .u64 x2])] (vi r9) [(500, oc 65 [ty r9b, ti r9c, T.int .u64 r9d])]), ((V.ref 500 0).ren (renF [(500, 500)]) = V.ref 500 0), (rn (oc 65 [ty x0, ti x1, T.int .u64 x2]) [(500, 500)])] [(5, vi r9), (4, vi 0), (0, V.ref 500 0), (1, vi x3)] [(500, oc 65 [ty r9b, ti r9c, T.int .u64 r9d])] ⟨(F_pc_next_W x0 x1 x2 r9 r9b r9c r9d c0), by first | rfl | (simp [V.ren, V.renL, renF, lk]; done) | (simp [V.ren, V.renL, renF, lk]; omega), rfl, trivial⟩ ?_
  obtain ⟨J1, hJ1, h⟩ := jn_some h
  refine WP.joinA (fun (zz : (List Int) × Int × Int × Int) => ⟨[500], [(5, vi zz.2.2.2), (4, vi 0), (1, vi x3)], [(500, oc 65 [ty zz.1, ti zz.2.1, T.int .u64 zz.2.2.1])]⟩) (fun zz => J1 zz.1 zz.2.1 zz.2.2.1 zz.2.2.2 = some (y0, y1, y2, y3)) ?_ ?_
  ·refine WP.sk tm [] [(True)] [(11, vb (decide (x3 > (200 : Int)))), (5, vi r9), (4, vi 0), (0, V.ref 500 0), (1, vi x3)] [(500, oc 65 [ty r9b, ti r9c, T.int .u64 r9d])] ⟨trivial, trivial⟩ ?_
   rcases ite_some h with ⟨h2, h⟩ | ⟨h2, h⟩
   ·refine WP.yes h2 rfl ?_
    obtain ⟨c1, h⟩ := chk_some h
    obtain ⟨r15, r15b, r15c, r15d, c2, h⟩ := bnd4_some h
    obtain ⟨c3, h⟩ := chk_some h
    refine WP.qk tm [(13, An.v (ti (r9 * 256))), (15, An.callG [(500, 500)] [V.ref 500 0] [(500, oc 65 [ty r9b, ti r9c, T.int .u64 r9d])] (vi r15) [(500, oc 65 [ty r15b, ti r15c, T.int .u64 r15d])]), (16, An.v (ti ((r9 * 256) + r15)))] [(True), (wr (r9 * 256)), (CG Tryz.prog 124 [V.ref 500 0] [(500, oc 65 [ty r9b, ti r9c, T.int .u64 r9d])] (vi r15) [(500, oc 65 [ty r15b, ti r15c, T.int .u64 r15d])]), ((V.ref 500 0).ren (renF [(500, 500)]) = V.ref 500 0), (rn (oc 65 [ty r9b, ti r9c, T.int .u64 r9d]) [(500, 500)]), (True), (wr ((r9 * 256) + r15))] [(5, vi ((r9 * 256) + r15)), (4, vi 0), (1, vi x3)] [(500, oc 65 [ty r15b, ti r15c, T.int .u64 r15d])] ⟨trivial, wrapI c1, (F_pc_next_W r9b r9c r9d r15 r15b r15c r15d c2), by first | rfl | (simp [V.ren, V.renL, renF, lk]; done) | (simp [V.ren, V.renL, renF, lk]; omega), rfl, trivial, wrapI c3, trivial⟩ ?_
    exact ⟨(r15b, r15c, r15d, ((r9 * 256) + r15)), h, rfl⟩
   ·refine WP.no h2 rfl ?_
    refine WP.qk tm [] [] [(5, vi r9), (4, vi 0), (1, vi x3)] [(500, oc 65 [ty r9b, ti r9c, T.int .u64 r9d])] trivial ?_
    exact ⟨(r9b, r9c, r9d, r9), h, rfl⟩
  ·rintro ⟨o500, o500b, o500c, v5⟩ h0
   have h := (show J1 o500 o500b o500c v5 = some (y0, y1, y2, y3) from h0)
   rw [hJ1] at h
   obtain ⟨c1, h⟩ := chk_some h
   simp only [Option.some.injEq, Prod.mk.injEq] at h
   obtain ⟨rfl, rfl, rfl, rfl⟩ := h
   exact WP.pathG tab_ok mixed [] [.keep [4], .keepO [500], .names [(500, 500)]] [500] _ (r' := vi (Int.tmod v5 x3)) (ps := [(x3 ≠ 0)]) (r := vi (Int.tmod v5 x3)) (N := [500]) (O := [(500, oc 65 [ty o500, ti o500b, T.int .u64 o500c])]) [] (by kernel_rfl) ⟨c1, trivial⟩ ⟨(WkT.refl _), trivial⟩ rfl rfl (fun _ h => h)
theorem F_pc_one_W (x0 : List Int) (x1 : Int) (x2 : Int) (x3 : Int) (y0 : Bool) (y1 : List Int) (y2 : Int) (y3 : Int) (h : F_pc_one x0 x1 x2 x3 = some (y0, y1, y2, y3)) : CG Tryz.prog 47 [V.ref 500 0, vi x3] [(500, oc 65 [ty x0, ti x1, T.int .u64 x2])] (vb y0) [(500, oc 65 [ty y1, ti y2, T.int .u64 y3])] := by
 unfold F_pc_one at h
 refine CG.intro (tab := tab) tab_ok (fn := Tryz.f47) Tryz.func47 (by kernel_rfl) rfl (Nat.le_of_ble_eq_true rfl) (by kernel_rfl) ?_
 obtain ⟨r7, r7b, r7c, r7d, c0, h⟩ := bnd4_some h
 simp only [Option.some.injEq, Prod.mk.injEq] at h
 obtain ⟨rfl, rfl, rfl, rfl⟩ := h
 exact WP.pathG tab_ok mixed [(7, An.callG [(500, 500)] [V.ref 500 0, vi x3] [(500, oc 65 [ty x0, ti x1, T.int .u64 x2])] (vi r7) [(500, oc 65 [ty r7b, ti r7c, T.int .u64 r7d])])] [.keep [4], .keepO [500], .names [(500, 500)]] [500] _ (r' := vb (r7 == (0 : Int))) (ps := [(CG Tryz.prog 70 [V.ref 500 0, vi x3] [(500, oc 65 [ty x0, ti x1, T.int .u64 x2])] (vi r7) [(500, oc 65 [ty r7b, ti r7c, T.int .u64 r7d])]), ((V.ref 500 0).ren (renF [(500, 500)]) = V.ref 500 0), (WkT (ti x3) (ti x3)), (rn (oc 65 [ty x0, ti x1, T.int .u64 x2]) [(500, 500)]), (True)]) (r := vb (r7 == (0 : Int))) (N := [500]) (O := [(500, oc 65 [ty r7b, ti r7c, T.int .u64 r7d])]) [] (by kernel_rfl) ⟨(F_pc_pick_W x0 x1 x2 x3 r7 r7b r7c r7d c0), by first | rfl | (simp [V.ren, V.renL, renF, lk]; done) | (simp [V.ren, V.renL, renF, lk]; omega), WkT.refl _, rfl, trivial, trivial⟩ ⟨(WkT.refl _), trivial⟩ rfl rfl (fun _ h => h)
theorem F_pc_among_W (x0 : List Int) (x1 : Int) (x2 : Int) (x3 : List Int) (y0 : Int) (y1 : List Int) (y2 : Int) (y3 : Int) (h : F_pc_among x0 x1 x2 x3 = some (y0, y1, y2, y3)) : CG Tryz.prog 98 [V.ref 500 0, vl x3] [(500, oc 65 [ty x0, ti x1, T.int .u64 x2])] (vi y0) [(500, oc 65 [ty y1, ti y2, T.int .u64 y3])] := by
 unfold F_pc_among at h
 refine CG.intro (tab := tab) tab_ok (fn := Tryz.f98) Tryz.func98 (by kernel_rfl) rfl (Nat.le_of_ble_eq_true rfl) (by kernel_rfl) ?_
 obtain ⟨r9, r9b, r9c, r9d, c0, h⟩ := bnd4_some h
 obtain ⟨c1, h⟩ := chk_some h
 simp only [Option.some.injEq, Prod.mk.injEq] at h
 obtain ⟨rfl, rfl, rfl, rfl⟩ := h
 exact WP.pathG tab_ok mixed [(9, An.callG [(500, 500)] [V.ref 500 0, vi (ln x3)] [(500, oc 65 [ty x0, ti x1, T.int .u64 x2])] (vi r9) [(500, oc 65 [ty r9b, ti r9c, T.int .u64 r9d])]), (11, An.v (ti (gt x3 r9 0)))] [.keep [4], .keepO [500], .names [(500, 500)]] [500] _ (r' := vi (gt x3 r9 0)) (ps := [(CG Tryz.prog 70 [V.ref 500 0, vi (ln x3)] [(500, oc 65 [ty x0, ti x1, T.int .u64 x2])] (vi r9) [(500, oc 65 [ty r9b, ti r9c, T.int .u64 r9d])]), ((V.ref 500 0).ren (renF [(500, 500)]) = V.ref 500 0), (WkT (ti (ln x3)) (ti (ln x3))), (rn (oc 65 [ty x0, ti x1, T.int .u64 x2]) [(500, 500)]), (ib r9 x3), ((List.drop ((Int.toNat r9) * 1) (List.map (ti) x3) : List T)[0]? = some (ti (gt x3 r9 0))), (rf (ti (gt x3 r9 0)))]) (r := vi (gt x3 r9 0)) (N := [500]) (O := [(500, oc 65 [ty r9b, ti r9c, T.int .u64 r9d])]) [] (by kernel_rfl) ⟨(F_pc_pick_W x0 x1 x2 (ln x3) r9 r9b r9c r9d c0), by first | rfl | (simp [V.ren, V.renL, renF, lk]; done) | (simp [V.ren, V.renL, renF, lk]; omega), WkT.refl _, rfl, c1, at1 (by simp) (by omega), rfl, trivial⟩ ⟨(WkT.refl _), trivial⟩ rfl rfl (fun _ h => h)
theorem F_pc_many_W (x0 : List Int) (x1 : Int) (x2 : Int) (y0 : Int) (y1 : List Int) (y2 : Int) (y3 : Int) (h : F_pc_many x0 x1 x2 = some (y0, y1, y2, y3)) : CG Tryz.prog 97 [V.ref 500 0] [(500, oc 65 [ty x0, ti x1, T.int .u64 x2])] (vi y0) [(500, oc 65 [ty y1, ti y2, T.int .u64 y3])] := by
 unfold F_pc_many at h
 refine CG.intro (tab := tab) tab_ok (fn := Tryz.f97) Tryz.func97 (by kernel_rfl) rfl (Nat.le_of_ble_eq_true rfl) (by kernel_rfl) ?_
 obtain ⟨r5, r5b, r5c, r5d, c0, h⟩ := bnd4_some h
 simp only [Option.some.injEq, Prod.mk.injEq] at h
 obtain ⟨rfl, rfl, rfl, rfl⟩ := h
 exact WP.pathG tab_ok mixed [(4, An.fz), (5, An.callG [(500, 500)] [V.ref 500 0, vl [(4 : Int), (6 : Int), (8 : Int), (3 : Int), (5 : Int), (2 : Int), (7 : Int), (12 : Int), (1 : Int), (0 : Int), (13 : Int), (4 : Int), (6 : Int), (8 : Int), (3 : Int), (5 : Int)]] [(500, oc 65 [ty x0, ti x1, T.int .u64 x2])] (vi r5) [(500, oc 65 [ty r5b, ti r5c, T.int .u64 r5d])])] [.keep [2], .keepO [500], .names [(500, 500)]] [500] _ (r' := vi r5) (ps := [((1 = 1 ∧ 0 + 1 ≤ 16) ∧ (1 = 1 ∧ 1 + 1 ≤ 16) ∧ (1 = 1 ∧ 2 + 1 ≤ 16) ∧ (1 = 1 ∧ 3 + 1 ≤ 16) ∧ (1 = 1 ∧ 4 + 1 ≤ 16) ∧ (1 = 1 ∧ 5 + 1 ≤ 16) ∧ (1 = 1 ∧ 6 + 1 ≤ 16) ∧ (1 = 1 ∧ 7 + 1 ≤ 16) ∧ (1 = 1 ∧ 8 + 1 ≤ 16) ∧ (1 = 1 ∧ 9 + 1 ≤ 16) ∧ (1 = 1 ∧ 10 + 1 ≤ 16) ∧ (1 = 1 ∧ 11 + 1 ≤ 16) ∧ (1 = 1 ∧ 12 + 1 ≤ 16) ∧ (1 = 1 ∧ 13 + 1 ≤ 16) ∧ (1 = 1 ∧ 14 + 1 ≤ 16) ∧ (1 = 1 ∧ 15 + 1 ≤ 16) ∧ True), (16 = 16 * 1), (CG Tryz.prog 98 [V.ref 500 0, vl [(4 : Int), (6 : Int), (8 : Int), (3 : Int), (5 : Int), (2 : Int), (7 : Int), (12 : Int), (1 : Int), (0 : Int), (13 : Int), (4 : Int), (6 : Int), (8 : Int), (3 : Int), (5 : Int)]] [(500, oc 65 [ty x0, ti x1, T.int .u64 x2])] (vi r5) [(500, oc 65 [ty r5b, ti r5c, T.int .u64 r5d])]), ((V.ref 500 0).ren (renF [(500, 500)]) = V.ref 500 0), (WkT (T.list 16 1 [ti 4, ti 6, ti 8, ti 3, ti 5, ti 2, ti 7, ti 12, ti 1, ti 0, ti 13, ti 4, ti 6, ti 8, ti 3, ti 5]) (tl [(4 : Int), (6 : Int), (8 : Int), (3 : Int), (5 : Int), (2 : Int), (7 : Int), (12 : Int), (1 : Int), (0 : Int), (13 : Int), (4 : Int), (6 : Int), (8 : Int), (3 : Int), (5 : Int)])), (rn (oc 65 [ty x0, ti x1, T.int .u64 x2]) [(500, 500)])]) (r := vi r5) (N := [500]) (O := [(500, oc 65 [ty r5b, ti r5c, T.int .u64 r5d])]) [] (by kernel_rfl) ⟨⟨⟨by first | rfl | (simp; done) | (simp []; done) | omega, by first | decide | (simp; done) | (simp []; done) | omega | (simp only [tlL]; omega) | (simp; omega)⟩, ⟨by first | rfl | (simp; done) | (simp []; done) | omega, by first | decide | (simp; done) | (simp []; done) | omega | (simp only [tlL]; omega) | (simp; omega)⟩, ⟨by first | rfl | (simp; done) | (simp []; done) | omega, by first | decide | (simp; done) | (simp []; done) | omega | (simp only [tlL]; omega) | (simp; omega)⟩, ⟨by first | rfl | (simp; done) | (simp []; done) | omega, by first | decide | (simp; done) | (simp []; done) | omega | (simp only [tlL]; omega) | (simp; omega)⟩, ⟨by first | rfl | (simp; done) | (simp []; done) | omega, by first | decide | (simp; done) | (simp []; done) | omega | (simp only [tlL]; omega) | (simp; omega)⟩, ⟨by first | rfl | (simp; done) | (simp []; done) | omega, by first | decide | (simp; done) | (simp []; done) | omega | (simp only [tlL]; omega) | (simp; omega)⟩, ⟨by first | rfl | (simp; done) | (simp []; done) | omega, by first | decide | (simp; done) | (simp []; done) | omega | (simp only [tlL]; omega) | (simp; omega)⟩, ⟨by first | rfl | (simp; done) | (simp []; done) | omega, by first | decide | (simp; done) | (simp []; done) | omega | (simp only [tlL]; omega) | (simp; omega)⟩, ⟨by first | rfl | (simp; done) | (simp []; done) | omega, by first | decide | (simp; done) | (simp []; done) | omega | (simp only [tlL]; omega) | (simp; omega)⟩, ⟨by first | rfl | (simp; done) | (simp []; done) | omega, by first | decide | (simp; done) | (simp []; done) | omega | (simp only [tlL]; omega) | (simp; omega)⟩, ⟨by first | rfl | (simp; done) | (simp []; done) | omega, by first | decide | (simp; done) | (simp []; done) | omega | (simp only [tlL]; omega) | (simp; omega)⟩, ⟨by first | rfl | (simp; done) | (simp []; done) | omega, by first | decide | (simp; done) | (simp []; done) | omega | (simp only [tlL]; omega) | (simp; omega)⟩, ⟨by first | rfl | (simp; done) | (simp []; done) | omega, by first | decide | (simp; done) | (simp []; done) | omega | (simp only [tlL]; omega) | (simp; omega)⟩, ⟨by first | rfl | (simp; done) | (simp []; done) | omega, by first | decide | (simp; done) | (simp []; done) | omega | (simp only [tlL]; omega) | (simp; omega)⟩, ⟨by first | rfl | (simp; done) | (simp []; done) | omega, by first | decide | (simp; done) | (simp []; done) | omega | (simp only [tlL]; omega) | (simp; omega)⟩, ⟨by first | rfl | (simp; done) | (simp []; done) | omega, by first | decide | (simp; done) | (simp []; done) | omega | (simp only [tlL]; omega) | (simp; omega)⟩, trivial⟩, by decide, (F_pc_among_W x0 x1 x2 [(4 : Int), (6 : Int), (8 : Int), (3 : Int), (5 : Int), (2 : Int), (7 : Int), (12 : Int), (1 : Int), (0 : Int), (13 : Int), (4 : Int), (6 : Int), (8 : Int), (3 : Int), (5 : Int)] r5 r5b r5c r5d c0), by first | rfl | (simp [V.ren, V.renL, renF, lk]; done) | (simp [V.ren, V.renL, renF, lk]; omega), WkT.eq (WkT.refl _) (by first | rfl | (simp only [tlS, tl, vl, vo, oc, ov, tbl, vbl, ty, vy] <;> rfl) | (simp <;> omega) | (simp []; done) | (rw [List.take_of_length_le (by simp [])] <;> rfl) | (simp [List.take_of_length_le]; done)), rfl, trivial⟩ ⟨(WkT.refl _), trivial⟩ rfl rfl (fun _ h => h)
theorem F_pc_lies_W (x0 : List Int) (x1 : Int) (x2 : Int) (y0 : Int) (y1 : List Int) (y2 : Int) (y3 : Int) (h : F_pc_lies x0 x1 x2 = some (y0, y1, y2, y3)) : CG Tryz.prog 137 [V.ref 500 0] [(500, oc 65 [ty x0, ti x1, T.int .u64 x2])] (vi y0) [(500, oc 65 [ty y1, ti y2, T.int .u64 y3])] := by
 unfold F_pc_lies at h
 refine CG.intro (tab := tab) tab_ok (fn := Tryz.f137) Tryz.func137 (by kernel_rfl) rfl (Nat.le_of_ble_eq_true rfl) (by kernel_rfl) ?_
 obtain ⟨r5, r5b, r5c, r5d, c0, h⟩ := bnd4_some h
 simp only [Option.some.injEq, Prod.mk.injEq] at h
 obtain ⟨rfl, rfl, rfl, rfl⟩ := h
 exact WP.pathG tab_ok mixed [(4, An.fz), (5, An.callG [(500, 500)] [V.ref 500 0, vl [(1 : Int), (1 : Int), (2 : Int), (0 : Int), (1 : Int), (2 : Int), (1 : Int), (3 : Int), (-1 : Int), (1 : Int), (2 : Int), (0 : Int)]] [(500, oc 65 [ty x0, ti x1, T.int .u64 x2])] (vi r5) [(500, oc 65 [ty r5b, ti r5c, T.int .u64 r5d])])] [.keep [2], .keepO [500], .names [(500, 500)]] [500] _ (r' := vi r5) (ps := [((1 = 1 ∧ 0 + 1 ≤ 12) ∧ (1 = 1 ∧ 1 + 1 ≤ 12) ∧ (1 = 1 ∧ 2 + 1 ≤ 12) ∧ (1 = 1 ∧ 3 + 1 ≤ 12) ∧ (1 = 1 ∧ 4 + 1 ≤ 12) ∧ (1 = 1 ∧ 5 + 1 ≤ 12) ∧ (1 = 1 ∧ 6 + 1 ≤ 12) ∧ (1 = 1 ∧ 7 + 1 ≤ 12) ∧ (1 = 1 ∧ 8 + 1 ≤ 12) ∧ (1 = 1 ∧ 9 + 1 ≤ 12) ∧ (1 = 1 ∧ 10 + 1 ≤ 12) ∧ (1 = 1 ∧ 11 + 1 ≤ 12) ∧ True), (12 = 12 * 1), (CG Tryz.prog 98 [V.ref 500 0, vl [(1 : Int), (1 : Int), (2 : Int), (0 : Int), (1 : Int), (2 : Int), (1 : Int), (3 : Int), (-1 : Int), (1 : Int), (2 : Int), (0 : Int)]] [(500, oc 65 [ty x0, ti x1, T.int .u64 x2])] (vi r5) [(500, oc 65 [ty r5b, ti r5c, T.int .u64 r5d])]), ((V.ref 500 0).ren (renF [(500, 500)]) = V.ref 500 0), (WkT (T.list 12 1 [ti 1, ti 1, ti 2, ti 0, ti 1, ti 2, ti 1, ti 3, ti (-1), ti 1, ti 2, ti 0]) (tl [(1 : Int), (1 : Int), (2 : Int), (0 : Int), (1 : Int), (2 : Int), (1 : Int), (3 : Int), (-1 : Int), (1 : Int), (2 : Int), (0 : Int)])), (rn (oc 65 [ty x0, ti x1, T.int .u64 x2]) [(500, 500)])]) (r := vi r5) (N := [500]) (O := [(500, oc 65 [ty r5b, ti r5c, T.int .u64 r5d])]) [] (by kernel_rfl) ⟨⟨⟨by first | rfl | (simp; done) | (simp []; done) | omega, by first | decide | (simp; done) | (simp []; done) | omega | (simp only [tlL]; omega) | (simp; omega)⟩, ⟨by first | rfl | (simp; done) | (simp []; done) | omega, by first | decide | (simp; done) | (simp []; done) | omega | (simp only [tlL]; omega) | (simp; omega)⟩, ⟨by first | rfl | (simp; done) | (simp []; done) | omega, by first | decide | (simp; done) | (simp []; done) | omega | (simp only [tlL]; omega) | (simp; omega)⟩, ⟨by first | rfl | (simp; done) | (simp []; done) | omega, by first | decide | (simp; done) | (simp []; done) | omega | (simp only [tlL]; omega) | (simp; omega)⟩, ⟨by first | rfl | (simp; done) | (simp []; done) | omega, by first | decide | (simp; done) | (simp []; done) | omega | (simp only [tlL]; omega) | (simp; omega)⟩, ⟨by first | rfl | (simp; done) | (simp []; done) | omega, by first | decide | (simp; done) | (simp []; done) | omega | (simp only [tlL]; omega) | (simp; omega)⟩, ⟨by first | rfl | (simp; done) | (simp []; done) | omega, by first | decide | (simp; done) | (simp []; done) | omega | (simp only [tlL]; omega) | (simp; omega)⟩, ⟨by first | rfl | (simp; done) | (simp []; done) | omega, by first | decide | (simp; done) | (simp []; done) | omega | (simp only [tlL]; omega) | (simp; omega)⟩, ⟨by first | rfl | (simp; done) | (simp []; done) | omega, by first | decide | (simp; done) | (simp []; done) | omega | (simp only [tlL]; omega) | (simp; omega)⟩, ⟨by first | rfl | (simp; done) | (simp []; done) | omega, by first | decide | (simp; done) | (simp []; done) | omega | (simp only [tlL]; omega) | (simp; omega)⟩, ⟨by first | rfl | (simp; done) | (simp []; done) | omega, by first | decide | (simp; done) | (simp []; done) | omega | (simp only [tlL]; omega) | (simp; omega)⟩, ⟨by first | rfl | (simp; done) | (simp []; done) | omega, by first | decide | (simp; done) | (simp []; done) | omega | (simp only [tlL]; omega) | (simp; omega)⟩, trivial⟩, by decide, (F_pc_among_W x0 x1 x2 [(1 : Int), (1 : Int), (2 : Int), (0 : Int), (1 : Int), (2 : Int), (1 : Int), (3 : Int), (-1 : Int), (1 : Int), (2 : Int), (0 : Int)] r5 r5b r5c r5d c0), by first | rfl | (simp [V.ren, V.renL, renF, lk]; done) | (simp [V.ren, V.renL, renF, lk]; omega), WkT.eq (WkT.refl _) (by first | rfl | (simp only [tlS, tl, vl, vo, oc, ov, tbl, vbl, ty, vy] <;> rfl) | (simp <;> omega) | (simp []; done) | (rw [List.take_of_length_le (by simp [])] <;> rfl) | (simp [List.take_of_length_le]; done)), rfl, trivial⟩ ⟨(WkT.refl _), trivial⟩ rfl rfl (fun _ h => h)
theorem F_pc_state_W (x0 : List Int) (x1 : Int) (x2 : Int) (y0 : List Int) (y1 : Int) (y2 : List Int) (y3 : Int) (y4 : Int) (h : F_pc_state x0 x1 x2 = some (y0, y1, y2, y3, y4)) : CG Tryz.prog 107 [V.ref 500 0] [(500, oc 65 [ty x0, ti x1, T.int .u64 x2])] (V.agg [vo 9000 (List.length y0), vi y1]) [(500, oc 65 [ty y2, ti y3, T.int .u64 y4]), (9000, oc 3 (List.map (ti) y0))] := by
 unfold F_pc_state at h
 refine CG.intro (tab := tab) tab_ok (fn := Tryz.f107) Tryz.func107 (by kernel_rfl) rfl (Nat.le_of_ble_eq_true rfl) (by kernel_rfl) ?_
 refine WP.sn tm [(2, An.id 2002)] [] [2002, 500] [(2, V.ref 2002 0), (0, V.ref 500 0)] [(500, oc 65 [ty x0, ti x1, T.int .u64 x2]), (2002, oc 26 [T.nils, ti 0])] trivial ?_
 refine WP.seq ?_
 obtain ⟨r9, r9b, r9c, r9d, c0, h⟩ := bnd4_some h
 obtain ⟨r11, r11b, r11c, r11d, c1, h⟩ := bnd4_some h
 refine WP.pn tm [(9, An.callG [(500, 500)] [V.ref 500 0] [(500, oc 65 [ty x0, ti x1, T.int .u64 x2])] (vi r9) [(500, oc 65 [ty r9b, ti r9c, T.int .u64 r9d])]), (11, An.callG [(500, 500)] [V.ref 500 0] [(500, oc 65 [ty r9b, ti r9c, T.int .u64 r9d])] (vi r11) [(500, oc 65 [ty r11b, ti r11c, T.int .u64 r11d])])] [(CG Tryz.prog 137 [V.ref 500 0] [(500, oc 65 [ty x0, ti x1, T.int .u64 x2])] (vi r9) [(500, oc 65 [ty r9b, ti r9c, T.int .u64 r9d])]), ((V.ref 500 0).ren (renF [(500, 500)]) = V.ref 500 0), (rn (oc 65 [ty x0, ti x1, T.int .u64 x2]) [(500, 500)]), (CG Tryz.prog 97 [V.ref 500 0] [(500, oc 65 [ty r9b, ti r9c, T.int .u64 r9d])] (vi r11) [(500, oc 65 [ty r11b, ti r11c, T.int .u64 r11d])]), ((V.ref 500 0).ren (renF [(500, 500)]) = V.ref 500 0), (rn (oc 65 [ty r9b, ti r9c, T.int .u64 r9d]) [(500, 500)])] [2002, 500] [(4, vi r11), (3, vi r9), (2, V.ref 2002 0), (0, V.ref 500 0)] [(500, oc 65 [ty r11b, ti r11c, T.int .u64 r11d]), (2002, oc 26 [T.nils, ti 0])] ⟨(F_pc_lies_W x0 x1 x2 r9 r9b r9c r9d c0), by first | rfl | (simp [V.ren, V.renL, renF, lk]; done) | (simp [V.ren, V.renL, renF, lk]; omega), rfl, (F_pc_many_W r9b r9c r9d r11 r11b r11c r11d c1), by first | rfl | (simp [V.ren, V.renL, renF, lk]; done) | (simp [V.ren, V.renL, renF, lk]; omega), rfl, trivial⟩ ?_
 refine WP.sn tm [(12, An.id 2012), (5, An.id 2005)] [(True), (0 = 0 * 1), ((1 = 1 ∧ 0 + 1 ≤ 2) ∧ (1 = 1 ∧ 1 + 1 ≤ 2) ∧ True), ((0 + 2 ≤ 2 ∧ 2 = 2))] [2005, 2012, 2002, 500] [(5, V.ref 2005 0), (4, vi r11), (3, vi r9), (2, V.ref 2002 0), (0, V.ref 500 0)] [(500, oc 65 [ty r11b, ti r11c, T.int .u64 r11d]), (2002, oc 26 [T.nils, ti 0]), (2005, ov 26 [vo 2012 0, vi r9]), (2012, oc 3 [])] ⟨trivial, by decide, ⟨⟨by decide, by decide⟩, ⟨by decide, by decide⟩, trivial⟩, by decide, trivial⟩ ?_
 obtain ⟨J1, hJ1, h⟩ := jn_some h
 refine WP.joinA (fun (zz : (List Int) × Int × Int × (List Int)) => ⟨[500, 2002, 2005, 2012], [(5, V.ref 2005 0), (4, vi r11), (3, vi r9), (2, V.ref 2002 0), (0, V.ref 500 0)], [(500, oc 65 [ty zz.1, ti zz.2.1, T.int .u64 zz.2.2.1]), (2002, oc 26 [T.nils, ti 0]), (2005, ov 26 [vo 2012 (List.length zz.2.2.2), vi r9]), (2012, oc 3 (List.map (ti) zz.2.2.2))]⟩) (fun zz => J1 zz.1 zz.2.1 zz.2.2.1 zz.2.2.2 = some (y0, y1, y2, y3, y4)) ?_ ?_
 ·refine WP.sn tm [] [] [2005, 2012, 2002, 500] [(6, vi 0), (5, V.ref 2005 0), (4, vi r11), (3, vi r9), (2, V.ref 2002 0), (0, V.ref 500 0)] [(500, oc 65 [ty r11b, ti r11c, T.int .u64 r11d]), (2002, oc 26 [T.nils, ti 0]), (2005, ov 26 [vo 2012 0, vi r9]), (2012, oc 3 [])] trivial ?_
  refine WP.block ?_
  refine WP.lp (α := Nat × (List Int) × Int × Int × (List Int) × Int) (fun zz => ⟨[500, 2002, 2005, 2012], [(6, vi zz.2.2.2.2.2), (5, V.ref 2005 0), (4, vi r11), (3, vi r9), (2, V.ref 2002 0), (0, V.ref 500 0)], [(500, oc 65 [ty zz.2.1, ti zz.2.2.1, T.int .u64 zz.2.2.2.1]), (2002, oc 26 [T.nils, ti 0]), (2005, ov 26 [vo 2012 (List.length zz.2.2.2.2.1), vi r9]), (2012, oc 3 (List.map (ti) zz.2.2.2.2.1))]⟩) (fun zz => F_pc_state_L1 r9 r11 J1 zz.1 zz.2.1 zz.2.2.1 zz.2.2.2.1 zz.2.2.2.2.1 zz.2.2.2.2.2 = some (y0, y1, y2, y3, y4)) (fun zz => zz.1) (fuel, r11b, r11c, r11d, ([] : List Int), (0 : Int)) h ?_
  rintro ⟨n, o500, o500b, o500c, o12, v6⟩ h0
  have h := (show F_pc_state_L1 r9 r11 J1 n o500 o500b o500c o12 v6 = some (y0, y1, y2, y3, y4) from h0)
  rcases n with _ | n
  ·rw [F_pc_state_L1] at h; cases h
  ·rw [F_pc_state_L1] at h
   refine WP.seq ?_
   refine WP.sk tm [] [(True)] [(17, vb (decide (v6 < r11))), (6, vi v6), (5, V.ref 2005 0), (4, vi r11), (3, vi r9), (2, V.ref 2002 0), (0, V.ref 500 0)] [(500, oc 65 [ty o500, ti o500b, T.int .u64 o500c]), (2002, oc 26 [T.nils, ti 0]), (2005, ov 26 [vo 2012 (List.length o12), vi r9]), (2012, oc 3 (List.map (ti) o12))] ⟨trivial, trivial⟩ ?_
   rcases ite_some h with ⟨h1, h⟩ | ⟨h1, h⟩
   ·refine WP.yes h1 rfl ?_
    refine WP.pk tm [] [] [(6, vi v6), (5, V.ref 2005 0), (4, vi r11), (3, vi r9), (2, V.ref 2002 0), (0, V.ref 500 0)] [(500, oc 65 [ty o500, ti o500b, T.int .u64 o500c]), (2002, oc 26 [T.nils, ti 0]), (2005, ov 26 [vo 2012 (List.length o12), vi r9]), (2012, oc 3 (List.map (ti) o12))] trivial ?_
    refine WP.seq ?_
    refine WP.block ?_
    obtain ⟨c2, h⟩ := chk_some h
    obtain ⟨r26, r26b, r26c, r26d, c3, h⟩ := bnd4_some h
    obtain ⟨r28, r28b, r28c, r28d, c4, h⟩ := bnd4_some h
    obtain ⟨c5, c6, h⟩ := chk2 h
    obtain ⟨c7, h⟩ := chk_some h
    refine WP.pn tm [(24, An.v (ti (r9 + 2))), (25, An.call (ti (maxN (1 : Int) (r9 + 2)))), (26, An.callG [(500, 500)] [V.ref 500 0, vi (maxN (1 : Int) (r9 + 2))] [(500, oc 65 [ty o500, ti o500b, T.int .u64 o500c])] (vi r26) [(500, oc 65 [ty r26b, ti r26c, T.int .u64 r26d])]), (28, An.callG [(500, 500)] [V.ref 500 0, vi 6] [(500, oc 65 [ty r26b, ti r26c, T.int .u64 r26d])] (vi r28) [(500, oc 65 [ty r28b, ti r28c, T.int .u64 r28d])]), (29, An.v (ti (Int.tdiv r28 (5 : Int)))), (30, An.v (ti (r26 - (Int.tdiv r28 (5 : Int))))), (31, An.fz), (32, An.id 2032)] [(True), (True), (wr (r9 + 2)), (C Tryz.prog 71 [ti 1, ti (r9 + 2)] (ti (maxN (1 : Int) (r9 + 2)))), (CG Tryz.prog 70 [V.ref 500 0, vi (maxN (1 : Int) (r9 + 2))] [(500, oc 65 [ty o500, ti o500b, T.int .u64 o500c])] (vi r26) [(500, oc 65 [ty r26b, ti r26c, T.int .u64 r26d])]), ((V.ref 500 0).ren (renF [(500, 500)]) = V.ref 500 0), (WkT (ti (maxN (1 : Int) (r9 + 2))) (ti (maxN (1 : Int) (r9 + 2)))), (rn (oc 65 [ty o500, ti o500b, T.int .u64 o500c]) [(500, 500)]), (CG Tryz.prog 70 [V.ref 500 0, vi 6] [(500, oc 65 [ty r26b, ti r26c, T.int .u64 r26d])] (vi r28) [(500, oc 65 [ty r28b, ti r28c, T.int .u64 r28d])]), ((V.ref 500 0).ren (renF [(500, 500)]) = V.ref 500 0), (WkT (ti 6) (ti 6)), (rn (oc 65 [ty r26b, ti r26c, T.int .u64 r26d]) [(500, 500)]), ((5 : Int) ≠ 0), (wr (Int.tdiv r28 (5 : Int))), (True), (wr (r26 - (Int.tdiv r28 (5 : Int)))), ((1 = 1 ∧ 0 + 1 ≤ 1) ∧ True), (1 = 1 * 1), (True), (List.length (List.map (ti) o12) = (List.length o12) * 1), ((((List.length o12) + 1) * 8 ≤ 140737488355328 ∧ (List.length o12) + 1 ≤ maxLen)), (0 < 2)] [2032, 500, 2002, 2005, 2012] [(6, vi v6), (5, V.ref 2005 0), (4, vi r11), (3, vi r9), (2, V.ref 2002 0), (0, V.ref 500 0)] [(500, oc 65 [ty r28b, ti r28c, T.int .u64 r28d]), (2002, oc 26 [T.nils, ti 0]), (2005, ov 26 [vo 2032 ((List.length o12) + 1), vi r9]), (2032, oc 3 ((List.map (ti) o12) ++ [ti (r26 - (Int.tdiv r28 (5 : Int)))]))] ⟨trivial, trivial, wrapI c2, (by have hh := (l1Most_C (1 : Int) (r9 + 2)); first | exact hh | simpa using hh), (F_pc_pick_W o500 o500b o500c (maxN (1 : Int) (r9 + 2)) r26 r26b r26c r26d c3), by first | rfl | (simp [V.ren, V.renL, renF, lk]; done) | (simp [V.ren, V.renL, renF, lk]; omega), WkT.refl _, rfl, (F_pc_pick_W r26b r26c r26d (6 : Int) r28 r28b r28c r28d c4), by first | rfl | (simp [V.ren, V.renL, renF, lk]; done) | (simp [V.ren, V.renL, renF, lk]; omega), WkT.refl _, rfl, (show (5 : Int) ≠ 0 by first | decide | (simp only [maxLen]; omega) | (unfold I64; omega) | (unfold I64; decide)), quo_told c5, trivial, wrapI c6, ⟨⟨by first | rfl | (simp; done) | (simp []; done) | omega, by first | decide | (simp; done) | (simp []; done) | omega | (simp only [tlL]; omega) | (simp; omega)⟩, trivial⟩, by decide, trivial, by first | rfl | omega | (simp only [tlL] <;> omega) | (simp <;> omega) | (simp [] <;> omega), c7, by decide, trivial⟩ ?_
    obtain ⟨c8, h⟩ := chk_some h
    refine WP.nk tm [(19, An.v (ti (v6 + 1)))] [(500, 500), (2002, 2002), (2005, 2005), (2032, 2012)] .normal [(True), (wr (v6 + 1))] [(6, vi (v6 + 1)), (5, V.ref 2005 0), (4, vi r11), (3, vi r9), (2, V.ref 2002 0), (0, V.ref 500 0)] [(500, oc 65 [ty r28b, ti r28c, T.int .u64 r28d]), (2002, oc 26 [T.nils, ti 0]), (2005, ov 26 [vo 2012 ((List.length o12) + 1), vi r9]), (2012, oc 3 ((List.map (ti) o12) ++ [ti (r26 - (Int.tdiv r28 (5 : Int)))]))] ⟨trivial, wrapI c8, trivial⟩ ?_
    exact ⟨(n, r28b, r28c, r28d, o12 ++ [(r26 - (Int.tdiv r28 (5 : Int)))], (v6 + 1)), h, Nat.lt_succ_self _, (by first | rfl | (simp only [tlS, tl, vl, vo, oc, ov, tbl, vbl, ty, vy] <;> rfl) | (simp <;> omega) | (simp []; done) | (rw [List.take_of_length_le (by simp [])] <;> rfl) | (simp [List.take_of_length_le]; done))⟩
   ·refine WP.no h1 rfl ?_
    refine WP.eq tm [] 0 [] [(5, V.ref 2005 0), (4, vi r11), (3, vi r9), (2, V.ref 2002 0), (0, V.ref 500 0)] [(500, oc 65 [ty o500, ti o500b, T.int .u64 o500c]), (2002, oc 26 [T.nils, ti 0]), (2005, ov 26 [vo 2012 (List.length o12), vi r9]), (2012, oc 3 (List.map (ti) o12))] trivial ?_
    exact ⟨(o500, o500b, o500c, o12), h, rfl⟩
 ·rintro ⟨o500, o500b, o500c, o12⟩ h0
  have h := (show J1 o500 o500b o500c o12 = some (y0, y1, y2, y3, y4) from h0)
  rw [hJ1] at h
  obtain ⟨J1, hJ1, h⟩ := jn_some h
  refine WP.joinA (fun (zz : (List Int) × Int × Int × (List Int)) => ⟨[500, 2002, 2005, 2012], [(5, V.ref 2005 0), (2, V.ref 2002 0)], [(500, oc 65 [ty zz.1, ti zz.2.1, T.int .u64 zz.2.2.1]), (2002, oc 26 [T.nils, ti 0]), (2005, ov 26 [vo 2012 (List.length zz.2.2.2), vi r9]), (2012, oc 3 (List.map (ti) zz.2.2.2))]⟩) (fun zz => J1 zz.1 zz.2.1 zz.2.2.1 zz.2.2.2 = some (y0, y1, y2, y3, y4)) ?_ ?_
  ·refine WP.sk tm [] [] [(7, vi 0), (5, V.ref 2005 0), (4, vi r11), (3, vi r9), (2, V.ref 2002 0), (0, V.ref 500 0)] [(500, oc 65 [ty o500, ti o500b, T.int .u64 o500c]), (2002, oc 26 [T.nils, ti 0]), (2005, ov 26 [vo 2012 (List.length o12), vi r9]), (2012, oc 3 (List.map (ti) o12))] trivial ?_
   refine WP.block ?_
   refine WP.lp (α := Nat × (List Int) × Int × Int × (List Int) × Int) (fun zz => ⟨[500, 2002, 2005, 2012], [(7, vi zz.2.2.2.2.2), (5, V.ref 2005 0), (4, vi r11), (3, vi r9), (2, V.ref 2002 0), (0, V.ref 500 0)], [(500, oc 65 [ty zz.2.1, ti zz.2.2.1, T.int .u64 zz.2.2.2.1]), (2002, oc 26 [T.nils, ti 0]), (2005, ov 26 [vo 2012 (List.length zz.2.2.2.2.1), vi r9]), (2012, oc 3 (List.map (ti) zz.2.2.2.2.1))]⟩) (fun zz => F_pc_state_L2 r9 r11 J1 zz.1 zz.2.1 zz.2.2.1 zz.2.2.2.1 zz.2.2.2.2.1 zz.2.2.2.2.2 = some (y0, y1, y2, y3, y4)) (fun zz => zz.1) (fuel, o500, o500b, o500c, o12, (0 : Int)) h ?_
   rintro ⟨n, o500d, o500e, o500g, o12b, v7⟩ h0
   have h := (show F_pc_state_L2 r9 r11 J1 n o500d o500e o500g o12b v7 = some (y0, y1, y2, y3, y4) from h0)
   rcases n with _ | n
   ·rw [F_pc_state_L2] at h; cases h
   ·rw [F_pc_state_L2] at h
    refine WP.seq ?_
    refine WP.sk tm [] [(True)] [(36, vb (decide (v7 < r11))), (7, vi v7), (5, V.ref 2005 0), (4, vi r11), (3, vi r9), (2, V.ref 2002 0), (0, V.ref 500 0)] [(500, oc 65 [ty o500d, ti o500e, T.int .u64 o500g]), (2002, oc 26 [T.nils, ti 0]), (2005, ov 26 [vo 2012 (List.length o12b), vi r9]), (2012, oc 3 (List.map (ti) o12b))] ⟨trivial, trivial⟩ ?_
    rcases ite_some h with ⟨h2, h⟩ | ⟨h2, h⟩
    ·refine WP.yes h2 rfl ?_
     refine WP.pk tm [] [] [(7, vi v7), (5, V.ref 2005 0), (4, vi r11), (3, vi r9), (2, V.ref 2002 0), (0, V.ref 500 0)] [(500, oc 65 [ty o500d, ti o500e, T.int .u64 o500g]), (2002, oc 26 [T.nils, ti 0]), (2005, ov 26 [vo 2012 (List.length o12b), vi r9]), (2012, oc 3 (List.map (ti) o12b))] trivial ?_
     refine WP.seq ?_
     refine WP.block ?_
     obtain ⟨J2, hJ2, h⟩ := jn_some h
     refine WP.joinA (fun (zz : (List Int) × Int × Int × Bool) => ⟨[500, 2002, 2005, 2012], [(50, vb zz.2.2.2), (7, vi v7), (5, V.ref 2005 0), (4, vi r11), (3, vi r9), (2, V.ref 2002 0), (0, V.ref 500 0)], [(500, oc 65 [ty zz.1, ti zz.2.1, T.int .u64 zz.2.2.1]), (2002, oc 26 [T.nils, ti 0]), (2005, ov 26 [vo 2012 (List.length o12b), vi r9]), (2012, oc 3 (List.map (ti) o12b))]⟩) (fun zz => J2 zz.1 zz.2.1 zz.2.2.1 zz.2.2.2 = some (y0, y1, y2, y3, y4)) ?_ ?_
     ·obtain ⟨c2, h⟩ := chk_some h
      rcases ite_some h with ⟨h3, h⟩ | ⟨h3, h⟩
      ·obtain ⟨r48, r48b, r48c, r48d, c3, h⟩ := bnd4_some h
       refine WP.qk tm [(43, An.v (ti (gt o12b v7 0))), (45, An.b true), (48, An.callG [(500, 500)] [V.ref 500 0, vi 30] [(500, oc 65 [ty o500d, ti o500e, T.int .u64 o500g])] (vb r48) [(500, oc 65 [ty r48b, ti r48c, T.int .u64 r48d])])] [(True), (ib v7 o12b), ((List.map (ti) o12b : List T)[(Int.toNat v7) * 1]? = some (ti (gt o12b v7 0))), (rf (ti (gt o12b v7 0))), (True), ((decide ((gt o12b v7 0) > r9)) = true), (CG Tryz.prog 47 [V.ref 500 0, vi 30] [(500, oc 65 [ty o500d, ti o500e, T.int .u64 o500g])] (vb r48) [(500, oc 65 [ty r48b, ti r48c, T.int .u64 r48d])]), ((V.ref 500 0).ren (renF [(500, 500)]) = V.ref 500 0), (WkT (ti 30) (ti 30)), (rn (oc 65 [ty o500d, ti o500e, T.int .u64 o500g]) [(500, 500)])] [(50, vb (!r48)), (7, vi v7), (5, V.ref 2005 0), (4, vi r11), (3, vi r9), (2, V.ref 2002 0), (0, V.ref 500 0)] [(500, oc 65 [ty r48b, ti r48c, T.int .u64 r48d]), (2002, oc 26 [T.nils, ti 0]), (2005, ov 26 [vo 2012 (List.length o12b), vi r9]), (2012, oc 3 (List.map (ti) o12b))] ⟨trivial, c2, atM (by simp) (by first | omega | (simp only [tlL]; omega) | (simp; omega)), rfl, trivial, h3, (F_pc_one_W o500d o500e o500g (30 : Int) r48 r48b r48c r48d c3), by first | rfl | (simp [V.ren, V.renL, renF, lk]; done) | (simp [V.ren, V.renL, renF, lk]; omega), WkT.refl _, rfl, trivial⟩ ?_
       exact ⟨(r48b, r48c, r48d, !r48), h, rfl⟩
      ·refine WP.qk tm [(43, An.v (ti (gt o12b v7 0))), (45, An.b false)] [(True), (ib v7 o12b), ((List.map (ti) o12b : List T)[(Int.toNat v7) * 1]? = some (ti (gt o12b v7 0))), (rf (ti (gt o12b v7 0))), (True), ((decide ((gt o12b v7 0) > r9)) = false)] [(50, vb false), (7, vi v7), (5, V.ref 2005 0), (4, vi r11), (3, vi r9), (2, V.ref 2002 0), (0, V.ref 500 0)] [(500, oc 65 [ty o500d, ti o500e, T.int .u64 o500g]), (2002, oc 26 [T.nils, ti 0]), (2005, ov 26 [vo 2012 (List.length o12b), vi r9]), (2012, oc 3 (List.map (ti) o12b))] ⟨trivial, c2, atM (by simp) (by first | omega | (simp only [tlL]; omega) | (simp; omega)), rfl, trivial, h3, trivial⟩ ?_
       exact ⟨(o500d, o500e, o500g, false), h, rfl⟩
     ·rintro ⟨o500i, o500j, o500k, v50⟩ h0
      have h := (show J2 o500i o500j o500k v50 = some (y0, y1, y2, y3, y4) from h0)
      rw [hJ2] at h
      rcases ite_some h with ⟨h4, h⟩ | ⟨h4, h⟩
      ·refine WP.yes h4 rfl ?_
       obtain ⟨c2, h⟩ := chk_some h
       refine WP.pk tm [] [(True), (ib v7 o12b), ((Int.toNat v7) * 1 < List.length (List.map (ti) o12b))] [(7, vi v7), (5, V.ref 2005 0), (4, vi r11), (3, vi r9), (2, V.ref 2002 0), (0, V.ref 500 0)] [(500, oc 65 [ty o500i, ti o500j, T.int .u64 o500k]), (2002, oc 26 [T.nils, ti 0]), (2005, ov 26 [vo 2012 (List.length o12b), vi r9]), (2012, oc 3 (List.set (List.map (ti) o12b) ((Int.toNat v7) * 1) (ti (-1))))] ⟨trivial, c2, by first | decide | omega | (simp only [tlL] <;> omega) | (simp <;> omega) | (simp [] <;> omega), trivial⟩ ?_
       obtain ⟨c3, h⟩ := chk_some h
       refine WP.qk tm [(38, An.v (ti (v7 + 1)))] [(True), (wr (v7 + 1))] [(7, vi (v7 + 1)), (5, V.ref 2005 0), (4, vi r11), (3, vi r9), (2, V.ref 2002 0), (0, V.ref 500 0)] [(500, oc 65 [ty o500i, ti o500j, T.int .u64 o500k]), (2002, oc 26 [T.nils, ti 0]), (2005, ov 26 [vo 2012 (List.length o12b), vi r9]), (2012, oc 3 (List.set (List.map (ti) o12b) ((Int.toNat v7) * 1) (ti (-1))))] ⟨trivial, wrapI c3, trivial⟩ ?_
       exact ⟨(n, o500i, o500j, o500k, List.set o12b (Int.toNat v7) (-1 : Int), (v7 + 1)), h, Nat.lt_succ_self _, (by first | rfl | (simp only [tlS, tl, vl, vo, oc, ov, tbl, vbl, ty, vy] <;> rfl) | (simp <;> omega) | (simp []; done) | (rw [List.take_of_length_le (by simp [])] <;> rfl) | (simp [List.take_of_length_le]; done))⟩
      ·refine WP.no h4 rfl ?_
       refine WP.pk tm [] [] [(7, vi v7), (5, V.ref 2005 0), (4, vi r11), (3, vi r9), (2, V.ref 2002 0), (0, V.ref 500 0)] [(500, oc 65 [ty o500i, ti o500j, T.int .u64 o500k]), (2002, oc 26 [T.nils, ti 0]), (2005, ov 26 [vo 2012 (List.length o12b), vi r9]), (2012, oc 3 (List.map (ti) o12b))] trivial ?_
       obtain ⟨c2, h⟩ := chk_some h
       refine WP.qk tm [(38, An.v (ti (v7 + 1)))] [(True), (wr (v7 + 1))] [(7, vi (v7 + 1)), (5, V.ref 2005 0), (4, vi r11), (3, vi r9), (2, V.ref 2002 0), (0, V.ref 500 0)] [(500, oc 65 [ty o500i, ti o500j, T.int .u64 o500k]), (2002, oc 26 [T.nils, ti 0]), (2005, ov 26 [vo 2012 (List.length o12b), vi r9]), (2012, oc 3 (List.map (ti) o12b))] ⟨trivial, wrapI c2, trivial⟩ ?_
       exact ⟨(n, o500i, o500j, o500k, o12b, (v7 + 1)), h, Nat.lt_succ_self _, rfl⟩
    ·refine WP.no h2 rfl ?_
     refine WP.eq tm [] 2 [] [(5, V.ref 2005 0), (2, V.ref 2002 0)] [(500, oc 65 [ty o500d, ti o500e, T.int .u64 o500g]), (2002, oc 26 [T.nils, ti 0]), (2005, ov 26 [vo 2012 (List.length o12b), vi r9]), (2012, oc 3 (List.map (ti) o12b))] trivial ?_
     exact ⟨(o500d, o500e, o500g, o12b), h, rfl⟩
  ·rintro ⟨o500d, o500e, o500g, o12b⟩ h0
   have h := (show J1 o500d o500e o500g o12b = some (y0, y1, y2, y3, y4) from h0)
   rw [hJ1] at h
   simp only [Option.some.injEq, Prod.mk.injEq] at h
   obtain ⟨rfl, rfl, rfl, rfl, rfl⟩ := h
   exact WP.pathG tab_ok mixed [] [.keep [2], .keepO [500, 2012, 2002], .names [(500, 500), (2012, 9000), (2002, 2002)]] [500, 9000] _ (r' := V.agg [vo 9000 (List.length o12b), vi r9]) (ps := [(0 + 2 ≤ 2), ((0 + 2 ≤ 2 ∧ 2 = 2)), (0 + 2 ≤ 2)]) (r := V.agg [vo 9000 (List.length o12b), vi r9]) (N := [500, 9000, 2002]) (O := [(500, oc 65 [ty o500d, ti o500e, T.int .u64 o500g]), (9000, oc 3 (List.map (ti) o12b))]) [] (by kernel_rfl) ⟨by decide, by decide, by decide, trivial⟩ ⟨rfl, (WkT.refl _), trivial⟩ rfl rfl (fun _ h => h)
theorem F_pc_short_W (x0 : List Int) (x1 : Int) (x2 : Int) (y0 : List Int) (y1 : Int) (y2 : List Int) (y3 : Int) (y4 : Int) (h : F_pc_short x0 x1 x2 = some (y0, y1, y2, y3, y4)) : CG Tryz.prog 80 [V.ref 500 0] [(500, oc 65 [ty x0, ti x1, T.int .u64 x2])] (V.agg [vo 9000 (List.length y0), vi y1]) [(500, oc 65 [ty y2, ti y3, T.int .u64 y4]), (9000, oc 3 (List.map (ti) y0))] := by
 unfold F_pc_short at h
 refine CG.intro (tab := tab) tab_ok (fn := Tryz.f80) Tryz.func80 (by kernel_rfl) rfl (Nat.le_of_ble_eq_true rfl) (by kernel_rfl) ?_
 refine WP.sn tm [(2, An.id 2002)] [] [2002, 500] [(2, V.ref 2002 0), (0, V.ref 500 0)] [(500, oc 65 [ty x0, ti x1, T.int .u64 x2]), (2002, oc 26 [T.nils, ti 0])] trivial ?_
 refine WP.seq ?_
 refine WP.seq ?_
 obtain ⟨r6, r6b, r6c, r6d, c0, h⟩ := bnd4_some h
 refine WP.pn tm [(6, An.callG [(500, 500)] [V.ref 500 0, vi 12] [(500, oc 65 [ty x0, ti x1, T.int .u64 x2])] (vb r6) [(500, oc 65 [ty r6b, ti r6c, T.int .u64 r6d])])] [(CG Tryz.prog 47 [V.ref 500 0, vi 12] [(500, oc 65 [ty x0, ti x1, T.int .u64 x2])] (vb r6) [(500, oc 65 [ty r6b, ti r6c, T.int .u64 r6d])]), ((V.ref 500 0).ren (renF [(500, 500)]) = V.ref 500 0), (WkT (ti 12) (ti 12)), (rn (oc 65 [ty x0, ti x1, T.int .u64 x2]) [(500, 500)])] [2002, 500] [(6, vb r6), (2, V.ref 2002 0), (0, V.ref 500 0)] [(500, oc 65 [ty r6b, ti r6c, T.int .u64 r6d]), (2002, oc 26 [T.nils, ti 0])] ⟨(F_pc_one_W x0 x1 x2 (12 : Int) r6 r6b r6c r6d c0), by first | rfl | (simp [V.ren, V.renL, renF, lk]; done) | (simp [V.ren, V.renL, renF, lk]; omega), WkT.refl _, rfl, trivial⟩ ?_
 rcases ite_some h with ⟨h1, h⟩ | ⟨h1, h⟩
 ·refine WP.yes h1 rfl ?_
  obtain ⟨r8, r8b, r8c, r8d, r8e, c1, h⟩ := bnd5_some h
  simp only [Option.some.injEq, Prod.mk.injEq] at h
  obtain ⟨rfl, rfl, rfl, rfl, rfl⟩ := h
  exact WP.pathG tab_ok mixed [(8, An.callG [(500, 500), (9000, 10080)] [V.ref 500 0] [(500, oc 65 [ty r6b, ti r6c, T.int .u64 r6d])] (V.agg [vo 9000 (List.length r8), vi r8b]) [(500, oc 65 [ty r8c, ti r8d, T.int .u64 r8e]), (9000, oc 3 (List.map (ti) r8))])] [.keep [2], .keepO [500, 10080, 2002], .names [(500, 500), (10080, 9000), (2002, 2002)]] [500, 9000] _ (r' := V.agg [vo 9000 (List.length r8), vi r8b]) (ps := [(CG Tryz.prog 107 [V.ref 500 0] [(500, oc 65 [ty r6b, ti r6c, T.int .u64 r6d])] (V.agg [vo 9000 (List.length r8), vi r8b]) [(500, oc 65 [ty r8c, ti r8d, T.int .u64 r8e]), (9000, oc 3 (List.map (ti) r8))]), ((V.ref 500 0).ren (renF [(500, 500), (9000, 10080)]) = V.ref 500 0), (rn (oc 65 [ty r6b, ti r6c, T.int .u64 r6d]) [(500, 500), (9000, 10080)]), ((0 + 2 ≤ 2 ∧ 2 = 2)), (0 + 2 ≤ 2)]) (r := V.agg [vo 9000 (List.length r8), vi r8b]) (N := [500, 9000, 2002]) (O := [(500, oc 65 [ty r8c, ti r8d, T.int .u64 r8e]), (9000, oc 3 (List.map (ti) r8))]) [] (by kernel_rfl) ⟨(F_pc_state_W r6b r6c r6d r8 r8b r8c r8d r8e c1), by first | rfl | (simp [V.ren, V.renL, renF, lk]; done) | (simp [V.ren, V.renL, renF, lk]; omega), rfl, by decide, by decide, trivial⟩ ⟨rfl, (WkT.refl _), trivial⟩ rfl rfl (fun _ h => h)
 ·refine WP.no h1 rfl ?_
  refine WP.pn tm [] [] [2002, 500] [(2, V.ref 2002 0), (0, V.ref 500 0)] [(500, oc 65 [ty r6b, ti r6c, T.int .u64 r6d]), (2002, oc 26 [T.nils, ti 0])] trivial ?_
  refine WP.seq ?_
  obtain ⟨r11, r11b, r11c, r11d, c1, h⟩ := bnd4_some h
  refine WP.pn tm [(9, An.id 2009), (11, An.callG [(500, 500)] [V.ref 500 0, vi 2] [(500, oc 65 [ty r6b, ti r6c, T.int .u64 r6d])] (vi r11) [(500, oc 65 [ty r11b, ti r11c, T.int .u64 r11d])]), (3, An.id 2003)] [(True), (0 = 0 * 1), (CG Tryz.prog 70 [V.ref 500 0, vi 2] [(500, oc 65 [ty r6b, ti r6c, T.int .u64 r6d])] (vi r11) [(500, oc 65 [ty r11b, ti r11c, T.int .u64 r11d])]), ((V.ref 500 0).ren (renF [(500, 500)]) = V.ref 500 0), (WkT (ti 2) (ti 2)), (rn (oc 65 [ty r6b, ti r6c, T.int .u64 r6d]) [(500, 500)]), ((1 = 1 ∧ 0 + 1 ≤ 2) ∧ (1 = 1 ∧ 1 + 1 ≤ 2) ∧ True), ((0 + 2 ≤ 2 ∧ 2 = 2))] [2003, 2009, 2002, 500] [(3, V.ref 2003 0), (2, V.ref 2002 0), (0, V.ref 500 0)] [(500, oc 65 [ty r11b, ti r11c, T.int .u64 r11d]), (2002, oc 26 [T.nils, ti 0]), (2003, ov 26 [vo 2009 0, vi r11]), (2009, oc 3 [])] ⟨trivial, by decide, (F_pc_pick_W r6b r6c r6d (2 : Int) r11 r11b r11c r11d c1), by first | rfl | (simp [V.ren, V.renL, renF, lk]; done) | (simp [V.ren, V.renL, renF, lk]; omega), WkT.refl _, rfl, ⟨⟨by decide, by decide⟩, ⟨by decide, by decide⟩, trivial⟩, by decide, trivial⟩ ?_
  obtain ⟨J1, hJ1, h⟩ := jn_some h
  refine WP.joinA (fun (zz : (List Int) × Int × Int × (List Int)) => ⟨[500, 2002, 2003, 2009], [(3, V.ref 2003 0), (2, V.ref 2002 0)], [(500, oc 65 [ty zz.1, ti zz.2.1, T.int .u64 zz.2.2.1]), (2002, oc 26 [T.nils, ti 0]), (2003, ov 26 [vo 2009 (List.length zz.2.2.2), vi r11]), (2009, oc 3 (List.map (ti) zz.2.2.2))]⟩) (fun zz => J1 zz.1 zz.2.1 zz.2.2.1 zz.2.2.2 = some (y0, y1, y2, y3, y4)) ?_ ?_
  ·refine WP.seq ?_
   obtain ⟨r15, r15b, r15c, r15d, c2, h⟩ := bnd4_some h
   refine WP.pn tm [(14, An.fz), (15, An.callG [(500, 500)] [V.ref 500 0, vl [(4 : Int), (5 : Int), (3 : Int), (3 : Int), (2 : Int), (1 : Int), (4 : Int), (6 : Int)]] [(500, oc 65 [ty r11b, ti r11c, T.int .u64 r11d])] (vi r15) [(500, oc 65 [ty r15b, ti r15c, T.int .u64 r15d])])] [((1 = 1 ∧ 0 + 1 ≤ 8) ∧ (1 = 1 ∧ 1 + 1 ≤ 8) ∧ (1 = 1 ∧ 2 + 1 ≤ 8) ∧ (1 = 1 ∧ 3 + 1 ≤ 8) ∧ (1 = 1 ∧ 4 + 1 ≤ 8) ∧ (1 = 1 ∧ 5 + 1 ≤ 8) ∧ (1 = 1 ∧ 6 + 1 ≤ 8) ∧ (1 = 1 ∧ 7 + 1 ≤ 8) ∧ True), (8 = 8 * 1), (CG Tryz.prog 98 [V.ref 500 0, vl [(4 : Int), (5 : Int), (3 : Int), (3 : Int), (2 : Int), (1 : Int), (4 : Int), (6 : Int)]] [(500, oc 65 [ty r11b, ti r11c, T.int .u64 r11d])] (vi r15) [(500, oc 65 [ty r15b, ti r15c, T.int .u64 r15d])]), ((V.ref 500 0).ren (renF [(500, 500)]) = V.ref 500 0), (WkT (T.list 8 1 [ti 4, ti 5, ti 3, ti 3, ti 2, ti 1, ti 4, ti 6]) (tl [(4 : Int), (5 : Int), (3 : Int), (3 : Int), (2 : Int), (1 : Int), (4 : Int), (6 : Int)])), (rn (oc 65 [ty r11b, ti r11c, T.int .u64 r11d]) [(500, 500)])] [2003, 2009, 2002, 500] [(4, vi r15), (3, V.ref 2003 0), (2, V.ref 2002 0), (0, V.ref 500 0)] [(500, oc 65 [ty r15b, ti r15c, T.int .u64 r15d]), (2002, oc 26 [T.nils, ti 0]), (2003, ov 26 [vo 2009 0, vi r11]), (2009, oc 3 [])] ⟨⟨⟨by first | rfl | (simp; done) | (simp []; done) | omega, by first | decide | (simp; done) | (simp []; done) | omega | (simp only [tlL]; omega) | (simp; omega)⟩, ⟨by first | rfl | (simp; done) | (simp []; done) | omega, by first | decide | (simp; done) | (simp []; done) | omega | (simp only [tlL]; omega) | (simp; omega)⟩, ⟨by first | rfl | (simp; done) | (simp []; done) | omega, by first | decide | (simp; done) | (simp []; done) | omega | (simp only [tlL]; omega) | (simp; omega)⟩, ⟨by first | rfl | (simp; done) | (simp []; done) | omega, by first | decide | (simp; done) | (simp []; done) | omega | (simp only [tlL]; omega) | (simp; omega)⟩, ⟨by first | rfl | (simp; done) | (simp []; done) | omega, by first | decide | (simp; done) | (simp []; done) | omega | (simp only [tlL]; omega) | (simp; omega)⟩, ⟨by first | rfl | (simp; done) | (simp []; done) | omega, by first | decide | (simp; done) | (simp []; done) | omega | (simp only [tlL]; omega) | (simp; omega)⟩, ⟨by first | rfl | (simp; done) | (simp []; done) | omega, by first | decide | (simp; done) | (simp []; done) | omega | (simp only [tlL]; omega) | (simp; omega)⟩, ⟨by first | rfl | (simp; done) | (simp []; done) | omega, by first | decide | (simp; done) | (simp []; done) | omega | (simp only [tlL]; omega) | (simp; omega)⟩, trivial⟩, by decide, (F_pc_among_W r11b r11c r11d [(4 : Int), (5 : Int), (3 : Int), (3 : Int), (2 : Int), (1 : Int), (4 : Int), (6 : Int)] r15 r15b r15c r15d c2), by first | rfl | (simp [V.ren, V.renL, renF, lk]; done) | (simp [V.ren, V.renL, renF, lk]; omega), WkT.eq (WkT.refl _) (by first | rfl | (simp only [tlS, tl, vl, vo, oc, ov, tbl, vbl, ty, vy] <;> rfl) | (simp <;> omega) | (simp []; done) | (rw [List.take_of_length_le (by simp [])] <;> rfl) | (simp [List.take_of_length_le]; done)), rfl, trivial⟩ ?_
   refine WP.block ?_
   refine WP.lp (α := Nat × (List Int) × Int × Int × (List Int) × Int) (fun zz => ⟨[500, 2002, 2003, 2009], [(4, vi zz.2.2.2.2.2), (3, V.ref 2003 0), (2, V.ref 2002 0), (0, V.ref 500 0)], [(500, oc 65 [ty zz.2.1, ti zz.2.2.1, T.int .u64 zz.2.2.2.1]), (2002, oc 26 [T.nils, ti 0]), (2003, ov 26 [vo 2009 (List.length zz.2.2.2.2.1), vi r11]), (2009, oc 3 (List.map (ti) zz.2.2.2.2.1))]⟩) (fun zz => F_pc_short_L1 r11 J1 zz.1 zz.2.1 zz.2.2.1 zz.2.2.2.1 zz.2.2.2.2.1 zz.2.2.2.2.2 = some (y0, y1, y2, y3, y4)) (fun zz => zz.1) (fuel, r15b, r15c, r15d, ([] : List Int), r15) h ?_
   rintro ⟨n, o500, o500b, o500c, o9, v4⟩ h0
   have h := (show F_pc_short_L1 r11 J1 n o500 o500b o500c o9 v4 = some (y0, y1, y2, y3, y4) from h0)
   rcases n with _ | n
   ·rw [F_pc_short_L1] at h; cases h
   ·rw [F_pc_short_L1] at h
    refine WP.seq ?_
    refine WP.sk tm [] [(True)] [(17, vb (decide (v4 > (0 : Int)))), (4, vi v4), (3, V.ref 2003 0), (2, V.ref 2002 0), (0, V.ref 500 0)] [(500, oc 65 [ty o500, ti o500b, T.int .u64 o500c]), (2002, oc 26 [T.nils, ti 0]), (2003, ov 26 [vo 2009 (List.length o9), vi r11]), (2009, oc 3 (List.map (ti) o9))] ⟨trivial, trivial⟩ ?_
    rcases ite_some h with ⟨h2, h⟩ | ⟨h2, h⟩
    ·refine WP.yes h2 rfl ?_
     refine WP.pk tm [] [] [(4, vi v4), (3, V.ref 2003 0), (2, V.ref 2002 0), (0, V.ref 500 0)] [(500, oc 65 [ty o500, ti o500b, T.int .u64 o500c]), (2002, oc 26 [T.nils, ti 0]), (2003, ov 26 [vo 2009 (List.length o9), vi r11]), (2009, oc 3 (List.map (ti) o9))] trivial ?_
     refine WP.seq ?_
     refine WP.block ?_
     obtain ⟨r26, r26b, r26c, r26d, c3, h⟩ := bnd4_some h
     obtain ⟨c4, h⟩ := chk_some h
     refine WP.pn tm [(25, An.fz), (26, An.callG [(500, 500)] [V.ref 500 0, vl [(0 : Int), (0 : Int), r11, (-1 : Int), (0 : Int)]] [(500, oc 65 [ty o500, ti o500b, T.int .u64 o500c])] (vi r26) [(500, oc 65 [ty r26b, ti r26c, T.int .u64 r26d])]), (27, An.fz), (28, An.id 2028)] [(True), (True), ((1 = 1 ∧ 0 + 1 ≤ 5) ∧ (1 = 1 ∧ 1 + 1 ≤ 5) ∧ (1 = 1 ∧ 2 + 1 ≤ 5) ∧ (1 = 1 ∧ 3 + 1 ≤ 5) ∧ (1 = 1 ∧ 4 + 1 ≤ 5) ∧ True), (5 = 5 * 1), (CG Tryz.prog 98 [V.ref 500 0, vl [(0 : Int), (0 : Int), r11, (-1 : Int), (0 : Int)]] [(500, oc 65 [ty o500, ti o500b, T.int .u64 o500c])] (vi r26) [(500, oc 65 [ty r26b, ti r26c, T.int .u64 r26d])]), ((V.ref 500 0).ren (renF [(500, 500)]) = V.ref 500 0), (WkT (T.list 5 1 [ti 0, ti 0, ti r11, ti (-1), ti 0]) (tl [(0 : Int), (0 : Int), r11, (-1 : Int), (0 : Int)])), (rn (oc 65 [ty o500, ti o500b, T.int .u64 o500c]) [(500, 500)]), ((1 = 1 ∧ 0 + 1 ≤ 1) ∧ True), (1 = 1 * 1), (True), (List.length (List.map (ti) o9) = (List.length o9) * 1), ((((List.length o9) + 1) * 8 ≤ 140737488355328 ∧ (List.length o9) + 1 ≤ maxLen)), (0 < 2)] [2028, 500, 2002, 2003, 2009] [(4, vi v4), (3, V.ref 2003 0), (2, V.ref 2002 0), (0, V.ref 500 0)] [(500, oc 65 [ty r26b, ti r26c, T.int .u64 r26d]), (2002, oc 26 [T.nils, ti 0]), (2003, ov 26 [vo 2028 ((List.length o9) + 1), vi r11]), (2028, oc 3 ((List.map (ti) o9) ++ [ti r26]))] ⟨trivial, trivial, ⟨⟨by first | rfl | (simp; done) | (simp []; done) | omega, by first | decide | (simp; done) | (simp []; done) | omega | (simp only [tlL]; omega) | (simp; omega)⟩, ⟨by first | rfl | (simp; done) | (simp []; done) | omega, by first | decide | (simp; done) | (simp []; done) | omega | (simp only [tlL]; omega) | (simp; omega)⟩, ⟨by first | rfl | (simp; done) | (simp []; done) | omega, by first | decide | (simp; done) | (simp []; done) | omega | (simp only [tlL]; omega) | (simp; omega)⟩, ⟨by first | rfl | (simp; done) | (simp []; done) | omega, by first | decide | (simp; done) | (simp []; done) | omega | (simp only [tlL]; omega) | (simp; omega)⟩, ⟨by first | rfl | (simp; done) | (simp []; done) | omega, by first | decide | (simp; done) | (simp []; done) | omega | (simp only [tlL]; omega) | (simp; omega)⟩, trivial⟩, by decide, (F_pc_among_W o500 o500b o500c [(0 : Int), (0 : Int), r11, (-1 : Int), (0 : Int)] r26 r26b r26c r26d c3), by first | rfl | (simp [V.ren, V.renL, renF, lk]; done) | (simp [V.ren, V.renL, renF, lk]; omega), WkT.eq (WkT.refl _) (by first | rfl | (simp only [tlS, tl, vl, vo, oc, ov, tbl, vbl, ty, vy] <;> rfl) | (simp <;> omega) | (simp []; done) | (rw [List.take_of_length_le (by simp [])] <;> rfl) | (simp [List.take_of_length_le]; done)), rfl, ⟨⟨by first | rfl | (simp; done) | (simp []; done) | omega, by first | decide | (simp; done) | (simp []; done) | omega | (simp only [tlL]; omega) | (simp; omega)⟩, trivial⟩, by decide, trivial, by first | rfl | omega | (simp only [tlL] <;> omega) | (simp <;> omega) | (simp [] <;> omega), c4, by decide, trivial⟩ ?_
     obtain ⟨c5, h⟩ := chk_some h
     refine WP.nk tm [(19, An.v (ti (v4 - 1)))] [(500, 500), (2002, 2002), (2003, 2003), (2028, 2009)] .normal [(True), (wr (v4 - 1))] [(4, vi (v4 - 1)), (3, V.ref 2003 0), (2, V.ref 2002 0), (0, V.ref 500 0)] [(500, oc 65 [ty r26b, ti r26c, T.int .u64 r26d]), (2002, oc 26 [T.nils, ti 0]), (2003, ov 26 [vo 2009 ((List.length o9) + 1), vi r11]), (2009, oc 3 ((List.map (ti) o9) ++ [ti r26]))] ⟨trivial, wrapI c5, trivial⟩ ?_
     exact ⟨(n, r26b, r26c, r26d, o9 ++ [r26], (v4 - 1)), h, Nat.lt_succ_self _, (by first | rfl | (simp only [tlS, tl, vl, vo, oc, ov, tbl, vbl, ty, vy] <;> rfl) | (simp <;> omega) | (simp []; done) | (rw [List.take_of_length_le (by simp [])] <;> rfl) | (simp [List.take_of_length_le]; done))⟩
    ·refine WP.no h2 rfl ?_
     refine WP.eq tm [] 0 [] [(3, V.ref 2003 0), (2, V.ref 2002 0)] [(500, oc 65 [ty o500, ti o500b, T.int .u64 o500c]), (2002, oc 26 [T.nils, ti 0]), (2003, ov 26 [vo 2009 (List.length o9), vi r11]), (2009, oc 3 (List.map (ti) o9))] trivial ?_
     exact ⟨(o500, o500b, o500c, o9), h, rfl⟩
  ·rintro ⟨o500, o500b, o500c, o9⟩ h0
   have h := (show J1 o500 o500b o500c o9 = some (y0, y1, y2, y3, y4) from h0)
   rw [hJ1] at h
   simp only [Option.some.injEq, Prod.mk.injEq] at h
   obtain ⟨rfl, rfl, rfl, rfl, rfl⟩ := h
   exact WP.pathG tab_ok mixed [] [.keep [2], .keepO [500, 2009, 2002], .names [(500, 500), (2009, 9000), (2002, 2002)]] [500, 9000] _ (r' := V.agg [vo 9000 (List.length o9), vi r11]) (ps := [(0 + 2 ≤ 2), ((0 + 2 ≤ 2 ∧ 2 = 2)), (0 + 2 ≤ 2)]) (r := V.agg [vo 9000 (List.length o9), vi r11]) (N := [500, 9000, 2002]) (O := [(500, oc 65 [ty o500, ti o500b, T.int .u64 o500c]), (9000, oc 3 (List.map (ti) o9))]) [] (by kernel_rfl) ⟨by decide, by decide, by decide, trivial⟩ ⟨rfl, (WkT.refl _), trivial⟩ rfl rfl (fun _ h => h)
theorem F_s_DrawLessNeed_W (x0 : List Int) (y0 : List Int) (y1 : Int) (h : F_s_DrawLessNeed x0 = some (y0, y1)) : CG Tryz.prog 25 [vy x0] [] (V.agg [vo 9000 (List.length y0), vi y1]) [(9000, oc 3 (List.map (ti) y0))] := by
 unfold F_s_DrawLessNeed at h
 refine CG.intro (tab := tab) tab_ok (fn := Tryz.f25) Tryz.func25 (by kernel_rfl) rfl (Nat.le_of_ble_eq_true rfl) (by kernel_rfl) ?_
 obtain ⟨r8, r8b, r8c, r8d, r8e, c0, h⟩ := bnd5_some h
 simp only [Option.some.injEq, Prod.mk.injEq] at h
 obtain ⟨rfl, rfl⟩ := h
 exact WP.pathG tab_ok mixed [(2, An.id 2002), (6, An.id 2006), (8, An.callG [(500, 2006), (9000, 10080)] [V.ref 500 0] [(500, oc 65 [ty x0, ti 0, T.int .u64 0])] (V.agg [vo 9000 (List.length r8), vi r8b]) [(500, oc 65 [ty r8c, ti r8d, T.int .u64 r8e]), (9000, oc 3 (List.map (ti) r8))])] [.keep [2], .keepO [10080, 2002], .names [(10080, 9000), (2002, 2002)]] [9000] _ (r' := V.agg [vo 9000 (List.length r8), vi r8b]) (ps := [((1 = 1 ∧ 0 + 1 ≤ 3) ∧ True), (CG Tryz.prog 80 [V.ref 500 0] [(500, oc 65 [ty x0, ti 0, T.int .u64 0])] (V.agg [vo 9000 (List.length r8), vi r8b]) [(500, oc 65 [ty r8c, ti r8d, T.int .u64 r8e]), (9000, oc 3 (List.map (ti) r8))]), ((V.ref 500 0).ren (renF [(500, 2006), (9000, 10080)]) = V.ref 2006 0), (rn (oc 65 [ty x0, ti 0, T.int .u64 0]) [(500, 2006), (9000, 10080)]), ((0 + 2 ≤ 2 ∧ 2 = 2)), (0 + 2 ≤ 2)]) (r := V.agg [vo 9000 (List.length r8), vi r8b]) (N := [9000, 2002]) (O := [(9000, oc 3 (List.map (ti) r8))]) [] (by kernel_rfl) ⟨⟨⟨by first | rfl | (simp; done) | (simp []; done) | omega, by first | decide | (simp; done) | (simp []; done) | omega | (simp only [tlL]; omega) | (simp; omega)⟩, trivial⟩, (F_pc_short_W x0 (0 : Int) (0 : Int) r8 r8b r8c r8d r8e c0), by first | rfl | (simp [V.ren, V.renL, renF, lk]; done) | (simp [V.ren, V.renL, renF, lk]; omega), rfl, by decide, by decide, trivial⟩ ⟨rfl, (WkT.refl _), trivial⟩ rfl rfl (fun _ h => h)
theorem F_s_DrawLessNeed_W_C (x0 : List Int) (y0 : List Int) (y1 : Int) (h : F_s_DrawLessNeed x0 = some (y0, y1)) : C Tryz.prog 25 [ty x0] (T.agg [tl y0, ti y1]) :=
 CG.toC (ps := [(List.length (List.map (ti) y0) = (List.length y0) * 1)]) (F_s_DrawLessNeed_W  x0 y0 y1 h) (by rfl) ⟨by first | rfl | omega | (simp <;> omega) | (simp [hl] <;> omega), trivial⟩

end Go.Proofs.YtopodonemnnjdaaGreat.AuCoa
