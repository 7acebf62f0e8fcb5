/-
  The walks: each function of the program returns what the plain function beside it returns. No statement is proved here.
-/
import Derived.Test.YtopodonemnnjdaaGreatTlGroupc
import Derived.Test.YtopodonemnnjdaaGreatTlGroupd

import Derived.Test.YtopodonemnnjdaaGreatAuAnF
import Derived.Test.YtopodonemnnjdaaGreatProg
import Derived.Test.YtopodonemnnjdaaGreatAuAnO
import Derived.Test.YtopodonemnnjdaaGreatAuAna
namespace Go.Proofs.YtopodonemnnjdaaGreat.AuAnb
open Go Go.Tl Go.Proofs
open Go.Proofs.YtopodonemnnjdaaGreat.AuAnO hiding tab tab_ok mixed tm
open Go.Proofs.YtopodonemnnjdaaGreat.AuAna hiding tab tab_ok mixed tm
set_option linter.unusedVariables false
set_option linter.unusedSimpArgs false
set_option maxRecDepth 100000
set_option maxHeartbeats 4000000
def tab : Tab := [(3, ⟨.int .i64, 1, 8, [.int .i64 0]⟩), (4, ⟨.bool, 1, 1, [.bool false]⟩), (5, ⟨.int .u8, 1, 1, [.int .u8 0]⟩), (22, ⟨.slice 5 1 1, 1, 24, [.nils]⟩), (24, ⟨.slice 3 1 8, 1, 24, [.nils]⟩), (26, ⟨.struct [(0, 1, false), (1, 1, false)], 2, 32, [.nils, .int .i64 0]⟩), (27, ⟨.slice 4 1 1, 1, 24, [.nils]⟩), (62, ⟨.pointer 65, 1, 8, [.nilp]⟩), (63, ⟨.int .u64, 1, 8, [.int .u64 0]⟩), (65, ⟨.struct [(0, 1, false), (1, 1, false), (2, 1, false)], 3, 40, [.nils, .int .i64 0, .int .u64 0]⟩), (76, ⟨.func, 1, 8, [.nilf]⟩), (77, ⟨.map 118 3, 1, 8, [.nilm]⟩), (79, ⟨.struct [(0, 1, false), (1, 1, false)], 2, 16, [.nilf, .nilm]⟩), (84, ⟨.struct [(0, 1, false), (1, 1, false)], 2, 16, [.int .i64 0, .bool false]⟩), (95, ⟨.func, 1, 8, [.nilf]⟩), (105, ⟨.array 2 26 2 true, 4, 64, [.nils, .int .i64 0, .nils, .int .i64 0]⟩), (118, ⟨.array 3 3 1 false, 3, 24, [.int .i64 0, .int .i64 0, .int .i64 0]⟩), (122, ⟨.slice 118 3 24, 1, 24, [.nils]⟩), (124, ⟨.slice 24 1 24, 1, 24, [.nils]⟩), (129, ⟨.func, 1, 8, [.nilf]⟩)]
theorem tab_ok : chkTab Tryz.prog tab = true := by kernel_rfl
theorem mixed : Tryz.prog.follows .mixedOrders = true := by kernel_rfl
abbrev tm := And.intro tab_ok mixed
theorem F_impl_needs_W (g0 : FuncId) (pre0 caps0 : List T) (p0 : (List Int) → (List Int) → Option ((List Int) × (List Int))) (hp0 : ∀ (a0_0 : List Int) (a0_1 : List Int) (b0_2 : List Int) (b0_3 : List Int), p0 a0_0 a0_1 = some (b0_2, b0_3) → C Tryz.prog g0 (pre0 ++ ([tl a0_0, tl a0_1] ++ caps0)) (T.tup [tl b0_2, tl b0_3])) (y0 : List (K3 × Int)) (h : F_impl_needs p0 = some y0) : CG Tryz.prog 112 [V.t (T.fn g0 pre0 caps0)] [] (V.mapr 9000) [(9000, Tl.Obj.map (mpT y0))] := by
 unfold F_impl_needs at h
 refine CG.intro (tab := tab) tab_ok (fn := Tryz.f112) Tryz.func112 (by as_aux_lemma => kernel_rfl) rfl (Nat.le_of_ble_eq_true rfl) (by as_aux_lemma => kernel_rfl) ?_
 refine WP.sk tm [(1, An.fz)] [] [(2, V.t (T.nilm)), (1, V.t (T.ptr [T.fn g0 pre0 caps0]))] [] trivial ?_
 refine WP.sn tm [(15, An.id 2015), (16, An.id 2016), (3, An.id 2003)] [(True), (0 = 0 * 3), (0 < 1)] [2003, 2016, 2015] [(4, V.own 2016 3 0), (3, V.ref 2003 0), (2, V.t (T.nilm)), (1, V.t (T.ptr [T.fn g0 pre0 caps0]))] [(2003, ov 77 [V.mapr 2015]), (2015, Tl.Obj.map (mpT ([] : List (K3 × Int)))), (2016, oc 118 [])] ⟨trivial, by decide, by decide, trivial⟩ ?_
 obtain ⟨J1, hJ1, h⟩ := jn_some h
 refine WP.joinA (fun (zz : (List Nd) × (List (K3 × Int))) => ⟨[2003, 2015, 2016], [(4, V.own 2016 3 (List.length zz.1)), (3, V.ref 2003 0), (2, V.t (T.nilm)), (1, V.t (T.ptr [T.fn g0 pre0 caps0]))], [(2003, ov 77 [V.mapr 2015]), (2015, Tl.Obj.map (mpT zz.2)), (2016, oc 118 (List.flatMap nodeC zz.1))]⟩) (fun zz => J1 zz.1 zz.2 = some y0) ?_ ?_
 ·refine WP.sn tm [] [] [2003, 2016, 2015] [(17, vi 0), (4, V.own 2016 3 0), (3, V.ref 2003 0), (2, V.t (T.nilm)), (1, V.t (T.ptr [T.fn g0 pre0 caps0]))] [(2003, ov 77 [V.mapr 2015]), (2015, Tl.Obj.map (mpT ([] : List (K3 × Int)))), (2016, oc 118 [])] trivial ?_
  refine WP.block ?_
  refine WP.lp (α := Nat × (List Nd) × (List (K3 × Int)) × Int) (fun zz => ⟨[2003, 2015, 2016], [(17, vi zz.2.2.2), (4, V.own 2016 3 (List.length zz.2.1)), (3, V.ref 2003 0), (2, V.t (T.nilm)), (1, V.t (T.ptr [T.fn g0 pre0 caps0]))], [(2003, ov 77 [V.mapr 2015]), (2015, Tl.Obj.map (mpT zz.2.2.1)), (2016, oc 118 (List.flatMap nodeC zz.2.1))]⟩) (fun zz => F_impl_needs_L1 J1 zz.1 zz.2.1 zz.2.2.1 zz.2.2.2 = some y0) (fun zz => zz.1) (fuel, ([] : List Nd), ([] : List (K3 × Int)), (0 : Int)) h ?_
  rintro ⟨n, o16, o15, v17⟩ h0
  have h := (show F_impl_needs_L1 J1 n o16 o15 v17 = some y0 from h0)
  rcases n with _ | n
  ·rw [F_impl_needs_L1] at h; cases h
  ·rw [F_impl_needs_L1] at h
   refine WP.sk tm [] [(True)] [(18, vb (decide (v17 < (9 : Int)))), (17, vi v17), (4, V.own 2016 3 (List.length o16)), (3, V.ref 2003 0), (2, V.t (T.nilm)), (1, V.t (T.ptr [T.fn g0 pre0 caps0]))] [(2003, ov 77 [V.mapr 2015]), (2015, Tl.Obj.map (mpT o15)), (2016, oc 118 (List.flatMap nodeC o16))] ⟨trivial, trivial⟩ ?_
   refine WP.seq ?_
   rcases ite_some h with ⟨h1, h⟩ | ⟨h1, h⟩
   ·refine WP.yes h1 rfl ?_
    refine WP.pk tm [] [] [(17, vi v17), (4, V.own 2016 3 (List.length o16)), (3, V.ref 2003 0), (2, V.t (T.nilm)), (1, V.t (T.ptr [T.fn g0 pre0 caps0]))] [(2003, ov 77 [V.mapr 2015]), (2015, Tl.Obj.map (mpT o15)), (2016, oc 118 (List.flatMap nodeC o16))] trivial ?_
    obtain ⟨J2, hJ2, h⟩ := jn_some h
    refine WP.joinA (fun (zz : (List Nd) × (List (K3 × Int))) => ⟨[2003, 2015, 2016], [(17, vi v17), (4, V.own 2016 3 (List.length zz.1)), (3, V.ref 2003 0), (2, V.t (T.nilm)), (1, V.t (T.ptr [T.fn g0 pre0 caps0]))], [(2003, ov 77 [V.mapr 2015]), (2015, Tl.Obj.map (mpT zz.2)), (2016, oc 118 (List.flatMap nodeC zz.1))]⟩) (fun zz => J2 zz.1 zz.2 = some y0) ?_ ?_
    ·refine WP.block ?_
     refine WP.sk tm [] [] [(5, vi v17), (17, vi v17), (4, V.own 2016 3 (List.length o16)), (3, V.ref 2003 0), (2, V.t (T.nilm)), (1, V.t (T.ptr [T.fn g0 pre0 caps0]))] [(2003, ov 77 [V.mapr 2015]), (2015, Tl.Obj.map (mpT o15)), (2016, oc 118 (List.flatMap nodeC o16))] trivial ?_
     refine WP.seq ?_
     obtain ⟨c0, h⟩ := chk_some h
     refine WP.pk tm [(21, An.v (ti ((9 : Int) - v17)))] [(True), (wr ((9 : Int) - v17))] [(22, vi 0), (21, vi ((9 : Int) - v17)), (5, vi v17), (17, vi v17), (4, V.own 2016 3 (List.length o16)), (3, V.ref 2003 0), (2, V.t (T.nilm)), (1, V.t (T.ptr [T.fn g0 pre0 caps0]))] [(2003, ov 77 [V.mapr 2015]), (2015, Tl.Obj.map (mpT o15)), (2016, oc 118 (List.flatMap nodeC o16))] ⟨trivial, wrapI c0, trivial⟩ ?_
     refine WP.block ?_
     refine WP.lp (α := Nat × (List Nd) × (List (K3 × Int)) × Int) (fun zz => ⟨[2003, 2015, 2016], [(22, vi zz.2.2.2), (21, vi ((9 : Int) - v17)), (5, vi v17), (17, vi v17), (4, V.own 2016 3 (List.length zz.2.1)), (3, V.ref 2003 0), (2, V.t (T.nilm)), (1, V.t (T.ptr [T.fn g0 pre0 caps0]))], [(2003, ov 77 [V.mapr 2015]), (2015, Tl.Obj.map (mpT zz.2.2.1)), (2016, oc 118 (List.flatMap nodeC zz.2.1))]⟩) (fun zz => F_impl_needs_L2 v17 J2 zz.1 zz.2.1 zz.2.2.1 zz.2.2.2 = some y0) (fun zz => zz.1) (fuel, o16, o15, (0 : Int)) h ?_
     rintro ⟨n, o16b, o15b, v22⟩ h0
     have h := (show F_impl_needs_L2 v17 J2 n o16b o15b v22 = some y0 from h0)
     rcases n with _ | n
     ·rw [F_impl_needs_L2] at h; cases h
     ·rw [F_impl_needs_L2] at h
      refine WP.sk tm [] [(True)] [(23, vb (decide (v22 < ((9 : Int) - v17)))), (22, vi v22), (21, vi ((9 : Int) - v17)), (5, vi v17), (17, vi v17), (4, V.own 2016 3 (List.length o16b)), (3, V.ref 2003 0), (2, V.t (T.nilm)), (1, V.t (T.ptr [T.fn g0 pre0 caps0]))] [(2003, ov 77 [V.mapr 2015]), (2015, Tl.Obj.map (mpT o15b)), (2016, oc 118 (List.flatMap nodeC o16b))] ⟨trivial, trivial⟩ ?_
      refine WP.seq ?_
      rcases ite_some h with ⟨h2, h⟩ | ⟨h2, h⟩
      ·refine WP.yes h2 rfl ?_
       refine WP.pk tm [] [] [(22, vi v22), (21, vi ((9 : Int) - v17)), (5, vi v17), (17, vi v17), (4, V.own 2016 3 (List.length o16b)), (3, V.ref 2003 0), (2, V.t (T.nilm)), (1, V.t (T.ptr [T.fn g0 pre0 caps0]))] [(2003, ov 77 [V.mapr 2015]), (2015, Tl.Obj.map (mpT o15b)), (2016, oc 118 (List.flatMap nodeC o16b))] trivial ?_
       obtain ⟨J3, hJ3, h⟩ := jn_some h
       refine WP.joinA (fun (zz : (List Nd) × (List (K3 × Int))) => ⟨[2003, 2015, 2016], [(22, vi v22), (21, vi ((9 : Int) - v17)), (5, vi v17), (17, vi v17), (4, V.own 2016 3 (List.length zz.1)), (3, V.ref 2003 0), (2, V.t (T.nilm)), (1, V.t (T.ptr [T.fn g0 pre0 caps0]))], [(2003, ov 77 [V.mapr 2015]), (2015, Tl.Obj.map (mpT zz.2)), (2016, oc 118 (List.flatMap nodeC zz.1))]⟩) (fun zz => J3 zz.1 zz.2 = some y0) ?_ ?_
       ·refine WP.block ?_
        refine WP.sk tm [] [] [(6, vi v22), (22, vi v22), (21, vi ((9 : Int) - v17)), (5, vi v17), (17, vi v17), (4, V.own 2016 3 (List.length o16b)), (3, V.ref 2003 0), (2, V.t (T.nilm)), (1, V.t (T.ptr [T.fn g0 pre0 caps0]))] [(2003, ov 77 [V.mapr 2015]), (2015, Tl.Obj.map (mpT o15b)), (2016, oc 118 (List.flatMap nodeC o16b))] trivial ?_
        refine WP.seq ?_
        obtain ⟨c1, h⟩ := chk_some h
        refine WP.pk tm [(26, An.v (ti ((9 : Int) - v17))), (28, An.v (ti (((9 : Int) - v17) - v22)))] [(True), (wr ((9 : Int) - v17)), (True), (wr (((9 : Int) - v17) - v22))] [(29, vi 0), (28, vi (((9 : Int) - v17) - v22)), (6, vi v22), (22, vi v22), (21, vi ((9 : Int) - v17)), (5, vi v17), (17, vi v17), (4, V.own 2016 3 (List.length o16b)), (3, V.ref 2003 0), (2, V.t (T.nilm)), (1, V.t (T.ptr [T.fn g0 pre0 caps0]))] [(2003, ov 77 [V.mapr 2015]), (2015, Tl.Obj.map (mpT o15b)), (2016, oc 118 (List.flatMap nodeC o16b))] ⟨trivial, wrapI c0, trivial, wrapI c1, trivial⟩ ?_
        refine WP.block ?_
        refine WP.lp (α := Nat × (List Nd) × (List (K3 × Int)) × Int) (fun zz => ⟨[2003, 2015, 2016], [(29, vi zz.2.2.2), (28, vi (((9 : Int) - v17) - v22)), (6, vi v22), (22, vi v22), (21, vi ((9 : Int) - v17)), (5, vi v17), (17, vi v17), (4, V.own 2016 3 (List.length zz.2.1)), (3, V.ref 2003 0), (2, V.t (T.nilm)), (1, V.t (T.ptr [T.fn g0 pre0 caps0]))], [(2003, ov 77 [V.mapr 2015]), (2015, Tl.Obj.map (mpT zz.2.2.1)), (2016, oc 118 (List.flatMap nodeC zz.2.1))]⟩) (fun zz => F_impl_needs_L3 v17 v22 J3 zz.1 zz.2.1 zz.2.2.1 zz.2.2.2 = some y0) (fun zz => zz.1) (fuel, o16b, o15b, (0 : Int)) h ?_
        rintro ⟨n, o16c, o15c, v29⟩ h0
        have h := (show F_impl_needs_L3 v17 v22 J3 n o16c o15c v29 = some y0 from h0)
        rcases n with _ | n
        ·rw [F_impl_needs_L3] at h; cases h
        ·rw [F_impl_needs_L3] at h
         refine WP.sk tm [] [(True)] [(30, vb (decide (v29 < (((9 : Int) - v17) - v22)))), (29, vi v29), (28, vi (((9 : Int) - v17) - v22)), (6, vi v22), (22, vi v22), (21, vi ((9 : Int) - v17)), (5, vi v17), (17, vi v17), (4, V.own 2016 3 (List.length o16c)), (3, V.ref 2003 0), (2, V.t (T.nilm)), (1, V.t (T.ptr [T.fn g0 pre0 caps0]))] [(2003, ov 77 [V.mapr 2015]), (2015, Tl.Obj.map (mpT o15c)), (2016, oc 118 (List.flatMap nodeC o16c))] ⟨trivial, trivial⟩ ?_
         refine WP.seq ?_
         rcases ite_some h with ⟨h3, h⟩ | ⟨h3, h⟩
         ·refine WP.yes h3 rfl ?_
          refine WP.pk tm [] [] [(29, vi v29), (28, vi (((9 : Int) - v17) - v22)), (6, vi v22), (22, vi v22), (21, vi ((9 : Int) - v17)), (5, vi v17), (17, vi v17), (4, V.own 2016 3 (List.length o16c)), (3, V.ref 2003 0), (2, V.t (T.nilm)), (1, V.t (T.ptr [T.fn g0 pre0 caps0]))] [(2003, ov 77 [V.mapr 2015]), (2015, Tl.Obj.map (mpT o15c)), (2016, oc 118 (List.flatMap nodeC o16c))] trivial ?_
          refine WP.seq ?_
          refine WP.block ?_
          refine WP.sk tm [] [] [(7, vi v29), (29, vi v29), (28, vi (((9 : Int) - v17) - v22)), (6, vi v22), (22, vi v22), (21, vi ((9 : Int) - v17)), (5, vi v17), (17, vi v17), (4, V.own 2016 3 (List.length o16c)), (3, V.ref 2003 0), (2, V.t (T.nilm)), (1, V.t (T.ptr [T.fn g0 pre0 caps0]))] [(2003, ov 77 [V.mapr 2015]), (2015, Tl.Obj.map (mpT o15c)), (2016, oc 118 (List.flatMap nodeC o16c))] trivial ?_
          refine WP.sn tm [(8, An.id 2008)] [((1 = 1 ∧ 0 + 1 ≤ 3) ∧ (1 = 1 ∧ 1 + 1 ≤ 3) ∧ (1 = 1 ∧ 2 + 1 ≤ 3) ∧ True), ((0 + 3 ≤ 3 ∧ 3 = 3))] [2008, 2003, 2015, 2016] [(8, V.ref 2008 0), (7, vi v29), (29, vi v29), (28, vi (((9 : Int) - v17) - v22)), (6, vi v22), (22, vi v22), (21, vi ((9 : Int) - v17)), (5, vi v17), (17, vi v17), (4, V.own 2016 3 (List.length o16c)), (3, V.ref 2003 0), (2, V.t (T.nilm)), (1, V.t (T.ptr [T.fn g0 pre0 caps0]))] [(2003, ov 77 [V.mapr 2015]), (2008, oc 118 [ti v17, ti v22, ti v29]), (2015, Tl.Obj.map (mpT o15c)), (2016, oc 118 (List.flatMap nodeC o16c))] ⟨⟨⟨by first | rfl | (simp; done) | (simp []; done) | omega, by first | decide | (simp; done) | (simp []; done) | omega | (simp only [tlL]; omega) | (simp; omega)⟩, ⟨by first | rfl | (simp; done) | (simp []; done) | omega, by first | decide | (simp; done) | (simp []; done) | omega | (simp only [tlL]; omega) | (simp; omega)⟩, ⟨by first | rfl | (simp; done) | (simp []; done) | omega, by first | decide | (simp; done) | (simp []; done) | omega | (simp only [tlL]; omega) | (simp; omega)⟩, trivial⟩, by decide, trivial⟩ ?_
          refine WP.seq ?_
          obtain ⟨c2, h⟩ := chk_some h
          obtain ⟨c3, h⟩ := chk_some h
          refine WP.pn tm [(38, An.v (ti (v17 + v22))), (40, An.v (ti ((v17 + v22) + v29)))] [(True), (wr (v17 + v22)), (True), (wr ((v17 + v22) + v29)), (True)] [2008, 2003, 2015, 2016] [(41, vb (decide (((v17 + v22) + v29) ≤ (1 : Int)))), (8, V.ref 2008 0), (29, vi v29), (28, vi (((9 : Int) - v17) - v22)), (6, vi v22), (22, vi v22), (21, vi ((9 : Int) - v17)), (5, vi v17), (17, vi v17), (4, V.own 2016 3 (List.length o16c)), (3, V.ref 2003 0), (2, V.t (T.nilm)), (1, V.t (T.ptr [T.fn g0 pre0 caps0]))] [(2003, ov 77 [V.mapr 2015]), (2008, oc 118 [ti v17, ti v22, ti v29]), (2015, Tl.Obj.map (mpT o15c)), (2016, oc 118 (List.flatMap nodeC o16c))] ⟨trivial, wrapI c2, trivial, wrapI c3, trivial, trivial⟩ ?_
          rcases ite_some h with ⟨h4, h⟩ | ⟨h4, h⟩
          ·refine WP.yes h4 rfl ?_
           refine WP.pn tm [(2000042, An.mp (mpT (tput o15c (v17, v22, v29) (0 : Int))))] [(True), (0 + 3 ≤ 3), (∃ G, KeyRun Tryz.prog 118 G ∧ G (T.agg [ti v17, ti v22, ti v29]) ∧ ∀ x ∈ mpT o15c, G x.1), (putT (mpT o15c) (T.agg [ti v17, ti v22, ti v29]) (ti 0) = mpT (tput o15c (v17, v22, v29) (0 : Int)))] [2008, 2003, 2015, 2016] [(29, vi v29), (28, vi (((9 : Int) - v17) - v22)), (6, vi v22), (22, vi v22), (21, vi ((9 : Int) - v17)), (5, vi v17), (17, vi v17), (4, V.own 2016 3 (List.length o16c)), (3, V.ref 2003 0), (2, V.t (T.nilm)), (1, V.t (T.ptr [T.fn g0 pre0 caps0]))] [(2003, ov 77 [V.mapr 2015]), (2015, Tl.Obj.map (mpT (tput o15c (v17, v22, v29) (0 : Int)))), (2016, oc 118 (List.flatMap nodeC o16c))] ⟨trivial, by decide, keys_tri Tryz.underlying118 Tryz.underlying3 (by as_aux_lemma => kernel_rfl) (by as_aux_lemma => kernel_rfl) o15c (v17, v22, v29), put_tri o15c (v17, v22, v29) (0 : Int), trivial⟩ ?_
           obtain ⟨c4, h⟩ := chk_some h
           refine WP.qk tm [(48, An.v (ti (v29 + 1)))] [(True), (wr (v29 + 1))] [(29, vi (v29 + 1)), (28, vi (((9 : Int) - v17) - v22)), (6, vi v22), (22, vi v22), (21, vi ((9 : Int) - v17)), (5, vi v17), (17, vi v17), (4, V.own 2016 3 (List.length o16c)), (3, V.ref 2003 0), (2, V.t (T.nilm)), (1, V.t (T.ptr [T.fn g0 pre0 caps0]))] [(2003, ov 77 [V.mapr 2015]), (2015, Tl.Obj.map (mpT (tput o15c (v17, v22, v29) (0 : Int)))), (2016, oc 118 (List.flatMap nodeC o16c))] ⟨trivial, wrapI c4, trivial⟩ ?_
           exact ⟨(n, o16c, (tput o15c (v17, v22, v29) (0 : Int)), (v29 + 1)), h, Nat.lt_succ_self _, rfl⟩
          ·refine WP.no h4 rfl ?_
           obtain ⟨c4, h⟩ := chk_some h
           refine WP.pn tm [(46, An.fz), (47, An.id 2047)] [(0 + 3 ≤ 3), ((3 = 3 ∧ 0 + 3 ≤ 3) ∧ True), (3 = 1 * 3), (True), (List.length (List.flatMap nodeC o16c) = (List.length o16c) * 3), ((((List.length o16c) + 1) * 24 ≤ 140737488355328 ∧ (List.length o16c) + 1 ≤ maxLen))] [2047, 2008, 2003, 2015, 2016] [(4, V.own 2047 3 ((List.length o16c) + 1)), (29, vi v29), (28, vi (((9 : Int) - v17) - v22)), (6, vi v22), (22, vi v22), (21, vi ((9 : Int) - v17)), (5, vi v17), (17, vi v17), (3, V.ref 2003 0), (2, V.t (T.nilm)), (1, V.t (T.ptr [T.fn g0 pre0 caps0]))] [(2003, ov 77 [V.mapr 2015]), (2015, Tl.Obj.map (mpT o15c)), (2047, oc 118 ((List.flatMap nodeC o16c) ++ [ti v17, ti v22, ti v29]))] ⟨by decide, ⟨⟨by first | rfl | (simp; done) | (simp []; done) | omega, by first | decide | (simp; done) | (simp []; done) | omega | (simp only [tlL]; omega) | (simp; omega)⟩, trivial⟩, by decide, trivial, by first | exact len_node _ | (rw [len_node]; first | done | omega | (simp; done) | (simp only [tlL]; omega) | (simp; omega)), c4, trivial⟩ ?_
           obtain ⟨c5, h⟩ := chk_some h
           refine WP.nk tm [(48, An.v (ti (v29 + 1)))] [(2003, 2003), (2015, 2015), (2047, 2016)] .normal [(True), (wr (v29 + 1))] [(29, vi (v29 + 1)), (28, vi (((9 : Int) - v17) - v22)), (6, vi v22), (22, vi v22), (21, vi ((9 : Int) - v17)), (5, vi v17), (17, vi v17), (4, V.own 2016 3 ((List.length o16c) + 1)), (3, V.ref 2003 0), (2, V.t (T.nilm)), (1, V.t (T.ptr [T.fn g0 pre0 caps0]))] [(2003, ov 77 [V.mapr 2015]), (2015, Tl.Obj.map (mpT o15c)), (2016, oc 118 ((List.flatMap nodeC o16c) ++ [ti v17, ti v22, ti v29]))] ⟨trivial, wrapI c5, trivial⟩ ?_
           exact ⟨(n, o16c ++ [(v17, v22, v29)], o15c, (v29 + 1)), h, Nat.lt_succ_self _, (by first | rfl | (simp only [tlS, tl, vl, vo, oc, ov, tbl, vbl, ty, vy] <;> rfl) | (simp <;> omega) | (simp []; done) | (rw [List.take_of_length_le (by simp [])] <;> rfl) | (simp [List.take_of_length_le]; done))⟩
         ·refine WP.no h3 rfl ?_
          refine WP.eq tm [] 4 [] [(22, vi v22), (21, vi ((9 : Int) - v17)), (5, vi v17), (17, vi v17), (4, V.own 2016 3 (List.length o16c)), (3, V.ref 2003 0), (2, V.t (T.nilm)), (1, V.t (T.ptr [T.fn g0 pre0 caps0]))] [(2003, ov 77 [V.mapr 2015]), (2015, Tl.Obj.map (mpT o15c)), (2016, oc 118 (List.flatMap nodeC o16c))] trivial ?_
          exact ⟨(o16c, o15c), h, rfl⟩
       ·rintro ⟨o16c, o15c⟩ h0
        have h := (show J3 o16c o15c = some y0 from h0)
        rw [hJ3] at h
        obtain ⟨c1, h⟩ := chk_some h
        refine WP.qk tm [(49, An.v (ti (v22 + 1)))] [(True), (wr (v22 + 1))] [(22, vi (v22 + 1)), (21, vi ((9 : Int) - v17)), (5, vi v17), (17, vi v17), (4, V.own 2016 3 (List.length o16c)), (3, V.ref 2003 0), (2, V.t (T.nilm)), (1, V.t (T.ptr [T.fn g0 pre0 caps0]))] [(2003, ov 77 [V.mapr 2015]), (2015, Tl.Obj.map (mpT o15c)), (2016, oc 118 (List.flatMap nodeC o16c))] ⟨trivial, wrapI c1, trivial⟩ ?_
        exact ⟨(n, o16c, o15c, (v22 + 1)), h, Nat.lt_succ_self _, rfl⟩
      ·refine WP.no h2 rfl ?_
       refine WP.eq tm [] 2 [] [(17, vi v17), (4, V.own 2016 3 (List.length o16b)), (3, V.ref 2003 0), (2, V.t (T.nilm)), (1, V.t (T.ptr [T.fn g0 pre0 caps0]))] [(2003, ov 77 [V.mapr 2015]), (2015, Tl.Obj.map (mpT o15b)), (2016, oc 118 (List.flatMap nodeC o16b))] trivial ?_
       exact ⟨(o16b, o15b), h, rfl⟩
    ·rintro ⟨o16b, o15b⟩ h0
     have h := (show J2 o16b o15b = some y0 from h0)
     rw [hJ2] at h
     obtain ⟨c0, h⟩ := chk_some h
     refine WP.qk tm [(50, An.v (ti (v17 + 1)))] [(True), (wr (v17 + 1))] [(17, vi (v17 + 1)), (4, V.own 2016 3 (List.length o16b)), (3, V.ref 2003 0), (2, V.t (T.nilm)), (1, V.t (T.ptr [T.fn g0 pre0 caps0]))] [(2003, ov 77 [V.mapr 2015]), (2015, Tl.Obj.map (mpT o15b)), (2016, oc 118 (List.flatMap nodeC o16b))] ⟨trivial, wrapI c0, trivial⟩ ?_
     exact ⟨(n, o16b, o15b, (v17 + 1)), h, Nat.lt_succ_self _, rfl⟩
   ·refine WP.no h1 rfl ?_
    refine WP.eq tm [] 0 [] [(4, V.own 2016 3 (List.length o16)), (3, V.ref 2003 0), (2, V.t (T.nilm)), (1, V.t (T.ptr [T.fn g0 pre0 caps0]))] [(2003, ov 77 [V.mapr 2015]), (2015, Tl.Obj.map (mpT o15)), (2016, oc 118 (List.flatMap nodeC o16))] trivial ?_
    exact ⟨(o16, o15), h, rfl⟩
 ·rintro ⟨o16, o15⟩ h0
  have h := (show J1 o16 o15 = some y0 from h0)
  rw [hJ1] at h
  obtain ⟨J1, hJ1, h⟩ := jn_some h
  refine WP.joinA (fun (zz : (List (K3 × Int))) => ⟨[2003, 2015], [(3, V.ref 2003 0), (2, V.t (T.nilm))], [(2003, ov 77 [V.mapr 2015]), (2015, Tl.Obj.map (mpT zz))]⟩) (fun zz => J1 zz = some y0) ?_ ?_
  ·refine WP.sk tm [] [] [(9, vi 1), (4, V.own 2016 3 (List.length o16)), (3, V.ref 2003 0), (2, V.t (T.nilm)), (1, V.t (T.ptr [T.fn g0 pre0 caps0]))] [(2003, ov 77 [V.mapr 2015]), (2015, Tl.Obj.map (mpT o15)), (2016, oc 118 (List.flatMap nodeC o16))] trivial ?_
   refine WP.block ?_
   refine WP.lp (α := Nat × (List Nd) × (List (K3 × Int)) × Int) (fun zz => ⟨[2003, 2015, 2016], [(9, vi zz.2.2.2), (4, V.own 2016 3 (List.length zz.2.1)), (3, V.ref 2003 0), (2, V.t (T.nilm)), (1, V.t (T.ptr [T.fn g0 pre0 caps0]))], [(2003, ov 77 [V.mapr 2015]), (2015, Tl.Obj.map (mpT zz.2.2.1)), (2016, oc 118 (List.flatMap nodeC zz.2.1))]⟩) (fun zz => F_impl_needs_L4 p0 J1 zz.1 zz.2.1 zz.2.2.1 zz.2.2.2 = some y0) (fun zz => zz.1) (fuel, o16, o15, (1 : Int)) h ?_
   rintro ⟨n, o16b, o15b, v9⟩ h0
   have h := (show F_impl_needs_L4 p0 J1 n o16b o15b v9 = some y0 from h0)
   rcases n with _ | n
   ·rw [F_impl_needs_L4] at h; cases h
   ·rw [F_impl_needs_L4] at h
    refine WP.seq ?_
    refine WP.sk tm [] [(True)] [(53, vb (decide ((ln o16b) > (0 : Int)))), (9, vi v9), (4, V.own 2016 3 (List.length o16b)), (3, V.ref 2003 0), (2, V.t (T.nilm)), (1, V.t (T.ptr [T.fn g0 pre0 caps0]))] [(2003, ov 77 [V.mapr 2015]), (2015, Tl.Obj.map (mpT o15b)), (2016, oc 118 (List.flatMap nodeC o16b))] ⟨trivial, trivial⟩ ?_
    rcases ite_some h with ⟨h5, h⟩ | ⟨h5, h⟩
    ·refine WP.yes h5 rfl ?_
     refine WP.pk tm [] [] [(9, vi v9), (4, V.own 2016 3 (List.length o16b)), (3, V.ref 2003 0), (2, V.t (T.nilm)), (1, V.t (T.ptr [T.fn g0 pre0 caps0]))] [(2003, ov 77 [V.mapr 2015]), (2015, Tl.Obj.map (mpT o15b)), (2016, oc 118 (List.flatMap nodeC o16b))] trivial ?_
     obtain ⟨J2, hJ2, h⟩ := jn_some h
     refine WP.joinA (fun (zz : (List Nd) × (List (K3 × Int))) => ⟨[2003, 2015, 2016], [(4, V.own 2016 3 (List.length zz.1)), (9, vi v9), (3, V.ref 2003 0), (2, V.t (T.nilm)), (1, V.t (T.ptr [T.fn g0 pre0 caps0]))], [(2003, ov 77 [V.mapr 2015]), (2015, Tl.Obj.map (mpT zz.2)), (2016, oc 118 (List.flatMap nodeC zz.1))]⟩) (fun zz => J2 zz.1 zz.2 = some y0) ?_ ?_
     ·refine WP.block ?_
      refine WP.sn tm [(56, An.id 2056), (10, An.id 2010)] [(True), (0 = 0 * 3), (0 < 1)] [2010, 2056, 2003, 2015, 2016] [(10, V.ref 2010 0), (9, vi v9), (4, V.own 2016 3 (List.length o16b)), (3, V.ref 2003 0), (2, V.t (T.nilm)), (1, V.t (T.ptr [T.fn g0 pre0 caps0]))] [(2003, ov 77 [V.mapr 2015]), (2010, ov 122 [V.own 2056 3 0]), (2015, Tl.Obj.map (mpT o15b)), (2016, oc 118 (List.flatMap nodeC o16b)), (2056, oc 118 [])] ⟨trivial, by decide, by decide, trivial⟩ ?_
      obtain ⟨J3, hJ3, h⟩ := jn_some h
      refine WP.joinA (fun (zz : (List Nd)) => ⟨[2003, 2010, 2015, 2016, 2056], [(10, V.ref 2010 0), (9, vi v9), (4, V.own 2016 3 (List.length o16b)), (3, V.ref 2003 0), (2, V.t (T.nilm)), (1, V.t (T.ptr [T.fn g0 pre0 caps0]))], [(2003, ov 77 [V.mapr 2015]), (2010, ov 122 [V.own 2056 3 (List.length zz)]), (2015, Tl.Obj.map (mpT o15b)), (2016, oc 118 (List.flatMap nodeC o16b)), (2056, oc 118 (List.flatMap nodeC zz))]⟩) (fun zz => J3 zz = some y0) ?_ ?_
      ·refine WP.sn tm [] [] [2010, 2056, 2003, 2015, 2016] [(59, vi 0), (58, vi (ln o16b)), (57, V.own 2016 3 (List.length o16b)), (10, V.ref 2010 0), (9, vi v9), (4, V.own 2016 3 (List.length o16b)), (3, V.ref 2003 0), (2, V.t (T.nilm)), (1, V.t (T.ptr [T.fn g0 pre0 caps0]))] [(2003, ov 77 [V.mapr 2015]), (2010, ov 122 [V.own 2056 3 0]), (2015, Tl.Obj.map (mpT o15b)), (2016, oc 118 (List.flatMap nodeC o16b)), (2056, oc 118 [])] trivial ?_
       refine WP.block ?_
       refine WP.lp (α := Nat × (List Nd) × Int) (fun zz => ⟨[2003, 2010, 2015, 2016, 2056], [(59, vi zz.2.2), (58, vi (ln o16b)), (57, V.own 2016 3 (List.length o16b)), (10, V.ref 2010 0), (9, vi v9), (4, V.own 2016 3 (List.length o16b)), (3, V.ref 2003 0), (2, V.t (T.nilm)), (1, V.t (T.ptr [T.fn g0 pre0 caps0]))], [(2003, ov 77 [V.mapr 2015]), (2010, ov 122 [V.own 2056 3 (List.length zz.2.1)]), (2015, Tl.Obj.map (mpT o15b)), (2016, oc 118 (List.flatMap nodeC o16b)), (2056, oc 118 (List.flatMap nodeC zz.2.1))]⟩) (fun zz => F_impl_needs_L5 p0 o16b o15b J3 zz.1 zz.2.1 zz.2.2 = some y0) (fun zz => zz.1) (fuel, ([] : List Nd), (0 : Int)) h ?_
       rintro ⟨n, o56, v59⟩ h0
       have h := (show F_impl_needs_L5 p0 o16b o15b J3 n o56 v59 = some y0 from h0)
       rcases n with _ | n
       ·rw [F_impl_needs_L5] at h; cases h
       ·rw [F_impl_needs_L5] at h
        refine WP.sk tm [] [(True)] [(60, vb (decide (v59 < (ln o16b)))), (59, vi v59), (58, vi (ln o16b)), (57, V.own 2016 3 (List.length o16b)), (10, V.ref 2010 0), (9, vi v9), (4, V.own 2016 3 (List.length o16b)), (3, V.ref 2003 0), (2, V.t (T.nilm)), (1, V.t (T.ptr [T.fn g0 pre0 caps0]))] [(2003, ov 77 [V.mapr 2015]), (2010, ov 122 [V.own 2056 3 (List.length o56)]), (2015, Tl.Obj.map (mpT o15b)), (2016, oc 118 (List.flatMap nodeC o16b)), (2056, oc 118 (List.flatMap nodeC o56))] ⟨trivial, trivial⟩ ?_
        refine WP.seq ?_
        rcases ite_some h with ⟨h6, h⟩ | ⟨h6, h⟩
        ·refine WP.yes h6 rfl ?_
         refine WP.pk tm [] [] [(59, vi v59), (58, vi (ln o16b)), (57, V.own 2016 3 (List.length o16b)), (10, V.ref 2010 0), (9, vi v9), (4, V.own 2016 3 (List.length o16b)), (3, V.ref 2003 0), (2, V.t (T.nilm)), (1, V.t (T.ptr [T.fn g0 pre0 caps0]))] [(2003, ov 77 [V.mapr 2015]), (2010, ov 122 [V.own 2056 3 (List.length o56)]), (2015, Tl.Obj.map (mpT o15b)), (2016, oc 118 (List.flatMap nodeC o16b)), (2056, oc 118 (List.flatMap nodeC o56))] trivial ?_
         refine WP.seq ?_
         refine WP.block ?_
         refine WP.seq ?_
         obtain ⟨c0, h⟩ := chk_some h
         refine WP.path tab_ok mixed [(62, An.v (T.agg [ti ((gt o16b v59 (0, 0, 0)).1), ti ((gt o16b v59 (0, 0, 0)).2.1), ti ((gt o16b v59 (0, 0, 0)).2.2)])), (12, An.id 2012)] [.keep [12, 59, 58, 57, 10, 9, 4, 3, 2, 1], .keepO [2003, 2010, 2012, 2015, 2016, 2056], .freeze 2012] (ps := [((0 ≤ v59 ∧ v59 < (ln o16b))), ((Int.toNat v59) * 3 + 3 ≤ List.length (List.flatMap nodeC o16b)), (T.agg (List.take 3 (List.drop ((Int.toNat v59) * 3) (List.flatMap nodeC o16b))) = T.agg [ti ((gt o16b v59 (0, 0, 0)).1), ti ((gt o16b v59 (0, 0, 0)).2.1), ti ((gt o16b v59 (0, 0, 0)).2.2)]), ((0 + 3 ≤ 3 ∧ 3 = 3))]) (e := .normal) (σ' := ⟨[2012, 2003, 2010, 2015, 2016, 2056], [(12, V.t (T.ptr [ti ((gt o16b v59 (0, 0, 0)).1), ti ((gt o16b v59 (0, 0, 0)).2.1), ti ((gt o16b v59 (0, 0, 0)).2.2)])), (59, vi v59), (58, vi (ln o16b)), (57, V.own 2016 3 (List.length o16b)), (10, V.ref 2010 0), (9, vi v9), (4, V.own 2016 3 (List.length o16b)), (3, V.ref 2003 0), (2, V.t (T.nilm)), (1, V.t (T.ptr [T.fn g0 pre0 caps0]))], [(2003, ov 77 [V.mapr 2015]), (2010, ov 122 [V.own 2056 3 (List.length o56)]), (2015, Tl.Obj.map (mpT o15b)), (2016, oc 118 (List.flatMap nodeC o16b)), (2056, oc 118 (List.flatMap nodeC o56))]⟩) (by as_aux_lemma => kernel_rfl) ⟨c0, by rw [len_node]; omega, at_node (by simp) (by omega), by decide, trivial⟩ ?_
         refine WP.seq ?_
         obtain ⟨r64, c1, h⟩ := bnd1_some h
         obtain ⟨r66, c2, h⟩ := bnd1_some h
         refine WP.pn tm [(64, An.callG [(9000, 10640)] [vl [((gt o16b v59 (0, 0, 0)).1), ((gt o16b v59 (0, 0, 0)).2.1), ((gt o16b v59 (0, 0, 0)).2.2)]] [] (vo 9000 (List.length r64)) [(9000, oc 24 (List.map (fun l => T.list (List.length l) 1 (List.map (ti) l)) r64))]), (66, An.call (tb r66))] [((0 ≤ (0 : Int) ∧ (0 : Int) ≤ (3 : Int) ∧ (3 : Int) ≤ (3 : Nat) ∧ 3 * 1 ≤ 3 ∧ 3 ≤ maxLen)), (CG Tryz.prog 141 [vl [((gt o16b v59 (0, 0, 0)).1), ((gt o16b v59 (0, 0, 0)).2.1), ((gt o16b v59 (0, 0, 0)).2.2)]] [] (vo 9000 (List.length r64)) [(9000, oc 24 (List.map (fun l => T.list (List.length l) 1 (List.map (ti) l)) r64))]), (WkT (T.list 3 1 [ti ((gt o16b v59 (0, 0, 0)).1), ti ((gt o16b v59 (0, 0, 0)).2.1), ti ((gt o16b v59 (0, 0, 0)).2.2)]) (tl [((gt o16b v59 (0, 0, 0)).1), ((gt o16b v59 (0, 0, 0)).2.1), ((gt o16b v59 (0, 0, 0)).2.2)])), (C Tryz.prog 140 [T.list (List.length r64) 1 (List.map (fun l => T.list (List.length l) 1 (List.map (ti) l)) r64), T.fn 142 [] [T.ptr [T.fn g0 pre0 caps0], T.ptr [ti ((gt o16b v59 (0, 0, 0)).1), ti ((gt o16b v59 (0, 0, 0)).2.1), ti ((gt o16b v59 (0, 0, 0)).2.2)], T.ptr [mapT (mpT o15b)]]] (tb r66)), (List.length (List.map (fun l => T.list (List.length l) 1 (List.map (ti) l)) r64) = (List.length r64) * 1)] [10640, 2012, 2003, 2010, 2015, 2016, 2056] [(66, vb r66), (12, V.t (T.ptr [ti ((gt o16b v59 (0, 0, 0)).1), ti ((gt o16b v59 (0, 0, 0)).2.1), ti ((gt o16b v59 (0, 0, 0)).2.2)])), (59, vi v59), (58, vi (ln o16b)), (57, V.own 2016 3 (List.length o16b)), (10, V.ref 2010 0), (9, vi v9), (4, V.own 2016 3 (List.length o16b)), (3, V.ref 2003 0), (2, V.t (T.nilm)), (1, V.t (T.ptr [T.fn g0 pre0 caps0]))] [(2003, ov 77 [V.mapr 2015]), (2010, ov 122 [V.own 2056 3 (List.length o56)]), (2015, Tl.Obj.map (mpT o15b)), (2016, oc 118 (List.flatMap nodeC o16b)), (2056, oc 118 (List.flatMap nodeC o56))] ⟨by decide, (F_impl_splits_W [((gt o16b v59 (0, 0, 0)).1), ((gt o16b v59 (0, 0, 0)).2.1), ((gt o16b v59 (0, 0, 0)).2.2)] r64 c1), WkT.eq (WkT.refl _) (by first | rfl | (simp only [tlS, tl, vl, vo, oc, ov, tbl, vbl, ty, vy] <;> rfl) | (simp <;> omega) | (simp []; done) | (rw [List.take_of_length_le (by simp [])] <;> rfl) | (simp [List.take_of_length_le]; done)), (F_slices_ContainsFunc_____int___int__W r64 142 [] [T.ptr [T.fn g0 pre0 caps0], T.ptr [ti ((gt o16b v59 (0, 0, 0)).1), ti ((gt o16b v59 (0, 0, 0)).2.1), ti ((gt o16b v59 (0, 0, 0)).2.2)], T.ptr [mapT (mpT o15b)]] (fun u0 => F_impl_needs_1 u0 p0 ((gt o16b v59 (0, 0, 0)).1) ((gt o16b v59 (0, 0, 0)).2.1) ((gt o16b v59 (0, 0, 0)).2.2) o15b) (fun u0 w0 hh => F_impl_needs_1_W u0 g0 pre0 caps0 p0 hp0 ((gt o16b v59 (0, 0, 0)).1) ((gt o16b v59 (0, 0, 0)).2.1) ((gt o16b v59 (0, 0, 0)).2.2) o15b w0 hh) r66 c2), by first | rfl | omega | (simp only [tlL] <;> omega) | (simp <;> omega) | (simp [] <;> omega), trivial⟩ ?_
         rcases ite_some h with ⟨h7, h⟩ | ⟨h7, h⟩
         ·refine WP.yes h7 rfl ?_
          obtain ⟨c3, h⟩ := chk_some h
          refine WP.pn tm [(69, An.fz), (70, An.id 2070)] [(True), (3 ≤ 3), ((3 = 3 ∧ 0 + 3 ≤ 3) ∧ True), (3 = 1 * 3), (True), (List.length (List.flatMap nodeC o56) = (List.length o56) * 3), ((((List.length o56) + 1) * 24 ≤ 140737488355328 ∧ (List.length o56) + 1 ≤ maxLen)), (0 < 1)] [2070, 10640, 2012, 2003, 2010, 2015, 2016, 2056] [(59, vi v59), (58, vi (ln o16b)), (57, V.own 2016 3 (List.length o16b)), (10, V.ref 2010 0), (9, vi v9), (4, V.own 2016 3 (List.length o16b)), (3, V.ref 2003 0), (2, V.t (T.nilm)), (1, V.t (T.ptr [T.fn g0 pre0 caps0]))] [(2003, ov 77 [V.mapr 2015]), (2010, ov 122 [V.own 2070 3 ((List.length o56) + 1)]), (2015, Tl.Obj.map (mpT o15b)), (2016, oc 118 (List.flatMap nodeC o16b)), (2070, oc 118 ((List.flatMap nodeC o56) ++ [ti ((gt o16b v59 (0, 0, 0)).1), ti ((gt o16b v59 (0, 0, 0)).2.1), ti ((gt o16b v59 (0, 0, 0)).2.2)]))] ⟨trivial, by decide, ⟨⟨by first | rfl | (simp; done) | (simp []; done) | omega, by first | decide | (simp; done) | (simp []; done) | omega | (simp only [tlL]; omega) | (simp; omega)⟩, trivial⟩, by decide, trivial, by first | exact len_node _ | (rw [len_node]; first | done | omega | (simp; done) | (simp only [tlL]; omega) | (simp; omega)), c3, by decide, trivial⟩ ?_
          obtain ⟨c4, h⟩ := chk_some h
          refine WP.nk tm [(71, An.v (ti (v59 + 1)))] [(2003, 2003), (2010, 2010), (2015, 2015), (2016, 2016), (2070, 2056)] .normal [(True), (wr (v59 + 1))] [(59, vi (v59 + 1)), (58, vi (ln o16b)), (57, V.own 2016 3 (List.length o16b)), (10, V.ref 2010 0), (9, vi v9), (4, V.own 2016 3 (List.length o16b)), (3, V.ref 2003 0), (2, V.t (T.nilm)), (1, V.t (T.ptr [T.fn g0 pre0 caps0]))] [(2003, ov 77 [V.mapr 2015]), (2010, ov 122 [V.own 2056 3 ((List.length o56) + 1)]), (2015, Tl.Obj.map (mpT o15b)), (2016, oc 118 (List.flatMap nodeC o16b)), (2056, oc 118 ((List.flatMap nodeC o56) ++ [ti ((gt o16b v59 (0, 0, 0)).1), ti ((gt o16b v59 (0, 0, 0)).2.1), ti ((gt o16b v59 (0, 0, 0)).2.2)]))] ⟨trivial, wrapI c4, trivial⟩ ?_
          exact ⟨(n, o56 ++ [(((gt o16b v59 (0, 0, 0)).1), ((gt o16b v59 (0, 0, 0)).2.1), ((gt o16b v59 (0, 0, 0)).2.2))], (v59 + 1)), h, Nat.lt_succ_self _, (by first | rfl | (simp only [tlS, tl, vl, vo, oc, ov, tbl, vbl, ty, vy] <;> rfl) | (simp <;> omega) | (simp []; done) | (rw [List.take_of_length_le (by simp [])] <;> rfl) | (simp [List.take_of_length_le]; done))⟩
         ·refine WP.no h7 rfl ?_
          refine WP.pn tm [] [] [10640, 2012, 2003, 2010, 2015, 2016, 2056] [(59, vi v59), (58, vi (ln o16b)), (57, V.own 2016 3 (List.length o16b)), (10, V.ref 2010 0), (9, vi v9), (4, V.own 2016 3 (List.length o16b)), (3, V.ref 2003 0), (2, V.t (T.nilm)), (1, V.t (T.ptr [T.fn g0 pre0 caps0]))] [(2003, ov 77 [V.mapr 2015]), (2010, ov 122 [V.own 2056 3 (List.length o56)]), (2015, Tl.Obj.map (mpT o15b)), (2016, oc 118 (List.flatMap nodeC o16b)), (2056, oc 118 (List.flatMap nodeC o56))] trivial ?_
          obtain ⟨c3, h⟩ := chk_some h
          refine WP.qk tm [(71, An.v (ti (v59 + 1)))] [(True), (wr (v59 + 1))] [(59, vi (v59 + 1)), (58, vi (ln o16b)), (57, V.own 2016 3 (List.length o16b)), (10, V.ref 2010 0), (9, vi v9), (4, V.own 2016 3 (List.length o16b)), (3, V.ref 2003 0), (2, V.t (T.nilm)), (1, V.t (T.ptr [T.fn g0 pre0 caps0]))] [(2003, ov 77 [V.mapr 2015]), (2010, ov 122 [V.own 2056 3 (List.length o56)]), (2015, Tl.Obj.map (mpT o15b)), (2016, oc 118 (List.flatMap nodeC o16b)), (2056, oc 118 (List.flatMap nodeC o56))] ⟨trivial, wrapI c3, trivial⟩ ?_
          exact ⟨(n, o56, (v59 + 1)), h, Nat.lt_succ_self _, rfl⟩
        ·refine WP.no h6 rfl ?_
         refine WP.eq tm [] 8 [] [(10, V.ref 2010 0), (9, vi v9), (4, V.own 2016 3 (List.length o16b)), (3, V.ref 2003 0), (2, V.t (T.nilm)), (1, V.t (T.ptr [T.fn g0 pre0 caps0]))] [(2003, ov 77 [V.mapr 2015]), (2010, ov 122 [V.own 2056 3 (List.length o56)]), (2015, Tl.Obj.map (mpT o15b)), (2016, oc 118 (List.flatMap nodeC o16b)), (2056, oc 118 (List.flatMap nodeC o56))] trivial ?_
         exact ⟨(o56), h, rfl⟩
      ·intro o56 h0
       have h := (show J3 o56 = some y0 from h0)
       rw [hJ3] at h
       refine WP.wk [.freeze 2056] (ps := [List.length (List.flatMap nodeC o56) = (List.length o56) * 3]) (σ' := ⟨[2003, 2010, 2015, 2016, 2056], [(10, V.ref 2010 0), (9, vi v9), (4, V.own 2016 3 (List.length o16b)), (3, V.ref 2003 0), (2, V.t (T.nilm)), (1, V.t (T.ptr [T.fn g0 pre0 caps0]))], [(2003, ov 77 [V.mapr 2015]), (2010, ov 122 [V.t (T.list (List.length o56) 3 (List.flatMap nodeC o56))]), (2015, Tl.Obj.map (mpT o15b)), (2016, oc 118 (List.flatMap nodeC o16b))]⟩) (by as_aux_lemma => kernel_rfl) ⟨by first | exact len_node _ | (rw [len_node]; first | done | omega | (simp; done) | (simp; omega)), trivial⟩ ?_
       obtain ⟨J3, hJ3, h⟩ := jn_some h
       refine WP.joinA (fun (zz : (List (K3 × Int))) => ⟨[2003, 2010, 2015, 2016], [(10, V.ref 2010 0), (9, vi v9), (4, V.own 2016 3 (List.length o16b)), (3, V.ref 2003 0), (2, V.t (T.nilm)), (1, V.t (T.ptr [T.fn g0 pre0 caps0]))], [(2003, ov 77 [V.mapr 2015]), (2010, ov 122 [V.t (T.list (List.length o56) 3 (List.flatMap nodeC o56))]), (2015, Tl.Obj.map (mpT zz)), (2016, oc 118 (List.flatMap nodeC o16b))]⟩) (fun zz => J3 zz = some y0) ?_ ?_
       ·refine WP.sn tm [] [(True)] [2003, 2010, 2015, 2016, 2056] [(74, vi 0), (73, vi (ln o56)), (72, V.t (T.list (List.length o56) 3 (List.flatMap nodeC o56))), (10, V.ref 2010 0), (9, vi v9), (4, V.own 2016 3 (List.length o16b)), (3, V.ref 2003 0), (2, V.t (T.nilm)), (1, V.t (T.ptr [T.fn g0 pre0 caps0]))] [(2003, ov 77 [V.mapr 2015]), (2010, ov 122 [V.t (T.list (List.length o56) 3 (List.flatMap nodeC o56))]), (2015, Tl.Obj.map (mpT o15b)), (2016, oc 118 (List.flatMap nodeC o16b))] ⟨trivial, trivial⟩ ?_
        refine WP.block ?_
        refine WP.lp (α := Nat × (List (K3 × Int)) × Int) (fun zz => ⟨[2003, 2010, 2015, 2016], [(74, vi zz.2.2), (73, vi (ln o56)), (72, V.t (T.list (List.length o56) 3 (List.flatMap nodeC o56))), (10, V.ref 2010 0), (9, vi v9), (4, V.own 2016 3 (List.length o16b)), (3, V.ref 2003 0), (2, V.t (T.nilm)), (1, V.t (T.ptr [T.fn g0 pre0 caps0]))], [(2003, ov 77 [V.mapr 2015]), (2010, ov 122 [V.t (T.list (List.length o56) 3 (List.flatMap nodeC o56))]), (2015, Tl.Obj.map (mpT zz.2.1)), (2016, oc 118 (List.flatMap nodeC o16b))]⟩) (fun zz => F_impl_needs_L6 v9 o56 J3 zz.1 zz.2.1 zz.2.2 = some y0) (fun zz => zz.1) (fuel, o15b, (0 : Int)) h ?_
        rintro ⟨n, o15c, v74⟩ h0
        have h := (show F_impl_needs_L6 v9 o56 J3 n o15c v74 = some y0 from h0)
        rcases n with _ | n
        ·rw [F_impl_needs_L6] at h; cases h
        ·rw [F_impl_needs_L6] at h
         refine WP.sk tm [] [(True)] [(75, vb (decide (v74 < (ln o56)))), (74, vi v74), (73, vi (ln o56)), (72, V.t (T.list (List.length o56) 3 (List.flatMap nodeC o56))), (10, V.ref 2010 0), (9, vi v9), (4, V.own 2016 3 (List.length o16b)), (3, V.ref 2003 0), (2, V.t (T.nilm)), (1, V.t (T.ptr [T.fn g0 pre0 caps0]))] [(2003, ov 77 [V.mapr 2015]), (2010, ov 122 [V.t (T.list (List.length o56) 3 (List.flatMap nodeC o56))]), (2015, Tl.Obj.map (mpT o15c)), (2016, oc 118 (List.flatMap nodeC o16b))] ⟨trivial, trivial⟩ ?_
         refine WP.seq ?_
         rcases ite_some h with ⟨h8, h⟩ | ⟨h8, h⟩
         ·refine WP.yes h8 rfl ?_
          refine WP.pk tm [] [] [(74, vi v74), (73, vi (ln o56)), (72, V.t (T.list (List.length o56) 3 (List.flatMap nodeC o56))), (10, V.ref 2010 0), (9, vi v9), (4, V.own 2016 3 (List.length o16b)), (3, V.ref 2003 0), (2, V.t (T.nilm)), (1, V.t (T.ptr [T.fn g0 pre0 caps0]))] [(2003, ov 77 [V.mapr 2015]), (2010, ov 122 [V.t (T.list (List.length o56) 3 (List.flatMap nodeC o56))]), (2015, Tl.Obj.map (mpT o15c)), (2016, oc 118 (List.flatMap nodeC o16b))] trivial ?_
          refine WP.seq ?_
          refine WP.block ?_
          obtain ⟨c0, h⟩ := chk_some h
          refine WP.pn tm [(77, An.v (T.agg [ti ((gt o56 v74 (0, 0, 0)).1), ti ((gt o56 v74 (0, 0, 0)).2.1), ti ((gt o56 v74 (0, 0, 0)).2.2)])), (14, An.id 2014), (2000078, An.mp (mpT (tput o15c (((gt o56 v74 (0, 0, 0)).1), ((gt o56 v74 (0, 0, 0)).2.1), ((gt o56 v74 (0, 0, 0)).2.2)) v9)))] [((0 ≤ v74 ∧ v74 < (ln o56))), (3 ≤ List.length (List.drop ((Int.toNat v74) * 3) (List.flatMap nodeC o56))), (T.agg (List.take 3 (List.drop ((Int.toNat v74) * 3) (List.flatMap nodeC o56))) = T.agg [ti ((gt o56 v74 (0, 0, 0)).1), ti ((gt o56 v74 (0, 0, 0)).2.1), ti ((gt o56 v74 (0, 0, 0)).2.2)]), ((0 + 3 ≤ 3 ∧ 3 = 3)), (True), (0 + 3 ≤ 3), (∃ G, KeyRun Tryz.prog 118 G ∧ G (T.agg [ti ((gt o56 v74 (0, 0, 0)).1), ti ((gt o56 v74 (0, 0, 0)).2.1), ti ((gt o56 v74 (0, 0, 0)).2.2)]) ∧ ∀ x ∈ mpT o15c, G x.1), (putT (mpT o15c) (T.agg [ti ((gt o56 v74 (0, 0, 0)).1), ti ((gt o56 v74 (0, 0, 0)).2.1), ti ((gt o56 v74 (0, 0, 0)).2.2)]) (ti v9) = mpT (tput o15c (((gt o56 v74 (0, 0, 0)).1), ((gt o56 v74 (0, 0, 0)).2.1), ((gt o56 v74 (0, 0, 0)).2.2)) v9))] [2014, 2003, 2010, 2015, 2016] [(74, vi v74), (73, vi (ln o56)), (72, V.t (T.list (List.length o56) 3 (List.flatMap nodeC o56))), (10, V.ref 2010 0), (9, vi v9), (4, V.own 2016 3 (List.length o16b)), (3, V.ref 2003 0), (2, V.t (T.nilm)), (1, V.t (T.ptr [T.fn g0 pre0 caps0]))] [(2003, ov 77 [V.mapr 2015]), (2010, ov 122 [V.t (T.list (List.length o56) 3 (List.flatMap nodeC o56))]), (2015, Tl.Obj.map (mpT (tput o15c (((gt o56 v74 (0, 0, 0)).1), ((gt o56 v74 (0, 0, 0)).2.1), ((gt o56 v74 (0, 0, 0)).2.2)) v9))), (2016, oc 118 (List.flatMap nodeC o16b))] ⟨c0, fit_node (i := Int.toNat v74) (by simp) (by omega), at_node (by simp) (by omega), by decide, trivial, by decide, keys_tri Tryz.underlying118 Tryz.underlying3 (by as_aux_lemma => kernel_rfl) (by as_aux_lemma => kernel_rfl) o15c (((gt o56 v74 (0, 0, 0)).1), ((gt o56 v74 (0, 0, 0)).2.1), ((gt o56 v74 (0, 0, 0)).2.2)), put_tri o15c (((gt o56 v74 (0, 0, 0)).1), ((gt o56 v74 (0, 0, 0)).2.1), ((gt o56 v74 (0, 0, 0)).2.2)) v9, trivial⟩ ?_
          obtain ⟨c1, h⟩ := chk_some h
          refine WP.qk tm [(81, An.v (ti (v74 + 1)))] [(True), (wr (v74 + 1))] [(74, vi (v74 + 1)), (73, vi (ln o56)), (72, V.t (T.list (List.length o56) 3 (List.flatMap nodeC o56))), (10, V.ref 2010 0), (9, vi v9), (4, V.own 2016 3 (List.length o16b)), (3, V.ref 2003 0), (2, V.t (T.nilm)), (1, V.t (T.ptr [T.fn g0 pre0 caps0]))] [(2003, ov 77 [V.mapr 2015]), (2010, ov 122 [V.t (T.list (List.length o56) 3 (List.flatMap nodeC o56))]), (2015, Tl.Obj.map (mpT (tput o15c (((gt o56 v74 (0, 0, 0)).1), ((gt o56 v74 (0, 0, 0)).2.1), ((gt o56 v74 (0, 0, 0)).2.2)) v9))), (2016, oc 118 (List.flatMap nodeC o16b))] ⟨trivial, wrapI c1, trivial⟩ ?_
          exact ⟨(n, (tput o15c (((gt o56 v74 (0, 0, 0)).1), ((gt o56 v74 (0, 0, 0)).2.1), ((gt o56 v74 (0, 0, 0)).2.2)) v9), (v74 + 1)), h, Nat.lt_succ_self _, rfl⟩
         ·refine WP.no h8 rfl ?_
          refine WP.eq tm [] 10 [] [(10, V.ref 2010 0), (9, vi v9), (4, V.own 2016 3 (List.length o16b)), (3, V.ref 2003 0), (2, V.t (T.nilm)), (1, V.t (T.ptr [T.fn g0 pre0 caps0]))] [(2003, ov 77 [V.mapr 2015]), (2010, ov 122 [V.t (T.list (List.length o56) 3 (List.flatMap nodeC o56))]), (2015, Tl.Obj.map (mpT o15c)), (2016, oc 118 (List.flatMap nodeC o16b))] trivial ?_
          exact ⟨(o15c), h, rfl⟩
       ·intro o15c h0
        have h := (show J3 o15c = some y0 from h0)
        rw [hJ3] at h
        obtain ⟨r84, c0, h⟩ := bnd1_some h
        refine WP.qk tm [(84, An.callG [(500, 2016)] [V.own 500 3 (List.length o16b), V.t (T.fn 144 [] [T.ptr [T.list (List.length o56) 3 (List.flatMap nodeC o56)]])] [(500, oc 118 (List.flatMap nodeC o16b))] (V.own 500 3 (List.length r84)) [(500, oc 118 (List.flatMap nodeC r84))])] [(CG Tryz.prog 143 [V.own 500 3 (List.length o16b), V.t (T.fn 144 [] [T.ptr [T.list (List.length o56) 3 (List.flatMap nodeC o56)]])] [(500, oc 118 (List.flatMap nodeC o16b))] (V.own 500 3 (List.length r84)) [(500, oc 118 (List.flatMap nodeC r84))]), ((V.own 500 3 (List.length r84)).flat = true), (flatO [(500, oc 118 (List.flatMap nodeC r84))] = true), ((V.own 500 3 (List.length o16b)).ren (renF [(500, 2016)]) = V.own 2016 3 (List.length o16b)), (WkT (T.fn 144 [] [T.ptr [T.list (List.length o56) 3 (List.flatMap nodeC o56)]]) (T.fn 144 [] [T.ptr [T.list (List.length o56) 3 (List.flatMap nodeC o56)]])), ((oc 118 (List.flatMap nodeC o16b)) = (oc 118 (List.flatMap nodeC o16b)).ren (renF [(500, 2016)]))] [(4, V.own 2016 3 (List.length r84)), (9, vi v9), (3, V.ref 2003 0), (2, V.t (T.nilm)), (1, V.t (T.ptr [T.fn g0 pre0 caps0]))] [(2003, ov 77 [V.mapr 2015]), (2015, Tl.Obj.map (mpT o15c)), (2016, oc 118 (List.flatMap nodeC r84))] ⟨(F_slices_DeleteFunc___impl_triple_impl_triple__W o16b 144 [] [T.ptr [T.list (List.length o56) 3 (List.flatMap nodeC o56)]] (fun u0 u1 u2 => F_impl_needs_2 u0 u1 u2 o56) (fun u0 u1 u2 w0 hh => F_impl_needs_2_W u0 u1 u2 o56 w0 hh) r84 c0), by first | rfl | (simp [V.flats, V.flat, T.flats, T.flat, flats_app, flats_int, flats_bool, flats_str, flats_node, flats_asked, flats_pair, flats_recs, flats_fact, flatEs_mpB, flatEs_mpI, flatEs_mp3]; done), by first | rfl | (simp [flatO, Tl.Obj.flat, V.flats, V.flat, T.flats, T.flat, flats_app, flats_int, flats_bool, flats_str, flats_node, flats_asked, flats_pair, flats_recs, flats_fact, flatEs_mpB, flatEs_mpI, flatEs_mp3]; done), by first | rfl | (simp [V.ren, V.renL, renF, lk]; done) | (simp [V.ren, V.renL, renF, lk]; omega), WkT.refl _, rfl, trivial⟩ ?_
        exact ⟨(r84, o15c), h, rfl⟩
     ·rintro ⟨o16c, o15c⟩ h0
      have h := (show J2 o16c o15c = some y0 from h0)
      rw [hJ2] at h
      obtain ⟨c0, h⟩ := chk_some h
      refine WP.qk tm [(55, An.v (ti (v9 + 1)))] [(True), (wr (v9 + 1))] [(9, vi (v9 + 1)), (4, V.own 2016 3 (List.length o16c)), (3, V.ref 2003 0), (2, V.t (T.nilm)), (1, V.t (T.ptr [T.fn g0 pre0 caps0]))] [(2003, ov 77 [V.mapr 2015]), (2015, Tl.Obj.map (mpT o15c)), (2016, oc 118 (List.flatMap nodeC o16c))] ⟨trivial, wrapI c0, trivial⟩ ?_
      exact ⟨(n, o16c, o15c, (v9 + 1)), h, Nat.lt_succ_self _, rfl⟩
    ·refine WP.no h5 rfl ?_
     refine WP.eq tm [] 6 [] [(3, V.ref 2003 0), (2, V.t (T.nilm))] [(2003, ov 77 [V.mapr 2015]), (2015, Tl.Obj.map (mpT o15b))] trivial ?_
     exact ⟨(o15b), h, rfl⟩
  ·intro o15b h0
   have h := (show J1 o15b = some y0 from h0)
   rw [hJ1] at h
   have h := Option.some.inj h
   subst h
   exact WP.pathG tab_ok mixed [] [.keep [2], .keepO [2015], .names [(2015, 9000)]] [9000] _ (r' := V.mapr 9000) (ps := [(True)]) (r := V.mapr 9000) (N := [9000]) (O := [(9000, Tl.Obj.map (mpT o15b))]) [] (by as_aux_lemma => kernel_rfl) ⟨trivial, trivial⟩ ⟨(by first | rfl | (simp only [tlS, tl, vl, vo, oc, ov, tbl, vbl, ty, vy] <;> rfl) | (simp <;> omega) | (simp []; done) | (rw [List.take_of_length_le (by simp [])] <;> rfl) | (simp [List.take_of_length_le]; done)), trivial⟩ rfl rfl (fun _ h => h)
theorem F_impl_neederOf_W (g0 : FuncId) (pre0 caps0 : List T) (p0 : (List Int) → (List Int) → Option ((List Int) × (List Int))) (hp0 : ∀ (a0_0 : List Int) (a0_1 : List Int) (b0_2 : List Int) (b0_3 : List Int), p0 a0_0 a0_1 = some (b0_2, b0_3) → C Tryz.prog g0 (pre0 ++ ([tl a0_0, tl a0_1] ++ caps0)) (T.tup [tl b0_2, tl b0_3])) (y0 : List (K3 × Int)) (h : F_impl_neederOf p0 = some y0) : C Tryz.prog 58 [T.fn g0 pre0 caps0] (T.agg [T.fn g0 pre0 caps0, mapT (mpT y0)]) := by
 unfold F_impl_neederOf at h
 refine C.intro (tab := tab) tab_ok (fn := Tryz.f58) Tryz.func58 (by kernel_rfl) rfl (Nat.le_of_ble_eq_true rfl) ?_
 obtain ⟨r5, c0, h⟩ := bnd1_some h
 have h := Option.some.inj h
 subst h
 exact WP.pathW tab_ok mixed [(2, An.id 2002), (5, An.callG [(9000, 10050)] [V.t (T.fn g0 pre0 caps0)] [] (V.mapr 9000) [(9000, Tl.Obj.map (mpT r5))])] _ (ps := [(CG Tryz.prog 112 [V.t (T.fn g0 pre0 caps0)] [] (V.mapr 9000) [(9000, Tl.Obj.map (mpT r5))]), (WkT (T.fn g0 pre0 caps0) (T.fn g0 pre0 caps0)), ((1 = 1 ∧ 0 + 1 ≤ 2) ∧ (1 = 1 ∧ 1 + 1 ≤ 2) ∧ True), ((0 + 2 ≤ 2 ∧ 2 = 2)), (0 + 2 ≤ 2)]) (r := T.agg [T.fn g0 pre0 caps0, mapT (mpT r5)]) (by kernel_rfl) ⟨(F_impl_needs_W g0 pre0 caps0 p0 hp0 r5 c0), WkT.refl _, ⟨⟨by decide, by decide⟩, ⟨by decide, by decide⟩, trivial⟩, by decide, by decide, trivial⟩ (WkT.eq (y := T.agg [T.fn g0 pre0 caps0, mapT (mpT r5)]) (WkT.refl _) rfl) (fun _ h => h)
theorem F_impl_left_W (x0 : List Int) (x1 : List Int) (y0 : List Int) (h : F_impl_left x0 x1 = some y0) : CG Tryz.prog 113 [vl x0, vl x1] [] (vo 9000 (List.length y0)) [(9000, oc 3 (List.map (ti) y0))] := by
 unfold F_impl_left at h
 refine CG.intro (tab := tab) tab_ok (fn := Tryz.f113) Tryz.func113 (by kernel_rfl) rfl (Nat.le_of_ble_eq_true rfl) (by kernel_rfl) ?_
 refine WP.sk tm [] [] [(4, V.t (T.nils)), (0, vl x0), (1, vl x1)] [] trivial ?_
 refine WP.sk tm [(8, An.id 2008)] [(True), (0 = 0 * 1)] [(5, vo 2008 0), (4, V.t (T.nils)), (0, vl x0), (1, vl x1)] [(2008, oc 3 [])] ⟨trivial, by decide, trivial⟩ ?_
 obtain ⟨J1, hJ1, h⟩ := jn_some h
 refine WP.joinA (fun (zz : (List Int)) => ⟨[2008], [(5, vo 2008 (List.length zz)), (4, V.t (T.nils))], [(2008, oc 3 (List.map (ti) zz))]⟩) (fun zz => J1 zz = some y0) ?_ ?_
 ·refine WP.sk tm [] [] [(11, vi 0), (10, vi (ln x1)), (9, vl x1), (5, vo 2008 0), (4, V.t (T.nils)), (0, vl x0)] [(2008, oc 3 [])] trivial ?_
  refine WP.block ?_
  refine WP.lp (α := Nat × (List Int) × Int) (fun zz => ⟨[2008], [(11, vi zz.2.2), (10, vi (ln x1)), (9, vl x1), (5, vo 2008 (List.length zz.2.1)), (4, V.t (T.nils)), (0, vl x0)], [(2008, oc 3 (List.map (ti) zz.2.1))]⟩) (fun zz => F_impl_left_L1 x0 x1 J1 zz.1 zz.2.1 zz.2.2 = some y0) (fun zz => zz.1) (fuel, ([] : List Int), (0 : Int)) h ?_
  rintro ⟨n, o8, v11⟩ h0
  have h := (show F_impl_left_L1 x0 x1 J1 n o8 v11 = some y0 from h0)
  rcases n with _ | n
  ·rw [F_impl_left_L1] at h; cases h
  ·rw [F_impl_left_L1] at h
   refine WP.sk tm [] [(True)] [(12, vb (decide (v11 < (ln x1)))), (11, vi v11), (10, vi (ln x1)), (9, vl x1), (5, vo 2008 (List.length o8)), (4, V.t (T.nils)), (0, vl x0)] [(2008, oc 3 (List.map (ti) o8))] ⟨trivial, trivial⟩ ?_
   refine WP.seq ?_
   rcases ite_some h with ⟨h1, h⟩ | ⟨h1, h⟩
   ·refine WP.yes h1 rfl ?_
    refine WP.pk tm [] [] [(11, vi v11), (10, vi (ln x1)), (9, vl x1), (5, vo 2008 (List.length o8)), (4, V.t (T.nils)), (0, vl x0)] [(2008, oc 3 (List.map (ti) o8))] trivial ?_
    refine WP.seq ?_
    refine WP.block ?_
    obtain ⟨c0, h⟩ := chk_some h
    obtain ⟨c1, h⟩ := chk_some h
    obtain ⟨c2, h⟩ := chk_some h
    obtain ⟨n22, c3, h⟩ := nam_some h
    obtain ⟨c4, h⟩ := chk_some h
    refine WP.pn tm [(15, An.v (ti (gt x1 v11 0))), (20, An.v (ti (gt x0 v11 0))), (22, An.v (ti n22)), (23, An.fz), (24, An.id 2024)] [((0 ≤ v11 ∧ v11 < (ln x1))), ((List.drop ((Int.toNat v11) * 1) (List.map (ti) x1) : List T)[0]? = some (ti (gt x1 v11 0))), (ti (gt x1 v11 0) = ti (gt x1 v11 0)), ((0 ≤ v11 ∧ v11 < (ln x0))), ((List.drop ((Int.toNat v11) * 1) (List.map (ti) x0) : List T)[0]? = some (ti (gt x0 v11 0))), (ti (gt x0 v11 0) = ti (gt x0 v11 0)), (True), (ti (IntKind.wrap .i64 ((gt x0 v11 0) - (gt x1 v11 0))) = ti n22), ((1 = 1 ∧ 0 + 1 ≤ 1) ∧ True), (1 = 1 * 1), (True), (List.length (List.map (ti) o8) = (List.length o8) * 1), ((((List.length o8) + 1) * 8 ≤ 140737488355328 ∧ (List.length o8) + 1 ≤ maxLen))] [2024, 2008] [(5, vo 2024 ((List.length o8) + 1)), (11, vi v11), (10, vi (ln x1)), (9, vl x1), (4, V.t (T.nils)), (0, vl x0)] [(2024, oc 3 ((List.map (ti) o8) ++ [ti n22]))] ⟨c0, at1 (by simp) (by omega), rfl, c1, at1 (by simp) (by omega), rfl, trivial, Eq.trans (wrapI c2) (congrArg (ti) c3), ⟨⟨by first | rfl | (simp; done) | (simp []; done) | omega, by first | decide | (simp; done) | (simp []; done) | omega | (simp only [tlL]; omega) | (simp; omega)⟩, trivial⟩, by decide, trivial, by first | rfl | omega | (simp only [tlL] <;> omega) | (simp <;> omega) | (simp [] <;> omega), c4, trivial⟩ ?_
    obtain ⟨c5, h⟩ := chk_some h
    refine WP.nk tm [(25, An.v (ti (v11 + 1)))] [(2024, 2008)] .normal [(True), (wr (v11 + 1))] [(11, vi (v11 + 1)), (10, vi (ln x1)), (9, vl x1), (5, vo 2008 ((List.length o8) + 1)), (4, V.t (T.nils)), (0, vl x0)] [(2008, oc 3 ((List.map (ti) o8) ++ [ti n22]))] ⟨trivial, wrapI c5, trivial⟩ ?_
    exact ⟨(n, o8 ++ [n22], (v11 + 1)), h, Nat.lt_succ_self _, (by first | rfl | (simp only [tlS, tl, vl, vo, oc, ov, tbl, vbl, ty, vy] <;> rfl) | (simp <;> omega) | (simp []; done) | (rw [List.take_of_length_le (by simp [])] <;> rfl) | (simp [List.take_of_length_le]; done))⟩
   ·refine WP.no h1 rfl ?_
    refine WP.eq tm [] 0 [] [(5, vo 2008 (List.length o8)), (4, V.t (T.nils))] [(2008, oc 3 (List.map (ti) o8))] trivial ?_
    exact ⟨(o8), h, rfl⟩
 ·intro o8 h0
  have h := (show J1 o8 = some y0 from h0)
  rw [hJ1] at h
  have h := Option.some.inj h
  subst h
  exact WP.pathG tab_ok mixed [] [.keep [4], .keepO [2008], .names [(2008, 9000)]] [9000] _ (r' := vo 9000 (List.length o8)) (ps := []) (r := vo 9000 (List.length o8)) (N := [9000]) (O := [(9000, oc 3 (List.map (ti) o8))]) [] (by kernel_rfl) trivial ⟨rfl, trivial⟩ rfl rfl (fun _ h => h)
theorem F_impl_left_W_C (x0 : List Int) (x1 : List Int) (y0 : List Int) (h : F_impl_left x0 x1 = some y0) : C Tryz.prog 113 [tl x0, tl x1] (tl y0) :=
 CG.toC (ps := [(List.length (List.map (ti) y0) = (List.length y0) * 1)]) (F_impl_left_W  x0 x1 y0 h) (by rfl) ⟨by first | rfl | omega | (simp <;> omega) | (simp [hl] <;> omega), trivial⟩
theorem F_impl_moved_W (x0 : List Int) (x1 : List Int) (y0 : List Int) (h : F_impl_moved x0 x1 = some y0) : CG Tryz.prog 114 [vl x0, vl x1] [] (vo 9000 (List.length y0)) [(9000, oc 3 (List.map (ti) y0))] := by
 unfold F_impl_moved at h
 refine CG.intro (tab := tab) tab_ok (fn := Tryz.f114) Tryz.func114 (by kernel_rfl) rfl (Nat.le_of_ble_eq_true rfl) (by kernel_rfl) ?_
 refine WP.sk tm [] [] [(4, V.t (T.nils)), (0, vl x0), (1, vl x1)] [] trivial ?_
 refine WP.seq ?_
 obtain ⟨c0, h⟩ := chk_some h
 refine WP.pk tm [(8, An.callG [(9000, 10080)] [vl x0] [] (vo 9000 (List.length x0)) [(9000, oc 3 (List.map (ti) x0))])] [(CG Tryz.prog 111 [vl x0] [] (vo 9000 (List.length x0)) [(9000, oc 3 (List.map (ti) x0))]), (WkT (tl x0) (tl x0))] [(5, vo 10080 (List.length x0)), (4, V.t (T.nils)), (1, vl x1)] [(10080, oc 3 (List.map (ti) x0))] ⟨(clone_C_G x0 c0), WkT.refl _, trivial⟩ ?_
 obtain ⟨J1, hJ1, h⟩ := jn_some h
 refine WP.joinA (fun (zz : (List Int)) => ⟨[10080], [(5, vo 10080 (List.length zz)), (4, V.t (T.nils))], [(10080, oc 3 (List.map (ti) zz))]⟩) (fun zz => J1 zz = some y0) ?_ ?_
 ·refine WP.sk tm [] [] [(6, vi 1), (5, vo 10080 (List.length x0)), (4, V.t (T.nils)), (1, vl x1)] [(10080, oc 3 (List.map (ti) x0))] trivial ?_
  refine WP.block ?_
  refine WP.lp (α := Nat × (List Int) × Int) (fun zz => ⟨[10080], [(6, vi zz.2.2), (5, vo 10080 (List.length zz.2.1)), (4, V.t (T.nils)), (1, vl x1)], [(10080, oc 3 (List.map (ti) zz.2.1))]⟩) (fun zz => F_impl_moved_L1 x1 J1 zz.1 zz.2.1 zz.2.2 = some y0) (fun zz => zz.1) (fuel, x0, (1 : Int)) h ?_
  rintro ⟨n, o10080, v6⟩ h0
  have h := (show F_impl_moved_L1 x1 J1 n o10080 v6 = some y0 from h0)
  rcases n with _ | n
  ·rw [F_impl_moved_L1] at h; cases h
  ·rw [F_impl_moved_L1] at h
   refine WP.seq ?_
   refine WP.sk tm [] [(True)] [(12, vb (decide (v6 < (ln o10080)))), (6, vi v6), (5, vo 10080 (List.length o10080)), (4, V.t (T.nils)), (1, vl x1)] [(10080, oc 3 (List.map (ti) o10080))] ⟨trivial, trivial⟩ ?_
   rcases ite_some h with ⟨h1, h⟩ | ⟨h1, h⟩
   ·refine WP.yes h1 rfl ?_
    refine WP.pk tm [] [] [(6, vi v6), (5, vo 10080 (List.length o10080)), (4, V.t (T.nils)), (1, vl x1)] [(10080, oc 3 (List.map (ti) o10080))] trivial ?_
    refine WP.seq ?_
    refine WP.block ?_
    obtain ⟨c1, h⟩ := chk_some h
    obtain ⟨c2, h⟩ := chk_some h
    obtain ⟨c3, h⟩ := chk_some h
    obtain ⟨c4, h⟩ := chk_some h
    obtain ⟨n24, c5, h⟩ := nam_some h
    refine WP.pk tm [(18, An.v (ti (gt o10080 v6 0))), (21, An.v (ti (v6 - 1))), (23, An.v (ti (List.getD x1 (Int.toNat (v6 - 1)) 0))), (24, An.v (ti n24))] [((0 ≤ v6 ∧ v6 < (ln o10080))), ((List.map (ti) o10080 : List T)[(Int.toNat v6) * 1]? = some (ti (gt o10080 v6 0))), (ti (gt o10080 v6 0) = ti (gt o10080 v6 0)), (True), (wr (v6 - 1)), ((0 ≤ (v6 - 1) ∧ (v6 - 1) < (ln x1))), ((List.drop ((Int.toNat (v6 - 1)) * 1) (List.map (ti) x1) : List T)[0]? = some (ti (List.getD x1 (Int.toNat (v6 - 1)) 0))), (ti (List.getD x1 (Int.toNat (v6 - 1)) 0) = ti (List.getD x1 (Int.toNat (v6 - 1)) 0)), (True), (ti (IntKind.wrap .i64 ((gt o10080 v6 0) + (List.getD x1 (Int.toNat (v6 - 1)) 0))) = ti n24), ((0 ≤ v6 ∧ v6 < (ln o10080))), ((Int.toNat v6) * 1 < List.length (List.map (ti) o10080))] [(6, vi v6), (5, vo 10080 (List.length o10080)), (4, V.t (T.nils)), (1, vl x1)] [(10080, oc 3 (List.set (List.map (ti) o10080) ((Int.toNat v6) * 1) (ti n24)))] ⟨c1, atM (by simp) (by first | omega | (simp only [tlL]; omega) | (simp; omega)), rfl, trivial, wrapI c2, c3, at1 (by simp) (by omega), rfl, trivial, Eq.trans (wrapI c4) (congrArg (ti) c5), c1, by first | decide | omega | (simp only [tlL] <;> omega) | (simp <;> omega) | (simp [] <;> omega), trivial⟩ ?_
    obtain ⟨c6, h⟩ := chk_some h
    refine WP.qk tm [(14, An.v (ti (v6 + 1)))] [(True), (wr (v6 + 1))] [(6, vi (v6 + 1)), (5, vo 10080 (List.length o10080)), (4, V.t (T.nils)), (1, vl x1)] [(10080, oc 3 (List.set (List.map (ti) o10080) ((Int.toNat v6) * 1) (ti n24)))] ⟨trivial, wrapI c6, trivial⟩ ?_
    exact ⟨(n, List.set o10080 (Int.toNat v6) n24, (v6 + 1)), h, Nat.lt_succ_self _, (by first | rfl | (simp only [tlS, tl, vl, vo, oc, ov, tbl, vbl, ty, vy] <;> rfl) | (simp <;> omega) | (simp []; done) | (rw [List.take_of_length_le (by simp [])] <;> rfl) | (simp [List.take_of_length_le]; done))⟩
   ·refine WP.no h1 rfl ?_
    refine WP.eq tm [] 0 [] [(5, vo 10080 (List.length o10080)), (4, V.t (T.nils))] [(10080, oc 3 (List.map (ti) o10080))] trivial ?_
    exact ⟨(o10080), h, rfl⟩
 ·intro o10080 h0
  have h := (show J1 o10080 = some y0 from h0)
  rw [hJ1] at h
  have h := Option.some.inj h
  subst h
  exact WP.pathG tab_ok mixed [] [.keep [4], .keepO [10080], .names [(10080, 9000)]] [9000] _ (r' := vo 9000 (List.length o10080)) (ps := []) (r := vo 9000 (List.length o10080)) (N := [9000]) (O := [(9000, oc 3 (List.map (ti) o10080))]) [] (by kernel_rfl) trivial ⟨rfl, trivial⟩ rfl rfl (fun _ h => h)
theorem F_impl_moved_W_C (x0 : List Int) (x1 : List Int) (y0 : List Int) (h : F_impl_moved x0 x1 = some y0) : C Tryz.prog 114 [tl x0, tl x1] (tl y0) :=
 CG.toC (ps := [(List.length (List.map (ti) y0) = (List.length y0) * 1)]) (F_impl_moved_W  x0 x1 y0 h) (by rfl) ⟨by first | rfl | omega | (simp <;> omega) | (simp [hl] <;> omega), trivial⟩
theorem F_impl_bothWays_W (x0 : List Int) (x1 : List Int) (y0 : List Int) (y1 : List Int) (h : F_impl_bothWays x0 x1 = some (y0, y1)) : CG Tryz.prog 59 [vl x0, vl x1] [] (V.tup [vo 9000 (List.length y0), vo 9001 (List.length y1)]) [(9000, oc 3 (List.map (ti) y0)), (9001, oc 3 (List.map (ti) y1))] := by
 unfold F_impl_bothWays at h
 refine CG.intro (tab := tab) tab_ok (fn := Tryz.f59) Tryz.func59 (by kernel_rfl) rfl (Nat.le_of_ble_eq_true rfl) (by kernel_rfl) ?_
 obtain ⟨r9, c0, h⟩ := bnd1_some h
 obtain ⟨r12, c1, h⟩ := bnd1_some h
 obtain ⟨r15, c2, h⟩ := bnd1_some h
 simp only [Option.some.injEq, Prod.mk.injEq] at h
 obtain ⟨rfl, rfl⟩ := h
 exact WP.pathG tab_ok mixed [(9, An.callG [(9000, 10090)] [vl x0, vl x1] [] (vo 9000 (List.length r9)) [(9000, oc 3 (List.map (ti) r9))]), (12, An.callG [(9000, 10120)] [vl x1, vl r9] [] (vo 9000 (List.length r12)) [(9000, oc 3 (List.map (ti) r12))]), (15, An.callG [(9000, 10150)] [vl r9, vl x1] [] (vo 9000 (List.length r15)) [(9000, oc 3 (List.map (ti) r15))])] [.keep [4, 5], .keepO [10120, 10150], .names [(10120, 9000), (10150, 9001)]] [9000, 9001] _ (r' := V.tup [vo 9000 (List.length r12), vo 9001 (List.length r15)]) (ps := [(CG Tryz.prog 113 [vl x0, vl x1] [] (vo 9000 (List.length r9)) [(9000, oc 3 (List.map (ti) r9))]), (WkT (tl x0) (tl x0)), (WkT (tl x1) (tl x1)), (CG Tryz.prog 114 [vl x1, vl r9] [] (vo 9000 (List.length r12)) [(9000, oc 3 (List.map (ti) r12))]), ((vo 9000 (List.length r12)).flat = true), (flatO [(9000, oc 3 (List.map (ti) r12))] = true), (WkT (tl x1) (tl x1)), (List.length (List.map (ti) r9) = (List.length r9) * 1), (WkT (tl r9) (tl r9)), (CG Tryz.prog 114 [vl r9, vl x1] [] (vo 9000 (List.length r15)) [(9000, oc 3 (List.map (ti) r15))]), ((vo 9000 (List.length r15)).flat = true), (flatO [(9000, oc 3 (List.map (ti) r15))] = true), (List.length (List.map (ti) r9) = (List.length r9) * 1), (WkT (tl r9) (tl r9)), (WkT (tl x1) (tl x1))]) (r := V.tup [vo 9000 (List.length r12), vo 9001 (List.length r15)]) (N := [9000, 9001]) (O := [(9000, oc 3 (List.map (ti) r12)), (9001, oc 3 (List.map (ti) r15))]) [] (by kernel_rfl) ⟨(F_impl_left_W x0 x1 r9 c0), WkT.refl _, WkT.refl _, (F_impl_moved_W x1 r9 r12 c1), by first | rfl | (simp [V.flats, V.flat, T.flats, T.flat, flats_app, flats_int, flats_bool, flats_str, flats_node, flats_asked, flats_pair, flats_recs, flats_fact, flatEs_mpB, flatEs_mpI, flatEs_mp3]; done), by first | rfl | (simp [flatO, Tl.Obj.flat, V.flats, V.flat, T.flats, T.flat, flats_app, flats_int, flats_bool, flats_str, flats_node, flats_asked, flats_pair, flats_recs, flats_fact, flatEs_mpB, flatEs_mpI, flatEs_mp3]; done), WkT.refl _, by first | rfl | omega | (simp only [tlL] <;> omega) | (simp <;> omega) | (simp [] <;> omega), WkT.refl _, (F_impl_moved_W r9 x1 r15 c2), by first | rfl | (simp [V.flats, V.flat, T.flats, T.flat, flats_app, flats_int, flats_bool, flats_str, flats_node, flats_asked, flats_pair, flats_recs, flats_fact, flatEs_mpB, flatEs_mpI, flatEs_mp3]; done), by first | rfl | (simp [flatO, Tl.Obj.flat, V.flats, V.flat, T.flats, T.flat, flats_app, flats_int, flats_bool, flats_str, flats_node, flats_asked, flats_pair, flats_recs, flats_fact, flatEs_mpB, flatEs_mpI, flatEs_mp3]; done), by first | rfl | omega | (simp only [tlL] <;> omega) | (simp <;> omega) | (simp [] <;> omega), WkT.refl _, WkT.refl _, trivial⟩ ⟨rfl, rfl, trivial⟩ rfl rfl (fun _ h => h)
theorem F_impl_bothWays_W_C (x0 : List Int) (x1 : List Int) (y0 : List Int) (y1 : List Int) (h : F_impl_bothWays x0 x1 = some (y0, y1)) : C Tryz.prog 59 [tl x0, tl x1] (T.tup [tl y0, tl y1]) :=
 CG.toC (ps := [(List.length (List.map (ti) y0) = (List.length y0) * 1), (List.length (List.map (ti) y1) = (List.length y1) * 1)]) (F_impl_bothWays_W  x0 x1 y0 y1 h) (by rfl) ⟨by first | rfl | omega | (simp <;> omega) | (simp [hl] <;> omega), by first | rfl | omega | (simp <;> omega) | (simp [hl] <;> omega), trivial⟩
theorem F_impl_State_counts_W (x0 : List Int) (x1 : Int) (y0 : List Int) (h : F_impl_State_counts x0 x1 = some y0) : CG Tryz.prog 77 [V.t (T.agg [tl x0, ti x1])] [] (vo 9000 (List.length y0)) [(9000, oc 3 (List.map (ti) y0))] := by
 unfold F_impl_State_counts at h
 refine CG.intro (tab := tab) tab_ok (fn := Tryz.f77) Tryz.func77 (by kernel_rfl) rfl (Nat.le_of_ble_eq_true rfl) (by kernel_rfl) ?_
 refine WP.sk tm [(1, An.fz)] [] [(2, V.t (T.nils)), (1, V.t (T.ptr [tl x0, ti x1]))] [] trivial ?_
 refine WP.seq ?_
 obtain ⟨c0, h⟩ := chk_some h
 obtain ⟨c1, h⟩ := chk_some h
 refine WP.pk tm [(8, An.v (ti (x1 + 1))), (9, An.id 2009)] [(True), (True), (wr (x1 + 1)), ((0 ≤ (x1 + 1) ∧ (x1 + 1) ≤ (x1 + 1) ∧ (8 : Int) * (x1 + 1) ≤ 281474976710656 ∧ (x1 + 1) ≤ (maxLen : Int)))] [(3, vo 2009 (Int.toNat (x1 + 1))), (2, V.t (T.nils)), (1, V.t (T.ptr [tl x0, ti x1]))] [(2009, oc 3 (List.replicate (Int.toNat (x1 + 1)) (ti 0)))] ⟨trivial, trivial, wrapI c0, c1, trivial⟩ ?_
 obtain ⟨J1, hJ1, h⟩ := jn_some h
 refine WP.joinA (fun (zz : (List Int)) => ⟨[2009], [(3, vo 2009 (List.length zz)), (2, V.t (T.nils))], [(2009, oc 3 (List.map (ti) zz))]⟩) (fun zz => J1 zz = some y0) ?_ ?_
 ·refine WP.sk tm [] [(True)] [(13, vi 0), (12, vi (ln x0)), (11, vl x0), (3, vo 2009 (Int.toNat (x1 + 1))), (2, V.t (T.nils))] [(2009, oc 3 (List.replicate (Int.toNat (x1 + 1)) (ti 0)))] ⟨trivial, trivial⟩ ?_
  refine WP.block ?_
  refine WP.wk [.keep [13, 12, 11, 3, 2], .keepO [2009], .names [(2009, 2009)]] (σ' := ⟨[2009], [(13, vi 0), (12, vi (ln x0)), (11, vl x0), (3, vo 2009 (Int.toNat (x1 + 1))), (2, V.t (T.nils))], [(2009, oc 3 (List.replicate (Int.toNat (x1 + 1)) (ti 0)))]⟩) (ps := []) (by kernel_rfl) trivial ?_
  refine WP.st (σ' := ⟨[2009], [(13, vi (0 : Int)), (12, vi (ln x0)), (11, vl x0), (3, vo 2009 (List.length (List.replicate (Int.toNat (x1 + 1)) (0 : Int)))), (2, V.t (T.nils))], [(2009, oc 3 (List.map (ti) (List.replicate (Int.toNat (x1 + 1)) (0 : Int))))]⟩) (by simp <;> omega) ?_
  refine WP.loop (α := Nat × (List Int) × Int) (fun zz => ⟨[2009], [(13, vi zz.2.2), (12, vi ((List.length x0 : Nat) : Int)), (11, vl x0), (3, vo 2009 (List.length zz.2.1)), (2, V.t (T.nils))], [(2009, oc 3 (List.map (T.int .i64) zz.2.1))]⟩) (fun zz => F_impl_State_counts_L1 x0 J1 zz.1 zz.2.1 zz.2.2 = some y0) (fun zz => zz.1) (fuel, List.replicate (Int.toNat (x1 + (1 : Int))) (0 : Int), (0 : Int)) h ?_
  rintro ⟨n, o9, v13⟩ h0
  have h := (show F_impl_State_counts_L1 x0 J1 n o9 v13 = some y0 from h0)
  rcases n with _ | n
  ·rw [F_impl_State_counts_L1] at h; cases h
  ·rw [F_impl_State_counts_L1] at h
   refine WP.sk tm [] [(True)] [(14, vb (decide (v13 < (ln x0)))), (13, vi v13), (12, vi (ln x0)), (11, vl x0), (3, vo 2009 (List.length o9)), (2, V.t (T.nils))] [(2009, oc 3 (List.map (ti) o9))] ⟨trivial, trivial⟩ ?_
   refine WP.seq ?_
   rcases ite_some h with ⟨h1, h⟩ | ⟨h1, h⟩
   ·refine WP.yes h1 rfl ?_
    refine WP.pk tm [] [] [(13, vi v13), (12, vi (ln x0)), (11, vl x0), (3, vo 2009 (List.length o9)), (2, V.t (T.nils))] [(2009, oc 3 (List.map (ti) o9))] trivial ?_
    refine WP.seq ?_
    refine WP.block ?_
    refine WP.seq ?_
    obtain ⟨c2, h⟩ := chk_some h
    refine WP.pk tm [(16, An.v (ti (gt x0 v13 0)))] [((0 ≤ v13 ∧ v13 < (ln x0))), ((List.drop ((Int.toNat v13) * 1) (List.map (ti) x0) : List T)[0]? = some (ti (gt x0 v13 0))), (ti (gt x0 v13 0) = ti (gt x0 v13 0))] [(5, vi (gt x0 v13 0)), (13, vi v13), (12, vi (ln x0)), (11, vl x0), (3, vo 2009 (List.length o9)), (2, V.t (T.nils))] [(2009, oc 3 (List.map (ti) o9))] ⟨c2, at1 (by simp) (by omega), rfl, trivial⟩ ?_
    refine WP.sk tm [] [(True)] [(18, vb (decide ((gt x0 v13 0) ≥ (0 : Int)))), (5, vi (gt x0 v13 0)), (13, vi v13), (12, vi (ln x0)), (11, vl x0), (3, vo 2009 (List.length o9)), (2, V.t (T.nils))] [(2009, oc 3 (List.map (ti) o9))] ⟨trivial, trivial⟩ ?_
    rcases ite_some h with ⟨h2, h⟩ | ⟨h2, h⟩
    ·refine WP.yes h2 rfl ?_
     obtain ⟨c3, h⟩ := chk_some h
     obtain ⟨c4, h⟩ := chk_some h
     obtain ⟨n23, c5, h⟩ := nam_some h
     refine WP.path tab_ok mixed [(22, An.v (ti (List.getD o9 (Int.toNat (List.getD x0 (Int.toNat v13) 0)) 0))), (23, An.v (ti n23))] [.keep [13, 12, 11, 3, 2], .keepO [2009]] (ps := [((0 ≤ (List.getD x0 (Int.toNat v13) 0) ∧ (List.getD x0 (Int.toNat v13) 0) < ((List.length o9 : Nat) : Int))), ((List.map (T.int .i64) o9 : List T)[(Int.toNat (List.getD x0 (Int.toNat v13) 0)) * 1]? = some (ti (List.getD o9 (Int.toNat (List.getD x0 (Int.toNat v13) 0)) 0))), (ti (List.getD o9 (Int.toNat (List.getD x0 (Int.toNat v13) 0)) 0) = ti (List.getD o9 (Int.toNat (List.getD x0 (Int.toNat v13) 0)) 0)), (True), (T.int .i64 (IntKind.wrap .i64 ((List.getD o9 (Int.toNat (List.getD x0 (Int.toNat v13) 0)) 0) + (1 : Int))) = ti n23), ((0 ≤ (List.getD x0 (Int.toNat v13) 0) ∧ (List.getD x0 (Int.toNat v13) 0) < ((List.length o9 : Nat) : Int))), ((Int.toNat (List.getD x0 (Int.toNat v13) 0)) * 1 < List.length (List.map (T.int .i64) o9))]) (e := .normal) (σ' := ⟨[2009], [(13, vi v13), (12, vi ((List.length x0 : Nat) : Int)), (11, vl x0), (3, vo 2009 (List.length o9)), (2, V.t (T.nils))], [(2009, oc 3 (List.set (List.map (T.int .i64) o9) ((Int.toNat (List.getD x0 (Int.toNat v13) 0)) * 1) (ti n23)))]⟩) (by kernel_rfl) ⟨c3, atM (by simp) (by first | omega | (simp only [tlL]; omega) | (simp; omega)), rfl, trivial, Eq.trans (wrapI c4) (congrArg (ti) c5), c3, by first | decide | omega | (simp only [tlL] <;> omega) | (simp <;> omega) | (simp [] <;> omega), trivial⟩ ?_
     obtain ⟨c6, h⟩ := chk_some h
     refine WP.qk tm [(25, An.v (ti (v13 + 1)))] [(True), (wr (v13 + 1))] [(13, vi (v13 + 1)), (12, vi (ln x0)), (11, vl x0), (3, vo 2009 (List.length o9)), (2, V.t (T.nils))] [(2009, oc 3 (List.set (List.map (ti) o9) ((Int.toNat (gt x0 v13 0)) * 1) (ti n23)))] ⟨trivial, wrapI c6, trivial⟩ ?_
     exact ⟨(n, List.set o9 (Int.toNat (gt x0 v13 0)) n23, (v13 + 1)), h, Nat.lt_succ_self _, (by first | rfl | (simp only [tlS, tl, vl, vo, oc, ov, tbl, vbl, ty, vy] <;> rfl) | (simp <;> omega) | (simp []; done) | (rw [List.take_of_length_le (by simp [])] <;> rfl) | (simp [List.take_of_length_le]; done))⟩
    ·refine WP.no h2 rfl ?_
     refine WP.pk tm [] [] [(13, vi v13), (12, vi (ln x0)), (11, vl x0), (3, vo 2009 (List.length o9)), (2, V.t (T.nils))] [(2009, oc 3 (List.map (ti) o9))] trivial ?_
     obtain ⟨c3, h⟩ := chk_some h
     refine WP.qk tm [(25, An.v (ti (v13 + 1)))] [(True), (wr (v13 + 1))] [(13, vi (v13 + 1)), (12, vi (ln x0)), (11, vl x0), (3, vo 2009 (List.length o9)), (2, V.t (T.nils))] [(2009, oc 3 (List.map (ti) o9))] ⟨trivial, wrapI c3, trivial⟩ ?_
     exact ⟨(n, o9, (v13 + 1)), h, Nat.lt_succ_self _, rfl⟩
   ·refine WP.no h1 rfl ?_
    refine WP.eq tm [] 0 [] [(3, vo 2009 (List.length o9)), (2, V.t (T.nils))] [(2009, oc 3 (List.map (ti) o9))] trivial ?_
    exact ⟨(o9), h, rfl⟩
 ·intro o9 h0
  have h := (show J1 o9 = some y0 from h0)
  rw [hJ1] at h
  have h := Option.some.inj h
  subst h
  exact WP.pathG tab_ok mixed [] [.keep [2], .keepO [2009], .names [(2009, 9000)]] [9000] _ (r' := vo 9000 (List.length o9)) (ps := []) (r := vo 9000 (List.length o9)) (N := [9000]) (O := [(9000, oc 3 (List.map (ti) o9))]) [] (by kernel_rfl) trivial ⟨rfl, trivial⟩ rfl rfl (fun _ h => h)
theorem F_impl_State_counts_W_C (x0 : List Int) (x1 : Int) (y0 : List Int) (h : F_impl_State_counts x0 x1 = some y0) : C Tryz.prog 77 [T.agg [tl x0, ti x1]] (tl y0) :=
 CG.toC (ps := [(List.length (List.map (ti) y0) = (List.length y0) * 1)]) (F_impl_State_counts_W  x0 x1 y0 h) (by rfl) ⟨by first | rfl | omega | (simp <;> omega) | (simp [hl] <;> omega), trivial⟩
theorem F_impl_needer_of_W (gf0 : FuncId) (pref0 capsf0 : List T) (pf0 : (List Int) → (List Int) → Option ((List Int) × (List Int))) (hpf0 : ∀ (af0_0 : List Int) (af0_1 : List Int) (bf0_2 : List Int) (bf0_3 : List Int), pf0 af0_0 af0_1 = some (bf0_2, bf0_3) → C Tryz.prog gf0 (pref0 ++ ([tl af0_0, tl af0_1] ++ capsf0)) (T.tup [tl bf0_2, tl bf0_3])) (x0 : List (K3 × Int)) (x1 : List Int) (y0 : Int) (h : F_impl_needer_of pf0 x0 x1 = some y0) : C Tryz.prog 79 [T.agg [T.fn gf0 pref0 capsf0, mapT (mpT x0)], tl x1] (ti y0) := by
 unfold F_impl_needer_of at h
 refine C.intro (tab := tab) tab_ok (fn := Tryz.f79) Tryz.func79 (by kernel_rfl) rfl (Nat.le_of_ble_eq_true rfl) ?_
 obtain ⟨c0, h⟩ := chk_some h
 obtain ⟨g9, c1, h⟩ := nam_some h
 have h := Option.some.inj h
 subst h
 exact WP.pathW tab_ok mixed [(2, An.fz), (8, An.call (T.agg [ti (tri x1 0), ti (tri x1 1), ti (tri x1 2)])), (9, An.v (ti (Option.getD g9 (0 : Int))))] _ (ps := [(True), (C Tryz.prog 131 [tl x1] (T.agg [ti (tri x1 0), ti (tri x1 1), ti (tri x1 2)])), (∃ G, KeyRun Tryz.prog 118 G ∧ G (T.agg [ti (tri x1 0), ti (tri x1 1), ti (tri x1 2)]) ∧ ∀ x ∈ ent (mpT x0), G x.1), (List.length (List.map (·.1) (mpT x0)) = List.length (List.map (·.2) (mpT x0))), ((lookR false (ti (0 : Int)) (lookT (ent (mpT x0)) (T.agg [ti (tri x1 0), ti (tri x1 1), ti (tri x1 2)]))) = ti (Option.getD g9 (0 : Int)))]) (r := ti (Option.getD g9 (0 : Int))) (by kernel_rfl) ⟨trivial, (tripleOf_C x1 c0), ent_keys (keys_tri Tryz.underlying118 Tryz.underlying3 (by kernel_rfl) (by kernel_rfl) x0 ((tri x1 0), (tri x1 1), (tri x1 2))), ent_len _, ent_look (look_mpT c1), trivial⟩ (WkT.eq (y := ti (Option.getD g9 (0 : Int))) (WkT.refl _) rfl) (fun _ h => h)
theorem F_impl_State_hold_W (x0 : List Int) (x1 : Int) (gf0 : FuncId) (pref0 capsf0 : List T) (pf0 : (List Int) → (List Int) → Option ((List Int) × (List Int))) (hpf0 : ∀ (af0_0 : List Int) (af0_1 : List Int) (bf0_2 : List Int) (bf0_3 : List Int), pf0 af0_0 af0_1 = some (bf0_2, bf0_3) → C Tryz.prog gf0 (pref0 ++ ([tl af0_0, tl af0_1] ++ capsf0)) (T.tup [tl bf0_2, tl bf0_3])) (x2 : List (K3 × Int)) (x3 : Int) (y0 : Bool) (h : F_impl_State_hold x0 x1 pf0 x2 x3 = some y0) : C Tryz.prog 61 [T.agg [tl x0, ti x1], T.agg [T.fn gf0 pref0 capsf0, mapT (mpT x2)], ti x3] (tb y0) := by
 unfold F_impl_State_hold at h
 refine C.intro (tab := tab) tab_ok (fn := Tryz.f61) Tryz.func61 (by kernel_rfl) rfl (Nat.le_of_ble_eq_true rfl) ?_
 obtain ⟨c0, h⟩ := chk_some h
 obtain ⟨r14, c1, h⟩ := bnd1_some h
 obtain ⟨r15, c2, h⟩ := bnd1_some h
 obtain ⟨r19, c3, h⟩ := bnd1_some h
 obtain ⟨r20, c4, h⟩ := bnd1_some h
 have h := Option.some.inj h
 subst h
 exact WP.pathW tab_ok mixed [(3, An.fz), (4, An.fz), (10, An.call (T.agg [tl (ansN x1 x3 false x0), ti x1, tl (ansN x1 x3 true x0), ti x1])), (7, An.id 2007), (14, An.callG [(9000, 10140)] [V.t (T.agg [tl (ansN x1 x3 true x0), ti x1])] [] (vo 9000 (List.length r14)) [(9000, oc 3 (List.map (ti) r14))]), (15, An.call (ti r15)), (19, An.callG [(9000, 10190)] [V.t (T.agg [tl (ansN x1 x3 false x0), ti x1])] [] (vo 9000 (List.length r19)) [(9000, oc 3 (List.map (ti) r19))]), (20, An.call (ti r20))] _ (ps := [(2 ≤ 2), (C Tryz.prog 90 [T.agg [tl x0, ti x1], ti x3] (T.agg [tl (ansN x1 x3 false x0), ti x1, tl (ansN x1 x3 true x0), ti x1])), ((0 + 4 ≤ 4 ∧ 4 = 4)), (2 ≤ 2), ((0 ≤ (1 : Int) ∧ (1 : Int) < (2 : Int))), (2 + 2 ≤ 4), (CG Tryz.prog 77 [V.t (T.agg [tl (ansN x1 x3 true x0), ti x1])] [] (vo 9000 (List.length r14)) [(9000, oc 3 (List.map (ti) r14))]), (WkT (T.agg [tl (ansN x1 x3 true x0), ti x1]) (T.agg [tl (ansN x1 x3 true x0), ti x1])), (C Tryz.prog 79 [T.agg [T.fn gf0 pref0 capsf0, mapT (mpT x2)], tl r14] (ti r15)), (List.length (List.map (ti) r14) = (List.length r14) * 1), (2 ≤ 2), ((0 ≤ (0 : Int) ∧ (0 : Int) < (2 : Int))), (0 + 2 ≤ 4), (CG Tryz.prog 77 [V.t (T.agg [tl (ansN x1 x3 false x0), ti x1])] [] (vo 9000 (List.length r19)) [(9000, oc 3 (List.map (ti) r19))]), (WkT (T.agg [tl (ansN x1 x3 false x0), ti x1]) (T.agg [tl (ansN x1 x3 false x0), ti x1])), (C Tryz.prog 79 [T.agg [T.fn gf0 pref0 capsf0, mapT (mpT x2)], tl r19] (ti r20)), (List.length (List.map (ti) r19) = (List.length r19) * 1), (True)]) (r := tb (decide (r15 > r20))) (by kernel_rfl) ⟨by decide, (both_C x0 x1 x3 c0), by decide, by decide, by decide, by decide, (F_impl_State_counts_W (ansN x1 x3 true x0) x1 r14 c1), WkT.refl _, (F_impl_needer_of_W gf0 pref0 capsf0 pf0 hpf0 x2 r14 r15 c2), by first | rfl | omega | (simp only [tlL] <;> omega) | (simp <;> omega) | (simp [] <;> omega), by decide, by decide, by decide, (F_impl_State_counts_W (ansN x1 x3 false x0) x1 r19 c3), WkT.refl _, (F_impl_needer_of_W gf0 pref0 capsf0 pf0 hpf0 x2 r19 r20 c4), by first | rfl | omega | (simp only [tlL] <;> omega) | (simp <;> omega) | (simp [] <;> omega), trivial, trivial⟩ (WkT.eq (y := tb (decide (r15 > r20))) (WkT.refl _) rfl) (fun _ h => h)
theorem F_impl_HoldPlay_W (x0 : List Int) (x1 : Int) (x2 : List Int) (y0 : List Bool) (y1 : List Int) (y2 : Int) (y3 : Bool) (h : F_impl_HoldPlay x0 x1 x2 = some (y0, y1, y2, y3)) : CG Tryz.prog 11 [V.t (T.agg [tl x0, ti x1]), vl x2] [] (V.tup [vo 9000 (List.length y0), V.agg [vo 9001 (List.length y1), vi y2], vb y3]) [(9000, oc 4 (List.map T.bool y0)), (9001, oc 3 (List.map (ti) y1))] := by
 unfold F_impl_HoldPlay at h
 refine CG.intro (tab := tab) tab_ok (fn := Tryz.f11) Tryz.func11 (by kernel_rfl) rfl (Nat.le_of_ble_eq_true rfl) (by kernel_rfl) ?_
 refine WP.sk tm [(2, An.fz), (5, An.id 2005)] [] [(6, vb false), (5, V.ref 2005 0), (4, V.t (T.nils)), (2, V.t (T.ptr [tl x0, ti x1])), (1, vl x2)] [(2005, oc 26 [T.nils, ti 0])] trivial ?_
 refine WP.seq ?_
 obtain ⟨J1, hJ1, h⟩ := jn_some h
 refine WP.joinA (fun (zz : Bool) => ⟨[2005], [(22, vb zz), (6, vb false), (5, V.ref 2005 0), (4, V.t (T.nils)), (2, V.t (T.ptr [tl x0, ti x1])), (1, vl x2)], [(2005, oc 26 [T.nils, ti 0])]⟩) (fun zz => J1 zz = some (y0, y1, y2, y3)) ?_ ?_
 ·obtain ⟨r15, c0, h⟩ := bnd1_some h
  rcases ite_some h with ⟨h1, h⟩ | ⟨h1, h⟩
  ·refine WP.qk tm [(15, An.call (tb r15)), (17, An.b true)] [(2 ≤ 2), (C Tryz.prog 48 [T.agg [tl x0, ti x1], tl x2] (tb r15)), ((!r15) = true)] [(22, vb true), (6, vb false), (5, V.ref 2005 0), (4, V.t (T.nils)), (2, V.t (T.ptr [tl x0, ti x1])), (1, vl x2)] [(2005, oc 26 [T.nils, ti 0])] ⟨by decide, (F_impl_areListed_W x0 x1 x2 r15 c0), h1, trivial⟩ ?_
   exact ⟨(true), h, rfl⟩
  ·obtain ⟨c1, h⟩ := chk_some h
   refine WP.qk tm [(15, An.call (tb r15)), (17, An.b false), (19, An.callG [(9000, 10190)] [V.t (T.agg [tl x0, ti x1])] [] (vo 9000 (List.length (openN x0))) [(9000, oc 3 (List.map (ti) (openN x0)))])] [(2 ≤ 2), (C Tryz.prog 48 [T.agg [tl x0, ti x1], tl x2] (tb r15)), ((!r15) = false), (2 ≤ 2), (CG Tryz.prog 57 [V.t (T.agg [tl x0, ti x1])] [] (vo 9000 (List.length (openN x0))) [(9000, oc 3 (List.map (ti) (openN x0)))]), (WkT (T.agg [tl x0, ti x1]) (T.agg [tl x0, ti x1])), (True)] [(22, vb (decide ((ln (openN x0)) > (8 : Int)))), (6, vb false), (5, V.ref 2005 0), (4, V.t (T.nils)), (2, V.t (T.ptr [tl x0, ti x1])), (1, vl x2)] [(2005, oc 26 [T.nils, ti 0])] ⟨by decide, (F_impl_areListed_W x0 x1 x2 r15 c0), h1, by decide, (open_C_G x0 x1 c1), WkT.refl _, trivial, trivial⟩ ?_
   exact ⟨(decide ((ln (openN x0)) > (8 : Int))), h, rfl⟩
 ·intro v22 h0
  have h := (show J1 v22 = some (y0, y1, y2, y3) from h0)
  rw [hJ1] at h
  rcases ite_some h with ⟨h2, h⟩ | ⟨h2, h⟩
  ·refine WP.yes h2 rfl ?_
   simp only [Option.some.injEq, Prod.mk.injEq] at h
   obtain ⟨rfl, rfl, rfl, rfl⟩ := h
   exact WP.pathG tab_ok mixed [] [.keep [4, 5, 6], .keepO [2005], .names [(2005, 2005)]] [] _ (r' := V.tup [vo 9000 (List.length ([] : List Bool)), V.agg [vo 9001 (List.length ([] : List Int)), vi (0 : Int)], vb false]) (ps := [(True), ((0 + 2 ≤ 2 ∧ 2 = 2)), (0 + 2 ≤ 2)]) (r := V.t (T.tup [T.nils, T.agg [T.nils, ti 0], tb false])) (N := [2005]) (O := []) [(9000, 4), (9001, 3)] (by kernel_rfl) ⟨trivial, by decide, by first | decide | omega | (simp only [tlL] <;> omega) | (simp <;> omega) | (simp [] <;> omega), trivial⟩ ⟨(by first | rfl | (simp; done)), (by first | rfl | (simp; done)), (WkT.eq (WkT.refl _) (by first | rfl | (simp only [tlS, tl, vl, vo, oc, ov, tbl, vbl, ty, vy] <;> rfl) | (simp <;> omega) | (simp []; done) | (rw [List.take_of_length_le (by simp [])] <;> rfl) | (simp [List.take_of_length_le]; done))), (WkT.refl _), trivial⟩ rfl rfl (fun _ h => h)
  ·refine WP.no h2 rfl ?_
   refine WP.pk tm [] [] [(6, vb false), (5, V.ref 2005 0), (4, V.t (T.nils)), (2, V.t (T.ptr [tl x0, ti x1])), (1, vl x2)] [(2005, oc 26 [T.nils, ti 0])] trivial ?_
   refine WP.seq ?_
   obtain ⟨r24, c0, h⟩ := bnd1_some h
   refine WP.pn tm [(24, An.call (T.agg [T.fn 59 [] [], mapT (mpT r24)])), (25, An.id 2025), (7, An.id 2007)] [(C Tryz.prog 58 [T.fn 59 [] []] (T.agg [T.fn 59 [] [], mapT (mpT r24)])), (True), (0 = 0 * 1), ((0 + 2 ≤ 2 ∧ 2 = 2))] [2007, 2025, 2005] [(8, vo 2025 0), (7, V.ref 2007 0), (6, vb false), (5, V.ref 2005 0), (4, V.t (T.nils)), (2, V.t (T.ptr [tl x0, ti x1])), (1, vl x2)] [(2005, oc 26 [T.nils, ti 0]), (2007, oc 79 [T.fn 59 [] [], mapT (mpT r24)]), (2025, oc 4 [])] ⟨(F_impl_neederOf_W 59 [] [] (fun u0 u1 => F_impl_bothWays u0 u1) (fun u0 u1 w0 w1 hh => F_impl_bothWays_W_C u0 u1 w0 w1 hh) r24 c0), trivial, by decide, by decide, trivial⟩ ?_
   refine WP.seq ?_
   obtain ⟨c1, h⟩ := chk_some h
   refine WP.pn tm [(27, An.callG [(9000, 10270)] [V.t (T.agg [tl x0, ti x1]), V.t (T.fn 60 [] [])] [] (V.agg [vo 9000 (List.length (afterN x1 (fun (x : Nat) => false) x0)), vi x1]) [(9000, oc 3 (List.map (ti) (afterN x1 (fun (x : Nat) => false) x0)))]), (9, An.id 2009)] [(2 ≤ 2), (CG Tryz.prog 51 [V.t (T.agg [tl x0, ti x1]), V.t (T.fn 60 [] [])] [] (V.agg [vo 9000 (List.length (afterN x1 (fun (x : Nat) => false) x0)), vi x1]) [(9000, oc 3 (List.map (ti) (afterN x1 (fun (x : Nat) => false) x0)))]), (WkT (T.agg [tl x0, ti x1]) (T.agg [tl x0, ti x1])), (WkT (T.fn 60 [] []) (T.fn 60 [] [])), ((0 + 2 ≤ 2 ∧ 2 = 2))] [2009, 10270, 2007, 2025, 2005] [(9, V.ref 2009 0), (8, vo 2025 0), (7, V.ref 2007 0), (6, vb false), (5, V.ref 2005 0), (4, V.t (T.nils)), (1, vl x2)] [(2005, oc 26 [T.nils, ti 0]), (2007, oc 79 [T.fn 59 [] [], mapT (mpT r24)]), (2009, ov 26 [vo 10270 (List.length (afterN x1 (fun (x : Nat) => false) x0)), vi x1]), (2025, oc 4 []), (10270, oc 3 (List.map (ti) (afterN x1 (fun (x : Nat) => false) x0)))] ⟨by decide, (after_C_G x0 x1 60 [] [] (fun (x : Nat) => false) (fun x => (holdPlay1_C (x : Int))) c1), WkT.refl _, WkT.refl _, by decide, trivial⟩ ?_
   obtain ⟨J1, hJ1, h⟩ := jn_some h
   refine WP.joinA (fun (zz : (List Bool) × (List Int)) => ⟨[2005, 2009, 2025, 10270], [(9, V.ref 2009 0), (8, vo 2025 (List.length zz.1)), (6, vb false), (5, V.ref 2005 0), (4, V.t (T.nils))], [(2005, oc 26 [T.nils, ti 0]), (2009, ov 26 [vo 10270 (List.length zz.2), vi x1]), (2025, oc 4 (List.map T.bool zz.1)), (10270, oc 3 (List.map (ti) zz.2))]⟩) (fun zz => J1 zz.1 zz.2 = some (y0, y1, y2, y3)) ?_ ?_
   ·refine WP.sn tm [] [] [2009, 10270, 2007, 2025, 2005] [(30, vi 0), (29, vi (ln x2)), (28, vl x2), (9, V.ref 2009 0), (8, vo 2025 0), (7, V.ref 2007 0), (6, vb false), (5, V.ref 2005 0), (4, V.t (T.nils))] [(2005, oc 26 [T.nils, ti 0]), (2007, oc 79 [T.fn 59 [] [], mapT (mpT r24)]), (2009, ov 26 [vo 10270 (List.length (afterN x1 (fun (x : Nat) => false) x0)), vi x1]), (2025, oc 4 []), (10270, oc 3 (List.map (ti) (afterN x1 (fun (x : Nat) => false) x0)))] trivial ?_
    refine WP.block ?_
    refine WP.lp (α := Nat × (List Bool) × (List Int) × Int) (fun zz => ⟨[2005, 2007, 2009, 2025, 10270], [(30, vi zz.2.2.2), (29, vi (ln x2)), (28, vl x2), (9, V.ref 2009 0), (8, vo 2025 (List.length zz.2.1)), (7, V.ref 2007 0), (6, vb false), (5, V.ref 2005 0), (4, V.t (T.nils))], [(2005, oc 26 [T.nils, ti 0]), (2007, oc 79 [T.fn 59 [] [], mapT (mpT r24)]), (2009, ov 26 [vo 10270 (List.length zz.2.2.1), vi x1]), (2025, oc 4 (List.map T.bool zz.2.1)), (10270, oc 3 (List.map (ti) zz.2.2.1))]⟩) (fun zz => F_impl_HoldPlay_L1 x1 x2 r24 J1 zz.1 zz.2.1 zz.2.2.1 zz.2.2.2 = some (y0, y1, y2, y3)) (fun zz => zz.1) (fuel, ([] : List Bool), afterN x1 (fun (x : Nat) => false) x0, (0 : Int)) h ?_
    rintro ⟨n, o25, o10270, v30⟩ h0
    have h := (show F_impl_HoldPlay_L1 x1 x2 r24 J1 n o25 o10270 v30 = some (y0, y1, y2, y3) from h0)
    rcases n with _ | n
    ·rw [F_impl_HoldPlay_L1] at h; cases h
    ·rw [F_impl_HoldPlay_L1] at h
     refine WP.sk tm [] [(True)] [(31, vb (decide (v30 < (ln x2)))), (30, vi v30), (29, vi (ln x2)), (28, vl x2), (9, V.ref 2009 0), (8, vo 2025 (List.length o25)), (7, V.ref 2007 0), (6, vb false), (5, V.ref 2005 0), (4, V.t (T.nils))] [(2005, oc 26 [T.nils, ti 0]), (2007, oc 79 [T.fn 59 [] [], mapT (mpT r24)]), (2009, ov 26 [vo 10270 (List.length o10270), vi x1]), (2025, oc 4 (List.map T.bool o25)), (10270, oc 3 (List.map (ti) o10270))] ⟨trivial, trivial⟩ ?_
     refine WP.seq ?_
     rcases ite_some h with ⟨h3, h⟩ | ⟨h3, h⟩
     ·refine WP.yes h3 rfl ?_
      refine WP.pk tm [] [] [(30, vi v30), (29, vi (ln x2)), (28, vl x2), (9, V.ref 2009 0), (8, vo 2025 (List.length o25)), (7, V.ref 2007 0), (6, vb false), (5, V.ref 2005 0), (4, V.t (T.nils))] [(2005, oc 26 [T.nils, ti 0]), (2007, oc 79 [T.fn 59 [] [], mapT (mpT r24)]), (2009, ov 26 [vo 10270 (List.length o10270), vi x1]), (2025, oc 4 (List.map T.bool o25)), (10270, oc 3 (List.map (ti) o10270))] trivial ?_
      refine WP.seq ?_
      refine WP.block ?_
      obtain ⟨c2, h⟩ := chk_some h
      obtain ⟨r37, c3, h⟩ := bnd1_some h
      obtain ⟨c4, h⟩ := chk_some h
      obtain ⟨c5, h⟩ := chk_some h
      refine WP.pn tm [(33, An.v (ti (gt x2 v30 0))), (37, An.call (tb r37)), (40, An.fz), (41, An.id 2041), (46, An.callG [(9000, 10460)] [V.t (T.agg [tl o10270, ti x1]), V.t (T.agg [ti (gt x2 v30 0), tb r37])] [] (V.agg [vo 9000 (List.length (ansN x1 (gt x2 v30 0) r37 o10270)), vi x1]) [(9000, oc 3 (List.map (ti) (ansN x1 (gt x2 v30 0) r37 o10270)))])] [((0 ≤ v30 ∧ v30 < (ln x2))), ((List.drop ((Int.toNat v30) * 1) (List.map (ti) x2) : List T)[0]? = some (ti (gt x2 v30 0))), (ti (gt x2 v30 0) = ti (gt x2 v30 0)), (0 + 2 ≤ 2), (0 + 2 ≤ 2), (C Tryz.prog 61 [T.agg [tl o10270, ti x1], T.agg [T.fn 59 [] [], mapT (mpT r24)], ti (gt x2 v30 0)] (tb r37)), (List.length (List.map (ti) o10270) = (List.length o10270) * 1), ((1 = 1 ∧ 0 + 1 ≤ 1) ∧ True), (1 = 1 * 1), (True), (List.length (List.map T.bool o25) = (List.length o25) * 1), ((((List.length o25) + 1) * 1 ≤ 140737488355328 ∧ (List.length o25) + 1 ≤ maxLen)), (0 + 2 ≤ 2), ((1 = 1 ∧ 0 + 1 ≤ 2) ∧ (1 = 1 ∧ 1 + 1 ≤ 2) ∧ True), (CG Tryz.prog 62 [V.t (T.agg [tl o10270, ti x1]), V.t (T.agg [ti (gt x2 v30 0), tb r37])] [] (V.agg [vo 9000 (List.length (ansN x1 (gt x2 v30 0) r37 o10270)), vi x1]) [(9000, oc 3 (List.map (ti) (ansN x1 (gt x2 v30 0) r37 o10270)))]), ((V.agg [vo 9000 (List.length (ansN x1 (gt x2 v30 0) r37 o10270)), vi x1]).flat = true), (flatO [(9000, oc 3 (List.map (ti) (ansN x1 (gt x2 v30 0) r37 o10270)))] = true), (List.length (List.map (ti) o10270) = (List.length o10270) * 1), (WkT (T.agg [tl o10270, ti x1]) (T.agg [tl o10270, ti x1])), (WkT (T.agg [ti (gt x2 v30 0), tb r37]) (T.agg [ti (gt x2 v30 0), tb r37])), ((0 + 2 ≤ 2 ∧ 2 = 2))] [10460, 2041, 2005, 2007, 2009, 2025, 10270] [(8, vo 2041 ((List.length o25) + 1)), (30, vi v30), (29, vi (ln x2)), (28, vl x2), (9, V.ref 2009 0), (7, V.ref 2007 0), (6, vb false), (5, V.ref 2005 0), (4, V.t (T.nils))] [(2005, oc 26 [T.nils, ti 0]), (2007, oc 79 [T.fn 59 [] [], mapT (mpT r24)]), (2009, ov 26 [vo 10460 (List.length (ansN x1 (gt x2 v30 0) r37 o10270)), vi x1]), (2041, oc 4 ((List.map T.bool o25) ++ [tb r37])), (10460, oc 3 (List.map (ti) (ansN x1 (gt x2 v30 0) r37 o10270)))] ⟨c2, at1 (by simp) (by omega), rfl, by decide, by decide, (F_impl_State_hold_W o10270 x1 59 [] [] (fun u0 u1 => F_impl_bothWays u0 u1) (fun u0 u1 w0 w1 hh => F_impl_bothWays_W_C u0 u1 w0 w1 hh) r24 (gt x2 v30 0) r37 c3), by first | rfl | omega | (simp only [tlL] <;> omega) | (simp <;> omega) | (simp [] <;> omega), ⟨⟨by first | rfl | (simp; done) | (simp []; done) | omega, by first | decide | (simp; done) | (simp []; done) | omega | (simp only [tlL]; omega) | (simp; omega)⟩, trivial⟩, by decide, trivial, by first | rfl | omega | (simp only [tlL] <;> omega) | (simp <;> omega) | (simp [] <;> omega), c4, by decide, ⟨⟨by first | rfl | (simp; done) | (simp []; done) | omega, by first | decide | (simp; done) | (simp []; done) | omega | (simp only [tlL]; omega) | (simp; omega)⟩, ⟨by first | rfl | (simp; done) | (simp []; done) | omega, by first | decide | (simp; done) | (simp []; done) | omega | (simp only [tlL]; omega) | (simp; omega)⟩, trivial⟩, (answered_C_G o10270 x1 (gt x2 v30 0) r37 c5), by rfl, by first | rfl | (simp [flatO, Tl.Obj.flat, V.flats, V.flat, T.flats, T.flat, flats_app, flats_int, flats_bool, flats_str, flats_node, flats_asked]; done), by first | rfl | omega | (simp only [tlL] <;> omega) | (simp <;> omega) | (simp [] <;> omega), WkT.refl _, WkT.refl _, by decide, trivial⟩ ?_
      obtain ⟨c6, h⟩ := chk_some h
      refine WP.nk tm [(47, An.v (ti (v30 + 1)))] [(2005, 2005), (2007, 2007), (2009, 2009), (2041, 2025), (10460, 10270)] .normal [(True), (wr (v30 + 1))] [(30, vi (v30 + 1)), (29, vi (ln x2)), (28, vl x2), (9, V.ref 2009 0), (8, vo 2025 ((List.length o25) + 1)), (7, V.ref 2007 0), (6, vb false), (5, V.ref 2005 0), (4, V.t (T.nils))] [(2005, oc 26 [T.nils, ti 0]), (2007, oc 79 [T.fn 59 [] [], mapT (mpT r24)]), (2009, ov 26 [vo 10270 (List.length (ansN x1 (gt x2 v30 0) r37 o10270)), vi x1]), (2025, oc 4 ((List.map T.bool o25) ++ [tb r37])), (10270, oc 3 (List.map (ti) (ansN x1 (gt x2 v30 0) r37 o10270)))] ⟨trivial, wrapI c6, trivial⟩ ?_
      exact ⟨(n, o25 ++ [r37], ansN x1 (gt x2 v30 0) r37 o10270, (v30 + 1)), h, Nat.lt_succ_self _, (by first | rfl | (simp only [tlS, tl, vl, vo, oc, ov, tbl, vbl, ty, vy] <;> rfl) | (simp <;> omega) | (simp []; done) | (rw [List.take_of_length_le (by simp [])] <;> rfl) | (simp [List.take_of_length_le]; done))⟩
     ·refine WP.no h3 rfl ?_
      refine WP.eq tm [] 0 [] [(9, V.ref 2009 0), (8, vo 2025 (List.length o25)), (6, vb false), (5, V.ref 2005 0), (4, V.t (T.nils))] [(2005, oc 26 [T.nils, ti 0]), (2009, ov 26 [vo 10270 (List.length o10270), vi x1]), (2025, oc 4 (List.map T.bool o25)), (10270, oc 3 (List.map (ti) o10270))] trivial ?_
      exact ⟨(o25, o10270), h, rfl⟩
   ·rintro ⟨o25, o10270⟩ h0
    have h := (show J1 o25 o10270 = some (y0, y1, y2, y3) from h0)
    rw [hJ1] at h
    simp only [Option.some.injEq, Prod.mk.injEq] at h
    obtain ⟨rfl, rfl, rfl, rfl⟩ := h
    exact WP.pathG tab_ok mixed [] [.keep [4, 5, 6], .keepO [2025, 10270, 2005], .names [(2025, 9000), (10270, 9001), (2005, 2005)]] [9000, 9001] _ (r' := V.tup [vo 9000 (List.length o25), V.agg [vo 9001 (List.length o10270), vi x1], vb true]) (ps := [(0 + 2 ≤ 2), ((0 + 2 ≤ 2 ∧ 2 = 2)), (0 + 2 ≤ 2)]) (r := V.tup [vo 9000 (List.length o25), V.agg [vo 9001 (List.length o10270), vi x1], vb true]) (N := [9000, 9001, 2005]) (O := [(9000, oc 4 (List.map T.bool o25)), (9001, oc 3 (List.map (ti) o10270))]) [] (by kernel_rfl) ⟨by decide, by decide, by decide, trivial⟩ ⟨rfl, rfl, (WkT.refl _), (WkT.refl _), trivial⟩ rfl rfl (fun _ h => h)
theorem F_impl_HoldPlay_W_C (x0 : List Int) (x1 : Int) (x2 : List Int) (y0 : List Bool) (y1 : List Int) (y2 : Int) (y3 : Bool) (h : F_impl_HoldPlay x0 x1 x2 = some (y0, y1, y2, y3)) : C Tryz.prog 11 [T.agg [tl x0, ti x1], tl x2] (T.tup [tbl y0, T.agg [tl y1, ti y2], tb y3]) :=
 CG.toC (ps := [(List.length (List.map T.bool y0) = (List.length y0) * 1), (List.length (List.map (ti) y1) = (List.length y1) * 1)]) (F_impl_HoldPlay_W  x0 x1 x2 y0 y1 y2 y3 h) (by rfl) ⟨by first | rfl | omega | (simp <;> omega) | (simp [hl] <;> omega), by first | rfl | omega | (simp <;> omega) | (simp [hl] <;> omega), trivial⟩
theorem F_spec_l2Open_W (x0 : List Int) (x1 : Int) (y0 : List Int) (h : F_spec_l2Open x0 x1 = some y0) : CG Tryz.prog 63 [V.t (T.agg [tl x0, ti x1])] [] (vo 9000 (List.length y0)) [(9000, oc 3 (List.map (ti) y0))] := by
 unfold F_spec_l2Open at h
 refine CG.intro (tab := tab) tab_ok (fn := Tryz.f63) Tryz.func63 (by kernel_rfl) rfl (Nat.le_of_ble_eq_true rfl) (by kernel_rfl) ?_
 refine WP.sk tm [(1, An.fz)] [] [(2, V.t (T.nils)), (1, V.t (T.ptr [tl x0, ti x1]))] [] trivial ?_
 refine WP.sk tm [(5, An.id 2005)] [(True), (0 = 0 * 1)] [(3, vo 2005 0), (2, V.t (T.nils)), (1, V.t (T.ptr [tl x0, ti x1]))] [(2005, oc 3 [])] ⟨trivial, by decide, trivial⟩ ?_
 obtain ⟨J1, hJ1, h⟩ := jn_some h
 refine WP.joinA (fun (zz : (List Int)) => ⟨[2005], [(3, vo 2005 (List.length zz)), (2, V.t (T.nils))], [(2005, oc 3 (List.map (ti) zz))]⟩) (fun zz => J1 zz = some y0) ?_ ?_
 ·refine WP.sk tm [] [] [(4, vi 0), (3, vo 2005 0), (2, V.t (T.nils)), (1, V.t (T.ptr [tl x0, ti x1]))] [(2005, oc 3 [])] trivial ?_
  refine WP.block ?_
  refine WP.lp (α := Nat × (List Int) × Int) (fun zz => ⟨[2005], [(4, vi zz.2.2), (3, vo 2005 (List.length zz.2.1)), (2, V.t (T.nils)), (1, V.t (T.ptr [tl x0, ti x1]))], [(2005, oc 3 (List.map (ti) zz.2.1))]⟩) (fun zz => F_spec_l2Open_L1 x0 J1 zz.1 zz.2.1 zz.2.2 = some y0) (fun zz => zz.1) (fuel, ([] : List Int), (0 : Int)) h ?_
  rintro ⟨n, o5, v4⟩ h0
  have h := (show F_spec_l2Open_L1 x0 J1 n o5 v4 = some y0 from h0)
  rcases n with _ | n
  ·rw [F_spec_l2Open_L1] at h; cases h
  ·rw [F_spec_l2Open_L1] at h
   refine WP.seq ?_
   refine WP.sk tm [] [(True), (True)] [(10, vb (decide (v4 < (ln x0)))), (4, vi v4), (3, vo 2005 (List.length o5)), (2, V.t (T.nils)), (1, V.t (T.ptr [tl x0, ti x1]))] [(2005, oc 3 (List.map (ti) o5))] ⟨trivial, trivial, trivial⟩ ?_
   rcases ite_some h with ⟨h1, h⟩ | ⟨h1, h⟩
   ·refine WP.yes h1 rfl ?_
    refine WP.pk tm [] [] [(4, vi v4), (3, vo 2005 (List.length o5)), (2, V.t (T.nils)), (1, V.t (T.ptr [tl x0, ti x1]))] [(2005, oc 3 (List.map (ti) o5))] trivial ?_
    refine WP.seq ?_
    refine WP.block ?_
    refine WP.seq ?_
    obtain ⟨c0, h⟩ := chk_some h
    refine WP.pk tm [(17, An.v (ti (gt x0 v4 0)))] [(True), ((0 ≤ v4 ∧ v4 < (ln x0))), ((List.drop ((Int.toNat v4) * 1) (List.map (ti) x0) : List T)[0]? = some (ti (gt x0 v4 0))), (ti (gt x0 v4 0) = ti (gt x0 v4 0)), (True)] [(18, vb (decide ((gt x0 v4 0) ≥ (0 : Int)))), (4, vi v4), (3, vo 2005 (List.length o5)), (2, V.t (T.nils)), (1, V.t (T.ptr [tl x0, ti x1]))] [(2005, oc 3 (List.map (ti) o5))] ⟨trivial, c0, at1 (by simp) (by omega), rfl, trivial, trivial⟩ ?_
    rcases ite_some h with ⟨h2, h⟩ | ⟨h2, h⟩
    ·refine WP.yes h2 rfl ?_
     obtain ⟨c1, h⟩ := chk_some h
     refine WP.pn tm [(21, An.fz), (22, An.id 2022)] [((1 = 1 ∧ 0 + 1 ≤ 1) ∧ True), (1 = 1 * 1), (True), (List.length (List.map (ti) o5) = (List.length o5) * 1), ((((List.length o5) + 1) * 8 ≤ 140737488355328 ∧ (List.length o5) + 1 ≤ maxLen))] [2022, 2005] [(3, vo 2022 ((List.length o5) + 1)), (4, vi v4), (2, V.t (T.nils)), (1, V.t (T.ptr [tl x0, ti x1]))] [(2022, oc 3 ((List.map (ti) o5) ++ [ti v4]))] ⟨⟨⟨by first | rfl | (simp; done) | (simp []; done) | omega, by first | decide | (simp; done) | (simp []; done) | omega | (simp only [tlL]; omega) | (simp; omega)⟩, trivial⟩, by decide, trivial, by first | rfl | omega | (simp only [tlL] <;> omega) | (simp <;> omega) | (simp [] <;> omega), c1, trivial⟩ ?_
     obtain ⟨c2, h⟩ := chk_some h
     refine WP.nk tm [(12, An.v (ti (v4 + 1)))] [(2022, 2005)] .normal [(True), (wr (v4 + 1))] [(4, vi (v4 + 1)), (3, vo 2005 ((List.length o5) + 1)), (2, V.t (T.nils)), (1, V.t (T.ptr [tl x0, ti x1]))] [(2005, oc 3 ((List.map (ti) o5) ++ [ti v4]))] ⟨trivial, wrapI c2, trivial⟩ ?_
     exact ⟨(n, o5 ++ [v4], (v4 + 1)), h, Nat.lt_succ_self _, (by first | rfl | (simp only [tlS, tl, vl, vo, oc, ov, tbl, vbl, ty, vy] <;> rfl) | (simp <;> omega) | (simp []; done) | (rw [List.take_of_length_le (by simp [])] <;> rfl) | (simp [List.take_of_length_le]; done))⟩
    ·refine WP.no h2 rfl ?_
     refine WP.pk tm [] [] [(4, vi v4), (3, vo 2005 (List.length o5)), (2, V.t (T.nils)), (1, V.t (T.ptr [tl x0, ti x1]))] [(2005, oc 3 (List.map (ti) o5))] trivial ?_
     obtain ⟨c1, h⟩ := chk_some h
     refine WP.qk tm [(12, An.v (ti (v4 + 1)))] [(True), (wr (v4 + 1))] [(4, vi (v4 + 1)), (3, vo 2005 (List.length o5)), (2, V.t (T.nils)), (1, V.t (T.ptr [tl x0, ti x1]))] [(2005, oc 3 (List.map (ti) o5))] ⟨trivial, wrapI c1, trivial⟩ ?_
     exact ⟨(n, o5, (v4 + 1)), h, Nat.lt_succ_self _, rfl⟩
   ·refine WP.no h1 rfl ?_
    refine WP.eq tm [] 0 [] [(3, vo 2005 (List.length o5)), (2, V.t (T.nils))] [(2005, oc 3 (List.map (ti) o5))] trivial ?_
    exact ⟨(o5), h, rfl⟩
 ·intro o5 h0
  have h := (show J1 o5 = some y0 from h0)
  rw [hJ1] at h
  have h := Option.some.inj h
  subst h
  exact WP.pathG tab_ok mixed [] [.keep [2], .keepO [2005], .names [(2005, 9000)]] [9000] _ (r' := vo 9000 (List.length o5)) (ps := []) (r := vo 9000 (List.length o5)) (N := [9000]) (O := [(9000, oc 3 (List.map (ti) o5))]) [] (by kernel_rfl) trivial ⟨rfl, trivial⟩ rfl rfl (fun _ h => h)
theorem F_spec_l2Open_W_C (x0 : List Int) (x1 : Int) (y0 : List Int) (h : F_spec_l2Open x0 x1 = some y0) : C Tryz.prog 63 [T.agg [tl x0, ti x1]] (tl y0) :=
 CG.toC (ps := [(List.length (List.map (ti) y0) = (List.length y0) * 1)]) (F_spec_l2Open_W  x0 x1 y0 h) (by rfl) ⟨by first | rfl | omega | (simp <;> omega) | (simp [hl] <;> omega), trivial⟩
theorem F_spec_l4Counted_W (x0 : Int) (x1 : Int) (y0 : List Int) (h : F_spec_l4Counted x0 x1 = some y0) : CG Tryz.prog 116 [vi x0, vi x1] [] (vo 9000 (List.length y0)) [(9000, oc 3 (List.map (ti) y0))] := by
 unfold F_spec_l4Counted at h
 refine CG.intro (tab := tab) tab_ok (fn := Tryz.f116) Tryz.func116 (by kernel_rfl) rfl (Nat.le_of_ble_eq_true rfl) (by kernel_rfl) ?_
 refine WP.sk tm [] [] [(4, V.t (T.nils)), (0, vi x0), (1, vi x1)] [] trivial ?_
 refine WP.seq ?_
 obtain ⟨c0, h⟩ := chk_some h
 refine WP.pk tm [(8, An.id 2008)] [((0 ≤ x1 ∧ x1 ≤ x1 ∧ (8 : Int) * x1 ≤ 281474976710656 ∧ x1 ≤ (maxLen : Int)))] [(5, vo 2008 (Int.toNat x1)), (4, V.t (T.nils)), (0, vi x0), (1, vi x1)] [(2008, oc 3 (List.replicate (Int.toNat x1) (ti 0)))] ⟨c0, trivial⟩ ?_
 obtain ⟨J1, hJ1, h⟩ := jn_some h
 refine WP.joinA (fun (zz : (List Int)) => ⟨[2008], [(5, vo 2008 (List.length zz)), (4, V.t (T.nils))], [(2008, oc 3 (List.map (ti) zz))]⟩) (fun zz => J1 zz = some y0) ?_ ?_
 ·refine WP.seq ?_
  obtain ⟨c1, h⟩ := chk_some h
  refine WP.pk tm [(10, An.v (ti (x1 - 1)))] [(True), (wr (x1 - 1))] [(6, vi (x1 - 1)), (5, vo 2008 (Int.toNat x1)), (4, V.t (T.nils)), (0, vi x0)] [(2008, oc 3 (List.replicate (Int.toNat x1) (ti 0)))] ⟨trivial, wrapI c1, trivial⟩ ?_
  refine WP.block ?_
  refine WP.wk [.keep [6, 5, 4, 0], .keepO [2008], .names [(2008, 2008)]] (σ' := ⟨[2008], [(6, vi (x1 - 1)), (5, vo 2008 (Int.toNat x1)), (4, V.t (T.nils)), (0, vi x0)], [(2008, oc 3 (List.replicate (Int.toNat x1) (ti 0)))]⟩) (ps := []) (by kernel_rfl) trivial ?_
  refine WP.st (σ' := ⟨[2008], [(6, vi (x1 - 1)), (5, vo 2008 (List.length (List.replicate (Int.toNat x1) (0 : Int)))), (4, V.t (T.nils)), (0, vi x0)], [(2008, oc 3 (List.map (ti) (List.replicate (Int.toNat x1) (0 : Int))))]⟩) (by simp <;> omega) ?_
  refine WP.loop (α := Nat × (List Int) × Int × Int) (fun zz => ⟨[2008], [(6, vi zz.2.2.1), (5, vo 2008 (List.length zz.2.1)), (4, V.t (T.nils)), (0, vi zz.2.2.2)], [(2008, oc 3 (List.map (T.int .i64) zz.2.1))]⟩) (fun zz => F_spec_l4Counted_L1 J1 zz.1 zz.2.1 zz.2.2.1 zz.2.2.2 = some y0) (fun zz => zz.1) (fuel, List.replicate (Int.toNat x1) (0 : Int), (x1 - (1 : Int)), x0) h ?_
  rintro ⟨n, o8, v6, v0⟩ h0
  have h := (show F_spec_l4Counted_L1 J1 n o8 v6 v0 = some y0 from h0)
  rcases n with _ | n
  ·rw [F_spec_l4Counted_L1] at h; cases h
  ·rw [F_spec_l4Counted_L1] at h
   refine WP.seq ?_
   refine WP.sk tm [] [(True)] [(12, vb (decide (v6 ≥ (0 : Int)))), (6, vi v6), (5, vo 2008 (List.length o8)), (4, V.t (T.nils)), (0, vi v0)] [(2008, oc 3 (List.map (ti) o8))] ⟨trivial, trivial⟩ ?_
   rcases ite_some h with ⟨h1, h⟩ | ⟨h1, h⟩
   ·refine WP.yes h1 rfl ?_
    refine WP.pk tm [] [] [(6, vi v6), (5, vo 2008 (List.length o8)), (4, V.t (T.nils)), (0, vi v0)] [(2008, oc 3 (List.map (ti) o8))] trivial ?_
    refine WP.seq ?_
    refine WP.block ?_
    obtain ⟨c2, h⟩ := chk_some h
    obtain ⟨c3, h⟩ := chk_some h
    refine WP.pk tm [(21, An.v (ti (Int.tdiv v0 (9 : Int))))] [((9 : Int) ≠ 0), ((0 ≤ v6 ∧ v6 < (ln o8))), ((Int.toNat v6) * 1 < List.length (List.map (ti) o8)), ((9 : Int) ≠ 0), (wr (Int.tdiv v0 (9 : Int)))] [(0, vi (Int.tdiv v0 (9 : Int))), (6, vi v6), (5, vo 2008 (List.length o8)), (4, V.t (T.nils))] [(2008, oc 3 (List.set (List.map (ti) o8) ((Int.toNat v6) * 1) (ti (Int.tmod v0 (9 : Int)))))] ⟨by decide, c2, by first | decide | omega | (simp only [tlL] <;> omega) | (simp <;> omega) | (simp [] <;> omega), (show (9 : Int) ≠ 0 by first | decide | (simp only [maxLen]; omega) | (unfold I64; omega) | (unfold I64; decide)), quo_told c3, trivial⟩ ?_
    obtain ⟨c4, h⟩ := chk_some h
    refine WP.qk tm [(14, An.v (ti (v6 - 1)))] [(True), (wr (v6 - 1))] [(6, vi (v6 - 1)), (5, vo 2008 (List.length o8)), (4, V.t (T.nils)), (0, vi (Int.tdiv v0 (9 : Int)))] [(2008, oc 3 (List.set (List.map (ti) o8) ((Int.toNat v6) * 1) (ti (Int.tmod v0 (9 : Int)))))] ⟨trivial, wrapI c4, trivial⟩ ?_
    exact ⟨(n, List.set o8 (Int.toNat v6) (Int.tmod v0 (9 : Int)), (v6 - 1), (Int.tdiv v0 (9 : Int))), h, Nat.lt_succ_self _, (by first | rfl | (simp only [tlS, tl, vl, vo, oc, ov, tbl, vbl, ty, vy] <;> rfl) | (simp <;> omega) | (simp []; done) | (rw [List.take_of_length_le (by simp [])] <;> rfl) | (simp [List.take_of_length_le]; done))⟩
   ·refine WP.no h1 rfl ?_
    refine WP.eq tm [] 0 [] [(5, vo 2008 (List.length o8)), (4, V.t (T.nils))] [(2008, oc 3 (List.map (ti) o8))] trivial ?_
    exact ⟨(o8), h, rfl⟩
 ·intro o8 h0
  have h := (show J1 o8 = some y0 from h0)
  rw [hJ1] at h
  have h := Option.some.inj h
  subst h
  exact WP.pathG tab_ok mixed [] [.keep [4], .keepO [2008], .names [(2008, 9000)]] [9000] _ (r' := vo 9000 (List.length o8)) (ps := []) (r := vo 9000 (List.length o8)) (N := [9000]) (O := [(9000, oc 3 (List.map (ti) o8))]) [] (by kernel_rfl) trivial ⟨rfl, trivial⟩ rfl rfl (fun _ h => h)
theorem F_spec_l4Counted_W_C (x0 : Int) (x1 : Int) (y0 : List Int) (h : F_spec_l4Counted x0 x1 = some y0) : C Tryz.prog 116 [ti x0, ti x1] (tl y0) :=
 CG.toC (ps := [(List.length (List.map (ti) y0) = (List.length y0) * 1)]) (F_spec_l4Counted_W  x0 x1 y0 h) (by rfl) ⟨by first | rfl | omega | (simp <;> omega) | (simp [hl] <;> omega), trivial⟩
theorem F_spec_l4Told_W (x0 : List Int) (y0 : Bool) (h : F_spec_l4Told x0 = some y0) : C Tryz.prog 117 [tl x0] (tb y0) := by
 unfold F_spec_l4Told at h
 refine C.intro (tab := tab) tab_ok (fn := Tryz.f117) Tryz.func117 (by kernel_rfl) rfl (Nat.le_of_ble_eq_true rfl) ?_
 refine WP.sk tm [] [] [(2, vb false), (0, vl x0)] [] trivial ?_
 refine WP.sk tm [] [] [(3, vi 0), (2, vb false), (0, vl x0)] [] trivial ?_
 obtain ⟨J1, hJ1, h⟩ := jn_some h
 refine WP.joinA (fun (zz : Int) => ⟨[], [(3, vi zz), (2, vb false)], []⟩) (fun zz => J1 zz = some y0) ?_ ?_
 ·refine WP.sk tm [] [] [(4, vi 0), (3, vi 0), (2, vb false), (0, vl x0)] [] trivial ?_
  refine WP.block ?_
  refine WP.lp (α := Nat × Int × Int) (fun zz => ⟨[], [(4, vi zz.2.1), (3, vi zz.2.2), (2, vb false), (0, vl x0)], []⟩) (fun zz => F_spec_l4Told_L1 x0 J1 zz.1 zz.2.1 zz.2.2 = some y0) (fun zz => zz.1) (fuel, (0 : Int), (0 : Int)) h ?_
  rintro ⟨n, v4, v3⟩ h0
  have h := (show F_spec_l4Told_L1 x0 J1 n v4 v3 = some y0 from h0)
  rcases n with _ | n
  ·rw [F_spec_l4Told_L1] at h; cases h
  ·rw [F_spec_l4Told_L1] at h
   refine WP.seq ?_
   refine WP.sk tm [] [(True)] [(8, vb (decide (v4 < (ln x0)))), (4, vi v4), (3, vi v3), (2, vb false), (0, vl x0)] [] ⟨trivial, trivial⟩ ?_
   rcases ite_some h with ⟨h1, h⟩ | ⟨h1, h⟩
   ·refine WP.yes h1 rfl ?_
    refine WP.pk tm [] [] [(4, vi v4), (3, vi v3), (2, vb false), (0, vl x0)] [] trivial ?_
    refine WP.seq ?_
    refine WP.block ?_
    obtain ⟨c0, h⟩ := chk_some h
    obtain ⟨c1, h⟩ := chk_some h
    refine WP.pk tm [(15, An.v (ti (gt x0 v4 0))), (16, An.v (ti (v3 + (gt x0 v4 0))))] [((0 ≤ v4 ∧ v4 < (ln x0))), ((List.drop ((Int.toNat v4) * 1) (List.map (ti) x0) : List T)[0]? = some (ti (gt x0 v4 0))), (ti (gt x0 v4 0) = ti (gt x0 v4 0)), (True), (wr (v3 + (gt x0 v4 0)))] [(3, vi (v3 + (gt x0 v4 0))), (4, vi v4), (2, vb false), (0, vl x0)] [] ⟨c0, at1 (by simp) (by omega), rfl, trivial, wrapI c1, trivial⟩ ?_
    obtain ⟨c2, h⟩ := chk_some h
    refine WP.qk tm [(10, An.v (ti (v4 + 1)))] [(True), (wr (v4 + 1))] [(4, vi (v4 + 1)), (3, vi (v3 + (gt x0 v4 0))), (2, vb false), (0, vl x0)] [] ⟨trivial, wrapI c2, trivial⟩ ?_
    exact ⟨(n, (v4 + 1), (v3 + (gt x0 v4 0))), h, Nat.lt_succ_self _, rfl⟩
   ·refine WP.no h1 rfl ?_
    refine WP.eq tm [] 0 [] [(3, vi v3), (2, vb false)] [] trivial ?_
    exact ⟨(v3), h, rfl⟩
 ·intro v3 h0
  have h := (show J1 v3 = some y0 from h0)
  rw [hJ1] at h
  have h := Option.some.inj h
  subst h
  exact WP.pathW tab_ok mixed [] _ (ps := [(True)]) (r := tb (decide (v3 ≤ (1 : Int)))) (by kernel_rfl) ⟨trivial, trivial⟩ (WkT.eq (y := tb (decide (v3 ≤ (1 : Int)))) (WkT.refl _) rfl) (fun _ h => h)
theorem F_spec_l4Counts_W (x0 : List Int) (y0 : Bool) (h : F_spec_l4Counts x0 = some y0) : C Tryz.prog 118 [tl x0] (tb y0) := by
 unfold F_spec_l4Counts at h
 refine C.intro (tab := tab) tab_ok (fn := Tryz.f118) Tryz.func118 (by kernel_rfl) rfl (Nat.le_of_ble_eq_true rfl) ?_
 refine WP.sk tm [] [] [(2, vb false), (0, vl x0)] [] trivial ?_
 refine WP.seq ?_
 refine WP.sk tm [(7, An.call (tb (decide ((ln x0) ≥ (1 : Int)) && decide ((ln x0) ≤ (3 : Int)))))] [(C Tryz.prog 101 [ti (ln x0), ti 1, ti 3] (tb (decide ((ln x0) ≥ (1 : Int)) && decide ((ln x0) ≤ (3 : Int)))))] [(8, vb (!(decide ((ln x0) ≥ (1 : Int)) && decide ((ln x0) ≤ (3 : Int))))), (2, vb false), (0, vl x0)] [] ⟨(by have hh := (l1In_C (ln x0) (1 : Int) (3 : Int)); first | exact hh | simpa using hh), trivial⟩ ?_
 rcases ite_some h with ⟨h1, h⟩ | ⟨h1, h⟩
 ·refine WP.yes h1 rfl ?_
  have h := Option.some.inj h
  subst h
  exact WP.pathW tab_ok mixed [] _ (ps := []) (r := tb false) (by kernel_rfl) trivial (WkT.eq (y := tb false) (WkT.refl _) rfl) (fun _ h => h)
 ·refine WP.no h1 rfl ?_
  refine WP.pk tm [] [] [(2, vb false), (0, vl x0)] [] trivial ?_
  refine WP.sk tm [] [] [(3, vi 0), (2, vb false), (0, vl x0)] [] trivial ?_
  obtain ⟨J1, hJ1, h⟩ := jn_some h
  refine WP.joinA (fun (zz : Int) => ⟨[], [(3, vi zz), (2, vb false)], []⟩) (fun zz => J1 zz = some y0) ?_ ?_
  ·refine WP.sk tm [] [] [(4, vi 0), (3, vi 0), (2, vb false), (0, vl x0)] [] trivial ?_
   refine WP.block ?_
   refine WP.lp (α := Nat × Int × Int) (fun zz => ⟨[], [(4, vi zz.2.1), (3, vi zz.2.2), (2, vb false), (0, vl x0)], []⟩) (fun zz => F_spec_l4Counts_L1 x0 J1 zz.1 zz.2.1 zz.2.2 = some y0) (fun zz => zz.1) (fuel, (0 : Int), (0 : Int)) h ?_
   rintro ⟨n, v4, v3⟩ h0
   have h := (show F_spec_l4Counts_L1 x0 J1 n v4 v3 = some y0 from h0)
   rcases n with _ | n
   ·rw [F_spec_l4Counts_L1] at h; cases h
   ·rw [F_spec_l4Counts_L1] at h
    refine WP.seq ?_
    refine WP.sk tm [] [(True)] [(12, vb (decide (v4 < (ln x0)))), (4, vi v4), (3, vi v3), (2, vb false), (0, vl x0)] [] ⟨trivial, trivial⟩ ?_
    rcases ite_some h with ⟨h2, h⟩ | ⟨h2, h⟩
    ·refine WP.yes h2 rfl ?_
     refine WP.pk tm [] [] [(4, vi v4), (3, vi v3), (2, vb false), (0, vl x0)] [] trivial ?_
     refine WP.seq ?_
     refine WP.block ?_
     refine WP.seq ?_
     refine WP.seq ?_
     obtain ⟨c0, h⟩ := chk_some h
     refine WP.pk tm [(18, An.v (ti (gt x0 v4 0))), (19, An.call (tb (decide ((gt x0 v4 0) ≥ (0 : Int)) && decide ((gt x0 v4 0) ≤ (8 : Int)))))] [((0 ≤ v4 ∧ v4 < (ln x0))), ((List.drop ((Int.toNat v4) * 1) (List.map (ti) x0) : List T)[0]? = some (ti (gt x0 v4 0))), (ti (gt x0 v4 0) = ti (gt x0 v4 0)), (C Tryz.prog 101 [ti (gt x0 v4 0), ti 0, ti 8] (tb (decide ((gt x0 v4 0) ≥ (0 : Int)) && decide ((gt x0 v4 0) ≤ (8 : Int)))))] [(20, vb (!(decide ((gt x0 v4 0) ≥ (0 : Int)) && decide ((gt x0 v4 0) ≤ (8 : Int))))), (4, vi v4), (3, vi v3), (2, vb false), (0, vl x0)] [] ⟨c0, at1 (by simp) (by omega), rfl, (by have hh := (l1In_C (gt x0 v4 0) (0 : Int) (8 : Int)); first | exact hh | simpa using hh), trivial⟩ ?_
     rcases ite_some h with ⟨h3, h⟩ | ⟨h3, h⟩
     ·refine WP.yes h3 rfl ?_
      have h := Option.some.inj h
      subst h
      exact WP.pathW tab_ok mixed [] _ (ps := []) (r := tb false) (by kernel_rfl) trivial (WkT.eq (y := tb false) (WkT.refl _) rfl) (fun _ h => h)
     ·refine WP.no h3 rfl ?_
      refine WP.pk tm [] [] [(4, vi v4), (3, vi v3), (2, vb false), (0, vl x0)] [] trivial ?_
      obtain ⟨c1, h⟩ := chk_some h
      refine WP.pk tm [(25, An.v (ti (gt x0 v4 0))), (26, An.v (ti (v3 + (gt x0 v4 0))))] [((0 ≤ v4 ∧ v4 < (ln x0))), ((List.drop ((Int.toNat v4) * 1) (List.map (ti) x0) : List T)[0]? = some (ti (gt x0 v4 0))), (ti (gt x0 v4 0) = ti (gt x0 v4 0)), (True), (wr (v3 + (gt x0 v4 0)))] [(3, vi (v3 + (gt x0 v4 0))), (4, vi v4), (2, vb false), (0, vl x0)] [] ⟨c0, at1 (by simp) (by omega), rfl, trivial, wrapI c1, trivial⟩ ?_
      obtain ⟨c2, h⟩ := chk_some h
      refine WP.qk tm [(14, An.v (ti (v4 + 1)))] [(True), (wr (v4 + 1))] [(4, vi (v4 + 1)), (3, vi (v3 + (gt x0 v4 0))), (2, vb false), (0, vl x0)] [] ⟨trivial, wrapI c2, trivial⟩ ?_
      exact ⟨(n, (v4 + 1), (v3 + (gt x0 v4 0))), h, Nat.lt_succ_self _, rfl⟩
    ·refine WP.no h2 rfl ?_
     refine WP.eq tm [] 0 [] [(3, vi v3), (2, vb false)] [] trivial ?_
     exact ⟨(v3), h, rfl⟩
  ·intro v3 h0
   have h := (show J1 v3 = some y0 from h0)
   rw [hJ1] at h
   have h := Option.some.inj h
   subst h
   exact WP.pathW tab_ok mixed [] _ (ps := [(True)]) (r := tb (decide (v3 ≤ (8 : Int)))) (by kernel_rfl) ⟨trivial, trivial⟩ (WkT.eq (y := tb (decide (v3 ≤ (8 : Int)))) (WkT.refl _) rfl) (fun _ h => h)
theorem F_spec_l4Key_W (x0 : List Int) (y0 : Int) (h : F_spec_l4Key x0 = some y0) : C Tryz.prog 104 [tl x0] (ti y0) := by
 unfold F_spec_l4Key at h
 refine C.intro (tab := tab) tab_ok (fn := Tryz.f104) Tryz.func104 (by kernel_rfl) rfl (Nat.le_of_ble_eq_true rfl) ?_
 refine WP.sk tm [] [] [(2, vi 0), (0, vl x0)] [] trivial ?_
 refine WP.sk tm [] [] [(3, vi 0), (2, vi 0), (0, vl x0)] [] trivial ?_
 obtain ⟨J1, hJ1, h⟩ := jn_some h
 refine WP.joinA (fun (zz : Int) => ⟨[], [(3, vi zz), (2, vi 0)], []⟩) (fun zz => J1 zz = some y0) ?_ ?_
 ·refine WP.sk tm [] [] [(4, vi 0), (3, vi 0), (2, vi 0), (0, vl x0)] [] trivial ?_
  refine WP.block ?_
  refine WP.lp (α := Nat × Int × Int) (fun zz => ⟨[], [(4, vi zz.2.1), (3, vi zz.2.2), (2, vi 0), (0, vl x0)], []⟩) (fun zz => F_spec_l4Key_L1 x0 J1 zz.1 zz.2.1 zz.2.2 = some y0) (fun zz => zz.1) (fuel, (0 : Int), (0 : Int)) h ?_
  rintro ⟨n, v4, v3⟩ h0
  have h := (show F_spec_l4Key_L1 x0 J1 n v4 v3 = some y0 from h0)
  rcases n with _ | n
  ·rw [F_spec_l4Key_L1] at h; cases h
  ·rw [F_spec_l4Key_L1] at h
   refine WP.seq ?_
   refine WP.sk tm [] [(True)] [(8, vb (decide (v4 < (ln x0)))), (4, vi v4), (3, vi v3), (2, vi 0), (0, vl x0)] [] ⟨trivial, trivial⟩ ?_
   rcases ite_some h with ⟨h1, h⟩ | ⟨h1, h⟩
   ·refine WP.yes h1 rfl ?_
    refine WP.pk tm [] [] [(4, vi v4), (3, vi v3), (2, vi 0), (0, vl x0)] [] trivial ?_
    refine WP.seq ?_
    refine WP.block ?_
    obtain ⟨c0, h⟩ := chk_some h
    obtain ⟨c1, h⟩ := chk_some h
    obtain ⟨c2, h⟩ := chk_some h
    obtain ⟨n17, c3, h⟩ := nam_some h
    refine WP.pk tm [(12, An.v (ti (v3 * 9))), (16, An.v (ti (gt x0 v4 0))), (17, An.v (ti n17))] [(True), (wr (v3 * 9)), ((0 ≤ v4 ∧ v4 < (ln x0))), ((List.drop ((Int.toNat v4) * 1) (List.map (ti) x0) : List T)[0]? = some (ti (gt x0 v4 0))), (ti (gt x0 v4 0) = ti (gt x0 v4 0)), (True), (ti (IntKind.wrap .i64 ((v3 * 9) + (gt x0 v4 0))) = ti n17)] [(3, vi n17), (4, vi v4), (2, vi 0), (0, vl x0)] [] ⟨trivial, wrapI c0, c1, at1 (by simp) (by omega), rfl, trivial, Eq.trans (wrapI c2) (congrArg (ti) c3), trivial⟩ ?_
    obtain ⟨c4, h⟩ := chk_some h
    refine WP.qk tm [(10, An.v (ti (v4 + 1)))] [(True), (wr (v4 + 1))] [(4, vi (v4 + 1)), (3, vi n17), (2, vi 0), (0, vl x0)] [] ⟨trivial, wrapI c4, trivial⟩ ?_
    exact ⟨(n, (v4 + 1), n17), h, Nat.lt_succ_self _, rfl⟩
   ·refine WP.no h1 rfl ?_
    refine WP.eq tm [] 0 [] [(3, vi v3), (2, vi 0)] [] trivial ?_
    exact ⟨(v3), h, rfl⟩
 ·intro v3 h0
  have h := (show J1 v3 = some y0 from h0)
  rw [hJ1] at h
  have h := Option.some.inj h
  subst h
  exact WP.pathW tab_ok mixed [] _ (ps := []) (r := ti v3) (by kernel_rfl) trivial (WkT.eq (y := ti v3) (WkT.refl _) rfl) (fun _ h => h)
theorem F_spec_l4Splits_W (x0 : List Int) (y0 : List (List Int)) (h : F_spec_l4Splits x0 = some y0) : CG Tryz.prog 146 [vl x0] [] (vo 9000 (List.length y0)) [(9000, oc 24 (List.map (fun l => T.list (List.length l) 1 (List.map (ti) l)) y0))] := by
 unfold F_spec_l4Splits at h
 refine CG.intro (tab := tab) tab_ok (fn := Tryz.f146) Tryz.func146 (by kernel_rfl) rfl (Nat.le_of_ble_eq_true rfl) (by kernel_rfl) ?_
 refine WP.sk tm [] [] [(2, V.t (T.nils)), (0, vl x0)] [] trivial ?_
 refine WP.sk tm [(8, An.fz), (9, An.id 2009)] [(True), (0 = 0 * 1), ((1 = 1 ∧ 0 + 1 ≤ 1) ∧ True), (1 = 1 * 1)] [(3, vo 2009 1), (2, V.t (T.nils)), (0, vl x0)] [(2009, oc 24 [T.list 0 1 []])] ⟨trivial, by decide, ⟨⟨by first | rfl | (simp; done) | (simp []; done) | omega, by first | decide | (simp; done) | (simp []; done) | omega | (simp only [tlL]; omega) | (simp; omega)⟩, trivial⟩, by decide, trivial⟩ ?_
 obtain ⟨J1, hJ1, h⟩ := jn_some h
 refine WP.joinA (fun (zz : (List (List Int))) => ⟨[2009], [(3, vo 2009 (List.length zz)), (2, V.t (T.nils))], [(2009, oc 24 (List.map (fun l => T.list (List.length l) 1 (List.map (ti) l)) zz))]⟩) (fun zz => J1 zz = some y0) ?_ ?_
 ·refine WP.sk tm [] [] [(4, vi 0), (3, vo 2009 1), (2, V.t (T.nils)), (0, vl x0)] [(2009, oc 24 [T.list 0 1 []])] trivial ?_
  refine WP.block ?_
  refine WP.lp (α := Nat × (List (List Int)) × Int) (fun zz => ⟨[2009], [(4, vi zz.2.2), (3, vo 2009 (List.length zz.2.1)), (2, V.t (T.nils)), (0, vl x0)], [(2009, oc 24 (List.map (fun l => T.list (List.length l) 1 (List.map (ti) l)) zz.2.1))]⟩) (fun zz => F_spec_l4Splits_L1 x0 J1 zz.1 zz.2.1 zz.2.2 = some y0) (fun zz => zz.1) (fuel, [([] : List Int)], (0 : Int)) h ?_
  rintro ⟨n, o9, v4⟩ h0
  have h := (show F_spec_l4Splits_L1 x0 J1 n o9 v4 = some y0 from h0)
  rcases n with _ | n
  ·rw [F_spec_l4Splits_L1] at h; cases h
  ·rw [F_spec_l4Splits_L1] at h
   refine WP.seq ?_
   refine WP.sk tm [] [(True)] [(13, vb (decide (v4 < (ln x0)))), (4, vi v4), (3, vo 2009 (List.length o9)), (2, V.t (T.nils)), (0, vl x0)] [(2009, oc 24 (List.map (fun l => T.list (List.length l) 1 (List.map (ti) l)) o9))] ⟨trivial, trivial⟩ ?_
   rcases ite_some h with ⟨h1, h⟩ | ⟨h1, h⟩
   ·refine WP.yes h1 rfl ?_
    refine WP.pk tm [] [] [(4, vi v4), (3, vo 2009 (List.length o9)), (2, V.t (T.nils)), (0, vl x0)] [(2009, oc 24 (List.map (fun l => T.list (List.length l) 1 (List.map (ti) l)) o9))] trivial ?_
    obtain ⟨J2, hJ2, h⟩ := jn_some h
    refine WP.joinA (fun (zz : (List (List Int))) => ⟨[2016], [(3, vo 2016 (List.length zz)), (4, vi v4), (2, V.t (T.nils)), (0, vl x0)], [(2016, oc 24 (List.map (fun l => T.list (List.length l) 1 (List.map (ti) l)) zz))]⟩) (fun zz => J2 zz = some y0) ?_ ?_
    ·refine WP.block ?_
     refine WP.sn tm [(16, An.id 2016)] [(True), (0 = 0 * 1)] [2016, 2009] [(5, vo 2016 0), (4, vi v4), (3, vo 2009 (List.length o9)), (2, V.t (T.nils)), (0, vl x0)] [(2009, oc 24 (List.map (fun l => T.list (List.length l) 1 (List.map (ti) l)) o9)), (2016, oc 24 [])] ⟨trivial, by decide, trivial⟩ ?_
     obtain ⟨J3, hJ3, h⟩ := jn_some h
     refine WP.joinA (fun (zz : (List (List Int))) => ⟨[2009, 2016], [(5, vo 2016 (List.length zz)), (4, vi v4), (3, vo 2009 (List.length o9)), (2, V.t (T.nils)), (0, vl x0)], [(2009, oc 24 (List.map (fun l => T.list (List.length l) 1 (List.map (ti) l)) o9)), (2016, oc 24 (List.map (fun l => T.list (List.length l) 1 (List.map (ti) l)) zz))]⟩) (fun zz => J3 zz = some y0) ?_ ?_
     ·refine WP.sn tm [] [] [2016, 2009] [(6, vi 0), (5, vo 2016 0), (4, vi v4), (3, vo 2009 (List.length o9)), (2, V.t (T.nils)), (0, vl x0)] [(2009, oc 24 (List.map (fun l => T.list (List.length l) 1 (List.map (ti) l)) o9)), (2016, oc 24 [])] trivial ?_
      refine WP.block ?_
      refine WP.lp (α := Nat × (List (List Int)) × Int) (fun zz => ⟨[2009, 2016], [(6, vi zz.2.2), (5, vo 2016 (List.length zz.2.1)), (4, vi v4), (3, vo 2009 (List.length o9)), (2, V.t (T.nils)), (0, vl x0)], [(2009, oc 24 (List.map (fun l => T.list (List.length l) 1 (List.map (ti) l)) o9)), (2016, oc 24 (List.map (fun l => T.list (List.length l) 1 (List.map (ti) l)) zz.2.1))]⟩) (fun zz => F_spec_l4Splits_L2 x0 o9 v4 J3 zz.1 zz.2.1 zz.2.2 = some y0) (fun zz => zz.1) (fuel, ([] : List (List Int)), (0 : Int)) h ?_
      rintro ⟨n, o16, v6⟩ h0
      have h := (show F_spec_l4Splits_L2 x0 o9 v4 J3 n o16 v6 = some y0 from h0)
      rcases n with _ | n
      ·rw [F_spec_l4Splits_L2] at h; cases h
      ·rw [F_spec_l4Splits_L2] at h
       refine WP.seq ?_
       refine WP.sk tm [] [(True)] [(20, vb (decide (v6 < (ln o9)))), (6, vi v6), (5, vo 2016 (List.length o16)), (4, vi v4), (3, vo 2009 (List.length o9)), (2, V.t (T.nils)), (0, vl x0)] [(2009, oc 24 (List.map (fun l => T.list (List.length l) 1 (List.map (ti) l)) o9)), (2016, oc 24 (List.map (fun l => T.list (List.length l) 1 (List.map (ti) l)) o16))] ⟨trivial, trivial⟩ ?_
       rcases ite_some h with ⟨h2, h⟩ | ⟨h2, h⟩
       ·refine WP.yes h2 rfl ?_
        refine WP.pk tm [] [] [(6, vi v6), (5, vo 2016 (List.length o16)), (4, vi v4), (3, vo 2009 (List.length o9)), (2, V.t (T.nils)), (0, vl x0)] [(2009, oc 24 (List.map (fun l => T.list (List.length l) 1 (List.map (ti) l)) o9)), (2016, oc 24 (List.map (fun l => T.list (List.length l) 1 (List.map (ti) l)) o16))] trivial ?_
        obtain ⟨J4, hJ4, h⟩ := jn_some h
        refine WP.joinA (fun (zz : (List (List Int))) => ⟨[2009, 2016], [(6, vi v6), (5, vo 2016 (List.length zz)), (4, vi v4), (3, vo 2009 (List.length o9)), (2, V.t (T.nils)), (0, vl x0)], [(2009, oc 24 (List.map (fun l => T.list (List.length l) 1 (List.map (ti) l)) o9)), (2016, oc 24 (List.map (fun l => T.list (List.length l) 1 (List.map (ti) l)) zz))]⟩) (fun zz => J4 zz = some y0) ?_ ?_
        ·refine WP.block ?_
         refine WP.sk tm [] [] [(7, vi 0), (6, vi v6), (5, vo 2016 (List.length o16)), (4, vi v4), (3, vo 2009 (List.length o9)), (2, V.t (T.nils)), (0, vl x0)] [(2009, oc 24 (List.map (fun l => T.list (List.length l) 1 (List.map (ti) l)) o9)), (2016, oc 24 (List.map (fun l => T.list (List.length l) 1 (List.map (ti) l)) o16))] trivial ?_
         refine WP.block ?_
         refine WP.lp (α := Nat × (List (List Int)) × Int) (fun zz => ⟨[2009, 2016], [(7, vi zz.2.2), (6, vi v6), (5, vo 2016 (List.length zz.2.1)), (4, vi v4), (3, vo 2009 (List.length o9)), (2, V.t (T.nils)), (0, vl x0)], [(2009, oc 24 (List.map (fun l => T.list (List.length l) 1 (List.map (ti) l)) o9)), (2016, oc 24 (List.map (fun l => T.list (List.length l) 1 (List.map (ti) l)) zz.2.1))]⟩) (fun zz => F_spec_l4Splits_L3 x0 o9 v4 v6 J4 zz.1 zz.2.1 zz.2.2 = some y0) (fun zz => zz.1) (fuel, o16, (0 : Int)) h ?_
         rintro ⟨n, o16b, v7⟩ h0
         have h := (show F_spec_l4Splits_L3 x0 o9 v4 v6 J4 n o16b v7 = some y0 from h0)
         rcases n with _ | n
         ·rw [F_spec_l4Splits_L3] at h; cases h
         ·rw [F_spec_l4Splits_L3] at h
          refine WP.seq ?_
          refine WP.seq ?_
          obtain ⟨c0, h⟩ := chk_some h
          refine WP.pk tm [(27, An.v (ti (gt x0 v4 0)))] [((0 ≤ v4 ∧ v4 < (ln x0))), ((List.drop ((Int.toNat v4) * 1) (List.map (ti) x0) : List T)[0]? = some (ti (gt x0 v4 0))), (ti (gt x0 v4 0) = ti (gt x0 v4 0)), (True)] [(28, vb (decide (v7 ≤ (gt x0 v4 0)))), (7, vi v7), (6, vi v6), (5, vo 2016 (List.length o16b)), (4, vi v4), (3, vo 2009 (List.length o9)), (2, V.t (T.nils)), (0, vl x0)] [(2009, oc 24 (List.map (fun l => T.list (List.length l) 1 (List.map (ti) l)) o9)), (2016, oc 24 (List.map (fun l => T.list (List.length l) 1 (List.map (ti) l)) o16b))] ⟨c0, at1 (by simp) (by omega), rfl, trivial, trivial⟩ ?_
          rcases ite_some h with ⟨h3, h⟩ | ⟨h3, h⟩
          ·refine WP.yes h3 rfl ?_
           refine WP.pk tm [] [] [(7, vi v7), (6, vi v6), (5, vo 2016 (List.length o16b)), (4, vi v4), (3, vo 2009 (List.length o9)), (2, V.t (T.nils)), (0, vl x0)] [(2009, oc 24 (List.map (fun l => T.list (List.length l) 1 (List.map (ti) l)) o9)), (2016, oc 24 (List.map (fun l => T.list (List.length l) 1 (List.map (ti) l)) o16b))] trivial ?_
           refine WP.seq ?_
           refine WP.block ?_
           obtain ⟨c1, h⟩ := chk_some h
           obtain ⟨c2, h⟩ := chk_some h
           obtain ⟨c3, h⟩ := chk_some h
           obtain ⟨c4, h⟩ := chk_some h
           refine WP.pn tm [(35, An.v (tl (gt o9 v6 []))), (36, An.callG [(9000, 10360)] [vl (gt o9 v6 [])] [] (vo 9000 (List.length (gt o9 v6 []))) [(9000, oc 3 (List.map (ti) (gt o9 v6 [])))]), (38, An.fz), (39, An.fz), (40, An.fz), (41, An.id 2041)] [((0 ≤ v6 ∧ v6 < (ln o9))), ((List.map (fun l => T.list (List.length l) 1 (List.map (ti) l)) o9 : List T)[(Int.toNat v6) * 1]? = some (tl (gt o9 v6 []))), (tl (gt o9 v6 []) = tl (gt o9 v6 [])), (CG Tryz.prog 55 [vl (gt o9 v6 [])] [] (vo 9000 (List.length (gt o9 v6 []))) [(9000, oc 3 (List.map (ti) (gt o9 v6 [])))]), (WkT (tl (gt o9 v6 [])) (tl (gt o9 v6 []))), ((1 = 1 ∧ 0 + 1 ≤ 1) ∧ True), (1 = 1 * 1), (True), (List.length (List.map (ti) (gt o9 v6 [])) = (List.length (gt o9 v6 [])) * 1), ((((List.length (gt o9 v6 [])) + 1) * 8 ≤ 140737488355328 ∧ (List.length (gt o9 v6 [])) + 1 ≤ maxLen)), ((1 = 1 ∧ 0 + 1 ≤ 1) ∧ True), (1 = 1 * 1), (True), (List.length (List.map (fun l => T.list (List.length l) 1 (List.map (ti) l)) o16b) = (List.length o16b) * 1), ((((List.length o16b) + 1) * 24 ≤ 140737488355328 ∧ (List.length o16b) + 1 ≤ maxLen))] [2041, 10360, 2009, 2016] [(5, vo 2041 ((List.length o16b) + 1)), (7, vi v7), (6, vi v6), (4, vi v4), (3, vo 2009 (List.length o9)), (2, V.t (T.nils)), (0, vl x0)] [(2009, oc 24 (List.map (fun l => T.list (List.length l) 1 (List.map (ti) l)) o9)), (2041, oc 24 ((List.map (fun l => T.list (List.length l) 1 (List.map (ti) l)) o16b) ++ [T.list ((List.length (gt o9 v6 [])) + 1) 1 ((List.map (ti) (gt o9 v6 [])) ++ [ti v7])]))] ⟨c1, atM (by simp) (by first | omega | (simp only [tlL]; omega) | (simp; omega)), rfl, (l1Own_C_G (gt o9 v6 []) c2), WkT.refl _, ⟨⟨by first | rfl | (simp; done) | (simp []; done) | omega, by first | decide | (simp; done) | (simp []; done) | omega | (simp only [tlL]; omega) | (simp; omega)⟩, trivial⟩, by decide, trivial, by first | rfl | omega | (simp only [tlL] <;> omega) | (simp <;> omega) | (simp [] <;> omega), c3, ⟨⟨by first | rfl | (simp; done) | (simp []; done) | omega, by first | decide | (simp; done) | (simp []; done) | omega | (simp only [tlL]; omega) | (simp; omega)⟩, trivial⟩, by decide, trivial, by first | rfl | omega | (simp only [tlL] <;> omega) | (simp <;> omega) | (simp [] <;> omega), c4, trivial⟩ ?_
           obtain ⟨c5, h⟩ := chk_some h
           refine WP.nk tm [(30, An.v (ti (v7 + 1)))] [(2009, 2009), (2041, 2016)] .normal [(True), (wr (v7 + 1))] [(7, vi (v7 + 1)), (6, vi v6), (5, vo 2016 ((List.length o16b) + 1)), (4, vi v4), (3, vo 2009 (List.length o9)), (2, V.t (T.nils)), (0, vl x0)] [(2009, oc 24 (List.map (fun l => T.list (List.length l) 1 (List.map (ti) l)) o9)), (2016, oc 24 ((List.map (fun l => T.list (List.length l) 1 (List.map (ti) l)) o16b) ++ [T.list ((List.length (gt o9 v6 [])) + 1) 1 ((List.map (ti) (gt o9 v6 [])) ++ [ti v7])]))] ⟨trivial, wrapI c5, trivial⟩ ?_
           exact ⟨(n, o16b ++ [(gt o9 v6 []) ++ [v7]], (v7 + 1)), h, Nat.lt_succ_self _, (by first | rfl | (simp only [tlS, tl, vl, vo, oc, ov, tbl, vbl, ty, vy] <;> rfl) | (simp <;> omega) | (simp []; done) | (rw [List.take_of_length_le (by simp [])] <;> rfl) | (simp [List.take_of_length_le]; done))⟩
          ·refine WP.no h3 rfl ?_
           refine WP.eq tm [] 4 [] [(6, vi v6), (5, vo 2016 (List.length o16b)), (4, vi v4), (3, vo 2009 (List.length o9)), (2, V.t (T.nils)), (0, vl x0)] [(2009, oc 24 (List.map (fun l => T.list (List.length l) 1 (List.map (ti) l)) o9)), (2016, oc 24 (List.map (fun l => T.list (List.length l) 1 (List.map (ti) l)) o16b))] trivial ?_
           exact ⟨(o16b), h, rfl⟩
        ·intro o16b h0
         have h := (show J4 o16b = some y0 from h0)
         rw [hJ4] at h
         obtain ⟨c0, h⟩ := chk_some h
         refine WP.qk tm [(22, An.v (ti (v6 + 1)))] [(True), (wr (v6 + 1))] [(6, vi (v6 + 1)), (5, vo 2016 (List.length o16b)), (4, vi v4), (3, vo 2009 (List.length o9)), (2, V.t (T.nils)), (0, vl x0)] [(2009, oc 24 (List.map (fun l => T.list (List.length l) 1 (List.map (ti) l)) o9)), (2016, oc 24 (List.map (fun l => T.list (List.length l) 1 (List.map (ti) l)) o16b))] ⟨trivial, wrapI c0, trivial⟩ ?_
         exact ⟨(n, o16b, (v6 + 1)), h, Nat.lt_succ_self _, rfl⟩
       ·refine WP.no h2 rfl ?_
        refine WP.eq tm [] 2 [] [(5, vo 2016 (List.length o16)), (4, vi v4), (3, vo 2009 (List.length o9)), (2, V.t (T.nils)), (0, vl x0)] [(2009, oc 24 (List.map (fun l => T.list (List.length l) 1 (List.map (ti) l)) o9)), (2016, oc 24 (List.map (fun l => T.list (List.length l) 1 (List.map (ti) l)) o16))] trivial ?_
        exact ⟨(o16), h, rfl⟩
     ·intro o16 h0
      have h := (show J3 o16 = some y0 from h0)
      rw [hJ3] at h
      refine WP.qk tm [] [] [(3, vo 2016 (List.length o16)), (4, vi v4), (2, V.t (T.nils)), (0, vl x0)] [(2016, oc 24 (List.map (fun l => T.list (List.length l) 1 (List.map (ti) l)) o16))] trivial ?_
      exact ⟨(o16), h, rfl⟩
    ·intro o16 h0
     have h := (show J2 o16 = some y0 from h0)
     rw [hJ2] at h
     obtain ⟨c0, h⟩ := chk_some h
     refine WP.nk tm [(15, An.v (ti (v4 + 1)))] [(2016, 2009)] .normal [(True), (wr (v4 + 1))] [(4, vi (v4 + 1)), (3, vo 2009 (List.length o16)), (2, V.t (T.nils)), (0, vl x0)] [(2009, oc 24 (List.map (fun l => T.list (List.length l) 1 (List.map (ti) l)) o16))] ⟨trivial, wrapI c0, trivial⟩ ?_
     exact ⟨(n, o16, (v4 + 1)), h, Nat.lt_succ_self _, rfl⟩
   ·refine WP.no h1 rfl ?_
    refine WP.eq tm [] 0 [] [(3, vo 2009 (List.length o9)), (2, V.t (T.nils))] [(2009, oc 24 (List.map (fun l => T.list (List.length l) 1 (List.map (ti) l)) o9))] trivial ?_
    exact ⟨(o9), h, rfl⟩
 ·intro o9 h0
  have h := (show J1 o9 = some y0 from h0)
  rw [hJ1] at h
  have h := Option.some.inj h
  subst h
  exact WP.pathG tab_ok mixed [] [.keep [2], .keepO [2009], .names [(2009, 9000)]] [9000] _ (r' := vo 9000 (List.length o9)) (ps := []) (r := vo 9000 (List.length o9)) (N := [9000]) (O := [(9000, oc 24 (List.map (fun l => T.list (List.length l) 1 (List.map (ti) l)) o9))]) [] (by kernel_rfl) trivial ⟨rfl, trivial⟩ rfl rfl (fun _ h => h)
theorem F_spec_l4Splits_W_C (x0 : List Int) (y0 : List (List Int)) (h : F_spec_l4Splits x0 = some y0) : C Tryz.prog 146 [tl x0] (T.list (List.length y0) 1 (List.map (fun l => T.list (List.length l) 1 (List.map (ti) l)) y0)) :=
 CG.toC (ps := [(List.length (List.map (fun l => T.list (List.length l) 1 (List.map (ti) l)) y0) = (List.length y0) * 1)]) (F_spec_l4Splits_W  x0 y0 h) (by rfl) ⟨by first | rfl | omega | (simp <;> omega) | (simp [hl] <;> omega), trivial⟩
theorem F_spec_l4Rest_W (x0 : List Int) (x1 : List Int) (y0 : List Int) (h : F_spec_l4Rest x0 x1 = some y0) : CG Tryz.prog 153 [vl x0, vl x1] [] (vo 9000 (List.length y0)) [(9000, oc 3 (List.map (ti) y0))] := by
 unfold F_spec_l4Rest at h
 refine CG.intro (tab := tab) tab_ok (fn := Tryz.f153) Tryz.func153 (by kernel_rfl) rfl (Nat.le_of_ble_eq_true rfl) (by kernel_rfl) ?_
 refine WP.sk tm [] [] [(4, V.t (T.nils)), (0, vl x0), (1, vl x1)] [] trivial ?_
 refine WP.sk tm [(7, An.id 2007)] [(True), (0 = 0 * 1)] [(5, vo 2007 0), (4, V.t (T.nils)), (0, vl x0), (1, vl x1)] [(2007, oc 3 [])] ⟨trivial, by decide, trivial⟩ ?_
 obtain ⟨J1, hJ1, h⟩ := jn_some h
 refine WP.joinA (fun (zz : (List Int)) => ⟨[2007], [(5, vo 2007 (List.length zz)), (4, V.t (T.nils))], [(2007, oc 3 (List.map (ti) zz))]⟩) (fun zz => J1 zz = some y0) ?_ ?_
 ·refine WP.sk tm [] [] [(6, vi 0), (5, vo 2007 0), (4, V.t (T.nils)), (0, vl x0), (1, vl x1)] [(2007, oc 3 [])] trivial ?_
  refine WP.block ?_
  refine WP.lp (α := Nat × (List Int) × Int) (fun zz => ⟨[2007], [(6, vi zz.2.2), (5, vo 2007 (List.length zz.2.1)), (4, V.t (T.nils)), (0, vl x0), (1, vl x1)], [(2007, oc 3 (List.map (ti) zz.2.1))]⟩) (fun zz => F_spec_l4Rest_L1 x0 x1 J1 zz.1 zz.2.1 zz.2.2 = some y0) (fun zz => zz.1) (fuel, ([] : List Int), (0 : Int)) h ?_
  rintro ⟨n, o7, v6⟩ h0
  have h := (show F_spec_l4Rest_L1 x0 x1 J1 n o7 v6 = some y0 from h0)
  rcases n with _ | n
  ·rw [F_spec_l4Rest_L1] at h; cases h
  ·rw [F_spec_l4Rest_L1] at h
   refine WP.seq ?_
   refine WP.sk tm [] [(True)] [(11, vb (decide (v6 < (ln x0)))), (6, vi v6), (5, vo 2007 (List.length o7)), (4, V.t (T.nils)), (0, vl x0), (1, vl x1)] [(2007, oc 3 (List.map (ti) o7))] ⟨trivial, trivial⟩ ?_
   rcases ite_some h with ⟨h1, h⟩ | ⟨h1, h⟩
   ·refine WP.yes h1 rfl ?_
    refine WP.pk tm [] [] [(6, vi v6), (5, vo 2007 (List.length o7)), (4, V.t (T.nils)), (0, vl x0), (1, vl x1)] [(2007, oc 3 (List.map (ti) o7))] trivial ?_
    refine WP.seq ?_
    refine WP.block ?_
    obtain ⟨c0, h⟩ := chk_some h
    obtain ⟨c1, h⟩ := chk_some h
    obtain ⟨c2, h⟩ := chk_some h
    obtain ⟨n23, c3, h⟩ := nam_some h
    obtain ⟨c4, h⟩ := chk_some h
    refine WP.pn tm [(18, An.v (ti (gt x0 v6 0))), (22, An.v (ti (gt x1 v6 0))), (23, An.v (ti n23)), (24, An.fz), (25, An.id 2025)] [((0 ≤ v6 ∧ v6 < (ln x0))), ((List.drop ((Int.toNat v6) * 1) (List.map (ti) x0) : List T)[0]? = some (ti (gt x0 v6 0))), (ti (gt x0 v6 0) = ti (gt x0 v6 0)), ((0 ≤ v6 ∧ v6 < (ln x1))), ((List.drop ((Int.toNat v6) * 1) (List.map (ti) x1) : List T)[0]? = some (ti (gt x1 v6 0))), (ti (gt x1 v6 0) = ti (gt x1 v6 0)), (True), (ti (IntKind.wrap .i64 ((gt x0 v6 0) - (gt x1 v6 0))) = ti n23), ((1 = 1 ∧ 0 + 1 ≤ 1) ∧ True), (1 = 1 * 1), (True), (List.length (List.map (ti) o7) = (List.length o7) * 1), ((((List.length o7) + 1) * 8 ≤ 140737488355328 ∧ (List.length o7) + 1 ≤ maxLen))] [2025, 2007] [(5, vo 2025 ((List.length o7) + 1)), (6, vi v6), (4, V.t (T.nils)), (0, vl x0), (1, vl x1)] [(2025, oc 3 ((List.map (ti) o7) ++ [ti n23]))] ⟨c0, at1 (by simp) (by omega), rfl, c1, at1 (by simp) (by omega), rfl, trivial, Eq.trans (wrapI c2) (congrArg (ti) c3), ⟨⟨by first | rfl | (simp; done) | (simp []; done) | omega, by first | decide | (simp; done) | (simp []; done) | omega | (simp only [tlL]; omega) | (simp; omega)⟩, trivial⟩, by decide, trivial, by first | rfl | omega | (simp only [tlL] <;> omega) | (simp <;> omega) | (simp [] <;> omega), c4, trivial⟩ ?_
    obtain ⟨c5, h⟩ := chk_some h
    refine WP.nk tm [(13, An.v (ti (v6 + 1)))] [(2025, 2007)] .normal [(True), (wr (v6 + 1))] [(6, vi (v6 + 1)), (5, vo 2007 ((List.length o7) + 1)), (4, V.t (T.nils)), (0, vl x0), (1, vl x1)] [(2007, oc 3 ((List.map (ti) o7) ++ [ti n23]))] ⟨trivial, wrapI c5, trivial⟩ ?_
    exact ⟨(n, o7 ++ [n23], (v6 + 1)), h, Nat.lt_succ_self _, (by first | rfl | (simp only [tlS, tl, vl, vo, oc, ov, tbl, vbl, ty, vy] <;> rfl) | (simp <;> omega) | (simp []; done) | (rw [List.take_of_length_le (by simp [])] <;> rfl) | (simp [List.take_of_length_le]; done))⟩
   ·refine WP.no h1 rfl ?_
    refine WP.eq tm [] 0 [] [(5, vo 2007 (List.length o7)), (4, V.t (T.nils))] [(2007, oc 3 (List.map (ti) o7))] trivial ?_
    exact ⟨(o7), h, rfl⟩
 ·intro o7 h0
  have h := (show J1 o7 = some y0 from h0)
  rw [hJ1] at h
  have h := Option.some.inj h
  subst h
  exact WP.pathG tab_ok mixed [] [.keep [4], .keepO [2007], .names [(2007, 9000)]] [9000] _ (r' := vo 9000 (List.length o7)) (ps := []) (r := vo 9000 (List.length o7)) (N := [9000]) (O := [(9000, oc 3 (List.map (ti) o7))]) [] (by kernel_rfl) trivial ⟨rfl, trivial⟩ rfl rfl (fun _ h => h)
theorem F_spec_l4Rest_W_C (x0 : List Int) (x1 : List Int) (y0 : List Int) (h : F_spec_l4Rest x0 x1 = some y0) : C Tryz.prog 153 [tl x0, tl x1] (tl y0) :=
 CG.toC (ps := [(List.length (List.map (ti) y0) = (List.length y0) * 1)]) (F_spec_l4Rest_W  x0 x1 y0 h) (by rfl) ⟨by first | rfl | omega | (simp <;> omega) | (simp [hl] <;> omega), trivial⟩
theorem F_spec_l4Yes_W (x0 : List Int) (x1 : List Int) (y0 : List Int) (h : F_spec_l4Yes x0 x1 = some y0) : CG Tryz.prog 147 [vl x0, vl x1] [] (vo 9000 (List.length y0)) [(9000, oc 3 (List.map (ti) y0))] := by
 unfold F_spec_l4Yes at h
 refine CG.intro (tab := tab) tab_ok (fn := Tryz.f147) Tryz.func147 (by kernel_rfl) rfl (Nat.le_of_ble_eq_true rfl) (by kernel_rfl) ?_
 refine WP.sk tm [] [] [(4, V.t (T.nils)), (0, vl x0), (1, vl x1)] [] trivial ?_
 refine WP.seq ?_
 obtain ⟨r10, c0, h⟩ := bnd1_some h
 obtain ⟨c1, h⟩ := chk_some h
 refine WP.pn tm [(10, An.callG [(9000, 10100)] [vl x0, vl x1] [] (vo 9000 (List.length r10)) [(9000, oc 3 (List.map (ti) r10))]), (12, An.callG [(9000, 10120)] [vl x1] [] (vo 9000 (List.length x1)) [(9000, oc 3 (List.map (ti) x1))])] [(CG Tryz.prog 153 [vl x0, vl x1] [] (vo 9000 (List.length r10)) [(9000, oc 3 (List.map (ti) r10))]), (WkT (tl x0) (tl x0)), (WkT (tl x1) (tl x1)), (CG Tryz.prog 55 [vl x1] [] (vo 9000 (List.length x1)) [(9000, oc 3 (List.map (ti) x1))]), (WkT (tl x1) (tl x1))] [10120, 10100] [(6, vo 10120 (List.length x1)), (5, vo 10100 (List.length r10)), (4, V.t (T.nils))] [(10100, oc 3 (List.map (ti) r10)), (10120, oc 3 (List.map (ti) x1))] ⟨(F_spec_l4Rest_W x0 x1 r10 c0), WkT.refl _, WkT.refl _, (l1Own_C_G x1 c1), WkT.refl _, trivial⟩ ?_
 obtain ⟨J1, hJ1, h⟩ := jn_some h
 refine WP.joinA (fun (zz : (List Int)) => ⟨[10120], [(6, vo 10120 (List.length zz)), (4, V.t (T.nils))], [(10120, oc 3 (List.map (ti) zz))]⟩) (fun zz => J1 zz = some y0) ?_ ?_
 ·refine WP.sn tm [] [] [10120, 10100] [(7, vi 1), (6, vo 10120 (List.length x1)), (5, vo 10100 (List.length r10)), (4, V.t (T.nils))] [(10100, oc 3 (List.map (ti) r10)), (10120, oc 3 (List.map (ti) x1))] trivial ?_
  refine WP.block ?_
  refine WP.lp (α := Nat × (List Int) × Int) (fun zz => ⟨[10100, 10120], [(7, vi zz.2.2), (6, vo 10120 (List.length zz.2.1)), (5, vo 10100 (List.length r10)), (4, V.t (T.nils))], [(10100, oc 3 (List.map (ti) r10)), (10120, oc 3 (List.map (ti) zz.2.1))]⟩) (fun zz => F_spec_l4Yes_L1 r10 J1 zz.1 zz.2.1 zz.2.2 = some y0) (fun zz => zz.1) (fuel, x1, (1 : Int)) h ?_
  rintro ⟨n, o10120, v7⟩ h0
  have h := (show F_spec_l4Yes_L1 r10 J1 n o10120 v7 = some y0 from h0)
  rcases n with _ | n
  ·rw [F_spec_l4Yes_L1] at h; cases h
  ·rw [F_spec_l4Yes_L1] at h
   refine WP.seq ?_
   refine WP.sk tm [] [(True)] [(16, vb (decide (v7 < (ln o10120)))), (7, vi v7), (6, vo 10120 (List.length o10120)), (5, vo 10100 (List.length r10)), (4, V.t (T.nils))] [(10100, oc 3 (List.map (ti) r10)), (10120, oc 3 (List.map (ti) o10120))] ⟨trivial, trivial⟩ ?_
   rcases ite_some h with ⟨h1, h⟩ | ⟨h1, h⟩
   ·refine WP.yes h1 rfl ?_
    refine WP.pk tm [] [] [(7, vi v7), (6, vo 10120 (List.length o10120)), (5, vo 10100 (List.length r10)), (4, V.t (T.nils))] [(10100, oc 3 (List.map (ti) r10)), (10120, oc 3 (List.map (ti) o10120))] trivial ?_
    refine WP.seq ?_
    refine WP.block ?_
    obtain ⟨c2, h⟩ := chk_some h
    obtain ⟨c3, h⟩ := chk_some h
    obtain ⟨c4, h⟩ := chk_some h
    obtain ⟨c5, h⟩ := chk_some h
    obtain ⟨n30, c6, h⟩ := nam_some h
    refine WP.pk tm [(24, An.v (ti (gt o10120 v7 0))), (27, An.v (ti (v7 - 1))), (29, An.v (ti (List.getD r10 (Int.toNat (v7 - 1)) 0))), (30, An.v (ti n30))] [((0 ≤ v7 ∧ v7 < (ln o10120))), ((List.map (ti) o10120 : List T)[(Int.toNat v7) * 1]? = some (ti (gt o10120 v7 0))), (ti (gt o10120 v7 0) = ti (gt o10120 v7 0)), (True), (wr (v7 - 1)), ((0 ≤ (v7 - 1) ∧ (v7 - 1) < (ln r10))), ((List.map (ti) r10 : List T)[(Int.toNat (v7 - 1)) * 1]? = some (ti (List.getD r10 (Int.toNat (v7 - 1)) 0))), (ti (List.getD r10 (Int.toNat (v7 - 1)) 0) = ti (List.getD r10 (Int.toNat (v7 - 1)) 0)), (True), (ti (IntKind.wrap .i64 ((gt o10120 v7 0) + (List.getD r10 (Int.toNat (v7 - 1)) 0))) = ti n30), ((0 ≤ v7 ∧ v7 < (ln o10120))), ((Int.toNat v7) * 1 < List.length (List.map (ti) o10120))] [(7, vi v7), (6, vo 10120 (List.length o10120)), (5, vo 10100 (List.length r10)), (4, V.t (T.nils))] [(10100, oc 3 (List.map (ti) r10)), (10120, oc 3 (List.set (List.map (ti) o10120) ((Int.toNat v7) * 1) (ti n30)))] ⟨c2, atM (by simp) (by first | omega | (simp only [tlL]; omega) | (simp; omega)), rfl, trivial, wrapI c3, c4, atM (by simp) (by first | omega | (simp only [tlL]; omega) | (simp; omega)), rfl, trivial, Eq.trans (wrapI c5) (congrArg (ti) c6), c2, by first | decide | omega | (simp only [tlL] <;> omega) | (simp <;> omega) | (simp [] <;> omega), trivial⟩ ?_
    obtain ⟨c7, h⟩ := chk_some h
    refine WP.qk tm [(18, An.v (ti (v7 + 1)))] [(True), (wr (v7 + 1))] [(7, vi (v7 + 1)), (6, vo 10120 (List.length o10120)), (5, vo 10100 (List.length r10)), (4, V.t (T.nils))] [(10100, oc 3 (List.map (ti) r10)), (10120, oc 3 (List.set (List.map (ti) o10120) ((Int.toNat v7) * 1) (ti n30)))] ⟨trivial, wrapI c7, trivial⟩ ?_
    exact ⟨(n, List.set o10120 (Int.toNat v7) n30, (v7 + 1)), h, Nat.lt_succ_self _, (by first | rfl | (simp only [tlS, tl, vl, vo, oc, ov, tbl, vbl, ty, vy] <;> rfl) | (simp <;> omega) | (simp []; done) | (rw [List.take_of_length_le (by simp [])] <;> rfl) | (simp [List.take_of_length_le]; done))⟩
   ·refine WP.no h1 rfl ?_
    refine WP.eq tm [] 0 [] [(6, vo 10120 (List.length o10120)), (4, V.t (T.nils))] [(10120, oc 3 (List.map (ti) o10120))] trivial ?_
    exact ⟨(o10120), h, rfl⟩
 ·intro o10120 h0
  have h := (show J1 o10120 = some y0 from h0)
  rw [hJ1] at h
  have h := Option.some.inj h
  subst h
  exact WP.pathG tab_ok mixed [] [.keep [4], .keepO [10120], .names [(10120, 9000)]] [9000] _ (r' := vo 9000 (List.length o10120)) (ps := []) (r := vo 9000 (List.length o10120)) (N := [9000]) (O := [(9000, oc 3 (List.map (ti) o10120))]) [] (by kernel_rfl) trivial ⟨rfl, trivial⟩ rfl rfl (fun _ h => h)
theorem F_spec_l4Yes_W_C (x0 : List Int) (x1 : List Int) (y0 : List Int) (h : F_spec_l4Yes x0 x1 = some y0) : C Tryz.prog 147 [tl x0, tl x1] (tl y0) :=
 CG.toC (ps := [(List.length (List.map (ti) y0) = (List.length y0) * 1)]) (F_spec_l4Yes_W  x0 x1 y0 h) (by rfl) ⟨by first | rfl | omega | (simp <;> omega) | (simp [hl] <;> omega), trivial⟩
theorem F_spec_l4No_W (x0 : List Int) (x1 : List Int) (y0 : List Int) (h : F_spec_l4No x0 x1 = some y0) : CG Tryz.prog 148 [vl x0, vl x1] [] (vo 9000 (List.length y0)) [(9000, oc 3 (List.map (ti) y0))] := by
 unfold F_spec_l4No at h
 refine CG.intro (tab := tab) tab_ok (fn := Tryz.f148) Tryz.func148 (by kernel_rfl) rfl (Nat.le_of_ble_eq_true rfl) (by kernel_rfl) ?_
 obtain ⟨r8, c0, h⟩ := bnd1_some h
 obtain ⟨r9, c1, h⟩ := bnd1_some h
 have h := Option.some.inj h
 subst h
 exact WP.pathG tab_ok mixed [(8, An.callG [(9000, 10080)] [vl x0, vl x1] [] (vo 9000 (List.length r8)) [(9000, oc 3 (List.map (ti) r8))]), (9, An.callG [(9000, 10090)] [vl x0, vl r8] [] (vo 9000 (List.length r9)) [(9000, oc 3 (List.map (ti) r9))])] [.keep [4], .keepO [10090], .names [(10090, 9000)]] [9000] _ (r' := vo 9000 (List.length r9)) (ps := [(CG Tryz.prog 153 [vl x0, vl x1] [] (vo 9000 (List.length r8)) [(9000, oc 3 (List.map (ti) r8))]), (WkT (tl x0) (tl x0)), (WkT (tl x1) (tl x1)), (CG Tryz.prog 147 [vl x0, vl r8] [] (vo 9000 (List.length r9)) [(9000, oc 3 (List.map (ti) r9))]), ((vo 9000 (List.length r9)).flat = true), (flatO [(9000, oc 3 (List.map (ti) r9))] = true), (WkT (tl x0) (tl x0)), (List.length (List.map (ti) r8) = (List.length r8) * 1), (WkT (tl r8) (tl r8))]) (r := vo 9000 (List.length r9)) (N := [9000]) (O := [(9000, oc 3 (List.map (ti) r9))]) [] (by kernel_rfl) ⟨(F_spec_l4Rest_W x0 x1 r8 c0), WkT.refl _, WkT.refl _, (F_spec_l4Yes_W x0 r8 r9 c1), by first | rfl | (simp [V.flats, V.flat, T.flats, T.flat, flats_app, flats_int, flats_bool, flats_str, flats_node, flats_asked, flats_pair, flats_recs, flats_fact, flatEs_mpB, flatEs_mpI, flatEs_mp3]; done), by first | rfl | (simp [flatO, Tl.Obj.flat, V.flats, V.flat, T.flats, T.flat, flats_app, flats_int, flats_bool, flats_str, flats_node, flats_asked, flats_pair, flats_recs, flats_fact, flatEs_mpB, flatEs_mpI, flatEs_mp3]; done), WkT.refl _, by first | rfl | omega | (simp only [tlL] <;> omega) | (simp <;> omega) | (simp [] <;> omega), WkT.refl _, trivial⟩ ⟨rfl, trivial⟩ rfl rfl (fun _ h => h)
theorem F_spec_l4No_W_C (x0 : List Int) (x1 : List Int) (y0 : List Int) (h : F_spec_l4No x0 x1 = some y0) : C Tryz.prog 148 [tl x0, tl x1] (tl y0) :=
 CG.toC (ps := [(List.length (List.map (ti) y0) = (List.length y0) * 1)]) (F_spec_l4No_W  x0 x1 y0 h) (by rfl) ⟨by first | rfl | omega | (simp <;> omega) | (simp [hl] <;> omega), trivial⟩
theorem F_spec_l4Within_W (x0 : List Int) (x1 : List Int) (y0 : Bool) (h : F_spec_l4Within x0 x1 = some y0) : C Tryz.prog 119 [tl x0, tl x1] (tb y0) := by
 unfold F_spec_l4Within at h
 refine C.intro (tab := tab) tab_ok (fn := Tryz.f119) Tryz.func119 (by kernel_rfl) rfl (Nat.le_of_ble_eq_true rfl) ?_
 refine WP.sk tm [] [] [(4, vb false), (0, vl x0), (1, vl x1)] [] trivial ?_
 refine WP.seq ?_
 obtain ⟨r8, c0, h⟩ := bnd1_some h
 refine WP.pk tm [(8, An.callG [(9000, 10080)] [vl x0] [] (vo 9000 (List.length r8)) [(9000, oc 24 (List.map (fun l => T.list (List.length l) 1 (List.map (ti) l)) r8))])] [(CG Tryz.prog 146 [vl x0] [] (vo 9000 (List.length r8)) [(9000, oc 24 (List.map (fun l => T.list (List.length l) 1 (List.map (ti) l)) r8))]), (WkT (tl x0) (tl x0))] [(5, vo 10080 (List.length r8)), (4, vb false), (0, vl x0), (1, vl x1)] [(10080, oc 24 (List.map (fun l => T.list (List.length l) 1 (List.map (ti) l)) r8))] ⟨(F_spec_l4Splits_W x0 r8 c0), WkT.refl _, trivial⟩ ?_
 obtain ⟨J1, hJ1, h⟩ := jn_some h
 refine WP.joinA (fun (zz : Unit) => ⟨[], [(4, vb false)], []⟩) (fun zz => J1 () = some y0) ?_ ?_
 ·refine WP.sk tm [] [] [(6, vi 0), (5, vo 10080 (List.length r8)), (4, vb false), (0, vl x0), (1, vl x1)] [(10080, oc 24 (List.map (fun l => T.list (List.length l) 1 (List.map (ti) l)) r8))] trivial ?_
  refine WP.block ?_
  refine WP.lp (α := Nat × Int) (fun zz => ⟨[10080], [(6, vi zz.2), (5, vo 10080 (List.length r8)), (4, vb false), (0, vl x0), (1, vl x1)], [(10080, oc 24 (List.map (fun l => T.list (List.length l) 1 (List.map (ti) l)) r8))]⟩) (fun zz => F_spec_l4Within_L1 x0 x1 r8 J1 zz.1 zz.2 = some y0) (fun zz => zz.1) (fuel, (0 : Int)) h ?_
  rintro ⟨n, v6⟩ h0
  have h := (show F_spec_l4Within_L1 x0 x1 r8 J1 n v6 = some y0 from h0)
  rcases n with _ | n
  ·rw [F_spec_l4Within_L1] at h; cases h
  ·rw [F_spec_l4Within_L1] at h
   refine WP.seq ?_
   refine WP.sk tm [] [(True)] [(12, vb (decide (v6 < (ln r8)))), (6, vi v6), (5, vo 10080 (List.length r8)), (4, vb false), (0, vl x0), (1, vl x1)] [(10080, oc 24 (List.map (fun l => T.list (List.length l) 1 (List.map (ti) l)) r8))] ⟨trivial, trivial⟩ ?_
   rcases ite_some h with ⟨h1, h⟩ | ⟨h1, h⟩
   ·refine WP.yes h1 rfl ?_
    refine WP.pk tm [] [] [(6, vi v6), (5, vo 10080 (List.length r8)), (4, vb false), (0, vl x0), (1, vl x1)] [(10080, oc 24 (List.map (fun l => T.list (List.length l) 1 (List.map (ti) l)) r8))] trivial ?_
    refine WP.seq ?_
    refine WP.block ?_
    obtain ⟨J2, hJ2, h⟩ := jn_some h
    refine WP.joinA (fun (zz : Bool) => ⟨[10080], [(38, vb zz), (6, vi v6), (5, vo 10080 (List.length r8)), (4, vb false), (0, vl x0), (1, vl x1)], [(10080, oc 24 (List.map (fun l => T.list (List.length l) 1 (List.map (ti) l)) r8))]⟩) (fun zz => J2 zz = some y0) ?_ ?_
    ·obtain ⟨c1, h⟩ := chk_some h
     obtain ⟨r21, c2, h⟩ := bnd1_some h
     obtain ⟨r22, c3, h⟩ := bnd1_some h
     obtain ⟨c4, h⟩ := chk_some h
     rcases ite_some h with ⟨h2, h⟩ | ⟨h2, h⟩
     ·obtain ⟨r33, c5, h⟩ := bnd1_some h
      obtain ⟨r34, c6, h⟩ := bnd1_some h
      obtain ⟨c7, h⟩ := chk_some h
      refine WP.qk tm [(20, An.v (tl (gt r8 v6 []))), (21, An.callG [(9000, 10210)] [vl x0, vl (gt r8 v6 [])] [] (vo 9000 (List.length r21)) [(9000, oc 3 (List.map (ti) r21))]), (22, An.call (ti r22)), (24, An.v (ti (gt x1 r22 0))), (25, An.b true), (32, An.v (tl (gt r8 v6 []))), (33, An.callG [(9000, 10330)] [vl x0, vl (gt r8 v6 [])] [] (vo 9000 (List.length r33)) [(9000, oc 3 (List.map (ti) r33))]), (34, An.call (ti r34)), (36, An.v (ti (gt x1 r34 0)))] [((0 ≤ v6 ∧ v6 < (ln r8))), ((List.map (fun l => T.list (List.length l) 1 (List.map (ti) l)) r8 : List T)[(Int.toNat v6) * 1]? = some (tl (gt r8 v6 []))), (tl (gt r8 v6 []) = tl (gt r8 v6 [])), (CG Tryz.prog 147 [vl x0, vl (gt r8 v6 [])] [] (vo 9000 (List.length r21)) [(9000, oc 3 (List.map (ti) r21))]), (WkT (tl x0) (tl x0)), (WkT (tl (gt r8 v6 [])) (tl (gt r8 v6 []))), (C Tryz.prog 104 [tl r21] (ti r22)), (List.length (List.map (ti) r21) = (List.length r21) * 1), ((0 ≤ r22 ∧ r22 < (ln x1))), ((List.drop ((Int.toNat r22) * 1) (List.map (ti) x1) : List T)[0]? = some (ti (gt x1 r22 0))), (ti (gt x1 r22 0) = ti (gt x1 r22 0)), (True), ((decide ((gt x1 r22 0) ≥ (0 : Int))) = true), ((0 ≤ v6 ∧ v6 < (ln r8))), ((List.map (fun l => T.list (List.length l) 1 (List.map (ti) l)) r8 : List T)[(Int.toNat v6) * 1]? = some (tl (gt r8 v6 []))), (tl (gt r8 v6 []) = tl (gt r8 v6 [])), (CG Tryz.prog 148 [vl x0, vl (gt r8 v6 [])] [] (vo 9000 (List.length r33)) [(9000, oc 3 (List.map (ti) r33))]), (WkT (tl x0) (tl x0)), (WkT (tl (gt r8 v6 [])) (tl (gt r8 v6 []))), (C Tryz.prog 104 [tl r33] (ti r34)), (List.length (List.map (ti) r33) = (List.length r33) * 1), ((0 ≤ r34 ∧ r34 < (ln x1))), ((List.drop ((Int.toNat r34) * 1) (List.map (ti) x1) : List T)[0]? = some (ti (gt x1 r34 0))), (ti (gt x1 r34 0) = ti (gt x1 r34 0)), (True)] [(38, vb (decide ((gt x1 r34 0) ≥ (0 : Int)))), (6, vi v6), (5, vo 10080 (List.length r8)), (4, vb false), (0, vl x0), (1, vl x1)] [(10080, oc 24 (List.map (fun l => T.list (List.length l) 1 (List.map (ti) l)) r8))] ⟨c1, atM (by simp) (by first | omega | (simp only [tlL]; omega) | (simp; omega)), rfl, (F_spec_l4Yes_W x0 (gt r8 v6 []) r21 c2), WkT.refl _, WkT.refl _, (F_spec_l4Key_W r21 r22 c3), by first | rfl | omega | (simp only [tlL] <;> omega) | (simp <;> omega) | (simp [] <;> omega), c4, at1 (by simp) (by omega), rfl, trivial, h2, c1, atM (by simp) (by first | omega | (simp only [tlL]; omega) | (simp; omega)), rfl, (F_spec_l4No_W x0 (gt r8 v6 []) r33 c5), WkT.refl _, WkT.refl _, (F_spec_l4Key_W r33 r34 c6), by first | rfl | omega | (simp only [tlL] <;> omega) | (simp <;> omega) | (simp [] <;> omega), c7, at1 (by simp) (by omega), rfl, trivial, trivial⟩ ?_
      exact ⟨(decide ((gt x1 r34 0) ≥ (0 : Int))), h, rfl⟩
     ·refine WP.qk tm [(20, An.v (tl (gt r8 v6 []))), (21, An.callG [(9000, 10210)] [vl x0, vl (gt r8 v6 [])] [] (vo 9000 (List.length r21)) [(9000, oc 3 (List.map (ti) r21))]), (22, An.call (ti r22)), (24, An.v (ti (gt x1 r22 0))), (25, An.b false)] [((0 ≤ v6 ∧ v6 < (ln r8))), ((List.map (fun l => T.list (List.length l) 1 (List.map (ti) l)) r8 : List T)[(Int.toNat v6) * 1]? = some (tl (gt r8 v6 []))), (tl (gt r8 v6 []) = tl (gt r8 v6 [])), (CG Tryz.prog 147 [vl x0, vl (gt r8 v6 [])] [] (vo 9000 (List.length r21)) [(9000, oc 3 (List.map (ti) r21))]), (WkT (tl x0) (tl x0)), (WkT (tl (gt r8 v6 [])) (tl (gt r8 v6 []))), (C Tryz.prog 104 [tl r21] (ti r22)), (List.length (List.map (ti) r21) = (List.length r21) * 1), ((0 ≤ r22 ∧ r22 < (ln x1))), ((List.drop ((Int.toNat r22) * 1) (List.map (ti) x1) : List T)[0]? = some (ti (gt x1 r22 0))), (ti (gt x1 r22 0) = ti (gt x1 r22 0)), (True), ((decide ((gt x1 r22 0) ≥ (0 : Int))) = false)] [(38, vb false), (6, vi v6), (5, vo 10080 (List.length r8)), (4, vb false), (0, vl x0), (1, vl x1)] [(10080, oc 24 (List.map (fun l => T.list (List.length l) 1 (List.map (ti) l)) r8))] ⟨c1, atM (by simp) (by first | omega | (simp only [tlL]; omega) | (simp; omega)), rfl, (F_spec_l4Yes_W x0 (gt r8 v6 []) r21 c2), WkT.refl _, WkT.refl _, (F_spec_l4Key_W r21 r22 c3), by first | rfl | omega | (simp only [tlL] <;> omega) | (simp <;> omega) | (simp [] <;> omega), c4, at1 (by simp) (by omega), rfl, trivial, h2, trivial⟩ ?_
      exact ⟨(false), h, rfl⟩
    ·intro v38 h0
     have h := (show J2 v38 = some y0 from h0)
     rw [hJ2] at h
     rcases ite_some h with ⟨h3, h⟩ | ⟨h3, h⟩
     ·refine WP.yes h3 rfl ?_
      have h := Option.some.inj h
      subst h
      exact WP.pathW tab_ok mixed [] _ (ps := []) (r := tb true) (by kernel_rfl) trivial (WkT.eq (y := tb true) (WkT.refl _) rfl) (fun _ h => h)
     ·refine WP.no h3 rfl ?_
      refine WP.pk tm [] [] [(6, vi v6), (5, vo 10080 (List.length r8)), (4, vb false), (0, vl x0), (1, vl x1)] [(10080, oc 24 (List.map (fun l => T.list (List.length l) 1 (List.map (ti) l)) r8))] trivial ?_
      obtain ⟨c1, h⟩ := chk_some h
      refine WP.qk tm [(14, An.v (ti (v6 + 1)))] [(True), (wr (v6 + 1))] [(6, vi (v6 + 1)), (5, vo 10080 (List.length r8)), (4, vb false), (0, vl x0), (1, vl x1)] [(10080, oc 24 (List.map (fun l => T.list (List.length l) 1 (List.map (ti) l)) r8))] ⟨trivial, wrapI c1, trivial⟩ ?_
      exact ⟨(n, (v6 + 1)), h, Nat.lt_succ_self _, rfl⟩
   ·refine WP.no h1 rfl ?_
    refine WP.eq tm [] 0 [] [(4, vb false)] [] trivial ?_
    exact ⟨(), h, rfl⟩
 ·intro _ h0
  have h := (show J1 () = some y0 from h0)
  rw [hJ1] at h
  have h := Option.some.inj h
  subst h
  exact WP.pathW tab_ok mixed [] _ (ps := []) (r := tb false) (by kernel_rfl) trivial (WkT.eq (y := tb false) (WkT.refl _) rfl) (fun _ h => h)
theorem F_spec_l4Needs_W (x0 : Int) (y0 : List Int) (h : F_spec_l4Needs x0 = some y0) : CG Tryz.prog 64 [vi x0] [] (vo 9000 (List.length y0)) [(9000, oc 3 (List.map (ti) y0))] := by
 unfold F_spec_l4Needs at h
 refine CG.intro (tab := tab) tab_ok (fn := Tryz.f64) Tryz.func64 (by kernel_rfl) rfl (Nat.le_of_ble_eq_true rfl) (by kernel_rfl) ?_
 refine WP.sk tm [] [] [(2, V.t (T.nils)), (0, vi x0)] [] trivial ?_
 refine WP.sk tm [] [] [(3, vi 1), (2, V.t (T.nils)), (0, vi x0)] [] trivial ?_
 obtain ⟨J1, hJ1, h⟩ := jn_some h
 refine WP.joinA (fun (zz : Int) => ⟨[], [(3, vi zz), (2, V.t (T.nils)), (0, vi x0)], []⟩) (fun zz => J1 zz = some y0) ?_ ?_
 ·refine WP.sk tm [] [] [(4, vi 0), (3, vi 1), (2, V.t (T.nils)), (0, vi x0)] [] trivial ?_
  refine WP.block ?_
  refine WP.lp (α := Nat × Int × Int) (fun zz => ⟨[], [(4, vi zz.2.1), (3, vi zz.2.2), (2, V.t (T.nils)), (0, vi x0)], []⟩) (fun zz => F_spec_l4Needs_L1 x0 J1 zz.1 zz.2.1 zz.2.2 = some y0) (fun zz => zz.1) (fuel, (0 : Int), (1 : Int)) h ?_
  rintro ⟨n, v4, v3⟩ h0
  have h := (show F_spec_l4Needs_L1 x0 J1 n v4 v3 = some y0 from h0)
  rcases n with _ | n
  ·rw [F_spec_l4Needs_L1] at h; cases h
  ·rw [F_spec_l4Needs_L1] at h
   refine WP.seq ?_
   refine WP.sk tm [] [(True)] [(16, vb (decide (v4 < x0))), (4, vi v4), (3, vi v3), (2, V.t (T.nils)), (0, vi x0)] [] ⟨trivial, trivial⟩ ?_
   rcases ite_some h with ⟨h1, h⟩ | ⟨h1, h⟩
   ·refine WP.yes h1 rfl ?_
    refine WP.pk tm [] [] [(4, vi v4), (3, vi v3), (2, V.t (T.nils)), (0, vi x0)] [] trivial ?_
    refine WP.seq ?_
    refine WP.block ?_
    obtain ⟨c0, h⟩ := chk_some h
    refine WP.pk tm [(20, An.v (ti (v3 * 9)))] [(True), (wr (v3 * 9))] [(3, vi (v3 * 9)), (4, vi v4), (2, V.t (T.nils)), (0, vi x0)] [] ⟨trivial, wrapI c0, trivial⟩ ?_
    obtain ⟨c1, h⟩ := chk_some h
    refine WP.qk tm [(18, An.v (ti (v4 + 1)))] [(True), (wr (v4 + 1))] [(4, vi (v4 + 1)), (3, vi (v3 * 9)), (2, V.t (T.nils)), (0, vi x0)] [] ⟨trivial, wrapI c1, trivial⟩ ?_
    exact ⟨(n, (v4 + 1), (v3 * 9)), h, Nat.lt_succ_self _, rfl⟩
   ·refine WP.no h1 rfl ?_
    refine WP.eq tm [] 0 [] [(3, vi v3), (2, V.t (T.nils)), (0, vi x0)] [] trivial ?_
    exact ⟨(v3), h, rfl⟩
 ·intro v3 h0
  have h := (show J1 v3 = some y0 from h0)
  rw [hJ1] at h
  refine WP.seq ?_
  obtain ⟨c0, h⟩ := chk_some h
  refine WP.pn tm [(22, An.id 2022), (23, An.id 2023)] [((0 ≤ v3 ∧ v3 ≤ v3 ∧ (8 : Int) * v3 ≤ 281474976710656 ∧ v3 ≤ (maxLen : Int))), (True), (0 = 0 * 1)] [2023, 2022] [(6, vo 2023 0), (5, vo 2022 (Int.toNat v3)), (3, vi v3), (2, V.t (T.nils)), (0, vi x0)] [(2022, oc 3 (List.replicate (Int.toNat v3) (ti 0))), (2023, oc 3 [])] ⟨c0, trivial, by decide, trivial⟩ ?_
  obtain ⟨J1, hJ1, h⟩ := jn_some h
  refine WP.joinA (fun (zz : (List Int) × (List Int)) => ⟨[2022, 2023], [(6, vo 2023 (List.length zz.2)), (5, vo 2022 (List.length zz.1)), (2, V.t (T.nils)), (0, vi x0)], [(2022, oc 3 (List.map (ti) zz.1)), (2023, oc 3 (List.map (ti) zz.2))]⟩) (fun zz => J1 zz.1 zz.2 = some y0) ?_ ?_
  ·refine WP.sn tm [] [] [2023, 2022] [(7, vi 0), (6, vo 2023 0), (5, vo 2022 (Int.toNat v3)), (3, vi v3), (2, V.t (T.nils)), (0, vi x0)] [(2022, oc 3 (List.replicate (Int.toNat v3) (ti 0))), (2023, oc 3 [])] trivial ?_
   refine WP.block ?_
   refine WP.wk [.keep [7, 6, 5, 3, 2, 0], .keepO [2022, 2023], .names [(2022, 2022), (2023, 2023)]] (σ' := ⟨[2022, 2023], [(7, vi 0), (6, vo 2023 0), (5, vo 2022 (Int.toNat v3)), (3, vi v3), (2, V.t (T.nils)), (0, vi x0)], [(2022, oc 3 (List.replicate (Int.toNat v3) (ti 0))), (2023, oc 3 [])]⟩) (ps := []) (by kernel_rfl) trivial ?_
   refine WP.st (σ' := ⟨[2022, 2023], [(7, vi (0 : Int)), (6, vo 2023 (List.length ([] : List Int))), (5, vo 2022 (List.length (List.replicate (Int.toNat v3) (0 : Int)))), (3, vi v3), (2, V.t (T.nils)), (0, vi x0)], [(2022, oc 3 (List.map (ti) (List.replicate (Int.toNat v3) (0 : Int)))), (2023, oc 3 (List.map (ti) ([] : List Int)))]⟩) (by simp <;> omega) ?_
   refine WP.loop (α := Nat × (List Int) × (List Int) × Int) (fun zz => ⟨[2022, 2023], [(7, vi zz.2.2.2), (6, vo 2023 (List.length zz.2.2.1)), (5, vo 2022 (List.length zz.2.1)), (3, vi v3), (2, V.t (T.nils)), (0, vi x0)], [(2022, oc 3 (List.map (T.int .i64) zz.2.1)), (2023, oc 3 (List.map (T.int .i64) zz.2.2.1))]⟩) (fun zz => F_spec_l4Needs_L2 x0 v3 J1 zz.1 zz.2.1 zz.2.2.1 zz.2.2.2 = some y0) (fun zz => zz.1) (fuel, List.replicate (Int.toNat v3) (0 : Int), ([] : List Int), (0 : Int)) h ?_
   rintro ⟨n, o22, o23, v7⟩ h0
   have h := (show F_spec_l4Needs_L2 x0 v3 J1 n o22 o23 v7 = some y0 from h0)
   rcases n with _ | n
   ·rw [F_spec_l4Needs_L2] at h; cases h
   ·rw [F_spec_l4Needs_L2] at h
    refine WP.seq ?_
    refine WP.sk tm [] [(True)] [(26, vb (decide (v7 < v3))), (7, vi v7), (6, vo 2023 (List.length o23)), (5, vo 2022 (List.length o22)), (3, vi v3), (2, V.t (T.nils)), (0, vi x0)] [(2022, oc 3 (List.map (ti) o22)), (2023, oc 3 (List.map (ti) o23))] ⟨trivial, trivial⟩ ?_
    rcases ite_some h with ⟨h2, h⟩ | ⟨h2, h⟩
    ·refine WP.yes h2 rfl ?_
     refine WP.pk tm [] [] [(7, vi v7), (6, vo 2023 (List.length o23)), (5, vo 2022 (List.length o22)), (3, vi v3), (2, V.t (T.nils)), (0, vi x0)] [(2022, oc 3 (List.map (ti) o22)), (2023, oc 3 (List.map (ti) o23))] trivial ?_
     obtain ⟨J2, hJ2, h⟩ := jn_some h
     refine WP.joinA (fun (zz : (List Int) × (List Int)) => ⟨[2022, 2023], [(7, vi v7), (6, vo 2023 (List.length zz.2)), (5, vo 2022 (List.length zz.1)), (3, vi v3), (2, V.t (T.nils)), (0, vi x0)], [(2022, oc 3 (List.map (ti) zz.1)), (2023, oc 3 (List.map (ti) zz.2))]⟩) (fun zz => J2 zz.1 zz.2 = some y0) ?_ ?_
     ·refine WP.block ?_
      refine WP.seq ?_
      obtain ⟨c1, h⟩ := chk_some h
      refine WP.pk tm [] [((0 ≤ v7 ∧ v7 < (ln o22))), ((Int.toNat v7) * 1 < List.length (List.map (ti) o22))] [(7, vi v7), (6, vo 2023 (List.length o23)), (5, vo 2022 (List.length o22)), (3, vi v3), (2, V.t (T.nils)), (0, vi x0)] [(2022, oc 3 (List.set (List.map (ti) o22) ((Int.toNat v7) * 1) (ti (-1)))), (2023, oc 3 (List.map (ti) o23))] ⟨c1, by first | decide | omega | (simp only [tlL] <;> omega) | (simp <;> omega) | (simp [] <;> omega), trivial⟩ ?_
      refine WP.seq ?_
      obtain ⟨r34, c2, h⟩ := bnd1_some h
      refine WP.pn tm [(34, An.callG [(9000, 10340)] [vi v7, vi x0] [] (vo 9000 (List.length r34)) [(9000, oc 3 (List.map (ti) r34))])] [(CG Tryz.prog 116 [vi v7, vi x0] [] (vo 9000 (List.length r34)) [(9000, oc 3 (List.map (ti) r34))]), (WkT (ti v7) (ti v7)), (WkT (ti x0) (ti x0))] [10340, 2022, 2023] [(8, vo 10340 (List.length r34)), (7, vi v7), (6, vo 2023 (List.length o23)), (5, vo 2022 (List.length o22)), (3, vi v3), (2, V.t (T.nils)), (0, vi x0)] [(2022, oc 3 (List.set (List.map (ti) o22) ((Int.toNat v7) * 1) (ti (-1)))), (2023, oc 3 (List.map (ti) o23)), (10340, oc 3 (List.map (ti) r34))] ⟨(F_spec_l4Counted_W v7 x0 r34 c2), WkT.refl _, WkT.refl _, trivial⟩ ?_
      refine WP.seq ?_
      obtain ⟨r36, c3, h⟩ := bnd1_some h
      refine WP.pn tm [(36, An.call (tb r36))] [(C Tryz.prog 117 [tl r34] (tb r36)), (List.length (List.map (ti) r34) = (List.length r34) * 1)] [10340, 2022, 2023] [(36, vb r36), (8, vo 10340 (List.length r34)), (7, vi v7), (6, vo 2023 (List.length o23)), (5, vo 2022 (List.length o22)), (3, vi v3), (2, V.t (T.nils)), (0, vi x0)] [(2022, oc 3 (List.set (List.map (ti) o22) ((Int.toNat v7) * 1) (ti (-1)))), (2023, oc 3 (List.map (ti) o23)), (10340, oc 3 (List.map (ti) r34))] ⟨(F_spec_l4Told_W r34 r36 c3), by first | rfl | omega | (simp only [tlL] <;> omega) | (simp <;> omega) | (simp [] <;> omega), trivial⟩ ?_
      rcases ite_some h with ⟨h3, h⟩ | ⟨h3, h⟩
      ·refine WP.yes h3 rfl ?_
       refine WP.qk tm [] [((0 ≤ v7 ∧ v7 < (ln o22))), ((Int.toNat v7) * 1 < List.length (List.set (List.map (ti) o22) ((Int.toNat v7) * 1) (ti (-1))))] [(7, vi v7), (6, vo 2023 (List.length o23)), (5, vo 2022 (List.length o22)), (3, vi v3), (2, V.t (T.nils)), (0, vi x0)] [(2022, oc 3 (List.set (List.set (List.map (ti) o22) ((Int.toNat v7) * 1) (ti (-1))) ((Int.toNat v7) * 1) (ti 0))), (2023, oc 3 (List.map (ti) o23))] ⟨c1, by first | decide | omega | (simp only [tlL] <;> omega) | (simp <;> omega) | (simp [] <;> omega), trivial⟩ ?_
       exact ⟨(List.set (List.set o22 (Int.toNat v7) (-1 : Int)) (Int.toNat v7) (0 : Int), o23), h, (by first | rfl | (simp only [tlS, tl, vl, vo, oc, ov, tbl, vbl, ty, vy] <;> rfl) | (simp <;> omega) | (simp []; done) | (rw [List.take_of_length_le (by simp [])] <;> rfl) | (simp [List.take_of_length_le]; done))⟩
      ·refine WP.no h3 rfl ?_
       refine WP.seq ?_
       obtain ⟨r41, c4, h⟩ := bnd1_some h
       refine WP.pn tm [(41, An.call (tb r41))] [(C Tryz.prog 118 [tl r34] (tb r41)), (List.length (List.map (ti) r34) = (List.length r34) * 1)] [10340, 2022, 2023] [(41, vb r41), (7, vi v7), (6, vo 2023 (List.length o23)), (5, vo 2022 (List.length o22)), (3, vi v3), (2, V.t (T.nils)), (0, vi x0)] [(2022, oc 3 (List.set (List.map (ti) o22) ((Int.toNat v7) * 1) (ti (-1)))), (2023, oc 3 (List.map (ti) o23))] ⟨(F_spec_l4Counts_W r34 r41 c4), by first | rfl | omega | (simp only [tlL] <;> omega) | (simp <;> omega) | (simp [] <;> omega), trivial⟩ ?_
       rcases ite_some h with ⟨h4, h⟩ | ⟨h4, h⟩
       ·refine WP.yes h4 rfl ?_
        obtain ⟨c5, h⟩ := chk_some h
        refine WP.nk tm [(44, An.fz), (45, An.id 2045)] [(2022, 2022), (2045, 2023)] .normal [((1 = 1 ∧ 0 + 1 ≤ 1) ∧ True), (1 = 1 * 1), (True), (List.length (List.map (ti) o23) = (List.length o23) * 1), ((((List.length o23) + 1) * 8 ≤ 140737488355328 ∧ (List.length o23) + 1 ≤ maxLen))] [(7, vi v7), (6, vo 2023 ((List.length o23) + 1)), (5, vo 2022 (List.length o22)), (3, vi v3), (2, V.t (T.nils)), (0, vi x0)] [(2022, oc 3 (List.set (List.map (ti) o22) ((Int.toNat v7) * 1) (ti (-1)))), (2023, oc 3 ((List.map (ti) o23) ++ [ti v7]))] ⟨⟨⟨by first | rfl | (simp; done) | (simp []; done) | omega, by first | decide | (simp; done) | (simp []; done) | omega | (simp only [tlL]; omega) | (simp; omega)⟩, trivial⟩, by decide, trivial, by first | rfl | omega | (simp only [tlL] <;> omega) | (simp <;> omega) | (simp [] <;> omega), c5, trivial⟩ ?_
        exact ⟨(List.set o22 (Int.toNat v7) (-1 : Int), o23 ++ [v7]), h, (by first | rfl | (simp only [tlS, tl, vl, vo, oc, ov, tbl, vbl, ty, vy] <;> rfl) | (simp <;> omega) | (simp []; done) | (rw [List.take_of_length_le (by simp [])] <;> rfl) | (simp [List.take_of_length_le]; done))⟩
       ·refine WP.no h4 rfl ?_
        refine WP.qk tm [] [] [(7, vi v7), (6, vo 2023 (List.length o23)), (5, vo 2022 (List.length o22)), (3, vi v3), (2, V.t (T.nils)), (0, vi x0)] [(2022, oc 3 (List.set (List.map (ti) o22) ((Int.toNat v7) * 1) (ti (-1)))), (2023, oc 3 (List.map (ti) o23))] trivial ?_
        exact ⟨(List.set o22 (Int.toNat v7) (-1 : Int), o23), h, (by first | rfl | (simp only [tlS, tl, vl, vo, oc, ov, tbl, vbl, ty, vy] <;> rfl) | (simp <;> omega) | (simp []; done) | (rw [List.take_of_length_le (by simp [])] <;> rfl) | (simp [List.take_of_length_le]; done))⟩
     ·rintro ⟨o22b, o23b⟩ h0
      have h := (show J2 o22b o23b = some y0 from h0)
      rw [hJ2] at h
      obtain ⟨c1, h⟩ := chk_some h
      refine WP.qk tm [(28, An.v (ti (v7 + 1)))] [(True), (wr (v7 + 1))] [(7, vi (v7 + 1)), (6, vo 2023 (List.length o23b)), (5, vo 2022 (List.length o22b)), (3, vi v3), (2, V.t (T.nils)), (0, vi x0)] [(2022, oc 3 (List.map (ti) o22b)), (2023, oc 3 (List.map (ti) o23b))] ⟨trivial, wrapI c1, trivial⟩ ?_
      exact ⟨(n, o22b, o23b, (v7 + 1)), h, Nat.lt_succ_self _, rfl⟩
    ·refine WP.no h2 rfl ?_
     refine WP.eq tm [] 2 [] [(6, vo 2023 (List.length o23)), (5, vo 2022 (List.length o22)), (2, V.t (T.nils)), (0, vi x0)] [(2022, oc 3 (List.map (ti) o22)), (2023, oc 3 (List.map (ti) o23))] trivial ?_
     exact ⟨(o22, o23), h, rfl⟩
  ·rintro ⟨o22, o23⟩ h0
   have h := (show J1 o22 o23 = some y0 from h0)
   rw [hJ1] at h
   obtain ⟨J1, hJ1, h⟩ := jn_some h
   refine WP.joinA (fun (zz : (List Int)) => ⟨[2022], [(5, vo 2022 (List.length zz)), (2, V.t (T.nils))], [(2022, oc 3 (List.map (ti) zz))]⟩) (fun zz => J1 zz = some y0) ?_ ?_
   ·refine WP.sk tm [] [] [(9, vi 1), (6, vo 2023 (List.length o23)), (5, vo 2022 (List.length o22)), (2, V.t (T.nils)), (0, vi x0)] [(2022, oc 3 (List.map (ti) o22)), (2023, oc 3 (List.map (ti) o23))] trivial ?_
    refine WP.block ?_
    refine WP.lp (α := Nat × (List Int) × (List Int) × Int) (fun zz => ⟨[2022, 2023], [(9, vi zz.2.2.2), (6, vo 2023 (List.length zz.2.2.1)), (5, vo 2022 (List.length zz.2.1)), (2, V.t (T.nils)), (0, vi x0)], [(2022, oc 3 (List.map (ti) zz.2.1)), (2023, oc 3 (List.map (ti) zz.2.2.1))]⟩) (fun zz => F_spec_l4Needs_L3 x0 J1 zz.1 zz.2.1 zz.2.2.1 zz.2.2.2 = some y0) (fun zz => zz.1) (fuel, o22, o23, (1 : Int)) h ?_
    rintro ⟨n, o22b, o23b, v9⟩ h0
    have h := (show F_spec_l4Needs_L3 x0 J1 n o22b o23b v9 = some y0 from h0)
    rcases n with _ | n
    ·rw [F_spec_l4Needs_L3] at h; cases h
    ·rw [F_spec_l4Needs_L3] at h
     refine WP.seq ?_
     refine WP.sk tm [] [(True)] [(48, vb (decide ((ln o23b) > (0 : Int)))), (9, vi v9), (6, vo 2023 (List.length o23b)), (5, vo 2022 (List.length o22b)), (2, V.t (T.nils)), (0, vi x0)] [(2022, oc 3 (List.map (ti) o22b)), (2023, oc 3 (List.map (ti) o23b))] ⟨trivial, trivial⟩ ?_
     rcases ite_some h with ⟨h5, h⟩ | ⟨h5, h⟩
     ·refine WP.yes h5 rfl ?_
      refine WP.pk tm [] [] [(9, vi v9), (6, vo 2023 (List.length o23b)), (5, vo 2022 (List.length o22b)), (2, V.t (T.nils)), (0, vi x0)] [(2022, oc 3 (List.map (ti) o22b)), (2023, oc 3 (List.map (ti) o23b))] trivial ?_
      obtain ⟨J2, hJ2, h⟩ := jn_some h
      refine WP.joinA (fun (zz : (List Int) × (List Int)) => ⟨[2022, 2052], [(6, vo 2052 (List.length zz.2)), (9, vi v9), (5, vo 2022 (List.length zz.1)), (2, V.t (T.nils)), (0, vi x0)], [(2022, oc 3 (List.map (ti) zz.1)), (2052, oc 3 (List.map (ti) zz.2))]⟩) (fun zz => J2 zz.1 zz.2 = some y0) ?_ ?_
      ·refine WP.block ?_
       refine WP.sn tm [(51, An.id 2051), (52, An.id 2052)] [(True), (0 = 0 * 1), (True), (0 = 0 * 1)] [2052, 2051, 2022, 2023] [(11, vo 2052 0), (10, vo 2051 0), (9, vi v9), (6, vo 2023 (List.length o23b)), (5, vo 2022 (List.length o22b)), (2, V.t (T.nils)), (0, vi x0)] [(2022, oc 3 (List.map (ti) o22b)), (2023, oc 3 (List.map (ti) o23b)), (2051, oc 3 []), (2052, oc 3 [])] ⟨trivial, by decide, trivial, by decide, trivial⟩ ?_
       obtain ⟨J3, hJ3, h⟩ := jn_some h
       refine WP.joinA (fun (zz : (List Int) × (List Int)) => ⟨[2022, 2023, 2051, 2052], [(11, vo 2052 (List.length zz.2)), (10, vo 2051 (List.length zz.1)), (9, vi v9), (6, vo 2023 (List.length o23b)), (5, vo 2022 (List.length o22b)), (2, V.t (T.nils)), (0, vi x0)], [(2022, oc 3 (List.map (ti) o22b)), (2023, oc 3 (List.map (ti) o23b)), (2051, oc 3 (List.map (ti) zz.1)), (2052, oc 3 (List.map (ti) zz.2))]⟩) (fun zz => J3 zz.1 zz.2 = some y0) ?_ ?_
       ·refine WP.sn tm [] [] [2052, 2051, 2022, 2023] [(12, vi 0), (11, vo 2052 0), (10, vo 2051 0), (9, vi v9), (6, vo 2023 (List.length o23b)), (5, vo 2022 (List.length o22b)), (2, V.t (T.nils)), (0, vi x0)] [(2022, oc 3 (List.map (ti) o22b)), (2023, oc 3 (List.map (ti) o23b)), (2051, oc 3 []), (2052, oc 3 [])] trivial ?_
        refine WP.block ?_
        refine WP.lp (α := Nat × (List Int) × (List Int) × Int) (fun zz => ⟨[2022, 2023, 2051, 2052], [(12, vi zz.2.2.2), (11, vo 2052 (List.length zz.2.2.1)), (10, vo 2051 (List.length zz.2.1)), (9, vi v9), (6, vo 2023 (List.length o23b)), (5, vo 2022 (List.length o22b)), (2, V.t (T.nils)), (0, vi x0)], [(2022, oc 3 (List.map (ti) o22b)), (2023, oc 3 (List.map (ti) o23b)), (2051, oc 3 (List.map (ti) zz.2.1)), (2052, oc 3 (List.map (ti) zz.2.2.1))]⟩) (fun zz => F_spec_l4Needs_L4 x0 o22b o23b J3 zz.1 zz.2.1 zz.2.2.1 zz.2.2.2 = some y0) (fun zz => zz.1) (fuel, ([] : List Int), ([] : List Int), (0 : Int)) h ?_
        rintro ⟨n, o51, o52, v12⟩ h0
        have h := (show F_spec_l4Needs_L4 x0 o22b o23b J3 n o51 o52 v12 = some y0 from h0)
        rcases n with _ | n
        ·rw [F_spec_l4Needs_L4] at h; cases h
        ·rw [F_spec_l4Needs_L4] at h
         refine WP.seq ?_
         refine WP.sk tm [] [(True)] [(56, vb (decide (v12 < (ln o23b)))), (12, vi v12), (11, vo 2052 (List.length o52)), (10, vo 2051 (List.length o51)), (9, vi v9), (6, vo 2023 (List.length o23b)), (5, vo 2022 (List.length o22b)), (2, V.t (T.nils)), (0, vi x0)] [(2022, oc 3 (List.map (ti) o22b)), (2023, oc 3 (List.map (ti) o23b)), (2051, oc 3 (List.map (ti) o51)), (2052, oc 3 (List.map (ti) o52))] ⟨trivial, trivial⟩ ?_
         rcases ite_some h with ⟨h6, h⟩ | ⟨h6, h⟩
         ·refine WP.yes h6 rfl ?_
          refine WP.pk tm [] [] [(12, vi v12), (11, vo 2052 (List.length o52)), (10, vo 2051 (List.length o51)), (9, vi v9), (6, vo 2023 (List.length o23b)), (5, vo 2022 (List.length o22b)), (2, V.t (T.nils)), (0, vi x0)] [(2022, oc 3 (List.map (ti) o22b)), (2023, oc 3 (List.map (ti) o23b)), (2051, oc 3 (List.map (ti) o51)), (2052, oc 3 (List.map (ti) o52))] trivial ?_
          refine WP.seq ?_
          refine WP.block ?_
          refine WP.seq ?_
          obtain ⟨c1, h⟩ := chk_some h
          obtain ⟨r64, c2, h⟩ := bnd1_some h
          obtain ⟨r66, c3, h⟩ := bnd1_some h
          refine WP.pn tm [(62, An.v (ti (gt o23b v12 0))), (64, An.callG [(9000, 10640)] [vi (gt o23b v12 0), vi x0] [] (vo 9000 (List.length r64)) [(9000, oc 3 (List.map (ti) r64))]), (66, An.call (tb r66))] [((0 ≤ v12 ∧ v12 < (ln o23b))), ((List.map (ti) o23b : List T)[(Int.toNat v12) * 1]? = some (ti (gt o23b v12 0))), (ti (gt o23b v12 0) = ti (gt o23b v12 0)), (CG Tryz.prog 116 [vi (gt o23b v12 0), vi x0] [] (vo 9000 (List.length r64)) [(9000, oc 3 (List.map (ti) r64))]), (WkT (ti (gt o23b v12 0)) (ti (gt o23b v12 0))), (WkT (ti x0) (ti x0)), (C Tryz.prog 119 [tl r64, tl o22b] (tb r66)), (List.length (List.map (ti) r64) = (List.length r64) * 1), (List.length (List.map (ti) o22b) = (List.length o22b) * 1)] [10640, 2022, 2023, 2051, 2052] [(66, vb r66), (12, vi v12), (11, vo 2052 (List.length o52)), (10, vo 2051 (List.length o51)), (9, vi v9), (6, vo 2023 (List.length o23b)), (5, vo 2022 (List.length o22b)), (2, V.t (T.nils)), (0, vi x0)] [(2022, oc 3 (List.map (ti) o22b)), (2023, oc 3 (List.map (ti) o23b)), (2051, oc 3 (List.map (ti) o51)), (2052, oc 3 (List.map (ti) o52))] ⟨c1, atM (by simp) (by first | omega | (simp only [tlL]; omega) | (simp; omega)), rfl, (F_spec_l4Counted_W (gt o23b v12 0) x0 r64 c2), WkT.refl _, WkT.refl _, (F_spec_l4Within_W r64 o22b r66 c3), by first | rfl | omega | (simp only [tlL] <;> omega) | (simp <;> omega) | (simp [] <;> omega), by first | rfl | omega | (simp only [tlL] <;> omega) | (simp <;> omega) | (simp [] <;> omega), trivial⟩ ?_
          rcases ite_some h with ⟨h7, h⟩ | ⟨h7, h⟩
          ·refine WP.yes h7 rfl ?_
           obtain ⟨c4, h⟩ := chk_some h
           refine WP.pn tm [(71, An.v (ti (gt o23b v12 0))), (72, An.fz), (73, An.id 2073)] [((0 ≤ v12 ∧ v12 < (ln o23b))), ((List.map (ti) o23b : List T)[(Int.toNat v12) * 1]? = some (ti (gt o23b v12 0))), (ti (gt o23b v12 0) = ti (gt o23b v12 0)), ((1 = 1 ∧ 0 + 1 ≤ 1) ∧ True), (1 = 1 * 1), (True), (List.length (List.map (ti) o51) = (List.length o51) * 1), ((((List.length o51) + 1) * 8 ≤ 140737488355328 ∧ (List.length o51) + 1 ≤ maxLen))] [2073, 10640, 2022, 2023, 2051, 2052] [(10, vo 2073 ((List.length o51) + 1)), (12, vi v12), (11, vo 2052 (List.length o52)), (9, vi v9), (6, vo 2023 (List.length o23b)), (5, vo 2022 (List.length o22b)), (2, V.t (T.nils)), (0, vi x0)] [(2022, oc 3 (List.map (ti) o22b)), (2023, oc 3 (List.map (ti) o23b)), (2052, oc 3 (List.map (ti) o52)), (2073, oc 3 ((List.map (ti) o51) ++ [ti (gt o23b v12 0)]))] ⟨c1, atM (by simp) (by first | omega | (simp only [tlL]; omega) | (simp; omega)), rfl, ⟨⟨by first | rfl | (simp; done) | (simp []; done) | omega, by first | decide | (simp; done) | (simp []; done) | omega | (simp only [tlL]; omega) | (simp; omega)⟩, trivial⟩, by decide, trivial, by first | rfl | omega | (simp only [tlL] <;> omega) | (simp <;> omega) | (simp [] <;> omega), c4, trivial⟩ ?_
           obtain ⟨c5, h⟩ := chk_some h
           refine WP.nk tm [(58, An.v (ti (v12 + 1)))] [(2022, 2022), (2023, 2023), (2073, 2051), (2052, 2052)] .normal [(True), (wr (v12 + 1))] [(12, vi (v12 + 1)), (11, vo 2052 (List.length o52)), (10, vo 2051 ((List.length o51) + 1)), (9, vi v9), (6, vo 2023 (List.length o23b)), (5, vo 2022 (List.length o22b)), (2, V.t (T.nils)), (0, vi x0)] [(2022, oc 3 (List.map (ti) o22b)), (2023, oc 3 (List.map (ti) o23b)), (2051, oc 3 ((List.map (ti) o51) ++ [ti (gt o23b v12 0)])), (2052, oc 3 (List.map (ti) o52))] ⟨trivial, wrapI c5, trivial⟩ ?_
           exact ⟨(n, o51 ++ [(gt o23b v12 0)], o52, (v12 + 1)), h, Nat.lt_succ_self _, (by first | rfl | (simp only [tlS, tl, vl, vo, oc, ov, tbl, vbl, ty, vy] <;> rfl) | (simp <;> omega) | (simp []; done) | (rw [List.take_of_length_le (by simp [])] <;> rfl) | (simp [List.take_of_length_le]; done))⟩
          ·refine WP.no h7 rfl ?_
           obtain ⟨c4, h⟩ := chk_some h
           refine WP.pn tm [(78, An.v (ti (gt o23b v12 0))), (79, An.fz), (80, An.id 2080)] [((0 ≤ v12 ∧ v12 < (ln o23b))), ((List.map (ti) o23b : List T)[(Int.toNat v12) * 1]? = some (ti (gt o23b v12 0))), (ti (gt o23b v12 0) = ti (gt o23b v12 0)), ((1 = 1 ∧ 0 + 1 ≤ 1) ∧ True), (1 = 1 * 1), (True), (List.length (List.map (ti) o52) = (List.length o52) * 1), ((((List.length o52) + 1) * 8 ≤ 140737488355328 ∧ (List.length o52) + 1 ≤ maxLen))] [2080, 10640, 2022, 2023, 2051, 2052] [(11, vo 2080 ((List.length o52) + 1)), (12, vi v12), (10, vo 2051 (List.length o51)), (9, vi v9), (6, vo 2023 (List.length o23b)), (5, vo 2022 (List.length o22b)), (2, V.t (T.nils)), (0, vi x0)] [(2022, oc 3 (List.map (ti) o22b)), (2023, oc 3 (List.map (ti) o23b)), (2051, oc 3 (List.map (ti) o51)), (2080, oc 3 ((List.map (ti) o52) ++ [ti (gt o23b v12 0)]))] ⟨c1, atM (by simp) (by first | omega | (simp only [tlL]; omega) | (simp; omega)), rfl, ⟨⟨by first | rfl | (simp; done) | (simp []; done) | omega, by first | decide | (simp; done) | (simp []; done) | omega | (simp only [tlL]; omega) | (simp; omega)⟩, trivial⟩, by decide, trivial, by first | rfl | omega | (simp only [tlL] <;> omega) | (simp <;> omega) | (simp [] <;> omega), c4, trivial⟩ ?_
           obtain ⟨c5, h⟩ := chk_some h
           refine WP.nk tm [(58, An.v (ti (v12 + 1)))] [(2022, 2022), (2023, 2023), (2051, 2051), (2080, 2052)] .normal [(True), (wr (v12 + 1))] [(12, vi (v12 + 1)), (11, vo 2052 ((List.length o52) + 1)), (10, vo 2051 (List.length o51)), (9, vi v9), (6, vo 2023 (List.length o23b)), (5, vo 2022 (List.length o22b)), (2, V.t (T.nils)), (0, vi x0)] [(2022, oc 3 (List.map (ti) o22b)), (2023, oc 3 (List.map (ti) o23b)), (2051, oc 3 (List.map (ti) o51)), (2052, oc 3 ((List.map (ti) o52) ++ [ti (gt o23b v12 0)]))] ⟨trivial, wrapI c5, trivial⟩ ?_
           exact ⟨(n, o51, o52 ++ [(gt o23b v12 0)], (v12 + 1)), h, Nat.lt_succ_self _, (by first | rfl | (simp only [tlS, tl, vl, vo, oc, ov, tbl, vbl, ty, vy] <;> rfl) | (simp <;> omega) | (simp []; done) | (rw [List.take_of_length_le (by simp [])] <;> rfl) | (simp [List.take_of_length_le]; done))⟩
         ·refine WP.no h6 rfl ?_
          refine WP.eq tm [] 6 [] [(11, vo 2052 (List.length o52)), (10, vo 2051 (List.length o51)), (9, vi v9), (6, vo 2023 (List.length o23b)), (5, vo 2022 (List.length o22b)), (2, V.t (T.nils)), (0, vi x0)] [(2022, oc 3 (List.map (ti) o22b)), (2023, oc 3 (List.map (ti) o23b)), (2051, oc 3 (List.map (ti) o51)), (2052, oc 3 (List.map (ti) o52))] trivial ?_
          exact ⟨(o51, o52), h, rfl⟩
       ·rintro ⟨o51, o52⟩ h0
        have h := (show J3 o51 o52 = some y0 from h0)
        rw [hJ3] at h
        obtain ⟨J3, hJ3, h⟩ := jn_some h
        refine WP.joinA (fun (zz : (List Int)) => ⟨[2022, 2023, 2052], [(11, vo 2052 (List.length o52)), (9, vi v9), (6, vo 2023 (List.length o23b)), (5, vo 2022 (List.length zz)), (2, V.t (T.nils)), (0, vi x0)], [(2022, oc 3 (List.map (ti) zz)), (2023, oc 3 (List.map (ti) o23b)), (2052, oc 3 (List.map (ti) o52))]⟩) (fun zz => J3 zz = some y0) ?_ ?_
        ·refine WP.sk tm [] [] [(13, vi 0), (11, vo 2052 (List.length o52)), (10, vo 2051 (List.length o51)), (9, vi v9), (6, vo 2023 (List.length o23b)), (5, vo 2022 (List.length o22b)), (2, V.t (T.nils)), (0, vi x0)] [(2022, oc 3 (List.map (ti) o22b)), (2023, oc 3 (List.map (ti) o23b)), (2051, oc 3 (List.map (ti) o51)), (2052, oc 3 (List.map (ti) o52))] trivial ?_
         refine WP.block ?_
         refine WP.lp (α := Nat × (List Int) × Int) (fun zz => ⟨[2022, 2023, 2051, 2052], [(13, vi zz.2.2), (11, vo 2052 (List.length o52)), (10, vo 2051 (List.length o51)), (9, vi v9), (6, vo 2023 (List.length o23b)), (5, vo 2022 (List.length zz.2.1)), (2, V.t (T.nils)), (0, vi x0)], [(2022, oc 3 (List.map (ti) zz.2.1)), (2023, oc 3 (List.map (ti) o23b)), (2051, oc 3 (List.map (ti) o51)), (2052, oc 3 (List.map (ti) o52))]⟩) (fun zz => F_spec_l4Needs_L5 v9 o51 J3 zz.1 zz.2.1 zz.2.2 = some y0) (fun zz => zz.1) (fuel, o22b, (0 : Int)) h ?_
         rintro ⟨n, o22c, v13⟩ h0
         have h := (show F_spec_l4Needs_L5 v9 o51 J3 n o22c v13 = some y0 from h0)
         rcases n with _ | n
         ·rw [F_spec_l4Needs_L5] at h; cases h
         ·rw [F_spec_l4Needs_L5] at h
          refine WP.seq ?_
          refine WP.sk tm [] [(True)] [(84, vb (decide (v13 < (ln o51)))), (13, vi v13), (11, vo 2052 (List.length o52)), (10, vo 2051 (List.length o51)), (9, vi v9), (6, vo 2023 (List.length o23b)), (5, vo 2022 (List.length o22c)), (2, V.t (T.nils)), (0, vi x0)] [(2022, oc 3 (List.map (ti) o22c)), (2023, oc 3 (List.map (ti) o23b)), (2051, oc 3 (List.map (ti) o51)), (2052, oc 3 (List.map (ti) o52))] ⟨trivial, trivial⟩ ?_
          rcases ite_some h with ⟨h8, h⟩ | ⟨h8, h⟩
          ·refine WP.yes h8 rfl ?_
           refine WP.pk tm [] [] [(13, vi v13), (11, vo 2052 (List.length o52)), (10, vo 2051 (List.length o51)), (9, vi v9), (6, vo 2023 (List.length o23b)), (5, vo 2022 (List.length o22c)), (2, V.t (T.nils)), (0, vi x0)] [(2022, oc 3 (List.map (ti) o22c)), (2023, oc 3 (List.map (ti) o23b)), (2051, oc 3 (List.map (ti) o51)), (2052, oc 3 (List.map (ti) o52))] trivial ?_
           refine WP.seq ?_
           refine WP.block ?_
           obtain ⟨c1, h⟩ := chk_some h
           obtain ⟨c2, h⟩ := chk_some h
           refine WP.path tab_ok mixed [(91, An.v (ti (List.getD o51 (Int.toNat v13) 0)))] [.keep [13, 11, 10, 9, 6, 5, 2, 0], .keepO [2022, 2023, 2051, 2052]] (ps := [((0 ≤ v13 ∧ v13 < ((List.length o51 : Nat) : Int))), ((List.map (T.int .i64) o51 : List T)[(Int.toNat v13) * 1]? = some (ti (List.getD o51 (Int.toNat v13) 0))), (ti (List.getD o51 (Int.toNat v13) 0) = ti (List.getD o51 (Int.toNat v13) 0)), ((0 ≤ (List.getD o51 (Int.toNat v13) 0) ∧ (List.getD o51 (Int.toNat v13) 0) < ((List.length o22c : Nat) : Int))), ((Int.toNat (List.getD o51 (Int.toNat v13) 0)) * 1 < List.length (List.map (T.int .i64) o22c))]) (e := .normal) (σ' := ⟨[2022, 2023, 2051, 2052], [(13, vi v13), (11, vo 2052 (List.length o52)), (10, vo 2051 (List.length o51)), (9, vi v9), (6, vo 2023 (List.length o23b)), (5, vo 2022 (List.length o22c)), (2, V.t (T.nils)), (0, vi x0)], [(2022, oc 3 (List.set (List.map (T.int .i64) o22c) ((Int.toNat (List.getD o51 (Int.toNat v13) 0)) * 1) (ti v9))), (2023, oc 3 (List.map (T.int .i64) o23b)), (2051, oc 3 (List.map (T.int .i64) o51)), (2052, oc 3 (List.map (T.int .i64) o52))]⟩) (by kernel_rfl) ⟨c1, atM (by simp) (by first | omega | (simp only [tlL]; omega) | (simp; omega)), rfl, c2, by first | decide | omega | (simp only [tlL] <;> omega) | (simp <;> omega) | (simp [] <;> omega), trivial⟩ ?_
           obtain ⟨c3, h⟩ := chk_some h
           refine WP.qk tm [(86, An.v (ti (v13 + 1)))] [(True), (wr (v13 + 1))] [(13, vi (v13 + 1)), (11, vo 2052 (List.length o52)), (10, vo 2051 (List.length o51)), (9, vi v9), (6, vo 2023 (List.length o23b)), (5, vo 2022 (List.length o22c)), (2, V.t (T.nils)), (0, vi x0)] [(2022, oc 3 (List.set (List.map (ti) o22c) ((Int.toNat (gt o51 v13 0)) * 1) (ti v9))), (2023, oc 3 (List.map (ti) o23b)), (2051, oc 3 (List.map (ti) o51)), (2052, oc 3 (List.map (ti) o52))] ⟨trivial, wrapI c3, trivial⟩ ?_
           exact ⟨(n, List.set o22c (Int.toNat (gt o51 v13 0)) v9, (v13 + 1)), h, Nat.lt_succ_self _, (by first | rfl | (simp only [tlS, tl, vl, vo, oc, ov, tbl, vbl, ty, vy] <;> rfl) | (simp <;> omega) | (simp []; done) | (rw [List.take_of_length_le (by simp [])] <;> rfl) | (simp [List.take_of_length_le]; done))⟩
          ·refine WP.no h8 rfl ?_
           refine WP.eq tm [] 8 [] [(11, vo 2052 (List.length o52)), (9, vi v9), (6, vo 2023 (List.length o23b)), (5, vo 2022 (List.length o22c)), (2, V.t (T.nils)), (0, vi x0)] [(2022, oc 3 (List.map (ti) o22c)), (2023, oc 3 (List.map (ti) o23b)), (2052, oc 3 (List.map (ti) o52))] trivial ?_
           exact ⟨(o22c), h, rfl⟩
        ·intro o22c h0
         have h := (show J3 o22c = some y0 from h0)
         rw [hJ3] at h
         refine WP.qk tm [] [] [(6, vo 2052 (List.length o52)), (9, vi v9), (5, vo 2022 (List.length o22c)), (2, V.t (T.nils)), (0, vi x0)] [(2022, oc 3 (List.map (ti) o22c)), (2052, oc 3 (List.map (ti) o52))] trivial ?_
         exact ⟨(o22c, o52), h, rfl⟩
      ·rintro ⟨o22c, o52⟩ h0
       have h := (show J2 o22c o52 = some y0 from h0)
       rw [hJ2] at h
       obtain ⟨c1, h⟩ := chk_some h
       refine WP.nk tm [(50, An.v (ti (v9 + 1)))] [(2022, 2022), (2052, 2023)] .normal [(True), (wr (v9 + 1))] [(9, vi (v9 + 1)), (6, vo 2023 (List.length o52)), (5, vo 2022 (List.length o22c)), (2, V.t (T.nils)), (0, vi x0)] [(2022, oc 3 (List.map (ti) o22c)), (2023, oc 3 (List.map (ti) o52))] ⟨trivial, wrapI c1, trivial⟩ ?_
       exact ⟨(n, o22c, o52, (v9 + 1)), h, Nat.lt_succ_self _, rfl⟩
     ·refine WP.no h5 rfl ?_
      refine WP.eq tm [] 4 [] [(5, vo 2022 (List.length o22b)), (2, V.t (T.nils))] [(2022, oc 3 (List.map (ti) o22b))] trivial ?_
      exact ⟨(o22b), h, rfl⟩
   ·intro o22b h0
    have h := (show J1 o22b = some y0 from h0)
    rw [hJ1] at h
    have h := Option.some.inj h
    subst h
    exact WP.pathG tab_ok mixed [] [.keep [2], .keepO [2022], .names [(2022, 9000)]] [9000] _ (r' := vo 9000 (List.length o22b)) (ps := []) (r := vo 9000 (List.length o22b)) (N := [9000]) (O := [(9000, oc 3 (List.map (ti) o22b))]) [] (by kernel_rfl) trivial ⟨rfl, trivial⟩ rfl rfl (fun _ h => h)
theorem F_spec_l4Needs_W_C (x0 : Int) (y0 : List Int) (h : F_spec_l4Needs x0 = some y0) : C Tryz.prog 64 [ti x0] (tl y0) :=
 CG.toC (ps := [(List.length (List.map (ti) y0) = (List.length y0) * 1)]) (F_spec_l4Needs_W  x0 y0 h) (by rfl) ⟨by first | rfl | omega | (simp <;> omega) | (simp [hl] <;> omega), trivial⟩
theorem F_spec_l2Counts_W (x0 : List Int) (x1 : Int) (y0 : List Int) (h : F_spec_l2Counts x0 x1 = some y0) : CG Tryz.prog 120 [V.t (T.agg [tl x0, ti x1])] [] (vo 9000 (List.length y0)) [(9000, oc 3 (List.map (ti) y0))] := by
 unfold F_spec_l2Counts at h
 refine CG.intro (tab := tab) tab_ok (fn := Tryz.f120) Tryz.func120 (by kernel_rfl) rfl (Nat.le_of_ble_eq_true rfl) (by kernel_rfl) ?_
 refine WP.sk tm [(1, An.fz)] [] [(2, V.t (T.nils)), (1, V.t (T.ptr [tl x0, ti x1]))] [] trivial ?_
 refine WP.seq ?_
 obtain ⟨c0, h⟩ := chk_some h
 obtain ⟨c1, h⟩ := chk_some h
 refine WP.pk tm [(7, An.v (ti (x1 + 1))), (8, An.id 2008)] [(True), (True), (wr (x1 + 1)), ((0 ≤ (x1 + 1) ∧ (x1 + 1) ≤ (x1 + 1) ∧ (8 : Int) * (x1 + 1) ≤ 281474976710656 ∧ (x1 + 1) ≤ (maxLen : Int)))] [(3, vo 2008 (Int.toNat (x1 + 1))), (2, V.t (T.nils)), (1, V.t (T.ptr [tl x0, ti x1]))] [(2008, oc 3 (List.replicate (Int.toNat (x1 + 1)) (ti 0)))] ⟨trivial, trivial, wrapI c0, c1, trivial⟩ ?_
 obtain ⟨J1, hJ1, h⟩ := jn_some h
 refine WP.joinA (fun (zz : (List Int)) => ⟨[2008], [(3, vo 2008 (List.length zz)), (2, V.t (T.nils))], [(2008, oc 3 (List.map (ti) zz))]⟩) (fun zz => J1 zz = some y0) ?_ ?_
 ·refine WP.sk tm [] [] [(4, vi 0), (3, vo 2008 (Int.toNat (x1 + 1))), (2, V.t (T.nils)), (1, V.t (T.ptr [tl x0, ti x1]))] [(2008, oc 3 (List.replicate (Int.toNat (x1 + 1)) (ti 0)))] trivial ?_
  refine WP.block ?_
  refine WP.wk [.keep [4, 3, 2, 1], .keepO [2008], .names [(2008, 2008)]] (σ' := ⟨[2008], [(4, vi 0), (3, vo 2008 (Int.toNat (x1 + 1))), (2, V.t (T.nils)), (1, V.t (T.ptr [tl x0, ti x1]))], [(2008, oc 3 (List.replicate (Int.toNat (x1 + 1)) (ti 0)))]⟩) (ps := []) (by kernel_rfl) trivial ?_
  refine WP.st (σ' := ⟨[2008], [(4, vi (0 : Int)), (3, vo 2008 (List.length (List.replicate (Int.toNat (x1 + 1)) (0 : Int)))), (2, V.t (T.nils)), (1, V.t (T.ptr [tl x0, ti x1]))], [(2008, oc 3 (List.map (ti) (List.replicate (Int.toNat (x1 + 1)) (0 : Int))))]⟩) (by simp <;> omega) ?_
  refine WP.loop (α := Nat × (List Int) × Int) (fun zz => ⟨[2008], [(4, vi zz.2.2), (3, vo 2008 (List.length zz.2.1)), (2, V.t (T.nils)), (1, V.t (T.ptr [tl x0, ti x1]))], [(2008, oc 3 (List.map (T.int .i64) zz.2.1))]⟩) (fun zz => F_spec_l2Counts_L1 x0 J1 zz.1 zz.2.1 zz.2.2 = some y0) (fun zz => zz.1) (fuel, List.replicate (Int.toNat (x1 + (1 : Int))) (0 : Int), (0 : Int)) h ?_
  rintro ⟨n, o8, v4⟩ h0
  have h := (show F_spec_l2Counts_L1 x0 J1 n o8 v4 = some y0 from h0)
  rcases n with _ | n
  ·rw [F_spec_l2Counts_L1] at h; cases h
  ·rw [F_spec_l2Counts_L1] at h
   refine WP.seq ?_
   refine WP.sk tm [] [(True), (True)] [(13, vb (decide (v4 < (ln x0)))), (4, vi v4), (3, vo 2008 (List.length o8)), (2, V.t (T.nils)), (1, V.t (T.ptr [tl x0, ti x1]))] [(2008, oc 3 (List.map (ti) o8))] ⟨trivial, trivial, trivial⟩ ?_
   rcases ite_some h with ⟨h1, h⟩ | ⟨h1, h⟩
   ·refine WP.yes h1 rfl ?_
    refine WP.pk tm [] [] [(4, vi v4), (3, vo 2008 (List.length o8)), (2, V.t (T.nils)), (1, V.t (T.ptr [tl x0, ti x1]))] [(2008, oc 3 (List.map (ti) o8))] trivial ?_
    refine WP.seq ?_
    refine WP.block ?_
    refine WP.seq ?_
    obtain ⟨c2, h⟩ := chk_some h
    refine WP.pk tm [(20, An.v (ti (gt x0 v4 0)))] [(True), ((0 ≤ v4 ∧ v4 < (ln x0))), ((List.drop ((Int.toNat v4) * 1) (List.map (ti) x0) : List T)[0]? = some (ti (gt x0 v4 0))), (ti (gt x0 v4 0) = ti (gt x0 v4 0)), (True)] [(21, vb (decide ((gt x0 v4 0) ≥ (0 : Int)))), (4, vi v4), (3, vo 2008 (List.length o8)), (2, V.t (T.nils)), (1, V.t (T.ptr [tl x0, ti x1]))] [(2008, oc 3 (List.map (ti) o8))] ⟨trivial, c2, at1 (by simp) (by omega), rfl, trivial, trivial⟩ ?_
    rcases ite_some h with ⟨h2, h⟩ | ⟨h2, h⟩
    ·refine WP.yes h2 rfl ?_
     obtain ⟨c3, h⟩ := chk_some h
     obtain ⟨c4, h⟩ := chk_some h
     obtain ⟨n30, c5, h⟩ := nam_some h
     refine WP.path tab_ok mixed [(27, An.v (ti (List.getD x0 (Int.toNat v4) 0))), (29, An.v (ti (List.getD o8 (Int.toNat (List.getD x0 (Int.toNat v4) 0)) 0))), (30, An.v (ti n30))] [.keep [4, 3, 2, 1], .keepO [2008]] (ps := [(True), ((0 ≤ v4 ∧ v4 < ((List.length x0 : Nat) : Int))), ((List.drop ((Int.toNat v4) * 1) (List.map (T.int .i64) x0) : List T)[0]? = some (ti (List.getD x0 (Int.toNat v4) 0))), (ti (List.getD x0 (Int.toNat v4) 0) = ti (List.getD x0 (Int.toNat v4) 0)), ((0 ≤ (List.getD x0 (Int.toNat v4) 0) ∧ (List.getD x0 (Int.toNat v4) 0) < ((List.length o8 : Nat) : Int))), ((List.map (T.int .i64) o8 : List T)[(Int.toNat (List.getD x0 (Int.toNat v4) 0)) * 1]? = some (ti (List.getD o8 (Int.toNat (List.getD x0 (Int.toNat v4) 0)) 0))), (ti (List.getD o8 (Int.toNat (List.getD x0 (Int.toNat v4) 0)) 0) = ti (List.getD o8 (Int.toNat (List.getD x0 (Int.toNat v4) 0)) 0)), (True), (T.int .i64 (IntKind.wrap .i64 ((List.getD o8 (Int.toNat (List.getD x0 (Int.toNat v4) 0)) 0) + (1 : Int))) = ti n30), ((0 ≤ (List.getD x0 (Int.toNat v4) 0) ∧ (List.getD x0 (Int.toNat v4) 0) < ((List.length o8 : Nat) : Int))), ((Int.toNat (List.getD x0 (Int.toNat v4) 0)) * 1 < List.length (List.map (T.int .i64) o8))]) (e := .normal) (σ' := ⟨[2008], [(4, vi v4), (3, vo 2008 (List.length o8)), (2, V.t (T.nils)), (1, V.t (T.ptr [tl x0, ti x1]))], [(2008, oc 3 (List.set (List.map (T.int .i64) o8) ((Int.toNat (List.getD x0 (Int.toNat v4) 0)) * 1) (ti n30)))]⟩) (by kernel_rfl) ⟨trivial, c2, at1 (by simp) (by omega), rfl, c3, atM (by simp) (by first | omega | (simp only [tlL]; omega) | (simp; omega)), rfl, trivial, Eq.trans (wrapI c4) (congrArg (ti) c5), c3, by first | decide | omega | (simp only [tlL] <;> omega) | (simp <;> omega) | (simp [] <;> omega), trivial⟩ ?_
     obtain ⟨c6, h⟩ := chk_some h
     refine WP.qk tm [(15, An.v (ti (v4 + 1)))] [(True), (wr (v4 + 1))] [(4, vi (v4 + 1)), (3, vo 2008 (List.length o8)), (2, V.t (T.nils)), (1, V.t (T.ptr [tl x0, ti x1]))] [(2008, oc 3 (List.set (List.map (ti) o8) ((Int.toNat (gt x0 v4 0)) * 1) (ti n30)))] ⟨trivial, wrapI c6, trivial⟩ ?_
     exact ⟨(n, List.set o8 (Int.toNat (gt x0 v4 0)) n30, (v4 + 1)), h, Nat.lt_succ_self _, (by first | rfl | (simp only [tlS, tl, vl, vo, oc, ov, tbl, vbl, ty, vy] <;> rfl) | (simp <;> omega) | (simp []; done) | (rw [List.take_of_length_le (by simp [])] <;> rfl) | (simp [List.take_of_length_le]; done))⟩
    ·refine WP.no h2 rfl ?_
     refine WP.pk tm [] [] [(4, vi v4), (3, vo 2008 (List.length o8)), (2, V.t (T.nils)), (1, V.t (T.ptr [tl x0, ti x1]))] [(2008, oc 3 (List.map (ti) o8))] trivial ?_
     obtain ⟨c3, h⟩ := chk_some h
     refine WP.qk tm [(15, An.v (ti (v4 + 1)))] [(True), (wr (v4 + 1))] [(4, vi (v4 + 1)), (3, vo 2008 (List.length o8)), (2, V.t (T.nils)), (1, V.t (T.ptr [tl x0, ti x1]))] [(2008, oc 3 (List.map (ti) o8))] ⟨trivial, wrapI c3, trivial⟩ ?_
     exact ⟨(n, o8, (v4 + 1)), h, Nat.lt_succ_self _, rfl⟩
   ·refine WP.no h1 rfl ?_
    refine WP.eq tm [] 0 [] [(3, vo 2008 (List.length o8)), (2, V.t (T.nils))] [(2008, oc 3 (List.map (ti) o8))] trivial ?_
    exact ⟨(o8), h, rfl⟩
 ·intro o8 h0
  have h := (show J1 o8 = some y0 from h0)
  rw [hJ1] at h
  have h := Option.some.inj h
  subst h
  exact WP.pathG tab_ok mixed [] [.keep [2], .keepO [2008], .names [(2008, 9000)]] [9000] _ (r' := vo 9000 (List.length o8)) (ps := []) (r := vo 9000 (List.length o8)) (N := [9000]) (O := [(9000, oc 3 (List.map (ti) o8))]) [] (by kernel_rfl) trivial ⟨rfl, trivial⟩ rfl rfl (fun _ h => h)
theorem F_spec_l2Counts_W_C (x0 : List Int) (x1 : Int) (y0 : List Int) (h : F_spec_l2Counts x0 x1 = some y0) : C Tryz.prog 120 [T.agg [tl x0, ti x1]] (tl y0) :=
 CG.toC (ps := [(List.length (List.map (ti) y0) = (List.length y0) * 1)]) (F_spec_l2Counts_W  x0 x1 y0 h) (by rfl) ⟨by first | rfl | omega | (simp <;> omega) | (simp [hl] <;> omega), trivial⟩

end Go.Proofs.YtopodonemnnjdaaGreat.AuAnb
