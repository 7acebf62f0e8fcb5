/-
  The walks: each function of the program returns what the plain function beside it returns. No statement is proved here.
-/
import Derived.Test.YtopodonemnnjdaaGreatTlGroupc
import Derived.Test.YtopodonemnnjdaaGreatTlGroupd

import Derived.Test.YtopodonemnnjdaaGreatAuCoF
import Derived.Test.YtopodonemnnjdaaGreatProg
import Derived.Test.YtopodonemnnjdaaGreatAuCoO
import Derived.Test.YtopodonemnnjdaaGreatAuCoa
import Derived.Test.YtopodonemnnjdaaGreatAuCob
namespace Go.Proofs.YtopodonemnnjdaaGreat.AuCo
open Go Go.Tl Go.Proofs
open Go.Proofs.YtopodonemnnjdaaGreat.AuCoO hiding tab tab_ok mixed tm
open Go.Proofs.YtopodonemnnjdaaGreat.AuCoa hiding tab tab_ok mixed tm
open Go.Proofs.YtopodonemnnjdaaGreat.AuCob hiding tab tab_ok mixed tm
set_option linter.unusedVariables false
set_option linter.unusedSimpArgs false
set_option maxRecDepth 100000
set_option maxHeartbeats 4000000
def tab : Tab := [(3, ⟨.int .i64, 1, 8, [.int .i64 0]⟩), (4, ⟨.bool, 1, 1, [.bool false]⟩), (5, ⟨.int .u8, 1, 1, [.int .u8 0]⟩), (22, ⟨.slice 5 1 1, 1, 24, [.nils]⟩), (24, ⟨.slice 3 1 8, 1, 24, [.nils]⟩), (26, ⟨.struct [(0, 1, false), (1, 1, false)], 2, 32, [.nils, .int .i64 0]⟩), (27, ⟨.slice 4 1 1, 1, 24, [.nils]⟩), (62, ⟨.pointer 65, 1, 8, [.nilp]⟩), (63, ⟨.int .u64, 1, 8, [.int .u64 0]⟩), (65, ⟨.struct [(0, 1, false), (1, 1, false), (2, 1, false)], 3, 40, [.nils, .int .i64 0, .int .u64 0]⟩), (76, ⟨.func, 1, 8, [.nilf]⟩), (77, ⟨.map 118 3, 1, 8, [.nilm]⟩), (79, ⟨.struct [(0, 1, false), (1, 1, false)], 2, 16, [.nilf, .nilm]⟩), (84, ⟨.struct [(0, 1, false), (1, 1, false)], 2, 16, [.int .i64 0, .bool false]⟩), (95, ⟨.func, 1, 8, [.nilf]⟩), (98, ⟨.map 3 3, 1, 8, [.nilm]⟩), (100, ⟨.struct [(0, 1, false)], 1, 8, [.nilm]⟩), (105, ⟨.array 2 26 2 true, 4, 64, [.nils, .int .i64 0, .nils, .int .i64 0]⟩), (118, ⟨.array 3 3 1 false, 3, 24, [.int .i64 0, .int .i64 0, .int .i64 0]⟩), (122, ⟨.slice 118 3 24, 1, 24, [.nils]⟩), (124, ⟨.slice 24 1 24, 1, 24, [.nils]⟩), (129, ⟨.func, 1, 8, [.nilf]⟩)]
theorem tab_ok : chkTab Tryz.prog tab = true := by kernel_rfl
theorem mixed : Tryz.prog.follows .mixedOrders = true := by kernel_rfl
abbrev tm := And.intro tab_ok mixed
theorem F_s_l4Counted_W (x0 : Int) (x1 : Int) (y0 : List Int) (h : F_s_l4Counted x0 x1 = some y0) : CG Tryz.prog 116 [vi x0, vi x1] [] (vo 9000 (List.length y0)) [(9000, oc 3 (List.map (T.int .i64) y0))] := by
 unfold F_s_l4Counted at h
 refine CG.intro (tab := tab) tab_ok (fn := Tryz.f116) Tryz.func116 (by kernel_rfl) rfl (Nat.le_of_ble_eq_true rfl) (by kernel_rfl) ?_
 refine WP.sk tm [] [] [(4, V.t (T.nils)), (0, vi x0), (1, vi x1)] [] trivial ?_
 refine WP.seq ?_
 obtain ⟨c0, h⟩ := chk_some h
 refine WP.pk tm [(8, An.id 2008)] [((0 ≤ x1 ∧ x1 ≤ x1 ∧ (8 : Int) * x1 ≤ 281474976710656 ∧ x1 ≤ (maxLen : Int)))] [(5, vo 2008 (Int.toNat x1)), (4, V.t (T.nils)), (0, vi x0), (1, vi x1)] [(2008, oc 3 (List.replicate (Int.toNat x1) (ti 0)))] ⟨c0, trivial⟩ ?_
 obtain ⟨J1, hJ1, h⟩ := jn_some h
 refine WP.joinA (fun (zz : (List Int)) => ⟨[2008], [(5, vo 2008 (List.length zz)), (4, V.t (T.nils))], [(2008, oc 3 (List.map (ti) zz))]⟩) (fun zz => J1 zz = some y0) ?_ ?_
 ·refine WP.seq ?_
  obtain ⟨c1, h⟩ := chk_some h
  refine WP.pk tm [(10, An.v (ti (x1 - 1)))] [(True), (wr (x1 - 1))] [(6, vi (x1 - 1)), (5, vo 2008 (Int.toNat x1)), (4, V.t (T.nils)), (0, vi x0)] [(2008, oc 3 (List.replicate (Int.toNat x1) (ti 0)))] ⟨trivial, wrapI c1, trivial⟩ ?_
  refine WP.block ?_
  refine WP.wk [.keep [6, 5, 4, 0], .keepO [2008], .names [(2008, 2008)]] (σ' := ⟨[2008], [(6, vi (x1 - 1)), (5, vo 2008 (Int.toNat x1)), (4, V.t (T.nils)), (0, vi x0)], [(2008, oc 3 (List.replicate (Int.toNat x1) (ti 0)))]⟩) (ps := []) (by kernel_rfl) trivial ?_
  refine WP.st (σ' := ⟨[2008], [(6, vi (x1 - 1)), (5, vo 2008 (List.length (List.replicate (Int.toNat x1) (0 : Int)))), (4, V.t (T.nils)), (0, vi x0)], [(2008, oc 3 (List.map (ti) (List.replicate (Int.toNat x1) (0 : Int))))]⟩) (by simp <;> omega) ?_
  refine WP.loop (α := Nat × (List Int) × Int × Int) (fun zz => ⟨[2008], [(6, vi zz.2.2.1), (5, vo 2008 (List.length zz.2.1)), (4, V.t (T.nils)), (0, vi zz.2.2.2)], [(2008, oc 3 (List.map (T.int .i64) zz.2.1))]⟩) (fun zz => F_s_l4Counted_L1 J1 zz.1 zz.2.1 zz.2.2.1 zz.2.2.2 = some y0) (fun zz => zz.1) (fuel, List.replicate (Int.toNat x1) (0 : Int), (x1 - (1 : Int)), x0) h ?_
  rintro ⟨n, o8, v6, v0⟩ h0
  have h := (show F_s_l4Counted_L1 J1 n o8 v6 v0 = some y0 from h0)
  rcases n with _ | n
  ·rw [F_s_l4Counted_L1] at h; cases h
  ·rw [F_s_l4Counted_L1] at h
   refine WP.seq ?_
   refine WP.sk tm [] [(True)] [(12, vb (decide (v6 ≥ (0 : Int)))), (6, vi v6), (5, vo 2008 (List.length o8)), (4, V.t (T.nils)), (0, vi v0)] [(2008, oc 3 (List.map (ti) o8))] ⟨trivial, trivial⟩ ?_
   rcases ite_some h with ⟨h1, h⟩ | ⟨h1, h⟩
   ·refine WP.yes h1 rfl ?_
    refine WP.pk tm [] [] [(6, vi v6), (5, vo 2008 (List.length o8)), (4, V.t (T.nils)), (0, vi v0)] [(2008, oc 3 (List.map (ti) o8))] trivial ?_
    refine WP.seq ?_
    refine WP.block ?_
    obtain ⟨c2, c3, h⟩ := chk2 h
    refine WP.pk tm [(21, An.v (ti (Int.tdiv v0 (9 : Int))))] [((9 : Int) ≠ 0), (ib v6 o8), ((Int.toNat v6) * 1 < List.length (List.map (ti) o8)), ((9 : Int) ≠ 0), (wr (Int.tdiv v0 (9 : Int)))] [(0, vi (Int.tdiv v0 (9 : Int))), (6, vi v6), (5, vo 2008 (List.length o8)), (4, V.t (T.nils))] [(2008, oc 3 (List.set (List.map (ti) o8) ((Int.toNat v6) * 1) (ti (Int.tmod v0 (9 : Int)))))] ⟨by decide, c2, by first | decide | omega | (simp only [tlL] <;> omega) | (simp <;> omega) | (simp [] <;> omega), (show (9 : Int) ≠ 0 by first | decide | (simp only [maxLen]; omega) | (unfold I64; omega) | (unfold I64; decide)), quo_told c3, trivial⟩ ?_
    obtain ⟨c4, h⟩ := chk_some h
    refine WP.qk tm [(14, An.v (ti (v6 - 1)))] [(True), (wr (v6 - 1))] [(6, vi (v6 - 1)), (5, vo 2008 (List.length o8)), (4, V.t (T.nils)), (0, vi (Int.tdiv v0 (9 : Int)))] [(2008, oc 3 (List.set (List.map (ti) o8) ((Int.toNat v6) * 1) (ti (Int.tmod v0 (9 : Int)))))] ⟨trivial, wrapI c4, trivial⟩ ?_
    exact ⟨(n, List.set o8 (Int.toNat v6) (Int.tmod v0 (9 : Int)), (v6 - 1), (Int.tdiv v0 (9 : Int))), h, Nat.lt_succ_self _, (by first | rfl | (simp only [tlS, tl, vl, vo, oc, ov, tbl, vbl, ty, vy] <;> rfl) | (simp <;> omega) | (simp []; done) | (rw [List.take_of_length_le (by simp [])] <;> rfl) | (simp [List.take_of_length_le]; done))⟩
   ·refine WP.no h1 rfl ?_
    refine WP.eq tm [] 0 [] [(5, vo 2008 (List.length o8)), (4, V.t (T.nils))] [(2008, oc 3 (List.map (ti) o8))] trivial ?_
    exact ⟨(o8), h, rfl⟩
 ·intro o8 h0
  have h := (show J1 o8 = some y0 from h0)
  rw [hJ1] at h
  have h := Option.some.inj h
  subst h
  exact WP.pathG tab_ok mixed [] [.keep [4], .keepO [2008], .names [(2008, 9000)]] [9000] _ (r' := vo 9000 (List.length o8)) (ps := []) (r := vo 9000 (List.length o8)) (N := [9000]) (O := [(9000, oc 3 (List.map (ti) o8))]) [] (by kernel_rfl) trivial ⟨rfl, trivial⟩ rfl rfl (fun _ h => h)
theorem F_s_l4Counted_W_C (x0 : Int) (x1 : Int) (y0 : List Int) (h : F_s_l4Counted x0 x1 = some y0) : C Tryz.prog 116 [ti x0, ti x1] (tl y0) :=
 CG.toC (ps := [(List.length (List.map (ti) y0) = (List.length y0) * 1)]) (F_s_l4Counted_W  x0 x1 y0 h) (by rfl) ⟨by first | rfl | omega | (simp <;> omega) | (simp [hl] <;> omega), trivial⟩
theorem F_s_l4Told_W (x0 : List Int) (y0 : Bool) (h : F_s_l4Told x0 = some y0) : C Tryz.prog 117 [tl x0] (tb y0) := by
 unfold F_s_l4Told at h
 refine C.intro (tab := tab) tab_ok (fn := Tryz.f117) Tryz.func117 (by kernel_rfl) rfl (Nat.le_of_ble_eq_true rfl) ?_
 refine WP.sk tm [] [] [(2, vb false), (0, vl x0)] [] trivial ?_
 refine WP.sk tm [] [] [(3, vi 0), (2, vb false), (0, vl x0)] [] trivial ?_
 obtain ⟨J1, hJ1, h⟩ := jn_some h
 refine WP.joinA (fun (zz : Int) => ⟨[], [(3, vi zz), (2, vb false)], []⟩) (fun zz => J1 zz = some y0) ?_ ?_
 ·refine WP.sk tm [] [] [(4, vi 0), (3, vi 0), (2, vb false), (0, vl x0)] [] trivial ?_
  refine WP.block ?_
  refine WP.lp (α := Nat × Int × Int) (fun zz => ⟨[], [(4, vi zz.2.1), (3, vi zz.2.2), (2, vb false), (0, vl x0)], []⟩) (fun zz => F_s_l4Told_L1 x0 J1 zz.1 zz.2.1 zz.2.2 = some y0) (fun zz => zz.1) (fuel, (0 : Int), (0 : Int)) h ?_
  rintro ⟨n, v4, v3⟩ h0
  have h := (show F_s_l4Told_L1 x0 J1 n v4 v3 = some y0 from h0)
  rcases n with _ | n
  ·rw [F_s_l4Told_L1] at h; cases h
  ·rw [F_s_l4Told_L1] at h
   refine WP.seq ?_
   refine WP.sk tm [] [(True)] [(8, vb (decide (v4 < (ln x0)))), (4, vi v4), (3, vi v3), (2, vb false), (0, vl x0)] [] ⟨trivial, trivial⟩ ?_
   rcases ite_some h with ⟨h1, h⟩ | ⟨h1, h⟩
   ·refine WP.yes h1 rfl ?_
    refine WP.pk tm [] [] [(4, vi v4), (3, vi v3), (2, vb false), (0, vl x0)] [] trivial ?_
    refine WP.seq ?_
    refine WP.block ?_
    obtain ⟨c0, c1, h⟩ := chk2 h
    refine WP.pk tm [(15, An.v (ti (gt x0 v4 0))), (16, An.v (ti (v3 + (gt x0 v4 0))))] [(ib v4 x0), ((List.drop ((Int.toNat v4) * 1) (List.map (ti) x0) : List T)[0]? = some (ti (gt x0 v4 0))), (rf (ti (gt x0 v4 0))), (True), (wr (v3 + (gt x0 v4 0)))] [(3, vi (v3 + (gt x0 v4 0))), (4, vi v4), (2, vb false), (0, vl x0)] [] ⟨c0, at1 (by simp) (by omega), rfl, trivial, wrapI c1, trivial⟩ ?_
    obtain ⟨c2, h⟩ := chk_some h
    refine WP.qk tm [(10, An.v (ti (v4 + 1)))] [(True), (wr (v4 + 1))] [(4, vi (v4 + 1)), (3, vi (v3 + (gt x0 v4 0))), (2, vb false), (0, vl x0)] [] ⟨trivial, wrapI c2, trivial⟩ ?_
    exact ⟨(n, (v4 + 1), (v3 + (gt x0 v4 0))), h, Nat.lt_succ_self _, rfl⟩
   ·refine WP.no h1 rfl ?_
    refine WP.eq tm [] 0 [] [(3, vi v3), (2, vb false)] [] trivial ?_
    exact ⟨(v3), h, rfl⟩
 ·intro v3 h0
  have h := (show J1 v3 = some y0 from h0)
  rw [hJ1] at h
  have h := Option.some.inj h
  subst h
  exact WP.pathW tab_ok mixed [] _ (ps := [(True)]) (r := tb (decide (v3 ≤ (1 : Int)))) (by kernel_rfl) ⟨trivial, trivial⟩ (WkT.eq (y := tb (decide (v3 ≤ (1 : Int)))) (WkT.refl _) rfl) (fun _ h => h)
theorem F_s_l4Counts_W (x0 : List Int) (y0 : Bool) (h : F_s_l4Counts x0 = some y0) : C Tryz.prog 118 [tl x0] (tb y0) := by
 unfold F_s_l4Counts at h
 refine C.intro (tab := tab) tab_ok (fn := Tryz.f118) Tryz.func118 (by kernel_rfl) rfl (Nat.le_of_ble_eq_true rfl) ?_
 refine WP.sk tm [] [] [(2, vb false), (0, vl x0)] [] trivial ?_
 refine WP.seq ?_
 refine WP.sk tm [(7, An.call (tb (decide ((ln x0) ≥ (1 : Int)) && decide ((ln x0) ≤ (3 : Int)))))] [(C Tryz.prog 101 [ti (ln x0), ti 1, ti 3] (tb (decide ((ln x0) ≥ (1 : Int)) && decide ((ln x0) ≤ (3 : Int)))))] [(8, vb (!(decide ((ln x0) ≥ (1 : Int)) && decide ((ln x0) ≤ (3 : Int))))), (2, vb false), (0, vl x0)] [] ⟨(by have hh := (l1In_C (ln x0) (1 : Int) (3 : Int)); first | exact hh | simpa using hh), trivial⟩ ?_
 rcases ite_some h with ⟨h1, h⟩ | ⟨h1, h⟩
 ·refine WP.yes h1 rfl ?_
  have h := Option.some.inj h
  subst h
  exact WP.pathW tab_ok mixed [] _ (ps := []) (r := tb false) (by kernel_rfl) trivial (WkT.eq (y := tb false) (WkT.refl _) rfl) (fun _ h => h)
 ·refine WP.no h1 rfl ?_
  refine WP.pk tm [] [] [(2, vb false), (0, vl x0)] [] trivial ?_
  refine WP.sk tm [] [] [(3, vi 0), (2, vb false), (0, vl x0)] [] trivial ?_
  obtain ⟨J1, hJ1, h⟩ := jn_some h
  refine WP.joinA (fun (zz : Int) => ⟨[], [(3, vi zz), (2, vb false)], []⟩) (fun zz => J1 zz = some y0) ?_ ?_
  ·refine WP.sk tm [] [] [(4, vi 0), (3, vi 0), (2, vb false), (0, vl x0)] [] trivial ?_
   refine WP.block ?_
   refine WP.lp (α := Nat × Int × Int) (fun zz => ⟨[], [(4, vi zz.2.1), (3, vi zz.2.2), (2, vb false), (0, vl x0)], []⟩) (fun zz => F_s_l4Counts_L1 x0 J1 zz.1 zz.2.1 zz.2.2 = some y0) (fun zz => zz.1) (fuel, (0 : Int), (0 : Int)) h ?_
   rintro ⟨n, v4, v3⟩ h0
   have h := (show F_s_l4Counts_L1 x0 J1 n v4 v3 = some y0 from h0)
   rcases n with _ | n
   ·rw [F_s_l4Counts_L1] at h; cases h
   ·rw [F_s_l4Counts_L1] at h
    refine WP.seq ?_
    refine WP.sk tm [] [(True)] [(12, vb (decide (v4 < (ln x0)))), (4, vi v4), (3, vi v3), (2, vb false), (0, vl x0)] [] ⟨trivial, trivial⟩ ?_
    rcases ite_some h with ⟨h2, h⟩ | ⟨h2, h⟩
    ·refine WP.yes h2 rfl ?_
     refine WP.pk tm [] [] [(4, vi v4), (3, vi v3), (2, vb false), (0, vl x0)] [] trivial ?_
     refine WP.seq ?_
     refine WP.block ?_
     refine WP.seq ?_
     refine WP.seq ?_
     obtain ⟨c0, h⟩ := chk_some h
     refine WP.pk tm [(18, An.v (ti (gt x0 v4 0))), (19, An.call (tb (decide ((gt x0 v4 0) ≥ (0 : Int)) && decide ((gt x0 v4 0) ≤ (8 : Int)))))] [(ib v4 x0), ((List.drop ((Int.toNat v4) * 1) (List.map (ti) x0) : List T)[0]? = some (ti (gt x0 v4 0))), (rf (ti (gt x0 v4 0))), (C Tryz.prog 101 [ti (gt x0 v4 0), ti 0, ti 8] (tb (decide ((gt x0 v4 0) ≥ (0 : Int)) && decide ((gt x0 v4 0) ≤ (8 : Int)))))] [(20, vb (!(decide ((gt x0 v4 0) ≥ (0 : Int)) && decide ((gt x0 v4 0) ≤ (8 : Int))))), (4, vi v4), (3, vi v3), (2, vb false), (0, vl x0)] [] ⟨c0, at1 (by simp) (by omega), rfl, (by have hh := (l1In_C (gt x0 v4 0) (0 : Int) (8 : Int)); first | exact hh | simpa using hh), trivial⟩ ?_
     rcases ite_some h with ⟨h3, h⟩ | ⟨h3, h⟩
     ·refine WP.yes h3 rfl ?_
      have h := Option.some.inj h
      subst h
      exact WP.pathW tab_ok mixed [] _ (ps := []) (r := tb false) (by kernel_rfl) trivial (WkT.eq (y := tb false) (WkT.refl _) rfl) (fun _ h => h)
     ·refine WP.no h3 rfl ?_
      refine WP.pk tm [] [] [(4, vi v4), (3, vi v3), (2, vb false), (0, vl x0)] [] trivial ?_
      obtain ⟨c1, h⟩ := chk_some h
      refine WP.pk tm [(25, An.v (ti (gt x0 v4 0))), (26, An.v (ti (v3 + (gt x0 v4 0))))] [(ib v4 x0), ((List.drop ((Int.toNat v4) * 1) (List.map (ti) x0) : List T)[0]? = some (ti (gt x0 v4 0))), (rf (ti (gt x0 v4 0))), (True), (wr (v3 + (gt x0 v4 0)))] [(3, vi (v3 + (gt x0 v4 0))), (4, vi v4), (2, vb false), (0, vl x0)] [] ⟨c0, at1 (by simp) (by omega), rfl, trivial, wrapI c1, trivial⟩ ?_
      obtain ⟨c2, h⟩ := chk_some h
      refine WP.qk tm [(14, An.v (ti (v4 + 1)))] [(True), (wr (v4 + 1))] [(4, vi (v4 + 1)), (3, vi (v3 + (gt x0 v4 0))), (2, vb false), (0, vl x0)] [] ⟨trivial, wrapI c2, trivial⟩ ?_
      exact ⟨(n, (v4 + 1), (v3 + (gt x0 v4 0))), h, Nat.lt_succ_self _, rfl⟩
    ·refine WP.no h2 rfl ?_
     refine WP.eq tm [] 0 [] [(3, vi v3), (2, vb false)] [] trivial ?_
     exact ⟨(v3), h, rfl⟩
  ·intro v3 h0
   have h := (show J1 v3 = some y0 from h0)
   rw [hJ1] at h
   have h := Option.some.inj h
   subst h
   exact WP.pathW tab_ok mixed [] _ (ps := [(True)]) (r := tb (decide (v3 ≤ (8 : Int)))) (by kernel_rfl) ⟨trivial, trivial⟩ (WkT.eq (y := tb (decide (v3 ≤ (8 : Int)))) (WkT.refl _) rfl) (fun _ h => h)
theorem F_s_l4Key_W (x0 : List Int) (y0 : Int) (h : F_s_l4Key x0 = some y0) : C Tryz.prog 104 [tl x0] (ti y0) := by
 unfold F_s_l4Key at h
 refine C.intro (tab := tab) tab_ok (fn := Tryz.f104) Tryz.func104 (by kernel_rfl) rfl (Nat.le_of_ble_eq_true rfl) ?_
 refine WP.sk tm [] [] [(2, vi 0), (0, vl x0)] [] trivial ?_
 refine WP.sk tm [] [] [(3, vi 0), (2, vi 0), (0, vl x0)] [] trivial ?_
 obtain ⟨J1, hJ1, h⟩ := jn_some h
 refine WP.joinA (fun (zz : Int) => ⟨[], [(3, vi zz), (2, vi 0)], []⟩) (fun zz => J1 zz = some y0) ?_ ?_
 ·refine WP.sk tm [] [] [(4, vi 0), (3, vi 0), (2, vi 0), (0, vl x0)] [] trivial ?_
  refine WP.block ?_
  refine WP.lp (α := Nat × Int × Int) (fun zz => ⟨[], [(4, vi zz.2.1), (3, vi zz.2.2), (2, vi 0), (0, vl x0)], []⟩) (fun zz => F_s_l4Key_L1 x0 J1 zz.1 zz.2.1 zz.2.2 = some y0) (fun zz => zz.1) (fuel, (0 : Int), (0 : Int)) h ?_
  rintro ⟨n, v4, v3⟩ h0
  have h := (show F_s_l4Key_L1 x0 J1 n v4 v3 = some y0 from h0)
  rcases n with _ | n
  ·rw [F_s_l4Key_L1] at h; cases h
  ·rw [F_s_l4Key_L1] at h
   refine WP.seq ?_
   refine WP.sk tm [] [(True)] [(8, vb (decide (v4 < (ln x0)))), (4, vi v4), (3, vi v3), (2, vi 0), (0, vl x0)] [] ⟨trivial, trivial⟩ ?_
   rcases ite_some h with ⟨h1, h⟩ | ⟨h1, h⟩
   ·refine WP.yes h1 rfl ?_
    refine WP.pk tm [] [] [(4, vi v4), (3, vi v3), (2, vi 0), (0, vl x0)] [] trivial ?_
    refine WP.seq ?_
    refine WP.block ?_
    obtain ⟨c0, c1, h⟩ := chk2 h
    obtain ⟨c2, h⟩ := chk_some h
    obtain ⟨n17, c3, h⟩ := nam_some h
    refine WP.pk tm [(12, An.v (ti (v3 * 9))), (16, An.v (ti (gt x0 v4 0))), (17, An.v (ti n17))] [(True), (wr (v3 * 9)), (ib v4 x0), ((List.drop ((Int.toNat v4) * 1) (List.map (ti) x0) : List T)[0]? = some (ti (gt x0 v4 0))), (rf (ti (gt x0 v4 0))), (True), (ti (IntKind.wrap .i64 ((v3 * 9) + (gt x0 v4 0))) = ti n17)] [(3, vi n17), (4, vi v4), (2, vi 0), (0, vl x0)] [] ⟨trivial, wrapI c0, c1, at1 (by simp) (by omega), rfl, trivial, Eq.trans (wrapI c2) (congrArg (ti) c3), trivial⟩ ?_
    obtain ⟨c4, h⟩ := chk_some h
    refine WP.qk tm [(10, An.v (ti (v4 + 1)))] [(True), (wr (v4 + 1))] [(4, vi (v4 + 1)), (3, vi n17), (2, vi 0), (0, vl x0)] [] ⟨trivial, wrapI c4, trivial⟩ ?_
    exact ⟨(n, (v4 + 1), n17), h, Nat.lt_succ_self _, rfl⟩
   ·refine WP.no h1 rfl ?_
    refine WP.eq tm [] 0 [] [(3, vi v3), (2, vi 0)] [] trivial ?_
    exact ⟨(v3), h, rfl⟩
 ·intro v3 h0
  have h := (show J1 v3 = some y0 from h0)
  rw [hJ1] at h
  have h := Option.some.inj h
  subst h
  exact WP.pathW tab_ok mixed [] _ (ps := []) (r := ti v3) (by kernel_rfl) trivial (WkT.eq (y := ti v3) (WkT.refl _) rfl) (fun _ h => h)
theorem F_s4S_W (x0 : List Int) (y0 : List (List Int)) (h : F_s4S x0 = some y0) : CG Tryz.prog 146 [vl x0] [] (vo 9000 (List.length y0)) [(9000, oc 24 (List.map (fun l => T.list (List.length l) 1 (List.map (ti) l)) y0))] := by
 unfold F_s4S at h
 refine CG.intro (tab := tab) tab_ok (fn := Tryz.f146) Tryz.func146 (by kernel_rfl) rfl (Nat.le_of_ble_eq_true rfl) (by kernel_rfl) ?_
 refine WP.sk tm [] [] [(2, V.t (T.nils)), (0, vl x0)] [] trivial ?_
 refine WP.sk tm [(8, An.fz), (9, An.id 2009)] [(True), (0 = 0 * 1), ((1 = 1 ∧ 0 + 1 ≤ 1) ∧ True), (1 = 1 * 1)] [(3, vo 2009 1), (2, V.t (T.nils)), (0, vl x0)] [(2009, oc 24 [T.list 0 1 []])] ⟨trivial, by decide, ⟨⟨by first | rfl | (simp; done) | (simp []; done) | omega, by first | decide | (simp; done) | (simp []; done) | omega | (simp only [tlL]; omega) | (simp; omega)⟩, trivial⟩, by decide, trivial⟩ ?_
 obtain ⟨J1, hJ1, h⟩ := jn_some h
 refine WP.joinA (fun (zz : (List (List Int))) => ⟨[2009], [(3, vo 2009 (List.length zz)), (2, V.t (T.nils))], [(2009, oc 24 (List.map (fun l => T.list (List.length l) 1 (List.map (ti) l)) zz))]⟩) (fun zz => J1 zz = some y0) ?_ ?_
 ·refine WP.sk tm [] [] [(4, vi 0), (3, vo 2009 1), (2, V.t (T.nils)), (0, vl x0)] [(2009, oc 24 [T.list 0 1 []])] trivial ?_
  refine WP.block ?_
  refine WP.lp (α := Nat × (List (List Int)) × Int) (fun zz => ⟨[2009], [(4, vi zz.2.2), (3, vo 2009 (List.length zz.2.1)), (2, V.t (T.nils)), (0, vl x0)], [(2009, oc 24 (List.map (fun l => T.list (List.length l) 1 (List.map (ti) l)) zz.2.1))]⟩) (fun zz => F_s4S_L1 x0 J1 zz.1 zz.2.1 zz.2.2 = some y0) (fun zz => zz.1) (fuel, [([] : List Int)], (0 : Int)) h ?_
  rintro ⟨n, o9, v4⟩ h0
  have h := (show F_s4S_L1 x0 J1 n o9 v4 = some y0 from h0)
  rcases n with _ | n
  ·rw [F_s4S_L1] at h; cases h
  ·rw [F_s4S_L1] at h
   refine WP.seq ?_
   refine WP.sk tm [] [(True)] [(13, vb (decide (v4 < (ln x0)))), (4, vi v4), (3, vo 2009 (List.length o9)), (2, V.t (T.nils)), (0, vl x0)] [(2009, oc 24 (List.map (fun l => T.list (List.length l) 1 (List.map (ti) l)) o9))] ⟨trivial, trivial⟩ ?_
   rcases ite_some h with ⟨h1, h⟩ | ⟨h1, h⟩
   ·refine WP.yes h1 rfl ?_
    refine WP.pk tm [] [] [(4, vi v4), (3, vo 2009 (List.length o9)), (2, V.t (T.nils)), (0, vl x0)] [(2009, oc 24 (List.map (fun l => T.list (List.length l) 1 (List.map (ti) l)) o9))] trivial ?_
    obtain ⟨J2, hJ2, h⟩ := jn_some h
    refine WP.joinA (fun (zz : (List (List Int))) => ⟨[2016], [(3, vo 2016 (List.length zz)), (4, vi v4), (2, V.t (T.nils)), (0, vl x0)], [(2016, oc 24 (List.map (fun l => T.list (List.length l) 1 (List.map (ti) l)) zz))]⟩) (fun zz => J2 zz = some y0) ?_ ?_
    ·refine WP.block ?_
     refine WP.sn tm [(16, An.id 2016)] [(True), (0 = 0 * 1)] [2016, 2009] [(5, vo 2016 0), (4, vi v4), (3, vo 2009 (List.length o9)), (2, V.t (T.nils)), (0, vl x0)] [(2009, oc 24 (List.map (fun l => T.list (List.length l) 1 (List.map (ti) l)) o9)), (2016, oc 24 [])] ⟨trivial, by decide, trivial⟩ ?_
     obtain ⟨J3, hJ3, h⟩ := jn_some h
     refine WP.joinA (fun (zz : (List (List Int))) => ⟨[2009, 2016], [(5, vo 2016 (List.length zz)), (4, vi v4), (3, vo 2009 (List.length o9)), (2, V.t (T.nils)), (0, vl x0)], [(2009, oc 24 (List.map (fun l => T.list (List.length l) 1 (List.map (ti) l)) o9)), (2016, oc 24 (List.map (fun l => T.list (List.length l) 1 (List.map (ti) l)) zz))]⟩) (fun zz => J3 zz = some y0) ?_ ?_
     ·refine WP.sn tm [] [] [2016, 2009] [(6, vi 0), (5, vo 2016 0), (4, vi v4), (3, vo 2009 (List.length o9)), (2, V.t (T.nils)), (0, vl x0)] [(2009, oc 24 (List.map (fun l => T.list (List.length l) 1 (List.map (ti) l)) o9)), (2016, oc 24 [])] trivial ?_
      refine WP.block ?_
      refine WP.lp (α := Nat × (List (List Int)) × Int) (fun zz => ⟨[2009, 2016], [(6, vi zz.2.2), (5, vo 2016 (List.length zz.2.1)), (4, vi v4), (3, vo 2009 (List.length o9)), (2, V.t (T.nils)), (0, vl x0)], [(2009, oc 24 (List.map (fun l => T.list (List.length l) 1 (List.map (ti) l)) o9)), (2016, oc 24 (List.map (fun l => T.list (List.length l) 1 (List.map (ti) l)) zz.2.1))]⟩) (fun zz => F_s4S_L2 x0 o9 v4 J3 zz.1 zz.2.1 zz.2.2 = some y0) (fun zz => zz.1) (fuel, ([] : List (List Int)), (0 : Int)) h ?_
      rintro ⟨n, o16, v6⟩ h0
      have h := (show F_s4S_L2 x0 o9 v4 J3 n o16 v6 = some y0 from h0)
      rcases n with _ | n
      ·rw [F_s4S_L2] at h; cases h
      ·rw [F_s4S_L2] at h
       refine WP.seq ?_
       refine WP.sk tm [] [(True)] [(20, vb (decide (v6 < (ln o9)))), (6, vi v6), (5, vo 2016 (List.length o16)), (4, vi v4), (3, vo 2009 (List.length o9)), (2, V.t (T.nils)), (0, vl x0)] [(2009, oc 24 (List.map (fun l => T.list (List.length l) 1 (List.map (ti) l)) o9)), (2016, oc 24 (List.map (fun l => T.list (List.length l) 1 (List.map (ti) l)) o16))] ⟨trivial, trivial⟩ ?_
       rcases ite_some h with ⟨h2, h⟩ | ⟨h2, h⟩
       ·refine WP.yes h2 rfl ?_
        refine WP.pk tm [] [] [(6, vi v6), (5, vo 2016 (List.length o16)), (4, vi v4), (3, vo 2009 (List.length o9)), (2, V.t (T.nils)), (0, vl x0)] [(2009, oc 24 (List.map (fun l => T.list (List.length l) 1 (List.map (ti) l)) o9)), (2016, oc 24 (List.map (fun l => T.list (List.length l) 1 (List.map (ti) l)) o16))] trivial ?_
        obtain ⟨J4, hJ4, h⟩ := jn_some h
        refine WP.joinA (fun (zz : (List (List Int))) => ⟨[2009, 2016], [(6, vi v6), (5, vo 2016 (List.length zz)), (4, vi v4), (3, vo 2009 (List.length o9)), (2, V.t (T.nils)), (0, vl x0)], [(2009, oc 24 (List.map (fun l => T.list (List.length l) 1 (List.map (ti) l)) o9)), (2016, oc 24 (List.map (fun l => T.list (List.length l) 1 (List.map (ti) l)) zz))]⟩) (fun zz => J4 zz = some y0) ?_ ?_
        ·refine WP.block ?_
         refine WP.sk tm [] [] [(7, vi 0), (6, vi v6), (5, vo 2016 (List.length o16)), (4, vi v4), (3, vo 2009 (List.length o9)), (2, V.t (T.nils)), (0, vl x0)] [(2009, oc 24 (List.map (fun l => T.list (List.length l) 1 (List.map (ti) l)) o9)), (2016, oc 24 (List.map (fun l => T.list (List.length l) 1 (List.map (ti) l)) o16))] trivial ?_
         refine WP.block ?_
         refine WP.lp (α := Nat × (List (List Int)) × Int) (fun zz => ⟨[2009, 2016], [(7, vi zz.2.2), (6, vi v6), (5, vo 2016 (List.length zz.2.1)), (4, vi v4), (3, vo 2009 (List.length o9)), (2, V.t (T.nils)), (0, vl x0)], [(2009, oc 24 (List.map (fun l => T.list (List.length l) 1 (List.map (ti) l)) o9)), (2016, oc 24 (List.map (fun l => T.list (List.length l) 1 (List.map (ti) l)) zz.2.1))]⟩) (fun zz => F_s4S_L3 x0 o9 v4 v6 J4 zz.1 zz.2.1 zz.2.2 = some y0) (fun zz => zz.1) (fuel, o16, (0 : Int)) h ?_
         rintro ⟨n, o16b, v7⟩ h0
         have h := (show F_s4S_L3 x0 o9 v4 v6 J4 n o16b v7 = some y0 from h0)
         rcases n with _ | n
         ·rw [F_s4S_L3] at h; cases h
         ·rw [F_s4S_L3] at h
          refine WP.seq ?_
          refine WP.seq ?_
          obtain ⟨c0, h⟩ := chk_some h
          refine WP.pk tm [(27, An.v (ti (gt x0 v4 0)))] [(ib v4 x0), ((List.drop ((Int.toNat v4) * 1) (List.map (ti) x0) : List T)[0]? = some (ti (gt x0 v4 0))), (rf (ti (gt x0 v4 0))), (True)] [(28, vb (decide (v7 ≤ (gt x0 v4 0)))), (7, vi v7), (6, vi v6), (5, vo 2016 (List.length o16b)), (4, vi v4), (3, vo 2009 (List.length o9)), (2, V.t (T.nils)), (0, vl x0)] [(2009, oc 24 (List.map (fun l => T.list (List.length l) 1 (List.map (ti) l)) o9)), (2016, oc 24 (List.map (fun l => T.list (List.length l) 1 (List.map (ti) l)) o16b))] ⟨c0, at1 (by simp) (by omega), rfl, trivial, trivial⟩ ?_
          rcases ite_some h with ⟨h3, h⟩ | ⟨h3, h⟩
          ·refine WP.yes h3 rfl ?_
           refine WP.pk tm [] [] [(7, vi v7), (6, vi v6), (5, vo 2016 (List.length o16b)), (4, vi v4), (3, vo 2009 (List.length o9)), (2, V.t (T.nils)), (0, vl x0)] [(2009, oc 24 (List.map (fun l => T.list (List.length l) 1 (List.map (ti) l)) o9)), (2016, oc 24 (List.map (fun l => T.list (List.length l) 1 (List.map (ti) l)) o16b))] trivial ?_
           refine WP.seq ?_
           refine WP.block ?_
           obtain ⟨c1, c2, h⟩ := chk2 h
           obtain ⟨c3, c4, h⟩ := chk2 h
           refine WP.pn tm [(35, An.v (tl (gt o9 v6 []))), (36, An.callG [(9000, 10360)] [vl (gt o9 v6 [])] [] (vo 9000 (List.length (gt o9 v6 []))) [(9000, oc 3 (List.map (ti) (gt o9 v6 [])))]), (38, An.fz), (39, An.fz), (40, An.fz), (41, An.id 2041)] [(ib v6 o9), ((List.map (fun l => T.list (List.length l) 1 (List.map (ti) l)) o9 : List T)[(Int.toNat v6) * 1]? = some (tl (gt o9 v6 []))), (rf (tl (gt o9 v6 []))), (CG Tryz.prog 55 [vl (gt o9 v6 [])] [] (vo 9000 (List.length (gt o9 v6 []))) [(9000, oc 3 (List.map (ti) (gt o9 v6 [])))]), (WkT (tl (gt o9 v6 [])) (tl (gt o9 v6 []))), ((1 = 1 ∧ 0 + 1 ≤ 1) ∧ True), (1 = 1 * 1), (True), (List.length (List.map (ti) (gt o9 v6 [])) = (List.length (gt o9 v6 [])) * 1), ((((List.length (gt o9 v6 [])) + 1) * 8 ≤ 140737488355328 ∧ (List.length (gt o9 v6 [])) + 1 ≤ maxLen)), ((1 = 1 ∧ 0 + 1 ≤ 1) ∧ True), (1 = 1 * 1), (True), (List.length (List.map (fun l => T.list (List.length l) 1 (List.map (ti) l)) o16b) = (List.length o16b) * 1), ((((List.length o16b) + 1) * 24 ≤ 140737488355328 ∧ (List.length o16b) + 1 ≤ maxLen))] [2041, 10360, 2009, 2016] [(5, vo 2041 ((List.length o16b) + 1)), (7, vi v7), (6, vi v6), (4, vi v4), (3, vo 2009 (List.length o9)), (2, V.t (T.nils)), (0, vl x0)] [(2009, oc 24 (List.map (fun l => T.list (List.length l) 1 (List.map (ti) l)) o9)), (2041, oc 24 ((List.map (fun l => T.list (List.length l) 1 (List.map (ti) l)) o16b) ++ [T.list ((List.length (gt o9 v6 [])) + 1) 1 ((List.map (ti) (gt o9 v6 [])) ++ [ti v7])]))] ⟨c1, atM (by simp) (by first | omega | (simp only [tlL]; omega) | (simp; omega)), rfl, (l1Own_C_G (gt o9 v6 []) c2), WkT.refl _, ⟨⟨by first | rfl | (simp; done) | (simp []; done) | omega, by first | decide | (simp; done) | (simp []; done) | omega | (simp only [tlL]; omega) | (simp; omega)⟩, trivial⟩, by decide, trivial, by first | rfl | omega | (simp only [tlL] <;> omega) | (simp <;> omega) | (simp [] <;> omega), c3, ⟨⟨by first | rfl | (simp; done) | (simp []; done) | omega, by first | decide | (simp; done) | (simp []; done) | omega | (simp only [tlL]; omega) | (simp; omega)⟩, trivial⟩, by decide, trivial, by first | rfl | omega | (simp only [tlL] <;> omega) | (simp <;> omega) | (simp [] <;> omega), c4, trivial⟩ ?_
           obtain ⟨c5, h⟩ := chk_some h
           refine WP.nk tm [(30, An.v (ti (v7 + 1)))] [(2009, 2009), (2041, 2016)] .normal [(True), (wr (v7 + 1))] [(7, vi (v7 + 1)), (6, vi v6), (5, vo 2016 ((List.length o16b) + 1)), (4, vi v4), (3, vo 2009 (List.length o9)), (2, V.t (T.nils)), (0, vl x0)] [(2009, oc 24 (List.map (fun l => T.list (List.length l) 1 (List.map (ti) l)) o9)), (2016, oc 24 ((List.map (fun l => T.list (List.length l) 1 (List.map (ti) l)) o16b) ++ [T.list ((List.length (gt o9 v6 [])) + 1) 1 ((List.map (ti) (gt o9 v6 [])) ++ [ti v7])]))] ⟨trivial, wrapI c5, trivial⟩ ?_
           exact ⟨(n, o16b ++ [(gt o9 v6 []) ++ [v7]], (v7 + 1)), h, Nat.lt_succ_self _, (by first | rfl | (simp only [tlS, tl, vl, vo, oc, ov, tbl, vbl, ty, vy] <;> rfl) | (simp <;> omega) | (simp []; done) | (rw [List.take_of_length_le (by simp [])] <;> rfl) | (simp [List.take_of_length_le]; done))⟩
          ·refine WP.no h3 rfl ?_
           refine WP.eq tm [] 4 [] [(6, vi v6), (5, vo 2016 (List.length o16b)), (4, vi v4), (3, vo 2009 (List.length o9)), (2, V.t (T.nils)), (0, vl x0)] [(2009, oc 24 (List.map (fun l => T.list (List.length l) 1 (List.map (ti) l)) o9)), (2016, oc 24 (List.map (fun l => T.list (List.length l) 1 (List.map (ti) l)) o16b))] trivial ?_
           exact ⟨(o16b), h, rfl⟩
        ·intro o16b h0
         have h := (show J4 o16b = some y0 from h0)
         rw [hJ4] at h
         obtain ⟨c0, h⟩ := chk_some h
         refine WP.qk tm [(22, An.v (ti (v6 + 1)))] [(True), (wr (v6 + 1))] [(6, vi (v6 + 1)), (5, vo 2016 (List.length o16b)), (4, vi v4), (3, vo 2009 (List.length o9)), (2, V.t (T.nils)), (0, vl x0)] [(2009, oc 24 (List.map (fun l => T.list (List.length l) 1 (List.map (ti) l)) o9)), (2016, oc 24 (List.map (fun l => T.list (List.length l) 1 (List.map (ti) l)) o16b))] ⟨trivial, wrapI c0, trivial⟩ ?_
         exact ⟨(n, o16b, (v6 + 1)), h, Nat.lt_succ_self _, rfl⟩
       ·refine WP.no h2 rfl ?_
        refine WP.eq tm [] 2 [] [(5, vo 2016 (List.length o16)), (4, vi v4), (3, vo 2009 (List.length o9)), (2, V.t (T.nils)), (0, vl x0)] [(2009, oc 24 (List.map (fun l => T.list (List.length l) 1 (List.map (ti) l)) o9)), (2016, oc 24 (List.map (fun l => T.list (List.length l) 1 (List.map (ti) l)) o16))] trivial ?_
        exact ⟨(o16), h, rfl⟩
     ·intro o16 h0
      have h := (show J3 o16 = some y0 from h0)
      rw [hJ3] at h
      refine WP.qk tm [] [] [(3, vo 2016 (List.length o16)), (4, vi v4), (2, V.t (T.nils)), (0, vl x0)] [(2016, oc 24 (List.map (fun l => T.list (List.length l) 1 (List.map (ti) l)) o16))] trivial ?_
      exact ⟨(o16), h, rfl⟩
    ·intro o16 h0
     have h := (show J2 o16 = some y0 from h0)
     rw [hJ2] at h
     obtain ⟨c0, h⟩ := chk_some h
     refine WP.nk tm [(15, An.v (ti (v4 + 1)))] [(2016, 2009)] .normal [(True), (wr (v4 + 1))] [(4, vi (v4 + 1)), (3, vo 2009 (List.length o16)), (2, V.t (T.nils)), (0, vl x0)] [(2009, oc 24 (List.map (fun l => T.list (List.length l) 1 (List.map (ti) l)) o16))] ⟨trivial, wrapI c0, trivial⟩ ?_
     exact ⟨(n, o16, (v4 + 1)), h, Nat.lt_succ_self _, rfl⟩
   ·refine WP.no h1 rfl ?_
    refine WP.eq tm [] 0 [] [(3, vo 2009 (List.length o9)), (2, V.t (T.nils))] [(2009, oc 24 (List.map (fun l => T.list (List.length l) 1 (List.map (ti) l)) o9))] trivial ?_
    exact ⟨(o9), h, rfl⟩
 ·intro o9 h0
  have h := (show J1 o9 = some y0 from h0)
  rw [hJ1] at h
  have h := Option.some.inj h
  subst h
  exact WP.pathG tab_ok mixed [] [.keep [2], .keepO [2009], .names [(2009, 9000)]] [9000] _ (r' := vo 9000 (List.length o9)) (ps := []) (r := vo 9000 (List.length o9)) (N := [9000]) (O := [(9000, oc 24 (List.map (fun l => T.list (List.length l) 1 (List.map (ti) l)) o9))]) [] (by kernel_rfl) trivial ⟨rfl, trivial⟩ rfl rfl (fun _ h => h)
theorem F_s4S_W_C (x0 : List Int) (y0 : List (List Int)) (h : F_s4S x0 = some y0) : C Tryz.prog 146 [tl x0] (T.list (List.length y0) 1 (List.map (fun l => T.list (List.length l) 1 (List.map (ti) l)) y0)) :=
 CG.toC (ps := [(List.length (List.map (fun l => T.list (List.length l) 1 (List.map (ti) l)) y0) = (List.length y0) * 1)]) (F_s4S_W  x0 y0 h) (by rfl) ⟨by first | rfl | omega | (simp <;> omega) | (simp [hl] <;> omega), trivial⟩
theorem F_s_l4Rest_W (x0 : List Int) (x1 : List Int) (y0 : List Int) (h : F_s_l4Rest x0 x1 = some y0) : CG Tryz.prog 153 [vl x0, vl x1] [] (vo 9000 (List.length y0)) [(9000, oc 3 (List.map (ti) y0))] := by
 unfold F_s_l4Rest at h
 refine CG.intro (tab := tab) tab_ok (fn := Tryz.f153) Tryz.func153 (by kernel_rfl) rfl (Nat.le_of_ble_eq_true rfl) (by kernel_rfl) ?_
 refine WP.sk tm [] [] [(4, V.t (T.nils)), (0, vl x0), (1, vl x1)] [] trivial ?_
 refine WP.sk tm [(7, An.id 2007)] [(True), (0 = 0 * 1)] [(5, vo 2007 0), (4, V.t (T.nils)), (0, vl x0), (1, vl x1)] [(2007, oc 3 [])] ⟨trivial, by decide, trivial⟩ ?_
 obtain ⟨J1, hJ1, h⟩ := jn_some h
 refine WP.joinA (fun (zz : (List Int)) => ⟨[2007], [(5, vo 2007 (List.length zz)), (4, V.t (T.nils))], [(2007, oc 3 (List.map (ti) zz))]⟩) (fun zz => J1 zz = some y0) ?_ ?_
 ·refine WP.sk tm [] [] [(6, vi 0), (5, vo 2007 0), (4, V.t (T.nils)), (0, vl x0), (1, vl x1)] [(2007, oc 3 [])] trivial ?_
  refine WP.block ?_
  refine WP.lp (α := Nat × (List Int) × Int) (fun zz => ⟨[2007], [(6, vi zz.2.2), (5, vo 2007 (List.length zz.2.1)), (4, V.t (T.nils)), (0, vl x0), (1, vl x1)], [(2007, oc 3 (List.map (ti) zz.2.1))]⟩) (fun zz => F_s_l4Rest_L1 x0 x1 J1 zz.1 zz.2.1 zz.2.2 = some y0) (fun zz => zz.1) (fuel, ([] : List Int), (0 : Int)) h ?_
  rintro ⟨n, o7, v6⟩ h0
  have h := (show F_s_l4Rest_L1 x0 x1 J1 n o7 v6 = some y0 from h0)
  rcases n with _ | n
  ·rw [F_s_l4Rest_L1] at h; cases h
  ·rw [F_s_l4Rest_L1] at h
   refine WP.seq ?_
   refine WP.sk tm [] [(True)] [(11, vb (decide (v6 < (ln x0)))), (6, vi v6), (5, vo 2007 (List.length o7)), (4, V.t (T.nils)), (0, vl x0), (1, vl x1)] [(2007, oc 3 (List.map (ti) o7))] ⟨trivial, trivial⟩ ?_
   rcases ite_some h with ⟨h1, h⟩ | ⟨h1, h⟩
   ·refine WP.yes h1 rfl ?_
    refine WP.pk tm [] [] [(6, vi v6), (5, vo 2007 (List.length o7)), (4, V.t (T.nils)), (0, vl x0), (1, vl x1)] [(2007, oc 3 (List.map (ti) o7))] trivial ?_
    refine WP.seq ?_
    refine WP.block ?_
    obtain ⟨c0, c1, h⟩ := chk2 h
    obtain ⟨c2, h⟩ := chk_some h
    obtain ⟨n23, c3, h⟩ := nam_some h
    obtain ⟨c4, h⟩ := chk_some h
    refine WP.pn tm [(18, An.v (ti (gt x0 v6 0))), (22, An.v (ti (gt x1 v6 0))), (23, An.v (ti n23)), (24, An.fz), (25, An.id 2025)] [(ib v6 x0), ((List.drop ((Int.toNat v6) * 1) (List.map (ti) x0) : List T)[0]? = some (ti (gt x0 v6 0))), (rf (ti (gt x0 v6 0))), (ib v6 x1), ((List.drop ((Int.toNat v6) * 1) (List.map (ti) x1) : List T)[0]? = some (ti (gt x1 v6 0))), (rf (ti (gt x1 v6 0))), (True), (ti (IntKind.wrap .i64 ((gt x0 v6 0) - (gt x1 v6 0))) = ti n23), ((1 = 1 ∧ 0 + 1 ≤ 1) ∧ True), (1 = 1 * 1), (True), (List.length (List.map (ti) o7) = (List.length o7) * 1), ((((List.length o7) + 1) * 8 ≤ 140737488355328 ∧ (List.length o7) + 1 ≤ maxLen))] [2025, 2007] [(5, vo 2025 ((List.length o7) + 1)), (6, vi v6), (4, V.t (T.nils)), (0, vl x0), (1, vl x1)] [(2025, oc 3 ((List.map (ti) o7) ++ [ti n23]))] ⟨c0, at1 (by simp) (by omega), rfl, c1, at1 (by simp) (by omega), rfl, trivial, Eq.trans (wrapI c2) (congrArg (ti) c3), ⟨⟨by first | rfl | (simp; done) | (simp []; done) | omega, by first | decide | (simp; done) | (simp []; done) | omega | (simp only [tlL]; omega) | (simp; omega)⟩, trivial⟩, by decide, trivial, by first | rfl | omega | (simp only [tlL] <;> omega) | (simp <;> omega) | (simp [] <;> omega), c4, trivial⟩ ?_
    obtain ⟨c5, h⟩ := chk_some h
    refine WP.nk tm [(13, An.v (ti (v6 + 1)))] [(2025, 2007)] .normal [(True), (wr (v6 + 1))] [(6, vi (v6 + 1)), (5, vo 2007 ((List.length o7) + 1)), (4, V.t (T.nils)), (0, vl x0), (1, vl x1)] [(2007, oc 3 ((List.map (ti) o7) ++ [ti n23]))] ⟨trivial, wrapI c5, trivial⟩ ?_
    exact ⟨(n, o7 ++ [n23], (v6 + 1)), h, Nat.lt_succ_self _, (by first | rfl | (simp only [tlS, tl, vl, vo, oc, ov, tbl, vbl, ty, vy] <;> rfl) | (simp <;> omega) | (simp []; done) | (rw [List.take_of_length_le (by simp [])] <;> rfl) | (simp [List.take_of_length_le]; done))⟩
   ·refine WP.no h1 rfl ?_
    refine WP.eq tm [] 0 [] [(5, vo 2007 (List.length o7)), (4, V.t (T.nils))] [(2007, oc 3 (List.map (ti) o7))] trivial ?_
    exact ⟨(o7), h, rfl⟩
 ·intro o7 h0
  have h := (show J1 o7 = some y0 from h0)
  rw [hJ1] at h
  have h := Option.some.inj h
  subst h
  exact WP.pathG tab_ok mixed [] [.keep [4], .keepO [2007], .names [(2007, 9000)]] [9000] _ (r' := vo 9000 (List.length o7)) (ps := []) (r := vo 9000 (List.length o7)) (N := [9000]) (O := [(9000, oc 3 (List.map (ti) o7))]) [] (by kernel_rfl) trivial ⟨rfl, trivial⟩ rfl rfl (fun _ h => h)
theorem F_s_l4Rest_W_C (x0 : List Int) (x1 : List Int) (y0 : List Int) (h : F_s_l4Rest x0 x1 = some y0) : C Tryz.prog 153 [tl x0, tl x1] (tl y0) :=
 CG.toC (ps := [(List.length (List.map (ti) y0) = (List.length y0) * 1)]) (F_s_l4Rest_W  x0 x1 y0 h) (by rfl) ⟨by first | rfl | omega | (simp <;> omega) | (simp [hl] <;> omega), trivial⟩
theorem F_s_l4Yes_W (x0 : List Int) (x1 : List Int) (y0 : List Int) (h : F_s_l4Yes x0 x1 = some y0) : CG Tryz.prog 147 [vl x0, vl x1] [] (vo 9000 (List.length y0)) [(9000, oc 3 (List.map (ti) y0))] := by
 unfold F_s_l4Yes at h
 refine CG.intro (tab := tab) tab_ok (fn := Tryz.f147) Tryz.func147 (by kernel_rfl) rfl (Nat.le_of_ble_eq_true rfl) (by kernel_rfl) ?_
 refine WP.sk tm [] [] [(4, V.t (T.nils)), (0, vl x0), (1, vl x1)] [] trivial ?_
 refine WP.seq ?_
 obtain ⟨r10, c0, h⟩ := bnd1_some h
 obtain ⟨c1, h⟩ := chk_some h
 refine WP.pn tm [(10, An.callG [(9000, 10100)] [vl x0, vl x1] [] (vo 9000 (List.length r10)) [(9000, oc 3 (List.map (ti) r10))]), (12, An.callG [(9000, 10120)] [vl x1] [] (vo 9000 (List.length x1)) [(9000, oc 3 (List.map (ti) x1))])] [(CG Tryz.prog 153 [vl x0, vl x1] [] (vo 9000 (List.length r10)) [(9000, oc 3 (List.map (ti) r10))]), (WkT (tl x0) (tl x0)), (WkT (tl x1) (tl x1)), (CG Tryz.prog 55 [vl x1] [] (vo 9000 (List.length x1)) [(9000, oc 3 (List.map (ti) x1))]), (WkT (tl x1) (tl x1))] [10120, 10100] [(6, vo 10120 (List.length x1)), (5, vo 10100 (List.length r10)), (4, V.t (T.nils))] [(10100, oc 3 (List.map (ti) r10)), (10120, oc 3 (List.map (ti) x1))] ⟨(F_s_l4Rest_W x0 x1 r10 c0), WkT.refl _, WkT.refl _, (l1Own_C_G x1 c1), WkT.refl _, trivial⟩ ?_
 obtain ⟨J1, hJ1, h⟩ := jn_some h
 refine WP.joinA (fun (zz : (List Int)) => ⟨[10120], [(6, vo 10120 (List.length zz)), (4, V.t (T.nils))], [(10120, oc 3 (List.map (ti) zz))]⟩) (fun zz => J1 zz = some y0) ?_ ?_
 ·refine WP.sn tm [] [] [10120, 10100] [(7, vi 1), (6, vo 10120 (List.length x1)), (5, vo 10100 (List.length r10)), (4, V.t (T.nils))] [(10100, oc 3 (List.map (ti) r10)), (10120, oc 3 (List.map (ti) x1))] trivial ?_
  refine WP.block ?_
  refine WP.lp (α := Nat × (List Int) × Int) (fun zz => ⟨[10100, 10120], [(7, vi zz.2.2), (6, vo 10120 (List.length zz.2.1)), (5, vo 10100 (List.length r10)), (4, V.t (T.nils))], [(10100, oc 3 (List.map (ti) r10)), (10120, oc 3 (List.map (ti) zz.2.1))]⟩) (fun zz => F_s_l4Yes_L1 r10 J1 zz.1 zz.2.1 zz.2.2 = some y0) (fun zz => zz.1) (fuel, x1, (1 : Int)) h ?_
  rintro ⟨n, o10120, v7⟩ h0
  have h := (show F_s_l4Yes_L1 r10 J1 n o10120 v7 = some y0 from h0)
  rcases n with _ | n
  ·rw [F_s_l4Yes_L1] at h; cases h
  ·rw [F_s_l4Yes_L1] at h
   refine WP.seq ?_
   refine WP.sk tm [] [(True)] [(16, vb (decide (v7 < (ln o10120)))), (7, vi v7), (6, vo 10120 (List.length o10120)), (5, vo 10100 (List.length r10)), (4, V.t (T.nils))] [(10100, oc 3 (List.map (ti) r10)), (10120, oc 3 (List.map (ti) o10120))] ⟨trivial, trivial⟩ ?_
   rcases ite_some h with ⟨h1, h⟩ | ⟨h1, h⟩
   ·refine WP.yes h1 rfl ?_
    refine WP.pk tm [] [] [(7, vi v7), (6, vo 10120 (List.length o10120)), (5, vo 10100 (List.length r10)), (4, V.t (T.nils))] [(10100, oc 3 (List.map (ti) r10)), (10120, oc 3 (List.map (ti) o10120))] trivial ?_
    refine WP.seq ?_
    refine WP.block ?_
    obtain ⟨c2, c3, h⟩ := chk2 h
    obtain ⟨c4, c5, h⟩ := chk2 h
    obtain ⟨n30, c6, h⟩ := nam_some h
    refine WP.pk tm [(24, An.v (ti (gt o10120 v7 0))), (27, An.v (ti (v7 - 1))), (29, An.v (ti (List.getD r10 (Int.toNat (v7 - 1)) 0))), (30, An.v (ti n30))] [(ib v7 o10120), ((List.map (ti) o10120 : List T)[(Int.toNat v7) * 1]? = some (ti (gt o10120 v7 0))), (rf (ti (gt o10120 v7 0))), (True), (wr (v7 - 1)), ((0 ≤ (v7 - 1) ∧ (v7 - 1) < (ln r10))), ((List.map (ti) r10 : List T)[(Int.toNat (v7 - 1)) * 1]? = some (ti (List.getD r10 (Int.toNat (v7 - 1)) 0))), (rf (ti (List.getD r10 (Int.toNat (v7 - 1)) 0))), (True), (ti (IntKind.wrap .i64 ((gt o10120 v7 0) + (List.getD r10 (Int.toNat (v7 - 1)) 0))) = ti n30), (ib v7 o10120), ((Int.toNat v7) * 1 < List.length (List.map (ti) o10120))] [(7, vi v7), (6, vo 10120 (List.length o10120)), (5, vo 10100 (List.length r10)), (4, V.t (T.nils))] [(10100, oc 3 (List.map (ti) r10)), (10120, oc 3 (List.set (List.map (ti) o10120) ((Int.toNat v7) * 1) (ti n30)))] ⟨c2, atM (by simp) (by first | omega | (simp only [tlL]; omega) | (simp; omega)), rfl, trivial, wrapI c3, c4, atM (by simp) (by first | omega | (simp only [tlL]; omega) | (simp; omega)), rfl, trivial, Eq.trans (wrapI c5) (congrArg (ti) c6), c2, by first | decide | omega | (simp only [tlL] <;> omega) | (simp <;> omega) | (simp [] <;> omega), trivial⟩ ?_
    obtain ⟨c7, h⟩ := chk_some h
    refine WP.qk tm [(18, An.v (ti (v7 + 1)))] [(True), (wr (v7 + 1))] [(7, vi (v7 + 1)), (6, vo 10120 (List.length o10120)), (5, vo 10100 (List.length r10)), (4, V.t (T.nils))] [(10100, oc 3 (List.map (ti) r10)), (10120, oc 3 (List.set (List.map (ti) o10120) ((Int.toNat v7) * 1) (ti n30)))] ⟨trivial, wrapI c7, trivial⟩ ?_
    exact ⟨(n, List.set o10120 (Int.toNat v7) n30, (v7 + 1)), h, Nat.lt_succ_self _, (by first | rfl | (simp only [tlS, tl, vl, vo, oc, ov, tbl, vbl, ty, vy] <;> rfl) | (simp <;> omega) | (simp []; done) | (rw [List.take_of_length_le (by simp [])] <;> rfl) | (simp [List.take_of_length_le]; done))⟩
   ·refine WP.no h1 rfl ?_
    refine WP.eq tm [] 0 [] [(6, vo 10120 (List.length o10120)), (4, V.t (T.nils))] [(10120, oc 3 (List.map (ti) o10120))] trivial ?_
    exact ⟨(o10120), h, rfl⟩
 ·intro o10120 h0
  have h := (show J1 o10120 = some y0 from h0)
  rw [hJ1] at h
  have h := Option.some.inj h
  subst h
  exact WP.pathG tab_ok mixed [] [.keep [4], .keepO [10120], .names [(10120, 9000)]] [9000] _ (r' := vo 9000 (List.length o10120)) (ps := []) (r := vo 9000 (List.length o10120)) (N := [9000]) (O := [(9000, oc 3 (List.map (ti) o10120))]) [] (by kernel_rfl) trivial ⟨rfl, trivial⟩ rfl rfl (fun _ h => h)
theorem F_s_l4Yes_W_C (x0 : List Int) (x1 : List Int) (y0 : List Int) (h : F_s_l4Yes x0 x1 = some y0) : C Tryz.prog 147 [tl x0, tl x1] (tl y0) :=
 CG.toC (ps := [(List.length (List.map (ti) y0) = (List.length y0) * 1)]) (F_s_l4Yes_W  x0 x1 y0 h) (by rfl) ⟨by first | rfl | omega | (simp <;> omega) | (simp [hl] <;> omega), trivial⟩
theorem F_s_l4No_W (x0 : List Int) (x1 : List Int) (y0 : List Int) (h : F_s_l4No x0 x1 = some y0) : CG Tryz.prog 148 [vl x0, vl x1] [] (vo 9000 (List.length y0)) [(9000, oc 3 (List.map (ti) y0))] := by
 unfold F_s_l4No at h
 refine CG.intro (tab := tab) tab_ok (fn := Tryz.f148) Tryz.func148 (by kernel_rfl) rfl (Nat.le_of_ble_eq_true rfl) (by kernel_rfl) ?_
 obtain ⟨r8, c0, h⟩ := bnd1_some h
 obtain ⟨r9, c1, h⟩ := bnd1_some h
 have h := Option.some.inj h
 subst h
 exact WP.pathG tab_ok mixed [(8, An.callG [(9000, 10080)] [vl x0, vl x1] [] (vo 9000 (List.length r8)) [(9000, oc 3 (List.map (ti) r8))]), (9, An.callG [(9000, 10090)] [vl x0, vl r8] [] (vo 9000 (List.length r9)) [(9000, oc 3 (List.map (ti) r9))])] [.keep [4], .keepO [10090], .names [(10090, 9000)]] [9000] _ (r' := vo 9000 (List.length r9)) (ps := [(CG Tryz.prog 153 [vl x0, vl x1] [] (vo 9000 (List.length r8)) [(9000, oc 3 (List.map (ti) r8))]), (WkT (tl x0) (tl x0)), (WkT (tl x1) (tl x1)), (CG Tryz.prog 147 [vl x0, vl r8] [] (vo 9000 (List.length r9)) [(9000, oc 3 (List.map (ti) r9))]), ((vo 9000 (List.length r9)).flat = true), (flatO [(9000, oc 3 (List.map (ti) r9))] = true), (WkT (tl x0) (tl x0)), (List.length (List.map (ti) r8) = (List.length r8) * 1), (WkT (tl r8) (tl r8))]) (r := vo 9000 (List.length r9)) (N := [9000]) (O := [(9000, oc 3 (List.map (ti) r9))]) [] (by kernel_rfl) ⟨(F_s_l4Rest_W x0 x1 r8 c0), WkT.refl _, WkT.refl _, (F_s_l4Yes_W x0 r8 r9 c1), by first | rfl | (simp [V.flats, V.flat, T.flats, T.flat, flats_app, flats_int, flats_bool, flats_str, flats_node, flats_asked, flats_pair, flats_recs, flats_fact, flatEs_mpB, flatEs_mpI, flatEs_mp3]; done), by first | rfl | (simp [flatO, Tl.Obj.flat, V.flats, V.flat, T.flats, T.flat, flats_app, flats_int, flats_bool, flats_str, flats_node, flats_asked, flats_pair, flats_recs, flats_fact, flatEs_mpB, flatEs_mpI, flatEs_mp3]; done), WkT.refl _, by first | rfl | omega | (simp only [tlL] <;> omega) | (simp <;> omega) | (simp [] <;> omega), WkT.refl _, trivial⟩ ⟨rfl, trivial⟩ rfl rfl (fun _ h => h)
theorem F_s_l4No_W_C (x0 : List Int) (x1 : List Int) (y0 : List Int) (h : F_s_l4No x0 x1 = some y0) : C Tryz.prog 148 [tl x0, tl x1] (tl y0) :=
 CG.toC (ps := [(List.length (List.map (ti) y0) = (List.length y0) * 1)]) (F_s_l4No_W  x0 x1 y0 h) (by rfl) ⟨by first | rfl | omega | (simp <;> omega) | (simp [hl] <;> omega), trivial⟩
theorem F_s_l4Within_W (x0 : List Int) (x1 : List Int) (y0 : Bool) (h : F_s_l4Within x0 x1 = some y0) : C Tryz.prog 119 [tl x0, tl x1] (tb y0) := by
 unfold F_s_l4Within at h
 refine C.intro (tab := tab) tab_ok (fn := Tryz.f119) Tryz.func119 (by kernel_rfl) rfl (Nat.le_of_ble_eq_true rfl) ?_
 refine WP.sk tm [] [] [(4, vb false), (0, vl x0), (1, vl x1)] [] trivial ?_
 refine WP.seq ?_
 obtain ⟨r8, c0, h⟩ := bnd1_some h
 refine WP.pk tm [(8, An.callG [(9000, 10080)] [vl x0] [] (vo 9000 (List.length r8)) [(9000, oc 24 (List.map (fun l => T.list (List.length l) 1 (List.map (ti) l)) r8))])] [(CG Tryz.prog 146 [vl x0] [] (vo 9000 (List.length r8)) [(9000, oc 24 (List.map (fun l => T.list (List.length l) 1 (List.map (ti) l)) r8))]), (WkT (tl x0) (tl x0))] [(5, vo 10080 (List.length r8)), (4, vb false), (0, vl x0), (1, vl x1)] [(10080, oc 24 (List.map (fun l => T.list (List.length l) 1 (List.map (ti) l)) r8))] ⟨(F_s4S_W x0 r8 c0), WkT.refl _, trivial⟩ ?_
 obtain ⟨J1, hJ1, h⟩ := jn_some h
 refine WP.joinA (fun (zz : Unit) => ⟨[], [(4, vb false)], []⟩) (fun zz => J1 () = some y0) ?_ ?_
 ·refine WP.sk tm [] [] [(6, vi 0), (5, vo 10080 (List.length r8)), (4, vb false), (0, vl x0), (1, vl x1)] [(10080, oc 24 (List.map (fun l => T.list (List.length l) 1 (List.map (ti) l)) r8))] trivial ?_
  refine WP.block ?_
  refine WP.lp (α := Nat × Int) (fun zz => ⟨[10080], [(6, vi zz.2), (5, vo 10080 (List.length r8)), (4, vb false), (0, vl x0), (1, vl x1)], [(10080, oc 24 (List.map (fun l => T.list (List.length l) 1 (List.map (ti) l)) r8))]⟩) (fun zz => F_s_l4Within_L1 x0 x1 r8 J1 zz.1 zz.2 = some y0) (fun zz => zz.1) (fuel, (0 : Int)) h ?_
  rintro ⟨n, v6⟩ h0
  have h := (show F_s_l4Within_L1 x0 x1 r8 J1 n v6 = some y0 from h0)
  rcases n with _ | n
  ·rw [F_s_l4Within_L1] at h; cases h
  ·rw [F_s_l4Within_L1] at h
   refine WP.seq ?_
   refine WP.sk tm [] [(True)] [(12, vb (decide (v6 < (ln r8)))), (6, vi v6), (5, vo 10080 (List.length r8)), (4, vb false), (0, vl x0), (1, vl x1)] [(10080, oc 24 (List.map (fun l => T.list (List.length l) 1 (List.map (ti) l)) r8))] ⟨trivial, trivial⟩ ?_
   rcases ite_some h with ⟨h1, h⟩ | ⟨h1, h⟩
   ·refine WP.yes h1 rfl ?_
    refine WP.pk tm [] [] [(6, vi v6), (5, vo 10080 (List.length r8)), (4, vb false), (0, vl x0), (1, vl x1)] [(10080, oc 24 (List.map (fun l => T.list (List.length l) 1 (List.map (ti) l)) r8))] trivial ?_
    refine WP.seq ?_
    refine WP.block ?_
    obtain ⟨J2, hJ2, h⟩ := jn_some h
    refine WP.joinA (fun (zz : Bool) => ⟨[10080], [(38, vb zz), (6, vi v6), (5, vo 10080 (List.length r8)), (4, vb false), (0, vl x0), (1, vl x1)], [(10080, oc 24 (List.map (fun l => T.list (List.length l) 1 (List.map (ti) l)) r8))]⟩) (fun zz => J2 zz = some y0) ?_ ?_
    ·obtain ⟨c1, h⟩ := chk_some h
     obtain ⟨r21, c2, h⟩ := bnd1_some h
     obtain ⟨r22, c3, h⟩ := bnd1_some h
     obtain ⟨c4, h⟩ := chk_some h
     rcases ite_some h with ⟨h2, h⟩ | ⟨h2, h⟩
     ·obtain ⟨r33, c5, h⟩ := bnd1_some h
      obtain ⟨r34, c6, h⟩ := bnd1_some h
      obtain ⟨c7, h⟩ := chk_some h
      refine WP.qk tm [(20, An.v (tl (gt r8 v6 []))), (21, An.callG [(9000, 10210)] [vl x0, vl (gt r8 v6 [])] [] (vo 9000 (List.length r21)) [(9000, oc 3 (List.map (ti) r21))]), (22, An.call (ti r22)), (24, An.v (ti (gt x1 r22 0))), (25, An.b true), (32, An.v (tl (gt r8 v6 []))), (33, An.callG [(9000, 10330)] [vl x0, vl (gt r8 v6 [])] [] (vo 9000 (List.length r33)) [(9000, oc 3 (List.map (ti) r33))]), (34, An.call (ti r34)), (36, An.v (ti (gt x1 r34 0)))] [(ib v6 r8), ((List.map (fun l => T.list (List.length l) 1 (List.map (ti) l)) r8 : List T)[(Int.toNat v6) * 1]? = some (tl (gt r8 v6 []))), (rf (tl (gt r8 v6 []))), (CG Tryz.prog 147 [vl x0, vl (gt r8 v6 [])] [] (vo 9000 (List.length r21)) [(9000, oc 3 (List.map (ti) r21))]), (WkT (tl x0) (tl x0)), (WkT (tl (gt r8 v6 [])) (tl (gt r8 v6 []))), (C Tryz.prog 104 [tl r21] (ti r22)), (List.length (List.map (ti) r21) = (List.length r21) * 1), (ib r22 x1), ((List.drop ((Int.toNat r22) * 1) (List.map (ti) x1) : List T)[0]? = some (ti (gt x1 r22 0))), (rf (ti (gt x1 r22 0))), (True), ((decide ((gt x1 r22 0) ≥ (0 : Int))) = true), (ib v6 r8), ((List.map (fun l => T.list (List.length l) 1 (List.map (ti) l)) r8 : List T)[(Int.toNat v6) * 1]? = some (tl (gt r8 v6 []))), (rf (tl (gt r8 v6 []))), (CG Tryz.prog 148 [vl x0, vl (gt r8 v6 [])] [] (vo 9000 (List.length r33)) [(9000, oc 3 (List.map (ti) r33))]), (WkT (tl x0) (tl x0)), (WkT (tl (gt r8 v6 [])) (tl (gt r8 v6 []))), (C Tryz.prog 104 [tl r33] (ti r34)), (List.length (List.map (ti) r33) = (List.length r33) * 1), (ib r34 x1), ((List.drop ((Int.toNat r34) * 1) (List.map (ti) x1) : List T)[0]? = some (ti (gt x1 r34 0))), (rf (ti (gt x1 r34 0))), (True)] [(38, vb (decide ((gt x1 r34 0) ≥ (0 : Int)))), (6, vi v6), (5, vo 10080 (List.length r8)), (4, vb false), (0, vl x0), (1, vl x1)] [(10080, oc 24 (List.map (fun l => T.list (List.length l) 1 (List.map (ti) l)) r8))] ⟨c1, atM (by simp) (by first | omega | (simp only [tlL]; omega) | (simp; omega)), rfl, (F_s_l4Yes_W x0 (gt r8 v6 []) r21 c2), WkT.refl _, WkT.refl _, (F_s_l4Key_W r21 r22 c3), by first | rfl | omega | (simp only [tlL] <;> omega) | (simp <;> omega) | (simp [] <;> omega), c4, at1 (by simp) (by omega), rfl, trivial, h2, c1, atM (by simp) (by first | omega | (simp only [tlL]; omega) | (simp; omega)), rfl, (F_s_l4No_W x0 (gt r8 v6 []) r33 c5), WkT.refl _, WkT.refl _, (F_s_l4Key_W r33 r34 c6), by first | rfl | omega | (simp only [tlL] <;> omega) | (simp <;> omega) | (simp [] <;> omega), c7, at1 (by simp) (by omega), rfl, trivial, trivial⟩ ?_
      exact ⟨(decide ((gt x1 r34 0) ≥ (0 : Int))), h, rfl⟩
     ·refine WP.qk tm [(20, An.v (tl (gt r8 v6 []))), (21, An.callG [(9000, 10210)] [vl x0, vl (gt r8 v6 [])] [] (vo 9000 (List.length r21)) [(9000, oc 3 (List.map (ti) r21))]), (22, An.call (ti r22)), (24, An.v (ti (gt x1 r22 0))), (25, An.b false)] [(ib v6 r8), ((List.map (fun l => T.list (List.length l) 1 (List.map (ti) l)) r8 : List T)[(Int.toNat v6) * 1]? = some (tl (gt r8 v6 []))), (rf (tl (gt r8 v6 []))), (CG Tryz.prog 147 [vl x0, vl (gt r8 v6 [])] [] (vo 9000 (List.length r21)) [(9000, oc 3 (List.map (ti) r21))]), (WkT (tl x0) (tl x0)), (WkT (tl (gt r8 v6 [])) (tl (gt r8 v6 []))), (C Tryz.prog 104 [tl r21] (ti r22)), (List.length (List.map (ti) r21) = (List.length r21) * 1), (ib r22 x1), ((List.drop ((Int.toNat r22) * 1) (List.map (ti) x1) : List T)[0]? = some (ti (gt x1 r22 0))), (rf (ti (gt x1 r22 0))), (True), ((decide ((gt x1 r22 0) ≥ (0 : Int))) = false)] [(38, vb false), (6, vi v6), (5, vo 10080 (List.length r8)), (4, vb false), (0, vl x0), (1, vl x1)] [(10080, oc 24 (List.map (fun l => T.list (List.length l) 1 (List.map (ti) l)) r8))] ⟨c1, atM (by simp) (by first | omega | (simp only [tlL]; omega) | (simp; omega)), rfl, (F_s_l4Yes_W x0 (gt r8 v6 []) r21 c2), WkT.refl _, WkT.refl _, (F_s_l4Key_W r21 r22 c3), by first | rfl | omega | (simp only [tlL] <;> omega) | (simp <;> omega) | (simp [] <;> omega), c4, at1 (by simp) (by omega), rfl, trivial, h2, trivial⟩ ?_
      exact ⟨(false), h, rfl⟩
    ·intro v38 h0
     have h := (show J2 v38 = some y0 from h0)
     rw [hJ2] at h
     rcases ite_some h with ⟨h3, h⟩ | ⟨h3, h⟩
     ·refine WP.yes h3 rfl ?_
      have h := Option.some.inj h
      subst h
      exact WP.pathW tab_ok mixed [] _ (ps := []) (r := tb true) (by kernel_rfl) trivial (WkT.eq (y := tb true) (WkT.refl _) rfl) (fun _ h => h)
     ·refine WP.no h3 rfl ?_
      refine WP.pk tm [] [] [(6, vi v6), (5, vo 10080 (List.length r8)), (4, vb false), (0, vl x0), (1, vl x1)] [(10080, oc 24 (List.map (fun l => T.list (List.length l) 1 (List.map (ti) l)) r8))] trivial ?_
      obtain ⟨c1, h⟩ := chk_some h
      refine WP.qk tm [(14, An.v (ti (v6 + 1)))] [(True), (wr (v6 + 1))] [(6, vi (v6 + 1)), (5, vo 10080 (List.length r8)), (4, vb false), (0, vl x0), (1, vl x1)] [(10080, oc 24 (List.map (fun l => T.list (List.length l) 1 (List.map (ti) l)) r8))] ⟨trivial, wrapI c1, trivial⟩ ?_
      exact ⟨(n, (v6 + 1)), h, Nat.lt_succ_self _, rfl⟩
   ·refine WP.no h1 rfl ?_
    refine WP.eq tm [] 0 [] [(4, vb false)] [] trivial ?_
    exact ⟨(), h, rfl⟩
 ·intro _ h0
  have h := (show J1 () = some y0 from h0)
  rw [hJ1] at h
  have h := Option.some.inj h
  subst h
  exact WP.pathW tab_ok mixed [] _ (ps := []) (r := tb false) (by kernel_rfl) trivial (WkT.eq (y := tb false) (WkT.refl _) rfl) (fun _ h => h)
theorem F_s4N_W (x0 : Int) (y0 : List Int) (h : F_s4N x0 = some y0) : CG Tryz.prog 64 [vi x0] [] (vo 9000 (List.length y0)) [(9000, oc 3 (List.map (T.int .i64) y0))] := by
 unfold F_s4N at h
 refine CG.intro (tab := tab) tab_ok (fn := Tryz.f64) Tryz.func64 (by kernel_rfl) rfl (Nat.le_of_ble_eq_true rfl) (by kernel_rfl) ?_
 refine WP.sk tm [] [] [(2, V.t (T.nils)), (0, vi x0)] [] trivial ?_
 refine WP.sk tm [] [] [(3, vi 1), (2, V.t (T.nils)), (0, vi x0)] [] trivial ?_
 obtain ⟨J1, hJ1, h⟩ := jn_some h
 refine WP.joinA (fun (zz : Int) => ⟨[], [(3, vi zz), (2, V.t (T.nils)), (0, vi x0)], []⟩) (fun zz => J1 zz = some y0) ?_ ?_
 ·refine WP.sk tm [] [] [(4, vi 0), (3, vi 1), (2, V.t (T.nils)), (0, vi x0)] [] trivial ?_
  refine WP.block ?_
  refine WP.lp (α := Nat × Int × Int) (fun zz => ⟨[], [(4, vi zz.2.1), (3, vi zz.2.2), (2, V.t (T.nils)), (0, vi x0)], []⟩) (fun zz => F_s4N_L1 x0 J1 zz.1 zz.2.1 zz.2.2 = some y0) (fun zz => zz.1) (fuel, (0 : Int), (1 : Int)) h ?_
  rintro ⟨n, v4, v3⟩ h0
  have h := (show F_s4N_L1 x0 J1 n v4 v3 = some y0 from h0)
  rcases n with _ | n
  ·rw [F_s4N_L1] at h; cases h
  ·rw [F_s4N_L1] at h
   refine WP.seq ?_
   refine WP.sk tm [] [(True)] [(16, vb (decide (v4 < x0))), (4, vi v4), (3, vi v3), (2, V.t (T.nils)), (0, vi x0)] [] ⟨trivial, trivial⟩ ?_
   rcases ite_some h with ⟨h1, h⟩ | ⟨h1, h⟩
   ·refine WP.yes h1 rfl ?_
    refine WP.pk tm [] [] [(4, vi v4), (3, vi v3), (2, V.t (T.nils)), (0, vi x0)] [] trivial ?_
    refine WP.seq ?_
    refine WP.block ?_
    obtain ⟨c0, h⟩ := chk_some h
    refine WP.pk tm [(20, An.v (ti (v3 * 9)))] [(True), (wr (v3 * 9))] [(3, vi (v3 * 9)), (4, vi v4), (2, V.t (T.nils)), (0, vi x0)] [] ⟨trivial, wrapI c0, trivial⟩ ?_
    obtain ⟨c1, h⟩ := chk_some h
    refine WP.qk tm [(18, An.v (ti (v4 + 1)))] [(True), (wr (v4 + 1))] [(4, vi (v4 + 1)), (3, vi (v3 * 9)), (2, V.t (T.nils)), (0, vi x0)] [] ⟨trivial, wrapI c1, trivial⟩ ?_
    exact ⟨(n, (v4 + 1), (v3 * 9)), h, Nat.lt_succ_self _, rfl⟩
   ·refine WP.no h1 rfl ?_
    refine WP.eq tm [] 0 [] [(3, vi v3), (2, V.t (T.nils)), (0, vi x0)] [] trivial ?_
    exact ⟨(v3), h, rfl⟩
 ·intro v3 h0
  have h := (show J1 v3 = some y0 from h0)
  rw [hJ1] at h
  refine WP.seq ?_
  obtain ⟨c0, h⟩ := chk_some h
  refine WP.pn tm [(22, An.id 2022), (23, An.id 2023)] [((0 ≤ v3 ∧ v3 ≤ v3 ∧ (8 : Int) * v3 ≤ 281474976710656 ∧ v3 ≤ (maxLen : Int))), (True), (0 = 0 * 1)] [2023, 2022] [(6, vo 2023 0), (5, vo 2022 (Int.toNat v3)), (3, vi v3), (2, V.t (T.nils)), (0, vi x0)] [(2022, oc 3 (List.replicate (Int.toNat v3) (ti 0))), (2023, oc 3 [])] ⟨c0, trivial, by decide, trivial⟩ ?_
  obtain ⟨J1, hJ1, h⟩ := jn_some h
  refine WP.joinA (fun (zz : (List Int) × (List Int)) => ⟨[2022, 2023], [(6, vo 2023 (List.length zz.2)), (5, vo 2022 (List.length zz.1)), (2, V.t (T.nils)), (0, vi x0)], [(2022, oc 3 (List.map (ti) zz.1)), (2023, oc 3 (List.map (ti) zz.2))]⟩) (fun zz => J1 zz.1 zz.2 = some y0) ?_ ?_
  ·refine WP.sn tm [] [] [2023, 2022] [(7, vi 0), (6, vo 2023 0), (5, vo 2022 (Int.toNat v3)), (3, vi v3), (2, V.t (T.nils)), (0, vi x0)] [(2022, oc 3 (List.replicate (Int.toNat v3) (ti 0))), (2023, oc 3 [])] trivial ?_
   refine WP.block ?_
   refine WP.wk [.keep [7, 6, 5, 3, 2, 0], .keepO [2022, 2023], .names [(2022, 2022), (2023, 2023)]] (σ' := ⟨[2022, 2023], [(7, vi 0), (6, vo 2023 0), (5, vo 2022 (Int.toNat v3)), (3, vi v3), (2, V.t (T.nils)), (0, vi x0)], [(2022, oc 3 (List.replicate (Int.toNat v3) (ti 0))), (2023, oc 3 [])]⟩) (ps := []) (by kernel_rfl) trivial ?_
   refine WP.st (σ' := ⟨[2022, 2023], [(7, vi (0 : Int)), (6, vo 2023 (List.length ([] : List Int))), (5, vo 2022 (List.length (List.replicate (Int.toNat v3) (0 : Int)))), (3, vi v3), (2, V.t (T.nils)), (0, vi x0)], [(2022, oc 3 (List.map (ti) (List.replicate (Int.toNat v3) (0 : Int)))), (2023, oc 3 (List.map (ti) ([] : List Int)))]⟩) (by simp <;> omega) ?_
   refine WP.loop (α := Nat × (List Int) × (List Int) × Int) (fun zz => ⟨[2022, 2023], [(7, vi zz.2.2.2), (6, vo 2023 (List.length zz.2.2.1)), (5, vo 2022 (List.length zz.2.1)), (3, vi v3), (2, V.t (T.nils)), (0, vi x0)], [(2022, oc 3 (List.map (T.int .i64) zz.2.1)), (2023, oc 3 (List.map (T.int .i64) zz.2.2.1))]⟩) (fun zz => F_s4N_L2 x0 v3 J1 zz.1 zz.2.1 zz.2.2.1 zz.2.2.2 = some y0) (fun zz => zz.1) (fuel, List.replicate (Int.toNat v3) (0 : Int), ([] : List Int), (0 : Int)) h ?_
   rintro ⟨n, o22, o23, v7⟩ h0
   have h := (show F_s4N_L2 x0 v3 J1 n o22 o23 v7 = some y0 from h0)
   rcases n with _ | n
   ·rw [F_s4N_L2] at h; cases h
   ·rw [F_s4N_L2] at h
    refine WP.seq ?_
    refine WP.sk tm [] [(True)] [(26, vb (decide (v7 < v3))), (7, vi v7), (6, vo 2023 (List.length o23)), (5, vo 2022 (List.length o22)), (3, vi v3), (2, V.t (T.nils)), (0, vi x0)] [(2022, oc 3 (List.map (ti) o22)), (2023, oc 3 (List.map (ti) o23))] ⟨trivial, trivial⟩ ?_
    rcases ite_some h with ⟨h2, h⟩ | ⟨h2, h⟩
    ·refine WP.yes h2 rfl ?_
     refine WP.pk tm [] [] [(7, vi v7), (6, vo 2023 (List.length o23)), (5, vo 2022 (List.length o22)), (3, vi v3), (2, V.t (T.nils)), (0, vi x0)] [(2022, oc 3 (List.map (ti) o22)), (2023, oc 3 (List.map (ti) o23))] trivial ?_
     obtain ⟨J2, hJ2, h⟩ := jn_some h
     refine WP.joinA (fun (zz : (List Int) × (List Int)) => ⟨[2022, 2023], [(7, vi v7), (6, vo 2023 (List.length zz.2)), (5, vo 2022 (List.length zz.1)), (3, vi v3), (2, V.t (T.nils)), (0, vi x0)], [(2022, oc 3 (List.map (ti) zz.1)), (2023, oc 3 (List.map (ti) zz.2))]⟩) (fun zz => J2 zz.1 zz.2 = some y0) ?_ ?_
     ·refine WP.block ?_
      refine WP.seq ?_
      obtain ⟨c1, h⟩ := chk_some h
      refine WP.pk tm [] [(ib v7 o22), ((Int.toNat v7) * 1 < List.length (List.map (ti) o22))] [(7, vi v7), (6, vo 2023 (List.length o23)), (5, vo 2022 (List.length o22)), (3, vi v3), (2, V.t (T.nils)), (0, vi x0)] [(2022, oc 3 (List.set (List.map (ti) o22) ((Int.toNat v7) * 1) (ti (-1)))), (2023, oc 3 (List.map (ti) o23))] ⟨c1, by first | decide | omega | (simp only [tlL] <;> omega) | (simp <;> omega) | (simp [] <;> omega), trivial⟩ ?_
      refine WP.seq ?_
      obtain ⟨r34, c2, h⟩ := bnd1_some h
      refine WP.pn tm [(34, An.callG [(9000, 10340)] [vi v7, vi x0] [] (vo 9000 (List.length r34)) [(9000, oc 3 (List.map (ti) r34))])] [(CG Tryz.prog 116 [vi v7, vi x0] [] (vo 9000 (List.length r34)) [(9000, oc 3 (List.map (ti) r34))]), (WkT (ti v7) (ti v7)), (WkT (ti x0) (ti x0))] [10340, 2022, 2023] [(8, vo 10340 (List.length r34)), (7, vi v7), (6, vo 2023 (List.length o23)), (5, vo 2022 (List.length o22)), (3, vi v3), (2, V.t (T.nils)), (0, vi x0)] [(2022, oc 3 (List.set (List.map (ti) o22) ((Int.toNat v7) * 1) (ti (-1)))), (2023, oc 3 (List.map (ti) o23)), (10340, oc 3 (List.map (ti) r34))] ⟨(F_s_l4Counted_W v7 x0 r34 c2), WkT.refl _, WkT.refl _, trivial⟩ ?_
      refine WP.seq ?_
      obtain ⟨r36, c3, h⟩ := bnd1_some h
      refine WP.pn tm [(36, An.call (tb r36))] [(C Tryz.prog 117 [tl r34] (tb r36)), (List.length (List.map (ti) r34) = (List.length r34) * 1)] [10340, 2022, 2023] [(36, vb r36), (8, vo 10340 (List.length r34)), (7, vi v7), (6, vo 2023 (List.length o23)), (5, vo 2022 (List.length o22)), (3, vi v3), (2, V.t (T.nils)), (0, vi x0)] [(2022, oc 3 (List.set (List.map (ti) o22) ((Int.toNat v7) * 1) (ti (-1)))), (2023, oc 3 (List.map (ti) o23)), (10340, oc 3 (List.map (ti) r34))] ⟨(F_s_l4Told_W r34 r36 c3), by first | rfl | omega | (simp only [tlL] <;> omega) | (simp <;> omega) | (simp [] <;> omega), trivial⟩ ?_
      rcases ite_some h with ⟨h3, h⟩ | ⟨h3, h⟩
      ·refine WP.yes h3 rfl ?_
       refine WP.qk tm [] [(ib v7 o22), ((Int.toNat v7) * 1 < List.length (List.set (List.map (ti) o22) ((Int.toNat v7) * 1) (ti (-1))))] [(7, vi v7), (6, vo 2023 (List.length o23)), (5, vo 2022 (List.length o22)), (3, vi v3), (2, V.t (T.nils)), (0, vi x0)] [(2022, oc 3 (List.set (List.set (List.map (ti) o22) ((Int.toNat v7) * 1) (ti (-1))) ((Int.toNat v7) * 1) (ti 0))), (2023, oc 3 (List.map (ti) o23))] ⟨c1, by first | decide | omega | (simp only [tlL] <;> omega) | (simp <;> omega) | (simp [] <;> omega), trivial⟩ ?_
       exact ⟨(List.set (List.set o22 (Int.toNat v7) (-1 : Int)) (Int.toNat v7) (0 : Int), o23), h, (by first | rfl | (simp only [tlS, tl, vl, vo, oc, ov, tbl, vbl, ty, vy] <;> rfl) | (simp <;> omega) | (simp []; done) | (rw [List.take_of_length_le (by simp [])] <;> rfl) | (simp [List.take_of_length_le]; done))⟩
      ·refine WP.no h3 rfl ?_
       refine WP.seq ?_
       obtain ⟨r41, c4, h⟩ := bnd1_some h
       refine WP.pn tm [(41, An.call (tb r41))] [(C Tryz.prog 118 [tl r34] (tb r41)), (List.length (List.map (ti) r34) = (List.length r34) * 1)] [10340, 2022, 2023] [(41, vb r41), (7, vi v7), (6, vo 2023 (List.length o23)), (5, vo 2022 (List.length o22)), (3, vi v3), (2, V.t (T.nils)), (0, vi x0)] [(2022, oc 3 (List.set (List.map (ti) o22) ((Int.toNat v7) * 1) (ti (-1)))), (2023, oc 3 (List.map (ti) o23))] ⟨(F_s_l4Counts_W r34 r41 c4), by first | rfl | omega | (simp only [tlL] <;> omega) | (simp <;> omega) | (simp [] <;> omega), trivial⟩ ?_
       rcases ite_some h with ⟨h4, h⟩ | ⟨h4, h⟩
       ·refine WP.yes h4 rfl ?_
        obtain ⟨c5, h⟩ := chk_some h
        refine WP.nk tm [(44, An.fz), (45, An.id 2045)] [(2022, 2022), (2045, 2023)] .normal [((1 = 1 ∧ 0 + 1 ≤ 1) ∧ True), (1 = 1 * 1), (True), (List.length (List.map (ti) o23) = (List.length o23) * 1), ((((List.length o23) + 1) * 8 ≤ 140737488355328 ∧ (List.length o23) + 1 ≤ maxLen))] [(7, vi v7), (6, vo 2023 ((List.length o23) + 1)), (5, vo 2022 (List.length o22)), (3, vi v3), (2, V.t (T.nils)), (0, vi x0)] [(2022, oc 3 (List.set (List.map (ti) o22) ((Int.toNat v7) * 1) (ti (-1)))), (2023, oc 3 ((List.map (ti) o23) ++ [ti v7]))] ⟨⟨⟨by first | rfl | (simp; done) | (simp []; done) | omega, by first | decide | (simp; done) | (simp []; done) | omega | (simp only [tlL]; omega) | (simp; omega)⟩, trivial⟩, by decide, trivial, by first | rfl | omega | (simp only [tlL] <;> omega) | (simp <;> omega) | (simp [] <;> omega), c5, trivial⟩ ?_
        exact ⟨(List.set o22 (Int.toNat v7) (-1 : Int), o23 ++ [v7]), h, (by first | rfl | (simp only [tlS, tl, vl, vo, oc, ov, tbl, vbl, ty, vy] <;> rfl) | (simp <;> omega) | (simp []; done) | (rw [List.take_of_length_le (by simp [])] <;> rfl) | (simp [List.take_of_length_le]; done))⟩
       ·refine WP.no h4 rfl ?_
        refine WP.qk tm [] [] [(7, vi v7), (6, vo 2023 (List.length o23)), (5, vo 2022 (List.length o22)), (3, vi v3), (2, V.t (T.nils)), (0, vi x0)] [(2022, oc 3 (List.set (List.map (ti) o22) ((Int.toNat v7) * 1) (ti (-1)))), (2023, oc 3 (List.map (ti) o23))] trivial ?_
        exact ⟨(List.set o22 (Int.toNat v7) (-1 : Int), o23), h, (by first | rfl | (simp only [tlS, tl, vl, vo, oc, ov, tbl, vbl, ty, vy] <;> rfl) | (simp <;> omega) | (simp []; done) | (rw [List.take_of_length_le (by simp [])] <;> rfl) | (simp [List.take_of_length_le]; done))⟩
     ·rintro ⟨o22b, o23b⟩ h0
      have h := (show J2 o22b o23b = some y0 from h0)
      rw [hJ2] at h
      obtain ⟨c1, h⟩ := chk_some h
      refine WP.qk tm [(28, An.v (ti (v7 + 1)))] [(True), (wr (v7 + 1))] [(7, vi (v7 + 1)), (6, vo 2023 (List.length o23b)), (5, vo 2022 (List.length o22b)), (3, vi v3), (2, V.t (T.nils)), (0, vi x0)] [(2022, oc 3 (List.map (ti) o22b)), (2023, oc 3 (List.map (ti) o23b))] ⟨trivial, wrapI c1, trivial⟩ ?_
      exact ⟨(n, o22b, o23b, (v7 + 1)), h, Nat.lt_succ_self _, rfl⟩
    ·refine WP.no h2 rfl ?_
     refine WP.eq tm [] 2 [] [(6, vo 2023 (List.length o23)), (5, vo 2022 (List.length o22)), (2, V.t (T.nils)), (0, vi x0)] [(2022, oc 3 (List.map (ti) o22)), (2023, oc 3 (List.map (ti) o23))] trivial ?_
     exact ⟨(o22, o23), h, rfl⟩
  ·rintro ⟨o22, o23⟩ h0
   have h := (show J1 o22 o23 = some y0 from h0)
   rw [hJ1] at h
   obtain ⟨J1, hJ1, h⟩ := jn_some h
   refine WP.joinA (fun (zz : (List Int)) => ⟨[2022], [(5, vo 2022 (List.length zz)), (2, V.t (T.nils))], [(2022, oc 3 (List.map (ti) zz))]⟩) (fun zz => J1 zz = some y0) ?_ ?_
   ·refine WP.sk tm [] [] [(9, vi 1), (6, vo 2023 (List.length o23)), (5, vo 2022 (List.length o22)), (2, V.t (T.nils)), (0, vi x0)] [(2022, oc 3 (List.map (ti) o22)), (2023, oc 3 (List.map (ti) o23))] trivial ?_
    refine WP.block ?_
    refine WP.lp (α := Nat × (List Int) × (List Int) × Int) (fun zz => ⟨[2022, 2023], [(9, vi zz.2.2.2), (6, vo 2023 (List.length zz.2.2.1)), (5, vo 2022 (List.length zz.2.1)), (2, V.t (T.nils)), (0, vi x0)], [(2022, oc 3 (List.map (ti) zz.2.1)), (2023, oc 3 (List.map (ti) zz.2.2.1))]⟩) (fun zz => F_s4N_L3 x0 J1 zz.1 zz.2.1 zz.2.2.1 zz.2.2.2 = some y0) (fun zz => zz.1) (fuel, o22, o23, (1 : Int)) h ?_
    rintro ⟨n, o22b, o23b, v9⟩ h0
    have h := (show F_s4N_L3 x0 J1 n o22b o23b v9 = some y0 from h0)
    rcases n with _ | n
    ·rw [F_s4N_L3] at h; cases h
    ·rw [F_s4N_L3] at h
     refine WP.seq ?_
     refine WP.sk tm [] [(True)] [(48, vb (decide ((ln o23b) > (0 : Int)))), (9, vi v9), (6, vo 2023 (List.length o23b)), (5, vo 2022 (List.length o22b)), (2, V.t (T.nils)), (0, vi x0)] [(2022, oc 3 (List.map (ti) o22b)), (2023, oc 3 (List.map (ti) o23b))] ⟨trivial, trivial⟩ ?_
     rcases ite_some h with ⟨h5, h⟩ | ⟨h5, h⟩
     ·refine WP.yes h5 rfl ?_
      refine WP.pk tm [] [] [(9, vi v9), (6, vo 2023 (List.length o23b)), (5, vo 2022 (List.length o22b)), (2, V.t (T.nils)), (0, vi x0)] [(2022, oc 3 (List.map (ti) o22b)), (2023, oc 3 (List.map (ti) o23b))] trivial ?_
      obtain ⟨J2, hJ2, h⟩ := jn_some h
      refine WP.joinA (fun (zz : (List Int) × (List Int)) => ⟨[2022, 2052], [(6, vo 2052 (List.length zz.2)), (9, vi v9), (5, vo 2022 (List.length zz.1)), (2, V.t (T.nils)), (0, vi x0)], [(2022, oc 3 (List.map (ti) zz.1)), (2052, oc 3 (List.map (ti) zz.2))]⟩) (fun zz => J2 zz.1 zz.2 = some y0) ?_ ?_
      ·refine WP.block ?_
       refine WP.sn tm [(51, An.id 2051), (52, An.id 2052)] [(True), (0 = 0 * 1), (True), (0 = 0 * 1)] [2052, 2051, 2022, 2023] [(11, vo 2052 0), (10, vo 2051 0), (9, vi v9), (6, vo 2023 (List.length o23b)), (5, vo 2022 (List.length o22b)), (2, V.t (T.nils)), (0, vi x0)] [(2022, oc 3 (List.map (ti) o22b)), (2023, oc 3 (List.map (ti) o23b)), (2051, oc 3 []), (2052, oc 3 [])] ⟨trivial, by decide, trivial, by decide, trivial⟩ ?_
       obtain ⟨J3, hJ3, h⟩ := jn_some h
       refine WP.joinA (fun (zz : (List Int) × (List Int)) => ⟨[2022, 2023, 2051, 2052], [(11, vo 2052 (List.length zz.2)), (10, vo 2051 (List.length zz.1)), (9, vi v9), (6, vo 2023 (List.length o23b)), (5, vo 2022 (List.length o22b)), (2, V.t (T.nils)), (0, vi x0)], [(2022, oc 3 (List.map (ti) o22b)), (2023, oc 3 (List.map (ti) o23b)), (2051, oc 3 (List.map (ti) zz.1)), (2052, oc 3 (List.map (ti) zz.2))]⟩) (fun zz => J3 zz.1 zz.2 = some y0) ?_ ?_
       ·refine WP.sn tm [] [] [2052, 2051, 2022, 2023] [(12, vi 0), (11, vo 2052 0), (10, vo 2051 0), (9, vi v9), (6, vo 2023 (List.length o23b)), (5, vo 2022 (List.length o22b)), (2, V.t (T.nils)), (0, vi x0)] [(2022, oc 3 (List.map (ti) o22b)), (2023, oc 3 (List.map (ti) o23b)), (2051, oc 3 []), (2052, oc 3 [])] trivial ?_
        refine WP.block ?_
        refine WP.lp (α := Nat × (List Int) × (List Int) × Int) (fun zz => ⟨[2022, 2023, 2051, 2052], [(12, vi zz.2.2.2), (11, vo 2052 (List.length zz.2.2.1)), (10, vo 2051 (List.length zz.2.1)), (9, vi v9), (6, vo 2023 (List.length o23b)), (5, vo 2022 (List.length o22b)), (2, V.t (T.nils)), (0, vi x0)], [(2022, oc 3 (List.map (ti) o22b)), (2023, oc 3 (List.map (ti) o23b)), (2051, oc 3 (List.map (ti) zz.2.1)), (2052, oc 3 (List.map (ti) zz.2.2.1))]⟩) (fun zz => F_s4N_L4 x0 o22b o23b J3 zz.1 zz.2.1 zz.2.2.1 zz.2.2.2 = some y0) (fun zz => zz.1) (fuel, ([] : List Int), ([] : List Int), (0 : Int)) h ?_
        rintro ⟨n, o51, o52, v12⟩ h0
        have h := (show F_s4N_L4 x0 o22b o23b J3 n o51 o52 v12 = some y0 from h0)
        rcases n with _ | n
        ·rw [F_s4N_L4] at h; cases h
        ·rw [F_s4N_L4] at h
         refine WP.seq ?_
         refine WP.sk tm [] [(True)] [(56, vb (decide (v12 < (ln o23b)))), (12, vi v12), (11, vo 2052 (List.length o52)), (10, vo 2051 (List.length o51)), (9, vi v9), (6, vo 2023 (List.length o23b)), (5, vo 2022 (List.length o22b)), (2, V.t (T.nils)), (0, vi x0)] [(2022, oc 3 (List.map (ti) o22b)), (2023, oc 3 (List.map (ti) o23b)), (2051, oc 3 (List.map (ti) o51)), (2052, oc 3 (List.map (ti) o52))] ⟨trivial, trivial⟩ ?_
         rcases ite_some h with ⟨h6, h⟩ | ⟨h6, h⟩
         ·refine WP.yes h6 rfl ?_
          refine WP.pk tm [] [] [(12, vi v12), (11, vo 2052 (List.length o52)), (10, vo 2051 (List.length o51)), (9, vi v9), (6, vo 2023 (List.length o23b)), (5, vo 2022 (List.length o22b)), (2, V.t (T.nils)), (0, vi x0)] [(2022, oc 3 (List.map (ti) o22b)), (2023, oc 3 (List.map (ti) o23b)), (2051, oc 3 (List.map (ti) o51)), (2052, oc 3 (List.map (ti) o52))] trivial ?_
          refine WP.seq ?_
          refine WP.block ?_
          refine WP.seq ?_
          obtain ⟨c1, h⟩ := chk_some h
          obtain ⟨r64, c2, h⟩ := bnd1_some h
          obtain ⟨r66, c3, h⟩ := bnd1_some h
          refine WP.pn tm [(62, An.v (ti (gt o23b v12 0))), (64, An.callG [(9000, 10640)] [vi (gt o23b v12 0), vi x0] [] (vo 9000 (List.length r64)) [(9000, oc 3 (List.map (ti) r64))]), (66, An.call (tb r66))] [(ib v12 o23b), ((List.map (ti) o23b : List T)[(Int.toNat v12) * 1]? = some (ti (gt o23b v12 0))), (rf (ti (gt o23b v12 0))), (CG Tryz.prog 116 [vi (gt o23b v12 0), vi x0] [] (vo 9000 (List.length r64)) [(9000, oc 3 (List.map (ti) r64))]), (WkT (ti (gt o23b v12 0)) (ti (gt o23b v12 0))), (WkT (ti x0) (ti x0)), (C Tryz.prog 119 [tl r64, tl o22b] (tb r66)), (List.length (List.map (ti) r64) = (List.length r64) * 1), (List.length (List.map (ti) o22b) = (List.length o22b) * 1)] [10640, 2022, 2023, 2051, 2052] [(66, vb r66), (12, vi v12), (11, vo 2052 (List.length o52)), (10, vo 2051 (List.length o51)), (9, vi v9), (6, vo 2023 (List.length o23b)), (5, vo 2022 (List.length o22b)), (2, V.t (T.nils)), (0, vi x0)] [(2022, oc 3 (List.map (ti) o22b)), (2023, oc 3 (List.map (ti) o23b)), (2051, oc 3 (List.map (ti) o51)), (2052, oc 3 (List.map (ti) o52))] ⟨c1, atM (by simp) (by first | omega | (simp only [tlL]; omega) | (simp; omega)), rfl, (F_s_l4Counted_W (gt o23b v12 0) x0 r64 c2), WkT.refl _, WkT.refl _, (F_s_l4Within_W r64 o22b r66 c3), by first | rfl | omega | (simp only [tlL] <;> omega) | (simp <;> omega) | (simp [] <;> omega), by first | rfl | omega | (simp only [tlL] <;> omega) | (simp <;> omega) | (simp [] <;> omega), trivial⟩ ?_
          rcases ite_some h with ⟨h7, h⟩ | ⟨h7, h⟩
          ·refine WP.yes h7 rfl ?_
           obtain ⟨c4, h⟩ := chk_some h
           refine WP.pn tm [(71, An.v (ti (gt o23b v12 0))), (72, An.fz), (73, An.id 2073)] [(ib v12 o23b), ((List.map (ti) o23b : List T)[(Int.toNat v12) * 1]? = some (ti (gt o23b v12 0))), (rf (ti (gt o23b v12 0))), ((1 = 1 ∧ 0 + 1 ≤ 1) ∧ True), (1 = 1 * 1), (True), (List.length (List.map (ti) o51) = (List.length o51) * 1), ((((List.length o51) + 1) * 8 ≤ 140737488355328 ∧ (List.length o51) + 1 ≤ maxLen))] [2073, 10640, 2022, 2023, 2051, 2052] [(10, vo 2073 ((List.length o51) + 1)), (12, vi v12), (11, vo 2052 (List.length o52)), (9, vi v9), (6, vo 2023 (List.length o23b)), (5, vo 2022 (List.length o22b)), (2, V.t (T.nils)), (0, vi x0)] [(2022, oc 3 (List.map (ti) o22b)), (2023, oc 3 (List.map (ti) o23b)), (2052, oc 3 (List.map (ti) o52)), (2073, oc 3 ((List.map (ti) o51) ++ [ti (gt o23b v12 0)]))] ⟨c1, atM (by simp) (by first | omega | (simp only [tlL]; omega) | (simp; omega)), rfl, ⟨⟨by first | rfl | (simp; done) | (simp []; done) | omega, by first | decide | (simp; done) | (simp []; done) | omega | (simp only [tlL]; omega) | (simp; omega)⟩, trivial⟩, by decide, trivial, by first | rfl | omega | (simp only [tlL] <;> omega) | (simp <;> omega) | (simp [] <;> omega), c4, trivial⟩ ?_
           obtain ⟨c5, h⟩ := chk_some h
           refine WP.nk tm [(58, An.v (ti (v12 + 1)))] [(2022, 2022), (2023, 2023), (2073, 2051), (2052, 2052)] .normal [(True), (wr (v12 + 1))] [(12, vi (v12 + 1)), (11, vo 2052 (List.length o52)), (10, vo 2051 ((List.length o51) + 1)), (9, vi v9), (6, vo 2023 (List.length o23b)), (5, vo 2022 (List.length o22b)), (2, V.t (T.nils)), (0, vi x0)] [(2022, oc 3 (List.map (ti) o22b)), (2023, oc 3 (List.map (ti) o23b)), (2051, oc 3 ((List.map (ti) o51) ++ [ti (gt o23b v12 0)])), (2052, oc 3 (List.map (ti) o52))] ⟨trivial, wrapI c5, trivial⟩ ?_
           exact ⟨(n, o51 ++ [(gt o23b v12 0)], o52, (v12 + 1)), h, Nat.lt_succ_self _, (by first | rfl | (simp only [tlS, tl, vl, vo, oc, ov, tbl, vbl, ty, vy] <;> rfl) | (simp <;> omega) | (simp []; done) | (rw [List.take_of_length_le (by simp [])] <;> rfl) | (simp [List.take_of_length_le]; done))⟩
          ·refine WP.no h7 rfl ?_
           obtain ⟨c4, h⟩ := chk_some h
           refine WP.pn tm [(78, An.v (ti (gt o23b v12 0))), (79, An.fz), (80, An.id 2080)] [(ib v12 o23b), ((List.map (ti) o23b : List T)[(Int.toNat v12) * 1]? = some (ti (gt o23b v12 0))), (rf (ti (gt o23b v12 0))), ((1 = 1 ∧ 0 + 1 ≤ 1) ∧ True), (1 = 1 * 1), (True), (List.length (List.map (ti) o52) = (List.length o52) * 1), ((((List.length o52) + 1) * 8 ≤ 140737488355328 ∧ (List.length o52) + 1 ≤ maxLen))] [2080, 10640, 2022, 2023, 2051, 2052] [(11, vo 2080 ((List.length o52) + 1)), (12, vi v12), (10, vo 2051 (List.length o51)), (9, vi v9), (6, vo 2023 (List.length o23b)), (5, vo 2022 (List.length o22b)), (2, V.t (T.nils)), (0, vi x0)] [(2022, oc 3 (List.map (ti) o22b)), (2023, oc 3 (List.map (ti) o23b)), (2051, oc 3 (List.map (ti) o51)), (2080, oc 3 ((List.map (ti) o52) ++ [ti (gt o23b v12 0)]))] ⟨c1, atM (by simp) (by first | omega | (simp only [tlL]; omega) | (simp; omega)), rfl, ⟨⟨by first | rfl | (simp; done) | (simp []; done) | omega, by first | decide | (simp; done) | (simp []; done) | omega | (simp only [tlL]; omega) | (simp; omega)⟩, trivial⟩, by decide, trivial, by first | rfl | omega | (simp only [tlL] <;> omega) | (simp <;> omega) | (simp [] <;> omega), c4, trivial⟩ ?_
           obtain ⟨c5, h⟩ := chk_some h
           refine WP.nk tm [(58, An.v (ti (v12 + 1)))] [(2022, 2022), (2023, 2023), (2051, 2051), (2080, 2052)] .normal [(True), (wr (v12 + 1))] [(12, vi (v12 + 1)), (11, vo 2052 ((List.length o52) + 1)), (10, vo 2051 (List.length o51)), (9, vi v9), (6, vo 2023 (List.length o23b)), (5, vo 2022 (List.length o22b)), (2, V.t (T.nils)), (0, vi x0)] [(2022, oc 3 (List.map (ti) o22b)), (2023, oc 3 (List.map (ti) o23b)), (2051, oc 3 (List.map (ti) o51)), (2052, oc 3 ((List.map (ti) o52) ++ [ti (gt o23b v12 0)]))] ⟨trivial, wrapI c5, trivial⟩ ?_
           exact ⟨(n, o51, o52 ++ [(gt o23b v12 0)], (v12 + 1)), h, Nat.lt_succ_self _, (by first | rfl | (simp only [tlS, tl, vl, vo, oc, ov, tbl, vbl, ty, vy] <;> rfl) | (simp <;> omega) | (simp []; done) | (rw [List.take_of_length_le (by simp [])] <;> rfl) | (simp [List.take_of_length_le]; done))⟩
         ·refine WP.no h6 rfl ?_
          refine WP.eq tm [] 6 [] [(11, vo 2052 (List.length o52)), (10, vo 2051 (List.length o51)), (9, vi v9), (6, vo 2023 (List.length o23b)), (5, vo 2022 (List.length o22b)), (2, V.t (T.nils)), (0, vi x0)] [(2022, oc 3 (List.map (ti) o22b)), (2023, oc 3 (List.map (ti) o23b)), (2051, oc 3 (List.map (ti) o51)), (2052, oc 3 (List.map (ti) o52))] trivial ?_
          exact ⟨(o51, o52), h, rfl⟩
       ·rintro ⟨o51, o52⟩ h0
        have h := (show J3 o51 o52 = some y0 from h0)
        rw [hJ3] at h
        obtain ⟨J3, hJ3, h⟩ := jn_some h
        refine WP.joinA (fun (zz : (List Int)) => ⟨[2022, 2023, 2052], [(11, vo 2052 (List.length o52)), (9, vi v9), (6, vo 2023 (List.length o23b)), (5, vo 2022 (List.length zz)), (2, V.t (T.nils)), (0, vi x0)], [(2022, oc 3 (List.map (ti) zz)), (2023, oc 3 (List.map (ti) o23b)), (2052, oc 3 (List.map (ti) o52))]⟩) (fun zz => J3 zz = some y0) ?_ ?_
        ·refine WP.sk tm [] [] [(13, vi 0), (11, vo 2052 (List.length o52)), (10, vo 2051 (List.length o51)), (9, vi v9), (6, vo 2023 (List.length o23b)), (5, vo 2022 (List.length o22b)), (2, V.t (T.nils)), (0, vi x0)] [(2022, oc 3 (List.map (ti) o22b)), (2023, oc 3 (List.map (ti) o23b)), (2051, oc 3 (List.map (ti) o51)), (2052, oc 3 (List.map (ti) o52))] trivial ?_
         refine WP.block ?_
         refine WP.lp (α := Nat × (List Int) × Int) (fun zz => ⟨[2022, 2023, 2051, 2052], [(13, vi zz.2.2), (11, vo 2052 (List.length o52)), (10, vo 2051 (List.length o51)), (9, vi v9), (6, vo 2023 (List.length o23b)), (5, vo 2022 (List.length zz.2.1)), (2, V.t (T.nils)), (0, vi x0)], [(2022, oc 3 (List.map (ti) zz.2.1)), (2023, oc 3 (List.map (ti) o23b)), (2051, oc 3 (List.map (ti) o51)), (2052, oc 3 (List.map (ti) o52))]⟩) (fun zz => F_s4N_L5 v9 o51 J3 zz.1 zz.2.1 zz.2.2 = some y0) (fun zz => zz.1) (fuel, o22b, (0 : Int)) h ?_
         rintro ⟨n, o22c, v13⟩ h0
         have h := (show F_s4N_L5 v9 o51 J3 n o22c v13 = some y0 from h0)
         rcases n with _ | n
         ·rw [F_s4N_L5] at h; cases h
         ·rw [F_s4N_L5] at h
          refine WP.seq ?_
          refine WP.sk tm [] [(True)] [(84, vb (decide (v13 < (ln o51)))), (13, vi v13), (11, vo 2052 (List.length o52)), (10, vo 2051 (List.length o51)), (9, vi v9), (6, vo 2023 (List.length o23b)), (5, vo 2022 (List.length o22c)), (2, V.t (T.nils)), (0, vi x0)] [(2022, oc 3 (List.map (ti) o22c)), (2023, oc 3 (List.map (ti) o23b)), (2051, oc 3 (List.map (ti) o51)), (2052, oc 3 (List.map (ti) o52))] ⟨trivial, trivial⟩ ?_
          rcases ite_some h with ⟨h8, h⟩ | ⟨h8, h⟩
          ·refine WP.yes h8 rfl ?_
           refine WP.pk tm [] [] [(13, vi v13), (11, vo 2052 (List.length o52)), (10, vo 2051 (List.length o51)), (9, vi v9), (6, vo 2023 (List.length o23b)), (5, vo 2022 (List.length o22c)), (2, V.t (T.nils)), (0, vi x0)] [(2022, oc 3 (List.map (ti) o22c)), (2023, oc 3 (List.map (ti) o23b)), (2051, oc 3 (List.map (ti) o51)), (2052, oc 3 (List.map (ti) o52))] trivial ?_
           refine WP.seq ?_
           refine WP.block ?_
           obtain ⟨c1, c2, h⟩ := chk2 h
           refine WP.path tab_ok mixed [(91, An.v (ti (List.getD o51 (Int.toNat v13) 0)))] [.keep [13, 11, 10, 9, 6, 5, 2, 0], .keepO [2022, 2023, 2051, 2052]] (ps := [((0 ≤ v13 ∧ v13 < ((List.length o51 : Nat) : Int))), ((List.map (T.int .i64) o51 : List T)[(Int.toNat v13) * 1]? = some (ti (List.getD o51 (Int.toNat v13) 0))), (ti (List.getD o51 (Int.toNat v13) 0) = ti (List.getD o51 (Int.toNat v13) 0)), ((0 ≤ (List.getD o51 (Int.toNat v13) 0) ∧ (List.getD o51 (Int.toNat v13) 0) < ((List.length o22c : Nat) : Int))), ((Int.toNat (List.getD o51 (Int.toNat v13) 0)) * 1 < List.length (List.map (T.int .i64) o22c))]) (e := .normal) (σ' := ⟨[2022, 2023, 2051, 2052], [(13, vi v13), (11, vo 2052 (List.length o52)), (10, vo 2051 (List.length o51)), (9, vi v9), (6, vo 2023 (List.length o23b)), (5, vo 2022 (List.length o22c)), (2, V.t (T.nils)), (0, vi x0)], [(2022, oc 3 (List.set (List.map (T.int .i64) o22c) ((Int.toNat (List.getD o51 (Int.toNat v13) 0)) * 1) (ti v9))), (2023, oc 3 (List.map (T.int .i64) o23b)), (2051, oc 3 (List.map (T.int .i64) o51)), (2052, oc 3 (List.map (T.int .i64) o52))]⟩) (by kernel_rfl) ⟨c1, atM (by simp) (by first | omega | (simp only [tlL]; omega) | (simp; omega)), rfl, c2, by first | decide | omega | (simp only [tlL] <;> omega) | (simp <;> omega) | (simp [] <;> omega), trivial⟩ ?_
           obtain ⟨c3, h⟩ := chk_some h
           refine WP.qk tm [(86, An.v (ti (v13 + 1)))] [(True), (wr (v13 + 1))] [(13, vi (v13 + 1)), (11, vo 2052 (List.length o52)), (10, vo 2051 (List.length o51)), (9, vi v9), (6, vo 2023 (List.length o23b)), (5, vo 2022 (List.length o22c)), (2, V.t (T.nils)), (0, vi x0)] [(2022, oc 3 (List.set (List.map (ti) o22c) ((Int.toNat (gt o51 v13 0)) * 1) (ti v9))), (2023, oc 3 (List.map (ti) o23b)), (2051, oc 3 (List.map (ti) o51)), (2052, oc 3 (List.map (ti) o52))] ⟨trivial, wrapI c3, trivial⟩ ?_
           exact ⟨(n, List.set o22c (Int.toNat (gt o51 v13 0)) v9, (v13 + 1)), h, Nat.lt_succ_self _, (by first | rfl | (simp only [tlS, tl, vl, vo, oc, ov, tbl, vbl, ty, vy] <;> rfl) | (simp <;> omega) | (simp []; done) | (rw [List.take_of_length_le (by simp [])] <;> rfl) | (simp [List.take_of_length_le]; done))⟩
          ·refine WP.no h8 rfl ?_
           refine WP.eq tm [] 8 [] [(11, vo 2052 (List.length o52)), (9, vi v9), (6, vo 2023 (List.length o23b)), (5, vo 2022 (List.length o22c)), (2, V.t (T.nils)), (0, vi x0)] [(2022, oc 3 (List.map (ti) o22c)), (2023, oc 3 (List.map (ti) o23b)), (2052, oc 3 (List.map (ti) o52))] trivial ?_
           exact ⟨(o22c), h, rfl⟩
        ·intro o22c h0
         have h := (show J3 o22c = some y0 from h0)
         rw [hJ3] at h
         refine WP.qk tm [] [] [(6, vo 2052 (List.length o52)), (9, vi v9), (5, vo 2022 (List.length o22c)), (2, V.t (T.nils)), (0, vi x0)] [(2022, oc 3 (List.map (ti) o22c)), (2052, oc 3 (List.map (ti) o52))] trivial ?_
         exact ⟨(o22c, o52), h, rfl⟩
      ·rintro ⟨o22c, o52⟩ h0
       have h := (show J2 o22c o52 = some y0 from h0)
       rw [hJ2] at h
       obtain ⟨c1, h⟩ := chk_some h
       refine WP.nk tm [(50, An.v (ti (v9 + 1)))] [(2022, 2022), (2052, 2023)] .normal [(True), (wr (v9 + 1))] [(9, vi (v9 + 1)), (6, vo 2023 (List.length o52)), (5, vo 2022 (List.length o22c)), (2, V.t (T.nils)), (0, vi x0)] [(2022, oc 3 (List.map (ti) o22c)), (2023, oc 3 (List.map (ti) o52))] ⟨trivial, wrapI c1, trivial⟩ ?_
       exact ⟨(n, o22c, o52, (v9 + 1)), h, Nat.lt_succ_self _, rfl⟩
     ·refine WP.no h5 rfl ?_
      refine WP.eq tm [] 4 [] [(5, vo 2022 (List.length o22b)), (2, V.t (T.nils))] [(2022, oc 3 (List.map (ti) o22b))] trivial ?_
      exact ⟨(o22b), h, rfl⟩
   ·intro o22b h0
    have h := (show J1 o22b = some y0 from h0)
    rw [hJ1] at h
    have h := Option.some.inj h
    subst h
    exact WP.pathG tab_ok mixed [] [.keep [2], .keepO [2022], .names [(2022, 9000)]] [9000] _ (r' := vo 9000 (List.length o22b)) (ps := []) (r := vo 9000 (List.length o22b)) (N := [9000]) (O := [(9000, oc 3 (List.map (ti) o22b))]) [] (by kernel_rfl) trivial ⟨rfl, trivial⟩ rfl rfl (fun _ h => h)
theorem F_s4N_W_C (x0 : Int) (y0 : List Int) (h : F_s4N x0 = some y0) : C Tryz.prog 64 [ti x0] (tl y0) :=
 CG.toC (ps := [(List.length (List.map (ti) y0) = (List.length y0) * 1)]) (F_s4N_W  x0 y0 h) (by rfl) ⟨by first | rfl | omega | (simp <;> omega) | (simp [hl] <;> omega), trivial⟩
theorem F_s_l4Fresh_W (x0 : Int) (x1 : Int) (y0 : List Int) (h : F_s_l4Fresh x0 x1 = some y0) : CG Tryz.prog 105 [vi x0, vi x1] [] (vo 9000 (List.length y0)) [(9000, oc 3 (List.map (ti) y0))] := by
 unfold F_s_l4Fresh at h
 refine CG.intro (tab := tab) tab_ok (fn := Tryz.f105) Tryz.func105 (by kernel_rfl) rfl (Nat.le_of_ble_eq_true rfl) (by kernel_rfl) ?_
 obtain ⟨c0, c1, h⟩ := chk2 h
 obtain ⟨c2, h⟩ := chk_some h
 have h := Option.some.inj h
 subst h
 exact WP.pathG tab_ok mixed [(7, An.v (ti (x1 + 1))), (8, An.id 2008)] [.keep [4], .keepO [2008], .names [(2008, 9000)]] [9000] _ (r' := vo 9000 (List.length (List.set (List.replicate (Int.toNat (x1 + 1)) (0 : Int)) 0 x0))) (ps := [(True), (wr (x1 + 1)), ((0 ≤ (x1 + 1) ∧ (x1 + 1) ≤ (x1 + 1) ∧ (8 : Int) * (x1 + 1) ≤ 281474976710656 ∧ (x1 + 1) ≤ (maxLen : Int))), ((0 ≤ (0 : Int) ∧ (0 : Int) < ((Int.toNat (x1 + 1) : Nat) : Int))), (0 < List.length (List.replicate (Int.toNat (x1 + 1)) (ti 0)))]) (r := vo 9000 (Int.toNat (x1 + 1))) (N := [9000]) (O := [(9000, oc 3 (List.set (List.replicate (Int.toNat (x1 + 1)) (ti 0)) 0 (ti x0)))]) [] (by kernel_rfl) ⟨trivial, wrapI c0, c1, c2, by first | decide | omega | (simp only [tlL] <;> omega) | (simp <;> omega) | (simp [] <;> omega), trivial⟩ ⟨(congrArg (V.own 9000 1) (by first | rfl | (simp only [tlS, tl, vl, vo, oc, ov, tbl, vbl, ty, vy] <;> rfl) | (simp <;> omega) | (simp []; done) | (rw [List.take_of_length_le (by simp [])] <;> rfl) | (simp [List.take_of_length_le]; done))), trivial⟩ rfl (by first | rfl | (simp only [tlS, tl, vl, vo, oc, ov, tbl, vbl, ty, vy] <;> rfl) | (simp <;> omega) | (simp []; done) | (rw [List.take_of_length_le (by simp [])] <;> rfl) | (simp [List.take_of_length_le]; done)) (fun _ h => h)
theorem F_s_l4Fresh_W_C (x0 : Int) (x1 : Int) (y0 : List Int) (h : F_s_l4Fresh x0 x1 = some y0) : C Tryz.prog 105 [ti x0, ti x1] (tl y0) :=
 CG.toC (ps := [(List.length (List.map (ti) y0) = (List.length y0) * 1)]) (F_s_l4Fresh_W  x0 x1 y0 h) (by rfl) ⟨by first | rfl | omega | (simp <;> omega) | (simp [hl] <;> omega), trivial⟩
theorem F_s_MoreThanSets_W (x0 : Int) (x1 : Int) (y0 : Int) (y1 : Bool) (h : F_s_MoreThanSets x0 x1 = some (y0, y1)) : C Tryz.prog 44 [ti x0, ti x1] (T.tup [ti y0, tb y1]) := by
 unfold F_s_MoreThanSets at h
 refine C.intro (tab := tab) tab_ok (fn := Tryz.f44) Tryz.func44 (by kernel_rfl) rfl (Nat.le_of_ble_eq_true rfl) ?_
 refine WP.sk tm [] [] [(5, vb false), (4, vi 0), (0, vi x0), (1, vi x1)] [] trivial ?_
 refine WP.seq ?_
 obtain ⟨J1, hJ1, h⟩ := jn_some h
 refine WP.joinA (fun (zz : Bool) => ⟨[], [(14, vb zz), (5, vb false), (4, vi 0), (0, vi x0), (1, vi x1)], []⟩) (fun zz => J1 zz = some (y0, y1)) ?_ ?_
 ·rcases ite_some h with ⟨h1, h⟩ | ⟨h1, h⟩
  ·refine WP.qk tm [(8, An.call (tb (decide (x0 ≥ (1 : Int)) && decide (x0 ≤ (5 : Int))))), (10, An.b true)] [(C Tryz.prog 101 [ti x0, ti 1, ti 5] (tb (decide (x0 ≥ (1 : Int)) && decide (x0 ≤ (5 : Int))))), ((!(decide (x0 ≥ (1 : Int)) && decide (x0 ≤ (5 : Int)))) = true)] [(14, vb true), (5, vb false), (4, vi 0), (0, vi x0), (1, vi x1)] [] ⟨(by have hh := (l1In_C x0 (1 : Int) (5 : Int)); first | exact hh | simpa using hh), h1, trivial⟩ ?_
   exact ⟨(true), h, rfl⟩
  ·refine WP.qk tm [(8, An.call (tb (decide (x0 ≥ (1 : Int)) && decide (x0 ≤ (5 : Int))))), (10, An.b false), (12, An.call (tb (decide (x1 ≥ (0 : Int)) && decide (x1 ≤ (1 : Int)))))] [(C Tryz.prog 101 [ti x0, ti 1, ti 5] (tb (decide (x0 ≥ (1 : Int)) && decide (x0 ≤ (5 : Int))))), ((!(decide (x0 ≥ (1 : Int)) && decide (x0 ≤ (5 : Int)))) = false), (C Tryz.prog 101 [ti x1, ti 0, ti 1] (tb (decide (x1 ≥ (0 : Int)) && decide (x1 ≤ (1 : Int)))))] [(14, vb (!(decide (x1 ≥ (0 : Int)) && decide (x1 ≤ (1 : Int))))), (5, vb false), (4, vi 0), (0, vi x0), (1, vi x1)] [] ⟨(by have hh := (l1In_C x0 (1 : Int) (5 : Int)); first | exact hh | simpa using hh), h1, (by have hh := (l1In_C x1 (0 : Int) (1 : Int)); first | exact hh | simpa using hh), trivial⟩ ?_
   exact ⟨(!(decide (x1 ≥ (0 : Int)) && decide (x1 ≤ (1 : Int)))), h, rfl⟩
 ·intro v14 h0
  have h := (show J1 v14 = some (y0, y1) from h0)
  rw [hJ1] at h
  rcases ite_some h with ⟨h2, h⟩ | ⟨h2, h⟩
  ·refine WP.yes h2 rfl ?_
   simp only [Option.some.injEq, Prod.mk.injEq] at h
   obtain ⟨rfl, rfl⟩ := h
   exact WP.pathW tab_ok mixed [] _ (ps := []) (r := T.tup [ti 0, tb false]) (by kernel_rfl) trivial (WkT.eq (y := T.tup [ti 0, tb false]) (WkT.refl _) (by first | rfl | (simp only [tlS, tl, vl, vo, oc, ov, tbl, vbl, ty, vy] <;> rfl) | (simp <;> omega) | (simp []; done) | (rw [List.take_of_length_le (by simp [])] <;> rfl) | (simp [List.take_of_length_le]; done))) (fun _ h => h)
  ·refine WP.no h2 rfl ?_
   refine WP.pk tm [] [] [(5, vb false), (4, vi 0), (0, vi x0), (1, vi x1)] [] trivial ?_
   obtain ⟨r17, c0, h⟩ := bnd1_some h
   obtain ⟨r20, r20b, c1, h⟩ := bnd2_some h
   obtain ⟨r21, c2, h⟩ := bnd1_some h
   obtain ⟨c3, c4, h⟩ := chk2 h
   obtain ⟨r27, c5, h⟩ := bnd1_some h
   obtain ⟨r30, c6, h⟩ := bnd1_some h
   obtain ⟨r31, c7, h⟩ := bnd1_some h
   obtain ⟨c8, c9, h⟩ := chk2 h
   obtain ⟨n34, c10, h⟩ := nam_some h
   simp only [Option.some.injEq, Prod.mk.injEq] at h
   obtain ⟨rfl, rfl⟩ := h
   exact WP.pathW tab_ok mixed [(17, An.callG [(9000, 10170)] [vi x0, vi x1] [] (vo 9000 (List.length r17)) [(9000, oc 3 (List.map (ti) r17))]), (20, An.callG [(9000, 10200)] [vi x0, vi x1] [] (V.agg [vo 9000 (List.length r20), vi r20b]) [(9000, oc 3 (List.map (ti) r20))]), (21, An.call (ti r21)), (23, An.v (ti (gt r17 r21 0))), (26, An.v (ti (x1 + 1))), (27, An.callG [(9000, 10270)] [vi (x1 + 1)] [] (vo 9000 (List.length r27)) [(9000, oc 3 (List.map (ti) r27))]), (30, An.callG [(9000, 10300)] [vi x0, vi x1] [] (vo 9000 (List.length r30)) [(9000, oc 3 (List.map (ti) r30))]), (31, An.call (ti r31)), (33, An.v (ti (gt r27 r31 0))), (34, An.v (ti n34))] _ (ps := [(CG Tryz.prog 85 [vi x0, vi x1] [] (vo 9000 (List.length r17)) [(9000, oc 3 (List.map (ti) r17))]), (WkT (ti x0) (ti x0)), (WkT (ti x1) (ti x1)), (CG Tryz.prog 102 [vi x0, vi x1] [] (V.agg [vo 9000 (List.length r20), vi r20b]) [(9000, oc 3 (List.map (ti) r20))]), (WkT (ti x0) (ti x0)), (WkT (ti x1) (ti x1)), (C Tryz.prog 86 [T.agg [tl r20, ti r20b]] (ti r21)), (List.length (List.map (ti) r20) = (List.length r20) * 1), (ib r21 r17), ((List.map (ti) r17 : List T)[(Int.toNat r21) * 1]? = some (ti (gt r17 r21 0))), (rf (ti (gt r17 r21 0))), (True), (wr (x1 + 1)), (CG Tryz.prog 64 [vi (x1 + 1)] [] (vo 9000 (List.length r27)) [(9000, oc 3 (List.map (ti) r27))]), (WkT (ti (x1 + 1)) (ti (x1 + 1))), (CG Tryz.prog 105 [vi x0, vi x1] [] (vo 9000 (List.length r30)) [(9000, oc 3 (List.map (ti) r30))]), (WkT (ti x0) (ti x0)), (WkT (ti x1) (ti x1)), (C Tryz.prog 104 [tl r30] (ti r31)), (List.length (List.map (ti) r30) = (List.length r30) * 1), (ib r31 r27), ((List.map (ti) r27 : List T)[(Int.toNat r31) * 1]? = some (ti (gt r27 r31 0))), (rf (ti (gt r27 r31 0))), (True), (ti (IntKind.wrap .i64 ((gt r17 r21 0) - (gt r27 r31 0))) = ti n34)]) (r := T.tup [ti n34, tb true]) (by kernel_rfl) ⟨(F_s6N_W x0 x1 r17 c0), WkT.refl _, WkT.refl _, (F_s_l2Start_W x0 x1 r20 r20b c1), WkT.refl _, WkT.refl _, (F_s_l6Key_W r20 r20b r21 c2), by first | rfl | omega | (simp only [tlL] <;> omega) | (simp <;> omega) | (simp [] <;> omega), c3, atM (by simp) (by first | omega | (simp only [tlL]; omega) | (simp; omega)), rfl, trivial, wrapI c4, (F_s4N_W (x1 + 1) r27 c5), WkT.refl _, (F_s_l4Fresh_W x0 x1 r30 c6), WkT.refl _, WkT.refl _, (F_s_l4Key_W r30 r31 c7), by first | rfl | omega | (simp only [tlL] <;> omega) | (simp <;> omega) | (simp [] <;> omega), c8, atM (by simp) (by first | omega | (simp only [tlL]; omega) | (simp; omega)), rfl, trivial, Eq.trans (wrapI c9) (congrArg (ti) c10), trivial⟩ (WkT.eq (y := T.tup [ti n34, tb true]) (WkT.refl _) rfl) (fun _ h => h)
theorem F_i_NumbersOf_W (x0 : Int) (x1 : Int) (y0 : List Int) (y1 : Bool) (h : F_i_NumbersOf x0 x1 = some (y0, y1)) : CG Tryz.prog 45 [vi x0, vi x1] [] (V.tup [vo 9000 (List.length y0), vb y1]) [(9000, oc 3 (List.map (ti) y0))] := by
 unfold F_i_NumbersOf at h
 refine CG.intro (tab := tab) tab_ok (fn := Tryz.f45) Tryz.func45 (by kernel_rfl) rfl (Nat.le_of_ble_eq_true rfl) (by kernel_rfl) ?_
 refine WP.sk tm [] [] [(5, vb false), (4, V.t (T.nils)), (0, vi x0), (1, vi x1)] [] trivial ?_
 refine WP.seq ?_
 refine WP.sk tm [(10, An.call (tb (isQ x0 x1)))] [(C Tryz.prog 106 [ti x0, ti x1] (tb (isQ x0 x1)))] [(11, vb (!(isQ x0 x1))), (5, vb false), (4, V.t (T.nils)), (0, vi x0), (1, vi x1)] [] ⟨(isQuestion_C x0 x1), trivial⟩ ?_
 rcases ite_some h with ⟨h1, h⟩ | ⟨h1, h⟩
 ·refine WP.yes h1 rfl ?_
  simp only [Option.some.injEq, Prod.mk.injEq] at h
  obtain ⟨rfl, rfl⟩ := h
  exact WP.pathG tab_ok mixed [] [.keep [4, 5], .keepO [], .names []] [] _ (r' := V.tup [vo 9000 (List.length ([] : List Int)), vb false]) (ps := []) (r := V.t (T.tup [T.nils, tb false])) (N := []) (O := []) [(9000, 3)] (by kernel_rfl) trivial ⟨(by first | rfl | (simp; done)), (WkT.refl _), trivial⟩ rfl rfl (fun _ h => h)
 ·refine WP.no h1 rfl ?_
  refine WP.pk tm [] [] [(5, vb false), (4, V.t (T.nils)), (0, vi x0), (1, vi x1)] [] trivial ?_
  refine WP.sk tm [(12, An.id 2012)] [(True), (0 = 0 * 1)] [(6, vo 2012 0), (5, vb false), (4, V.t (T.nils)), (0, vi x0), (1, vi x1)] [(2012, oc 3 [])] ⟨trivial, by decide, trivial⟩ ?_
  obtain ⟨J1, hJ1, h⟩ := jn_some h
  refine WP.joinA (fun (zz : (List Int)) => ⟨[2012], [(6, vo 2012 (List.length zz)), (5, vb false), (4, V.t (T.nils))], [(2012, oc 3 (List.map (ti) zz))]⟩) (fun zz => J1 zz = some (y0, y1)) ?_ ?_
  ·refine WP.sk tm [] [] [(14, vi 0), (13, vi x0), (6, vo 2012 0), (5, vb false), (4, V.t (T.nils)), (1, vi x1)] [(2012, oc 3 [])] trivial ?_
   refine WP.block ?_
   refine WP.lp (α := Nat × (List Int) × Int) (fun zz => ⟨[2012], [(14, vi zz.2.2), (13, vi x0), (6, vo 2012 (List.length zz.2.1)), (5, vb false), (4, V.t (T.nils)), (1, vi x1)], [(2012, oc 3 (List.map (ti) zz.2.1))]⟩) (fun zz => F_i_NumbersOf_L1 x0 x1 J1 zz.1 zz.2.1 zz.2.2 = some (y0, y1)) (fun zz => zz.1) (fuel, ([] : List Int), (0 : Int)) h ?_
   rintro ⟨n, o12, v14⟩ h0
   have h := (show F_i_NumbersOf_L1 x0 x1 J1 n o12 v14 = some (y0, y1) from h0)
   rcases n with _ | n
   ·rw [F_i_NumbersOf_L1] at h; cases h
   ·rw [F_i_NumbersOf_L1] at h
    refine WP.sk tm [] [(True)] [(15, vb (decide (v14 < x0))), (14, vi v14), (13, vi x0), (6, vo 2012 (List.length o12)), (5, vb false), (4, V.t (T.nils)), (1, vi x1)] [(2012, oc 3 (List.map (ti) o12))] ⟨trivial, trivial⟩ ?_
    refine WP.seq ?_
    rcases ite_some h with ⟨h2, h⟩ | ⟨h2, h⟩
    ·refine WP.yes h2 rfl ?_
     refine WP.pk tm [] [] [(14, vi v14), (13, vi x0), (6, vo 2012 (List.length o12)), (5, vb false), (4, V.t (T.nils)), (1, vi x1)] [(2012, oc 3 (List.map (ti) o12))] trivial ?_
     refine WP.seq ?_
     refine WP.block ?_
     refine WP.sk tm [] [] [(7, vi v14), (14, vi v14), (13, vi x0), (6, vo 2012 (List.length o12)), (5, vb false), (4, V.t (T.nils)), (1, vi x1)] [(2012, oc 3 (List.map (ti) o12))] trivial ?_
     refine WP.seq ?_
     obtain ⟨c0, h⟩ := chk_some h
     refine WP.pk tm [(19, An.call (tb (hasB x1 v14)))] [(C Tryz.prog 73 [ti x1, ti v14] (tb (hasB x1 v14)))] [(19, vb (hasB x1 v14)), (7, vi v14), (14, vi v14), (13, vi x0), (6, vo 2012 (List.length o12)), (5, vb false), (4, V.t (T.nils)), (1, vi x1)] [(2012, oc 3 (List.map (ti) o12))] ⟨(has_C x1 v14 c0), trivial⟩ ?_
     rcases ite_some h with ⟨h3, h⟩ | ⟨h3, h⟩
     ·refine WP.yes h3 rfl ?_
      obtain ⟨c1, h⟩ := chk_some h
      refine WP.pn tm [(22, An.fz), (23, An.id 2023)] [((1 = 1 ∧ 0 + 1 ≤ 1) ∧ True), (1 = 1 * 1), (True), (List.length (List.map (ti) o12) = (List.length o12) * 1), ((((List.length o12) + 1) * 8 ≤ 140737488355328 ∧ (List.length o12) + 1 ≤ maxLen))] [2023, 2012] [(6, vo 2023 ((List.length o12) + 1)), (14, vi v14), (13, vi x0), (5, vb false), (4, V.t (T.nils)), (1, vi x1)] [(2023, oc 3 ((List.map (ti) o12) ++ [ti v14]))] ⟨⟨⟨by first | rfl | (simp; done) | (simp []; done) | omega, by first | decide | (simp; done) | (simp []; done) | omega | (simp only [tlL]; omega) | (simp; omega)⟩, trivial⟩, by decide, trivial, by first | rfl | omega | (simp only [tlL] <;> omega) | (simp <;> omega) | (simp [] <;> omega), c1, trivial⟩ ?_
      obtain ⟨c2, h⟩ := chk_some h
      refine WP.nk tm [(24, An.v (ti (v14 + 1)))] [(2023, 2012)] .normal [(True), (wr (v14 + 1))] [(14, vi (v14 + 1)), (13, vi x0), (6, vo 2012 ((List.length o12) + 1)), (5, vb false), (4, V.t (T.nils)), (1, vi x1)] [(2012, oc 3 ((List.map (ti) o12) ++ [ti v14]))] ⟨trivial, wrapI c2, trivial⟩ ?_
      exact ⟨(n, o12 ++ [v14], (v14 + 1)), h, Nat.lt_succ_self _, (by first | rfl | (simp only [tlS, tl, vl, vo, oc, ov, tbl, vbl, ty, vy] <;> rfl) | (simp <;> omega) | (simp []; done) | (rw [List.take_of_length_le (by simp [])] <;> rfl) | (simp [List.take_of_length_le]; done))⟩
     ·refine WP.no h3 rfl ?_
      refine WP.pk tm [] [] [(14, vi v14), (13, vi x0), (6, vo 2012 (List.length o12)), (5, vb false), (4, V.t (T.nils)), (1, vi x1)] [(2012, oc 3 (List.map (ti) o12))] trivial ?_
      obtain ⟨c1, h⟩ := chk_some h
      refine WP.qk tm [(24, An.v (ti (v14 + 1)))] [(True), (wr (v14 + 1))] [(14, vi (v14 + 1)), (13, vi x0), (6, vo 2012 (List.length o12)), (5, vb false), (4, V.t (T.nils)), (1, vi x1)] [(2012, oc 3 (List.map (ti) o12))] ⟨trivial, wrapI c1, trivial⟩ ?_
      exact ⟨(n, o12, (v14 + 1)), h, Nat.lt_succ_self _, rfl⟩
    ·refine WP.no h2 rfl ?_
     refine WP.eq tm [] 0 [] [(6, vo 2012 (List.length o12)), (5, vb false), (4, V.t (T.nils))] [(2012, oc 3 (List.map (ti) o12))] trivial ?_
     exact ⟨(o12), h, rfl⟩
  ·intro o12 h0
   have h := (show J1 o12 = some (y0, y1) from h0)
   rw [hJ1] at h
   simp only [Option.some.injEq, Prod.mk.injEq] at h
   obtain ⟨rfl, rfl⟩ := h
   exact WP.pathG tab_ok mixed [] [.keep [4, 5], .keepO [2012], .names [(2012, 9000)]] [9000] _ (r' := V.tup [vo 9000 (List.length o12), vb true]) (ps := []) (r := V.tup [vo 9000 (List.length o12), vb true]) (N := [9000]) (O := [(9000, oc 3 (List.map (ti) o12))]) [] (by kernel_rfl) trivial ⟨rfl, (WkT.refl _), trivial⟩ rfl rfl (fun _ h => h)
theorem F_i_NumbersOf_W_C (x0 : Int) (x1 : Int) (y0 : List Int) (y1 : Bool) (h : F_i_NumbersOf x0 x1 = some (y0, y1)) : C Tryz.prog 45 [ti x0, ti x1] (T.tup [tl y0, tb y1]) :=
 CG.toC (ps := [(List.length (List.map (ti) y0) = (List.length y0) * 1)]) (F_i_NumbersOf_W  x0 x1 y0 y1 h) (by rfl) ⟨by first | rfl | omega | (simp <;> omega) | (simp [hl] <;> omega), trivial⟩
theorem F_laws_FnComparisons_W (x0 : List Int) (y0 : Bool) (h : F_laws_FnComparisons x0 = some y0) : C Tryz.prog 4 [ty x0] (tb y0) := by
 unfold F_laws_FnComparisons at h
 refine C.intro (tab := tab) tab_ok (fn := Tryz.f4) Tryz.func4 (by as_aux_lemma => kernel_rfl) rfl (Nat.le_of_ble_eq_true rfl) ?_
 refine WP.sk tm [] [] [(2, vb false), (0, vy x0)] [] trivial ?_
 refine WP.seq ?_
 refine WP.seq ?_
 obtain ⟨c0, h⟩ := chk_some h
 refine WP.pk tm [(50, An.call (tb (decide ((ln x0) > (65536 : Int)))))] [(C Tryz.prog 5 [ty x0] (tb (decide ((ln x0) > (65536 : Int)))))] [(50, vb (decide ((ln x0) > (65536 : Int)))), (2, vb false), (0, vy x0)] [] ⟨(rBig_C x0 c0), trivial⟩ ?_
 rcases ite_some h with ⟨h1, h⟩ | ⟨h1, h⟩
 ·refine WP.yes h1 rfl ?_
  have h := Option.some.inj h
  subst h
  exact WP.pathW tab_ok mixed [] _ (ps := []) (r := tb true) (by as_aux_lemma => kernel_rfl) trivial (WkT.eq (y := tb true) (WkT.refl _) rfl) (fun _ h => h)
 ·refine WP.no h1 rfl ?_
  refine WP.pk tm [] [] [(2, vb false), (0, vy x0)] [] trivial ?_
  refine WP.seq ?_
  obtain ⟨r52, r52b, c1, h⟩ := bnd2_some h
  refine WP.pk tm [(52, An.call (T.agg [tl r52, ti r52b])), (3, An.id 2003)] [(C Tryz.prog 25 [ty x0] (T.agg [tl r52, ti r52b])), ((0 + 2 ≤ 2 ∧ 2 = 2))] [(3, V.ref 2003 0), (2, vb false), (0, vy x0)] [(2003, oc 26 [tl r52, ti r52b])] ⟨(F_s_DrawLessNeed_W_C x0 r52 r52b c1), by decide, trivial⟩ ?_
  refine WP.seq ?_
  obtain ⟨r55, r55b, c2, h⟩ := bnd2_some h
  refine WP.pk tm [(55, An.call (T.tup [ti r55, tb r55b]))] [(0 + 2 ≤ 2), (C Tryz.prog 26 [T.agg [tl r52, ti r52b]] (T.tup [ti r55, tb r55b]))] [(5, vb r55b), (4, vi r55), (3, V.ref 2003 0), (2, vb false), (0, vy x0)] [(2003, oc 26 [tl r52, ti r52b])] ⟨by decide, (F_i_LessNeed_W r52 r52b r55 r55b c2), trivial⟩ ?_
  refine WP.seq ?_
  refine WP.seq ?_
  obtain ⟨r60, r60b, c3, h⟩ := bnd2_some h
  refine WP.pk tm [(60, An.call (T.tup [ti r60, tb r60b]))] [(0 + 2 ≤ 2), (C Tryz.prog 27 [T.agg [tl r52, ti r52b]] (T.tup [ti r60, tb r60b]))] [(7, vb r60b), (6, vi r60), (5, vb r55b), (4, vi r55), (3, V.ref 2003 0), (2, vb false), (0, vy x0)] [(2003, oc 26 [tl r52, ti r52b])] ⟨by decide, (F_s_LessNeed_W r52 r52b r60 r60b c3), trivial⟩ ?_
  obtain ⟨J1, hJ1, h⟩ := jn_some h
  refine WP.joinA (fun (zz : Bool) => ⟨[2003], [(70, vb zz), (5, vb r55b), (4, vi r55), (3, V.ref 2003 0), (2, vb false), (0, vy x0)], [(2003, oc 26 [tl r52, ti r52b])]⟩) (fun zz => J1 zz = some y0) ?_ ?_
  ·rcases ite_some h with ⟨h2, h⟩ | ⟨h2, h⟩
   ·refine WP.qk tm [(65, An.b true)] [(True), ((r55 != r60) = true)] [(70, vb true), (5, vb r55b), (4, vi r55), (3, V.ref 2003 0), (2, vb false), (0, vy x0)] [(2003, oc 26 [tl r52, ti r52b])] ⟨trivial, h2, trivial⟩ ?_
    exact ⟨(true), h, rfl⟩
   ·refine WP.qk tm [(65, An.b false)] [(True), ((r55 != r60) = false), (True)] [(70, vb (!(r55b == r60b))), (5, vb r55b), (4, vi r55), (3, V.ref 2003 0), (2, vb false), (0, vy x0)] [(2003, oc 26 [tl r52, ti r52b])] ⟨trivial, h2, trivial, trivial⟩ ?_
    exact ⟨(!(r55b == r60b)), h, rfl⟩
  ·intro v70 h0
   have h := (show J1 v70 = some y0 from h0)
   rw [hJ1] at h
   rcases ite_some h with ⟨h3, h⟩ | ⟨h3, h⟩
   ·refine WP.yes h3 rfl ?_
    have h := Option.some.inj h
    subst h
    exact WP.pathW tab_ok mixed [] _ (ps := []) (r := tb false) (by as_aux_lemma => kernel_rfl) trivial (WkT.eq (y := tb false) (WkT.refl _) rfl) (fun _ h => h)
   ·refine WP.no h3 rfl ?_
    refine WP.pk tm [] [] [(5, vb r55b), (4, vi r55), (3, V.ref 2003 0), (2, vb false), (0, vy x0)] [(2003, oc 26 [tl r52, ti r52b])] trivial ?_
    refine WP.seq ?_
    obtain ⟨r73, r73b, c4, h⟩ := bnd2_some h
    refine WP.pk tm [(73, An.call (T.tup [ti r73, tb r73b]))] [(0 + 2 ≤ 2), (C Tryz.prog 28 [T.agg [tl r52, ti r52b]] (T.tup [ti r73, tb r73b]))] [(9, vb r73b), (8, vi r73), (5, vb r55b), (4, vi r55), (3, V.ref 2003 0), (2, vb false), (0, vy x0)] [(2003, oc 26 [tl r52, ti r52b])] ⟨by decide, (F_i_BestLess_W r52 r52b r73 r73b c4), trivial⟩ ?_
    refine WP.seq ?_
    refine WP.seq ?_
    obtain ⟨r78, r78b, c5, h⟩ := bnd2_some h
    refine WP.pk tm [(78, An.call (T.tup [ti r78, tb r78b]))] [(0 + 2 ≤ 2), (C Tryz.prog 29 [T.agg [tl r52, ti r52b]] (T.tup [ti r78, tb r78b]))] [(11, vb r78b), (10, vi r78), (9, vb r73b), (8, vi r73), (5, vb r55b), (4, vi r55), (3, V.ref 2003 0), (2, vb false), (0, vy x0)] [(2003, oc 26 [tl r52, ti r52b])] ⟨by decide, (F_s_BestLess_W r52 r52b r78 r78b c5), trivial⟩ ?_
    obtain ⟨J1, hJ1, h⟩ := jn_some h
    refine WP.joinA (fun (zz : Bool) => ⟨[2003], [(88, vb zz), (9, vb r73b), (8, vi r73), (5, vb r55b), (4, vi r55), (3, V.ref 2003 0), (2, vb false), (0, vy x0)], [(2003, oc 26 [tl r52, ti r52b])]⟩) (fun zz => J1 zz = some y0) ?_ ?_
    ·rcases ite_some h with ⟨h4, h⟩ | ⟨h4, h⟩
     ·refine WP.qk tm [(83, An.b true)] [(True), ((r73 != r78) = true)] [(88, vb true), (9, vb r73b), (8, vi r73), (5, vb r55b), (4, vi r55), (3, V.ref 2003 0), (2, vb false), (0, vy x0)] [(2003, oc 26 [tl r52, ti r52b])] ⟨trivial, h4, trivial⟩ ?_
      exact ⟨(true), h, rfl⟩
     ·refine WP.qk tm [(83, An.b false)] [(True), ((r73 != r78) = false), (True)] [(88, vb (!(r73b == r78b))), (9, vb r73b), (8, vi r73), (5, vb r55b), (4, vi r55), (3, V.ref 2003 0), (2, vb false), (0, vy x0)] [(2003, oc 26 [tl r52, ti r52b])] ⟨trivial, h4, trivial, trivial⟩ ?_
      exact ⟨(!(r73b == r78b)), h, rfl⟩
    ·intro v88 h0
     have h := (show J1 v88 = some y0 from h0)
     rw [hJ1] at h
     rcases ite_some h with ⟨h5, h⟩ | ⟨h5, h⟩
     ·refine WP.yes h5 rfl ?_
      have h := Option.some.inj h
      subst h
      exact WP.pathW tab_ok mixed [] _ (ps := []) (r := tb false) (by as_aux_lemma => kernel_rfl) trivial (WkT.eq (y := tb false) (WkT.refl _) rfl) (fun _ h => h)
     ·refine WP.no h5 rfl ?_
      refine WP.pk tm [] [] [(9, vb r73b), (8, vi r73), (5, vb r55b), (4, vi r55), (3, V.ref 2003 0), (2, vb false), (0, vy x0)] [(2003, oc 26 [tl r52, ti r52b])] trivial ?_
      refine WP.seq ?_
      obtain ⟨r91, r91b, c6, h⟩ := bnd2_some h
      refine WP.pk tm [(91, An.call (T.tup [tbl r91, tb r91b]))] [(0 + 2 ≤ 2), (C Tryz.prog 30 [T.agg [tl r52, ti r52b]] (T.tup [tbl r91, tb r91b]))] [(13, vb r91b), (12, vbl r91), (9, vb r73b), (8, vi r73), (5, vb r55b), (4, vi r55), (3, V.ref 2003 0), (2, vb false), (0, vy x0)] [(2003, oc 26 [tl r52, ti r52b])] ⟨by decide, (F_i_LessWorst_W_C r52 r52b r91 r91b c6), trivial⟩ ?_
      refine WP.seq ?_
      refine WP.seq ?_
      obtain ⟨r96, r96b, c7, h⟩ := bnd2_some h
      refine WP.pk tm [(96, An.call (T.tup [tbl r96, tb r96b]))] [(0 + 2 ≤ 2), (C Tryz.prog 31 [T.agg [tl r52, ti r52b]] (T.tup [tbl r96, tb r96b]))] [(15, vb r96b), (14, vbl r96), (13, vb r91b), (12, vbl r91), (9, vb r73b), (8, vi r73), (5, vb r55b), (4, vi r55), (3, V.ref 2003 0), (2, vb false), (0, vy x0)] [(2003, oc 26 [tl r52, ti r52b])] ⟨by decide, (F_s_LessWorst_W_C r52 r52b r96 r96b c7), trivial⟩ ?_
      obtain ⟨J1, hJ1, h⟩ := jn_some h
      refine WP.joinA (fun (zz : Bool) => ⟨[2003], [(121, vb zz), (9, vb r73b), (8, vi r73), (4, vi r55), (3, V.ref 2003 0), (2, vb false), (0, vy x0)], [(2003, oc 26 [tl r52, ti r52b])]⟩) (fun zz => J1 zz = some y0) ?_ ?_
      ·rcases ite_some h with ⟨h6, h⟩ | ⟨h6, h⟩
       ·refine WP.qk tm [(101, An.b true)] [(True), ((!(r91b == r96b)) = true)] [(121, vb true), (9, vb r73b), (8, vi r73), (4, vi r55), (3, V.ref 2003 0), (2, vb false), (0, vy x0)] [(2003, oc 26 [tl r52, ti r52b])] ⟨trivial, h6, trivial⟩ ?_
        exact ⟨(true), h, rfl⟩
       ·rcases ite_some h with ⟨h7, h⟩ | ⟨h7, h⟩
        ·refine WP.qk tm [(101, An.b false), (105, An.b true)] [(True), ((!(r91b == r96b)) = false), (True), ((!(r91b == r55b)) = true)] [(121, vb true), (9, vb r73b), (8, vi r73), (4, vi r55), (3, V.ref 2003 0), (2, vb false), (0, vy x0)] [(2003, oc 26 [tl r52, ti r52b])] ⟨trivial, h6, trivial, h7, trivial⟩ ?_
         exact ⟨(true), h, rfl⟩
        ·obtain ⟨r110, c8, h⟩ := bnd1_some h
         rcases ite_some h with ⟨h8, h⟩ | ⟨h8, h⟩
         ·refine WP.qk tm [(101, An.b false), (105, An.b false), (110, An.call (tb r110)), (113, An.b true)] [(True), ((!(r91b == r96b)) = false), (True), ((!(r91b == r55b)) = false), (C Tryz.prog 13 [tbl r91, tbl r96] (tb r110)), ((!r110) = true)] [(121, vb true), (9, vb r73b), (8, vi r73), (4, vi r55), (3, V.ref 2003 0), (2, vb false), (0, vy x0)] [(2003, oc 26 [tl r52, ti r52b])] ⟨trivial, h6, trivial, h7, (F_laws_rBools_W r91 r96 r110 c8), h8, trivial⟩ ?_
          exact ⟨(true), h, rfl⟩
         ·rcases ite_some h with ⟨h9, h⟩ | ⟨h9, h⟩
          ·refine WP.qk tm [(101, An.b false), (105, An.b false), (110, An.call (tb r110)), (113, An.b false), (115, An.b true)] [(True), ((!(r91b == r96b)) = false), (True), ((!(r91b == r55b)) = false), (C Tryz.prog 13 [tbl r91, tbl r96] (tb r110)), ((!r110) = false), ((r91b) = true), (True)] [(121, vb ((ln r91) != r55)), (9, vb r73b), (8, vi r73), (4, vi r55), (3, V.ref 2003 0), (2, vb false), (0, vy x0)] [(2003, oc 26 [tl r52, ti r52b])] ⟨trivial, h6, trivial, h7, (F_laws_rBools_W r91 r96 r110 c8), h8, h9, trivial, trivial⟩ ?_
           exact ⟨((ln r91) != r55), h, rfl⟩
          ·refine WP.qk tm [(101, An.b false), (105, An.b false), (110, An.call (tb r110)), (113, An.b false), (115, An.b false)] [(True), ((!(r91b == r96b)) = false), (True), ((!(r91b == r55b)) = false), (C Tryz.prog 13 [tbl r91, tbl r96] (tb r110)), ((!r110) = false), ((r91b) = false)] [(121, vb false), (9, vb r73b), (8, vi r73), (4, vi r55), (3, V.ref 2003 0), (2, vb false), (0, vy x0)] [(2003, oc 26 [tl r52, ti r52b])] ⟨trivial, h6, trivial, h7, (F_laws_rBools_W r91 r96 r110 c8), h8, h9, trivial⟩ ?_
           exact ⟨(false), h, rfl⟩
      ·intro v121 h0
       have h := (show J1 v121 = some y0 from h0)
       rw [hJ1] at h
       rcases ite_some h with ⟨h10, h⟩ | ⟨h10, h⟩
       ·refine WP.yes h10 rfl ?_
        have h := Option.some.inj h
        subst h
        exact WP.pathW tab_ok mixed [] _ (ps := []) (r := tb false) (by as_aux_lemma => kernel_rfl) trivial (WkT.eq (y := tb false) (WkT.refl _) rfl) (fun _ h => h)
       ·refine WP.no h10 rfl ?_
        refine WP.pk tm [] [] [(9, vb r73b), (8, vi r73), (4, vi r55), (3, V.ref 2003 0), (2, vb false), (0, vy x0)] [(2003, oc 26 [tl r52, ti r52b])] trivial ?_
        refine WP.seq ?_
        obtain ⟨r124, r124b, r124c, c8, h⟩ := bnd3_some h
        refine WP.pn tm [(124, An.call (T.tup [T.agg [tl r124, ti r124b], ti r124c])), (16, An.id 2016)] [(C Tryz.prog 32 [ty x0] (T.tup [T.agg [tl r124, ti r124b], ti r124c])), ((0 + 2 ≤ 2 ∧ 2 = 2))] [2016, 2003] [(17, vi r124c), (16, V.ref 2016 0), (9, vb r73b), (8, vi r73), (4, vi r55), (3, V.ref 2003 0), (2, vb false), (0, vy x0)] [(2003, oc 26 [tl r52, ti r52b]), (2016, oc 26 [tl r124, ti r124b])] ⟨(F_s_DrawNeedOfLess_W_C x0 r124 r124b r124c c8), by decide, trivial⟩ ?_
        refine WP.seq ?_
        obtain ⟨r130, r130b, c9, h⟩ := bnd2_some h
        refine WP.pn tm [(130, An.call (T.tup [ti r130, tb r130b]))] [(0 + 2 ≤ 2), (C Tryz.prog 33 [T.agg [tl r124, ti r124b], ti r124c] (T.tup [ti r130, tb r130b]))] [2016, 2003] [(19, vb r130b), (18, vi r130), (17, vi r124c), (16, V.ref 2016 0), (9, vb r73b), (8, vi r73), (4, vi r55), (3, V.ref 2003 0), (2, vb false), (0, vy x0)] [(2003, oc 26 [tl r52, ti r52b]), (2016, oc 26 [tl r124, ti r124b])] ⟨by decide, (F_i_NeedOfLess_W r124 r124b r124c r130 r130b c9), trivial⟩ ?_
        refine WP.seq ?_
        refine WP.seq ?_
        obtain ⟨r136, r136b, c10, h⟩ := bnd2_some h
        refine WP.pn tm [(136, An.call (T.tup [ti r136, tb r136b]))] [(0 + 2 ≤ 2), (C Tryz.prog 34 [T.agg [tl r124, ti r124b], ti r124c] (T.tup [ti r136, tb r136b]))] [2016, 2003] [(21, vb r136b), (20, vi r136), (19, vb r130b), (18, vi r130), (16, V.ref 2016 0), (9, vb r73b), (8, vi r73), (4, vi r55), (3, V.ref 2003 0), (2, vb false), (0, vy x0)] [(2003, oc 26 [tl r52, ti r52b]), (2016, oc 26 [tl r124, ti r124b])] ⟨by decide, (F_s_NeedOfLess_W r124 r124b r124c r136 r136b c10), trivial⟩ ?_
        obtain ⟨J1, hJ1, h⟩ := jn_some h
        refine WP.joinA (fun (zz : Bool) => ⟨[2003, 2016], [(146, vb zz), (19, vb r130b), (18, vi r130), (16, V.ref 2016 0), (9, vb r73b), (8, vi r73), (4, vi r55), (3, V.ref 2003 0), (2, vb false), (0, vy x0)], [(2003, oc 26 [tl r52, ti r52b]), (2016, oc 26 [tl r124, ti r124b])]⟩) (fun zz => J1 zz = some y0) ?_ ?_
        ·rcases ite_some h with ⟨h11, h⟩ | ⟨h11, h⟩
         ·refine WP.qk tm [(141, An.b true)] [(True), ((r130 != r136) = true)] [(146, vb true), (19, vb r130b), (18, vi r130), (16, V.ref 2016 0), (9, vb r73b), (8, vi r73), (4, vi r55), (3, V.ref 2003 0), (2, vb false), (0, vy x0)] [(2003, oc 26 [tl r52, ti r52b]), (2016, oc 26 [tl r124, ti r124b])] ⟨trivial, h11, trivial⟩ ?_
          exact ⟨(true), h, rfl⟩
         ·refine WP.qk tm [(141, An.b false)] [(True), ((r130 != r136) = false), (True)] [(146, vb (!(r130b == r136b))), (19, vb r130b), (18, vi r130), (16, V.ref 2016 0), (9, vb r73b), (8, vi r73), (4, vi r55), (3, V.ref 2003 0), (2, vb false), (0, vy x0)] [(2003, oc 26 [tl r52, ti r52b]), (2016, oc 26 [tl r124, ti r124b])] ⟨trivial, h11, trivial, trivial⟩ ?_
          exact ⟨(!(r130b == r136b)), h, rfl⟩
        ·intro v146 h0
         have h := (show J1 v146 = some y0 from h0)
         rw [hJ1] at h
         rcases ite_some h with ⟨h12, h⟩ | ⟨h12, h⟩
         ·refine WP.yes h12 rfl ?_
          have h := Option.some.inj h
          subst h
          exact WP.pathW tab_ok mixed [] _ (ps := []) (r := tb false) (by as_aux_lemma => kernel_rfl) trivial (WkT.eq (y := tb false) (WkT.refl _) rfl) (fun _ h => h)
         ·refine WP.no h12 rfl ?_
          refine WP.pk tm [] [] [(19, vb r130b), (18, vi r130), (16, V.ref 2016 0), (9, vb r73b), (8, vi r73), (4, vi r55), (3, V.ref 2003 0), (2, vb false), (0, vy x0)] [(2003, oc 26 [tl r52, ti r52b]), (2016, oc 26 [tl r124, ti r124b])] trivial ?_
          refine WP.seq ?_
          obtain ⟨r149, r149b, c11, h⟩ := bnd2_some h
          refine WP.pk tm [(149, An.call (T.tup [ti r149, ti r149b]))] [(C Tryz.prog 35 [ty x0] (T.tup [ti r149, ti r149b]))] [(23, vi r149b), (22, vi r149), (19, vb r130b), (18, vi r130), (16, V.ref 2016 0), (9, vb r73b), (8, vi r73), (4, vi r55), (3, V.ref 2003 0), (2, vb false), (0, vy x0)] [(2003, oc 26 [tl r52, ti r52b]), (2016, oc 26 [tl r124, ti r124b])] ⟨(F_s_DrawLessQuestion_W x0 r149 r149b c11), trivial⟩ ?_
          refine WP.seq ?_
          obtain ⟨r155, r155b, c12, h⟩ := bnd2_some h
          refine WP.pk tm [(155, An.call (T.tup [ti r155, tb r155b]))] [(C Tryz.prog 36 [ti r149, ti r149b] (T.tup [ti r155, tb r155b]))] [(25, vb r155b), (24, vi r155), (23, vi r149b), (22, vi r149), (19, vb r130b), (18, vi r130), (16, V.ref 2016 0), (9, vb r73b), (8, vi r73), (4, vi r55), (3, V.ref 2003 0), (2, vb false), (0, vy x0)] [(2003, oc 26 [tl r52, ti r52b]), (2016, oc 26 [tl r124, ti r124b])] ⟨(F_i_LessQuestion_W r149 r149b r155 r155b c12), trivial⟩ ?_
          refine WP.seq ?_
          refine WP.seq ?_
          obtain ⟨r161, r161b, c13, h⟩ := bnd2_some h
          refine WP.pk tm [(161, An.call (T.tup [ti r161, tb r161b]))] [(C Tryz.prog 37 [ti r149, ti r149b] (T.tup [ti r161, tb r161b]))] [(27, vb r161b), (26, vi r161), (25, vb r155b), (24, vi r155), (23, vi r149b), (22, vi r149), (19, vb r130b), (18, vi r130), (16, V.ref 2016 0), (9, vb r73b), (8, vi r73), (4, vi r55), (3, V.ref 2003 0), (2, vb false), (0, vy x0)] [(2003, oc 26 [tl r52, ti r52b]), (2016, oc 26 [tl r124, ti r124b])] ⟨(F_s_LessQuestion_W r149 r149b r161 r161b c13), trivial⟩ ?_
          obtain ⟨J1, hJ1, h⟩ := jn_some h
          refine WP.joinA (fun (zz : Bool) => ⟨[2003, 2016], [(171, vb zz), (25, vb r155b), (24, vi r155), (23, vi r149b), (22, vi r149), (19, vb r130b), (18, vi r130), (16, V.ref 2016 0), (9, vb r73b), (8, vi r73), (4, vi r55), (3, V.ref 2003 0), (2, vb false), (0, vy x0)], [(2003, oc 26 [tl r52, ti r52b]), (2016, oc 26 [tl r124, ti r124b])]⟩) (fun zz => J1 zz = some y0) ?_ ?_
          ·rcases ite_some h with ⟨h13, h⟩ | ⟨h13, h⟩
           ·refine WP.qk tm [(166, An.b true)] [(True), ((r155 != r161) = true)] [(171, vb true), (25, vb r155b), (24, vi r155), (23, vi r149b), (22, vi r149), (19, vb r130b), (18, vi r130), (16, V.ref 2016 0), (9, vb r73b), (8, vi r73), (4, vi r55), (3, V.ref 2003 0), (2, vb false), (0, vy x0)] [(2003, oc 26 [tl r52, ti r52b]), (2016, oc 26 [tl r124, ti r124b])] ⟨trivial, h13, trivial⟩ ?_
            exact ⟨(true), h, rfl⟩
           ·refine WP.qk tm [(166, An.b false)] [(True), ((r155 != r161) = false), (True)] [(171, vb (!(r155b == r161b))), (25, vb r155b), (24, vi r155), (23, vi r149b), (22, vi r149), (19, vb r130b), (18, vi r130), (16, V.ref 2016 0), (9, vb r73b), (8, vi r73), (4, vi r55), (3, V.ref 2003 0), (2, vb false), (0, vy x0)] [(2003, oc 26 [tl r52, ti r52b]), (2016, oc 26 [tl r124, ti r124b])] ⟨trivial, h13, trivial, trivial⟩ ?_
            exact ⟨(!(r155b == r161b)), h, rfl⟩
          ·intro v171 h0
           have h := (show J1 v171 = some y0 from h0)
           rw [hJ1] at h
           rcases ite_some h with ⟨h14, h⟩ | ⟨h14, h⟩
           ·refine WP.yes h14 rfl ?_
            have h := Option.some.inj h
            subst h
            exact WP.pathW tab_ok mixed [] _ (ps := []) (r := tb false) (by as_aux_lemma => kernel_rfl) trivial (WkT.eq (y := tb false) (WkT.refl _) rfl) (fun _ h => h)
           ·refine WP.no h14 rfl ?_
            refine WP.pk tm [] [] [(25, vb r155b), (24, vi r155), (23, vi r149b), (22, vi r149), (19, vb r130b), (18, vi r130), (16, V.ref 2016 0), (9, vb r73b), (8, vi r73), (4, vi r55), (3, V.ref 2003 0), (2, vb false), (0, vy x0)] [(2003, oc 26 [tl r52, ti r52b]), (2016, oc 26 [tl r124, ti r124b])] trivial ?_
            refine WP.seq ?_
            obtain ⟨r173, c14, h⟩ := bnd1_some h
            refine WP.pk tm [(173, An.call (ti r173))] [(C Tryz.prog 38 [ty x0] (ti r173))] [(28, vi r173), (25, vb r155b), (24, vi r155), (23, vi r149b), (22, vi r149), (19, vb r130b), (18, vi r130), (16, V.ref 2016 0), (9, vb r73b), (8, vi r73), (4, vi r55), (3, V.ref 2003 0), (2, vb false), (0, vy x0)] [(2003, oc 26 [tl r52, ti r52b]), (2016, oc 26 [tl r124, ti r124b])] ⟨(F_s_DrawLessTable_W x0 r173 c14), trivial⟩ ?_
            refine WP.seq ?_
            obtain ⟨r176, r176b, c15, h⟩ := bnd2_some h
            refine WP.pk tm [(176, An.call (T.tup [tl r176, tb r176b]))] [(C Tryz.prog 39 [ti r173] (T.tup [tl r176, tb r176b]))] [(30, vb r176b), (29, vl r176), (28, vi r173), (25, vb r155b), (24, vi r155), (23, vi r149b), (22, vi r149), (19, vb r130b), (18, vi r130), (16, V.ref 2016 0), (9, vb r73b), (8, vi r73), (4, vi r55), (3, V.ref 2003 0), (2, vb false), (0, vy x0)] [(2003, oc 26 [tl r52, ti r52b]), (2016, oc 26 [tl r124, ti r124b])] ⟨(F_i_LessTable_W_C r173 r176 r176b c15), trivial⟩ ?_
            refine WP.seq ?_
            refine WP.seq ?_
            obtain ⟨r181, r181b, c16, h⟩ := bnd2_some h
            refine WP.pk tm [(181, An.call (T.tup [tl r181, tb r181b]))] [(C Tryz.prog 40 [ti r173] (T.tup [tl r181, tb r181b]))] [(32, vb r181b), (31, vl r181), (30, vb r176b), (29, vl r176), (25, vb r155b), (24, vi r155), (23, vi r149b), (22, vi r149), (19, vb r130b), (18, vi r130), (16, V.ref 2016 0), (9, vb r73b), (8, vi r73), (4, vi r55), (3, V.ref 2003 0), (2, vb false), (0, vy x0)] [(2003, oc 26 [tl r52, ti r52b]), (2016, oc 26 [tl r124, ti r124b])] ⟨(F_s_LessTable_W_C r173 r181 r181b c16), trivial⟩ ?_
            obtain ⟨J1, hJ1, h⟩ := jn_some h
            refine WP.joinA (fun (zz : Bool) => ⟨[2003, 2016], [(192, vb zz), (25, vb r155b), (24, vi r155), (23, vi r149b), (22, vi r149), (19, vb r130b), (18, vi r130), (16, V.ref 2016 0), (9, vb r73b), (8, vi r73), (4, vi r55), (3, V.ref 2003 0), (2, vb false), (0, vy x0)], [(2003, oc 26 [tl r52, ti r52b]), (2016, oc 26 [tl r124, ti r124b])]⟩) (fun zz => J1 zz = some y0) ?_ ?_
            ·rcases ite_some h with ⟨h15, h⟩ | ⟨h15, h⟩
             ·refine WP.qk tm [(186, An.b true)] [(True), ((!(r176b == r181b)) = true)] [(192, vb true), (25, vb r155b), (24, vi r155), (23, vi r149b), (22, vi r149), (19, vb r130b), (18, vi r130), (16, V.ref 2016 0), (9, vb r73b), (8, vi r73), (4, vi r55), (3, V.ref 2003 0), (2, vb false), (0, vy x0)] [(2003, oc 26 [tl r52, ti r52b]), (2016, oc 26 [tl r124, ti r124b])] ⟨trivial, h15, trivial⟩ ?_
              exact ⟨(true), h, rfl⟩
             ·obtain ⟨r190, c17, h⟩ := bnd1_some h
              refine WP.qk tm [(186, An.b false), (190, An.call (tb r190))] [(True), ((!(r176b == r181b)) = false), (C Tryz.prog 41 [tl r176, tl r181] (tb r190))] [(192, vb (!r190)), (25, vb r155b), (24, vi r155), (23, vi r149b), (22, vi r149), (19, vb r130b), (18, vi r130), (16, V.ref 2016 0), (9, vb r73b), (8, vi r73), (4, vi r55), (3, V.ref 2003 0), (2, vb false), (0, vy x0)] [(2003, oc 26 [tl r52, ti r52b]), (2016, oc 26 [tl r124, ti r124b])] ⟨trivial, h15, (F_laws_rInts_W r176 r181 r190 c17), trivial⟩ ?_
              exact ⟨(!r190), h, rfl⟩
            ·intro v192 h0
             have h := (show J1 v192 = some y0 from h0)
             rw [hJ1] at h
             rcases ite_some h with ⟨h16, h⟩ | ⟨h16, h⟩
             ·refine WP.yes h16 rfl ?_
              have h := Option.some.inj h
              subst h
              exact WP.pathW tab_ok mixed [] _ (ps := []) (r := tb false) (by as_aux_lemma => kernel_rfl) trivial (WkT.eq (y := tb false) (WkT.refl _) rfl) (fun _ h => h)
             ·refine WP.no h16 rfl ?_
              refine WP.pk tm [] [] [(25, vb r155b), (24, vi r155), (23, vi r149b), (22, vi r149), (19, vb r130b), (18, vi r130), (16, V.ref 2016 0), (9, vb r73b), (8, vi r73), (4, vi r55), (3, V.ref 2003 0), (2, vb false), (0, vy x0)] [(2003, oc 26 [tl r52, ti r52b]), (2016, oc 26 [tl r124, ti r124b])] trivial ?_
              refine WP.seq ?_
              obtain ⟨r195, r195b, c17, h⟩ := bnd2_some h
              refine WP.pk tm [(195, An.call (T.tup [ti r195, ti r195b]))] [(C Tryz.prog 42 [ty x0] (T.tup [ti r195, ti r195b]))] [(34, vi r195b), (33, vi r195), (25, vb r155b), (24, vi r155), (23, vi r149b), (22, vi r149), (19, vb r130b), (18, vi r130), (16, V.ref 2016 0), (9, vb r73b), (8, vi r73), (4, vi r55), (3, V.ref 2003 0), (2, vb false)] [(2003, oc 26 [tl r52, ti r52b]), (2016, oc 26 [tl r124, ti r124b])] ⟨(F_s_DrawMoreThanSets_W x0 r195 r195b c17), trivial⟩ ?_
              refine WP.seq ?_
              obtain ⟨r201, r201b, c18, h⟩ := bnd2_some h
              refine WP.pk tm [(201, An.call (T.tup [ti r201, tb r201b]))] [(C Tryz.prog 43 [ti r195, ti r195b] (T.tup [ti r201, tb r201b]))] [(36, vb r201b), (35, vi r201), (34, vi r195b), (33, vi r195), (25, vb r155b), (24, vi r155), (23, vi r149b), (22, vi r149), (19, vb r130b), (18, vi r130), (16, V.ref 2016 0), (9, vb r73b), (8, vi r73), (4, vi r55), (3, V.ref 2003 0), (2, vb false)] [(2003, oc 26 [tl r52, ti r52b]), (2016, oc 26 [tl r124, ti r124b])] ⟨(F_i_MoreThanSets_W r195 r195b r201 r201b c18), trivial⟩ ?_
              refine WP.seq ?_
              refine WP.seq ?_
              obtain ⟨r207, r207b, c19, h⟩ := bnd2_some h
              refine WP.pk tm [(207, An.call (T.tup [ti r207, tb r207b]))] [(C Tryz.prog 44 [ti r195, ti r195b] (T.tup [ti r207, tb r207b]))] [(38, vb r207b), (37, vi r207), (36, vb r201b), (35, vi r201), (34, vi r195b), (25, vb r155b), (24, vi r155), (23, vi r149b), (22, vi r149), (19, vb r130b), (18, vi r130), (16, V.ref 2016 0), (9, vb r73b), (8, vi r73), (4, vi r55), (3, V.ref 2003 0), (2, vb false)] [(2003, oc 26 [tl r52, ti r52b]), (2016, oc 26 [tl r124, ti r124b])] ⟨(F_s_MoreThanSets_W r195 r195b r207 r207b c19), trivial⟩ ?_
              obtain ⟨J1, hJ1, h⟩ := jn_some h
              refine WP.joinA (fun (zz : Bool) => ⟨[2003, 2016], [(232, vb zz), (25, vb r155b), (24, vi r155), (23, vi r149b), (22, vi r149), (19, vb r130b), (18, vi r130), (16, V.ref 2016 0), (9, vb r73b), (8, vi r73), (4, vi r55), (3, V.ref 2003 0), (2, vb false)], [(2003, oc 26 [tl r52, ti r52b]), (2016, oc 26 [tl r124, ti r124b])]⟩) (fun zz => J1 zz = some y0) ?_ ?_
              ·rcases ite_some h with ⟨h17, h⟩ | ⟨h17, h⟩
               ·refine WP.qk tm [(212, An.b true)] [(True), ((r201 != r207) = true)] [(232, vb true), (25, vb r155b), (24, vi r155), (23, vi r149b), (22, vi r149), (19, vb r130b), (18, vi r130), (16, V.ref 2016 0), (9, vb r73b), (8, vi r73), (4, vi r55), (3, V.ref 2003 0), (2, vb false)] [(2003, oc 26 [tl r52, ti r52b]), (2016, oc 26 [tl r124, ti r124b])] ⟨trivial, h17, trivial⟩ ?_
                exact ⟨(true), h, rfl⟩
               ·rcases ite_some h with ⟨h18, h⟩ | ⟨h18, h⟩
                ·refine WP.qk tm [(212, An.b false), (216, An.b true)] [(True), ((r201 != r207) = false), (True), ((!(r201b == r207b)) = true)] [(232, vb true), (25, vb r155b), (24, vi r155), (23, vi r149b), (22, vi r149), (19, vb r130b), (18, vi r130), (16, V.ref 2016 0), (9, vb r73b), (8, vi r73), (4, vi r55), (3, V.ref 2003 0), (2, vb false)] [(2003, oc 26 [tl r52, ti r52b]), (2016, oc 26 [tl r124, ti r124b])] ⟨trivial, h17, trivial, h18, trivial⟩ ?_
                 exact ⟨(true), h, rfl⟩
                ·rcases ite_some h with ⟨h19, h⟩ | ⟨h19, h⟩
                 ·rcases ite_some h with ⟨h20, h⟩ | ⟨h20, h⟩
                  ·refine WP.qk tm [(212, An.b false), (216, An.b false), (220, An.b true), (222, An.b true)] [(True), ((r201 != r207) = false), (True), ((!(r201b == r207b)) = false), ((r201b) = true), (True), ((decide (r201 < (0 : Int))) = true)] [(232, vb true), (25, vb r155b), (24, vi r155), (23, vi r149b), (22, vi r149), (19, vb r130b), (18, vi r130), (16, V.ref 2016 0), (9, vb r73b), (8, vi r73), (4, vi r55), (3, V.ref 2003 0), (2, vb false)] [(2003, oc 26 [tl r52, ti r52b]), (2016, oc 26 [tl r124, ti r124b])] ⟨trivial, h17, trivial, h18, h19, trivial, h20, trivial⟩ ?_
                   exact ⟨(true), h, rfl⟩
                  ·rcases ite_some h with ⟨h21, h⟩ | ⟨h21, h⟩
                   ·refine WP.qk tm [(212, An.b false), (216, An.b false), (220, An.b true), (222, An.b false), (225, An.b true)] [(True), ((r201 != r207) = false), (True), ((!(r201b == r207b)) = false), ((r201b) = true), (True), ((decide (r201 < (0 : Int))) = false), (True), ((r195b == (0 : Int)) = true), (True)] [(232, vb (r201 != (0 : Int))), (25, vb r155b), (24, vi r155), (23, vi r149b), (22, vi r149), (19, vb r130b), (18, vi r130), (16, V.ref 2016 0), (9, vb r73b), (8, vi r73), (4, vi r55), (3, V.ref 2003 0), (2, vb false)] [(2003, oc 26 [tl r52, ti r52b]), (2016, oc 26 [tl r124, ti r124b])] ⟨trivial, h17, trivial, h18, h19, trivial, h20, trivial, h21, trivial, trivial⟩ ?_
                    exact ⟨(r201 != (0 : Int)), h, rfl⟩
                   ·refine WP.qk tm [(212, An.b false), (216, An.b false), (220, An.b true), (222, An.b false), (225, An.b false)] [(True), ((r201 != r207) = false), (True), ((!(r201b == r207b)) = false), ((r201b) = true), (True), ((decide (r201 < (0 : Int))) = false), (True), ((r195b == (0 : Int)) = false)] [(232, vb false), (25, vb r155b), (24, vi r155), (23, vi r149b), (22, vi r149), (19, vb r130b), (18, vi r130), (16, V.ref 2016 0), (9, vb r73b), (8, vi r73), (4, vi r55), (3, V.ref 2003 0), (2, vb false)] [(2003, oc 26 [tl r52, ti r52b]), (2016, oc 26 [tl r124, ti r124b])] ⟨trivial, h17, trivial, h18, h19, trivial, h20, trivial, h21, trivial⟩ ?_
                    exact ⟨(false), h, rfl⟩
                 ·refine WP.qk tm [(212, An.b false), (216, An.b false), (220, An.b false)] [(True), ((r201 != r207) = false), (True), ((!(r201b == r207b)) = false), ((r201b) = false)] [(232, vb false), (25, vb r155b), (24, vi r155), (23, vi r149b), (22, vi r149), (19, vb r130b), (18, vi r130), (16, V.ref 2016 0), (9, vb r73b), (8, vi r73), (4, vi r55), (3, V.ref 2003 0), (2, vb false)] [(2003, oc 26 [tl r52, ti r52b]), (2016, oc 26 [tl r124, ti r124b])] ⟨trivial, h17, trivial, h18, h19, trivial⟩ ?_
                  exact ⟨(false), h, rfl⟩
              ·intro v232 h0
               have h := (show J1 v232 = some y0 from h0)
               rw [hJ1] at h
               rcases ite_some h with ⟨h22, h⟩ | ⟨h22, h⟩
               ·refine WP.yes h22 rfl ?_
                have h := Option.some.inj h
                subst h
                exact WP.pathW tab_ok mixed [] _ (ps := []) (r := tb false) (by as_aux_lemma => kernel_rfl) trivial (WkT.eq (y := tb false) (WkT.refl _) rfl) (fun _ h => h)
               ·refine WP.no h22 rfl ?_
                refine WP.pk tm [] [] [(25, vb r155b), (24, vi r155), (23, vi r149b), (22, vi r149), (19, vb r130b), (18, vi r130), (16, V.ref 2016 0), (9, vb r73b), (8, vi r73), (4, vi r55), (3, V.ref 2003 0), (2, vb false)] [(2003, oc 26 [tl r52, ti r52b]), (2016, oc 26 [tl r124, ti r124b])] trivial ?_
                obtain ⟨J1, hJ1, h⟩ := jn_some h
                refine WP.joinA (fun (zz : Unit) => ⟨[2003], [(25, vb r155b), (24, vi r155), (23, vi r149b), (22, vi r149), (9, vb r73b), (8, vi r73), (4, vi r55), (3, V.ref 2003 0), (2, vb false)], [(2003, oc 26 [tl r52, ti r52b])]⟩) (fun zz => J1 () = some y0) ?_ ?_
                ·refine WP.sk tm [] [] [(233, vb r130b), (25, vb r155b), (24, vi r155), (23, vi r149b), (22, vi r149), (18, vi r130), (16, V.ref 2016 0), (9, vb r73b), (8, vi r73), (4, vi r55), (3, V.ref 2003 0), (2, vb false)] [(2003, oc 26 [tl r52, ti r52b]), (2016, oc 26 [tl r124, ti r124b])] trivial ?_
                 rcases ite_some h with ⟨h23, h⟩ | ⟨h23, h⟩
                 ·refine WP.yes h23 rfl ?_
                  refine WP.seq ?_
                  obtain ⟨r236, r236b, c20, h⟩ := bnd2_some h
                  refine WP.pn tm [(236, An.call (T.tup [ti r236, tb r236b]))] [(0 + 2 ≤ 2), (C Tryz.prog 26 [T.agg [tl r124, ti r124b]] (T.tup [ti r236, tb r236b]))] [2003, 2016] [(40, vb r236b), (39, vi r236), (25, vb r155b), (24, vi r155), (23, vi r149b), (22, vi r149), (18, vi r130), (9, vb r73b), (8, vi r73), (4, vi r55), (3, V.ref 2003 0), (2, vb false)] [(2003, oc 26 [tl r52, ti r52b])] ⟨by decide, (F_i_LessNeed_W r124 r124b r236 r236b c20), trivial⟩ ?_
                  obtain ⟨J2, hJ2, h⟩ := jn_some h
                  refine WP.joinA (fun (zz : Bool) => ⟨[2003], [(245, vb zz), (25, vb r155b), (24, vi r155), (23, vi r149b), (22, vi r149), (9, vb r73b), (8, vi r73), (4, vi r55), (3, V.ref 2003 0), (2, vb false)], [(2003, oc 26 [tl r52, ti r52b])]⟩) (fun zz => J2 zz = some y0) ?_ ?_
                  ·rcases ite_some h with ⟨h24, h⟩ | ⟨h24, h⟩
                   ·refine WP.qk tm [(241, An.b true)] [((!r236b) = true)] [(245, vb true), (25, vb r155b), (24, vi r155), (23, vi r149b), (22, vi r149), (9, vb r73b), (8, vi r73), (4, vi r55), (3, V.ref 2003 0), (2, vb false)] [(2003, oc 26 [tl r52, ti r52b])] ⟨h24, trivial⟩ ?_
                    exact ⟨(true), h, rfl⟩
                   ·refine WP.qk tm [(241, An.b false)] [((!r236b) = false), (True)] [(245, vb (decide (r130 < r236))), (25, vb r155b), (24, vi r155), (23, vi r149b), (22, vi r149), (9, vb r73b), (8, vi r73), (4, vi r55), (3, V.ref 2003 0), (2, vb false)] [(2003, oc 26 [tl r52, ti r52b])] ⟨h24, trivial, trivial⟩ ?_
                    exact ⟨(decide (r130 < r236)), h, rfl⟩
                  ·intro v245 h0
                   have h := (show J2 v245 = some y0 from h0)
                   rw [hJ2] at h
                   rcases ite_some h with ⟨h25, h⟩ | ⟨h25, h⟩
                   ·refine WP.yes h25 rfl ?_
                    have h := Option.some.inj h
                    subst h
                    exact WP.pathW tab_ok mixed [] _ (ps := []) (r := tb false) (by as_aux_lemma => kernel_rfl) trivial (WkT.eq (y := tb false) (WkT.refl _) rfl) (fun _ h => h)
                   ·refine WP.no h25 rfl ?_
                    refine WP.qk tm [] [] [(25, vb r155b), (24, vi r155), (23, vi r149b), (22, vi r149), (9, vb r73b), (8, vi r73), (4, vi r55), (3, V.ref 2003 0), (2, vb false)] [(2003, oc 26 [tl r52, ti r52b])] trivial ?_
                    exact ⟨(), h, rfl⟩
                 ·refine WP.no h23 rfl ?_
                  refine WP.qk tm [] [] [(25, vb r155b), (24, vi r155), (23, vi r149b), (22, vi r149), (9, vb r73b), (8, vi r73), (4, vi r55), (3, V.ref 2003 0), (2, vb false)] [(2003, oc 26 [tl r52, ti r52b])] trivial ?_
                  exact ⟨(), h, rfl⟩
                ·intro _ h0
                 have h := (show J1 () = some y0 from h0)
                 rw [hJ1] at h
                 obtain ⟨J1, hJ1, h⟩ := jn_some h
                 refine WP.joinA (fun (zz : Unit) => ⟨[2003], [(9, vb r73b), (8, vi r73), (4, vi r55), (3, V.ref 2003 0), (2, vb false)], [(2003, oc 26 [tl r52, ti r52b])]⟩) (fun zz => J1 () = some y0) ?_ ?_
                 ·obtain ⟨J2, hJ2, h⟩ := jn_some h
                  refine WP.joinA (fun (zz : Bool) => ⟨[2003], [(251, vb zz), (24, vi r155), (23, vi r149b), (22, vi r149), (9, vb r73b), (8, vi r73), (4, vi r55), (3, V.ref 2003 0), (2, vb false)], [(2003, oc 26 [tl r52, ti r52b])]⟩) (fun zz => J2 zz = some y0) ?_ ?_
                  ·rcases ite_some h with ⟨h26, h⟩ | ⟨h26, h⟩
                   ·refine WP.qk tm [(247, An.b true)] [((r155b) = true), (True)] [(251, vb (decide (r149b < r149))), (24, vi r155), (23, vi r149b), (22, vi r149), (9, vb r73b), (8, vi r73), (4, vi r55), (3, V.ref 2003 0), (2, vb false)] [(2003, oc 26 [tl r52, ti r52b])] ⟨h26, trivial, trivial⟩ ?_
                    exact ⟨(decide (r149b < r149)), h, rfl⟩
                   ·refine WP.qk tm [(247, An.b false)] [((r155b) = false)] [(251, vb false), (24, vi r155), (23, vi r149b), (22, vi r149), (9, vb r73b), (8, vi r73), (4, vi r55), (3, V.ref 2003 0), (2, vb false)] [(2003, oc 26 [tl r52, ti r52b])] ⟨h26, trivial⟩ ?_
                    exact ⟨(false), h, rfl⟩
                  ·intro v251 h0
                   have h := (show J2 v251 = some y0 from h0)
                   rw [hJ2] at h
                   rcases ite_some h with ⟨h27, h⟩ | ⟨h27, h⟩
                   ·refine WP.yes h27 rfl ?_
                    refine WP.seq ?_
                    obtain ⟨r255, r255b, c20, h⟩ := bnd2_some h
                    refine WP.pk tm [(255, An.call (T.tup [tl r255, tb r255b]))] [(C Tryz.prog 45 [ti r149, ti r155] (T.tup [tl r255, tb r255b]))] [(42, vb r255b), (41, vl r255), (23, vi r149b), (9, vb r73b), (8, vi r73), (4, vi r55), (3, V.ref 2003 0), (2, vb false)] [(2003, oc 26 [tl r52, ti r52b])] ⟨(F_i_NumbersOf_W_C r149 r155 r255 r255b c20), trivial⟩ ?_
                    obtain ⟨J2, hJ2, h⟩ := jn_some h
                    refine WP.joinA (fun (zz : Bool) => ⟨[2003], [(265, vb zz), (9, vb r73b), (8, vi r73), (4, vi r55), (3, V.ref 2003 0), (2, vb false)], [(2003, oc 26 [tl r52, ti r52b])]⟩) (fun zz => J2 zz = some y0) ?_ ?_
                    ·rcases ite_some h with ⟨h28, h⟩ | ⟨h28, h⟩
                     ·refine WP.qk tm [(260, An.b true)] [((!r255b) = true)] [(265, vb true), (9, vb r73b), (8, vi r73), (4, vi r55), (3, V.ref 2003 0), (2, vb false)] [(2003, oc 26 [tl r52, ti r52b])] ⟨h28, trivial⟩ ?_
                      exact ⟨(true), h, rfl⟩
                     ·refine WP.qk tm [(260, An.b false)] [((!r255b) = false), (True)] [(265, vb ((ln r255) != r149b)), (9, vb r73b), (8, vi r73), (4, vi r55), (3, V.ref 2003 0), (2, vb false)] [(2003, oc 26 [tl r52, ti r52b])] ⟨h28, trivial, trivial⟩ ?_
                      exact ⟨((ln r255) != r149b), h, rfl⟩
                    ·intro v265 h0
                     have h := (show J2 v265 = some y0 from h0)
                     rw [hJ2] at h
                     rcases ite_some h with ⟨h29, h⟩ | ⟨h29, h⟩
                     ·refine WP.yes h29 rfl ?_
                      have h := Option.some.inj h
                      subst h
                      exact WP.pathW tab_ok mixed [] _ (ps := []) (r := tb false) (by as_aux_lemma => kernel_rfl) trivial (WkT.eq (y := tb false) (WkT.refl _) rfl) (fun _ h => h)
                     ·refine WP.no h29 rfl ?_
                      refine WP.qk tm [] [] [(9, vb r73b), (8, vi r73), (4, vi r55), (3, V.ref 2003 0), (2, vb false)] [(2003, oc 26 [tl r52, ti r52b])] trivial ?_
                      exact ⟨(), h, rfl⟩
                   ·refine WP.no h27 rfl ?_
                    refine WP.qk tm [] [] [(9, vb r73b), (8, vi r73), (4, vi r55), (3, V.ref 2003 0), (2, vb false)] [(2003, oc 26 [tl r52, ti r52b])] trivial ?_
                    exact ⟨(), h, rfl⟩
                 ·intro _ h0
                  have h := (show J1 () = some y0 from h0)
                  rw [hJ1] at h
                  refine WP.seq ?_
                  refine WP.sk tm [] [] [(267, vb (!r73b)), (8, vi r73), (4, vi r55), (3, V.ref 2003 0), (2, vb false)] [(2003, oc 26 [tl r52, ti r52b])] trivial ?_
                  rcases ite_some h with ⟨h30, h⟩ | ⟨h30, h⟩
                  ·refine WP.yes h30 rfl ?_
                   have h := Option.some.inj h
                   subst h
                   exact WP.pathW tab_ok mixed [] _ (ps := []) (r := tb true) (by as_aux_lemma => kernel_rfl) trivial (WkT.eq (y := tb true) (WkT.refl _) rfl) (fun _ h => h)
                  ·refine WP.no h30 rfl ?_
                   refine WP.pk tm [] [] [(8, vi r73), (4, vi r55), (3, V.ref 2003 0), (2, vb false)] [(2003, oc 26 [tl r52, ti r52b])] trivial ?_
                   obtain ⟨r271, r271b, c20, h⟩ := bnd2_some h
                   obtain ⟨r276, r276b, c21, h⟩ := bnd2_some h
                   obtain ⟨r281, r281b, c22, h⟩ := bnd2_some h
                   rcases ite_some h with ⟨h31, h⟩ | ⟨h31, h⟩
                   ·rcases ite_some h with ⟨h32, h⟩ | ⟨h32, h⟩
                    ·rcases ite_some h with ⟨h33, h⟩ | ⟨h33, h⟩
                     ·rcases ite_some h with ⟨h34, h⟩ | ⟨h34, h⟩
                      ·have h := Option.some.inj h
                       subst h
                       exact WP.pathW tab_ok mixed [(271, An.call (T.tup [ti r271, tb r271b])), (273, An.b true), (276, An.call (T.tup [tl r276, tb r276b])), (278, An.b true), (281, An.call (T.tup [ti r281, tb r281b])), (283, An.b true), (294, An.b true)] _ (ps := [(0 + 2 ≤ 2), (C Tryz.prog 33 [T.agg [tl r52, ti r52b], ti r73] (T.tup [ti r271, tb r271b])), ((r271b) = true), (0 + 2 ≤ 2), (C Tryz.prog 23 [T.agg [tl r52, ti r52b]] (T.tup [tl r276, tb r276b])), ((r276b) = true), (C Tryz.prog 24 [tl r276] (T.tup [ti r281, tb r281b])), ((r281b) = true), (True), ((r271 == r55) = true), (True)]) (r := tb (decide (r281 ≤ r55))) (by as_aux_lemma => kernel_rfl) ⟨by decide, (F_i_NeedOfLess_W r52 r52b r73 r271 r271b c20), h31, by decide, (F_i_CountsOf_W_C r52 r52b r276 r276b c21), h32, (F_i_NeedOf_W r276 r281 r281b c22), h33, trivial, h34, trivial, trivial⟩ (WkT.eq (y := tb (decide (r281 ≤ r55))) (WkT.refl _) rfl) (fun _ h => h)
                      ·have h := Option.some.inj h
                       subst h
                       exact WP.pathW tab_ok mixed [(271, An.call (T.tup [ti r271, tb r271b])), (273, An.b true), (276, An.call (T.tup [tl r276, tb r276b])), (278, An.b true), (281, An.call (T.tup [ti r281, tb r281b])), (283, An.b true), (294, An.b false)] _ (ps := [(0 + 2 ≤ 2), (C Tryz.prog 33 [T.agg [tl r52, ti r52b], ti r73] (T.tup [ti r271, tb r271b])), ((r271b) = true), (0 + 2 ≤ 2), (C Tryz.prog 23 [T.agg [tl r52, ti r52b]] (T.tup [tl r276, tb r276b])), ((r276b) = true), (C Tryz.prog 24 [tl r276] (T.tup [ti r281, tb r281b])), ((r281b) = true), (True), ((r271 == r55) = false)]) (r := tb false) (by as_aux_lemma => kernel_rfl) ⟨by decide, (F_i_NeedOfLess_W r52 r52b r73 r271 r271b c20), h31, by decide, (F_i_CountsOf_W_C r52 r52b r276 r276b c21), h32, (F_i_NeedOf_W r276 r281 r281b c22), h33, trivial, h34, trivial⟩ (WkT.eq (y := tb false) (WkT.refl _) rfl) (fun _ h => h)
                     ·have h := Option.some.inj h
                      subst h
                      exact WP.pathW tab_ok mixed [(271, An.call (T.tup [ti r271, tb r271b])), (273, An.b true), (276, An.call (T.tup [tl r276, tb r276b])), (278, An.b true), (281, An.call (T.tup [ti r281, tb r281b])), (283, An.b false)] _ (ps := [(0 + 2 ≤ 2), (C Tryz.prog 33 [T.agg [tl r52, ti r52b], ti r73] (T.tup [ti r271, tb r271b])), ((r271b) = true), (0 + 2 ≤ 2), (C Tryz.prog 23 [T.agg [tl r52, ti r52b]] (T.tup [tl r276, tb r276b])), ((r276b) = true), (C Tryz.prog 24 [tl r276] (T.tup [ti r281, tb r281b])), ((r281b) = false)]) (r := tb false) (by as_aux_lemma => kernel_rfl) ⟨by decide, (F_i_NeedOfLess_W r52 r52b r73 r271 r271b c20), h31, by decide, (F_i_CountsOf_W_C r52 r52b r276 r276b c21), h32, (F_i_NeedOf_W r276 r281 r281b c22), h33, trivial⟩ (WkT.eq (y := tb false) (WkT.refl _) rfl) (fun _ h => h)
                    ·have h := Option.some.inj h
                     subst h
                     exact WP.pathW tab_ok mixed [(271, An.call (T.tup [ti r271, tb r271b])), (273, An.b true), (276, An.call (T.tup [tl r276, tb r276b])), (278, An.b false), (281, An.call (T.tup [ti r281, tb r281b]))] _ (ps := [(0 + 2 ≤ 2), (C Tryz.prog 33 [T.agg [tl r52, ti r52b], ti r73] (T.tup [ti r271, tb r271b])), ((r271b) = true), (0 + 2 ≤ 2), (C Tryz.prog 23 [T.agg [tl r52, ti r52b]] (T.tup [tl r276, tb r276b])), ((r276b) = false), (C Tryz.prog 24 [tl r276] (T.tup [ti r281, tb r281b]))]) (r := tb false) (by as_aux_lemma => kernel_rfl) ⟨by decide, (F_i_NeedOfLess_W r52 r52b r73 r271 r271b c20), h31, by decide, (F_i_CountsOf_W_C r52 r52b r276 r276b c21), h32, (F_i_NeedOf_W r276 r281 r281b c22), trivial⟩ (WkT.eq (y := tb false) (WkT.refl _) rfl) (fun _ h => h)
                   ·have h := Option.some.inj h
                    subst h
                    exact WP.pathW tab_ok mixed [(271, An.call (T.tup [ti r271, tb r271b])), (273, An.b false), (276, An.call (T.tup [tl r276, tb r276b])), (281, An.call (T.tup [ti r281, tb r281b]))] _ (ps := [(0 + 2 ≤ 2), (C Tryz.prog 33 [T.agg [tl r52, ti r52b], ti r73] (T.tup [ti r271, tb r271b])), ((r271b) = false), (0 + 2 ≤ 2), (C Tryz.prog 23 [T.agg [tl r52, ti r52b]] (T.tup [tl r276, tb r276b])), (C Tryz.prog 24 [tl r276] (T.tup [ti r281, tb r281b]))]) (r := tb false) (by as_aux_lemma => kernel_rfl) ⟨by decide, (F_i_NeedOfLess_W r52 r52b r73 r271 r271b c20), h31, by decide, (F_i_CountsOf_W_C r52 r52b r276 r276b c21), (F_i_NeedOf_W r276 r281 r281b c22), trivial⟩ (WkT.eq (y := tb false) (WkT.refl _) rfl) (fun _ h => h)

end Go.Proofs.YtopodonemnnjdaaGreat.AuCo
