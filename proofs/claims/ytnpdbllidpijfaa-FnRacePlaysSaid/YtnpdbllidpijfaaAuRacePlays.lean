/-
  The walks: each function of the program returns what the plain function beside it returns. No statement is proved here.
-/
import Derived.Test.YtnpdbllidpijfaaTlV
import Derived.Test.YtnpdbllidpijfaaTlCI
import Derived.Test.YtnpdbllidpijfaaAuRacePlaysF
import Derived.Test.YtnpdbllidpijfaaProg
import Derived.Test.YtnpdbllidpijfaaAuRacePlaysO
import Derived.Test.YtnpdbllidpijfaaAuRacePlaysa
import Derived.Test.YtnpdbllidpijfaaAuRacePlaysb
namespace Go.Proofs.Ytnpdbllidpijfaa.AuRacePlays
open Go Go.Tl Go.Proofs
open Go.Proofs.Ytnpdbllidpijfaa.AuRacePlaysO hiding tab tab_ok mixed
open Go.Proofs.Ytnpdbllidpijfaa.AuRacePlaysa hiding tab tab_ok mixed
open Go.Proofs.Ytnpdbllidpijfaa.AuRacePlaysb hiding tab tab_ok mixed
set_option linter.unusedVariables false
set_option linter.unusedSimpArgs false
set_option maxRecDepth 100000
def tab : Tab := [(3, ⟨.int .i64, 1, 8, [.int .i64 0]⟩), (4, ⟨.bool, 1, 1, [.bool false]⟩), (5, ⟨.int .u8, 1, 1, [.int .u8 0]⟩), (22, ⟨.slice 3 1 8, 1, 24, [.nils]⟩), (28, ⟨.struct [(0, 1, false), (1, 1, false)], 2, 32, [.nils, .int .i64 0]⟩), (40, ⟨.slice 4 1 1, 1, 24, [.nils]⟩), (46, ⟨.slice 65 2 16, 1, 24, [.nils]⟩), (51, ⟨.slice 5 1 1, 1, 24, [.nils]⟩), (65, ⟨.struct [(0, 1, false), (1, 1, false)], 2, 16, [.int .i64 0, .bool false]⟩), (70, ⟨.struct [(0, 1, false), (1, 1, false), (2, 1, false), (3, 1, false), (4, 1, false)], 5, 32, [.bool false, .bool false, .int .i64 0, .int .i64 0, .int .i64 0]⟩), (71, ⟨.slice 70 5 32, 1, 24, [.nils]⟩), (75, ⟨.pointer 104, 1, 8, [.nilp]⟩), (90, ⟨.pointer 93, 1, 8, [.nilp]⟩), (91, ⟨.int .u64, 1, 8, [.int .u64 0]⟩), (93, ⟨.struct [(0, 1, false), (1, 1, false), (2, 1, false)], 3, 40, [.nils, .int .i64 0, .int .u64 0]⟩), (99, ⟨.array 3 3 1 false, 3, 24, [.int .i64 0, .int .i64 0, .int .i64 0]⟩), (101, ⟨.map 3 4, 1, 8, [.nilm]⟩), (102, ⟨.map 3 99, 1, 8, [.nilm]⟩), (104, ⟨.struct [(0, 1, false), (1, 1, false), (2, 1, false)], 3, 40, [.nils, .nilm, .nilm]⟩), (107, ⟨.array 2 28 2 true, 4, 64, [.nils, .int .i64 0, .nils, .int .i64 0]⟩)]
theorem tab_ok : chkTab Try.prog tab = true := by kernel_rfl
theorem mixed : Try.prog.follows .mixedOrders = true := by kernel_rfl
theorem F_laws_rBools_W (x0 : List Bool) (x1 : List Bool) (y0 : Bool) (h : F_laws_rBools x0 x1 = some y0) : C Try.prog 54 [tbl x0, tbl x1] (tb y0) := by
 unfold F_laws_rBools at h
 refine C.intro (tab := tab) tab_ok (fn := Try.f54) Try.func54 (by kernel_rfl) rfl (Nat.le_of_ble_eq_true rfl) ?_
 refine WP.seq ?_
 refine WP.path tab_ok mixed [] [.keep [4, 0, 1], .keepO []] (ps := []) (e := .normal) (σ' := ⟨[], [(4, vb false), (0, vbl x0), (1, vbl x1)], []⟩) (by kernel_rfl) trivial ?_
 refine WP.seq ?_
 refine WP.seq ?_
 refine WP.path tab_ok mixed [] [.keep [10, 4, 0, 1], .keepO []] (ps := [(True)]) (e := .normal) (σ' := ⟨[], [(10, vb (((List.length x0 : Nat) : Int) != ((List.length x1 : Nat) : Int))), (4, vb false), (0, vbl x0), (1, vbl x1)], []⟩) (by kernel_rfl) ⟨trivial, trivial⟩ ?_
 rcases ite_some h with ⟨h1, h⟩ | ⟨h1, h⟩
 ·refine WP.cond (b := ((List.length x0 : Nat) : Int) != ((List.length x1 : Nat) : Int)) rfl (fun _ => ?_) (fun hh => by rw [h1] at hh; cases hh)
  have h := Option.some.inj h
  subst h
  exact WP.pathW tab_ok mixed [] _ (ps := []) (r := tb false) (by kernel_rfl) trivial (WkT.eq (y := tb false) (WkT.refl _) rfl) (fun _ h => h)
 ·refine WP.cond (b := ((List.length x0 : Nat) : Int) != ((List.length x1 : Nat) : Int)) rfl (fun hh => by rw [h1] at hh; cases hh) (fun _ => ?_)
  refine WP.path tab_ok mixed [] [.keep [4, 0, 1], .keepO []] (ps := []) (e := .normal) (σ' := ⟨[], [(4, vb false), (0, vbl x0), (1, vbl x1)], []⟩) (by kernel_rfl) trivial ?_
  obtain ⟨J1, hJ1, h⟩ := jn_some h
  refine WP.joinA (fun (zz : Unit) => ⟨[], [(4, vb false)], []⟩) (fun zz => J1 () = some y0) ?_ ?_
  ·refine WP.seq ?_
   refine WP.path tab_ok mixed [] [.keep [5, 4, 0, 1], .keepO []] (ps := []) (e := .normal) (σ' := ⟨[], [(5, vi 0), (4, vb false), (0, vbl x0), (1, vbl x1)], []⟩) (by kernel_rfl) trivial ?_
   refine WP.block ?_
   refine WP.wk [.keep [5, 4, 0, 1], .keepO [], .names []] (σ' := ⟨[], [(5, vi 0), (4, vb false), (0, vbl x0), (1, vbl x1)], []⟩) (ps := []) (by kernel_rfl) trivial ?_
   refine WP.st (σ' := ⟨[], [(5, vi (0 : Int)), (4, vb false), (0, vbl x0), (1, vbl x1)], []⟩) rfl ?_
   refine WP.loop (α := Nat × Int) (fun zz => ⟨[], [(5, vi zz.2), (4, vb false), (0, vbl x0), (1, vbl x1)], []⟩) (fun zz => F_laws_rBools_L1 x0 x1 J1 zz.1 zz.2 = some y0) (fun zz => zz.1) (fuel, (0 : Int)) h ?_
   rintro ⟨n, v5⟩ h0
   have h := (show F_laws_rBools_L1 x0 x1 J1 n v5 = some y0 from h0)
   rcases n with _ | n
   ·rw [F_laws_rBools_L1] at h; cases h
   ·rw [F_laws_rBools_L1] at h
    refine WP.seq ?_
    refine WP.seq ?_
    refine WP.path tab_ok mixed [] [.keep [14, 5, 4, 0, 1], .keepO []] (ps := [(True)]) (e := .normal) (σ' := ⟨[], [(14, vb (decide (v5 < ((List.length x0 : Nat) : Int)))), (5, vi v5), (4, vb false), (0, vbl x0), (1, vbl x1)], []⟩) (by kernel_rfl) ⟨trivial, trivial⟩ ?_
    rcases ite_some h with ⟨h2, h⟩ | ⟨h2, h⟩
    ·refine WP.cond (b := decide (v5 < ((List.length x0 : Nat) : Int))) rfl (fun _ => ?_) (fun hh => by rw [h2] at hh; cases hh)
     refine WP.path tab_ok mixed [] [.keep [5, 4, 0, 1], .keepO []] (ps := []) (e := .normal) (σ' := ⟨[], [(5, vi v5), (4, vb false), (0, vbl x0), (1, vbl x1)], []⟩) (by kernel_rfl) trivial ?_
     refine WP.seq ?_
     refine WP.block ?_
     refine WP.seq ?_
     obtain ⟨c0, h⟩ := chk_some h
     obtain ⟨c1, h⟩ := chk_some h
     refine WP.path tab_ok mixed [(20, An.v (tb (List.getD x0 (Int.toNat v5) false))), (24, An.v (tb (List.getD x1 (Int.toNat v5) false)))] [.keep [25, 5, 4, 0, 1], .keepO []] (ps := [((0 ≤ v5 ∧ v5 < ((List.length x0 : Nat) : Int))), ((List.drop ((Int.toNat v5) * 1) (List.map T.bool x0) : List T)[0]? = some (tb (List.getD x0 (Int.toNat v5) false))), (tb (List.getD x0 (Int.toNat v5) false) = tb (List.getD x0 (Int.toNat v5) false)), ((0 ≤ v5 ∧ v5 < ((List.length x1 : Nat) : Int))), ((List.drop ((Int.toNat v5) * 1) (List.map T.bool x1) : List T)[0]? = some (tb (List.getD x1 (Int.toNat v5) false))), (tb (List.getD x1 (Int.toNat v5) false) = tb (List.getD x1 (Int.toNat v5) false)), (True)]) (e := .normal) (σ' := ⟨[], [(25, vb (!((List.getD x0 (Int.toNat v5) false) == (List.getD x1 (Int.toNat v5) false)))), (5, vi v5), (4, vb false), (0, vbl x0), (1, vbl x1)], []⟩) (by kernel_rfl) ⟨c0, at1 (by simp) (by omega), rfl, c1, at1 (by simp) (by omega), rfl, trivial, trivial⟩ ?_
     rcases ite_some h with ⟨h3, h⟩ | ⟨h3, h⟩
     ·refine WP.cond (b := !((List.getD x0 (Int.toNat v5) false) == (List.getD x1 (Int.toNat v5) false))) rfl (fun _ => ?_) (fun hh => by rw [h3] at hh; cases hh)
      have h := Option.some.inj h
      subst h
      exact WP.pathW tab_ok mixed [] _ (ps := []) (r := tb false) (by kernel_rfl) trivial (WkT.eq (y := tb false) (WkT.refl _) rfl) (fun _ h => h)
     ·refine WP.cond (b := !((List.getD x0 (Int.toNat v5) false) == (List.getD x1 (Int.toNat v5) false))) rfl (fun hh => by rw [h3] at hh; cases hh) (fun _ => ?_)
      refine WP.path tab_ok mixed [] [.keep [5, 4, 0, 1], .keepO []] (ps := []) (e := .normal) (σ' := ⟨[], [(5, vi v5), (4, vb false), (0, vbl x0), (1, vbl x1)], []⟩) (by kernel_rfl) trivial ?_
      obtain ⟨c2, h⟩ := chk_some h
      refine WP.path tab_ok mixed [(16, An.v (T.int .i64 (v5 + (1 : Int))))] [.keep [5, 4, 0, 1], .keepO [], .names []] (ps := [(True), (T.int .i64 (IntKind.wrap .i64 (v5 + (1 : Int))) = T.int .i64 (v5 + (1 : Int)))]) (e := .normal) (σ' := ⟨[], [(5, vi (v5 + (1 : Int))), (4, vb false), (0, vbl x0), (1, vbl x1)], []⟩) (by kernel_rfl) ⟨trivial, wrapI c2, trivial⟩ ?_
      exact ⟨(n, (v5 + (1 : Int))), h, Nat.lt_succ_self _, rfl⟩
    ·refine WP.cond (b := decide (v5 < ((List.length x0 : Nat) : Int))) rfl (fun hh => by rw [h2] at hh; cases hh) (fun _ => ?_)
     refine WP.path tab_ok mixed [] [.keep [4], .keepO [], .names []] (ps := []) (e := (.exit 0)) (σ' := ⟨[], [(4, vb false)], []⟩) (by kernel_rfl) trivial ?_
     exact ⟨(), h, rfl⟩
  ·intro _ h0
   have h := (show J1 () = some y0 from h0)
   rw [hJ1] at h
   have h := Option.some.inj h
   subst h
   exact WP.pathW tab_ok mixed [] _ (ps := []) (r := tb true) (by kernel_rfl) trivial (WkT.eq (y := tb true) (WkT.refl _) rfl) (fun _ h => h)
theorem F_spec_DrawLosingAnswers_W (x0 : List Int) (y0 : List Int) (y1 : Int) (y2 : List Int) (y3 : Int) (h : F_spec_DrawLosingAnswers x0 = some (y0, y1, y2, y3)) : CG Try.prog 55 [vy x0] [] (V.tup [V.agg [vo 9000 (List.length y0), vi y1], vo 9001 (List.length y2), vi y3]) [(9000, oc 3 (List.map (T.int .i64) y0)), (9001, oc 3 (List.map (T.int .i64) y2))] := by
 unfold F_spec_DrawLosingAnswers at h
 refine CG.intro (tab := tab) tab_ok (fn := Try.f55) Try.func55 (by kernel_rfl) rfl (Nat.le_of_ble_eq_true rfl) (by kernel_rfl) ?_
 refine WP.seq ?_
 refine WP.path tab_ok mixed [(2, An.id 2002)] [.keep [4, 3, 2, 0], .keepO [2002]] (ps := []) (e := .normal) (σ' := ⟨[2002], [(4, vi 0), (3, V.t (T.nils)), (2, V.ref 2002 0), (0, vy x0)], [(2002, oc 28 [T.nils, ti 0])]⟩) (by kernel_rfl) trivial ?_
 refine WP.seq ?_
 refine WP.path tab_ok mixed [(10, An.id 2010)] [.keep [5, 4, 3, 2], .keepO [2002, 2010]] (ps := [((1 = 1 ∧ 0 + 1 ≤ 3) ∧ True)]) (e := .normal) (σ' := ⟨[2010, 2002], [(5, V.ref 2010 0), (4, vi 0), (3, V.t (T.nils)), (2, V.ref 2002 0)], [(2002, oc 28 [T.nils, ti 0]), (2010, oc 93 [ty x0, ti 0, T.int .u64 0])]⟩) (by kernel_rfl) ⟨⟨⟨by first | rfl | (simp; done) | (simp []; done) | omega, by first | decide | (simp; done) | (simp []; done) | omega | (simp only [tlL]; omega) | (simp; omega)⟩, trivial⟩, trivial⟩ ?_
 refine WP.seq ?_
 obtain ⟨r13, r13b, r13c, r13d, r13e, r13g, c0, h⟩ := bnd6_some h
 refine WP.path tab_ok mixed [(13, An.callG [(500, 2010), (9000, 10130), (9001, 10131)] [V.ref 500 0] [(500, oc 93 [ty x0, ti 0, T.int .u64 0])] (V.tup [V.agg [vo 9000 (List.length r13), vi r13b], vo 9001 (List.length r13c)]) [(500, oc 93 [ty r13d, ti r13e, T.int .u64 r13g]), (9000, oc 3 (List.map (T.int .i64) r13)), (9001, oc 3 (List.map (T.int .i64) r13c))]), (6, An.id 2006)] [.keep [7, 6, 5, 4, 3, 2], .keepO [2002, 2006, 2010, 10130, 10131]] (ps := [(CG Try.prog 93 [V.ref 500 0] [(500, oc 93 [ty x0, ti 0, T.int .u64 0])] (V.tup [V.agg [vo 9000 (List.length r13), vi r13b], vo 9001 (List.length r13c)]) [(500, oc 93 [ty r13d, ti r13e, T.int .u64 r13g]), (9000, oc 3 (List.map (T.int .i64) r13)), (9001, oc 3 (List.map (T.int .i64) r13c))]), ((V.ref 500 0).ren (renF [(500, 2010), (9000, 10130), (9001, 10131)]) = V.ref 2010 0), ((oc 93 [ty x0, ti 0, T.int .u64 0]) = (oc 93 [ty x0, ti 0, T.int .u64 0]).ren (renF [(500, 2010), (9000, 10130), (9001, 10131)])), ((0 + 2 ≤ 2 ∧ 2 = 2))]) (e := .normal) (σ' := ⟨[2006, 10130, 10131, 2010, 2002], [(7, vo 10131 (List.length r13c)), (6, V.ref 2006 0), (5, V.ref 2010 0), (4, vi 0), (3, V.t (T.nils)), (2, V.ref 2002 0)], [(2002, oc 28 [T.nils, ti 0]), (2006, ov 28 [vo 10130 (List.length r13), vi r13b]), (2010, oc 93 [ty r13d, ti r13e, T.int .u64 r13g]), (10130, oc 3 (List.map (T.int .i64) r13)), (10131, oc 3 (List.map (T.int .i64) r13c))]⟩) (by kernel_rfl) ⟨(F_p_spec_l1Cur_race_W x0 (0 : Int) (0 : Int) r13 r13b r13c r13d r13e r13g c0), by first | rfl | (simp [V.ren, V.renL, renF, lk]; done) | (simp [V.ren, V.renL, renF, lk]; omega), rfl, by decide, trivial⟩ ?_
 refine WP.seq ?_
 obtain ⟨J1, hJ1, h⟩ := jn_some h
 refine WP.joinA (fun (zz : (List Int) × Int × Int × Bool) => ⟨[2002, 2006, 2010, 10130, 10131], [(23, vb zz.2.2.2), (7, vo 10131 (List.length r13c)), (6, V.ref 2006 0), (5, V.ref 2010 0), (4, vi 0), (3, V.t (T.nils)), (2, V.ref 2002 0)], [(2002, oc 28 [T.nils, ti 0]), (2006, ov 28 [vo 10130 (List.length r13), vi r13b]), (2010, oc 93 [ty zz.1, ti zz.2.1, T.int .u64 zz.2.2.1]), (10130, oc 3 (List.map (T.int .i64) r13)), (10131, oc 3 (List.map (T.int .i64) r13c))]⟩) (fun zz => J1 zz.1 zz.2.1 zz.2.2.1 zz.2.2.2 = some (y0, y1, y2, y3)) ?_ ?_
 ·rcases ite_some h with ⟨h1, h⟩ | ⟨h1, h⟩
  ·obtain ⟨r21, r21b, r21c, r21d, c1, h⟩ := bnd4_some h
   refine WP.path tab_ok mixed [(18, An.b true), (21, An.callG [(500, 2010)] [V.ref 500 0, vi 8] [(500, oc 93 [ty r13d, ti r13e, T.int .u64 r13g])] (vb r21) [(500, oc 93 [ty r21b, ti r21c, T.int .u64 r21d])])] [.keep [23, 7, 6, 5, 4, 3, 2], .keepO [2002, 2006, 2010, 10130, 10131], .names [(2002, 2002), (2006, 2006), (2010, 2010), (10130, 10130), (10131, 10131)]] (ps := [(True), ((decide (((List.length r13c : Nat) : Int) > (0 : Int))) = true), (CG Try.prog 94 [V.ref 500 0, vi 8] [(500, oc 93 [ty r13d, ti r13e, T.int .u64 r13g])] (vb r21) [(500, oc 93 [ty r21b, ti r21c, T.int .u64 r21d])]), ((V.ref 500 0).ren (renF [(500, 2010)]) = V.ref 2010 0), (WkT (ti 8) (ti 8)), ((oc 93 [ty r13d, ti r13e, T.int .u64 r13g]) = (oc 93 [ty r13d, ti r13e, T.int .u64 r13g]).ren (renF [(500, 2010)]))]) (e := .normal) (σ' := ⟨[2002, 2006, 2010, 10130, 10131], [(23, vb !r21), (7, vo 10131 (List.length r13c)), (6, V.ref 2006 0), (5, V.ref 2010 0), (4, vi 0), (3, V.t (T.nils)), (2, V.ref 2002 0)], [(2002, oc 28 [T.nils, ti 0]), (2006, ov 28 [vo 10130 (List.length r13), vi r13b]), (2010, oc 93 [ty r21b, ti r21c, T.int .u64 r21d]), (10130, oc 3 (List.map (T.int .i64) r13)), (10131, oc 3 (List.map (T.int .i64) r13c))]⟩) (by kernel_rfl) ⟨trivial, h1, (F_p_spec_l1Cur_one_W r13d r13e r13g (8 : Int) r21 r21b r21c r21d c1), by first | rfl | (simp [V.ren, V.renL, renF, lk]; done) | (simp [V.ren, V.renL, renF, lk]; omega), WkT.refl _, rfl, trivial⟩ ?_
   exact ⟨(r21b, r21c, r21d, !r21), h, rfl⟩
  ·refine WP.path tab_ok mixed [(18, An.b false)] [.keep [23, 7, 6, 5, 4, 3, 2], .keepO [2002, 2006, 2010, 10130, 10131], .names [(2002, 2002), (2006, 2006), (2010, 2010), (10130, 10130), (10131, 10131)]] (ps := [(True), ((decide (((List.length r13c : Nat) : Int) > (0 : Int))) = false)]) (e := .normal) (σ' := ⟨[2002, 2006, 2010, 10130, 10131], [(23, vb false), (7, vo 10131 (List.length r13c)), (6, V.ref 2006 0), (5, V.ref 2010 0), (4, vi 0), (3, V.t (T.nils)), (2, V.ref 2002 0)], [(2002, oc 28 [T.nils, ti 0]), (2006, ov 28 [vo 10130 (List.length r13), vi r13b]), (2010, oc 93 [ty r13d, ti r13e, T.int .u64 r13g]), (10130, oc 3 (List.map (T.int .i64) r13)), (10131, oc 3 (List.map (T.int .i64) r13c))]⟩) (by kernel_rfl) ⟨trivial, h1, trivial⟩ ?_
   exact ⟨(r13d, r13e, r13g, false), h, rfl⟩
 ·rintro ⟨o10, o10b, o10c, v23⟩ h0
  have h := (show J1 o10 o10b o10c v23 = some (y0, y1, y2, y3) from h0)
  rw [hJ1] at h
  rcases ite_some h with ⟨h2, h⟩ | ⟨h2, h⟩
  ·refine WP.cond (b := v23) rfl (fun _ => ?_) (fun hh => by rw [h2] at hh; cases hh)
   obtain ⟨r30, r30b, r30c, r30d, c1, h⟩ := bnd4_some h
   obtain ⟨c2, h⟩ := chk_some h
   simp only [Option.some.injEq, Prod.mk.injEq] at h
   obtain ⟨rfl, rfl, rfl, rfl⟩ := h
   exact WP.pathG tab_ok mixed [(30, An.callG [(500, 2010)] [V.ref 500 0, vi ((List.length r13c : Nat) : Int)] [(500, oc 93 [ty o10, ti o10b, T.int .u64 o10c])] (vi r30) [(500, oc 93 [ty r30b, ti r30c, T.int .u64 r30d])]), (32, An.v (ti (List.getD r13c (Int.toNat r30) 0)))] [.keep [2, 3, 4], .keepO [10130, 10131, 2002], .names [(10130, 9000), (10131, 9001), (2002, 2002)]] [9000, 9001] _ (r' := V.tup [V.agg [vo 9000 (List.length r13), vi r13b], vo 9001 (List.length r13c), vi (List.getD r13c (Int.toNat r30) 0)]) (ps := [(0 + 2 ≤ 2), (CG Try.prog 95 [V.ref 500 0, vi ((List.length r13c : Nat) : Int)] [(500, oc 93 [ty o10, ti o10b, T.int .u64 o10c])] (vi r30) [(500, oc 93 [ty r30b, ti r30c, T.int .u64 r30d])]), ((V.ref 500 0).ren (renF [(500, 2010)]) = V.ref 2010 0), (WkT (ti ((List.length r13c : Nat) : Int)) (ti ((List.length r13c : Nat) : Int))), ((oc 93 [ty o10, ti o10b, T.int .u64 o10c]) = (oc 93 [ty o10, ti o10b, T.int .u64 o10c]).ren (renF [(500, 2010)])), ((0 ≤ r30 ∧ r30 < ((List.length r13c : Nat) : Int))), ((List.map (T.int .i64) r13c : List T)[(Int.toNat r30) * 1]? = some (ti (List.getD r13c (Int.toNat r30) 0))), (ti (List.getD r13c (Int.toNat r30) 0) = ti (List.getD r13c (Int.toNat r30) 0)), ((0 + 2 ≤ 2 ∧ 2 = 2)), (0 + 2 ≤ 2)]) (r := V.tup [V.agg [vo 9000 (List.length r13), vi r13b], vo 9001 (List.length r13c), vi (List.getD r13c (Int.toNat r30) 0)]) (N := [9000, 9001, 2002]) (O := [(9000, oc 3 (List.map (T.int .i64) r13)), (9001, oc 3 (List.map (T.int .i64) r13c))]) [] (by kernel_rfl) ⟨by decide, (F_p_spec_l1Cur_pick_W o10 o10b o10c ((List.length r13c : Nat) : Int) r30 r30b r30c r30d c1), by first | rfl | (simp [V.ren, V.renL, renF, lk]; done) | (simp [V.ren, V.renL, renF, lk]; omega), WkT.refl _, rfl, c2, atM (by simp) (by first | omega | (simp only [tlL]; omega) | (simp; omega)), rfl, by decide, by decide, trivial⟩ ⟨rfl, (WkT.refl _), rfl, (WkT.refl _), trivial⟩ rfl rfl (fun _ h => h)
  ·refine WP.cond (b := v23) rfl (fun hh => by rw [h2] at hh; cases hh) (fun _ => ?_)
   refine WP.path tab_ok mixed [] [.keep [7, 6, 5, 4, 3, 2], .keepO [2002, 2006, 2010, 10130, 10131]] (ps := []) (e := .normal) (σ' := ⟨[2002, 2006, 2010, 10130, 10131], [(7, vo 10131 (List.length r13c)), (6, V.ref 2006 0), (5, V.ref 2010 0), (4, vi 0), (3, V.t (T.nils)), (2, V.ref 2002 0)], [(2002, oc 28 [T.nils, ti 0]), (2006, ov 28 [vo 10130 (List.length r13), vi r13b]), (2010, oc 93 [ty o10, ti o10b, T.int .u64 o10c]), (10130, oc 3 (List.map (T.int .i64) r13)), (10131, oc 3 (List.map (T.int .i64) r13c))]⟩) (by kernel_rfl) trivial ?_
   obtain ⟨r39, r39b, r39c, r39d, c1, h⟩ := bnd4_some h
   simp only [Option.some.injEq, Prod.mk.injEq] at h
   obtain ⟨rfl, rfl, rfl, rfl⟩ := h
   exact WP.pathG tab_ok mixed [(39, An.callG [(500, 2010)] [V.ref 500 0, vi ((List.length r13 : Nat) : Int)] [(500, oc 93 [ty o10, ti o10b, T.int .u64 o10c])] (vi r39) [(500, oc 93 [ty r39b, ti r39c, T.int .u64 r39d])])] [.keep [2, 3, 4], .keepO [10130, 10131, 2002], .names [(10130, 9000), (10131, 9001), (2002, 2002)]] [9000, 9001] _ (r' := V.tup [V.agg [vo 9000 (List.length r13), vi r13b], vo 9001 (List.length r13c), vi r39]) (ps := [(0 + 2 ≤ 2), (True), (CG Try.prog 89 [V.ref 500 0, vi ((List.length r13 : Nat) : Int)] [(500, oc 93 [ty o10, ti o10b, T.int .u64 o10c])] (vi r39) [(500, oc 93 [ty r39b, ti r39c, T.int .u64 r39d])]), ((V.ref 500 0).ren (renF [(500, 2010)]) = V.ref 2010 0), (WkT (ti ((List.length r13 : Nat) : Int)) (ti ((List.length r13 : Nat) : Int))), ((oc 93 [ty o10, ti o10b, T.int .u64 o10c]) = (oc 93 [ty o10, ti o10b, T.int .u64 o10c]).ren (renF [(500, 2010)])), ((0 + 2 ≤ 2 ∧ 2 = 2)), (0 + 2 ≤ 2)]) (r := V.tup [V.agg [vo 9000 (List.length r13), vi r13b], vo 9001 (List.length r13c), vi r39]) (N := [9000, 9001, 2002]) (O := [(9000, oc 3 (List.map (T.int .i64) r13)), (9001, oc 3 (List.map (T.int .i64) r13c))]) [] (by kernel_rfl) ⟨by decide, trivial, (F_p_spec_l1Cur_question_W o10 o10b o10c ((List.length r13 : Nat) : Int) r39 r39b r39c r39d c1), by first | rfl | (simp [V.ren, V.renL, renF, lk]; done) | (simp [V.ren, V.renL, renF, lk]; omega), WkT.refl _, rfl, by decide, by decide, trivial⟩ ⟨rfl, (WkT.refl _), rfl, (WkT.refl _), trivial⟩ rfl rfl (fun _ h => h)
theorem F_spec_DrawLosingAnswers_W_C (x0 : List Int) (y0 : List Int) (y1 : Int) (y2 : List Int) (y3 : Int) (h : F_spec_DrawLosingAnswers x0 = some (y0, y1, y2, y3)) : C Try.prog 55 [ty x0] (T.tup [T.agg [tl y0, ti y1], tl y2, ti y3]) :=
 CG.toC (ps := [(List.length (List.map (T.int .i64) y0) = (List.length y0) * 1), (List.length (List.map (T.int .i64) y2) = (List.length y2) * 1)]) (F_spec_DrawLosingAnswers_W  x0 y0 y1 y2 y3 h) (by rfl) ⟨by first | rfl | omega | (simp <;> omega) | (simp [hl] <;> omega), by first | rfl | omega | (simp <;> omega) | (simp [hl] <;> omega), trivial⟩
theorem F_impl_CanAnswer_W (x0 : List Int) (x1 : Int) (x2 : Int) (x3 : Bool) (y0 : Bool) (y1 : Bool) (h : F_impl_CanAnswer x0 x1 x2 x3 = some (y0, y1)) : C Try.prog 57 [T.agg [tl x0, ti x1], T.agg [ti x2, tb x3]] (T.tup [tb y0, tb y1]) := by
 unfold F_impl_CanAnswer at h
 refine C.intro (tab := tab) tab_ok (fn := Try.f57) Try.func57 (by kernel_rfl) rfl (Nat.le_of_ble_eq_true rfl) ?_
 obtain ⟨c0, h⟩ := chk_some h
 obtain ⟨c1, h⟩ := chk_some h
 simp only [Option.some.injEq, Prod.mk.injEq] at h
 obtain ⟨rfl, rfl⟩ := h
 exact WP.pathW tab_ok mixed [(2, An.fz), (3, An.fz), (11, An.callG [(9000, 10110)] [V.t (T.agg [tl x0, ti x1]), V.t (T.agg [ti x2, tb x3])] [] (V.tup [V.agg [vo 9000 (List.length (asL x0 x1 x2 x3)), vi (asM x0 x1 x2 x3)], vb (asB x0 x1 x2)]) [(9000, oc 3 (List.map (T.int .i64) (asL x0 x1 x2 x3)))]), (6, An.id 2006), (15, An.callG [(9000, 10150)] [V.t (T.agg [tl (asL x0 x1 x2 x3), ti (asM x0 x1 x2 x3)])] [] (vo 9000 (List.length (openN (asL x0 x1 x2 x3)))) [(9000, oc 3 (List.map (T.int .i64) (openN (asL x0 x1 x2 x3))))])] _ (ps := [(2 ≤ 2), (2 ≤ 2), (CG Try.prog 56 [V.t (T.agg [tl x0, ti x1]), V.t (T.agg [ti x2, tb x3])] [] (V.tup [V.agg [vo 9000 (List.length (asL x0 x1 x2 x3)), vi (asM x0 x1 x2 x3)], vb (asB x0 x1 x2)]) [(9000, oc 3 (List.map (T.int .i64) (asL x0 x1 x2 x3)))]), (WkT (T.agg [tl x0, ti x1]) (T.agg [tl x0, ti x1])), (WkT (T.agg [ti x2, tb x3]) (T.agg [ti x2, tb x3])), ((0 + 2 ≤ 2 ∧ 2 = 2)), (0 + 2 ≤ 2), (CG Try.prog 79 [V.t (T.agg [tl (asL x0 x1 x2 x3), ti (asM x0 x1 x2 x3)])] [] (vo 9000 (List.length (openN (asL x0 x1 x2 x3)))) [(9000, oc 3 (List.map (T.int .i64) (openN (asL x0 x1 x2 x3))))]), ((vo 9000 (List.length (openN (asL x0 x1 x2 x3)))).flat = true), (flatO [(9000, oc 3 (List.map (T.int .i64) (openN (asL x0 x1 x2 x3))))] = true), (List.length (List.map (T.int .i64) (asL x0 x1 x2 x3)) = (List.length (asL x0 x1 x2 x3)) * 1), (WkT (T.agg [tl (asL x0 x1 x2 x3), ti (asM x0 x1 x2 x3)]) (T.agg [tl (asL x0 x1 x2 x3), ti (asM x0 x1 x2 x3)])), (True)]) (r := T.tup [tb (decide (((List.length (openN (asL x0 x1 x2 x3)) : Nat) : Int) > (0 : Int))), tb (asB x0 x1 x2)]) (by kernel_rfl) ⟨by decide, by decide, (iAnswerState_C_G x0 x1 x2 x3 c0), WkT.refl _, WkT.refl _, by decide, by decide, (open_C_G (asL x0 x1 x2 x3) (asM x0 x1 x2 x3) c1), by rfl, by first | rfl | (simp [flatO, Tl.Obj.flat, V.flats, V.flat, T.flats, T.flat, flats_app, flats_int, flats_bool, flats_str, flats_node, flats_asked]; done), by first | rfl | omega | (simp only [tlL] <;> omega) | (simp <;> omega) | (simp [] <;> omega), WkT.refl _, trivial, trivial⟩ (WkT.eq (y := T.tup [tb (decide (((List.length (openN (asL x0 x1 x2 x3)) : Nat) : Int) > (0 : Int))), tb (asB x0 x1 x2)]) (WkT.refl _) rfl) (fun _ h => h)
theorem F_impl_OpenNumbers_W (x0 : List Int) (x1 : Int) (y0 : List Int) (y1 : Bool) (h : F_impl_OpenNumbers x0 x1 = some (y0, y1)) : CG Try.prog 58 [V.t (T.agg [tl x0, ti x1])] [] (V.tup [vo 9000 (List.length y0), vb y1]) [(9000, oc 3 (List.map (T.int .i64) y0))] := by
 unfold F_impl_OpenNumbers at h
 refine CG.intro (tab := tab) tab_ok (fn := Try.f58) Try.func58 (by kernel_rfl) rfl (Nat.le_of_ble_eq_true rfl) (by kernel_rfl) ?_
 refine WP.seq ?_
 refine WP.path tab_ok mixed [(1, An.fz)] [.keep [3, 2, 1], .keepO []] (ps := []) (e := .normal) (σ' := ⟨[], [(3, vb false), (2, V.t (T.nils)), (1, V.t (T.ptr [tl x0, ti x1]))], []⟩) (by kernel_rfl) trivial ?_
 refine WP.seq ?_
 refine WP.seq ?_
 obtain ⟨c0, h⟩ := chk_some h
 refine WP.path tab_ok mixed [(5, An.call (tb (isStateN x0 x1)))] [.keep [6, 3, 2, 1], .keepO []] (ps := [(2 ≤ 2), (C Try.prog 82 [T.agg [tl x0, ti x1]] (tb (isStateN x0 x1)))]) (e := .normal) (σ' := ⟨[], [(6, vb (!(isStateN x0 x1))), (3, vb false), (2, V.t (T.nils)), (1, V.t (T.ptr [tl x0, ti x1]))], []⟩) (by kernel_rfl) ⟨by decide, (isState_C x0 x1 c0), trivial⟩ ?_
 rcases ite_some h with ⟨h1, h⟩ | ⟨h1, h⟩
 ·refine WP.cond (b := !(isStateN x0 x1)) rfl (fun _ => ?_) (fun hh => by rw [h1] at hh; cases hh)
  simp only [Option.some.injEq, Prod.mk.injEq] at h
  obtain ⟨rfl, rfl⟩ := h
  exact WP.pathG tab_ok mixed [] [.keep [2, 3], .keepO [], .names []] [] _ (r' := V.tup [vo 9000 (List.length ([] : List Int)), vb false]) (ps := []) (r := V.t (T.tup [T.nils, tb false])) (N := []) (O := []) [(9000, 3)] (by kernel_rfl) trivial ⟨(by first | rfl | (simp; done)), (WkT.refl _), trivial⟩ rfl rfl (fun _ h => h)
 ·refine WP.cond (b := !(isStateN x0 x1)) rfl (fun hh => by rw [h1] at hh; cases hh) (fun _ => ?_)
  refine WP.path tab_ok mixed [] [.keep [3, 2, 1], .keepO []] (ps := []) (e := .normal) (σ' := ⟨[], [(3, vb false), (2, V.t (T.nils)), (1, V.t (T.ptr [tl x0, ti x1]))], []⟩) (by kernel_rfl) trivial ?_
  obtain ⟨c1, h⟩ := chk_some h
  simp only [Option.some.injEq, Prod.mk.injEq] at h
  obtain ⟨rfl, rfl⟩ := h
  exact WP.pathG tab_ok mixed [(8, An.callG [(9000, 10080)] [V.t (T.agg [tl x0, ti x1])] [] (vo 9000 (List.length (openN x0))) [(9000, oc 3 (List.map (T.int .i64) (openN x0)))])] [.keep [2, 3], .keepO [10080], .names [(10080, 9000)]] [9000] _ (r' := V.tup [vo 9000 (List.length (openN x0)), vb true]) (ps := [(2 ≤ 2), (CG Try.prog 79 [V.t (T.agg [tl x0, ti x1])] [] (vo 9000 (List.length (openN x0))) [(9000, oc 3 (List.map (T.int .i64) (openN x0)))]), (WkT (T.agg [tl x0, ti x1]) (T.agg [tl x0, ti x1]))]) (r := V.tup [vo 9000 (List.length (openN x0)), vb true]) (N := [9000]) (O := [(9000, oc 3 (List.map (T.int .i64) (openN x0)))]) [] (by kernel_rfl) ⟨by decide, (open_C_G x0 x1 c1), WkT.refl _, trivial⟩ ⟨rfl, (WkT.refl _), trivial⟩ rfl rfl (fun _ h => h)
theorem F_impl_OpenNumbers_W_C (x0 : List Int) (x1 : Int) (y0 : List Int) (y1 : Bool) (h : F_impl_OpenNumbers x0 x1 = some (y0, y1)) : C Try.prog 58 [T.agg [tl x0, ti x1]] (T.tup [tl y0, tb y1]) :=
 CG.toC (ps := [(List.length (List.map (T.int .i64) y0) = (List.length y0) * 1)]) (F_impl_OpenNumbers_W  x0 x1 y0 y1 h) (by rfl) ⟨by first | rfl | omega | (simp <;> omega) | (simp [hl] <;> omega), trivial⟩
theorem F_laws_FnRacePlays_W (x0 : List Int) (y0 : Bool) (h : F_laws_FnRacePlays x0 = some y0) : C Try.prog 11 [ty x0] (tb y0) := by
 unfold F_laws_FnRacePlays at h
 refine C.intro (tab := tab) tab_ok (fn := Try.f11) Try.func11 (by kernel_rfl) rfl (Nat.le_of_ble_eq_true rfl) ?_
 refine WP.seq ?_
 refine WP.path tab_ok mixed [] [.keep [2, 0], .keepO []] (ps := []) (e := .normal) (σ' := ⟨[], [(2, vb false), (0, vy x0)], []⟩) (by kernel_rfl) trivial ?_
 refine WP.seq ?_
 refine WP.seq ?_
 obtain ⟨c0, h⟩ := chk_some h
 refine WP.path tab_ok mixed [(47, An.call (tb (decide (((List.length x0 : Nat) : Int) > (65536 : Int)))))] [.keep [47, 2, 0], .keepO []] (ps := [(C Try.prog 40 [ty x0] (tb (decide (((List.length x0 : Nat) : Int) > (65536 : Int)))))]) (e := .normal) (σ' := ⟨[], [(47, vb (decide (((List.length x0 : Nat) : Int) > (65536 : Int)))), (2, vb false), (0, vy x0)], []⟩) (by kernel_rfl) ⟨(rBig_C x0 c0), trivial⟩ ?_
 rcases ite_some h with ⟨h1, h⟩ | ⟨h1, h⟩
 ·refine WP.cond (b := decide (((List.length x0 : Nat) : Int) > (65536 : Int))) rfl (fun _ => ?_) (fun hh => by rw [h1] at hh; cases hh)
  have h := Option.some.inj h
  subst h
  exact WP.pathW tab_ok mixed [] _ (ps := []) (r := tb true) (by kernel_rfl) trivial (WkT.eq (y := tb true) (WkT.refl _) rfl) (fun _ h => h)
 ·refine WP.cond (b := decide (((List.length x0 : Nat) : Int) > (65536 : Int))) rfl (fun hh => by rw [h1] at hh; cases hh) (fun _ => ?_)
  refine WP.path tab_ok mixed [] [.keep [2, 0], .keepO []] (ps := []) (e := .normal) (σ' := ⟨[], [(2, vb false), (0, vy x0)], []⟩) (by kernel_rfl) trivial ?_
  refine WP.seq ?_
  obtain ⟨r50, r50b, r50c, c1, h⟩ := bnd3_some h
  refine WP.path tab_ok mixed [(50, An.call (T.tup [T.agg [tl r50, ti r50b], tl r50c])), (3, An.id 2003)] [.keep [4, 3, 2, 0], .keepO [2003]] (ps := [(C Try.prog 49 [ty x0] (T.tup [T.agg [tl r50, ti r50b], tl r50c])), ((0 + 2 ≤ 2 ∧ 2 = 2))]) (e := .normal) (σ' := ⟨[2003], [(4, vl r50c), (3, V.ref 2003 0), (2, vb false), (0, vy x0)], [(2003, oc 28 [tl r50, ti r50b])]⟩) (by kernel_rfl) ⟨(F_spec_DrawPlayRace_W_C x0 r50 r50b r50c c1), by decide, trivial⟩ ?_
  refine WP.seq ?_
  obtain ⟨r56, r56b, r56c, c2, h⟩ := bnd3_some h
  refine WP.path tab_ok mixed [(56, An.call (T.tup [T.list (List.length r56) 2 (List.flatMap askedC r56), ti r56b, tb r56c]))] [.keep [7, 6, 5, 4, 3, 2, 0], .keepO [2003]] (ps := [(0 + 2 ≤ 2), (C Try.prog 36 [T.agg [tl r50, ti r50b], tl r50c] (T.tup [T.list (List.length r56) 2 (List.flatMap askedC r56), ti r56b, tb r56c]))]) (e := .normal) (σ' := ⟨[2003], [(7, vb r56c), (6, vi r56b), (5, V.t (T.list (List.length r56) 2 (List.flatMap askedC r56))), (4, vl r50c), (3, V.ref 2003 0), (2, vb false), (0, vy x0)], [(2003, oc 28 [tl r50, ti r50b])]⟩) (by kernel_rfl) ⟨by decide, (F_impl_PlayRace_W_C r50 r50b r50c r56 r56b r56c c2), trivial⟩ ?_
  refine WP.seq ?_
  refine WP.seq ?_
  obtain ⟨r63, r63b, r63c, c3, h⟩ := bnd3_some h
  refine WP.path tab_ok mixed [(63, An.call (T.tup [T.list (List.length r63) 2 (List.flatMap askedC r63), ti r63b, tb r63c]))] [.keep [10, 9, 8, 7, 6, 5, 4, 3, 2, 0], .keepO [2003]] (ps := [(0 + 2 ≤ 2), (C Try.prog 35 [T.agg [tl r50, ti r50b], tl r50c] (T.tup [T.list (List.length r63) 2 (List.flatMap askedC r63), ti r63b, tb r63c]))]) (e := .normal) (σ' := ⟨[2003], [(10, vb r63c), (9, vi r63b), (8, V.t (T.list (List.length r63) 2 (List.flatMap askedC r63))), (7, vb r56c), (6, vi r56b), (5, V.t (T.list (List.length r56) 2 (List.flatMap askedC r56))), (4, vl r50c), (3, V.ref 2003 0), (2, vb false), (0, vy x0)], [(2003, oc 28 [tl r50, ti r50b])]⟩) (by kernel_rfl) ⟨by decide, (F_spec_PlayRace_W_C r50 r50b r50c r63 r63b r63c c3), trivial⟩ ?_
  obtain ⟨J1, hJ1, h⟩ := jn_some h
  refine WP.joinA (fun (zz : Bool) => ⟨[2003], [(80, vb zz), (7, vb r56c), (6, vi r56b), (5, V.t (T.list (List.length r56) 2 (List.flatMap askedC r56))), (4, vl r50c), (3, V.ref 2003 0), (2, vb false), (0, vy x0)], [(2003, oc 28 [tl r50, ti r50b])]⟩) (fun zz => J1 zz = some y0) ?_ ?_
  ·rcases ite_some h with ⟨h2, h⟩ | ⟨h2, h⟩
   ·refine WP.path tab_ok mixed [(69, An.b true)] [.keep [80, 7, 6, 5, 4, 3, 2, 0], .keepO [2003], .names [(2003, 2003)]] (ps := [(True), ((r56b != r63b) = true)]) (e := .normal) (σ' := ⟨[2003], [(80, vb true), (7, vb r56c), (6, vi r56b), (5, V.t (T.list (List.length r56) 2 (List.flatMap askedC r56))), (4, vl r50c), (3, V.ref 2003 0), (2, vb false), (0, vy x0)], [(2003, oc 28 [tl r50, ti r50b])]⟩) (by kernel_rfl) ⟨trivial, h2, trivial⟩ ?_
    exact ⟨(true), h, rfl⟩
   ·rcases ite_some h with ⟨h3, h⟩ | ⟨h3, h⟩
    ·refine WP.path tab_ok mixed [(69, An.b false), (73, An.b true)] [.keep [80, 7, 6, 5, 4, 3, 2, 0], .keepO [2003], .names [(2003, 2003)]] (ps := [(True), ((r56b != r63b) = false), (True), ((!(r56c == r63c)) = true)]) (e := .normal) (σ' := ⟨[2003], [(80, vb true), (7, vb r56c), (6, vi r56b), (5, V.t (T.list (List.length r56) 2 (List.flatMap askedC r56))), (4, vl r50c), (3, V.ref 2003 0), (2, vb false), (0, vy x0)], [(2003, oc 28 [tl r50, ti r50b])]⟩) (by kernel_rfl) ⟨trivial, h2, trivial, h3, trivial⟩ ?_
     exact ⟨(true), h, rfl⟩
    ·obtain ⟨r78, c4, h⟩ := bnd1_some h
     refine WP.path tab_ok mixed [(69, An.b false), (73, An.b false), (78, An.call (tb r78))] [.keep [80, 7, 6, 5, 4, 3, 2, 0], .keepO [2003], .names [(2003, 2003)]] (ps := [(True), ((r56b != r63b) = false), (True), ((!(r56c == r63c)) = false), (C Try.prog 50 [T.list (List.length r56) 2 (List.flatMap askedC r56), T.list (List.length r63) 2 (List.flatMap askedC r63)] (tb r78))]) (e := .normal) (σ' := ⟨[2003], [(80, vb !r78), (7, vb r56c), (6, vi r56b), (5, V.t (T.list (List.length r56) 2 (List.flatMap askedC r56))), (4, vl r50c), (3, V.ref 2003 0), (2, vb false), (0, vy x0)], [(2003, oc 28 [tl r50, ti r50b])]⟩) (by kernel_rfl) ⟨trivial, h2, trivial, h3, (F_laws_rAsked_W r56 r63 r78 c4), trivial⟩ ?_
     exact ⟨(!r78), h, rfl⟩
  ·intro v80 h0
   have h := (show J1 v80 = some y0 from h0)
   rw [hJ1] at h
   rcases ite_some h with ⟨h4, h⟩ | ⟨h4, h⟩
   ·refine WP.cond (b := v80) rfl (fun _ => ?_) (fun hh => by rw [h4] at hh; cases hh)
    have h := Option.some.inj h
    subst h
    exact WP.pathW tab_ok mixed [] _ (ps := []) (r := tb false) (by kernel_rfl) trivial (WkT.eq (y := tb false) (WkT.refl _) rfl) (fun _ h => h)
   ·refine WP.cond (b := v80) rfl (fun hh => by rw [h4] at hh; cases hh) (fun _ => ?_)
    refine WP.path tab_ok mixed [] [.keep [7, 6, 5, 4, 3, 2, 0], .keepO [2003]] (ps := []) (e := .normal) (σ' := ⟨[2003], [(7, vb r56c), (6, vi r56b), (5, V.t (T.list (List.length r56) 2 (List.flatMap askedC r56))), (4, vl r50c), (3, V.ref 2003 0), (2, vb false), (0, vy x0)], [(2003, oc 28 [tl r50, ti r50b])]⟩) (by kernel_rfl) trivial ?_
    refine WP.seq ?_
    obtain ⟨r83, r83b, r83c, c4, h⟩ := bnd3_some h
    refine WP.path tab_ok mixed [(83, An.call (T.tup [T.agg [tl r83, ti r83b], ti r83c])), (11, An.id 2011)] [.keep [12, 11, 7, 6, 5, 4, 3, 2, 0], .keepO [2003, 2011]] (ps := [(C Try.prog 51 [ty x0] (T.tup [T.agg [tl r83, ti r83b], ti r83c])), ((0 + 2 ≤ 2 ∧ 2 = 2))]) (e := .normal) (σ' := ⟨[2011, 2003], [(12, vi r83c), (11, V.ref 2011 0), (7, vb r56c), (6, vi r56b), (5, V.t (T.list (List.length r56) 2 (List.flatMap askedC r56))), (4, vl r50c), (3, V.ref 2003 0), (2, vb false), (0, vy x0)], [(2003, oc 28 [tl r50, ti r50b]), (2011, oc 28 [tl r83, ti r83b])]⟩) (by kernel_rfl) ⟨(F_spec_DrawFairAnswers_W_C x0 r83 r83b r83c c4), by decide, trivial⟩ ?_
    refine WP.seq ?_
    obtain ⟨c5, h⟩ := chk_some h
    refine WP.path tab_ok mixed [(89, An.call (T.tup [tbl (faL r83 r83b r83c), tb (faB r83 r83b r83c)]))] [.keep [14, 13, 12, 11, 7, 6, 5, 4, 3, 2, 0], .keepO [2003, 2011]] (ps := [(0 + 2 ≤ 2), (C Try.prog 52 [T.agg [tl r83, ti r83b], ti r83c] (T.tup [tbl (faL r83 r83b r83c), tb (faB r83 r83b r83c)]))]) (e := .normal) (σ' := ⟨[2011, 2003], [(14, vb (faB r83 r83b r83c)), (13, vbl (faL r83 r83b r83c)), (12, vi r83c), (11, V.ref 2011 0), (7, vb r56c), (6, vi r56b), (5, V.t (T.list (List.length r56) 2 (List.flatMap askedC r56))), (4, vl r50c), (3, V.ref 2003 0), (2, vb false), (0, vy x0)], [(2003, oc 28 [tl r50, ti r50b]), (2011, oc 28 [tl r83, ti r83b])]⟩) (by kernel_rfl) ⟨by decide, (iFairAnswers_C r83 r83b r83c c5), trivial⟩ ?_
    refine WP.seq ?_
    refine WP.seq ?_
    refine WP.path tab_ok mixed [(95, An.call (T.tup [tbl (faL r83 r83b r83c), tb (faB r83 r83b r83c)]))] [.keep [16, 15, 14, 13, 12, 11, 7, 6, 5, 4, 3, 2, 0], .keepO [2003, 2011]] (ps := [(0 + 2 ≤ 2), (C Try.prog 53 [T.agg [tl r83, ti r83b], ti r83c] (T.tup [tbl (faL r83 r83b r83c), tb (faB r83 r83b r83c)]))]) (e := .normal) (σ' := ⟨[2011, 2003], [(16, vb (faB r83 r83b r83c)), (15, vbl (faL r83 r83b r83c)), (14, vb (faB r83 r83b r83c)), (13, vbl (faL r83 r83b r83c)), (12, vi r83c), (11, V.ref 2011 0), (7, vb r56c), (6, vi r56b), (5, V.t (T.list (List.length r56) 2 (List.flatMap askedC r56))), (4, vl r50c), (3, V.ref 2003 0), (2, vb false), (0, vy x0)], [(2003, oc 28 [tl r50, ti r50b]), (2011, oc 28 [tl r83, ti r83b])]⟩) (by kernel_rfl) ⟨by decide, (sFairAnswers_C r83 r83b r83c c5), trivial⟩ ?_
    obtain ⟨J1, hJ1, h⟩ := jn_some h
    refine WP.joinA (fun (zz : Bool) => ⟨[2003, 2011], [(114, vb zz), (14, vb (faB r83 r83b r83c)), (13, vbl (faL r83 r83b r83c)), (12, vi r83c), (11, V.ref 2011 0), (7, vb r56c), (6, vi r56b), (5, V.t (T.list (List.length r56) 2 (List.flatMap askedC r56))), (4, vl r50c), (3, V.ref 2003 0), (2, vb false), (0, vy x0)], [(2003, oc 28 [tl r50, ti r50b]), (2011, oc 28 [tl r83, ti r83b])]⟩) (fun zz => J1 zz = some y0) ?_ ?_
    ·obtain ⟨r104, c6, h⟩ := bnd1_some h
     rcases ite_some h with ⟨h5, h⟩ | ⟨h5, h⟩
     ·refine WP.path tab_ok mixed [(100, An.b false), (104, An.call (tb r104)), (107, An.b true)] [.keep [114, 14, 13, 12, 11, 7, 6, 5, 4, 3, 2, 0], .keepO [2003, 2011], .names [(2003, 2003), (2011, 2011)]] (ps := [(True), ((!((faB r83 r83b r83c) == (faB r83 r83b r83c))) = false), (C Try.prog 54 [tbl (faL r83 r83b r83c), tbl (faL r83 r83b r83c)] (tb r104)), ((!r104) = true)]) (e := .normal) (σ' := ⟨[2003, 2011], [(114, vb true), (14, vb (faB r83 r83b r83c)), (13, vbl (faL r83 r83b r83c)), (12, vi r83c), (11, V.ref 2011 0), (7, vb r56c), (6, vi r56b), (5, V.t (T.list (List.length r56) 2 (List.flatMap askedC r56))), (4, vl r50c), (3, V.ref 2003 0), (2, vb false), (0, vy x0)], [(2003, oc 28 [tl r50, ti r50b]), (2011, oc 28 [tl r83, ti r83b])]⟩) (by kernel_rfl) ⟨trivial, (by simp), (F_laws_rBools_W (faL r83 r83b r83c) (faL r83 r83b r83c) r104 c6), h5, trivial⟩ ?_
      exact ⟨(true), h, rfl⟩
     ·rcases ite_some h with ⟨h6, h⟩ | ⟨h6, h⟩
      ·refine WP.path tab_ok mixed [(100, An.b false), (104, An.call (tb r104)), (107, An.b false), (109, An.b true)] [.keep [114, 14, 13, 12, 11, 7, 6, 5, 4, 3, 2, 0], .keepO [2003, 2011], .names [(2003, 2003), (2011, 2011)]] (ps := [(True), ((!((faB r83 r83b r83c) == (faB r83 r83b r83c))) = false), (C Try.prog 54 [tbl (faL r83 r83b r83c), tbl (faL r83 r83b r83c)] (tb r104)), ((!r104) = false), ((faB r83 r83b r83c) = true), (True)]) (e := .normal) (σ' := ⟨[2003, 2011], [(114, vb (((List.length (faL r83 r83b r83c) : Nat) : Int) == (0 : Int))), (14, vb (faB r83 r83b r83c)), (13, vbl (faL r83 r83b r83c)), (12, vi r83c), (11, V.ref 2011 0), (7, vb r56c), (6, vi r56b), (5, V.t (T.list (List.length r56) 2 (List.flatMap askedC r56))), (4, vl r50c), (3, V.ref 2003 0), (2, vb false), (0, vy x0)], [(2003, oc 28 [tl r50, ti r50b]), (2011, oc 28 [tl r83, ti r83b])]⟩) (by kernel_rfl) ⟨trivial, (by simp), (F_laws_rBools_W (faL r83 r83b r83c) (faL r83 r83b r83c) r104 c6), h5, h6, trivial, trivial⟩ ?_
       exact ⟨(((List.length (faL r83 r83b r83c) : Nat) : Int) == (0 : Int)), h, rfl⟩
      ·refine WP.path tab_ok mixed [(100, An.b false), (104, An.call (tb r104)), (107, An.b false), (109, An.b false)] [.keep [114, 14, 13, 12, 11, 7, 6, 5, 4, 3, 2, 0], .keepO [2003, 2011], .names [(2003, 2003), (2011, 2011)]] (ps := [(True), ((!((faB r83 r83b r83c) == (faB r83 r83b r83c))) = false), (C Try.prog 54 [tbl (faL r83 r83b r83c), tbl (faL r83 r83b r83c)] (tb r104)), ((!r104) = false), ((faB r83 r83b r83c) = false)]) (e := .normal) (σ' := ⟨[2003, 2011], [(114, vb false), (14, vb (faB r83 r83b r83c)), (13, vbl (faL r83 r83b r83c)), (12, vi r83c), (11, V.ref 2011 0), (7, vb r56c), (6, vi r56b), (5, V.t (T.list (List.length r56) 2 (List.flatMap askedC r56))), (4, vl r50c), (3, V.ref 2003 0), (2, vb false), (0, vy x0)], [(2003, oc 28 [tl r50, ti r50b]), (2011, oc 28 [tl r83, ti r83b])]⟩) (by kernel_rfl) ⟨trivial, (by simp), (F_laws_rBools_W (faL r83 r83b r83c) (faL r83 r83b r83c) r104 c6), h5, h6, trivial⟩ ?_
       exact ⟨(false), h, rfl⟩
    ·intro v114 h0
     have h := (show J1 v114 = some y0 from h0)
     rw [hJ1] at h
     rcases ite_some h with ⟨h7, h⟩ | ⟨h7, h⟩
     ·refine WP.cond (b := v114) rfl (fun _ => ?_) (fun hh => by rw [h7] at hh; cases hh)
      have h := Option.some.inj h
      subst h
      exact WP.pathW tab_ok mixed [] _ (ps := []) (r := tb false) (by kernel_rfl) trivial (WkT.eq (y := tb false) (WkT.refl _) rfl) (fun _ h => h)
     ·refine WP.cond (b := v114) rfl (fun hh => by rw [h7] at hh; cases hh) (fun _ => ?_)
      refine WP.path tab_ok mixed [] [.keep [14, 13, 12, 11, 7, 6, 5, 4, 3, 2, 0], .keepO [2003, 2011]] (ps := []) (e := .normal) (σ' := ⟨[2003, 2011], [(14, vb (faB r83 r83b r83c)), (13, vbl (faL r83 r83b r83c)), (12, vi r83c), (11, V.ref 2011 0), (7, vb r56c), (6, vi r56b), (5, V.t (T.list (List.length r56) 2 (List.flatMap askedC r56))), (4, vl r50c), (3, V.ref 2003 0), (2, vb false), (0, vy x0)], [(2003, oc 28 [tl r50, ti r50b]), (2011, oc 28 [tl r83, ti r83b])]⟩) (by kernel_rfl) trivial ?_
      refine WP.seq ?_
      obtain ⟨r117, r117b, r117c, r117d, c6, h⟩ := bnd4_some h
      refine WP.path tab_ok mixed [(117, An.call (T.tup [T.agg [tl r117, ti r117b], tl r117c, ti r117d])), (17, An.id 2017)] [.keep [19, 18, 17, 14, 13, 12, 11, 7, 6, 5, 4, 3, 2], .keepO [2003, 2011, 2017]] (ps := [(C Try.prog 55 [ty x0] (T.tup [T.agg [tl r117, ti r117b], tl r117c, ti r117d])), ((0 + 2 ≤ 2 ∧ 2 = 2))]) (e := .normal) (σ' := ⟨[2017, 2003, 2011], [(19, vi r117d), (18, vl r117c), (17, V.ref 2017 0), (14, vb (faB r83 r83b r83c)), (13, vbl (faL r83 r83b r83c)), (12, vi r83c), (11, V.ref 2011 0), (7, vb r56c), (6, vi r56b), (5, V.t (T.list (List.length r56) 2 (List.flatMap askedC r56))), (4, vl r50c), (3, V.ref 2003 0), (2, vb false)], [(2003, oc 28 [tl r50, ti r50b]), (2011, oc 28 [tl r83, ti r83b]), (2017, oc 28 [tl r117, ti r117b])]⟩) (by kernel_rfl) ⟨(F_spec_DrawLosingAnswers_W_C x0 r117 r117b r117c r117d c6), by decide, trivial⟩ ?_
      refine WP.seq ?_
      obtain ⟨r125, r125b, c7, h⟩ := bnd2_some h
      refine WP.path tab_ok mixed [(125, An.call (T.tup [tbl r125, tb r125b]))] [.keep [21, 20, 19, 18, 17, 14, 13, 12, 11, 7, 6, 5, 4, 3, 2], .keepO [2003, 2011, 2017]] (ps := [(0 + 2 ≤ 2), (C Try.prog 31 [T.agg [tl r117, ti r117b], tl r117c, ti r117d] (T.tup [tbl r125, tb r125b]))]) (e := .normal) (σ' := ⟨[2017, 2003, 2011], [(21, vb r125b), (20, vbl r125), (19, vi r117d), (18, vl r117c), (17, V.ref 2017 0), (14, vb (faB r83 r83b r83c)), (13, vbl (faL r83 r83b r83c)), (12, vi r83c), (11, V.ref 2011 0), (7, vb r56c), (6, vi r56b), (5, V.t (T.list (List.length r56) 2 (List.flatMap askedC r56))), (4, vl r50c), (3, V.ref 2003 0), (2, vb false)], [(2003, oc 28 [tl r50, ti r50b]), (2011, oc 28 [tl r83, ti r83b]), (2017, oc 28 [tl r117, ti r117b])]⟩) (by kernel_rfl) ⟨by decide, (F_impl_LosingAnswers_W_C r117 r117b r117c r117d r125 r125b c7), trivial⟩ ?_
      refine WP.seq ?_
      refine WP.seq ?_
      obtain ⟨r132, r132b, c8, h⟩ := bnd2_some h
      refine WP.path tab_ok mixed [(132, An.call (T.tup [tbl r132, tb r132b]))] [.keep [23, 22, 21, 20, 19, 18, 17, 14, 13, 12, 11, 7, 6, 5, 4, 3, 2], .keepO [2003, 2011, 2017]] (ps := [(0 + 2 ≤ 2), (C Try.prog 30 [T.agg [tl r117, ti r117b], tl r117c, ti r117d] (T.tup [tbl r132, tb r132b]))]) (e := .normal) (σ' := ⟨[2017, 2003, 2011], [(23, vb r132b), (22, vbl r132), (21, vb r125b), (20, vbl r125), (19, vi r117d), (18, vl r117c), (17, V.ref 2017 0), (14, vb (faB r83 r83b r83c)), (13, vbl (faL r83 r83b r83c)), (12, vi r83c), (11, V.ref 2011 0), (7, vb r56c), (6, vi r56b), (5, V.t (T.list (List.length r56) 2 (List.flatMap askedC r56))), (4, vl r50c), (3, V.ref 2003 0), (2, vb false)], [(2003, oc 28 [tl r50, ti r50b]), (2011, oc 28 [tl r83, ti r83b]), (2017, oc 28 [tl r117, ti r117b])]⟩) (by kernel_rfl) ⟨by decide, (F_spec_LosingAnswers_W_C r117 r117b r117c r117d r132 r132b c8), trivial⟩ ?_
      obtain ⟨J1, hJ1, h⟩ := jn_some h
      refine WP.joinA (fun (zz : Bool) => ⟨[2003, 2011, 2017], [(143, vb zz), (21, vb r125b), (20, vbl r125), (19, vi r117d), (18, vl r117c), (17, V.ref 2017 0), (14, vb (faB r83 r83b r83c)), (13, vbl (faL r83 r83b r83c)), (12, vi r83c), (11, V.ref 2011 0), (7, vb r56c), (6, vi r56b), (5, V.t (T.list (List.length r56) 2 (List.flatMap askedC r56))), (4, vl r50c), (3, V.ref 2003 0), (2, vb false)], [(2003, oc 28 [tl r50, ti r50b]), (2011, oc 28 [tl r83, ti r83b]), (2017, oc 28 [tl r117, ti r117b])]⟩) (fun zz => J1 zz = some y0) ?_ ?_
      ·rcases ite_some h with ⟨h8, h⟩ | ⟨h8, h⟩
       ·refine WP.path tab_ok mixed [(137, An.b true)] [.keep [143, 21, 20, 19, 18, 17, 14, 13, 12, 11, 7, 6, 5, 4, 3, 2], .keepO [2003, 2011, 2017], .names [(2003, 2003), (2011, 2011), (2017, 2017)]] (ps := [(True), ((!(r125b == r132b)) = true)]) (e := .normal) (σ' := ⟨[2003, 2011, 2017], [(143, vb true), (21, vb r125b), (20, vbl r125), (19, vi r117d), (18, vl r117c), (17, V.ref 2017 0), (14, vb (faB r83 r83b r83c)), (13, vbl (faL r83 r83b r83c)), (12, vi r83c), (11, V.ref 2011 0), (7, vb r56c), (6, vi r56b), (5, V.t (T.list (List.length r56) 2 (List.flatMap askedC r56))), (4, vl r50c), (3, V.ref 2003 0), (2, vb false)], [(2003, oc 28 [tl r50, ti r50b]), (2011, oc 28 [tl r83, ti r83b]), (2017, oc 28 [tl r117, ti r117b])]⟩) (by kernel_rfl) ⟨trivial, h8, trivial⟩ ?_
        exact ⟨(true), h, rfl⟩
       ·obtain ⟨r141, c9, h⟩ := bnd1_some h
        refine WP.path tab_ok mixed [(137, An.b false), (141, An.call (tb r141))] [.keep [143, 21, 20, 19, 18, 17, 14, 13, 12, 11, 7, 6, 5, 4, 3, 2], .keepO [2003, 2011, 2017], .names [(2003, 2003), (2011, 2011), (2017, 2017)]] (ps := [(True), ((!(r125b == r132b)) = false), (C Try.prog 54 [tbl r125, tbl r132] (tb r141))]) (e := .normal) (σ' := ⟨[2003, 2011, 2017], [(143, vb !r141), (21, vb r125b), (20, vbl r125), (19, vi r117d), (18, vl r117c), (17, V.ref 2017 0), (14, vb (faB r83 r83b r83c)), (13, vbl (faL r83 r83b r83c)), (12, vi r83c), (11, V.ref 2011 0), (7, vb r56c), (6, vi r56b), (5, V.t (T.list (List.length r56) 2 (List.flatMap askedC r56))), (4, vl r50c), (3, V.ref 2003 0), (2, vb false)], [(2003, oc 28 [tl r50, ti r50b]), (2011, oc 28 [tl r83, ti r83b]), (2017, oc 28 [tl r117, ti r117b])]⟩) (by kernel_rfl) ⟨trivial, h8, (F_laws_rBools_W r125 r132 r141 c9), trivial⟩ ?_
        exact ⟨(!r141), h, rfl⟩
      ·intro v143 h0
       have h := (show J1 v143 = some y0 from h0)
       rw [hJ1] at h
       rcases ite_some h with ⟨h9, h⟩ | ⟨h9, h⟩
       ·refine WP.cond (b := v143) rfl (fun _ => ?_) (fun hh => by rw [h9] at hh; cases hh)
        have h := Option.some.inj h
        subst h
        exact WP.pathW tab_ok mixed [] _ (ps := []) (r := tb false) (by kernel_rfl) trivial (WkT.eq (y := tb false) (WkT.refl _) rfl) (fun _ h => h)
       ·refine WP.cond (b := v143) rfl (fun hh => by rw [h9] at hh; cases hh) (fun _ => ?_)
        refine WP.path tab_ok mixed [] [.keep [21, 20, 19, 18, 17, 14, 13, 12, 11, 7, 6, 5, 4, 3, 2], .keepO [2003, 2011, 2017]] (ps := []) (e := .normal) (σ' := ⟨[2003, 2011, 2017], [(21, vb r125b), (20, vbl r125), (19, vi r117d), (18, vl r117c), (17, V.ref 2017 0), (14, vb (faB r83 r83b r83c)), (13, vbl (faL r83 r83b r83c)), (12, vi r83c), (11, V.ref 2011 0), (7, vb r56c), (6, vi r56b), (5, V.t (T.list (List.length r56) 2 (List.flatMap askedC r56))), (4, vl r50c), (3, V.ref 2003 0), (2, vb false)], [(2003, oc 28 [tl r50, ti r50b]), (2011, oc 28 [tl r83, ti r83b]), (2017, oc 28 [tl r117, ti r117b])]⟩) (by kernel_rfl) trivial ?_
        obtain ⟨J1, hJ1, h⟩ := jn_some h
        refine WP.joinA (fun (zz : Unit) => ⟨[2003, 2011], [(14, vb (faB r83 r83b r83c)), (13, vbl (faL r83 r83b r83c)), (12, vi r83c), (11, V.ref 2011 0), (7, vb r56c), (6, vi r56b), (5, V.t (T.list (List.length r56) 2 (List.flatMap askedC r56))), (4, vl r50c), (3, V.ref 2003 0), (2, vb false)], [(2003, oc 28 [tl r50, ti r50b]), (2011, oc 28 [tl r83, ti r83b])]⟩) (fun zz => J1 () = some y0) ?_ ?_
        ·refine WP.seq ?_
         refine WP.path tab_ok mixed [] [.keep [144, 20, 19, 18, 17, 14, 13, 12, 11, 7, 6, 5, 4, 3, 2], .keepO [2003, 2011, 2017]] (ps := []) (e := .normal) (σ' := ⟨[2003, 2011, 2017], [(144, vb r125b), (20, vbl r125), (19, vi r117d), (18, vl r117c), (17, V.ref 2017 0), (14, vb (faB r83 r83b r83c)), (13, vbl (faL r83 r83b r83c)), (12, vi r83c), (11, V.ref 2011 0), (7, vb r56c), (6, vi r56b), (5, V.t (T.list (List.length r56) 2 (List.flatMap askedC r56))), (4, vl r50c), (3, V.ref 2003 0), (2, vb false)], [(2003, oc 28 [tl r50, ti r50b]), (2011, oc 28 [tl r83, ti r83b]), (2017, oc 28 [tl r117, ti r117b])]⟩) (by kernel_rfl) trivial ?_
         rcases ite_some h with ⟨h10, h⟩ | ⟨h10, h⟩
         ·refine WP.cond (b := r125b) rfl (fun _ => ?_) (fun hh => by rw [h10] at hh; cases hh)
          refine WP.seq ?_
          obtain ⟨c9, h⟩ := chk_some h
          refine WP.path tab_ok mixed [(148, An.call (T.tup [tbl (faL r117 r117b r117d), tb (faB r117 r117b r117d)]))] [.keep [25, 24, 20, 19, 18, 17, 14, 13, 12, 11, 7, 6, 5, 4, 3, 2], .keepO [2003, 2011, 2017]] (ps := [(0 + 2 ≤ 2), (C Try.prog 52 [T.agg [tl r117, ti r117b], ti r117d] (T.tup [tbl (faL r117 r117b r117d), tb (faB r117 r117b r117d)]))]) (e := .normal) (σ' := ⟨[2003, 2011, 2017], [(25, vb (faB r117 r117b r117d)), (24, vbl (faL r117 r117b r117d)), (20, vbl r125), (19, vi r117d), (18, vl r117c), (17, V.ref 2017 0), (14, vb (faB r83 r83b r83c)), (13, vbl (faL r83 r83b r83c)), (12, vi r83c), (11, V.ref 2011 0), (7, vb r56c), (6, vi r56b), (5, V.t (T.list (List.length r56) 2 (List.flatMap askedC r56))), (4, vl r50c), (3, V.ref 2003 0), (2, vb false)], [(2003, oc 28 [tl r50, ti r50b]), (2011, oc 28 [tl r83, ti r83b]), (2017, oc 28 [tl r117, ti r117b])]⟩) (by kernel_rfl) ⟨by decide, (iFairAnswers_C r117 r117b r117d c9), trivial⟩ ?_
          refine WP.seq ?_
          obtain ⟨J2, hJ2, h⟩ := jn_some h
          refine WP.joinA (fun (zz : Bool) => ⟨[2003, 2011, 2017], [(162, vb zz), (20, vbl r125), (19, vi r117d), (18, vl r117c), (17, V.ref 2017 0), (14, vb (faB r83 r83b r83c)), (13, vbl (faL r83 r83b r83c)), (12, vi r83c), (11, V.ref 2011 0), (7, vb r56c), (6, vi r56b), (5, V.t (T.list (List.length r56) 2 (List.flatMap askedC r56))), (4, vl r50c), (3, V.ref 2003 0), (2, vb false)], [(2003, oc 28 [tl r50, ti r50b]), (2011, oc 28 [tl r83, ti r83b]), (2017, oc 28 [tl r117, ti r117b])]⟩) (fun zz => J2 zz = some y0) ?_ ?_
          ·rcases ite_some h with ⟨h11, h⟩ | ⟨h11, h⟩
           ·refine WP.path tab_ok mixed [(153, An.b true)] [.keep [162, 20, 19, 18, 17, 14, 13, 12, 11, 7, 6, 5, 4, 3, 2], .keepO [2003, 2011, 2017], .names [(2003, 2003), (2011, 2011), (2017, 2017)]] (ps := [((!(faB r117 r117b r117d)) = true)]) (e := .normal) (σ' := ⟨[2003, 2011, 2017], [(162, vb true), (20, vbl r125), (19, vi r117d), (18, vl r117c), (17, V.ref 2017 0), (14, vb (faB r83 r83b r83c)), (13, vbl (faL r83 r83b r83c)), (12, vi r83c), (11, V.ref 2011 0), (7, vb r56c), (6, vi r56b), (5, V.t (T.list (List.length r56) 2 (List.flatMap askedC r56))), (4, vl r50c), (3, V.ref 2003 0), (2, vb false)], [(2003, oc 28 [tl r50, ti r50b]), (2011, oc 28 [tl r83, ti r83b]), (2017, oc 28 [tl r117, ti r117b])]⟩) (by kernel_rfl) ⟨h11, trivial⟩ ?_
            exact ⟨(true), h, rfl⟩
           ·rcases ite_some h with ⟨h12, h⟩ | ⟨h12, h⟩
            ·refine WP.path tab_ok mixed [(153, An.b false), (156, An.b true)] [.keep [162, 20, 19, 18, 17, 14, 13, 12, 11, 7, 6, 5, 4, 3, 2], .keepO [2003, 2011, 2017], .names [(2003, 2003), (2011, 2011), (2017, 2017)]] (ps := [((!(faB r117 r117b r117d)) = false), (True), ((((List.length (faL r117 r117b r117d) : Nat) : Int) != (2 : Int)) = true)]) (e := .normal) (σ' := ⟨[2003, 2011, 2017], [(162, vb true), (20, vbl r125), (19, vi r117d), (18, vl r117c), (17, V.ref 2017 0), (14, vb (faB r83 r83b r83c)), (13, vbl (faL r83 r83b r83c)), (12, vi r83c), (11, V.ref 2011 0), (7, vb r56c), (6, vi r56b), (5, V.t (T.list (List.length r56) 2 (List.flatMap askedC r56))), (4, vl r50c), (3, V.ref 2003 0), (2, vb false)], [(2003, oc 28 [tl r50, ti r50b]), (2011, oc 28 [tl r83, ti r83b]), (2017, oc 28 [tl r117, ti r117b])]⟩) (by kernel_rfl) ⟨h11, trivial, h12, trivial⟩ ?_
             exact ⟨(true), h, rfl⟩
            ·refine WP.path tab_ok mixed [(153, An.b false), (156, An.b false)] [.keep [162, 20, 19, 18, 17, 14, 13, 12, 11, 7, 6, 5, 4, 3, 2], .keepO [2003, 2011, 2017], .names [(2003, 2003), (2011, 2011), (2017, 2017)]] (ps := [((!(faB r117 r117b r117d)) = false), (True), ((((List.length (faL r117 r117b r117d) : Nat) : Int) != (2 : Int)) = false), (True)]) (e := .normal) (σ' := ⟨[2003, 2011, 2017], [(162, vb (decide (((List.length r125 : Nat) : Int) > (2 : Int)))), (20, vbl r125), (19, vi r117d), (18, vl r117c), (17, V.ref 2017 0), (14, vb (faB r83 r83b r83c)), (13, vbl (faL r83 r83b r83c)), (12, vi r83c), (11, V.ref 2011 0), (7, vb r56c), (6, vi r56b), (5, V.t (T.list (List.length r56) 2 (List.flatMap askedC r56))), (4, vl r50c), (3, V.ref 2003 0), (2, vb false)], [(2003, oc 28 [tl r50, ti r50b]), (2011, oc 28 [tl r83, ti r83b]), (2017, oc 28 [tl r117, ti r117b])]⟩) (by kernel_rfl) ⟨h11, trivial, h12, trivial, trivial⟩ ?_
             exact ⟨(decide (((List.length r125 : Nat) : Int) > (2 : Int))), h, rfl⟩
          ·intro v162 h0
           have h := (show J2 v162 = some y0 from h0)
           rw [hJ2] at h
           rcases ite_some h with ⟨h13, h⟩ | ⟨h13, h⟩
           ·refine WP.cond (b := v162) rfl (fun _ => ?_) (fun hh => by rw [h13] at hh; cases hh)
            have h := Option.some.inj h
            subst h
            exact WP.pathW tab_ok mixed [] _ (ps := []) (r := tb false) (by kernel_rfl) trivial (WkT.eq (y := tb false) (WkT.refl _) rfl) (fun _ h => h)
           ·refine WP.cond (b := v162) rfl (fun hh => by rw [h13] at hh; cases hh) (fun _ => ?_)
            refine WP.path tab_ok mixed [] [.keep [20, 19, 18, 17, 14, 13, 12, 11, 7, 6, 5, 4, 3, 2], .keepO [2003, 2011, 2017]] (ps := []) (e := .normal) (σ' := ⟨[2003, 2011, 2017], [(20, vbl r125), (19, vi r117d), (18, vl r117c), (17, V.ref 2017 0), (14, vb (faB r83 r83b r83c)), (13, vbl (faL r83 r83b r83c)), (12, vi r83c), (11, V.ref 2011 0), (7, vb r56c), (6, vi r56b), (5, V.t (T.list (List.length r56) 2 (List.flatMap askedC r56))), (4, vl r50c), (3, V.ref 2003 0), (2, vb false)], [(2003, oc 28 [tl r50, ti r50b]), (2011, oc 28 [tl r83, ti r83b]), (2017, oc 28 [tl r117, ti r117b])]⟩) (by kernel_rfl) trivial ?_
            refine WP.seq ?_
            refine WP.path tab_ok mixed [] [.keep [26, 20, 19, 18, 17, 14, 13, 12, 11, 7, 6, 5, 4, 3, 2], .keepO [2003, 2011, 2017]] (ps := []) (e := .normal) (σ' := ⟨[2003, 2011, 2017], [(26, vi 0), (20, vbl r125), (19, vi r117d), (18, vl r117c), (17, V.ref 2017 0), (14, vb (faB r83 r83b r83c)), (13, vbl (faL r83 r83b r83c)), (12, vi r83c), (11, V.ref 2011 0), (7, vb r56c), (6, vi r56b), (5, V.t (T.list (List.length r56) 2 (List.flatMap askedC r56))), (4, vl r50c), (3, V.ref 2003 0), (2, vb false)], [(2003, oc 28 [tl r50, ti r50b]), (2011, oc 28 [tl r83, ti r83b]), (2017, oc 28 [tl r117, ti r117b])]⟩) (by kernel_rfl) trivial ?_
            refine WP.block ?_
            refine WP.wk [.keep [26, 20, 19, 18, 17, 14, 13, 12, 11, 7, 6, 5, 4, 3, 2], .keepO [2003, 2011, 2017], .names [(2003, 2003), (2011, 2011), (2017, 2017)]] (σ' := ⟨[2003, 2011, 2017], [(26, vi 0), (20, vbl r125), (19, vi r117d), (18, vl r117c), (17, V.ref 2017 0), (14, vb (faB r83 r83b r83c)), (13, vbl (faL r83 r83b r83c)), (12, vi r83c), (11, V.ref 2011 0), (7, vb r56c), (6, vi r56b), (5, V.t (T.list (List.length r56) 2 (List.flatMap askedC r56))), (4, vl r50c), (3, V.ref 2003 0), (2, vb false)], [(2003, oc 28 [tl r50, ti r50b]), (2011, oc 28 [tl r83, ti r83b]), (2017, oc 28 [tl r117, ti r117b])]⟩) (ps := []) (by kernel_rfl) trivial ?_
            refine WP.st (σ' := ⟨[2003, 2011, 2017], [(26, vi (0 : Int)), (20, vbl r125), (19, vi r117d), (18, vl r117c), (17, V.ref 2017 0), (14, vb (faB r83 r83b r83c)), (13, vbl (faL r83 r83b r83c)), (12, vi r83c), (11, V.ref 2011 0), (7, vb r56c), (6, vi r56b), (5, V.t (T.list (List.length r56) 2 (List.flatMap askedC r56))), (4, vl r50c), (3, V.ref 2003 0), (2, vb false)], [(2003, oc 28 [tl r50, ti r50b]), (2011, oc 28 [tl r83, ti r83b]), (2017, oc 28 [tl r117, ti r117b])]⟩) rfl ?_
            refine WP.loop (α := Nat × Int) (fun zz => ⟨[2003, 2011, 2017], [(26, vi zz.2), (20, vbl r125), (19, vi r117d), (18, vl r117c), (17, V.ref 2017 0), (14, vb (faB r83 r83b r83c)), (13, vbl (faL r83 r83b r83c)), (12, vi r83c), (11, V.ref 2011 0), (7, vb r56c), (6, vi r56b), (5, V.t (T.list (List.length r56) 2 (List.flatMap askedC r56))), (4, vl r50c), (3, V.ref 2003 0), (2, vb false)], [(2003, oc 28 [tl r50, ti r50b]), (2011, oc 28 [tl r83, ti r83b]), (2017, oc 28 [tl r117, ti r117b])]⟩) (fun zz => F_laws_FnRacePlays_L1 r117 r117b r117c r117d r125 J1 zz.1 zz.2 = some y0) (fun zz => zz.1) (fuel, (0 : Int)) h ?_
            rintro ⟨n, v26⟩ h0
            have h := (show F_laws_FnRacePlays_L1 r117 r117b r117c r117d r125 J1 n v26 = some y0 from h0)
            rcases n with _ | n
            ·rw [F_laws_FnRacePlays_L1] at h; cases h
            ·rw [F_laws_FnRacePlays_L1] at h
             refine WP.seq ?_
             refine WP.seq ?_
             refine WP.path tab_ok mixed [] [.keep [166, 26, 20, 19, 18, 17, 14, 13, 12, 11, 7, 6, 5, 4, 3, 2], .keepO [2003, 2011, 2017]] (ps := [(True)]) (e := .normal) (σ' := ⟨[2003, 2011, 2017], [(166, vb (decide (v26 < ((List.length r125 : Nat) : Int)))), (26, vi v26), (20, vbl r125), (19, vi r117d), (18, vl r117c), (17, V.ref 2017 0), (14, vb (faB r83 r83b r83c)), (13, vbl (faL r83 r83b r83c)), (12, vi r83c), (11, V.ref 2011 0), (7, vb r56c), (6, vi r56b), (5, V.t (T.list (List.length r56) 2 (List.flatMap askedC r56))), (4, vl r50c), (3, V.ref 2003 0), (2, vb false)], [(2003, oc 28 [tl r50, ti r50b]), (2011, oc 28 [tl r83, ti r83b]), (2017, oc 28 [tl r117, ti r117b])]⟩) (by kernel_rfl) ⟨trivial, trivial⟩ ?_
             rcases ite_some h with ⟨h14, h⟩ | ⟨h14, h⟩
             ·refine WP.cond (b := decide (v26 < ((List.length r125 : Nat) : Int))) rfl (fun _ => ?_) (fun hh => by rw [h14] at hh; cases hh)
              refine WP.path tab_ok mixed [] [.keep [26, 20, 19, 18, 17, 14, 13, 12, 11, 7, 6, 5, 4, 3, 2], .keepO [2003, 2011, 2017]] (ps := []) (e := .normal) (σ' := ⟨[2003, 2011, 2017], [(26, vi v26), (20, vbl r125), (19, vi r117d), (18, vl r117c), (17, V.ref 2017 0), (14, vb (faB r83 r83b r83c)), (13, vbl (faL r83 r83b r83c)), (12, vi r83c), (11, V.ref 2011 0), (7, vb r56c), (6, vi r56b), (5, V.t (T.list (List.length r56) 2 (List.flatMap askedC r56))), (4, vl r50c), (3, V.ref 2003 0), (2, vb false)], [(2003, oc 28 [tl r50, ti r50b]), (2011, oc 28 [tl r83, ti r83b]), (2017, oc 28 [tl r117, ti r117b])]⟩) (by kernel_rfl) trivial ?_
              refine WP.seq ?_
              refine WP.block ?_
              refine WP.seq ?_
              obtain ⟨c10, h⟩ := chk_some h
              refine WP.path tab_ok mixed [(175, An.v (tb (List.getD r125 (Int.toNat v26) false))), (177, An.call (T.tup [T.agg [tl (asL r117 r117b r117d (List.getD r125 (Int.toNat v26) false)), ti (asM r117 r117b r117d (List.getD r125 (Int.toNat v26) false))], tb (asB r117 r117b r117d)])), (27, An.id 2027)] [.keep [28, 27, 26, 20, 19, 18, 17, 14, 13, 12, 11, 7, 6, 5, 4, 3, 2], .keepO [2003, 2011, 2017, 2027]] (ps := [(0 + 2 ≤ 2), ((0 ≤ v26 ∧ v26 < ((List.length r125 : Nat) : Int))), ((List.drop ((Int.toNat v26) * 1) (List.map T.bool r125) : List T)[0]? = some (tb (List.getD r125 (Int.toNat v26) false))), (tb (List.getD r125 (Int.toNat v26) false) = tb (List.getD r125 (Int.toNat v26) false)), ((1 = 1 ∧ 0 + 1 ≤ 2) ∧ (1 = 1 ∧ 1 + 1 ≤ 2) ∧ True), (C Try.prog 56 [T.agg [tl r117, ti r117b], T.agg [ti r117d, tb (List.getD r125 (Int.toNat v26) false)]] (T.tup [T.agg [tl (asL r117 r117b r117d (List.getD r125 (Int.toNat v26) false)), ti (asM r117 r117b r117d (List.getD r125 (Int.toNat v26) false))], tb (asB r117 r117b r117d)])), ((0 + 2 ≤ 2 ∧ 2 = 2))]) (e := .normal) (σ' := ⟨[2027, 2003, 2011, 2017], [(28, vb (asB r117 r117b r117d)), (27, V.ref 2027 0), (26, vi v26), (20, vbl r125), (19, vi r117d), (18, vl r117c), (17, V.ref 2017 0), (14, vb (faB r83 r83b r83c)), (13, vbl (faL r83 r83b r83c)), (12, vi r83c), (11, V.ref 2011 0), (7, vb r56c), (6, vi r56b), (5, V.t (T.list (List.length r56) 2 (List.flatMap askedC r56))), (4, vl r50c), (3, V.ref 2003 0), (2, vb false)], [(2003, oc 28 [tl r50, ti r50b]), (2011, oc 28 [tl r83, ti r83b]), (2017, oc 28 [tl r117, ti r117b]), (2027, oc 28 [tl (asL r117 r117b r117d (List.getD r125 (Int.toNat v26) false)), ti (asM r117 r117b r117d (List.getD r125 (Int.toNat v26) false))])]⟩) (by kernel_rfl) ⟨by decide, c10, at1 (by simp) (by omega), rfl, ⟨⟨by first | rfl | (simp; done) | (simp []; done) | omega, by first | decide | (simp; done) | (simp []; done) | omega | (simp only [tlL]; omega) | (simp; omega)⟩, ⟨by first | rfl | (simp; done) | (simp []; done) | omega, by first | decide | (simp; done) | (simp []; done) | omega | (simp only [tlL]; omega) | (simp; omega)⟩, trivial⟩, (iAnswerState_C r117 r117b r117d (List.getD r125 (Int.toNat v26) false) c9), by decide, trivial⟩ ?_
              refine WP.seq ?_
              obtain ⟨r183, r183b, c11, h⟩ := bnd2_some h
              refine WP.path tab_ok mixed [(183, An.call (T.tup [tb r183, tb r183b]))] [.keep [30, 29, 28, 26, 20, 19, 18, 17, 14, 13, 12, 11, 7, 6, 5, 4, 3, 2], .keepO [2003, 2011, 2017]] (ps := [(0 + 2 ≤ 2), (C Try.prog 24 [T.agg [tl (asL r117 r117b r117d (List.getD r125 (Int.toNat v26) false)), ti (asM r117 r117b r117d (List.getD r125 (Int.toNat v26) false))], tl r117c] (T.tup [tb r183, tb r183b]))]) (e := .normal) (σ' := ⟨[2027, 2003, 2011, 2017], [(30, vb r183b), (29, vb r183), (28, vb (asB r117 r117b r117d)), (26, vi v26), (20, vbl r125), (19, vi r117d), (18, vl r117c), (17, V.ref 2017 0), (14, vb (faB r83 r83b r83c)), (13, vbl (faL r83 r83b r83c)), (12, vi r83c), (11, V.ref 2011 0), (7, vb r56c), (6, vi r56b), (5, V.t (T.list (List.length r56) 2 (List.flatMap askedC r56))), (4, vl r50c), (3, V.ref 2003 0), (2, vb false)], [(2003, oc 28 [tl r50, ti r50b]), (2011, oc 28 [tl r83, ti r83b]), (2017, oc 28 [tl r117, ti r117b])]⟩) (by kernel_rfl) ⟨by decide, (F_impl_RaceWins_W (asL r117 r117b r117d (List.getD r125 (Int.toNat v26) false)) (asM r117 r117b r117d (List.getD r125 (Int.toNat v26) false)) r117c r183 r183b c11), trivial⟩ ?_
              obtain ⟨J2, hJ2, h⟩ := jn_some h
              refine WP.joinA (fun (zz : Bool) => ⟨[2003, 2011, 2017], [(195, vb zz), (26, vi v26), (20, vbl r125), (19, vi r117d), (18, vl r117c), (17, V.ref 2017 0), (14, vb (faB r83 r83b r83c)), (13, vbl (faL r83 r83b r83c)), (12, vi r83c), (11, V.ref 2011 0), (7, vb r56c), (6, vi r56b), (5, V.t (T.list (List.length r56) 2 (List.flatMap askedC r56))), (4, vl r50c), (3, V.ref 2003 0), (2, vb false)], [(2003, oc 28 [tl r50, ti r50b]), (2011, oc 28 [tl r83, ti r83b]), (2017, oc 28 [tl r117, ti r117b])]⟩) (fun zz => J2 zz = some y0) ?_ ?_
              ·rcases ite_some h with ⟨h15, h⟩ | ⟨h15, h⟩
               ·refine WP.path tab_ok mixed [(188, An.b true)] [.keep [195, 26, 20, 19, 18, 17, 14, 13, 12, 11, 7, 6, 5, 4, 3, 2], .keepO [2003, 2011, 2017], .names [(2003, 2003), (2011, 2011), (2017, 2017)]] (ps := [((!(asB r117 r117b r117d)) = true)]) (e := .normal) (σ' := ⟨[2003, 2011, 2017], [(195, vb true), (26, vi v26), (20, vbl r125), (19, vi r117d), (18, vl r117c), (17, V.ref 2017 0), (14, vb (faB r83 r83b r83c)), (13, vbl (faL r83 r83b r83c)), (12, vi r83c), (11, V.ref 2011 0), (7, vb r56c), (6, vi r56b), (5, V.t (T.list (List.length r56) 2 (List.flatMap askedC r56))), (4, vl r50c), (3, V.ref 2003 0), (2, vb false)], [(2003, oc 28 [tl r50, ti r50b]), (2011, oc 28 [tl r83, ti r83b]), (2017, oc 28 [tl r117, ti r117b])]⟩) (by kernel_rfl) ⟨h15, trivial⟩ ?_
                exact ⟨(true), h, rfl⟩
               ·rcases ite_some h with ⟨h16, h⟩ | ⟨h16, h⟩
                ·refine WP.path tab_ok mixed [(188, An.b false), (192, An.b true)] [.keep [195, 26, 20, 19, 18, 17, 14, 13, 12, 11, 7, 6, 5, 4, 3, 2], .keepO [2003, 2011, 2017], .names [(2003, 2003), (2011, 2011), (2017, 2017)]] (ps := [((!(asB r117 r117b r117d)) = false), ((!r183b) = true)]) (e := .normal) (σ' := ⟨[2003, 2011, 2017], [(195, vb true), (26, vi v26), (20, vbl r125), (19, vi r117d), (18, vl r117c), (17, V.ref 2017 0), (14, vb (faB r83 r83b r83c)), (13, vbl (faL r83 r83b r83c)), (12, vi r83c), (11, V.ref 2011 0), (7, vb r56c), (6, vi r56b), (5, V.t (T.list (List.length r56) 2 (List.flatMap askedC r56))), (4, vl r50c), (3, V.ref 2003 0), (2, vb false)], [(2003, oc 28 [tl r50, ti r50b]), (2011, oc 28 [tl r83, ti r83b]), (2017, oc 28 [tl r117, ti r117b])]⟩) (by kernel_rfl) ⟨h15, h16, trivial⟩ ?_
                 exact ⟨(true), h, rfl⟩
                ·refine WP.path tab_ok mixed [(188, An.b false), (192, An.b false)] [.keep [195, 26, 20, 19, 18, 17, 14, 13, 12, 11, 7, 6, 5, 4, 3, 2], .keepO [2003, 2011, 2017], .names [(2003, 2003), (2011, 2011), (2017, 2017)]] (ps := [((!(asB r117 r117b r117d)) = false), ((!r183b) = false)]) (e := .normal) (σ' := ⟨[2003, 2011, 2017], [(195, vb !r183), (26, vi v26), (20, vbl r125), (19, vi r117d), (18, vl r117c), (17, V.ref 2017 0), (14, vb (faB r83 r83b r83c)), (13, vbl (faL r83 r83b r83c)), (12, vi r83c), (11, V.ref 2011 0), (7, vb r56c), (6, vi r56b), (5, V.t (T.list (List.length r56) 2 (List.flatMap askedC r56))), (4, vl r50c), (3, V.ref 2003 0), (2, vb false)], [(2003, oc 28 [tl r50, ti r50b]), (2011, oc 28 [tl r83, ti r83b]), (2017, oc 28 [tl r117, ti r117b])]⟩) (by kernel_rfl) ⟨h15, h16, trivial⟩ ?_
                 exact ⟨(!r183), h, rfl⟩
              ·intro v195 h0
               have h := (show J2 v195 = some y0 from h0)
               rw [hJ2] at h
               rcases ite_some h with ⟨h17, h⟩ | ⟨h17, h⟩
               ·refine WP.cond (b := v195) rfl (fun _ => ?_) (fun hh => by rw [h17] at hh; cases hh)
                have h := Option.some.inj h
                subst h
                exact WP.pathW tab_ok mixed [] _ (ps := []) (r := tb false) (by kernel_rfl) trivial (WkT.eq (y := tb false) (WkT.refl _) rfl) (fun _ h => h)
               ·refine WP.cond (b := v195) rfl (fun hh => by rw [h17] at hh; cases hh) (fun _ => ?_)
                refine WP.path tab_ok mixed [] [.keep [26, 20, 19, 18, 17, 14, 13, 12, 11, 7, 6, 5, 4, 3, 2], .keepO [2003, 2011, 2017]] (ps := []) (e := .normal) (σ' := ⟨[2003, 2011, 2017], [(26, vi v26), (20, vbl r125), (19, vi r117d), (18, vl r117c), (17, V.ref 2017 0), (14, vb (faB r83 r83b r83c)), (13, vbl (faL r83 r83b r83c)), (12, vi r83c), (11, V.ref 2011 0), (7, vb r56c), (6, vi r56b), (5, V.t (T.list (List.length r56) 2 (List.flatMap askedC r56))), (4, vl r50c), (3, V.ref 2003 0), (2, vb false)], [(2003, oc 28 [tl r50, ti r50b]), (2011, oc 28 [tl r83, ti r83b]), (2017, oc 28 [tl r117, ti r117b])]⟩) (by kernel_rfl) trivial ?_
                obtain ⟨c12, h⟩ := chk_some h
                refine WP.path tab_ok mixed [(168, An.v (T.int .i64 (v26 + (1 : Int))))] [.keep [26, 20, 19, 18, 17, 14, 13, 12, 11, 7, 6, 5, 4, 3, 2], .keepO [2003, 2011, 2017], .names [(2003, 2003), (2011, 2011), (2017, 2017)]] (ps := [(True), (T.int .i64 (IntKind.wrap .i64 (v26 + (1 : Int))) = T.int .i64 (v26 + (1 : Int)))]) (e := .normal) (σ' := ⟨[2003, 2011, 2017], [(26, vi (v26 + (1 : Int))), (20, vbl r125), (19, vi r117d), (18, vl r117c), (17, V.ref 2017 0), (14, vb (faB r83 r83b r83c)), (13, vbl (faL r83 r83b r83c)), (12, vi r83c), (11, V.ref 2011 0), (7, vb r56c), (6, vi r56b), (5, V.t (T.list (List.length r56) 2 (List.flatMap askedC r56))), (4, vl r50c), (3, V.ref 2003 0), (2, vb false)], [(2003, oc 28 [tl r50, ti r50b]), (2011, oc 28 [tl r83, ti r83b]), (2017, oc 28 [tl r117, ti r117b])]⟩) (by kernel_rfl) ⟨trivial, wrapI c12, trivial⟩ ?_
                exact ⟨(n, (v26 + (1 : Int))), h, Nat.lt_succ_self _, rfl⟩
             ·refine WP.cond (b := decide (v26 < ((List.length r125 : Nat) : Int))) rfl (fun hh => by rw [h14] at hh; cases hh) (fun _ => ?_)
              refine WP.path tab_ok mixed [] [.keep [14, 13, 12, 11, 7, 6, 5, 4, 3, 2], .keepO [2003, 2011], .names [(2003, 2003), (2011, 2011)]] (ps := []) (e := (.exit 0)) (σ' := ⟨[2003, 2011], [(14, vb (faB r83 r83b r83c)), (13, vbl (faL r83 r83b r83c)), (12, vi r83c), (11, V.ref 2011 0), (7, vb r56c), (6, vi r56b), (5, V.t (T.list (List.length r56) 2 (List.flatMap askedC r56))), (4, vl r50c), (3, V.ref 2003 0), (2, vb false)], [(2003, oc 28 [tl r50, ti r50b]), (2011, oc 28 [tl r83, ti r83b])]⟩) (by kernel_rfl) trivial ?_
              exact ⟨(), h, rfl⟩
         ·refine WP.cond (b := r125b) rfl (fun hh => by rw [h10] at hh; cases hh) (fun _ => ?_)
          refine WP.path tab_ok mixed [] [.keep [14, 13, 12, 11, 7, 6, 5, 4, 3, 2], .keepO [2003, 2011], .names [(2003, 2003), (2011, 2011)]] (ps := []) (e := .normal) (σ' := ⟨[2003, 2011], [(14, vb (faB r83 r83b r83c)), (13, vbl (faL r83 r83b r83c)), (12, vi r83c), (11, V.ref 2011 0), (7, vb r56c), (6, vi r56b), (5, V.t (T.list (List.length r56) 2 (List.flatMap askedC r56))), (4, vl r50c), (3, V.ref 2003 0), (2, vb false)], [(2003, oc 28 [tl r50, ti r50b]), (2011, oc 28 [tl r83, ti r83b])]⟩) (by kernel_rfl) trivial ?_
          exact ⟨(), h, rfl⟩
        ·intro _ h0
         have h := (show J1 () = some y0 from h0)
         rw [hJ1] at h
         obtain ⟨J1, hJ1, h⟩ := jn_some h
         refine WP.joinA (fun (zz : Unit) => ⟨[2003], [(7, vb r56c), (6, vi r56b), (5, V.t (T.list (List.length r56) 2 (List.flatMap askedC r56))), (4, vl r50c), (3, V.ref 2003 0), (2, vb false)], [(2003, oc 28 [tl r50, ti r50b])]⟩) (fun zz => J1 () = some y0) ?_ ?_
         ·refine WP.seq ?_
          refine WP.path tab_ok mixed [] [.keep [196, 13, 12, 11, 7, 6, 5, 4, 3, 2], .keepO [2003, 2011]] (ps := []) (e := .normal) (σ' := ⟨[2003, 2011], [(196, vb (faB r83 r83b r83c)), (13, vbl (faL r83 r83b r83c)), (12, vi r83c), (11, V.ref 2011 0), (7, vb r56c), (6, vi r56b), (5, V.t (T.list (List.length r56) 2 (List.flatMap askedC r56))), (4, vl r50c), (3, V.ref 2003 0), (2, vb false)], [(2003, oc 28 [tl r50, ti r50b]), (2011, oc 28 [tl r83, ti r83b])]⟩) (by kernel_rfl) trivial ?_
          rcases ite_some h with ⟨h18, h⟩ | ⟨h18, h⟩
          ·refine WP.cond (b := faB r83 r83b r83c) rfl (fun _ => ?_) (fun hh => by rw [h18] at hh; cases hh)
           refine WP.seq ?_
           refine WP.path tab_ok mixed [] [.keep [31, 13, 12, 11, 7, 6, 5, 4, 3, 2], .keepO [2003, 2011]] (ps := []) (e := .normal) (σ' := ⟨[2003, 2011], [(31, vi 0), (13, vbl (faL r83 r83b r83c)), (12, vi r83c), (11, V.ref 2011 0), (7, vb r56c), (6, vi r56b), (5, V.t (T.list (List.length r56) 2 (List.flatMap askedC r56))), (4, vl r50c), (3, V.ref 2003 0), (2, vb false)], [(2003, oc 28 [tl r50, ti r50b]), (2011, oc 28 [tl r83, ti r83b])]⟩) (by kernel_rfl) trivial ?_
           refine WP.block ?_
           refine WP.wk [.keep [31, 13, 12, 11, 7, 6, 5, 4, 3, 2], .keepO [2003, 2011], .names [(2003, 2003), (2011, 2011)]] (σ' := ⟨[2003, 2011], [(31, vi 0), (13, vbl (faL r83 r83b r83c)), (12, vi r83c), (11, V.ref 2011 0), (7, vb r56c), (6, vi r56b), (5, V.t (T.list (List.length r56) 2 (List.flatMap askedC r56))), (4, vl r50c), (3, V.ref 2003 0), (2, vb false)], [(2003, oc 28 [tl r50, ti r50b]), (2011, oc 28 [tl r83, ti r83b])]⟩) (ps := []) (by kernel_rfl) trivial ?_
           refine WP.st (σ' := ⟨[2003, 2011], [(31, vi (0 : Int)), (13, vbl (faL r83 r83b r83c)), (12, vi r83c), (11, V.ref 2011 0), (7, vb r56c), (6, vi r56b), (5, V.t (T.list (List.length r56) 2 (List.flatMap askedC r56))), (4, vl r50c), (3, V.ref 2003 0), (2, vb false)], [(2003, oc 28 [tl r50, ti r50b]), (2011, oc 28 [tl r83, ti r83b])]⟩) rfl ?_
           refine WP.loop (α := Nat × Int) (fun zz => ⟨[2003, 2011], [(31, vi zz.2), (13, vbl (faL r83 r83b r83c)), (12, vi r83c), (11, V.ref 2011 0), (7, vb r56c), (6, vi r56b), (5, V.t (T.list (List.length r56) 2 (List.flatMap askedC r56))), (4, vl r50c), (3, V.ref 2003 0), (2, vb false)], [(2003, oc 28 [tl r50, ti r50b]), (2011, oc 28 [tl r83, ti r83b])]⟩) (fun zz => F_laws_FnRacePlays_L2 r83 r83b r83c J1 zz.1 zz.2 = some y0) (fun zz => zz.1) (fuel, (0 : Int)) h ?_
           rintro ⟨n, v31⟩ h0
           have h := (show F_laws_FnRacePlays_L2 r83 r83b r83c J1 n v31 = some y0 from h0)
           rcases n with _ | n
           ·rw [F_laws_FnRacePlays_L2] at h; cases h
           ·rw [F_laws_FnRacePlays_L2] at h
            refine WP.seq ?_
            refine WP.seq ?_
            refine WP.path tab_ok mixed [] [.keep [200, 31, 13, 12, 11, 7, 6, 5, 4, 3, 2], .keepO [2003, 2011]] (ps := [(True)]) (e := .normal) (σ' := ⟨[2003, 2011], [(200, vb (decide (v31 < ((List.length (faL r83 r83b r83c) : Nat) : Int)))), (31, vi v31), (13, vbl (faL r83 r83b r83c)), (12, vi r83c), (11, V.ref 2011 0), (7, vb r56c), (6, vi r56b), (5, V.t (T.list (List.length r56) 2 (List.flatMap askedC r56))), (4, vl r50c), (3, V.ref 2003 0), (2, vb false)], [(2003, oc 28 [tl r50, ti r50b]), (2011, oc 28 [tl r83, ti r83b])]⟩) (by kernel_rfl) ⟨trivial, trivial⟩ ?_
            rcases ite_some h with ⟨h19, h⟩ | ⟨h19, h⟩
            ·refine WP.cond (b := decide (v31 < ((List.length (faL r83 r83b r83c) : Nat) : Int))) rfl (fun _ => ?_) (fun hh => by rw [h19] at hh; cases hh)
             refine WP.path tab_ok mixed [] [.keep [31, 13, 12, 11, 7, 6, 5, 4, 3, 2], .keepO [2003, 2011]] (ps := []) (e := .normal) (σ' := ⟨[2003, 2011], [(31, vi v31), (13, vbl (faL r83 r83b r83c)), (12, vi r83c), (11, V.ref 2011 0), (7, vb r56c), (6, vi r56b), (5, V.t (T.list (List.length r56) 2 (List.flatMap askedC r56))), (4, vl r50c), (3, V.ref 2003 0), (2, vb false)], [(2003, oc 28 [tl r50, ti r50b]), (2011, oc 28 [tl r83, ti r83b])]⟩) (by kernel_rfl) trivial ?_
             refine WP.seq ?_
             refine WP.block ?_
             refine WP.seq ?_
             obtain ⟨c9, h⟩ := chk_some h
             obtain ⟨r211, r211b, c10, h⟩ := bnd2_some h
             refine WP.path tab_ok mixed [(209, An.v (tb (List.getD (faL r83 r83b r83c) (Int.toNat v31) false))), (211, An.call (T.tup [tb r211, tb r211b]))] [.keep [33, 32, 31, 13, 12, 11, 7, 6, 5, 4, 3, 2], .keepO [2003, 2011]] (ps := [(0 + 2 ≤ 2), ((0 ≤ v31 ∧ v31 < ((List.length (faL r83 r83b r83c) : Nat) : Int))), ((List.drop ((Int.toNat v31) * 1) (List.map T.bool (faL r83 r83b r83c)) : List T)[0]? = some (tb (List.getD (faL r83 r83b r83c) (Int.toNat v31) false))), (tb (List.getD (faL r83 r83b r83c) (Int.toNat v31) false) = tb (List.getD (faL r83 r83b r83c) (Int.toNat v31) false)), ((1 = 1 ∧ 0 + 1 ≤ 2) ∧ (1 = 1 ∧ 1 + 1 ≤ 2) ∧ True), (C Try.prog 57 [T.agg [tl r83, ti r83b], T.agg [ti r83c, tb (List.getD (faL r83 r83b r83c) (Int.toNat v31) false)]] (T.tup [tb r211, tb r211b]))]) (e := .normal) (σ' := ⟨[2003, 2011], [(33, vb r211b), (32, vb r211), (31, vi v31), (13, vbl (faL r83 r83b r83c)), (12, vi r83c), (11, V.ref 2011 0), (7, vb r56c), (6, vi r56b), (5, V.t (T.list (List.length r56) 2 (List.flatMap askedC r56))), (4, vl r50c), (3, V.ref 2003 0), (2, vb false)], [(2003, oc 28 [tl r50, ti r50b]), (2011, oc 28 [tl r83, ti r83b])]⟩) (by kernel_rfl) ⟨by decide, c9, at1 (by simp) (by omega), rfl, ⟨⟨by first | rfl | (simp; done) | (simp []; done) | omega, by first | decide | (simp; done) | (simp []; done) | omega | (simp only [tlL]; omega) | (simp; omega)⟩, ⟨by first | rfl | (simp; done) | (simp []; done) | omega, by first | decide | (simp; done) | (simp []; done) | omega | (simp only [tlL]; omega) | (simp; omega)⟩, trivial⟩, (F_impl_CanAnswer_W r83 r83b r83c (List.getD (faL r83 r83b r83c) (Int.toNat v31) false) r211 r211b c10), trivial⟩ ?_
             obtain ⟨J2, hJ2, h⟩ := jn_some h
             refine WP.joinA (fun (zz : Bool) => ⟨[2003, 2011], [(219, vb zz), (31, vi v31), (13, vbl (faL r83 r83b r83c)), (12, vi r83c), (11, V.ref 2011 0), (7, vb r56c), (6, vi r56b), (5, V.t (T.list (List.length r56) 2 (List.flatMap askedC r56))), (4, vl r50c), (3, V.ref 2003 0), (2, vb false)], [(2003, oc 28 [tl r50, ti r50b]), (2011, oc 28 [tl r83, ti r83b])]⟩) (fun zz => J2 zz = some y0) ?_ ?_
             ·rcases ite_some h with ⟨h20, h⟩ | ⟨h20, h⟩
              ·refine WP.path tab_ok mixed [(216, An.b true)] [.keep [219, 31, 13, 12, 11, 7, 6, 5, 4, 3, 2], .keepO [2003, 2011], .names [(2003, 2003), (2011, 2011)]] (ps := [((!r211b) = true)]) (e := .normal) (σ' := ⟨[2003, 2011], [(219, vb true), (31, vi v31), (13, vbl (faL r83 r83b r83c)), (12, vi r83c), (11, V.ref 2011 0), (7, vb r56c), (6, vi r56b), (5, V.t (T.list (List.length r56) 2 (List.flatMap askedC r56))), (4, vl r50c), (3, V.ref 2003 0), (2, vb false)], [(2003, oc 28 [tl r50, ti r50b]), (2011, oc 28 [tl r83, ti r83b])]⟩) (by kernel_rfl) ⟨h20, trivial⟩ ?_
               exact ⟨(true), h, rfl⟩
              ·refine WP.path tab_ok mixed [(216, An.b false)] [.keep [219, 31, 13, 12, 11, 7, 6, 5, 4, 3, 2], .keepO [2003, 2011], .names [(2003, 2003), (2011, 2011)]] (ps := [((!r211b) = false)]) (e := .normal) (σ' := ⟨[2003, 2011], [(219, vb !r211), (31, vi v31), (13, vbl (faL r83 r83b r83c)), (12, vi r83c), (11, V.ref 2011 0), (7, vb r56c), (6, vi r56b), (5, V.t (T.list (List.length r56) 2 (List.flatMap askedC r56))), (4, vl r50c), (3, V.ref 2003 0), (2, vb false)], [(2003, oc 28 [tl r50, ti r50b]), (2011, oc 28 [tl r83, ti r83b])]⟩) (by kernel_rfl) ⟨h20, trivial⟩ ?_
               exact ⟨(!r211), h, rfl⟩
             ·intro v219 h0
              have h := (show J2 v219 = some y0 from h0)
              rw [hJ2] at h
              rcases ite_some h with ⟨h21, h⟩ | ⟨h21, h⟩
              ·refine WP.cond (b := v219) rfl (fun _ => ?_) (fun hh => by rw [h21] at hh; cases hh)
               have h := Option.some.inj h
               subst h
               exact WP.pathW tab_ok mixed [] _ (ps := []) (r := tb false) (by kernel_rfl) trivial (WkT.eq (y := tb false) (WkT.refl _) rfl) (fun _ h => h)
              ·refine WP.cond (b := v219) rfl (fun hh => by rw [h21] at hh; cases hh) (fun _ => ?_)
               refine WP.path tab_ok mixed [] [.keep [31, 13, 12, 11, 7, 6, 5, 4, 3, 2], .keepO [2003, 2011]] (ps := []) (e := .normal) (σ' := ⟨[2003, 2011], [(31, vi v31), (13, vbl (faL r83 r83b r83c)), (12, vi r83c), (11, V.ref 2011 0), (7, vb r56c), (6, vi r56b), (5, V.t (T.list (List.length r56) 2 (List.flatMap askedC r56))), (4, vl r50c), (3, V.ref 2003 0), (2, vb false)], [(2003, oc 28 [tl r50, ti r50b]), (2011, oc 28 [tl r83, ti r83b])]⟩) (by kernel_rfl) trivial ?_
               obtain ⟨c11, h⟩ := chk_some h
               refine WP.path tab_ok mixed [(202, An.v (T.int .i64 (v31 + (1 : Int))))] [.keep [31, 13, 12, 11, 7, 6, 5, 4, 3, 2], .keepO [2003, 2011], .names [(2003, 2003), (2011, 2011)]] (ps := [(True), (T.int .i64 (IntKind.wrap .i64 (v31 + (1 : Int))) = T.int .i64 (v31 + (1 : Int)))]) (e := .normal) (σ' := ⟨[2003, 2011], [(31, vi (v31 + (1 : Int))), (13, vbl (faL r83 r83b r83c)), (12, vi r83c), (11, V.ref 2011 0), (7, vb r56c), (6, vi r56b), (5, V.t (T.list (List.length r56) 2 (List.flatMap askedC r56))), (4, vl r50c), (3, V.ref 2003 0), (2, vb false)], [(2003, oc 28 [tl r50, ti r50b]), (2011, oc 28 [tl r83, ti r83b])]⟩) (by kernel_rfl) ⟨trivial, wrapI c11, trivial⟩ ?_
               exact ⟨(n, (v31 + (1 : Int))), h, Nat.lt_succ_self _, rfl⟩
            ·refine WP.cond (b := decide (v31 < ((List.length (faL r83 r83b r83c) : Nat) : Int))) rfl (fun hh => by rw [h19] at hh; cases hh) (fun _ => ?_)
             refine WP.path tab_ok mixed [] [.keep [7, 6, 5, 4, 3, 2], .keepO [2003], .names [(2003, 2003)]] (ps := []) (e := (.exit 2)) (σ' := ⟨[2003], [(7, vb r56c), (6, vi r56b), (5, V.t (T.list (List.length r56) 2 (List.flatMap askedC r56))), (4, vl r50c), (3, V.ref 2003 0), (2, vb false)], [(2003, oc 28 [tl r50, ti r50b])]⟩) (by kernel_rfl) trivial ?_
             exact ⟨(), h, rfl⟩
          ·refine WP.cond (b := faB r83 r83b r83c) rfl (fun hh => by rw [h18] at hh; cases hh) (fun _ => ?_)
           refine WP.path tab_ok mixed [] [.keep [7, 6, 5, 4, 3, 2], .keepO [2003], .names [(2003, 2003)]] (ps := []) (e := .normal) (σ' := ⟨[2003], [(7, vb r56c), (6, vi r56b), (5, V.t (T.list (List.length r56) 2 (List.flatMap askedC r56))), (4, vl r50c), (3, V.ref 2003 0), (2, vb false)], [(2003, oc 28 [tl r50, ti r50b])]⟩) (by kernel_rfl) trivial ?_
           exact ⟨(), h, rfl⟩
         ·intro _ h0
          have h := (show J1 () = some y0 from h0)
          rw [hJ1] at h
          refine WP.seq ?_
          refine WP.seq ?_
          refine WP.path tab_ok mixed [] [.keep [221, 6, 5, 4, 3, 2], .keepO [2003]] (ps := []) (e := .normal) (σ' := ⟨[2003], [(221, vb !r56c), (6, vi r56b), (5, V.t (T.list (List.length r56) 2 (List.flatMap askedC r56))), (4, vl r50c), (3, V.ref 2003 0), (2, vb false)], [(2003, oc 28 [tl r50, ti r50b])]⟩) (by kernel_rfl) trivial ?_
          rcases ite_some h with ⟨h22, h⟩ | ⟨h22, h⟩
          ·refine WP.cond (b := !r56c) rfl (fun _ => ?_) (fun hh => by rw [h22] at hh; cases hh)
           have h := Option.some.inj h
           subst h
           exact WP.pathW tab_ok mixed [] _ (ps := []) (r := tb true) (by kernel_rfl) trivial (WkT.eq (y := tb true) (WkT.refl _) rfl) (fun _ h => h)
          ·refine WP.cond (b := !r56c) rfl (fun hh => by rw [h22] at hh; cases hh) (fun _ => ?_)
           refine WP.path tab_ok mixed [] [.keep [6, 5, 4, 3, 2], .keepO [2003]] (ps := []) (e := .normal) (σ' := ⟨[2003], [(6, vi r56b), (5, V.t (T.list (List.length r56) 2 (List.flatMap askedC r56))), (4, vl r50c), (3, V.ref 2003 0), (2, vb false)], [(2003, oc 28 [tl r50, ti r50b])]⟩) (by kernel_rfl) trivial ?_
           refine WP.seq ?_
           obtain ⟨r225, r225b, c9, h⟩ := bnd2_some h
           refine WP.path tab_ok mixed [(225, An.call (T.tup [tb r225, tb r225b]))] [.keep [35, 34, 6, 5, 4, 3, 2], .keepO [2003]] (ps := [(0 + 2 ≤ 2), (C Try.prog 24 [T.agg [tl r50, ti r50b], tl r50c] (T.tup [tb r225, tb r225b]))]) (e := .normal) (σ' := ⟨[2003], [(35, vb r225b), (34, vb r225), (6, vi r56b), (5, V.t (T.list (List.length r56) 2 (List.flatMap askedC r56))), (4, vl r50c), (3, V.ref 2003 0), (2, vb false)], [(2003, oc 28 [tl r50, ti r50b])]⟩) (by kernel_rfl) ⟨by decide, (F_impl_RaceWins_W r50 r50b r50c r225 r225b c9), trivial⟩ ?_
           refine WP.seq ?_
           obtain ⟨r231, r231b, c10, h⟩ := bnd2_some h
           refine WP.path tab_ok mixed [(231, An.call (T.tup [ti r231, tb r231b]))] [.keep [37, 36, 35, 34, 6, 5, 4, 3, 2], .keepO [2003]] (ps := [(0 + 2 ≤ 2), (C Try.prog 20 [T.agg [tl r50, ti r50b], tl r50c] (T.tup [ti r231, tb r231b]))]) (e := .normal) (σ' := ⟨[2003], [(37, vb r231b), (36, vi r231), (35, vb r225b), (34, vb r225), (6, vi r56b), (5, V.t (T.list (List.length r56) 2 (List.flatMap askedC r56))), (4, vl r50c), (3, V.ref 2003 0), (2, vb false)], [(2003, oc 28 [tl r50, ti r50b])]⟩) (by kernel_rfl) ⟨by decide, (F_impl_LongestRace_W r50 r50b r50c r231 r231b c10), trivial⟩ ?_
           refine WP.seq ?_
           obtain ⟨r237, r237b, c11, h⟩ := bnd2_some h
           refine WP.path tab_ok mixed [(237, An.call (T.tup [ti r237, tb r237b]))] [.keep [39, 38, 37, 36, 35, 34, 6, 5, 3, 2], .keepO [2003]] (ps := [(0 + 2 ≤ 2), (C Try.prog 22 [T.agg [tl r50, ti r50b], tl r50c] (T.tup [ti r237, tb r237b]))]) (e := .normal) (σ' := ⟨[2003], [(39, vb r237b), (38, vi r237), (37, vb r231b), (36, vi r231), (35, vb r225b), (34, vb r225), (6, vi r56b), (5, V.t (T.list (List.length r56) 2 (List.flatMap askedC r56))), (3, V.ref 2003 0), (2, vb false)], [(2003, oc 28 [tl r50, ti r50b])]⟩) (by kernel_rfl) ⟨by decide, (F_impl_ShortestRace_W r50 r50b r50c r237 r237b c11), trivial⟩ ?_
           refine WP.seq ?_
           obtain ⟨J1, hJ1, h⟩ := jn_some h
           refine WP.joinA (fun (zz : Bool) => ⟨[2003], [(267, vb zz), (5, V.t (T.list (List.length r56) 2 (List.flatMap askedC r56))), (3, V.ref 2003 0), (2, vb false)], [(2003, oc 28 [tl r50, ti r50b])]⟩) (fun zz => J1 zz = some y0) ?_ ?_
           ·rcases ite_some h with ⟨h23, h⟩ | ⟨h23, h⟩
            ·refine WP.path tab_ok mixed [(242, An.b true)] [.keep [267, 5, 3, 2], .keepO [2003], .names [(2003, 2003)]] (ps := [((!r225b) = true)]) (e := .normal) (σ' := ⟨[2003], [(267, vb true), (5, V.t (T.list (List.length r56) 2 (List.flatMap askedC r56))), (3, V.ref 2003 0), (2, vb false)], [(2003, oc 28 [tl r50, ti r50b])]⟩) (by kernel_rfl) ⟨h23, trivial⟩ ?_
             exact ⟨(true), h, rfl⟩
            ·rcases ite_some h with ⟨h24, h⟩ | ⟨h24, h⟩
             ·refine WP.path tab_ok mixed [(242, An.b false), (246, An.b true)] [.keep [267, 5, 3, 2], .keepO [2003], .names [(2003, 2003)]] (ps := [((!r225b) = false), ((!r231b) = true)]) (e := .normal) (σ' := ⟨[2003], [(267, vb true), (5, V.t (T.list (List.length r56) 2 (List.flatMap askedC r56))), (3, V.ref 2003 0), (2, vb false)], [(2003, oc 28 [tl r50, ti r50b])]⟩) (by kernel_rfl) ⟨h23, h24, trivial⟩ ?_
              exact ⟨(true), h, rfl⟩
             ·rcases ite_some h with ⟨h25, h⟩ | ⟨h25, h⟩
              ·refine WP.path tab_ok mixed [(242, An.b false), (246, An.b false), (250, An.b true)] [.keep [267, 5, 3, 2], .keepO [2003], .names [(2003, 2003)]] (ps := [((!r225b) = false), ((!r231b) = false), ((!r237b) = true)]) (e := .normal) (σ' := ⟨[2003], [(267, vb true), (5, V.t (T.list (List.length r56) 2 (List.flatMap askedC r56))), (3, V.ref 2003 0), (2, vb false)], [(2003, oc 28 [tl r50, ti r50b])]⟩) (by kernel_rfl) ⟨h23, h24, h25, trivial⟩ ?_
               exact ⟨(true), h, rfl⟩
              ·rcases ite_some h with ⟨h26, h⟩ | ⟨h26, h⟩
               ·refine WP.path tab_ok mixed [(242, An.b false), (246, An.b false), (250, An.b false), (254, An.b true)] [.keep [267, 5, 3, 2], .keepO [2003], .names [(2003, 2003)]] (ps := [((!r225b) = false), ((!r231b) = false), ((!r237b) = false), (True), (True), ((!(r225 == (r56b == (0 : Int)))) = true)]) (e := .normal) (σ' := ⟨[2003], [(267, vb true), (5, V.t (T.list (List.length r56) 2 (List.flatMap askedC r56))), (3, V.ref 2003 0), (2, vb false)], [(2003, oc 28 [tl r50, ti r50b])]⟩) (by kernel_rfl) ⟨h23, h24, h25, trivial, trivial, h26, trivial⟩ ?_
                exact ⟨(true), h, rfl⟩
               ·rcases ite_some h with ⟨h27, h⟩ | ⟨h27, h⟩
                ·refine WP.path tab_ok mixed [(242, An.b false), (246, An.b false), (250, An.b false), (254, An.b false), (260, An.b true)] [.keep [267, 5, 3, 2], .keepO [2003], .names [(2003, 2003)]] (ps := [((!r225b) = false), ((!r231b) = false), ((!r237b) = false), (True), (True), ((!(r225 == (r56b == (0 : Int)))) = false), (True), ((decide (((List.length r56 : Nat) : Int) > r231)) = true)]) (e := .normal) (σ' := ⟨[2003], [(267, vb true), (5, V.t (T.list (List.length r56) 2 (List.flatMap askedC r56))), (3, V.ref 2003 0), (2, vb false)], [(2003, oc 28 [tl r50, ti r50b])]⟩) (by kernel_rfl) ⟨h23, h24, h25, trivial, trivial, h26, trivial, h27, trivial⟩ ?_
                 exact ⟨(true), h, rfl⟩
                ·refine WP.path tab_ok mixed [(242, An.b false), (246, An.b false), (250, An.b false), (254, An.b false), (260, An.b false)] [.keep [267, 5, 3, 2], .keepO [2003], .names [(2003, 2003)]] (ps := [((!r225b) = false), ((!r231b) = false), ((!r237b) = false), (True), (True), ((!(r225 == (r56b == (0 : Int)))) = false), (True), ((decide (((List.length r56 : Nat) : Int) > r231)) = false), (True)]) (e := .normal) (σ' := ⟨[2003], [(267, vb (decide (((List.length r56 : Nat) : Int) < r237))), (5, V.t (T.list (List.length r56) 2 (List.flatMap askedC r56))), (3, V.ref 2003 0), (2, vb false)], [(2003, oc 28 [tl r50, ti r50b])]⟩) (by kernel_rfl) ⟨h23, h24, h25, trivial, trivial, h26, trivial, h27, trivial, trivial⟩ ?_
                 exact ⟨(decide (((List.length r56 : Nat) : Int) < r237)), h, rfl⟩
           ·intro v267 h0
            have h := (show J1 v267 = some y0 from h0)
            rw [hJ1] at h
            rcases ite_some h with ⟨h28, h⟩ | ⟨h28, h⟩
            ·refine WP.cond (b := v267) rfl (fun _ => ?_) (fun hh => by rw [h28] at hh; cases hh)
             have h := Option.some.inj h
             subst h
             exact WP.pathW tab_ok mixed [] _ (ps := []) (r := tb false) (by kernel_rfl) trivial (WkT.eq (y := tb false) (WkT.refl _) rfl) (fun _ h => h)
            ·refine WP.cond (b := v267) rfl (fun hh => by rw [h28] at hh; cases hh) (fun _ => ?_)
             refine WP.path tab_ok mixed [] [.keep [5, 3, 2], .keepO [2003]] (ps := []) (e := .normal) (σ' := ⟨[2003], [(5, V.t (T.list (List.length r56) 2 (List.flatMap askedC r56))), (3, V.ref 2003 0), (2, vb false)], [(2003, oc 28 [tl r50, ti r50b])]⟩) (by kernel_rfl) trivial ?_
             refine WP.seq ?_
             refine WP.path tab_ok mixed [(40, An.id 2040)] [.keep [40, 5, 2], .keepO [2040]] (ps := [(0 + 2 ≤ 2), ((0 + 2 ≤ 2 ∧ 2 = 2))]) (e := .normal) (σ' := ⟨[2040, 2003], [(40, V.ref 2040 0), (5, V.t (T.list (List.length r56) 2 (List.flatMap askedC r56))), (2, vb false)], [(2040, oc 28 [tl r50, ti r50b])]⟩) (by kernel_rfl) ⟨by decide, by decide, trivial⟩ ?_
             obtain ⟨J1, hJ1, h⟩ := jn_some h
             refine WP.joinA (fun (zz : Unit) => ⟨[], [(2, vb false)], []⟩) (fun zz => J1 () = some y0) ?_ ?_
             ·refine WP.seq ?_
              refine WP.path tab_ok mixed [] [.keep [41, 40, 5, 2], .keepO [2040]] (ps := []) (e := .normal) (σ' := ⟨[2040, 2003], [(41, vi 0), (40, V.ref 2040 0), (5, V.t (T.list (List.length r56) 2 (List.flatMap askedC r56))), (2, vb false)], [(2040, oc 28 [tl r50, ti r50b])]⟩) (by kernel_rfl) trivial ?_
              refine WP.block ?_
              refine WP.wk [.keep [41, 40, 5, 2], .keepO [2040], .names [(2040, 2040)]] (σ' := ⟨[2040], [(41, vi 0), (40, V.ref 2040 0), (5, V.t (T.list (List.length r56) 2 (List.flatMap askedC r56))), (2, vb false)], [(2040, oc 28 [tl r50, ti r50b])]⟩) (ps := []) (by kernel_rfl) trivial ?_
              refine WP.st (σ' := ⟨[2040], [(41, vi (0 : Int)), (40, V.ref 2040 0), (5, V.t (T.list (List.length r56) 2 (List.flatMap askedC r56))), (2, vb false)], [(2040, oc 28 [tl r50, ti r50b])]⟩) rfl ?_
              refine WP.loop (α := Nat × (List Int) × Int × Int) (fun zz => ⟨[2040], [(41, vi zz.2.2.2), (40, V.ref 2040 0), (5, V.t (T.list (List.length r56) 2 (List.flatMap askedC r56))), (2, vb false)], [(2040, oc 28 [tl zz.2.1, ti zz.2.2.1])]⟩) (fun zz => F_laws_FnRacePlays_L3 r56 J1 zz.1 zz.2.1 zz.2.2.1 zz.2.2.2 = some y0) (fun zz => zz.1) (fuel, r50, r50b, (0 : Int)) h ?_
              rintro ⟨n, o40, o40b, v41⟩ h0
              have h := (show F_laws_FnRacePlays_L3 r56 J1 n o40 o40b v41 = some y0 from h0)
              rcases n with _ | n
              ·rw [F_laws_FnRacePlays_L3] at h; cases h
              ·rw [F_laws_FnRacePlays_L3] at h
               refine WP.seq ?_
               refine WP.seq ?_
               refine WP.path tab_ok mixed [] [.keep [272, 41, 40, 5, 2], .keepO [2040]] (ps := [(True)]) (e := .normal) (σ' := ⟨[2040], [(272, vb (decide (v41 < ((List.length r56 : Nat) : Int)))), (41, vi v41), (40, V.ref 2040 0), (5, V.t (T.list (List.length r56) 2 (List.flatMap askedC r56))), (2, vb false)], [(2040, oc 28 [tl o40, ti o40b])]⟩) (by kernel_rfl) ⟨trivial, trivial⟩ ?_
               rcases ite_some h with ⟨h29, h⟩ | ⟨h29, h⟩
               ·refine WP.cond (b := decide (v41 < ((List.length r56 : Nat) : Int))) rfl (fun _ => ?_) (fun hh => by rw [h29] at hh; cases hh)
                refine WP.path tab_ok mixed [] [.keep [41, 40, 5, 2], .keepO [2040]] (ps := []) (e := .normal) (σ' := ⟨[2040], [(41, vi v41), (40, V.ref 2040 0), (5, V.t (T.list (List.length r56) 2 (List.flatMap askedC r56))), (2, vb false)], [(2040, oc 28 [tl o40, ti o40b])]⟩) (by kernel_rfl) trivial ?_
                refine WP.seq ?_
                refine WP.block ?_
                refine WP.seq ?_
                obtain ⟨c12, h⟩ := chk_some h
                obtain ⟨c13, h⟩ := chk_some h
                refine WP.path tab_ok mixed [(280, An.v (T.agg [ti ((List.getD r56 (Int.toNat v41) (0, false)).1), tb ((List.getD r56 (Int.toNat v41) (0, false)).2)])), (281, An.call (T.tup [T.agg [tl (asL o40 o40b ((List.getD r56 (Int.toNat v41) (0, false)).1) ((List.getD r56 (Int.toNat v41) (0, false)).2)), ti (asM o40 o40b ((List.getD r56 (Int.toNat v41) (0, false)).1) ((List.getD r56 (Int.toNat v41) (0, false)).2))], tb (asB o40 o40b ((List.getD r56 (Int.toNat v41) (0, false)).1))])), (42, An.id 2042)] [.keep [43, 42, 41, 40, 5, 2], .keepO [2040, 2042]] (ps := [(0 + 2 ≤ 2), ((0 ≤ v41 ∧ v41 < ((List.length r56 : Nat) : Int))), (2 ≤ List.length (List.drop ((Int.toNat v41) * 2) (List.flatMap askedC r56))), (T.agg (List.take 2 (List.drop ((Int.toNat v41) * 2) (List.flatMap askedC r56))) = T.agg [ti ((List.getD r56 (Int.toNat v41) (0, false)).1), tb ((List.getD r56 (Int.toNat v41) (0, false)).2)]), (C Try.prog 56 [T.agg [tl o40, ti o40b], T.agg [ti ((List.getD r56 (Int.toNat v41) (0, false)).1), tb ((List.getD r56 (Int.toNat v41) (0, false)).2)]] (T.tup [T.agg [tl (asL o40 o40b ((List.getD r56 (Int.toNat v41) (0, false)).1) ((List.getD r56 (Int.toNat v41) (0, false)).2)), ti (asM o40 o40b ((List.getD r56 (Int.toNat v41) (0, false)).1) ((List.getD r56 (Int.toNat v41) (0, false)).2))], tb (asB o40 o40b ((List.getD r56 (Int.toNat v41) (0, false)).1))])), ((0 + 2 ≤ 2 ∧ 2 = 2))]) (e := .normal) (σ' := ⟨[2042, 2040], [(43, vb (asB o40 o40b ((List.getD r56 (Int.toNat v41) (0, false)).1))), (42, V.ref 2042 0), (41, vi v41), (40, V.ref 2040 0), (5, V.t (T.list (List.length r56) 2 (List.flatMap askedC r56))), (2, vb false)], [(2040, oc 28 [tl o40, ti o40b]), (2042, oc 28 [tl (asL o40 o40b ((List.getD r56 (Int.toNat v41) (0, false)).1) ((List.getD r56 (Int.toNat v41) (0, false)).2)), ti (asM o40 o40b ((List.getD r56 (Int.toNat v41) (0, false)).1) ((List.getD r56 (Int.toNat v41) (0, false)).2))])]⟩) (by kernel_rfl) ⟨by decide, c12, fit_asked (i := Int.toNat v41) (by simp) (by omega), at_asked (by simp) (by omega), (iAnswerState_C o40 o40b ((List.getD r56 (Int.toNat v41) (0, false)).1) ((List.getD r56 (Int.toNat v41) (0, false)).2) c13), by decide, trivial⟩ ?_
                refine WP.seq ?_
                obtain ⟨r286, r286b, c14, h⟩ := bnd2_some h
                refine WP.path tab_ok mixed [(286, An.call (T.tup [tl r286, tb r286b]))] [.keep [45, 44, 43, 42, 41, 40, 5, 2], .keepO [2040, 2042]] (ps := [(0 + 2 ≤ 2), (C Try.prog 58 [T.agg [tl (asL o40 o40b ((List.getD r56 (Int.toNat v41) (0, false)).1) ((List.getD r56 (Int.toNat v41) (0, false)).2)), ti (asM o40 o40b ((List.getD r56 (Int.toNat v41) (0, false)).1) ((List.getD r56 (Int.toNat v41) (0, false)).2))]] (T.tup [tl r286, tb r286b]))]) (e := .normal) (σ' := ⟨[2042, 2040], [(45, vb r286b), (44, vl r286), (43, vb (asB o40 o40b ((List.getD r56 (Int.toNat v41) (0, false)).1))), (42, V.ref 2042 0), (41, vi v41), (40, V.ref 2040 0), (5, V.t (T.list (List.length r56) 2 (List.flatMap askedC r56))), (2, vb false)], [(2040, oc 28 [tl o40, ti o40b]), (2042, oc 28 [tl (asL o40 o40b ((List.getD r56 (Int.toNat v41) (0, false)).1) ((List.getD r56 (Int.toNat v41) (0, false)).2)), ti (asM o40 o40b ((List.getD r56 (Int.toNat v41) (0, false)).1) ((List.getD r56 (Int.toNat v41) (0, false)).2))])]⟩) (by kernel_rfl) ⟨by decide, (F_impl_OpenNumbers_W_C (asL o40 o40b ((List.getD r56 (Int.toNat v41) (0, false)).1) ((List.getD r56 (Int.toNat v41) (0, false)).2)) (asM o40 o40b ((List.getD r56 (Int.toNat v41) (0, false)).1) ((List.getD r56 (Int.toNat v41) (0, false)).2)) r286 r286b c14), trivial⟩ ?_
                refine WP.seq ?_
                obtain ⟨J2, hJ2, h⟩ := jn_some h
                refine WP.joinA (fun (zz : Bool) => ⟨[2040, 2042], [(311, vb zz), (42, V.ref 2042 0), (41, vi v41), (40, V.ref 2040 0), (5, V.t (T.list (List.length r56) 2 (List.flatMap askedC r56))), (2, vb false)], [(2040, oc 28 [tl o40, ti o40b]), (2042, oc 28 [tl (asL o40 o40b ((List.getD r56 (Int.toNat v41) (0, false)).1) ((List.getD r56 (Int.toNat v41) (0, false)).2)), ti (asM o40 o40b ((List.getD r56 (Int.toNat v41) (0, false)).1) ((List.getD r56 (Int.toNat v41) (0, false)).2))])]⟩) (fun zz => J2 zz = some y0) ?_ ?_
                ·rcases ite_some h with ⟨h30, h⟩ | ⟨h30, h⟩
                 ·refine WP.path tab_ok mixed [(291, An.b true)] [.keep [311, 42, 41, 40, 5, 2], .keepO [2040, 2042], .names [(2040, 2040), (2042, 2042)]] (ps := [((!(asB o40 o40b ((List.getD r56 (Int.toNat v41) (0, false)).1))) = true)]) (e := .normal) (σ' := ⟨[2040, 2042], [(311, vb true), (42, V.ref 2042 0), (41, vi v41), (40, V.ref 2040 0), (5, V.t (T.list (List.length r56) 2 (List.flatMap askedC r56))), (2, vb false)], [(2040, oc 28 [tl o40, ti o40b]), (2042, oc 28 [tl (asL o40 o40b ((List.getD r56 (Int.toNat v41) (0, false)).1) ((List.getD r56 (Int.toNat v41) (0, false)).2)), ti (asM o40 o40b ((List.getD r56 (Int.toNat v41) (0, false)).1) ((List.getD r56 (Int.toNat v41) (0, false)).2))])]⟩) (by kernel_rfl) ⟨h30, trivial⟩ ?_
                  exact ⟨(true), h, rfl⟩
                 ·rcases ite_some h with ⟨h31, h⟩ | ⟨h31, h⟩
                  ·refine WP.path tab_ok mixed [(291, An.b false), (295, An.b true)] [.keep [311, 42, 41, 40, 5, 2], .keepO [2040, 2042], .names [(2040, 2040), (2042, 2042)]] (ps := [((!(asB o40 o40b ((List.getD r56 (Int.toNat v41) (0, false)).1))) = false), ((!r286b) = true)]) (e := .normal) (σ' := ⟨[2040, 2042], [(311, vb true), (42, V.ref 2042 0), (41, vi v41), (40, V.ref 2040 0), (5, V.t (T.list (List.length r56) 2 (List.flatMap askedC r56))), (2, vb false)], [(2040, oc 28 [tl o40, ti o40b]), (2042, oc 28 [tl (asL o40 o40b ((List.getD r56 (Int.toNat v41) (0, false)).1) ((List.getD r56 (Int.toNat v41) (0, false)).2)), ti (asM o40 o40b ((List.getD r56 (Int.toNat v41) (0, false)).1) ((List.getD r56 (Int.toNat v41) (0, false)).2))])]⟩) (by kernel_rfl) ⟨h30, h31, trivial⟩ ?_
                   exact ⟨(true), h, rfl⟩
                  ·rcases ite_some h with ⟨h32, h⟩ | ⟨h32, h⟩
                   ·refine WP.path tab_ok mixed [(291, An.b false), (295, An.b false), (298, An.b true)] [.keep [311, 42, 41, 40, 5, 2], .keepO [2040, 2042], .names [(2040, 2040), (2042, 2042)]] (ps := [((!(asB o40 o40b ((List.getD r56 (Int.toNat v41) (0, false)).1))) = false), ((!r286b) = false), (True), ((((List.length r286 : Nat) : Int) == (0 : Int)) = true)]) (e := .normal) (σ' := ⟨[2040, 2042], [(311, vb true), (42, V.ref 2042 0), (41, vi v41), (40, V.ref 2040 0), (5, V.t (T.list (List.length r56) 2 (List.flatMap askedC r56))), (2, vb false)], [(2040, oc 28 [tl o40, ti o40b]), (2042, oc 28 [tl (asL o40 o40b ((List.getD r56 (Int.toNat v41) (0, false)).1) ((List.getD r56 (Int.toNat v41) (0, false)).2)), ti (asM o40 o40b ((List.getD r56 (Int.toNat v41) (0, false)).1) ((List.getD r56 (Int.toNat v41) (0, false)).2))])]⟩) (by kernel_rfl) ⟨h30, h31, trivial, h32, trivial⟩ ?_
                    exact ⟨(true), h, rfl⟩
                   ·rcases ite_some h with ⟨h33, h⟩ | ⟨h33, h⟩
                    ·obtain ⟨c15, h⟩ := chk_some h
                     refine WP.path tab_ok mixed [(291, An.b false), (295, An.b false), (298, An.b false), (303, An.b true), (306, An.v (T.int .i64 (v41 + (1 : Int))))] [.keep [311, 42, 41, 40, 5, 2], .keepO [2040, 2042], .names [(2040, 2040), (2042, 2042)]] (ps := [((!(asB o40 o40b ((List.getD r56 (Int.toNat v41) (0, false)).1))) = false), ((!r286b) = false), (True), ((((List.length r286 : Nat) : Int) == (0 : Int)) = false), (True), ((((List.length r286 : Nat) : Int) == (1 : Int)) = true), (True), (T.int .i64 (IntKind.wrap .i64 (v41 + (1 : Int))) = T.int .i64 (v41 + (1 : Int))), (True)]) (e := .normal) (σ' := ⟨[2040, 2042], [(311, vb (decide ((v41 + (1 : Int)) < ((List.length r56 : Nat) : Int)))), (42, V.ref 2042 0), (41, vi v41), (40, V.ref 2040 0), (5, V.t (T.list (List.length r56) 2 (List.flatMap askedC r56))), (2, vb false)], [(2040, oc 28 [tl o40, ti o40b]), (2042, oc 28 [tl (asL o40 o40b ((List.getD r56 (Int.toNat v41) (0, false)).1) ((List.getD r56 (Int.toNat v41) (0, false)).2)), ti (asM o40 o40b ((List.getD r56 (Int.toNat v41) (0, false)).1) ((List.getD r56 (Int.toNat v41) (0, false)).2))])]⟩) (by kernel_rfl) ⟨h30, h31, trivial, h32, trivial, h33, trivial, wrapI c15, trivial, trivial⟩ ?_
                     exact ⟨(decide ((v41 + (1 : Int)) < ((List.length r56 : Nat) : Int))), h, rfl⟩
                    ·refine WP.path tab_ok mixed [(291, An.b false), (295, An.b false), (298, An.b false), (303, An.b false)] [.keep [311, 42, 41, 40, 5, 2], .keepO [2040, 2042], .names [(2040, 2040), (2042, 2042)]] (ps := [((!(asB o40 o40b ((List.getD r56 (Int.toNat v41) (0, false)).1))) = false), ((!r286b) = false), (True), ((((List.length r286 : Nat) : Int) == (0 : Int)) = false), (True), ((((List.length r286 : Nat) : Int) == (1 : Int)) = false)]) (e := .normal) (σ' := ⟨[2040, 2042], [(311, vb false), (42, V.ref 2042 0), (41, vi v41), (40, V.ref 2040 0), (5, V.t (T.list (List.length r56) 2 (List.flatMap askedC r56))), (2, vb false)], [(2040, oc 28 [tl o40, ti o40b]), (2042, oc 28 [tl (asL o40 o40b ((List.getD r56 (Int.toNat v41) (0, false)).1) ((List.getD r56 (Int.toNat v41) (0, false)).2)), ti (asM o40 o40b ((List.getD r56 (Int.toNat v41) (0, false)).1) ((List.getD r56 (Int.toNat v41) (0, false)).2))])]⟩) (by kernel_rfl) ⟨h30, h31, trivial, h32, trivial, h33, trivial⟩ ?_
                     exact ⟨(false), h, rfl⟩
                ·intro v311 h0
                 have h := (show J2 v311 = some y0 from h0)
                 rw [hJ2] at h
                 rcases ite_some h with ⟨h34, h⟩ | ⟨h34, h⟩
                 ·refine WP.cond (b := v311) rfl (fun _ => ?_) (fun hh => by rw [h34] at hh; cases hh)
                  have h := Option.some.inj h
                  subst h
                  exact WP.pathW tab_ok mixed [] _ (ps := []) (r := tb false) (by kernel_rfl) trivial (WkT.eq (y := tb false) (WkT.refl _) rfl) (fun _ h => h)
                 ·refine WP.cond (b := v311) rfl (fun hh => by rw [h34] at hh; cases hh) (fun _ => ?_)
                  refine WP.path tab_ok mixed [] [.keep [42, 41, 40, 5, 2], .keepO [2040, 2042]] (ps := []) (e := .normal) (σ' := ⟨[2040, 2042], [(42, V.ref 2042 0), (41, vi v41), (40, V.ref 2040 0), (5, V.t (T.list (List.length r56) 2 (List.flatMap askedC r56))), (2, vb false)], [(2040, oc 28 [tl o40, ti o40b]), (2042, oc 28 [tl (asL o40 o40b ((List.getD r56 (Int.toNat v41) (0, false)).1) ((List.getD r56 (Int.toNat v41) (0, false)).2)), ti (asM o40 o40b ((List.getD r56 (Int.toNat v41) (0, false)).1) ((List.getD r56 (Int.toNat v41) (0, false)).2))])]⟩) (by kernel_rfl) trivial ?_
                  refine WP.path tab_ok mixed [] [.keep [41, 40, 5, 2], .keepO [2040]] (ps := [(0 + 2 ≤ 2), ((0 + 2 ≤ 2 ∧ 2 = 2))]) (e := .normal) (σ' := ⟨[2040, 2042], [(41, vi v41), (40, V.ref 2040 0), (5, V.t (T.list (List.length r56) 2 (List.flatMap askedC r56))), (2, vb false)], [(2040, oc 28 [tl (asL o40 o40b ((List.getD r56 (Int.toNat v41) (0, false)).1) ((List.getD r56 (Int.toNat v41) (0, false)).2)), ti (asM o40 o40b ((List.getD r56 (Int.toNat v41) (0, false)).1) ((List.getD r56 (Int.toNat v41) (0, false)).2))])]⟩) (by kernel_rfl) ⟨by decide, by decide, trivial⟩ ?_
                  obtain ⟨c15, h⟩ := chk_some h
                  refine WP.path tab_ok mixed [(274, An.v (T.int .i64 (v41 + (1 : Int))))] [.keep [41, 40, 5, 2], .keepO [2040], .names [(2040, 2040)]] (ps := [(True), (T.int .i64 (IntKind.wrap .i64 (v41 + (1 : Int))) = T.int .i64 (v41 + (1 : Int)))]) (e := .normal) (σ' := ⟨[2040], [(41, vi (v41 + (1 : Int))), (40, V.ref 2040 0), (5, V.t (T.list (List.length r56) 2 (List.flatMap askedC r56))), (2, vb false)], [(2040, oc 28 [tl (asL o40 o40b ((List.getD r56 (Int.toNat v41) (0, false)).1) ((List.getD r56 (Int.toNat v41) (0, false)).2)), ti (asM o40 o40b ((List.getD r56 (Int.toNat v41) (0, false)).1) ((List.getD r56 (Int.toNat v41) (0, false)).2))])]⟩) (by kernel_rfl) ⟨trivial, wrapI c15, trivial⟩ ?_
                  exact ⟨(n, asL o40 o40b ((List.getD r56 (Int.toNat v41) (0, false)).1) ((List.getD r56 (Int.toNat v41) (0, false)).2), (asM o40 o40b ((List.getD r56 (Int.toNat v41) (0, false)).1) ((List.getD r56 (Int.toNat v41) (0, false)).2)), (v41 + (1 : Int))), h, Nat.lt_succ_self _, rfl⟩
               ·refine WP.cond (b := decide (v41 < ((List.length r56 : Nat) : Int))) rfl (fun hh => by rw [h29] at hh; cases hh) (fun _ => ?_)
                refine WP.path tab_ok mixed [] [.keep [2], .keepO [], .names []] (ps := []) (e := (.exit 4)) (σ' := ⟨[], [(2, vb false)], []⟩) (by kernel_rfl) trivial ?_
                exact ⟨(), h, rfl⟩
             ·intro _ h0
              have h := (show J1 () = some y0 from h0)
              rw [hJ1] at h
              have h := Option.some.inj h
              subst h
              exact WP.pathW tab_ok mixed [] _ (ps := []) (r := tb true) (by kernel_rfl) trivial (WkT.eq (y := tb true) (WkT.refl _) rfl) (fun _ h => h)

end Go.Proofs.Ytnpdbllidpijfaa.AuRacePlays
