/-
  The walks: each function of the program returns what the plain function beside it returns. No statement is proved here.
-/
import Derived.Test.YtfhmgiipcmmnlaaDoorTlGroupc

import Derived.Test.YtfhmgiipcmmnlaaDoorAuStatesF
import Derived.Test.YtfhmgiipcmmnlaaDoorProg
import Derived.Test.YtfhmgiipcmmnlaaDoorAuStatesO
namespace Go.Proofs.YtfhmgiipcmmnlaaDoor.AuStatesa
open Go Go.Tl Go.Proofs
open Go.Proofs.YtfhmgiipcmmnlaaDoor.AuStatesO hiding tab tab_ok mixed
set_option linter.unusedVariables false
set_option linter.unusedSimpArgs false
set_option maxRecDepth 100000
def tab : Tab := [(3, ⟨.int .i64, 1, 8, [.int .i64 0]⟩), (4, ⟨.bool, 1, 1, [.bool false]⟩), (5, ⟨.int .u8, 1, 1, [.int .u8 0]⟩), (9, ⟨.string, 1, 16, [.str ⟨#[]⟩]⟩), (65, ⟨.slice 5 1 1, 1, 24, [.nils]⟩), (77, ⟨.slice 90 2 16, 1, 24, [.nils]⟩), (80, ⟨.slice 3 1 8, 1, 24, [.nils]⟩), (82, ⟨.struct [(0, 1, false), (1, 1, false)], 2, 32, [.nils, .int .i64 0]⟩), (90, ⟨.struct [(0, 1, false), (1, 1, false)], 2, 16, [.int .i64 0, .bool false]⟩), (124, ⟨.pointer 127, 1, 8, [.nilp]⟩), (125, ⟨.int .u64, 1, 8, [.int .u64 0]⟩), (127, ⟨.struct [(0, 1, false), (1, 1, false), (2, 1, false)], 3, 40, [.nils, .int .i64 0, .int .u64 0]⟩), (132, ⟨.func, 1, 8, [.nilf]⟩), (169, ⟨.func, 1, 8, [.nilf]⟩)]
theorem tab_ok : chkTab Tryd.prog tab = true := by kernel_rfl
theorem mixed : Tryd.prog.follows .mixedOrders = true := by kernel_rfl
theorem F_p_spec_l1Cur_next_W (x0 : List Int) (x1 : Int) (x2 : Int) (y0 : Int) (y1 : List Int) (y2 : Int) (y3 : Int) (h : F_p_spec_l1Cur_next x0 x1 x2 = some (y0, y1, y2, y3)) : CG Tryd.prog 150 [V.ref 500 0] [(500, oc 127 [ty x0, ti x1, T.int .u64 x2])] (vi y0) [(500, oc 127 [ty y1, ti y2, T.int .u64 y3])] := by
  unfold F_p_spec_l1Cur_next at h
  refine CG.intro (tab := tab) tab_ok (fn := Tryd.f150) Tryd.func150 (by kernel_rfl) rfl (Nat.le_of_ble_eq_true rfl) (by kernel_rfl) ?_
  refine WP.seq ?_
  refine WP.path tab_ok mixed [] [.keep [2, 0], .keepO [500]] (ps := []) (e := .normal) (σ' := ⟨[500], [(2, vi 0), (0, V.ref 500 0)], [(500, oc 127 [ty x0, ti x1, T.int .u64 x2])]⟩) (by kernel_rfl) trivial ?_
  refine WP.seq ?_
  refine WP.path tab_ok mixed [] [.keep [3, 2, 0], .keepO [500]] (ps := []) (e := .normal) (σ' := ⟨[500], [(3, vi 0), (2, vi 0), (0, V.ref 500 0)], [(500, oc 127 [ty x0, ti x1, T.int .u64 x2])]⟩) (by kernel_rfl) trivial ?_
  obtain ⟨J1, hJ1, h⟩ := jn_some h
  refine WP.joinA (fun (zz : Int) => ⟨[500], [(3, vi zz), (2, vi 0), (0, V.ref 500 0)], [(500, oc 127 [ty x0, ti x1, T.int .u64 x2])]⟩) (fun zz => J1 zz = some (y0, y1, y2, y3)) ?_ ?_
  · -- to where they meet
    refine WP.seq ?_
    refine WP.path tab_ok mixed [] [.keep [13, 3, 2, 0], .keepO [500]] (ps := [(True), (True), (True)]) (e := .normal) (σ' := ⟨[500], [(13, vb (decide (x1 < ((List.length x0 : Nat) : Int)))), (3, vi 0), (2, vi 0), (0, V.ref 500 0)], [(500, oc 127 [ty x0, ti x1, T.int .u64 x2])]⟩) (by kernel_rfl) ⟨trivial, trivial, trivial, trivial⟩ ?_
    rcases ite_some h with ⟨h1, h⟩ | ⟨h1, h⟩
    · -- yes
      refine WP.cond (b := decide (x1 < ((List.length x0 : Nat) : Int))) rfl (fun _ => ?_) (fun hh => by rw [h1] at hh; cases hh)
      obtain ⟨c0, h⟩ := chk_some h
      obtain ⟨c1, h⟩ := chk_some h
      refine WP.path tab_ok mixed [(23, An.v (T.int .u8 (List.getD x0 (Int.toNat x1) 0))), (24, An.v (T.int .i64 (List.getD x0 (Int.toNat x1) 0)))] [.keep [3, 2, 0], .keepO [500], .names [(500, 500)]] (ps := [(True), (True), ((0 ≤ x1 ∧ x1 < ((List.length x0 : Nat) : Int))), ((List.drop ((Int.toNat x1) * 1) (List.map (T.int .u8) x0) : List T)[0]? = some (T.int .u8 (List.getD x0 (Int.toNat x1) 0))), (T.int .u8 (List.getD x0 (Int.toNat x1) 0) = T.int .u8 (List.getD x0 (Int.toNat x1) 0)), (T.int .i64 (IntKind.wrap .i64 (List.getD x0 (Int.toNat x1) 0)) = T.int .i64 (List.getD x0 (Int.toNat x1) 0))]) (e := .normal) (σ' := ⟨[500], [(3, vi (List.getD x0 (Int.toNat x1) 0)), (2, vi 0), (0, V.ref 500 0)], [(500, oc 127 [ty x0, ti x1, T.int .u64 x2])]⟩) (by kernel_rfl) ⟨trivial, trivial, c0, at1 (by simp) (by omega), rfl, wrapI c1, trivial⟩ ?_
      exact ⟨((List.getD x0 (Int.toNat x1) 0)), h, rfl⟩
    · -- no
      refine WP.cond (b := decide (x1 < ((List.length x0 : Nat) : Int))) rfl (fun hh => by rw [h1] at hh; cases hh) (fun _ => ?_)
      refine WP.path tab_ok mixed [] [.keep [3, 2, 0], .keepO [500], .names [(500, 500)]] (ps := []) (e := .normal) (σ' := ⟨[500], [(3, vi 0), (2, vi 0), (0, V.ref 500 0)], [(500, oc 127 [ty x0, ti x1, T.int .u64 x2])]⟩) (by kernel_rfl) trivial ?_
      exact ⟨((0 : Int)), h, (by first | rfl | (simp only [tlS, tl, vl, vo, oc, ov, tbl, vbl, ty, vy] <;> rfl) | (simp <;> omega) | (simp []; done) | (rw [List.take_of_length_le (by simp [])] <;> rfl) | (simp [List.take_of_length_le]; done))⟩
  · -- from there
    intro v3 h0
    have h := (show J1 v3 = some (y0, y1, y2, y3) from h0)
    rw [hJ1] at h
    refine WP.seq ?_
    obtain ⟨c0, h⟩ := chk_some h
    refine WP.path tab_ok mixed [(29, An.v (T.int .i64 (x1 + (1 : Int))))] [.keep [3, 2, 0], .keepO [500]] (ps := [(True), (True), (T.int .i64 (IntKind.wrap .i64 (x1 + (1 : Int))) = T.int .i64 (x1 + (1 : Int))), (1 < 3)]) (e := .normal) (σ' := ⟨[500], [(3, vi v3), (2, vi 0), (0, V.ref 500 0)], [(500, oc 127 [ty x0, ti (x1 + (1 : Int)), T.int .u64 x2])]⟩) (by kernel_rfl) ⟨trivial, trivial, wrapI c0, by decide, trivial⟩ ?_
    refine WP.seq ?_
    obtain ⟨n37, c1, h⟩ := nam_some h
    obtain ⟨n40, c2, h⟩ := nam_some h
    refine WP.path tab_ok mixed [(37, An.v (T.int .u64 n37)), (40, An.v (T.int .u64 n40))] [.keep [3, 2, 0], .keepO [500]] (ps := [(True), (True), (T.int .u64 (IntKind.wrap .u64 (x2 * (6364136223846793005 : Int))) = T.int .u64 n37), (True), (T.int .u64 (IntKind.wrap .u64 (n37 + (IntKind.wrap .u64 v3))) = T.int .u64 n40), (True), (2 < 3)]) (e := .normal) (σ' := ⟨[500], [(3, vi v3), (2, vi 0), (0, V.ref 500 0)], [(500, oc 127 [ty x0, ti (x1 + (1 : Int)), T.int .u64 (IntKind.wrap .u64 (n40 + (462197 : Int)))])]⟩) (by kernel_rfl) ⟨trivial, trivial, congrArg (T.int .u64) c1, trivial, congrArg (T.int .u64) c2, trivial, by decide, trivial⟩ ?_
    refine WP.seq ?_
    refine WP.seq ?_
    refine WP.path tab_ok mixed [] [.keep [53, 3, 2, 0], .keepO [500]] (ps := [(True), (True), (True)]) (e := .normal) (σ' := ⟨[500], [(53, vb (decide ((x1 + (1 : Int)) ≤ ((List.length x0 : Nat) : Int)))), (3, vi v3), (2, vi 0), (0, V.ref 500 0)], [(500, oc 127 [ty x0, ti (x1 + (1 : Int)), T.int .u64 (IntKind.wrap .u64 (n40 + (462197 : Int)))])]⟩) (by kernel_rfl) ⟨trivial, trivial, trivial, trivial⟩ ?_
    rcases ite_some h with ⟨h2, h⟩ | ⟨h2, h⟩
    · -- yes
      refine WP.cond (b := decide ((x1 + (1 : Int)) ≤ ((List.length x0 : Nat) : Int))) rfl (fun _ => ?_) (fun hh => by rw [h2] at hh; cases hh)
      simp only [Option.some.injEq, Prod.mk.injEq] at h
      obtain ⟨rfl, rfl, rfl, rfl⟩ := h
      exact WP.pathG tab_ok mixed [] [.keep [2], .keepO [500], .names [(500, 500)]] [500] _ (r' := vi v3) (ps := []) (r := vi v3) (N := [500]) (O := [(500, oc 127 [ty x0, ti (x1 + (1 : Int)), T.int .u64 (IntKind.wrap .u64 (n40 + (462197 : Int)))])]) [] (by kernel_rfl) trivial ⟨(WkT.refl _), trivial⟩ rfl rfl (fun _ h => h)
    · -- no
      refine WP.cond (b := decide ((x1 + (1 : Int)) ≤ ((List.length x0 : Nat) : Int))) rfl (fun hh => by rw [h2] at hh; cases hh) (fun _ => ?_)
      refine WP.path tab_ok mixed [] [.keep [2, 0], .keepO [500]] (ps := []) (e := .normal) (σ' := ⟨[500], [(2, vi 0), (0, V.ref 500 0)], [(500, oc 127 [ty x0, ti (x1 + (1 : Int)), T.int .u64 (IntKind.wrap .u64 (n40 + (462197 : Int)))])]⟩) (by kernel_rfl) trivial ?_
      obtain ⟨n60, c3, h⟩ := nam_some h
      obtain ⟨c4, h⟩ := chk_some h
      simp only [Option.some.injEq, Prod.mk.injEq] at h
      obtain ⟨rfl, rfl, rfl, rfl⟩ := h
      exact WP.pathG tab_ok mixed [(59, An.v (T.int .u64 ((IntKind.wrap .u64 (n40 + (462197 : Int))) / 2 ^ Int.toNat (40 : Int)))), (60, An.v (T.int .u64 n60)), (61, An.v (T.int .i64 n60))] [.keep [2], .keepO [500], .names [(500, 500)]] [500] _ (r' := vi n60) (ps := [(True), (0 ≤ (40 : Int)), (T.int .u64 (Int.fdiv (IntKind.wrap .u64 (n40 + (462197 : Int))) (2 ^ (min (Int.toNat (40 : Int)) 64))) = T.int .u64 ((IntKind.wrap .u64 (n40 + (462197 : Int))) / 2 ^ Int.toNat (40 : Int))), (True), (T.int .u64 (bits .and .u64 ((IntKind.wrap .u64 (n40 + (462197 : Int))) / 2 ^ Int.toNat (40 : Int)) (255 : Int)) = T.int .u64 n60), (T.int .i64 (IntKind.wrap .i64 n60) = T.int .i64 n60)]) (r := vi n60) (N := [500]) (O := [(500, oc 127 [ty x0, ti (x1 + (1 : Int)), T.int .u64 (IntKind.wrap .u64 (n40 + (462197 : Int)))])]) [] (by kernel_rfl) ⟨trivial, (show (0 ≤ (40 : Int) ∧ (40 : Int) < 64) by first | decide | (simp only [maxLen]; omega) | (unfold I64; omega) | (unfold I64; decide)).1, shr_told (show (0 ≤ (40 : Int) ∧ (40 : Int) < 64) by first | decide | (simp only [maxLen]; omega) | (unfold I64; omega) | (unfold I64; decide)), trivial, congrArg (T.int .u64) c3, wrapI c4, trivial⟩ ⟨(WkT.refl _), trivial⟩ rfl rfl (fun _ h => h)
theorem F_p_spec_l1Cur_pick_W (x0 : List Int) (x1 : Int) (x2 : Int) (x3 : Int) (y0 : Int) (y1 : List Int) (y2 : Int) (y3 : Int) (h : F_p_spec_l1Cur_pick x0 x1 x2 x3 = some (y0, y1, y2, y3)) : CG Tryd.prog 99 [V.ref 500 0, vi x3] [(500, oc 127 [ty x0, ti x1, T.int .u64 x2])] (vi y0) [(500, oc 127 [ty y1, ti y2, T.int .u64 y3])] := by
  unfold F_p_spec_l1Cur_pick at h
  refine CG.intro (tab := tab) tab_ok (fn := Tryd.f99) Tryd.func99 (by kernel_rfl) rfl (Nat.le_of_ble_eq_true rfl) (by kernel_rfl) ?_
  refine WP.seq ?_
  refine WP.path tab_ok mixed [] [.keep [4, 0, 1], .keepO [500]] (ps := []) (e := .normal) (σ' := ⟨[500], [(4, vi 0), (0, V.ref 500 0), (1, vi x3)], [(500, oc 127 [ty x0, ti x1, T.int .u64 x2])]⟩) (by kernel_rfl) trivial ?_
  refine WP.seq ?_
  refine WP.seq ?_
  refine WP.path tab_ok mixed [] [.keep [7, 4, 0, 1], .keepO [500]] (ps := [(True)]) (e := .normal) (σ' := ⟨[500], [(7, vb (decide (x3 ≤ (1 : Int)))), (4, vi 0), (0, V.ref 500 0), (1, vi x3)], [(500, oc 127 [ty x0, ti x1, T.int .u64 x2])]⟩) (by kernel_rfl) ⟨trivial, trivial⟩ ?_
  rcases ite_some h with ⟨h1, h⟩ | ⟨h1, h⟩
  · -- yes
    refine WP.cond (b := decide (x3 ≤ (1 : Int))) rfl (fun _ => ?_) (fun hh => by rw [h1] at hh; cases hh)
    simp only [Option.some.injEq, Prod.mk.injEq] at h
    obtain ⟨rfl, rfl, rfl, rfl⟩ := h
    exact WP.pathG tab_ok mixed [] [.keep [4], .keepO [500], .names [(500, 500)]] [500] _ (r' := vi (0 : Int)) (ps := []) (r := vi 0) (N := [500]) (O := [(500, oc 127 [ty x0, ti x1, T.int .u64 x2])]) [] (by kernel_rfl) trivial ⟨(WkT.eq (WkT.refl _) (by first | rfl | (simp only [tlS, tl, vl, vo, oc, ov, tbl, vbl, ty, vy] <;> rfl) | (simp <;> omega) | (simp []; done) | (rw [List.take_of_length_le (by simp [])] <;> rfl) | (simp [List.take_of_length_le]; done))), trivial⟩ rfl rfl (fun _ h => h)
  · -- no
    refine WP.cond (b := decide (x3 ≤ (1 : Int))) rfl (fun hh => by rw [h1] at hh; cases hh) (fun _ => ?_)
    refine WP.path tab_ok mixed [] [.keep [4, 0, 1], .keepO [500]] (ps := []) (e := .normal) (σ' := ⟨[500], [(4, vi 0), (0, V.ref 500 0), (1, vi x3)], [(500, oc 127 [ty x0, ti x1, T.int .u64 x2])]⟩) (by kernel_rfl) trivial ?_
    refine WP.seq ?_
    obtain ⟨r9, r9b, r9c, r9d, c0, h⟩ := bnd4_some h
    refine WP.path tab_ok mixed [(9, An.callG [(500, 500)] [V.ref 500 0] [(500, oc 127 [ty x0, ti x1, T.int .u64 x2])] (vi r9) [(500, oc 127 [ty r9b, ti r9c, T.int .u64 r9d])])] [.keep [5, 4, 0, 1], .keepO [500]] (ps := [(CG Tryd.prog 150 [V.ref 500 0] [(500, oc 127 [ty x0, ti x1, T.int .u64 x2])] (vi r9) [(500, oc 127 [ty r9b, ti r9c, T.int .u64 r9d])]), ((V.ref 500 0).ren (renF [(500, 500)]) = V.ref 500 0), ((oc 127 [ty x0, ti x1, T.int .u64 x2]) = (oc 127 [ty x0, ti x1, T.int .u64 x2]).ren (renF [(500, 500)]))]) (e := .normal) (σ' := ⟨[500], [(5, vi r9), (4, vi 0), (0, V.ref 500 0), (1, vi x3)], [(500, oc 127 [ty r9b, ti r9c, T.int .u64 r9d])]⟩) (by kernel_rfl) ⟨(F_p_spec_l1Cur_next_W x0 x1 x2 r9 r9b r9c r9d c0), by first | rfl | (simp [V.ren, V.renL, renF, lk]; done) | (simp [V.ren, V.renL, renF, lk]; omega), by first | rfl | (simp only [tlS]; rfl) | (simp [Tl.Obj.ren, V.ren, V.renL, renF, lk]; done), trivial⟩ ?_
    obtain ⟨J1, hJ1, h⟩ := jn_some h
    refine WP.joinA (fun (zz : (List Int) × Int × Int × Int) => ⟨[500], [(5, vi zz.2.2.2), (4, vi 0), (1, vi x3)], [(500, oc 127 [ty zz.1, ti zz.2.1, T.int .u64 zz.2.2.1])]⟩) (fun zz => J1 zz.1 zz.2.1 zz.2.2.1 zz.2.2.2 = some (y0, y1, y2, y3)) ?_ ?_
    · -- to where they meet
      refine WP.seq ?_
      refine WP.path tab_ok mixed [] [.keep [11, 5, 4, 0, 1], .keepO [500]] (ps := [(True)]) (e := .normal) (σ' := ⟨[500], [(11, vb (decide (x3 > (200 : Int)))), (5, vi r9), (4, vi 0), (0, V.ref 500 0), (1, vi x3)], [(500, oc 127 [ty r9b, ti r9c, T.int .u64 r9d])]⟩) (by kernel_rfl) ⟨trivial, trivial⟩ ?_
      rcases ite_some h with ⟨h2, h⟩ | ⟨h2, h⟩
      · -- yes
        refine WP.cond (b := decide (x3 > (200 : Int))) rfl (fun _ => ?_) (fun hh => by rw [h2] at hh; cases hh)
        obtain ⟨c1, h⟩ := chk_some h
        obtain ⟨r15, r15b, r15c, r15d, c2, h⟩ := bnd4_some h
        obtain ⟨c3, h⟩ := chk_some h
        refine WP.path tab_ok mixed [(13, An.v (T.int .i64 (r9 * (256 : Int)))), (15, An.callG [(500, 500)] [V.ref 500 0] [(500, oc 127 [ty r9b, ti r9c, T.int .u64 r9d])] (vi r15) [(500, oc 127 [ty r15b, ti r15c, T.int .u64 r15d])]), (16, An.v (T.int .i64 ((r9 * (256 : Int)) + r15)))] [.keep [5, 4, 1], .keepO [500], .names [(500, 500)]] (ps := [(True), (T.int .i64 (IntKind.wrap .i64 (r9 * (256 : Int))) = T.int .i64 (r9 * (256 : Int))), (CG Tryd.prog 150 [V.ref 500 0] [(500, oc 127 [ty r9b, ti r9c, T.int .u64 r9d])] (vi r15) [(500, oc 127 [ty r15b, ti r15c, T.int .u64 r15d])]), ((V.ref 500 0).ren (renF [(500, 500)]) = V.ref 500 0), ((oc 127 [ty r9b, ti r9c, T.int .u64 r9d]) = (oc 127 [ty r9b, ti r9c, T.int .u64 r9d]).ren (renF [(500, 500)])), (True), (T.int .i64 (IntKind.wrap .i64 ((r9 * (256 : Int)) + r15)) = T.int .i64 ((r9 * (256 : Int)) + r15))]) (e := .normal) (σ' := ⟨[500], [(5, vi ((r9 * (256 : Int)) + r15)), (4, vi 0), (1, vi x3)], [(500, oc 127 [ty r15b, ti r15c, T.int .u64 r15d])]⟩) (by kernel_rfl) ⟨trivial, wrapI c1, (F_p_spec_l1Cur_next_W r9b r9c r9d r15 r15b r15c r15d c2), by first | rfl | (simp [V.ren, V.renL, renF, lk]; done) | (simp [V.ren, V.renL, renF, lk]; omega), by first | rfl | (simp only [tlS]; rfl) | (simp [Tl.Obj.ren, V.ren, V.renL, renF, lk]; done), trivial, wrapI c3, trivial⟩ ?_
        exact ⟨(r15b, r15c, r15d, ((r9 * (256 : Int)) + r15)), h, rfl⟩
      · -- no
        refine WP.cond (b := decide (x3 > (200 : Int))) rfl (fun hh => by rw [h2] at hh; cases hh) (fun _ => ?_)
        refine WP.path tab_ok mixed [] [.keep [5, 4, 1], .keepO [500], .names [(500, 500)]] (ps := []) (e := .normal) (σ' := ⟨[500], [(5, vi r9), (4, vi 0), (1, vi x3)], [(500, oc 127 [ty r9b, ti r9c, T.int .u64 r9d])]⟩) (by kernel_rfl) trivial ?_
        exact ⟨(r9b, r9c, r9d, r9), h, rfl⟩
    · -- from there
      rintro ⟨o500, o500b, o500c, v5⟩ h0
      have h := (show J1 o500 o500b o500c v5 = some (y0, y1, y2, y3) from h0)
      rw [hJ1] at h
      obtain ⟨c1, h⟩ := chk_some h
      simp only [Option.some.injEq, Prod.mk.injEq] at h
      obtain ⟨rfl, rfl, rfl, rfl⟩ := h
      exact WP.pathG tab_ok mixed [] [.keep [4], .keepO [500], .names [(500, 500)]] [500] _ (r' := vi (Int.tmod v5 x3)) (ps := [(x3 ≠ 0)]) (r := vi (Int.tmod v5 x3)) (N := [500]) (O := [(500, oc 127 [ty o500, ti o500b, T.int .u64 o500c])]) [] (by kernel_rfl) ⟨c1, trivial⟩ ⟨(WkT.refl _), trivial⟩ rfl rfl (fun _ h => h)
theorem F_p_spec_l1Cur_among_W (x0 : List Int) (x1 : Int) (x2 : Int) (x3 : List Int) (y0 : Int) (y1 : List Int) (y2 : Int) (y3 : Int) (h : F_p_spec_l1Cur_among x0 x1 x2 x3 = some (y0, y1, y2, y3)) : CG Tryd.prog 96 [V.ref 500 0, vl x3] [(500, oc 127 [ty x0, ti x1, T.int .u64 x2])] (vi y0) [(500, oc 127 [ty y1, ti y2, T.int .u64 y3])] := by
  unfold F_p_spec_l1Cur_among at h
  refine CG.intro (tab := tab) tab_ok (fn := Tryd.f96) Tryd.func96 (by kernel_rfl) rfl (Nat.le_of_ble_eq_true rfl) (by kernel_rfl) ?_
  obtain ⟨r9, r9b, r9c, r9d, c0, h⟩ := bnd4_some h
  obtain ⟨c1, h⟩ := chk_some h
  simp only [Option.some.injEq, Prod.mk.injEq] at h
  obtain ⟨rfl, rfl, rfl, rfl⟩ := h
  exact WP.pathG tab_ok mixed [(9, An.callG [(500, 500)] [V.ref 500 0, vi ((List.length x3 : Nat) : Int)] [(500, oc 127 [ty x0, ti x1, T.int .u64 x2])] (vi r9) [(500, oc 127 [ty r9b, ti r9c, T.int .u64 r9d])]), (11, An.v (ti (List.getD x3 (Int.toNat r9) 0)))] [.keep [4], .keepO [500], .names [(500, 500)]] [500] _ (r' := vi (List.getD x3 (Int.toNat r9) 0)) (ps := [(CG Tryd.prog 99 [V.ref 500 0, vi ((List.length x3 : Nat) : Int)] [(500, oc 127 [ty x0, ti x1, T.int .u64 x2])] (vi r9) [(500, oc 127 [ty r9b, ti r9c, T.int .u64 r9d])]), ((V.ref 500 0).ren (renF [(500, 500)]) = V.ref 500 0), (WkT (ti ((List.length x3 : Nat) : Int)) (ti ((List.length x3 : Nat) : Int))), ((oc 127 [ty x0, ti x1, T.int .u64 x2]) = (oc 127 [ty x0, ti x1, T.int .u64 x2]).ren (renF [(500, 500)])), ((0 ≤ r9 ∧ r9 < ((List.length x3 : Nat) : Int))), ((List.drop ((Int.toNat r9) * 1) (List.map (T.int .i64) x3) : List T)[0]? = some (ti (List.getD x3 (Int.toNat r9) 0))), (ti (List.getD x3 (Int.toNat r9) 0) = ti (List.getD x3 (Int.toNat r9) 0))]) (r := vi (List.getD x3 (Int.toNat r9) 0)) (N := [500]) (O := [(500, oc 127 [ty r9b, ti r9c, T.int .u64 r9d])]) [] (by kernel_rfl) ⟨(F_p_spec_l1Cur_pick_W x0 x1 x2 ((List.length x3 : Nat) : Int) r9 r9b r9c r9d c0), by first | rfl | (simp [V.ren, V.renL, renF, lk]; done) | (simp [V.ren, V.renL, renF, lk]; omega), WkT.refl _, by first | rfl | (simp only [tlS]; rfl) | (simp [Tl.Obj.ren, V.ren, V.renL, renF, lk]; done), c1, at1 (by simp) (by omega), rfl, trivial⟩ ⟨(WkT.refl _), trivial⟩ rfl rfl (fun _ h => h)
theorem F_p_spec_l1Cur_many_W (x0 : List Int) (x1 : Int) (x2 : Int) (y0 : Int) (y1 : List Int) (y2 : Int) (y3 : Int) (h : F_p_spec_l1Cur_many x0 x1 x2 = some (y0, y1, y2, y3)) : CG Tryd.prog 104 [V.ref 500 0] [(500, oc 127 [ty x0, ti x1, T.int .u64 x2])] (vi y0) [(500, oc 127 [ty y1, ti y2, T.int .u64 y3])] := by
  unfold F_p_spec_l1Cur_many at h
  refine CG.intro (tab := tab) tab_ok (fn := Tryd.f104) Tryd.func104 (by kernel_rfl) rfl (Nat.le_of_ble_eq_true rfl) (by kernel_rfl) ?_
  obtain ⟨r5, r5b, r5c, r5d, c0, h⟩ := bnd4_some h
  simp only [Option.some.injEq, Prod.mk.injEq] at h
  obtain ⟨rfl, rfl, rfl, rfl⟩ := h
  exact WP.pathG tab_ok mixed [(4, An.fz), (5, An.callG [(500, 500)] [V.ref 500 0, vl [(4 : Int), (6 : Int), (8 : Int), (3 : Int), (5 : Int), (2 : Int), (7 : Int), (12 : Int), (1 : Int), (0 : Int), (13 : Int), (4 : Int), (6 : Int), (8 : Int), (3 : Int), (5 : Int)]] [(500, oc 127 [ty x0, ti x1, T.int .u64 x2])] (vi r5) [(500, oc 127 [ty r5b, ti r5c, T.int .u64 r5d])])] [.keep [2], .keepO [500], .names [(500, 500)]] [500] _ (r' := vi r5) (ps := [((1 = 1 ∧ 0 + 1 ≤ 16) ∧ (1 = 1 ∧ 1 + 1 ≤ 16) ∧ (1 = 1 ∧ 2 + 1 ≤ 16) ∧ (1 = 1 ∧ 3 + 1 ≤ 16) ∧ (1 = 1 ∧ 4 + 1 ≤ 16) ∧ (1 = 1 ∧ 5 + 1 ≤ 16) ∧ (1 = 1 ∧ 6 + 1 ≤ 16) ∧ (1 = 1 ∧ 7 + 1 ≤ 16) ∧ (1 = 1 ∧ 8 + 1 ≤ 16) ∧ (1 = 1 ∧ 9 + 1 ≤ 16) ∧ (1 = 1 ∧ 10 + 1 ≤ 16) ∧ (1 = 1 ∧ 11 + 1 ≤ 16) ∧ (1 = 1 ∧ 12 + 1 ≤ 16) ∧ (1 = 1 ∧ 13 + 1 ≤ 16) ∧ (1 = 1 ∧ 14 + 1 ≤ 16) ∧ (1 = 1 ∧ 15 + 1 ≤ 16) ∧ True), (16 = 16 * 1), (CG Tryd.prog 96 [V.ref 500 0, vl [(4 : Int), (6 : Int), (8 : Int), (3 : Int), (5 : Int), (2 : Int), (7 : Int), (12 : Int), (1 : Int), (0 : Int), (13 : Int), (4 : Int), (6 : Int), (8 : Int), (3 : Int), (5 : Int)]] [(500, oc 127 [ty x0, ti x1, T.int .u64 x2])] (vi r5) [(500, oc 127 [ty r5b, ti r5c, T.int .u64 r5d])]), ((V.ref 500 0).ren (renF [(500, 500)]) = V.ref 500 0), (WkT (T.list 16 1 [ti 4, ti 6, ti 8, ti 3, ti 5, ti 2, ti 7, ti 12, ti 1, ti 0, ti 13, ti 4, ti 6, ti 8, ti 3, ti 5]) (tl [(4 : Int), (6 : Int), (8 : Int), (3 : Int), (5 : Int), (2 : Int), (7 : Int), (12 : Int), (1 : Int), (0 : Int), (13 : Int), (4 : Int), (6 : Int), (8 : Int), (3 : Int), (5 : Int)])), ((oc 127 [ty x0, ti x1, T.int .u64 x2]) = (oc 127 [ty x0, ti x1, T.int .u64 x2]).ren (renF [(500, 500)]))]) (r := vi r5) (N := [500]) (O := [(500, oc 127 [ty r5b, ti r5c, T.int .u64 r5d])]) [] (by kernel_rfl) ⟨⟨⟨by first | rfl | (simp; done) | (simp []; done) | omega, by first | decide | (simp; done) | (simp []; done) | omega | (simp only [tlL]; omega) | (simp; omega)⟩, ⟨by first | rfl | (simp; done) | (simp []; done) | omega, by first | decide | (simp; done) | (simp []; done) | omega | (simp only [tlL]; omega) | (simp; omega)⟩, ⟨by first | rfl | (simp; done) | (simp []; done) | omega, by first | decide | (simp; done) | (simp []; done) | omega | (simp only [tlL]; omega) | (simp; omega)⟩, ⟨by first | rfl | (simp; done) | (simp []; done) | omega, by first | decide | (simp; done) | (simp []; done) | omega | (simp only [tlL]; omega) | (simp; omega)⟩, ⟨by first | rfl | (simp; done) | (simp []; done) | omega, by first | decide | (simp; done) | (simp []; done) | omega | (simp only [tlL]; omega) | (simp; omega)⟩, ⟨by first | rfl | (simp; done) | (simp []; done) | omega, by first | decide | (simp; done) | (simp []; done) | omega | (simp only [tlL]; omega) | (simp; omega)⟩, ⟨by first | rfl | (simp; done) | (simp []; done) | omega, by first | decide | (simp; done) | (simp []; done) | omega | (simp only [tlL]; omega) | (simp; omega)⟩, ⟨by first | rfl | (simp; done) | (simp []; done) | omega, by first | decide | (simp; done) | (simp []; done) | omega | (simp only [tlL]; omega) | (simp; omega)⟩, ⟨by first | rfl | (simp; done) | (simp []; done) | omega, by first | decide | (simp; done) | (simp []; done) | omega | (simp only [tlL]; omega) | (simp; omega)⟩, ⟨by first | rfl | (simp; done) | (simp []; done) | omega, by first | decide | (simp; done) | (simp []; done) | omega | (simp only [tlL]; omega) | (simp; omega)⟩, ⟨by first | rfl | (simp; done) | (simp []; done) | omega, by first | decide | (simp; done) | (simp []; done) | omega | (simp only [tlL]; omega) | (simp; omega)⟩, ⟨by first | rfl | (simp; done) | (simp []; done) | omega, by first | decide | (simp; done) | (simp []; done) | omega | (simp only [tlL]; omega) | (simp; omega)⟩, ⟨by first | rfl | (simp; done) | (simp []; done) | omega, by first | decide | (simp; done) | (simp []; done) | omega | (simp only [tlL]; omega) | (simp; omega)⟩, ⟨by first | rfl | (simp; done) | (simp []; done) | omega, by first | decide | (simp; done) | (simp []; done) | omega | (simp only [tlL]; omega) | (simp; omega)⟩, ⟨by first | rfl | (simp; done) | (simp []; done) | omega, by first | decide | (simp; done) | (simp []; done) | omega | (simp only [tlL]; omega) | (simp; omega)⟩, ⟨by first | rfl | (simp; done) | (simp []; done) | omega, by first | decide | (simp; done) | (simp []; done) | omega | (simp only [tlL]; omega) | (simp; omega)⟩, trivial⟩, by decide, (F_p_spec_l1Cur_among_W x0 x1 x2 [(4 : Int), (6 : Int), (8 : Int), (3 : Int), (5 : Int), (2 : Int), (7 : Int), (12 : Int), (1 : Int), (0 : Int), (13 : Int), (4 : Int), (6 : Int), (8 : Int), (3 : Int), (5 : Int)] r5 r5b r5c r5d c0), by first | rfl | (simp [V.ren, V.renL, renF, lk]; done) | (simp [V.ren, V.renL, renF, lk]; omega), WkT.eq (WkT.refl _) (by first | rfl | (simp only [tlS, tl, vl, vo, oc, ov, tbl, vbl, ty, vy] <;> rfl) | (simp <;> omega) | (simp []; done) | (rw [List.take_of_length_le (by simp [])] <;> rfl) | (simp [List.take_of_length_le]; done)), by first | rfl | (simp only [tlS]; rfl) | (simp [Tl.Obj.ren, V.ren, V.renL, renF, lk]; done), trivial⟩ ⟨(WkT.refl _), trivial⟩ rfl rfl (fun _ h => h)
theorem F_p_spec_l1Cur_lies_W (x0 : List Int) (x1 : Int) (x2 : Int) (y0 : Int) (y1 : List Int) (y2 : Int) (y3 : Int) (h : F_p_spec_l1Cur_lies x0 x1 x2 = some (y0, y1, y2, y3)) : CG Tryd.prog 105 [V.ref 500 0] [(500, oc 127 [ty x0, ti x1, T.int .u64 x2])] (vi y0) [(500, oc 127 [ty y1, ti y2, T.int .u64 y3])] := by
  unfold F_p_spec_l1Cur_lies at h
  refine CG.intro (tab := tab) tab_ok (fn := Tryd.f105) Tryd.func105 (by kernel_rfl) rfl (Nat.le_of_ble_eq_true rfl) (by kernel_rfl) ?_
  obtain ⟨r5, r5b, r5c, r5d, c0, h⟩ := bnd4_some h
  simp only [Option.some.injEq, Prod.mk.injEq] at h
  obtain ⟨rfl, rfl, rfl, rfl⟩ := h
  exact WP.pathG tab_ok mixed [(4, An.fz), (5, An.callG [(500, 500)] [V.ref 500 0, vl [(1 : Int), (1 : Int), (2 : Int), (0 : Int), (1 : Int), (2 : Int), (1 : Int), (3 : Int), (-1 : Int), (1 : Int), (2 : Int), (0 : Int)]] [(500, oc 127 [ty x0, ti x1, T.int .u64 x2])] (vi r5) [(500, oc 127 [ty r5b, ti r5c, T.int .u64 r5d])])] [.keep [2], .keepO [500], .names [(500, 500)]] [500] _ (r' := vi r5) (ps := [((1 = 1 ∧ 0 + 1 ≤ 12) ∧ (1 = 1 ∧ 1 + 1 ≤ 12) ∧ (1 = 1 ∧ 2 + 1 ≤ 12) ∧ (1 = 1 ∧ 3 + 1 ≤ 12) ∧ (1 = 1 ∧ 4 + 1 ≤ 12) ∧ (1 = 1 ∧ 5 + 1 ≤ 12) ∧ (1 = 1 ∧ 6 + 1 ≤ 12) ∧ (1 = 1 ∧ 7 + 1 ≤ 12) ∧ (1 = 1 ∧ 8 + 1 ≤ 12) ∧ (1 = 1 ∧ 9 + 1 ≤ 12) ∧ (1 = 1 ∧ 10 + 1 ≤ 12) ∧ (1 = 1 ∧ 11 + 1 ≤ 12) ∧ True), (12 = 12 * 1), (CG Tryd.prog 96 [V.ref 500 0, vl [(1 : Int), (1 : Int), (2 : Int), (0 : Int), (1 : Int), (2 : Int), (1 : Int), (3 : Int), (-1 : Int), (1 : Int), (2 : Int), (0 : Int)]] [(500, oc 127 [ty x0, ti x1, T.int .u64 x2])] (vi r5) [(500, oc 127 [ty r5b, ti r5c, T.int .u64 r5d])]), ((V.ref 500 0).ren (renF [(500, 500)]) = V.ref 500 0), (WkT (T.list 12 1 [ti 1, ti 1, ti 2, ti 0, ti 1, ti 2, ti 1, ti 3, ti (-1), ti 1, ti 2, ti 0]) (tl [(1 : Int), (1 : Int), (2 : Int), (0 : Int), (1 : Int), (2 : Int), (1 : Int), (3 : Int), (-1 : Int), (1 : Int), (2 : Int), (0 : Int)])), ((oc 127 [ty x0, ti x1, T.int .u64 x2]) = (oc 127 [ty x0, ti x1, T.int .u64 x2]).ren (renF [(500, 500)]))]) (r := vi r5) (N := [500]) (O := [(500, oc 127 [ty r5b, ti r5c, T.int .u64 r5d])]) [] (by kernel_rfl) ⟨⟨⟨by first | rfl | (simp; done) | (simp []; done) | omega, by first | decide | (simp; done) | (simp []; done) | omega | (simp only [tlL]; omega) | (simp; omega)⟩, ⟨by first | rfl | (simp; done) | (simp []; done) | omega, by first | decide | (simp; done) | (simp []; done) | omega | (simp only [tlL]; omega) | (simp; omega)⟩, ⟨by first | rfl | (simp; done) | (simp []; done) | omega, by first | decide | (simp; done) | (simp []; done) | omega | (simp only [tlL]; omega) | (simp; omega)⟩, ⟨by first | rfl | (simp; done) | (simp []; done) | omega, by first | decide | (simp; done) | (simp []; done) | omega | (simp only [tlL]; omega) | (simp; omega)⟩, ⟨by first | rfl | (simp; done) | (simp []; done) | omega, by first | decide | (simp; done) | (simp []; done) | omega | (simp only [tlL]; omega) | (simp; omega)⟩, ⟨by first | rfl | (simp; done) | (simp []; done) | omega, by first | decide | (simp; done) | (simp []; done) | omega | (simp only [tlL]; omega) | (simp; omega)⟩, ⟨by first | rfl | (simp; done) | (simp []; done) | omega, by first | decide | (simp; done) | (simp []; done) | omega | (simp only [tlL]; omega) | (simp; omega)⟩, ⟨by first | rfl | (simp; done) | (simp []; done) | omega, by first | decide | (simp; done) | (simp []; done) | omega | (simp only [tlL]; omega) | (simp; omega)⟩, ⟨by first | rfl | (simp; done) | (simp []; done) | omega, by first | decide | (simp; done) | (simp []; done) | omega | (simp only [tlL]; omega) | (simp; omega)⟩, ⟨by first | rfl | (simp; done) | (simp []; done) | omega, by first | decide | (simp; done) | (simp []; done) | omega | (simp only [tlL]; omega) | (simp; omega)⟩, ⟨by first | rfl | (simp; done) | (simp []; done) | omega, by first | decide | (simp; done) | (simp []; done) | omega | (simp only [tlL]; omega) | (simp; omega)⟩, ⟨by first | rfl | (simp; done) | (simp []; done) | omega, by first | decide | (simp; done) | (simp []; done) | omega | (simp only [tlL]; omega) | (simp; omega)⟩, trivial⟩, by decide, (F_p_spec_l1Cur_among_W x0 x1 x2 [(1 : Int), (1 : Int), (2 : Int), (0 : Int), (1 : Int), (2 : Int), (1 : Int), (3 : Int), (-1 : Int), (1 : Int), (2 : Int), (0 : Int)] r5 r5b r5c r5d c0), by first | rfl | (simp [V.ren, V.renL, renF, lk]; done) | (simp [V.ren, V.renL, renF, lk]; omega), WkT.eq (WkT.refl _) (by first | rfl | (simp only [tlS, tl, vl, vo, oc, ov, tbl, vbl, ty, vy] <;> rfl) | (simp <;> omega) | (simp []; done) | (rw [List.take_of_length_le (by simp [])] <;> rfl) | (simp [List.take_of_length_le]; done)), by first | rfl | (simp only [tlS]; rfl) | (simp [Tl.Obj.ren, V.ren, V.renL, renF, lk]; done), trivial⟩ ⟨(WkT.refl _), trivial⟩ rfl rfl (fun _ h => h)
theorem F_p_spec_l1Cur_one_W (x0 : List Int) (x1 : Int) (x2 : Int) (x3 : Int) (y0 : Bool) (y1 : List Int) (y2 : Int) (y3 : Int) (h : F_p_spec_l1Cur_one x0 x1 x2 x3 = some (y0, y1, y2, y3)) : CG Tryd.prog 98 [V.ref 500 0, vi x3] [(500, oc 127 [ty x0, ti x1, T.int .u64 x2])] (vb y0) [(500, oc 127 [ty y1, ti y2, T.int .u64 y3])] := by
  unfold F_p_spec_l1Cur_one at h
  refine CG.intro (tab := tab) tab_ok (fn := Tryd.f98) Tryd.func98 (by kernel_rfl) rfl (Nat.le_of_ble_eq_true rfl) (by kernel_rfl) ?_
  obtain ⟨r7, r7b, r7c, r7d, c0, h⟩ := bnd4_some h
  simp only [Option.some.injEq, Prod.mk.injEq] at h
  obtain ⟨rfl, rfl, rfl, rfl⟩ := h
  exact WP.pathG tab_ok mixed [(7, An.callG [(500, 500)] [V.ref 500 0, vi x3] [(500, oc 127 [ty x0, ti x1, T.int .u64 x2])] (vi r7) [(500, oc 127 [ty r7b, ti r7c, T.int .u64 r7d])])] [.keep [4], .keepO [500], .names [(500, 500)]] [500] _ (r' := vb (r7 == (0 : Int))) (ps := [(CG Tryd.prog 99 [V.ref 500 0, vi x3] [(500, oc 127 [ty x0, ti x1, T.int .u64 x2])] (vi r7) [(500, oc 127 [ty r7b, ti r7c, T.int .u64 r7d])]), ((V.ref 500 0).ren (renF [(500, 500)]) = V.ref 500 0), (WkT (ti x3) (ti x3)), ((oc 127 [ty x0, ti x1, T.int .u64 x2]) = (oc 127 [ty x0, ti x1, T.int .u64 x2]).ren (renF [(500, 500)])), (True)]) (r := vb (r7 == (0 : Int))) (N := [500]) (O := [(500, oc 127 [ty r7b, ti r7c, T.int .u64 r7d])]) [] (by kernel_rfl) ⟨(F_p_spec_l1Cur_pick_W x0 x1 x2 x3 r7 r7b r7c r7d c0), by first | rfl | (simp [V.ren, V.renL, renF, lk]; done) | (simp [V.ren, V.renL, renF, lk]; omega), WkT.refl _, by first | rfl | (simp only [tlS]; rfl) | (simp [Tl.Obj.ren, V.ren, V.renL, renF, lk]; done), trivial, trivial⟩ ⟨(WkT.refl _), trivial⟩ rfl rfl (fun _ h => h)
theorem F_p_spec_l1Cur_question_W (x0 : List Int) (x1 : Int) (x2 : Int) (x3 : Int) (y0 : Int) (y1 : List Int) (y2 : Int) (y3 : Int) (h : F_p_spec_l1Cur_question x0 x1 x2 x3 = some (y0, y1, y2, y3)) : CG Tryd.prog 117 [V.ref 500 0, vi x3] [(500, oc 127 [ty x0, ti x1, T.int .u64 x2])] (vi y0) [(500, oc 127 [ty y1, ti y2, T.int .u64 y3])] := by
  unfold F_p_spec_l1Cur_question at h
  refine CG.intro (tab := tab) tab_ok (fn := Tryd.f117) Tryd.func117 (by kernel_rfl) rfl (Nat.le_of_ble_eq_true rfl) (by kernel_rfl) ?_
  refine WP.seq ?_
  refine WP.path tab_ok mixed [] [.keep [4, 0, 1], .keepO [500]] (ps := []) (e := .normal) (σ' := ⟨[500], [(4, vi 0), (0, V.ref 500 0), (1, vi x3)], [(500, oc 127 [ty x0, ti x1, T.int .u64 x2])]⟩) (by kernel_rfl) trivial ?_
  refine WP.seq ?_
  refine WP.seq ?_
  obtain ⟨r6, r6b, r6c, r6d, c0, h⟩ := bnd4_some h
  refine WP.path tab_ok mixed [(6, An.callG [(500, 500)] [V.ref 500 0, vi 24] [(500, oc 127 [ty x0, ti x1, T.int .u64 x2])] (vb r6) [(500, oc 127 [ty r6b, ti r6c, T.int .u64 r6d])])] [.keep [6, 4, 0, 1], .keepO [500]] (ps := [(CG Tryd.prog 98 [V.ref 500 0, vi 24] [(500, oc 127 [ty x0, ti x1, T.int .u64 x2])] (vb r6) [(500, oc 127 [ty r6b, ti r6c, T.int .u64 r6d])]), ((V.ref 500 0).ren (renF [(500, 500)]) = V.ref 500 0), (WkT (ti 24) (ti 24)), ((oc 127 [ty x0, ti x1, T.int .u64 x2]) = (oc 127 [ty x0, ti x1, T.int .u64 x2]).ren (renF [(500, 500)]))]) (e := .normal) (σ' := ⟨[500], [(6, vb r6), (4, vi 0), (0, V.ref 500 0), (1, vi x3)], [(500, oc 127 [ty r6b, ti r6c, T.int .u64 r6d])]⟩) (by kernel_rfl) ⟨(F_p_spec_l1Cur_one_W x0 x1 x2 (24 : Int) r6 r6b r6c r6d c0), by first | rfl | (simp [V.ren, V.renL, renF, lk]; done) | (simp [V.ren, V.renL, renF, lk]; omega), WkT.refl _, by first | rfl | (simp only [tlS]; rfl) | (simp [Tl.Obj.ren, V.ren, V.renL, renF, lk]; done), trivial⟩ ?_
  rcases ite_some h with ⟨h1, h⟩ | ⟨h1, h⟩
  · -- yes
    refine WP.cond (b := r6) rfl (fun _ => ?_) (fun hh => by rw [h1] at hh; cases hh)
    obtain ⟨c1, h⟩ := chk_some h
    obtain ⟨r13, r13b, r13c, r13d, c2, h⟩ := bnd4_some h
    simp only [Option.some.injEq, Prod.mk.injEq] at h
    obtain ⟨rfl, rfl, rfl, rfl⟩ := h
    exact WP.pathG tab_ok mixed [(9, An.call (ti (minN x3 (13 : Int)))), (10, An.call (ti (maxN (0 : Int) (minN x3 (13 : Int))))), (11, An.v (T.int .i64 ((1 : Int) * 2 ^ Int.toNat (maxN (0 : Int) (minN x3 (13 : Int)))))), (12, An.fz), (13, An.callG [(500, 500)] [V.ref 500 0, vl [(-1 : Int), ((1 : Int) * 2 ^ Int.toNat (maxN (0 : Int) (minN x3 (13 : Int)))), (4611686018427387904 : Int)]] [(500, oc 127 [ty r6b, ti r6c, T.int .u64 r6d])] (vi r13) [(500, oc 127 [ty r13b, ti r13c, T.int .u64 r13d])])] [.keep [4], .keepO [500], .names [(500, 500)]] [500] _ (r' := vi r13) (ps := [(C Tryd.prog 157 [ti x3, ti 13] (ti (minN x3 (13 : Int)))), (C Tryd.prog 129 [ti 0, ti (minN x3 (13 : Int))] (ti (maxN (0 : Int) (minN x3 (13 : Int))))), (0 ≤ (maxN (0 : Int) (minN x3 (13 : Int)))), (T.int .i64 (IntKind.wrap .i64 ((1 : Int) * 2 ^ (min (Int.toNat (maxN (0 : Int) (minN x3 (13 : Int)))) 64))) = T.int .i64 ((1 : Int) * 2 ^ Int.toNat (maxN (0 : Int) (minN x3 (13 : Int))))), ((1 = 1 ∧ 0 + 1 ≤ 3) ∧ (1 = 1 ∧ 1 + 1 ≤ 3) ∧ (1 = 1 ∧ 2 + 1 ≤ 3) ∧ True), (3 = 3 * 1), (CG Tryd.prog 96 [V.ref 500 0, vl [(-1 : Int), ((1 : Int) * 2 ^ Int.toNat (maxN (0 : Int) (minN x3 (13 : Int)))), (4611686018427387904 : Int)]] [(500, oc 127 [ty r6b, ti r6c, T.int .u64 r6d])] (vi r13) [(500, oc 127 [ty r13b, ti r13c, T.int .u64 r13d])]), ((V.ref 500 0).ren (renF [(500, 500)]) = V.ref 500 0), (WkT (T.list 3 1 [ti (-1), ti ((1 : Int) * 2 ^ Int.toNat (maxN (0 : Int) (minN x3 (13 : Int)))), ti 4611686018427387904]) (tl [(-1 : Int), ((1 : Int) * 2 ^ Int.toNat (maxN (0 : Int) (minN x3 (13 : Int)))), (4611686018427387904 : Int)])), ((oc 127 [ty r6b, ti r6c, T.int .u64 r6d]) = (oc 127 [ty r6b, ti r6c, T.int .u64 r6d]).ren (renF [(500, 500)]))]) (r := vi r13) (N := [500]) (O := [(500, oc 127 [ty r13b, ti r13c, T.int .u64 r13d])]) [] (by kernel_rfl) ⟨(by have hh := (l1Least_C x3 (13 : Int)); first | exact hh | simpa using hh), (by have hh := (l1Most_C (0 : Int) (minN x3 (13 : Int))); first | exact hh | simpa using hh), c1.1, shl_told c1, ⟨⟨by first | rfl | (simp; done) | (simp []; done) | omega, by first | decide | (simp; done) | (simp []; done) | omega | (simp only [tlL]; omega) | (simp; omega)⟩, ⟨by first | rfl | (simp; done) | (simp []; done) | omega, by first | decide | (simp; done) | (simp []; done) | omega | (simp only [tlL]; omega) | (simp; omega)⟩, ⟨by first | rfl | (simp; done) | (simp []; done) | omega, by first | decide | (simp; done) | (simp []; done) | omega | (simp only [tlL]; omega) | (simp; omega)⟩, trivial⟩, by decide, (F_p_spec_l1Cur_among_W r6b r6c r6d [(-1 : Int), ((1 : Int) * 2 ^ Int.toNat (maxN (0 : Int) (minN x3 (13 : Int)))), (4611686018427387904 : Int)] r13 r13b r13c r13d c2), by first | rfl | (simp [V.ren, V.renL, renF, lk]; done) | (simp [V.ren, V.renL, renF, lk]; omega), WkT.eq (WkT.refl _) (by first | rfl | (simp only [tlS, tl, vl, vo, oc, ov, tbl, vbl, ty, vy] <;> rfl) | (simp <;> omega) | (simp []; done) | (rw [List.take_of_length_le (by simp [])] <;> rfl) | (simp [List.take_of_length_le]; done)), by first | rfl | (simp only [tlS]; rfl) | (simp [Tl.Obj.ren, V.ren, V.renL, renF, lk]; done), trivial⟩ ⟨(WkT.refl _), trivial⟩ rfl rfl (fun _ h => h)
  · -- no
    refine WP.cond (b := r6) rfl (fun hh => by rw [h1] at hh; cases hh) (fun _ => ?_)
    refine WP.path tab_ok mixed [] [.keep [4, 0, 1], .keepO [500]] (ps := []) (e := .normal) (σ' := ⟨[500], [(4, vi 0), (0, V.ref 500 0), (1, vi x3)], [(500, oc 127 [ty r6b, ti r6c, T.int .u64 r6d])]⟩) (by kernel_rfl) trivial ?_
    obtain ⟨c1, h⟩ := chk_some h
    obtain ⟨r19, r19b, r19c, r19d, c2, h⟩ := bnd4_some h
    simp only [Option.some.injEq, Prod.mk.injEq] at h
    obtain ⟨rfl, rfl, rfl, rfl⟩ := h
    exact WP.pathG tab_ok mixed [(16, An.call (ti (minN x3 (12 : Int)))), (17, An.call (ti (maxN (0 : Int) (minN x3 (12 : Int))))), (18, An.v (T.int .i64 ((1 : Int) * 2 ^ Int.toNat (maxN (0 : Int) (minN x3 (12 : Int)))))), (19, An.callG [(500, 500)] [V.ref 500 0, vi ((1 : Int) * 2 ^ Int.toNat (maxN (0 : Int) (minN x3 (12 : Int))))] [(500, oc 127 [ty r6b, ti r6c, T.int .u64 r6d])] (vi r19) [(500, oc 127 [ty r19b, ti r19c, T.int .u64 r19d])])] [.keep [4], .keepO [500], .names [(500, 500)]] [500] _ (r' := vi r19) (ps := [(C Tryd.prog 157 [ti x3, ti 12] (ti (minN x3 (12 : Int)))), (C Tryd.prog 129 [ti 0, ti (minN x3 (12 : Int))] (ti (maxN (0 : Int) (minN x3 (12 : Int))))), (0 ≤ (maxN (0 : Int) (minN x3 (12 : Int)))), (T.int .i64 (IntKind.wrap .i64 ((1 : Int) * 2 ^ (min (Int.toNat (maxN (0 : Int) (minN x3 (12 : Int)))) 64))) = T.int .i64 ((1 : Int) * 2 ^ Int.toNat (maxN (0 : Int) (minN x3 (12 : Int))))), (CG Tryd.prog 99 [V.ref 500 0, vi ((1 : Int) * 2 ^ Int.toNat (maxN (0 : Int) (minN x3 (12 : Int))))] [(500, oc 127 [ty r6b, ti r6c, T.int .u64 r6d])] (vi r19) [(500, oc 127 [ty r19b, ti r19c, T.int .u64 r19d])]), ((V.ref 500 0).ren (renF [(500, 500)]) = V.ref 500 0), (WkT (ti ((1 : Int) * 2 ^ Int.toNat (maxN (0 : Int) (minN x3 (12 : Int))))) (ti ((1 : Int) * 2 ^ Int.toNat (maxN (0 : Int) (minN x3 (12 : Int)))))), ((oc 127 [ty r6b, ti r6c, T.int .u64 r6d]) = (oc 127 [ty r6b, ti r6c, T.int .u64 r6d]).ren (renF [(500, 500)]))]) (r := vi r19) (N := [500]) (O := [(500, oc 127 [ty r19b, ti r19c, T.int .u64 r19d])]) [] (by kernel_rfl) ⟨(by have hh := (l1Least_C x3 (12 : Int)); first | exact hh | simpa using hh), (by have hh := (l1Most_C (0 : Int) (minN x3 (12 : Int))); first | exact hh | simpa using hh), c1.1, shl_told c1, (F_p_spec_l1Cur_pick_W r6b r6c r6d ((1 : Int) * 2 ^ Int.toNat (maxN (0 : Int) (minN x3 (12 : Int)))) r19 r19b r19c r19d c2), by first | rfl | (simp [V.ren, V.renL, renF, lk]; done) | (simp [V.ren, V.renL, renF, lk]; omega), WkT.refl _, by first | rfl | (simp only [tlS]; rfl) | (simp [Tl.Obj.ren, V.ren, V.renL, renF, lk]; done), trivial⟩ ⟨(WkT.refl _), trivial⟩ rfl rfl (fun _ h => h)
theorem F_p_spec_l1Cur_asked_W (x0 : List Int) (x1 : Int) (x2 : Int) (x3 : Int) (y0 : List (Int × Bool)) (y1 : List Int) (y2 : Int) (y3 : Int) (h : F_p_spec_l1Cur_asked x0 x1 x2 x3 = some (y0, y1, y2, y3)) : CG Tryd.prog 106 [V.ref 500 0, vi x3] [(500, oc 127 [ty x0, ti x1, T.int .u64 x2])] (V.own 9000 2 (List.length y0)) [(500, oc 127 [ty y1, ti y2, T.int .u64 y3]), (9000, oc 90 (List.flatMap askedC y0))] := by
  unfold F_p_spec_l1Cur_asked at h
  refine CG.intro (tab := tab) tab_ok (fn := Tryd.f106) Tryd.func106 (by kernel_rfl) rfl (Nat.le_of_ble_eq_true rfl) (by kernel_rfl) ?_
  refine WP.seq ?_
  refine WP.path tab_ok mixed [] [.keep [4, 0, 1], .keepO [500]] (ps := []) (e := .normal) (σ' := ⟨[500], [(4, V.t (T.nils)), (0, V.ref 500 0), (1, vi x3)], [(500, oc 127 [ty x0, ti x1, T.int .u64 x2])]⟩) (by kernel_rfl) trivial ?_
  refine WP.seq ?_
  obtain ⟨r14, r14b, r14c, r14d, c0, h⟩ := bnd4_some h
  refine WP.path tab_ok mixed [(10, An.id 2010), (13, An.call (ti (maxN (1 : Int) x3))), (14, An.callG [(500, 500)] [V.ref 500 0, vi (maxN (1 : Int) x3)] [(500, oc 127 [ty x0, ti x1, T.int .u64 x2])] (vi r14) [(500, oc 127 [ty r14b, ti r14c, T.int .u64 r14d])])] [.keep [6, 5, 4, 0, 1], .keepO [500, 2010]] (ps := [(True), (0 = 0 * 2), (C Tryd.prog 129 [ti 1, ti x3] (ti (maxN (1 : Int) x3))), (CG Tryd.prog 99 [V.ref 500 0, vi (maxN (1 : Int) x3)] [(500, oc 127 [ty x0, ti x1, T.int .u64 x2])] (vi r14) [(500, oc 127 [ty r14b, ti r14c, T.int .u64 r14d])]), ((V.ref 500 0).ren (renF [(500, 500)]) = V.ref 500 0), (WkT (ti (maxN (1 : Int) x3)) (ti (maxN (1 : Int) x3))), ((oc 127 [ty x0, ti x1, T.int .u64 x2]) = (oc 127 [ty x0, ti x1, T.int .u64 x2]).ren (renF [(500, 500)]))]) (e := .normal) (σ' := ⟨[2010, 500], [(6, vi r14), (5, V.own 2010 2 0), (4, V.t (T.nils)), (0, V.ref 500 0), (1, vi x3)], [(500, oc 127 [ty r14b, ti r14c, T.int .u64 r14d]), (2010, oc 90 [])]⟩) (by kernel_rfl) ⟨trivial, by decide, (by have hh := (l1Most_C (1 : Int) x3); first | exact hh | simpa using hh), (F_p_spec_l1Cur_pick_W x0 x1 x2 (maxN (1 : Int) x3) r14 r14b r14c r14d c0), by first | rfl | (simp [V.ren, V.renL, renF, lk]; done) | (simp [V.ren, V.renL, renF, lk]; omega), WkT.refl _, by first | rfl | (simp only [tlS]; rfl) | (simp [Tl.Obj.ren, V.ren, V.renL, renF, lk]; done), trivial⟩ ?_
  obtain ⟨J1, hJ1, h⟩ := jn_some h
  refine WP.joinA (fun (zz : (List Int) × Int × Int × (List (Int × Bool))) => ⟨[500, 2010], [(5, V.own 2010 2 (List.length zz.2.2.2)), (4, V.t (T.nils)), (0, V.ref 500 0)], [(500, oc 127 [ty zz.1, ti zz.2.1, T.int .u64 zz.2.2.1]), (2010, oc 90 (List.flatMap askedC zz.2.2.2))]⟩) (fun zz => J1 zz.1 zz.2.1 zz.2.2.1 zz.2.2.2 = some (y0, y1, y2, y3)) ?_ ?_
  · -- to where they meet
    refine WP.seq ?_
    obtain ⟨r17, r17b, r17c, r17d, c1, h⟩ := bnd4_some h
    refine WP.path tab_ok mixed [(16, An.fz), (17, An.callG [(500, 500)] [V.ref 500 0, vl [(3 : Int), (4 : Int), (2 : Int), (5 : Int), (1 : Int), (0 : Int), (7 : Int), (10 : Int)]] [(500, oc 127 [ty r14b, ti r14c, T.int .u64 r14d])] (vi r17) [(500, oc 127 [ty r17b, ti r17c, T.int .u64 r17d])])] [.keep [7, 6, 5, 4, 0, 1], .keepO [500, 2010]] (ps := [((1 = 1 ∧ 0 + 1 ≤ 8) ∧ (1 = 1 ∧ 1 + 1 ≤ 8) ∧ (1 = 1 ∧ 2 + 1 ≤ 8) ∧ (1 = 1 ∧ 3 + 1 ≤ 8) ∧ (1 = 1 ∧ 4 + 1 ≤ 8) ∧ (1 = 1 ∧ 5 + 1 ≤ 8) ∧ (1 = 1 ∧ 6 + 1 ≤ 8) ∧ (1 = 1 ∧ 7 + 1 ≤ 8) ∧ True), (8 = 8 * 1), (CG Tryd.prog 96 [V.ref 500 0, vl [(3 : Int), (4 : Int), (2 : Int), (5 : Int), (1 : Int), (0 : Int), (7 : Int), (10 : Int)]] [(500, oc 127 [ty r14b, ti r14c, T.int .u64 r14d])] (vi r17) [(500, oc 127 [ty r17b, ti r17c, T.int .u64 r17d])]), ((V.ref 500 0).ren (renF [(500, 500)]) = V.ref 500 0), (WkT (T.list 8 1 [ti 3, ti 4, ti 2, ti 5, ti 1, ti 0, ti 7, ti 10]) (tl [(3 : Int), (4 : Int), (2 : Int), (5 : Int), (1 : Int), (0 : Int), (7 : Int), (10 : Int)])), ((oc 127 [ty r14b, ti r14c, T.int .u64 r14d]) = (oc 127 [ty r14b, ti r14c, T.int .u64 r14d]).ren (renF [(500, 500)]))]) (e := .normal) (σ' := ⟨[2010, 500], [(7, vi r17), (6, vi r14), (5, V.own 2010 2 0), (4, V.t (T.nils)), (0, V.ref 500 0), (1, vi x3)], [(500, oc 127 [ty r17b, ti r17c, T.int .u64 r17d]), (2010, oc 90 [])]⟩) (by kernel_rfl) ⟨⟨⟨by first | rfl | (simp; done) | (simp []; done) | omega, by first | decide | (simp; done) | (simp []; done) | omega | (simp only [tlL]; omega) | (simp; omega)⟩, ⟨by first | rfl | (simp; done) | (simp []; done) | omega, by first | decide | (simp; done) | (simp []; done) | omega | (simp only [tlL]; omega) | (simp; omega)⟩, ⟨by first | rfl | (simp; done) | (simp []; done) | omega, by first | decide | (simp; done) | (simp []; done) | omega | (simp only [tlL]; omega) | (simp; omega)⟩, ⟨by first | rfl | (simp; done) | (simp []; done) | omega, by first | decide | (simp; done) | (simp []; done) | omega | (simp only [tlL]; omega) | (simp; omega)⟩, ⟨by first | rfl | (simp; done) | (simp []; done) | omega, by first | decide | (simp; done) | (simp []; done) | omega | (simp only [tlL]; omega) | (simp; omega)⟩, ⟨by first | rfl | (simp; done) | (simp []; done) | omega, by first | decide | (simp; done) | (simp []; done) | omega | (simp only [tlL]; omega) | (simp; omega)⟩, ⟨by first | rfl | (simp; done) | (simp []; done) | omega, by first | decide | (simp; done) | (simp []; done) | omega | (simp only [tlL]; omega) | (simp; omega)⟩, ⟨by first | rfl | (simp; done) | (simp []; done) | omega, by first | decide | (simp; done) | (simp []; done) | omega | (simp only [tlL]; omega) | (simp; omega)⟩, trivial⟩, by decide, (F_p_spec_l1Cur_among_W r14b r14c r14d [(3 : Int), (4 : Int), (2 : Int), (5 : Int), (1 : Int), (0 : Int), (7 : Int), (10 : Int)] r17 r17b r17c r17d c1), by first | rfl | (simp [V.ren, V.renL, renF, lk]; done) | (simp [V.ren, V.renL, renF, lk]; omega), WkT.eq (WkT.refl _) (by first | rfl | (simp only [tlS, tl, vl, vo, oc, ov, tbl, vbl, ty, vy] <;> rfl) | (simp <;> omega) | (simp []; done) | (rw [List.take_of_length_le (by simp [])] <;> rfl) | (simp [List.take_of_length_le]; done)), by first | rfl | (simp only [tlS]; rfl) | (simp [Tl.Obj.ren, V.ren, V.renL, renF, lk]; done), trivial⟩ ?_
    refine WP.block ?_
    refine WP.wk [.keep [7, 6, 5, 4, 0, 1], .keepO [500, 2010], .names [(500, 500), (2010, 2010)]] (σ' := ⟨[500, 2010], [(7, vi r17), (6, vi r14), (5, V.own 2010 2 0), (4, V.t (T.nils)), (0, V.ref 500 0), (1, vi x3)], [(500, oc 127 [ty r17b, ti r17c, T.int .u64 r17d]), (2010, oc 90 [])]⟩) (ps := []) (by kernel_rfl) trivial ?_
    refine WP.st (σ' := ⟨[500, 2010], [(7, vi r17), (6, vi r14), (5, V.own 2010 2 (List.length ([] : List (Int × Bool)))), (4, V.t (T.nils)), (0, V.ref 500 0), (1, vi x3)], [(500, oc 127 [ty r17b, ti r17c, T.int .u64 r17d]), (2010, oc 90 (List.flatMap askedC ([] : List (Int × Bool))))]⟩) (by first | rfl | (simp only [tlS, tl, vl, vo, oc, ov, tbl, vbl, ty, vy] <;> rfl) | (simp <;> omega) | (simp []; done) | (rw [List.take_of_length_le (by simp [])] <;> rfl) | (simp [List.take_of_length_le]; done)) ?_
    refine WP.loop (α := Nat × (List Int) × Int × Int × (List (Int × Bool)) × Int) (fun zz => ⟨[500, 2010], [(7, vi zz.2.2.2.2.2), (6, vi r14), (5, V.own 2010 2 (List.length zz.2.2.2.2.1)), (4, V.t (T.nils)), (0, V.ref 500 0), (1, vi x3)], [(500, oc 127 [ty zz.2.1, ti zz.2.2.1, T.int .u64 zz.2.2.2.1]), (2010, oc 90 (List.flatMap askedC zz.2.2.2.2.1))]⟩) (fun zz => F_p_spec_l1Cur_asked_L1 x3 r14 J1 zz.1 zz.2.1 zz.2.2.1 zz.2.2.2.1 zz.2.2.2.2.1 zz.2.2.2.2.2 = some (y0, y1, y2, y3)) (fun zz => zz.1) (fuel, r17b, r17c, r17d, ([] : List (Int × Bool)), r17) h ?_
    rintro ⟨n, o500, o500b, o500c, o10, v7⟩ h0
    have h := (show F_p_spec_l1Cur_asked_L1 x3 r14 J1 n o500 o500b o500c o10 v7 = some (y0, y1, y2, y3) from h0)
    rcases n with _ | n
    · rw [F_p_spec_l1Cur_asked_L1] at h; cases h
    · rw [F_p_spec_l1Cur_asked_L1] at h
      refine WP.seq ?_
      refine WP.seq ?_
      refine WP.path tab_ok mixed [] [.keep [19, 7, 6, 5, 4, 0, 1], .keepO [500, 2010]] (ps := [(True)]) (e := .normal) (σ' := ⟨[500, 2010], [(19, vb (decide (v7 > (0 : Int)))), (7, vi v7), (6, vi r14), (5, V.own 2010 2 (List.length o10)), (4, V.t (T.nils)), (0, V.ref 500 0), (1, vi x3)], [(500, oc 127 [ty o500, ti o500b, T.int .u64 o500c]), (2010, oc 90 (List.flatMap askedC o10))]⟩) (by kernel_rfl) ⟨trivial, trivial⟩ ?_
      rcases ite_some h with ⟨h1, h⟩ | ⟨h1, h⟩
      · -- yes
        refine WP.cond (b := decide (v7 > (0 : Int))) rfl (fun _ => ?_) (fun hh => by rw [h1] at hh; cases hh)
        refine WP.path tab_ok mixed [] [.keep [7, 6, 5, 4, 0, 1], .keepO [500, 2010]] (ps := []) (e := .normal) (σ' := ⟨[500, 2010], [(7, vi v7), (6, vi r14), (5, V.own 2010 2 (List.length o10)), (4, V.t (T.nils)), (0, V.ref 500 0), (1, vi x3)], [(500, oc 127 [ty o500, ti o500b, T.int .u64 o500c]), (2010, oc 90 (List.flatMap askedC o10))]⟩) (by kernel_rfl) trivial ?_
        refine WP.seq ?_
        refine WP.block ?_
        refine WP.seq ?_
        obtain ⟨r24, r24b, r24c, r24d, c2, h⟩ := bnd4_some h
        refine WP.path tab_ok mixed [(24, An.callG [(500, 500)] [V.ref 500 0, vi x3] [(500, oc 127 [ty o500, ti o500b, T.int .u64 o500c])] (vi r24) [(500, oc 127 [ty r24b, ti r24c, T.int .u64 r24d])])] [.keep [8, 7, 6, 5, 4, 0, 1], .keepO [500, 2010]] (ps := [(CG Tryd.prog 117 [V.ref 500 0, vi x3] [(500, oc 127 [ty o500, ti o500b, T.int .u64 o500c])] (vi r24) [(500, oc 127 [ty r24b, ti r24c, T.int .u64 r24d])]), ((V.ref 500 0).ren (renF [(500, 500)]) = V.ref 500 0), (WkT (ti x3) (ti x3)), ((oc 127 [ty o500, ti o500b, T.int .u64 o500c]) = (oc 127 [ty o500, ti o500b, T.int .u64 o500c]).ren (renF [(500, 500)]))]) (e := .normal) (σ' := ⟨[500, 2010], [(8, vi r24), (7, vi v7), (6, vi r14), (5, V.own 2010 2 (List.length o10)), (4, V.t (T.nils)), (0, V.ref 500 0), (1, vi x3)], [(500, oc 127 [ty r24b, ti r24c, T.int .u64 r24d]), (2010, oc 90 (List.flatMap askedC o10))]⟩) (by kernel_rfl) ⟨(F_p_spec_l1Cur_question_W o500 o500b o500c x3 r24 r24b r24c r24d c2), by first | rfl | (simp [V.ren, V.renL, renF, lk]; done) | (simp [V.ren, V.renL, renF, lk]; omega), WkT.refl _, by first | rfl | (simp only [tlS]; rfl) | (simp [Tl.Obj.ren, V.ren, V.renL, renF, lk]; done), trivial⟩ ?_
        obtain ⟨J2, hJ2, h⟩ := jn_some h
        refine WP.joinA (fun (zz : Bool) => ⟨[500, 2009, 2010], [(9, V.ref 2009 0), (7, vi v7), (6, vi r14), (5, V.own 2010 2 (List.length o10)), (4, V.t (T.nils)), (0, V.ref 500 0), (1, vi x3)], [(500, oc 127 [ty r24b, ti r24c, T.int .u64 r24d]), (2009, oc 90 [ti r24, tb zz]), (2010, oc 90 (List.flatMap askedC o10))]⟩) (fun zz => J2 zz = some (y0, y1, y2, y3)) ?_ ?_
        · -- to where they meet
          rcases ite_some h with ⟨h2, h⟩ | ⟨h2, h⟩
          · -- yes
            obtain ⟨c3, h⟩ := chk_some h
            obtain ⟨n32, c4, h⟩ := nam_some h
            refine WP.path tab_ok mixed [(27, An.call (tb true)), (31, An.v (T.int .i64 (r24 / 2 ^ Int.toNat r14))), (32, An.v (ti n32)), (9, An.id 2009)] [.keep [9, 7, 6, 5, 4, 0, 1], .keepO [500, 2009, 2010], .names [(500, 500), (2009, 2009), (2010, 2010)]] (ps := [(C Tryd.prog 80 [ti r24, ti 0, ti 4095] (tb true)), (0 ≤ r14), (T.int .i64 (Int.fdiv r24 (2 ^ (min (Int.toNat r14) 64))) = T.int .i64 (r24 / 2 ^ Int.toNat r14)), (True), (ti (bits .and .i64 (r24 / 2 ^ Int.toNat r14) (1 : Int)) = ti n32), (True), ((1 = 1 ∧ 0 + 1 ≤ 2) ∧ (1 = 1 ∧ 1 + 1 ≤ 2) ∧ True), ((0 + 2 ≤ 2 ∧ 2 = 2))]) (e := .normal) (σ' := ⟨[500, 2009, 2010], [(9, V.ref 2009 0), (7, vi v7), (6, vi r14), (5, V.own 2010 2 (List.length o10)), (4, V.t (T.nils)), (0, V.ref 500 0), (1, vi x3)], [(500, oc 127 [ty r24b, ti r24c, T.int .u64 r24d]), (2009, oc 90 [ti r24, tb (n32 == (1 : Int))]), (2010, oc 90 (List.flatMap askedC o10))]⟩) (by kernel_rfl) ⟨(C.toB h2 (by have hh := (l1In_C r24 (0 : Int) (4095 : Int)); first | exact hh | simpa using hh)), c3.1, shr_told c3, trivial, congrArg (ti) c4, trivial, ⟨⟨by first | rfl | (simp; done) | (simp []; done) | omega, by first | decide | (simp; done) | (simp []; done) | omega | (simp only [tlL]; omega) | (simp; omega)⟩, ⟨by first | rfl | (simp; done) | (simp []; done) | omega, by first | decide | (simp; done) | (simp []; done) | omega | (simp only [tlL]; omega) | (simp; omega)⟩, trivial⟩, by decide, trivial⟩ ?_
            exact ⟨(n32 == (1 : Int)), h, rfl⟩
          · -- no
            refine WP.path tab_ok mixed [(27, An.call (tb false)), (9, An.id 2009)] [.keep [9, 7, 6, 5, 4, 0, 1], .keepO [500, 2009, 2010], .names [(500, 500), (2009, 2009), (2010, 2010)]] (ps := [(C Tryd.prog 80 [ti r24, ti 0, ti 4095] (tb false)), ((1 = 1 ∧ 0 + 1 ≤ 2) ∧ (1 = 1 ∧ 1 + 1 ≤ 2) ∧ True), ((0 + 2 ≤ 2 ∧ 2 = 2))]) (e := .normal) (σ' := ⟨[500, 2009, 2010], [(9, V.ref 2009 0), (7, vi v7), (6, vi r14), (5, V.own 2010 2 (List.length o10)), (4, V.t (T.nils)), (0, V.ref 500 0), (1, vi x3)], [(500, oc 127 [ty r24b, ti r24c, T.int .u64 r24d]), (2009, oc 90 [ti r24, tb false]), (2010, oc 90 (List.flatMap askedC o10))]⟩) (by kernel_rfl) ⟨(C.toB h2 (by have hh := (l1In_C r24 (0 : Int) (4095 : Int)); first | exact hh | simpa using hh)), ⟨⟨by first | rfl | (simp; done) | (simp []; done) | omega, by first | decide | (simp; done) | (simp []; done) | omega | (simp only [tlL]; omega) | (simp; omega)⟩, ⟨by first | rfl | (simp; done) | (simp []; done) | omega, by first | decide | (simp; done) | (simp []; done) | omega | (simp only [tlL]; omega) | (simp; omega)⟩, trivial⟩, by decide, trivial⟩ ?_
            exact ⟨(false), h, rfl⟩
        · -- from there
          intro o9 h0
          have h := (show J2 o9 = some (y0, y1, y2, y3) from h0)
          rw [hJ2] at h
          obtain ⟨J2, hJ2, h⟩ := jn_some h
          refine WP.joinA (fun (zz : (List Int) × Int × Int × Bool) => ⟨[500, 2009, 2010], [(9, V.ref 2009 0), (7, vi v7), (6, vi r14), (5, V.own 2010 2 (List.length o10)), (4, V.t (T.nils)), (0, V.ref 500 0), (1, vi x3)], [(500, oc 127 [ty zz.1, ti zz.2.1, T.int .u64 zz.2.2.1]), (2009, oc 90 [ti r24, tb zz.2.2.2]), (2010, oc 90 (List.flatMap askedC o10))]⟩) (fun zz => J2 zz.1 zz.2.1 zz.2.2.1 zz.2.2.2 = some (y0, y1, y2, y3)) ?_ ?_
          · -- to where they meet
            refine WP.seq ?_
            obtain ⟨r37, r37b, r37c, r37d, c3, h⟩ := bnd4_some h
            refine WP.path tab_ok mixed [(37, An.callG [(500, 500)] [V.ref 500 0, vi 4] [(500, oc 127 [ty r24b, ti r24c, T.int .u64 r24d])] (vb r37) [(500, oc 127 [ty r37b, ti r37c, T.int .u64 r37d])])] [.keep [37, 9, 7, 6, 5, 4, 0, 1], .keepO [500, 2009, 2010]] (ps := [(CG Tryd.prog 98 [V.ref 500 0, vi 4] [(500, oc 127 [ty r24b, ti r24c, T.int .u64 r24d])] (vb r37) [(500, oc 127 [ty r37b, ti r37c, T.int .u64 r37d])]), ((V.ref 500 0).ren (renF [(500, 500)]) = V.ref 500 0), (WkT (ti 4) (ti 4)), ((oc 127 [ty r24b, ti r24c, T.int .u64 r24d]) = (oc 127 [ty r24b, ti r24c, T.int .u64 r24d]).ren (renF [(500, 500)]))]) (e := .normal) (σ' := ⟨[500, 2009, 2010], [(37, vb r37), (9, V.ref 2009 0), (7, vi v7), (6, vi r14), (5, V.own 2010 2 (List.length o10)), (4, V.t (T.nils)), (0, V.ref 500 0), (1, vi x3)], [(500, oc 127 [ty r37b, ti r37c, T.int .u64 r37d]), (2009, oc 90 [ti r24, tb o9]), (2010, oc 90 (List.flatMap askedC o10))]⟩) (by kernel_rfl) ⟨(F_p_spec_l1Cur_one_W r24b r24c r24d (4 : Int) r37 r37b r37c r37d c3), by first | rfl | (simp [V.ren, V.renL, renF, lk]; done) | (simp [V.ren, V.renL, renF, lk]; omega), WkT.refl _, by first | rfl | (simp only [tlS]; rfl) | (simp [Tl.Obj.ren, V.ren, V.renL, renF, lk]; done), trivial⟩ ?_
            rcases ite_some h with ⟨h3, h⟩ | ⟨h3, h⟩
            · -- yes
              refine WP.cond (b := r37) rfl (fun _ => ?_) (fun hh => by rw [h3] at hh; cases hh)
              refine WP.path tab_ok mixed [] [.keep [9, 7, 6, 5, 4, 0, 1], .keepO [500, 2009, 2010], .names [(500, 500), (2009, 2009), (2010, 2010)]] (ps := [(True), (1 < 2)]) (e := .normal) (σ' := ⟨[500, 2009, 2010], [(9, V.ref 2009 0), (7, vi v7), (6, vi r14), (5, V.own 2010 2 (List.length o10)), (4, V.t (T.nils)), (0, V.ref 500 0), (1, vi x3)], [(500, oc 127 [ty r37b, ti r37c, T.int .u64 r37d]), (2009, oc 90 [ti r24, tb (!o9)]), (2010, oc 90 (List.flatMap askedC o10))]⟩) (by kernel_rfl) ⟨trivial, by decide, trivial⟩ ?_
              exact ⟨(r37b, r37c, r37d, !o9), h, rfl⟩
            · -- no
              refine WP.cond (b := r37) rfl (fun hh => by rw [h3] at hh; cases hh) (fun _ => ?_)
              refine WP.path tab_ok mixed [] [.keep [9, 7, 6, 5, 4, 0, 1], .keepO [500, 2009, 2010], .names [(500, 500), (2009, 2009), (2010, 2010)]] (ps := []) (e := .normal) (σ' := ⟨[500, 2009, 2010], [(9, V.ref 2009 0), (7, vi v7), (6, vi r14), (5, V.own 2010 2 (List.length o10)), (4, V.t (T.nils)), (0, V.ref 500 0), (1, vi x3)], [(500, oc 127 [ty r37b, ti r37c, T.int .u64 r37d]), (2009, oc 90 [ti r24, tb o9]), (2010, oc 90 (List.flatMap askedC o10))]⟩) (by kernel_rfl) trivial ?_
              exact ⟨(r37b, r37c, r37d, o9), h, rfl⟩
          · -- from there
            rintro ⟨o500d, o500e, o500g, o9b⟩ h0
            have h := (show J2 o500d o500e o500g o9b = some (y0, y1, y2, y3) from h0)
            rw [hJ2] at h
            obtain ⟨c3, h⟩ := chk_some h
            refine WP.path tab_ok mixed [(44, An.fz), (45, An.id 2045)] [.keep [5, 7, 6, 4, 0, 1], .keepO [500, 2045]] (ps := [(0 + 2 ≤ 2), ((2 = 2 ∧ 0 + 2 ≤ 2) ∧ True), (2 = 1 * 2), (True), (List.length (List.flatMap askedC o10) = (List.length o10) * 2), ((((List.length o10) + 1) * 16 ≤ 140737488355328 ∧ (List.length o10) + 1 ≤ maxLen))]) (e := .normal) (σ' := ⟨[2045, 500, 2009, 2010], [(5, V.own 2045 2 ((List.length o10) + 1)), (7, vi v7), (6, vi r14), (4, V.t (T.nils)), (0, V.ref 500 0), (1, vi x3)], [(500, oc 127 [ty o500d, ti o500e, T.int .u64 o500g]), (2045, oc 90 ((List.flatMap askedC o10) ++ [ti r24, tb o9b]))]⟩) (by kernel_rfl) ⟨by decide, ⟨⟨by first | rfl | (simp; done) | (simp []; done) | omega, by first | decide | (simp; done) | (simp []; done) | omega | (simp only [tlL]; omega) | (simp; omega)⟩, trivial⟩, by decide, trivial, by first | exact len_asked _ | (rw [len_asked]; first | done | omega | (simp; done) | (simp only [tlL]; omega) | (simp; omega)), c3, trivial⟩ ?_
            obtain ⟨c4, h⟩ := chk_some h
            refine WP.path tab_ok mixed [(21, An.v (T.int .i64 (v7 - (1 : Int))))] [.keep [7, 6, 5, 4, 0, 1], .keepO [500, 2045], .names [(500, 500), (2045, 2010)]] (ps := [(True), (T.int .i64 (IntKind.wrap .i64 (v7 - (1 : Int))) = T.int .i64 (v7 - (1 : Int)))]) (e := .normal) (σ' := ⟨[500, 2010], [(7, vi (v7 - (1 : Int))), (6, vi r14), (5, V.own 2010 2 ((List.length o10) + 1)), (4, V.t (T.nils)), (0, V.ref 500 0), (1, vi x3)], [(500, oc 127 [ty o500d, ti o500e, T.int .u64 o500g]), (2010, oc 90 ((List.flatMap askedC o10) ++ [ti r24, tb o9b]))]⟩) (by kernel_rfl) ⟨trivial, wrapI c4, trivial⟩ ?_
            exact ⟨(n, o500d, o500e, o500g, o10 ++ [(r24, o9b)], (v7 - (1 : Int))), h, Nat.lt_succ_self _, (by first | rfl | (simp only [tlS, tl, vl, vo, oc, ov, tbl, vbl, ty, vy] <;> rfl) | (simp <;> omega) | (simp []; done) | (rw [List.take_of_length_le (by simp [])] <;> rfl) | (simp [List.take_of_length_le]; done))⟩
      · -- no
        refine WP.cond (b := decide (v7 > (0 : Int))) rfl (fun hh => by rw [h1] at hh; cases hh) (fun _ => ?_)
        refine WP.path tab_ok mixed [] [.keep [5, 4, 0], .keepO [500, 2010], .names [(500, 500), (2010, 2010)]] (ps := []) (e := (.exit 0)) (σ' := ⟨[500, 2010], [(5, V.own 2010 2 (List.length o10)), (4, V.t (T.nils)), (0, V.ref 500 0)], [(500, oc 127 [ty o500, ti o500b, T.int .u64 o500c]), (2010, oc 90 (List.flatMap askedC o10))]⟩) (by kernel_rfl) trivial ?_
        exact ⟨(o500, o500b, o500c, o10), h, rfl⟩
  · -- from there
    rintro ⟨o500, o500b, o500c, o10⟩ h0
    have h := (show J1 o500 o500b o500c o10 = some (y0, y1, y2, y3) from h0)
    rw [hJ1] at h
    obtain ⟨J1, hJ1, h⟩ := jn_some h
    refine WP.joinA (fun (zz : (List Int) × Int × Int × (List (Int × Bool))) => ⟨[500, 2010], [(5, V.own 2010 2 (List.length zz.2.2.2)), (4, V.t (T.nils))], [(500, oc 127 [ty zz.1, ti zz.2.1, T.int .u64 zz.2.2.1]), (2010, oc 90 (List.flatMap askedC zz.2.2.2))]⟩) (fun zz => J1 zz.1 zz.2.1 zz.2.2.1 zz.2.2.2 = some (y0, y1, y2, y3)) ?_ ?_
    · -- to where they meet
      refine WP.seq ?_
      obtain ⟨r47, r47b, r47c, r47d, c1, h⟩ := bnd4_some h
      refine WP.path tab_ok mixed [(47, An.callG [(500, 500)] [V.ref 500 0, vi 40] [(500, oc 127 [ty o500, ti o500b, T.int .u64 o500c])] (vb r47) [(500, oc 127 [ty r47b, ti r47c, T.int .u64 r47d])])] [.keep [47, 5, 4], .keepO [500, 2010]] (ps := [(CG Tryd.prog 98 [V.ref 500 0, vi 40] [(500, oc 127 [ty o500, ti o500b, T.int .u64 o500c])] (vb r47) [(500, oc 127 [ty r47b, ti r47c, T.int .u64 r47d])]), ((V.ref 500 0).ren (renF [(500, 500)]) = V.ref 500 0), (WkT (ti 40) (ti 40)), ((oc 127 [ty o500, ti o500b, T.int .u64 o500c]) = (oc 127 [ty o500, ti o500b, T.int .u64 o500c]).ren (renF [(500, 500)]))]) (e := .normal) (σ' := ⟨[500, 2010], [(47, vb r47), (5, V.own 2010 2 (List.length o10)), (4, V.t (T.nils))], [(500, oc 127 [ty r47b, ti r47c, T.int .u64 r47d]), (2010, oc 90 (List.flatMap askedC o10))]⟩) (by kernel_rfl) ⟨(F_p_spec_l1Cur_one_W o500 o500b o500c (40 : Int) r47 r47b r47c r47d c1), by first | rfl | (simp [V.ren, V.renL, renF, lk]; done) | (simp [V.ren, V.renL, renF, lk]; omega), WkT.refl _, by first | rfl | (simp only [tlS]; rfl) | (simp [Tl.Obj.ren, V.ren, V.renL, renF, lk]; done), trivial⟩ ?_
      rcases ite_some h with ⟨h4, h⟩ | ⟨h4, h⟩
      · -- yes
        refine WP.cond (b := r47) rfl (fun _ => ?_) (fun hh => by rw [h4] at hh; cases hh)
        refine WP.block ?_
        refine WP.wk [.keep [5, 4], .keepO [500, 2010], .names [(500, 500), (2010, 2010)]] (σ' := ⟨[500, 2010], [(5, V.own 2010 2 (List.length o10)), (4, V.t (T.nils))], [(500, oc 127 [ty r47b, ti r47c, T.int .u64 r47d]), (2010, oc 90 (List.flatMap askedC o10))]⟩) (ps := []) (by kernel_rfl) trivial ?_
        refine WP.loop (α := Nat × (List (Int × Bool))) (fun zz => ⟨[500, 2010], [(5, V.own 2010 2 (List.length zz.2)), (4, V.t (T.nils))], [(500, oc 127 [ty r47b, ti r47c, T.int .u64 r47d]), (2010, oc 90 (List.flatMap askedC zz.2))]⟩) (fun zz => F_p_spec_l1Cur_asked_L2 J1 r47b r47c r47d zz.1 zz.2 = some (y0, y1, y2, y3)) (fun zz => zz.1) (fuel, o10) h ?_
        rintro ⟨n, o10b⟩ h0
        have h := (show F_p_spec_l1Cur_asked_L2 J1 r47b r47c r47d n o10b = some (y0, y1, y2, y3) from h0)
        rcases n with _ | n
        · rw [F_p_spec_l1Cur_asked_L2] at h; cases h
        · rw [F_p_spec_l1Cur_asked_L2] at h
          refine WP.seq ?_
          refine WP.seq ?_
          refine WP.path tab_ok mixed [] [.keep [50, 5, 4], .keepO [500, 2010]] (ps := [(True)]) (e := .normal) (σ' := ⟨[500, 2010], [(50, vb (decide (((List.length o10b : Nat) : Int) < (21 : Int)))), (5, V.own 2010 2 (List.length o10b)), (4, V.t (T.nils))], [(500, oc 127 [ty r47b, ti r47c, T.int .u64 r47d]), (2010, oc 90 (List.flatMap askedC o10b))]⟩) (by kernel_rfl) ⟨trivial, trivial⟩ ?_
          rcases ite_some h with ⟨h5, h⟩ | ⟨h5, h⟩
          · -- yes
            refine WP.cond (b := decide (((List.length o10b : Nat) : Int) < (21 : Int))) rfl (fun _ => ?_) (fun hh => by rw [h5] at hh; cases hh)
            refine WP.path tab_ok mixed [] [.keep [5, 4], .keepO [500, 2010]] (ps := []) (e := .normal) (σ' := ⟨[500, 2010], [(5, V.own 2010 2 (List.length o10b)), (4, V.t (T.nils))], [(500, oc 127 [ty r47b, ti r47c, T.int .u64 r47d]), (2010, oc 90 (List.flatMap askedC o10b))]⟩) (by kernel_rfl) trivial ?_
            refine WP.block ?_
            obtain ⟨c2, h⟩ := chk_some h
            refine WP.path tab_ok mixed [(53, An.fz), (54, An.id 2054)] [.keep [5, 4], .keepO [500, 2054], .names [(500, 500), (2054, 2010)]] (ps := [((1 = 1 ∧ 0 + 1 ≤ 2) ∧ True), ((2 = 2 ∧ 0 + 2 ≤ 2) ∧ True), (2 = 1 * 2), (True), (List.length (List.flatMap askedC o10b) = (List.length o10b) * 2), ((((List.length o10b) + 1) * 16 ≤ 140737488355328 ∧ (List.length o10b) + 1 ≤ maxLen))]) (e := .normal) (σ' := ⟨[500, 2010], [(5, V.own 2010 2 ((List.length o10b) + 1)), (4, V.t (T.nils))], [(500, oc 127 [ty r47b, ti r47c, T.int .u64 r47d]), (2010, oc 90 ((List.flatMap askedC o10b) ++ [ti 1, tb false]))]⟩) (by kernel_rfl) ⟨⟨⟨by first | rfl | (simp; done) | (simp []; done) | omega, by first | decide | (simp; done) | (simp []; done) | omega | (simp only [tlL]; omega) | (simp; omega)⟩, trivial⟩, ⟨⟨by first | rfl | (simp; done) | (simp []; done) | omega, by first | decide | (simp; done) | (simp []; done) | omega | (simp only [tlL]; omega) | (simp; omega)⟩, trivial⟩, by decide, trivial, by first | exact len_asked _ | (rw [len_asked]; first | done | omega | (simp; done) | (simp only [tlL]; omega) | (simp; omega)), c2, trivial⟩ ?_
            exact ⟨(n, o10b ++ [((1 : Int), false)]), h, Nat.lt_succ_self _, (by first | rfl | (simp only [tlS, tl, vl, vo, oc, ov, tbl, vbl, ty, vy] <;> rfl) | (simp <;> omega) | (simp []; done) | (rw [List.take_of_length_le (by simp [])] <;> rfl) | (simp [List.take_of_length_le]; done))⟩
          · -- no
            refine WP.cond (b := decide (((List.length o10b : Nat) : Int) < (21 : Int))) rfl (fun hh => by rw [h5] at hh; cases hh) (fun _ => ?_)
            refine WP.path tab_ok mixed [] [.keep [5, 4], .keepO [500, 2010], .names [(500, 500), (2010, 2010)]] (ps := []) (e := (.exit 2)) (σ' := ⟨[500, 2010], [(5, V.own 2010 2 (List.length o10b)), (4, V.t (T.nils))], [(500, oc 127 [ty r47b, ti r47c, T.int .u64 r47d]), (2010, oc 90 (List.flatMap askedC o10b))]⟩) (by kernel_rfl) trivial ?_
            exact ⟨(r47b, r47c, r47d, o10b), h, rfl⟩
      · -- no
        refine WP.cond (b := r47) rfl (fun hh => by rw [h4] at hh; cases hh) (fun _ => ?_)
        refine WP.path tab_ok mixed [] [.keep [5, 4], .keepO [500, 2010], .names [(500, 500), (2010, 2010)]] (ps := []) (e := .normal) (σ' := ⟨[500, 2010], [(5, V.own 2010 2 (List.length o10)), (4, V.t (T.nils))], [(500, oc 127 [ty r47b, ti r47c, T.int .u64 r47d]), (2010, oc 90 (List.flatMap askedC o10))]⟩) (by kernel_rfl) trivial ?_
        exact ⟨(r47b, r47c, r47d, o10), h, rfl⟩
    · -- from there
      rintro ⟨o500d, o500e, o500g, o10b⟩ h0
      have h := (show J1 o500d o500e o500g o10b = some (y0, y1, y2, y3) from h0)
      rw [hJ1] at h
      simp only [Option.some.injEq, Prod.mk.injEq] at h
      obtain ⟨rfl, rfl, rfl, rfl⟩ := h
      exact WP.pathG tab_ok mixed [] [.keep [4], .keepO [500, 2010], .names [(500, 500), (2010, 9000)]] [500, 9000] _ (r' := V.own 9000 2 (List.length o10b)) (ps := []) (r := V.own 9000 2 (List.length o10b)) (N := [500, 9000]) (O := [(500, oc 127 [ty o500d, ti o500e, T.int .u64 o500g]), (9000, oc 90 (List.flatMap askedC o10b))]) [] (by kernel_rfl) trivial ⟨rfl, trivial⟩ rfl rfl (fun _ h => h)
theorem F_spec_DrawAnswerAll_W (x0 : List Int) (y0 : Int) (y1 : Int) (y2 : List (Int × Bool)) (h : F_spec_DrawAnswerAll x0 = some (y0, y1, y2)) : CG Tryd.prog 52 [vy x0] [] (V.tup [vi y0, vi y1, V.own 9000 2 (List.length y2)]) [(9000, oc 90 (List.flatMap askedC y2))] := by
  unfold F_spec_DrawAnswerAll at h
  refine CG.intro (tab := tab) tab_ok (fn := Tryd.f52) Tryd.func52 (by kernel_rfl) rfl (Nat.le_of_ble_eq_true rfl) (by kernel_rfl) ?_
  obtain ⟨r12, r12b, r12c, r12d, c0, h⟩ := bnd4_some h
  obtain ⟨r14, r14b, r14c, r14d, c1, h⟩ := bnd4_some h
  obtain ⟨r19, r19b, r19c, r19d, c2, h⟩ := bnd4_some h
  simp only [Option.some.injEq, Prod.mk.injEq] at h
  obtain ⟨rfl, rfl, rfl⟩ := h
  exact WP.pathG tab_ok mixed [(10, An.id 2010), (12, An.callG [(500, 2010)] [V.ref 500 0] [(500, oc 127 [ty x0, ti 0, T.int .u64 0])] (vi r12) [(500, oc 127 [ty r12b, ti r12c, T.int .u64 r12d])]), (14, An.callG [(500, 2010)] [V.ref 500 0] [(500, oc 127 [ty r12b, ti r12c, T.int .u64 r12d])] (vi r14) [(500, oc 127 [ty r14b, ti r14c, T.int .u64 r14d])]), (19, An.callG [(500, 2010), (9000, 10190)] [V.ref 500 0, vi r12] [(500, oc 127 [ty r14b, ti r14c, T.int .u64 r14d])] (V.own 9000 2 (List.length r19)) [(500, oc 127 [ty r19b, ti r19c, T.int .u64 r19d]), (9000, oc 90 (List.flatMap askedC r19))])] [.keep [2, 3, 4], .keepO [10190], .names [(10190, 9000)]] [9000] _ (r' := V.tup [vi r12, vi r14, V.own 9000 2 (List.length r19)]) (ps := [((1 = 1 ∧ 0 + 1 ≤ 3) ∧ True), (CG Tryd.prog 104 [V.ref 500 0] [(500, oc 127 [ty x0, ti 0, T.int .u64 0])] (vi r12) [(500, oc 127 [ty r12b, ti r12c, T.int .u64 r12d])]), ((V.ref 500 0).ren (renF [(500, 2010)]) = V.ref 2010 0), ((oc 127 [ty x0, ti 0, T.int .u64 0]) = (oc 127 [ty x0, ti 0, T.int .u64 0]).ren (renF [(500, 2010)])), (CG Tryd.prog 105 [V.ref 500 0] [(500, oc 127 [ty r12b, ti r12c, T.int .u64 r12d])] (vi r14) [(500, oc 127 [ty r14b, ti r14c, T.int .u64 r14d])]), ((V.ref 500 0).ren (renF [(500, 2010)]) = V.ref 2010 0), ((oc 127 [ty r12b, ti r12c, T.int .u64 r12d]) = (oc 127 [ty r12b, ti r12c, T.int .u64 r12d]).ren (renF [(500, 2010)])), (CG Tryd.prog 106 [V.ref 500 0, vi r12] [(500, oc 127 [ty r14b, ti r14c, T.int .u64 r14d])] (V.own 9000 2 (List.length r19)) [(500, oc 127 [ty r19b, ti r19c, T.int .u64 r19d]), (9000, oc 90 (List.flatMap askedC r19))]), ((V.ref 500 0).ren (renF [(500, 2010), (9000, 10190)]) = V.ref 2010 0), (WkT (ti r12) (ti r12)), ((oc 127 [ty r14b, ti r14c, T.int .u64 r14d]) = (oc 127 [ty r14b, ti r14c, T.int .u64 r14d]).ren (renF [(500, 2010), (9000, 10190)]))]) (r := V.tup [vi r12, vi r14, V.own 9000 2 (List.length r19)]) (N := [9000]) (O := [(9000, oc 90 (List.flatMap askedC r19))]) [] (by kernel_rfl) ⟨⟨⟨by first | rfl | (simp; done) | (simp []; done) | omega, by first | decide | (simp; done) | (simp []; done) | omega | (simp only [tlL]; omega) | (simp; omega)⟩, trivial⟩, (F_p_spec_l1Cur_many_W x0 (0 : Int) (0 : Int) r12 r12b r12c r12d c0), by first | rfl | (simp [V.ren, V.renL, renF, lk]; done) | (simp [V.ren, V.renL, renF, lk]; omega), by first | rfl | (simp only [tlS]; rfl) | (simp [Tl.Obj.ren, V.ren, V.renL, renF, lk]; done), (F_p_spec_l1Cur_lies_W r12b r12c r12d r14 r14b r14c r14d c1), by first | rfl | (simp [V.ren, V.renL, renF, lk]; done) | (simp [V.ren, V.renL, renF, lk]; omega), by first | rfl | (simp only [tlS]; rfl) | (simp [Tl.Obj.ren, V.ren, V.renL, renF, lk]; done), (F_p_spec_l1Cur_asked_W r14b r14c r14d r12 r19 r19b r19c r19d c2), by first | rfl | (simp [V.ren, V.renL, renF, lk]; done) | (simp [V.ren, V.renL, renF, lk]; omega), WkT.refl _, by first | rfl | (simp only [tlS]; rfl) | (simp [Tl.Obj.ren, V.ren, V.renL, renF, lk]; done), trivial⟩ ⟨(WkT.refl _), (WkT.refl _), rfl, trivial⟩ rfl rfl (fun _ h => h)
theorem F_spec_DrawAnswerAll_W_C (x0 : List Int) (y0 : Int) (y1 : Int) (y2 : List (Int × Bool)) (h : F_spec_DrawAnswerAll x0 = some (y0, y1, y2)) : C Tryd.prog 52 [ty x0] (T.tup [ti y0, ti y1, T.list (List.length y2) 2 (List.flatMap askedC y2)]) :=
  CG.toC (ps := [(List.length (List.flatMap askedC y2) = (List.length y2) * 2)]) (F_spec_DrawAnswerAll_W  x0 y0 y1 y2 h) (by rfl) ⟨by first | exact len_asked _ | (rw [len_asked]; first | done | omega | (simp; done) | (simp; omega)), trivial⟩
theorem F_slices_IndexFunc___impl_Asked_impl_Asked__W (x0 : List (Int × Bool)) (g1 : FuncId) (pre1 caps1 : List T) (p1 : Int → Bool → Option (Bool)) (hp1 : ∀ (a1_0 : Int) (a1_1 : Bool) (b1_2 : Bool), p1 a1_0 a1_1 = some b1_2 → C Tryd.prog g1 (pre1 ++ ([T.agg [ti a1_0, tb a1_1]] ++ caps1)) (tb b1_2)) (y0 : Int) (h : F_slices_IndexFunc___impl_Asked_impl_Asked_ x0 p1 = some y0) : C Tryd.prog 166 [T.list (List.length x0) 2 (List.flatMap askedC x0), T.fn g1 pre1 caps1] (ti y0) := by
  unfold F_slices_IndexFunc___impl_Asked_impl_Asked_ at h
  refine C.intro (tab := tab) tab_ok (fn := Tryd.f166) Tryd.func166 (by kernel_rfl) rfl (Nat.le_of_ble_eq_true rfl) ?_
  refine WP.seq ?_
  refine WP.path tab_ok mixed [] [.keep [4, 0, 1], .keepO []] (ps := []) (e := .normal) (σ' := ⟨[], [(4, vi 0), (0, V.t (T.list (List.length x0) 2 (List.flatMap askedC x0))), (1, V.t (T.fn g1 pre1 caps1))], []⟩) (by kernel_rfl) trivial ?_
  obtain ⟨J1, hJ1, h⟩ := jn_some h
  refine WP.joinA (fun (zz : Unit) => ⟨[], [(4, vi 0)], []⟩) (fun zz => J1 () = some y0) ?_ ?_
  · -- to where they meet
    refine WP.seq ?_
    refine WP.path tab_ok mixed [] [.keep [8, 7, 4, 0, 1], .keepO []] (ps := []) (e := .normal) (σ' := ⟨[], [(8, vi 0), (7, vi ((List.length x0 : Nat) : Int)), (4, vi 0), (0, V.t (T.list (List.length x0) 2 (List.flatMap askedC x0))), (1, V.t (T.fn g1 pre1 caps1))], []⟩) (by kernel_rfl) trivial ?_
    refine WP.block ?_
    refine WP.wk [.keep [8, 7, 4, 0, 1], .keepO [], .names []] (σ' := ⟨[], [(8, vi 0), (7, vi ((List.length x0 : Nat) : Int)), (4, vi 0), (0, V.t (T.list (List.length x0) 2 (List.flatMap askedC x0))), (1, V.t (T.fn g1 pre1 caps1))], []⟩) (ps := []) (by kernel_rfl) trivial ?_
    refine WP.st (σ' := ⟨[], [(8, vi (0 : Int)), (7, vi ((List.length x0 : Nat) : Int)), (4, vi 0), (0, V.t (T.list (List.length x0) 2 (List.flatMap askedC x0))), (1, V.t (T.fn g1 pre1 caps1))], []⟩) (by first | rfl | (simp only [tlS, tl, vl, vo, oc, ov, tbl, vbl, ty, vy] <;> rfl) | (simp <;> omega) | (simp []; done) | (rw [List.take_of_length_le (by simp [])] <;> rfl) | (simp [List.take_of_length_le]; done)) ?_
    refine WP.loop (α := Nat × Int) (fun zz => ⟨[], [(8, vi zz.2), (7, vi ((List.length x0 : Nat) : Int)), (4, vi 0), (0, V.t (T.list (List.length x0) 2 (List.flatMap askedC x0))), (1, V.t (T.fn g1 pre1 caps1))], []⟩) (fun zz => F_slices_IndexFunc___impl_Asked_impl_Asked__L1 x0 p1 J1 zz.1 zz.2 = some y0) (fun zz => zz.1) (fuel, (0 : Int)) h ?_
    rintro ⟨n, v8⟩ h0
    have h := (show F_slices_IndexFunc___impl_Asked_impl_Asked__L1 x0 p1 J1 n v8 = some y0 from h0)
    rcases n with _ | n
    · rw [F_slices_IndexFunc___impl_Asked_impl_Asked__L1] at h; cases h
    · rw [F_slices_IndexFunc___impl_Asked_impl_Asked__L1] at h
      refine WP.seq ?_
      refine WP.path tab_ok mixed [] [.keep [9, 8, 7, 4, 0, 1], .keepO []] (ps := [(True)]) (e := .normal) (σ' := ⟨[], [(9, vb (decide (v8 < ((List.length x0 : Nat) : Int)))), (8, vi v8), (7, vi ((List.length x0 : Nat) : Int)), (4, vi 0), (0, V.t (T.list (List.length x0) 2 (List.flatMap askedC x0))), (1, V.t (T.fn g1 pre1 caps1))], []⟩) (by kernel_rfl) ⟨trivial, trivial⟩ ?_
      refine WP.seq ?_
      rcases ite_some h with ⟨h1, h⟩ | ⟨h1, h⟩
      · -- yes
        refine WP.cond (b := decide (v8 < ((List.length x0 : Nat) : Int))) rfl (fun _ => ?_) (fun hh => by rw [h1] at hh; cases hh)
        refine WP.path tab_ok mixed [] [.keep [8, 7, 4, 0, 1], .keepO []] (ps := []) (e := .normal) (σ' := ⟨[], [(8, vi v8), (7, vi ((List.length x0 : Nat) : Int)), (4, vi 0), (0, V.t (T.list (List.length x0) 2 (List.flatMap askedC x0))), (1, V.t (T.fn g1 pre1 caps1))], []⟩) (by kernel_rfl) trivial ?_
        refine WP.seq ?_
        refine WP.block ?_
        refine WP.seq ?_
        refine WP.path tab_ok mixed [] [.keep [5, 8, 7, 4, 0, 1], .keepO []] (ps := []) (e := .normal) (σ' := ⟨[], [(5, vi v8), (8, vi v8), (7, vi ((List.length x0 : Nat) : Int)), (4, vi 0), (0, V.t (T.list (List.length x0) 2 (List.flatMap askedC x0))), (1, V.t (T.fn g1 pre1 caps1))], []⟩) (by kernel_rfl) trivial ?_
        refine WP.seq ?_
        obtain ⟨c0, h⟩ := chk_some h
        obtain ⟨r16, c1, h⟩ := bnd1_some h
        refine WP.path tab_ok mixed [(15, An.v (T.agg [ti ((List.getD x0 (Int.toNat v8) (0, false)).1), tb ((List.getD x0 (Int.toNat v8) (0, false)).2)])), (16, An.call (tb r16))] [.keep [16, 5, 8, 7, 4, 0, 1], .keepO []] (ps := [((0 ≤ v8 ∧ v8 < ((List.length x0 : Nat) : Int))), (2 ≤ List.length (List.drop ((Int.toNat v8) * 2) (List.flatMap askedC x0))), (T.agg (List.take 2 (List.drop ((Int.toNat v8) * 2) (List.flatMap askedC x0))) = T.agg [ti ((List.getD x0 (Int.toNat v8) (0, false)).1), tb ((List.getD x0 (Int.toNat v8) (0, false)).2)]), (C Tryd.prog g1 (pre1 ++ ([T.agg [ti ((List.getD x0 (Int.toNat v8) (0, false)).1), tb ((List.getD x0 (Int.toNat v8) (0, false)).2)]] ++ caps1)) (tb r16))]) (e := .normal) (σ' := ⟨[], [(16, vb r16), (5, vi v8), (8, vi v8), (7, vi ((List.length x0 : Nat) : Int)), (4, vi 0), (0, V.t (T.list (List.length x0) 2 (List.flatMap askedC x0))), (1, V.t (T.fn g1 pre1 caps1))], []⟩) (by kernel_rfl) ⟨c0, fit_asked (i := Int.toNat v8) (by simp) (by omega), at_asked (by simp) (by omega), (hp1 ((List.getD x0 (Int.toNat v8) (0, false)).1) ((List.getD x0 (Int.toNat v8) (0, false)).2) r16 c1), trivial⟩ ?_
        rcases ite_some h with ⟨h2, h⟩ | ⟨h2, h⟩
        · -- yes
          refine WP.cond (b := r16) rfl (fun _ => ?_) (fun hh => by rw [h2] at hh; cases hh)
          have h := Option.some.inj h
          subst h
          exact WP.pathW tab_ok mixed [] _ (ps := []) (r := ti v8) (by kernel_rfl) trivial (WkT.eq (y := ti v8) (WkT.refl _) rfl) (fun _ h => h)
        · -- no
          refine WP.cond (b := r16) rfl (fun hh => by rw [h2] at hh; cases hh) (fun _ => ?_)
          refine WP.path tab_ok mixed [] [.keep [8, 7, 4, 0, 1], .keepO []] (ps := []) (e := .normal) (σ' := ⟨[], [(8, vi v8), (7, vi ((List.length x0 : Nat) : Int)), (4, vi 0), (0, V.t (T.list (List.length x0) 2 (List.flatMap askedC x0))), (1, V.t (T.fn g1 pre1 caps1))], []⟩) (by kernel_rfl) trivial ?_
          obtain ⟨c2, h⟩ := chk_some h
          refine WP.path tab_ok mixed [(18, An.v (T.int .i64 (v8 + (1 : Int))))] [.keep [8, 7, 4, 0, 1], .keepO [], .names []] (ps := [(True), (T.int .i64 (IntKind.wrap .i64 (v8 + (1 : Int))) = T.int .i64 (v8 + (1 : Int)))]) (e := .normal) (σ' := ⟨[], [(8, vi (v8 + (1 : Int))), (7, vi ((List.length x0 : Nat) : Int)), (4, vi 0), (0, V.t (T.list (List.length x0) 2 (List.flatMap askedC x0))), (1, V.t (T.fn g1 pre1 caps1))], []⟩) (by kernel_rfl) ⟨trivial, wrapI c2, trivial⟩ ?_
          exact ⟨(n, (v8 + (1 : Int))), h, Nat.lt_succ_self _, rfl⟩
      · -- no
        refine WP.cond (b := decide (v8 < ((List.length x0 : Nat) : Int))) rfl (fun hh => by rw [h1] at hh; cases hh) (fun _ => ?_)
        refine WP.path tab_ok mixed [] [.keep [4], .keepO [], .names []] (ps := []) (e := (.exit 0)) (σ' := ⟨[], [(4, vi 0)], []⟩) (by kernel_rfl) trivial ?_
        exact ⟨(), h, rfl⟩
  · -- from there
    intro _ h0
    have h := (show J1 () = some y0 from h0)
    rw [hJ1] at h
    have h := Option.some.inj h
    subst h
    exact WP.pathW tab_ok mixed [] _ (ps := []) (r := ti (-1)) (by kernel_rfl) trivial (WkT.eq (y := ti (-1)) (WkT.refl _) (by first | rfl | (simp only [tlS, tl, vl, vo, oc, ov, tbl, vbl, ty, vy] <;> rfl) | (simp <;> omega) | (simp []; done) | (rw [List.take_of_length_le (by simp [])] <;> rfl) | (simp [List.take_of_length_le]; done))) (fun _ h => h)
theorem F_slices_ContainsFunc___impl_Asked_impl_Asked__W (x0 : List (Int × Bool)) (g1 : FuncId) (pre1 caps1 : List T) (p1 : Int → Bool → Option (Bool)) (hp1 : ∀ (a1_0 : Int) (a1_1 : Bool) (b1_2 : Bool), p1 a1_0 a1_1 = some b1_2 → C Tryd.prog g1 (pre1 ++ ([T.agg [ti a1_0, tb a1_1]] ++ caps1)) (tb b1_2)) (y0 : Bool) (h : F_slices_ContainsFunc___impl_Asked_impl_Asked_ x0 p1 = some y0) : C Tryd.prog 152 [T.list (List.length x0) 2 (List.flatMap askedC x0), T.fn g1 pre1 caps1] (tb y0) := by
  unfold F_slices_ContainsFunc___impl_Asked_impl_Asked_ at h
  refine C.intro (tab := tab) tab_ok (fn := Tryd.f152) Tryd.func152 (by kernel_rfl) rfl (Nat.le_of_ble_eq_true rfl) ?_
  obtain ⟨r7, c0, h⟩ := bnd1_some h
  have h := Option.some.inj h
  subst h
  exact WP.pathW tab_ok mixed [(7, An.call (ti r7))] _ (ps := [(C Tryd.prog 166 [T.list (List.length x0) 2 (List.flatMap askedC x0), T.fn g1 pre1 caps1] (ti r7)), (True)]) (r := tb (decide (r7 ≥ (0 : Int)))) (by kernel_rfl) ⟨(F_slices_IndexFunc___impl_Asked_impl_Asked__W x0 g1 pre1 caps1 p1 hp1 r7 c0), trivial, trivial⟩ (WkT.eq (y := tb (decide (r7 ≥ (0 : Int)))) (WkT.refl _) rfl) (fun _ h => h)
theorem F_impl_areAsked_1_W (x0 : Int) (x1 : Bool) (x2 : Int) (y0 : Bool) (h : F_impl_areAsked_1 x0 x1 x2 = some y0) : C Tryd.prog 153 [T.agg [ti x0, tb x1], T.ptr [ti x2]] (tb y0) := by
  unfold F_impl_areAsked_1 at h
  refine C.intro (tab := tab) tab_ok (fn := Tryd.f153) Tryd.func153 (by kernel_rfl) rfl (Nat.le_of_ble_eq_true rfl) ?_
  have h := Option.some.inj h
  subst h
  exact WP.pathW tab_ok mixed [(2, An.fz), (7, An.call (tb (isQ x2 x0)))] _ (ps := [(True), (True), (C Tryd.prog 118 [ti x2, ti x0] (tb (isQ x2 x0)))]) (r := tb (!(isQ x2 x0))) (by kernel_rfl) ⟨trivial, trivial, (isQuestion_C x2 x0), trivial⟩ (WkT.eq (y := tb (!(isQ x2 x0))) (WkT.refl _) rfl) (fun _ h => h)
theorem F_impl_areAsked_W (x0 : Int) (x1 : List (Int × Bool)) (x2 : Int) (y0 : Bool) (h : F_impl_areAsked x0 x1 x2 = some y0) : C Tryd.prog 107 [ti x0, T.list (List.length x1) 2 (List.flatMap askedC x1), ti x2] (tb y0) := by
  unfold F_impl_areAsked at h
  refine C.intro (tab := tab) tab_ok (fn := Tryd.f107) Tryd.func107 (by kernel_rfl) rfl (Nat.le_of_ble_eq_true rfl) ?_
  rcases ite_some h with ⟨h1, h⟩ | ⟨h1, h⟩
  · -- yes
    rcases ite_some h with ⟨h2, h⟩ | ⟨h2, h⟩
    · -- yes
      obtain ⟨r18, c0, h⟩ := bnd1_some h
      have h := Option.some.inj h
      subst h
      exact WP.pathW tab_ok mixed [(3, An.fz), (8, An.call (tb true)), (13, An.b true), (18, An.call (tb r18))] _ (ps := [(True), (C Tryd.prog 113 [ti x0] (tb true)), (True), ((decide (((List.length x1 : Nat) : Int) ≤ x2)) = true), (C Tryd.prog 152 [T.list (List.length x1) 2 (List.flatMap askedC x1), T.fn 153 [] [T.ptr [ti x0]]] (tb r18))]) (r := tb (!r18)) (by kernel_rfl) ⟨trivial, (C.toB h1 (isCount_C x0)), trivial, h2, (F_slices_ContainsFunc___impl_Asked_impl_Asked__W x1 153 [] [T.ptr [ti x0]] (fun u0 u1 => F_impl_areAsked_1 u0 u1 x0) (fun u0 u1 w0 hh => F_impl_areAsked_1_W u0 u1 x0 w0 hh) r18 c0), trivial⟩ (WkT.eq (y := tb (!r18)) (WkT.refl _) rfl) (fun _ h => h)
    · -- no
      have h := Option.some.inj h
      subst h
      exact WP.pathW tab_ok mixed [(3, An.fz), (8, An.call (tb true)), (13, An.b false)] _ (ps := [(True), (C Tryd.prog 113 [ti x0] (tb true)), (True), ((decide (((List.length x1 : Nat) : Int) ≤ x2)) = false)]) (r := tb false) (by kernel_rfl) ⟨trivial, (C.toB h1 (isCount_C x0)), trivial, h2, trivial⟩ (WkT.eq (y := tb false) (WkT.refl _) rfl) (fun _ h => h)
  · -- no
    have h := Option.some.inj h
    subst h
    exact WP.pathW tab_ok mixed [(3, An.fz), (8, An.call (tb false))] _ (ps := [(True), (C Tryd.prog 113 [ti x0] (tb false))]) (r := tb false) (by kernel_rfl) ⟨trivial, (C.toB h1 (isCount_C x0)), trivial⟩ (WkT.eq (y := tb false) (WkT.refl _) rfl) (fun _ h => h)
theorem F_impl_AnswerAll_W (x0 : Int) (x1 : Int) (x2 : List (Int × Bool)) (y0 : List Int) (y1 : Int) (y2 : Bool) (h : F_impl_AnswerAll x0 x1 x2 = some (y0, y1, y2)) : CG Tryd.prog 53 [vi x0, vi x1, V.t (T.list (List.length x2) 2 (List.flatMap askedC x2))] [] (V.tup [V.agg [vo 9000 (List.length y0), vi y1], vb y2]) [(9000, oc 3 (List.map (T.int .i64) y0))] := by
  unfold F_impl_AnswerAll at h
  refine CG.intro (tab := tab) tab_ok (fn := Tryd.f53) Tryd.func53 (by kernel_rfl) rfl (Nat.le_of_ble_eq_true rfl) (by kernel_rfl) ?_
  refine WP.seq ?_
  refine WP.path tab_ok mixed [(6, An.id 2006)] [.keep [7, 6, 0, 1, 2], .keepO [2006]] (ps := []) (e := .normal) (σ' := ⟨[2006], [(7, vb false), (6, V.ref 2006 0), (0, vi x0), (1, vi x1), (2, V.t (T.list (List.length x2) 2 (List.flatMap askedC x2)))], [(2006, oc 82 [T.nils, ti 0])]⟩) (by kernel_rfl) trivial ?_
  refine WP.seq ?_
  obtain ⟨J1, hJ1, h⟩ := jn_some h
  refine WP.joinA (fun (zz : Bool) => ⟨[2006], [(19, vb zz), (7, vb false), (6, V.ref 2006 0), (0, vi x0), (1, vi x1), (2, V.t (T.list (List.length x2) 2 (List.flatMap askedC x2)))], [(2006, oc 82 [T.nils, ti 0])]⟩) (fun zz => J1 zz = some (y0, y1, y2)) ?_ ?_
  · -- to where they meet
    obtain ⟨r13, c0, h⟩ := bnd1_some h
    rcases ite_some h with ⟨h1, h⟩ | ⟨h1, h⟩
    · -- yes
      refine WP.path tab_ok mixed [(13, An.call (tb r13)), (15, An.b true)] [.keep [19, 7, 6, 0, 1, 2], .keepO [2006], .names [(2006, 2006)]] (ps := [(C Tryd.prog 107 [ti x0, T.list (List.length x2) 2 (List.flatMap askedC x2), ti 20] (tb r13)), ((!r13) = true)]) (e := .normal) (σ' := ⟨[2006], [(19, vb true), (7, vb false), (6, V.ref 2006 0), (0, vi x0), (1, vi x1), (2, V.t (T.list (List.length x2) 2 (List.flatMap askedC x2)))], [(2006, oc 82 [T.nils, ti 0])]⟩) (by kernel_rfl) ⟨(F_impl_areAsked_W x0 x2 (20 : Int) r13 c0), h1, trivial⟩ ?_
      exact ⟨(true), h, rfl⟩
    · -- no
      refine WP.path tab_ok mixed [(13, An.call (tb r13)), (15, An.b false), (17, An.call (tb (decide (0 ≤ x1) && decide (x1 ≤ 2))))] [.keep [19, 7, 6, 0, 1, 2], .keepO [2006], .names [(2006, 2006)]] (ps := [(C Tryd.prog 107 [ti x0, T.list (List.length x2) 2 (List.flatMap askedC x2), ti 20] (tb r13)), ((!r13) = false), (C Tryd.prog 108 [ti x1] (tb (decide (0 ≤ x1) && decide (x1 ≤ 2))))]) (e := .normal) (σ' := ⟨[2006], [(19, vb (!(decide (0 ≤ x1) && decide (x1 ≤ 2)))), (7, vb false), (6, V.ref 2006 0), (0, vi x0), (1, vi x1), (2, V.t (T.list (List.length x2) 2 (List.flatMap askedC x2)))], [(2006, oc 82 [T.nils, ti 0])]⟩) (by kernel_rfl) ⟨(F_impl_areAsked_W x0 x2 (20 : Int) r13 c0), h1, (isMost_C x1), trivial⟩ ?_
      exact ⟨(!(decide (0 ≤ x1) && decide (x1 ≤ 2))), h, rfl⟩
  · -- from there
    intro v19 h0
    have h := (show J1 v19 = some (y0, y1, y2) from h0)
    rw [hJ1] at h
    rcases ite_some h with ⟨h2, h⟩ | ⟨h2, h⟩
    · -- yes
      refine WP.cond (b := v19) rfl (fun _ => ?_) (fun hh => by rw [h2] at hh; cases hh)
      simp only [Option.some.injEq, Prod.mk.injEq] at h
      obtain ⟨rfl, rfl, rfl⟩ := h
      exact WP.pathG tab_ok mixed [] [.keep [6, 7], .keepO [2006], .names [(2006, 2006)]] [] _ (r' := V.tup [V.agg [vo 9000 (List.length ([] : List Int)), vi (0 : Int)], vb false]) (ps := [(True), ((0 + 2 ≤ 2 ∧ 2 = 2)), (0 + 2 ≤ 2)]) (r := V.t (T.tup [T.agg [T.nils, ti 0], tb false])) (N := [2006]) (O := []) [(9000, 3)] (by kernel_rfl) ⟨trivial, by decide, by first | decide | omega | (simp only [tlL] <;> omega) | (simp <;> omega) | (simp [] <;> omega), trivial⟩ ⟨(by first | rfl | (simp; done)), (WkT.eq (WkT.refl _) (by first | rfl | (simp only [tlS, tl, vl, vo, oc, ov, tbl, vbl, ty, vy] <;> rfl) | (simp <;> omega) | (simp []; done) | (rw [List.take_of_length_le (by simp [])] <;> rfl) | (simp [List.take_of_length_le]; done))), (WkT.refl _), trivial⟩ rfl rfl (fun _ h => h)
    · -- no
      refine WP.cond (b := v19) rfl (fun hh => by rw [h2] at hh; cases hh) (fun _ => ?_)
      refine WP.path tab_ok mixed [] [.keep [7, 6, 0, 1, 2], .keepO [2006]] (ps := []) (e := .normal) (σ' := ⟨[2006], [(7, vb false), (6, V.ref 2006 0), (0, vi x0), (1, vi x1), (2, V.t (T.list (List.length x2) 2 (List.flatMap askedC x2)))], [(2006, oc 82 [T.nils, ti 0])]⟩) (by kernel_rfl) trivial ?_
      refine WP.seq ?_
      obtain ⟨c0, h⟩ := chk_some h
      obtain ⟨c1, h⟩ := chk_some h
      refine WP.path tab_ok mixed [(23, An.callG [(9000, 10230)] [vi x0, vi x1] [] (V.agg [vo 9000 (List.length (List.replicate (Int.toNat x0) (0 : Int))), vi x1]) [(9000, oc 3 (List.map (T.int .i64) (List.replicate (Int.toNat x0) (0 : Int))))]), (8, An.id 2008)] [.keep [8, 7, 6, 2], .keepO [2006, 2008, 10230]] (ps := [(CG Tryd.prog 109 [vi x0, vi x1] [] (V.agg [vo 9000 (List.length (List.replicate (Int.toNat x0) (0 : Int))), vi x1]) [(9000, oc 3 (List.map (T.int .i64) (List.replicate (Int.toNat x0) (0 : Int))))]), (WkT (ti x0) (ti x0)), (WkT (ti x1) (ti x1)), ((0 + 2 ≤ 2 ∧ 2 = 2))]) (e := .normal) (σ' := ⟨[2008, 10230, 2006], [(8, V.ref 2008 0), (7, vb false), (6, V.ref 2006 0), (2, V.t (T.list (List.length x2) 2 (List.flatMap askedC x2)))], [(2006, oc 82 [T.nils, ti 0]), (2008, ov 82 [vo 10230 (List.length (List.replicate (Int.toNat x0) (0 : Int))), vi x1]), (10230, oc 3 (List.map (T.int .i64) (List.replicate (Int.toNat x0) (0 : Int))))]⟩) (by kernel_rfl) ⟨(start_C_G x0 x1 c0 c1), WkT.refl _, WkT.refl _, by decide, trivial⟩ ?_
      obtain ⟨J1, hJ1, h⟩ := jn_some h
      refine WP.joinA (fun (zz : (List Int)) => ⟨[2006, 2008, 10230], [(8, V.ref 2008 0), (7, vb false), (6, V.ref 2006 0)], [(2006, oc 82 [T.nils, ti 0]), (2008, ov 82 [vo 10230 (List.length zz), vi x1]), (10230, oc 3 (List.map (T.int .i64) zz))]⟩) (fun zz => J1 zz = some (y0, y1, y2)) ?_ ?_
      · -- to where they meet
        refine WP.seq ?_
        refine WP.path tab_ok mixed [] [.keep [26, 25, 24, 8, 7, 6], .keepO [2006, 2008, 10230]] (ps := []) (e := .normal) (σ' := ⟨[2008, 10230, 2006], [(26, vi 0), (25, vi ((List.length x2 : Nat) : Int)), (24, V.t (T.list (List.length x2) 2 (List.flatMap askedC x2))), (8, V.ref 2008 0), (7, vb false), (6, V.ref 2006 0)], [(2006, oc 82 [T.nils, ti 0]), (2008, ov 82 [vo 10230 (List.length (List.replicate (Int.toNat x0) (0 : Int))), vi x1]), (10230, oc 3 (List.map (T.int .i64) (List.replicate (Int.toNat x0) (0 : Int))))]⟩) (by kernel_rfl) trivial ?_
        refine WP.block ?_
        refine WP.wk [.keep [26, 25, 24, 8, 7, 6], .keepO [2006, 2008, 10230], .names [(2006, 2006), (2008, 2008), (10230, 10230)]] (σ' := ⟨[2006, 2008, 10230], [(26, vi 0), (25, vi ((List.length x2 : Nat) : Int)), (24, V.t (T.list (List.length x2) 2 (List.flatMap askedC x2))), (8, V.ref 2008 0), (7, vb false), (6, V.ref 2006 0)], [(2006, oc 82 [T.nils, ti 0]), (2008, ov 82 [vo 10230 (List.length (List.replicate (Int.toNat x0) (0 : Int))), vi x1]), (10230, oc 3 (List.map (T.int .i64) (List.replicate (Int.toNat x0) (0 : Int))))]⟩) (ps := []) (by kernel_rfl) trivial ?_
        refine WP.st (σ' := ⟨[2006, 2008, 10230], [(26, vi (0 : Int)), (25, vi ((List.length x2 : Nat) : Int)), (24, V.t (T.list (List.length x2) 2 (List.flatMap askedC x2))), (8, V.ref 2008 0), (7, vb false), (6, V.ref 2006 0)], [(2006, oc 82 [T.nils, ti 0]), (2008, ov 82 [vo 10230 (List.length (List.replicate (Int.toNat x0) (0 : Int))), vi x1]), (10230, oc 3 (List.map (T.int .i64) (List.replicate (Int.toNat x0) (0 : Int))))]⟩) (by first | rfl | (simp only [tlS, tl, vl, vo, oc, ov, tbl, vbl, ty, vy] <;> rfl) | (simp <;> omega) | (simp []; done) | (rw [List.take_of_length_le (by simp [])] <;> rfl) | (simp [List.take_of_length_le]; done)) ?_
        refine WP.loop (α := Nat × (List Int) × Int) (fun zz => ⟨[2006, 2008, 10230], [(26, vi zz.2.2), (25, vi ((List.length x2 : Nat) : Int)), (24, V.t (T.list (List.length x2) 2 (List.flatMap askedC x2))), (8, V.ref 2008 0), (7, vb false), (6, V.ref 2006 0)], [(2006, oc 82 [T.nils, ti 0]), (2008, ov 82 [vo 10230 (List.length zz.2.1), vi x1]), (10230, oc 3 (List.map (T.int .i64) zz.2.1))]⟩) (fun zz => F_impl_AnswerAll_L1 x1 x2 J1 zz.1 zz.2.1 zz.2.2 = some (y0, y1, y2)) (fun zz => zz.1) (fuel, List.replicate (Int.toNat x0) (0 : Int), (0 : Int)) h ?_
        rintro ⟨n, o10230, v26⟩ h0
        have h := (show F_impl_AnswerAll_L1 x1 x2 J1 n o10230 v26 = some (y0, y1, y2) from h0)
        rcases n with _ | n
        · rw [F_impl_AnswerAll_L1] at h; cases h
        · rw [F_impl_AnswerAll_L1] at h
          refine WP.seq ?_
          refine WP.path tab_ok mixed [] [.keep [27, 26, 25, 24, 8, 7, 6], .keepO [2006, 2008, 10230]] (ps := [(True)]) (e := .normal) (σ' := ⟨[2006, 2008, 10230], [(27, vb (decide (v26 < ((List.length x2 : Nat) : Int)))), (26, vi v26), (25, vi ((List.length x2 : Nat) : Int)), (24, V.t (T.list (List.length x2) 2 (List.flatMap askedC x2))), (8, V.ref 2008 0), (7, vb false), (6, V.ref 2006 0)], [(2006, oc 82 [T.nils, ti 0]), (2008, ov 82 [vo 10230 (List.length o10230), vi x1]), (10230, oc 3 (List.map (T.int .i64) o10230))]⟩) (by kernel_rfl) ⟨trivial, trivial⟩ ?_
          refine WP.seq ?_
          rcases ite_some h with ⟨h3, h⟩ | ⟨h3, h⟩
          · -- yes
            refine WP.cond (b := decide (v26 < ((List.length x2 : Nat) : Int))) rfl (fun _ => ?_) (fun hh => by rw [h3] at hh; cases hh)
            refine WP.path tab_ok mixed [] [.keep [26, 25, 24, 8, 7, 6], .keepO [2006, 2008, 10230]] (ps := []) (e := .normal) (σ' := ⟨[2006, 2008, 10230], [(26, vi v26), (25, vi ((List.length x2 : Nat) : Int)), (24, V.t (T.list (List.length x2) 2 (List.flatMap askedC x2))), (8, V.ref 2008 0), (7, vb false), (6, V.ref 2006 0)], [(2006, oc 82 [T.nils, ti 0]), (2008, ov 82 [vo 10230 (List.length o10230), vi x1]), (10230, oc 3 (List.map (T.int .i64) o10230))]⟩) (by kernel_rfl) trivial ?_
            refine WP.seq ?_
            refine WP.block ?_
            obtain ⟨c2, h⟩ := chk_some h
            obtain ⟨c3, h⟩ := chk_some h
            refine WP.path tab_ok mixed [(29, An.v (T.agg [ti ((List.getD x2 (Int.toNat v26) (0, false)).1), tb ((List.getD x2 (Int.toNat v26) (0, false)).2)])), (10, An.id 2010), (32, An.callG [(9000, 10320)] [V.t (T.agg [tl o10230, ti x1]), V.t (T.agg [ti ((List.getD x2 (Int.toNat v26) (0, false)).1), tb ((List.getD x2 (Int.toNat v26) (0, false)).2)])] [] (V.agg [vo 9000 (List.length (ansN x1 ((List.getD x2 (Int.toNat v26) (0, false)).1) ((List.getD x2 (Int.toNat v26) (0, false)).2) o10230)), vi x1]) [(9000, oc 3 (List.map (T.int .i64) (ansN x1 ((List.getD x2 (Int.toNat v26) (0, false)).1) ((List.getD x2 (Int.toNat v26) (0, false)).2) o10230)))])] [.keep [26, 25, 24, 8, 7, 6], .keepO [2006, 2008, 10320]] (ps := [((0 ≤ v26 ∧ v26 < ((List.length x2 : Nat) : Int))), (2 ≤ List.length (List.drop ((Int.toNat v26) * 2) (List.flatMap askedC x2))), (T.agg (List.take 2 (List.drop ((Int.toNat v26) * 2) (List.flatMap askedC x2))) = T.agg [ti ((List.getD x2 (Int.toNat v26) (0, false)).1), tb ((List.getD x2 (Int.toNat v26) (0, false)).2)]), ((0 + 2 ≤ 2 ∧ 2 = 2)), (0 + 2 ≤ 2), (0 + 2 ≤ 2), (CG Tryd.prog 110 [V.t (T.agg [tl o10230, ti x1]), V.t (T.agg [ti ((List.getD x2 (Int.toNat v26) (0, false)).1), tb ((List.getD x2 (Int.toNat v26) (0, false)).2)])] [] (V.agg [vo 9000 (List.length (ansN x1 ((List.getD x2 (Int.toNat v26) (0, false)).1) ((List.getD x2 (Int.toNat v26) (0, false)).2) o10230)), vi x1]) [(9000, oc 3 (List.map (T.int .i64) (ansN x1 ((List.getD x2 (Int.toNat v26) (0, false)).1) ((List.getD x2 (Int.toNat v26) (0, false)).2) o10230)))]), ((V.agg [vo 9000 (List.length (ansN x1 ((List.getD x2 (Int.toNat v26) (0, false)).1) ((List.getD x2 (Int.toNat v26) (0, false)).2) o10230)), vi x1]).flat = true), (flatO [(9000, oc 3 (List.map (T.int .i64) (ansN x1 ((List.getD x2 (Int.toNat v26) (0, false)).1) ((List.getD x2 (Int.toNat v26) (0, false)).2) o10230)))] = true), (List.length (List.map (T.int .i64) o10230) = (List.length o10230) * 1), (WkT (T.agg [tl o10230, ti x1]) (T.agg [tl o10230, ti x1])), (WkT (T.agg [ti ((List.getD x2 (Int.toNat v26) (0, false)).1), tb ((List.getD x2 (Int.toNat v26) (0, false)).2)]) (T.agg [ti ((List.getD x2 (Int.toNat v26) (0, false)).1), tb ((List.getD x2 (Int.toNat v26) (0, false)).2)])), ((0 + 2 ≤ 2 ∧ 2 = 2))]) (e := .normal) (σ' := ⟨[10320, 2010, 2006, 2008, 10230], [(26, vi v26), (25, vi ((List.length x2 : Nat) : Int)), (24, V.t (T.list (List.length x2) 2 (List.flatMap askedC x2))), (8, V.ref 2008 0), (7, vb false), (6, V.ref 2006 0)], [(2006, oc 82 [T.nils, ti 0]), (2008, ov 82 [vo 10320 (List.length (ansN x1 ((List.getD x2 (Int.toNat v26) (0, false)).1) ((List.getD x2 (Int.toNat v26) (0, false)).2) o10230)), vi x1]), (10320, oc 3 (List.map (T.int .i64) (ansN x1 ((List.getD x2 (Int.toNat v26) (0, false)).1) ((List.getD x2 (Int.toNat v26) (0, false)).2) o10230)))]⟩) (by kernel_rfl) ⟨c2, fit_asked (i := Int.toNat v26) (by simp) (by omega), at_asked (by simp) (by omega), by decide, by decide, by decide, (answered_C_G o10230 x1 ((List.getD x2 (Int.toNat v26) (0, false)).1) ((List.getD x2 (Int.toNat v26) (0, false)).2) c3), by rfl, by first | rfl | (simp [flatO, Tl.Obj.flat, V.flats, V.flat, T.flats, T.flat, flats_app, flats_int, flats_bool, flats_str, flats_node, flats_asked]; done), by first | rfl | omega | (simp only [tlL] <;> omega) | (simp <;> omega) | (simp [] <;> omega), WkT.refl _, WkT.refl _, by decide, trivial⟩ ?_
            obtain ⟨c4, h⟩ := chk_some h
            refine WP.path tab_ok mixed [(33, An.v (T.int .i64 (v26 + (1 : Int))))] [.keep [26, 25, 24, 8, 7, 6], .keepO [2006, 2008, 10320], .names [(2006, 2006), (2008, 2008), (10320, 10230)]] (ps := [(True), (T.int .i64 (IntKind.wrap .i64 (v26 + (1 : Int))) = T.int .i64 (v26 + (1 : Int)))]) (e := .normal) (σ' := ⟨[2006, 2008, 10230], [(26, vi (v26 + (1 : Int))), (25, vi ((List.length x2 : Nat) : Int)), (24, V.t (T.list (List.length x2) 2 (List.flatMap askedC x2))), (8, V.ref 2008 0), (7, vb false), (6, V.ref 2006 0)], [(2006, oc 82 [T.nils, ti 0]), (2008, ov 82 [vo 10230 (List.length (ansN x1 ((List.getD x2 (Int.toNat v26) (0, false)).1) ((List.getD x2 (Int.toNat v26) (0, false)).2) o10230)), vi x1]), (10230, oc 3 (List.map (T.int .i64) (ansN x1 ((List.getD x2 (Int.toNat v26) (0, false)).1) ((List.getD x2 (Int.toNat v26) (0, false)).2) o10230)))]⟩) (by kernel_rfl) ⟨trivial, wrapI c4, trivial⟩ ?_
            exact ⟨(n, ansN x1 ((List.getD x2 (Int.toNat v26) (0, false)).1) ((List.getD x2 (Int.toNat v26) (0, false)).2) o10230, (v26 + (1 : Int))), h, Nat.lt_succ_self _, rfl⟩
          · -- no
            refine WP.cond (b := decide (v26 < ((List.length x2 : Nat) : Int))) rfl (fun hh => by rw [h3] at hh; cases hh) (fun _ => ?_)
            refine WP.path tab_ok mixed [] [.keep [8, 7, 6], .keepO [2006, 2008, 10230], .names [(2006, 2006), (2008, 2008), (10230, 10230)]] (ps := []) (e := (.exit 0)) (σ' := ⟨[2006, 2008, 10230], [(8, V.ref 2008 0), (7, vb false), (6, V.ref 2006 0)], [(2006, oc 82 [T.nils, ti 0]), (2008, ov 82 [vo 10230 (List.length o10230), vi x1]), (10230, oc 3 (List.map (T.int .i64) o10230))]⟩) (by kernel_rfl) trivial ?_
            exact ⟨(o10230), h, rfl⟩
      · -- from there
        intro o10230 h0
        have h := (show J1 o10230 = some (y0, y1, y2) from h0)
        rw [hJ1] at h
        simp only [Option.some.injEq, Prod.mk.injEq] at h
        obtain ⟨rfl, rfl, rfl⟩ := h
        exact WP.pathG tab_ok mixed [] [.keep [6, 7], .keepO [10230, 2006], .names [(10230, 9000), (2006, 2006)]] [9000] _ (r' := V.tup [V.agg [vo 9000 (List.length o10230), vi x1], vb true]) (ps := [(0 + 2 ≤ 2), ((0 + 2 ≤ 2 ∧ 2 = 2)), (0 + 2 ≤ 2)]) (r := V.tup [V.agg [vo 9000 (List.length o10230), vi x1], vb true]) (N := [9000, 2006]) (O := [(9000, oc 3 (List.map (T.int .i64) o10230))]) [] (by kernel_rfl) ⟨by decide, by decide, by decide, trivial⟩ ⟨rfl, (WkT.refl _), (WkT.refl _), trivial⟩ rfl rfl (fun _ h => h)
theorem F_impl_AnswerAll_W_C (x0 : Int) (x1 : Int) (x2 : List (Int × Bool)) (y0 : List Int) (y1 : Int) (y2 : Bool) (h : F_impl_AnswerAll x0 x1 x2 = some (y0, y1, y2)) : C Tryd.prog 53 [ti x0, ti x1, T.list (List.length x2) 2 (List.flatMap askedC x2)] (T.tup [T.agg [tl y0, ti y1], tb y2]) :=
  CG.toC (ps := [(List.length (List.map (T.int .i64) y0) = (List.length y0) * 1)]) (F_impl_AnswerAll_W  x0 x1 x2 y0 y1 y2 h) (by rfl) ⟨by first | rfl | omega | (simp <;> omega) | (simp [hl] <;> omega), trivial⟩
theorem F_spec_l2Answers_W (x0 : Int) (x1 : List (Int × Bool)) (y0 : Bool) (h : F_spec_l2Answers x0 x1 = some y0) : C Tryd.prog 111 [ti x0, T.list (List.length x1) 2 (List.flatMap askedC x1)] (tb y0) := by
  unfold F_spec_l2Answers at h
  refine C.intro (tab := tab) tab_ok (fn := Tryd.f111) Tryd.func111 (by kernel_rfl) rfl (Nat.le_of_ble_eq_true rfl) ?_
  refine WP.seq ?_
  refine WP.path tab_ok mixed [] [.keep [4, 0, 1], .keepO []] (ps := []) (e := .normal) (σ' := ⟨[], [(4, vb false), (0, vi x0), (1, V.t (T.list (List.length x1) 2 (List.flatMap askedC x1)))], []⟩) (by kernel_rfl) trivial ?_
  obtain ⟨J1, hJ1, h⟩ := jn_some h
  refine WP.joinA (fun (zz : Unit) => ⟨[], [(4, vb false), (0, vi x0), (1, V.t (T.list (List.length x1) 2 (List.flatMap askedC x1)))], []⟩) (fun zz => J1 () = some y0) ?_ ?_
  · -- to where they meet
    refine WP.seq ?_
    refine WP.path tab_ok mixed [] [.keep [5, 4, 0, 1], .keepO []] (ps := []) (e := .normal) (σ' := ⟨[], [(5, vi 0), (4, vb false), (0, vi x0), (1, V.t (T.list (List.length x1) 2 (List.flatMap askedC x1)))], []⟩) (by kernel_rfl) trivial ?_
    refine WP.block ?_
    refine WP.wk [.keep [5, 4, 0, 1], .keepO [], .names []] (σ' := ⟨[], [(5, vi 0), (4, vb false), (0, vi x0), (1, V.t (T.list (List.length x1) 2 (List.flatMap askedC x1)))], []⟩) (ps := []) (by kernel_rfl) trivial ?_
    refine WP.st (σ' := ⟨[], [(5, vi (0 : Int)), (4, vb false), (0, vi x0), (1, V.t (T.list (List.length x1) 2 (List.flatMap askedC x1)))], []⟩) (by first | rfl | (simp only [tlS, tl, vl, vo, oc, ov, tbl, vbl, ty, vy] <;> rfl) | (simp <;> omega) | (simp []; done) | (rw [List.take_of_length_le (by simp [])] <;> rfl) | (simp [List.take_of_length_le]; done)) ?_
    refine WP.loop (α := Nat × Int) (fun zz => ⟨[], [(5, vi zz.2), (4, vb false), (0, vi x0), (1, V.t (T.list (List.length x1) 2 (List.flatMap askedC x1)))], []⟩) (fun zz => F_spec_l2Answers_L1 x0 x1 J1 zz.1 zz.2 = some y0) (fun zz => zz.1) (fuel, (0 : Int)) h ?_
    rintro ⟨n, v5⟩ h0
    have h := (show F_spec_l2Answers_L1 x0 x1 J1 n v5 = some y0 from h0)
    rcases n with _ | n
    · rw [F_spec_l2Answers_L1] at h; cases h
    · rw [F_spec_l2Answers_L1] at h
      refine WP.seq ?_
      obtain ⟨J2, hJ2, h⟩ := jn_some h
      refine WP.joinA (fun (zz : Bool) => ⟨[], [(13, vb zz), (5, vi v5), (4, vb false), (0, vi x0), (1, V.t (T.list (List.length x1) 2 (List.flatMap askedC x1)))], []⟩) (fun zz => J2 zz = some y0) ?_ ?_
      · -- to where they meet
        rcases ite_some h with ⟨h1, h⟩ | ⟨h1, h⟩
        · -- yes
          refine WP.path tab_ok mixed [(9, An.b true)] [.keep [13, 5, 4, 0, 1], .keepO [], .names []] (ps := [(True), ((decide (v5 < ((List.length x1 : Nat) : Int))) = true), (True)]) (e := .normal) (σ' := ⟨[], [(13, vb (decide (v5 ≤ (20 : Int)))), (5, vi v5), (4, vb false), (0, vi x0), (1, V.t (T.list (List.length x1) 2 (List.flatMap askedC x1)))], []⟩) (by kernel_rfl) ⟨trivial, h1, trivial, trivial⟩ ?_
          exact ⟨(decide (v5 ≤ (20 : Int))), h, rfl⟩
        · -- no
          refine WP.path tab_ok mixed [(9, An.b false)] [.keep [13, 5, 4, 0, 1], .keepO [], .names []] (ps := [(True), ((decide (v5 < ((List.length x1 : Nat) : Int))) = false)]) (e := .normal) (σ' := ⟨[], [(13, vb false), (5, vi v5), (4, vb false), (0, vi x0), (1, V.t (T.list (List.length x1) 2 (List.flatMap askedC x1)))], []⟩) (by kernel_rfl) ⟨trivial, h1, trivial⟩ ?_
          exact ⟨(false), h, rfl⟩
      · -- from there
        intro v13 h0
        have h := (show J2 v13 = some y0 from h0)
        rw [hJ2] at h
        rcases ite_some h with ⟨h2, h⟩ | ⟨h2, h⟩
        · -- yes
          refine WP.cond (b := v13) rfl (fun _ => ?_) (fun hh => by rw [h2] at hh; cases hh)
          refine WP.path tab_ok mixed [] [.keep [5, 4, 0, 1], .keepO []] (ps := []) (e := .normal) (σ' := ⟨[], [(5, vi v5), (4, vb false), (0, vi x0), (1, V.t (T.list (List.length x1) 2 (List.flatMap askedC x1)))], []⟩) (by kernel_rfl) trivial ?_
          refine WP.seq ?_
          refine WP.block ?_
          refine WP.seq ?_
          obtain ⟨c0, h⟩ := chk_some h
          refine WP.path tab_ok mixed [(21, An.v (ti ((List.getD x1 (Int.toNat v5) (0, false)).1))), (22, An.call (tb (isQ x0 ((List.getD x1 (Int.toNat v5) (0, false)).1))))] [.keep [23, 5, 4, 0, 1], .keepO []] (ps := [((0 ≤ v5 ∧ v5 < ((List.length x1 : Nat) : Int))), ((List.drop ((Int.toNat v5) * 2) (List.flatMap askedC x1) : List T)[0]? = some (ti ((List.getD x1 (Int.toNat v5) (0, false)).1))), (ti ((List.getD x1 (Int.toNat v5) (0, false)).1) = ti ((List.getD x1 (Int.toNat v5) (0, false)).1)), (C Tryd.prog 156 [ti x0, ti ((List.getD x1 (Int.toNat v5) (0, false)).1)] (tb (isQ x0 ((List.getD x1 (Int.toNat v5) (0, false)).1))))]) (e := .normal) (σ' := ⟨[], [(23, vb (!(isQ x0 ((List.getD x1 (Int.toNat v5) (0, false)).1)))), (5, vi v5), (4, vb false), (0, vi x0), (1, V.t (T.list (List.length x1) 2 (List.flatMap askedC x1)))], []⟩) (by kernel_rfl) ⟨c0, fld0_asked (by simp) (by omega) rfl, rfl, (l2Asks_C x0 ((List.getD x1 (Int.toNat v5) (0, false)).1)), trivial⟩ ?_
          rcases ite_some h with ⟨h3, h⟩ | ⟨h3, h⟩
          · -- yes
            refine WP.cond (b := !(isQ x0 ((List.getD x1 (Int.toNat v5) (0, false)).1))) rfl (fun _ => ?_) (fun hh => by rw [h3] at hh; cases hh)
            have h := Option.some.inj h
            subst h
            exact WP.pathW tab_ok mixed [] _ (ps := []) (r := tb false) (by kernel_rfl) trivial (WkT.eq (y := tb false) (WkT.refl _) rfl) (fun _ h => h)
          · -- no
            refine WP.cond (b := !(isQ x0 ((List.getD x1 (Int.toNat v5) (0, false)).1))) rfl (fun hh => by rw [h3] at hh; cases hh) (fun _ => ?_)
            refine WP.path tab_ok mixed [] [.keep [5, 4, 0, 1], .keepO []] (ps := []) (e := .normal) (σ' := ⟨[], [(5, vi v5), (4, vb false), (0, vi x0), (1, V.t (T.list (List.length x1) 2 (List.flatMap askedC x1)))], []⟩) (by kernel_rfl) trivial ?_
            obtain ⟨c1, h⟩ := chk_some h
            refine WP.path tab_ok mixed [(15, An.v (T.int .i64 (v5 + (1 : Int))))] [.keep [5, 4, 0, 1], .keepO [], .names []] (ps := [(True), (T.int .i64 (IntKind.wrap .i64 (v5 + (1 : Int))) = T.int .i64 (v5 + (1 : Int)))]) (e := .normal) (σ' := ⟨[], [(5, vi (v5 + (1 : Int))), (4, vb false), (0, vi x0), (1, V.t (T.list (List.length x1) 2 (List.flatMap askedC x1)))], []⟩) (by kernel_rfl) ⟨trivial, wrapI c1, trivial⟩ ?_
            exact ⟨(n, (v5 + (1 : Int))), h, Nat.lt_succ_self _, rfl⟩
        · -- no
          refine WP.cond (b := v13) rfl (fun hh => by rw [h2] at hh; cases hh) (fun _ => ?_)
          refine WP.path tab_ok mixed [] [.keep [4, 0, 1], .keepO [], .names []] (ps := []) (e := (.exit 0)) (σ' := ⟨[], [(4, vb false), (0, vi x0), (1, V.t (T.list (List.length x1) 2 (List.flatMap askedC x1)))], []⟩) (by kernel_rfl) trivial ?_
          exact ⟨(), h, rfl⟩
  · -- from there
    intro _ h0
    have h := (show J1 () = some y0 from h0)
    rw [hJ1] at h
    rcases ite_some h with ⟨h4, h⟩ | ⟨h4, h⟩
    · -- yes
      have h := Option.some.inj h
      subst h
      exact WP.pathW tab_ok mixed [(25, An.call (tb true))] _ (ps := [(C Tryd.prog 114 [ti x0] (tb true)), (True)]) (r := tb (decide (((List.length x1 : Nat) : Int) ≤ (20 : Int)))) (by kernel_rfl) ⟨(C.toB h4 (l2Numbers_C x0)), trivial, trivial⟩ (WkT.eq (y := tb (decide (((List.length x1 : Nat) : Int) ≤ (20 : Int)))) (WkT.refl _) rfl) (fun _ h => h)
    · -- no
      have h := Option.some.inj h
      subst h
      exact WP.pathW tab_ok mixed [(25, An.call (tb false))] _ (ps := [(C Tryd.prog 114 [ti x0] (tb false))]) (r := tb false) (by kernel_rfl) ⟨(C.toB h4 (l2Numbers_C x0)), trivial⟩ (WkT.eq (y := tb false) (WkT.refl _) rfl) (fun _ h => h)
theorem F_spec_l2Start_W (x0 : Int) (x1 : Int) (y0 : List Int) (y1 : Int) (h : F_spec_l2Start x0 x1 = some (y0, y1)) : CG Tryd.prog 115 [vi x0, vi x1] [] (V.agg [vo 9000 (List.length y0), vi y1]) [(9000, oc 3 (List.map (T.int .i64) y0))] := by
  unfold F_spec_l2Start at h
  refine CG.intro (tab := tab) tab_ok (fn := Tryd.f115) Tryd.func115 (by kernel_rfl) rfl (Nat.le_of_ble_eq_true rfl) (by kernel_rfl) ?_
  obtain ⟨c0, h⟩ := chk_some h
  simp only [Option.some.injEq, Prod.mk.injEq] at h
  obtain ⟨rfl, rfl⟩ := h
  exact WP.pathG tab_ok mixed [(4, An.id 2004), (6, An.id 2006)] [.keep [4], .keepO [2006, 2004], .names [(2006, 9000), (2004, 2004)]] [9000] _ (r' := V.agg [vo 9000 (List.length (List.replicate (Int.toNat x0) (0 : Int))), vi x1]) (ps := [((0 ≤ x0 ∧ x0 ≤ x0 ∧ (8 : Int) * x0 ≤ 281474976710656 ∧ x0 ≤ (maxLen : Int))), ((1 = 1 ∧ 0 + 1 ≤ 2) ∧ (1 = 1 ∧ 1 + 1 ≤ 2) ∧ True), ((0 + 2 ≤ 2 ∧ 2 = 2)), (0 + 2 ≤ 2)]) (r := V.agg [vo 9000 (Int.toNat x0), vi x1]) (N := [9000, 2004]) (O := [(9000, oc 3 (List.replicate (Int.toNat x0) (ti 0)))]) [] (by kernel_rfl) ⟨c0, ⟨⟨by decide, by decide⟩, ⟨by decide, by decide⟩, trivial⟩, by decide, by decide, trivial⟩ ⟨(congrArg (V.own 9000 1) (by first | rfl | (simp only [tlS, tl, vl, vo, oc, ov, tbl, vbl, ty, vy] <;> rfl) | (simp <;> omega) | (simp []; done) | (rw [List.take_of_length_le (by simp [])] <;> rfl) | (simp [List.take_of_length_le]; done))), (WkT.refl _), trivial⟩ rfl (by first | rfl | (simp only [tlS, tl, vl, vo, oc, ov, tbl, vbl, ty, vy] <;> rfl) | (simp <;> omega) | (simp []; done) | (rw [List.take_of_length_le (by simp [])] <;> rfl) | (simp [List.take_of_length_le]; done)) (fun _ h => h)
theorem F_spec_l2Start_W_C (x0 : Int) (x1 : Int) (y0 : List Int) (y1 : Int) (h : F_spec_l2Start x0 x1 = some (y0, y1)) : C Tryd.prog 115 [ti x0, ti x1] (T.agg [tl y0, ti y1]) :=
  CG.toC (ps := [(List.length (List.map (T.int .i64) y0) = (List.length y0) * 1)]) (F_spec_l2Start_W  x0 x1 y0 y1 h) (by rfl) ⟨by first | rfl | omega | (simp <;> omega) | (simp [hl] <;> omega), trivial⟩
theorem F_spec_l2All_W (x0 : Int) (x1 : Int) (x2 : List (Int × Bool)) (y0 : List Int) (y1 : Int) (h : F_spec_l2All x0 x1 x2 = some (y0, y1)) : CG Tryd.prog 112 [vi x0, vi x1, V.t (T.list (List.length x2) 2 (List.flatMap askedC x2))] [] (V.agg [vo 9000 (List.length y0), vi y1]) [(9000, oc 3 (List.map (T.int .i64) y0))] := by
  unfold F_spec_l2All at h
  refine CG.intro (tab := tab) tab_ok (fn := Tryd.f112) Tryd.func112 (by kernel_rfl) rfl (Nat.le_of_ble_eq_true rfl) (by kernel_rfl) ?_
  refine WP.seq ?_
  refine WP.path tab_ok mixed [(6, An.id 2006)] [.keep [6, 0, 1, 2], .keepO [2006]] (ps := []) (e := .normal) (σ' := ⟨[2006], [(6, V.ref 2006 0), (0, vi x0), (1, vi x1), (2, V.t (T.list (List.length x2) 2 (List.flatMap askedC x2)))], [(2006, oc 82 [T.nils, ti 0])]⟩) (by kernel_rfl) trivial ?_
  refine WP.seq ?_
  obtain ⟨r11, r11b, c0, h⟩ := bnd2_some h
  refine WP.path tab_ok mixed [(11, An.callG [(9000, 10110)] [vi x0, vi x1] [] (V.agg [vo 9000 (List.length r11), vi r11b]) [(9000, oc 3 (List.map (T.int .i64) r11))]), (7, An.id 2007)] [.keep [7, 6, 2], .keepO [2006, 2007, 10110]] (ps := [(CG Tryd.prog 115 [vi x0, vi x1] [] (V.agg [vo 9000 (List.length r11), vi r11b]) [(9000, oc 3 (List.map (T.int .i64) r11))]), (WkT (ti x0) (ti x0)), (WkT (ti x1) (ti x1)), ((0 + 2 ≤ 2 ∧ 2 = 2))]) (e := .normal) (σ' := ⟨[2007, 10110, 2006], [(7, V.ref 2007 0), (6, V.ref 2006 0), (2, V.t (T.list (List.length x2) 2 (List.flatMap askedC x2)))], [(2006, oc 82 [T.nils, ti 0]), (2007, ov 82 [vo 10110 (List.length r11), vi r11b]), (10110, oc 3 (List.map (T.int .i64) r11))]⟩) (by kernel_rfl) ⟨(F_spec_l2Start_W x0 x1 r11 r11b c0), WkT.refl _, WkT.refl _, by decide, trivial⟩ ?_
  obtain ⟨J1, hJ1, h⟩ := jn_some h
  refine WP.joinA (fun (zz : (List Int)) => ⟨[2006, 2007, 10110], [(7, V.ref 2007 0), (6, V.ref 2006 0)], [(2006, oc 82 [T.nils, ti 0]), (2007, ov 82 [vo 10110 (List.length zz), vi r11b]), (10110, oc 3 (List.map (T.int .i64) zz))]⟩) (fun zz => J1 zz = some (y0, y1)) ?_ ?_
  · -- to where they meet
    refine WP.seq ?_
    refine WP.path tab_ok mixed [] [.keep [8, 7, 6, 2], .keepO [2006, 2007, 10110]] (ps := []) (e := .normal) (σ' := ⟨[2007, 10110, 2006], [(8, vi 0), (7, V.ref 2007 0), (6, V.ref 2006 0), (2, V.t (T.list (List.length x2) 2 (List.flatMap askedC x2)))], [(2006, oc 82 [T.nils, ti 0]), (2007, ov 82 [vo 10110 (List.length r11), vi r11b]), (10110, oc 3 (List.map (T.int .i64) r11))]⟩) (by kernel_rfl) trivial ?_
    refine WP.block ?_
    refine WP.wk [.keep [8, 7, 6, 2], .keepO [2006, 2007, 10110], .names [(2006, 2006), (2007, 2007), (10110, 10110)]] (σ' := ⟨[2006, 2007, 10110], [(8, vi 0), (7, V.ref 2007 0), (6, V.ref 2006 0), (2, V.t (T.list (List.length x2) 2 (List.flatMap askedC x2)))], [(2006, oc 82 [T.nils, ti 0]), (2007, ov 82 [vo 10110 (List.length r11), vi r11b]), (10110, oc 3 (List.map (T.int .i64) r11))]⟩) (ps := []) (by kernel_rfl) trivial ?_
    refine WP.st (σ' := ⟨[2006, 2007, 10110], [(8, vi (0 : Int)), (7, V.ref 2007 0), (6, V.ref 2006 0), (2, V.t (T.list (List.length x2) 2 (List.flatMap askedC x2)))], [(2006, oc 82 [T.nils, ti 0]), (2007, ov 82 [vo 10110 (List.length r11), vi r11b]), (10110, oc 3 (List.map (T.int .i64) r11))]⟩) (by first | rfl | (simp only [tlS, tl, vl, vo, oc, ov, tbl, vbl, ty, vy] <;> rfl) | (simp <;> omega) | (simp []; done) | (rw [List.take_of_length_le (by simp [])] <;> rfl) | (simp [List.take_of_length_le]; done)) ?_
    refine WP.loop (α := Nat × (List Int) × Int) (fun zz => ⟨[2006, 2007, 10110], [(8, vi zz.2.2), (7, V.ref 2007 0), (6, V.ref 2006 0), (2, V.t (T.list (List.length x2) 2 (List.flatMap askedC x2)))], [(2006, oc 82 [T.nils, ti 0]), (2007, ov 82 [vo 10110 (List.length zz.2.1), vi r11b]), (10110, oc 3 (List.map (T.int .i64) zz.2.1))]⟩) (fun zz => F_spec_l2All_L1 x2 r11b J1 zz.1 zz.2.1 zz.2.2 = some (y0, y1)) (fun zz => zz.1) (fuel, r11, (0 : Int)) h ?_
    rintro ⟨n, o10110, v8⟩ h0
    have h := (show F_spec_l2All_L1 x2 r11b J1 n o10110 v8 = some (y0, y1) from h0)
    rcases n with _ | n
    · rw [F_spec_l2All_L1] at h; cases h
    · rw [F_spec_l2All_L1] at h
      refine WP.seq ?_
      refine WP.seq ?_
      refine WP.path tab_ok mixed [] [.keep [15, 8, 7, 6, 2], .keepO [2006, 2007, 10110]] (ps := [(True)]) (e := .normal) (σ' := ⟨[2006, 2007, 10110], [(15, vb (decide (v8 < ((List.length x2 : Nat) : Int)))), (8, vi v8), (7, V.ref 2007 0), (6, V.ref 2006 0), (2, V.t (T.list (List.length x2) 2 (List.flatMap askedC x2)))], [(2006, oc 82 [T.nils, ti 0]), (2007, ov 82 [vo 10110 (List.length o10110), vi r11b]), (10110, oc 3 (List.map (T.int .i64) o10110))]⟩) (by kernel_rfl) ⟨trivial, trivial⟩ ?_
      rcases ite_some h with ⟨h1, h⟩ | ⟨h1, h⟩
      · -- yes
        refine WP.cond (b := decide (v8 < ((List.length x2 : Nat) : Int))) rfl (fun _ => ?_) (fun hh => by rw [h1] at hh; cases hh)
        refine WP.path tab_ok mixed [] [.keep [8, 7, 6, 2], .keepO [2006, 2007, 10110]] (ps := []) (e := .normal) (σ' := ⟨[2006, 2007, 10110], [(8, vi v8), (7, V.ref 2007 0), (6, V.ref 2006 0), (2, V.t (T.list (List.length x2) 2 (List.flatMap askedC x2)))], [(2006, oc 82 [T.nils, ti 0]), (2007, ov 82 [vo 10110 (List.length o10110), vi r11b]), (10110, oc 3 (List.map (T.int .i64) o10110))]⟩) (by kernel_rfl) trivial ?_
        refine WP.seq ?_
        refine WP.block ?_
        obtain ⟨c1, h⟩ := chk_some h
        obtain ⟨c2, h⟩ := chk_some h
        refine WP.path tab_ok mixed [(23, An.v (ti ((List.getD x2 (Int.toNat v8) (0, false)).1))), (28, An.v (tb ((List.getD x2 (Int.toNat v8) (0, false)).2))), (29, An.callG [(9000, 10290)] [V.t (T.agg [tl o10110, ti r11b]), vi ((List.getD x2 (Int.toNat v8) (0, false)).1), vb ((List.getD x2 (Int.toNat v8) (0, false)).2)] [] (V.agg [vo 9000 (List.length (ansN r11b ((List.getD x2 (Int.toNat v8) (0, false)).1) ((List.getD x2 (Int.toNat v8) (0, false)).2) o10110)), vi r11b]) [(9000, oc 3 (List.map (T.int .i64) (ansN r11b ((List.getD x2 (Int.toNat v8) (0, false)).1) ((List.getD x2 (Int.toNat v8) (0, false)).2) o10110)))])] [.keep [8, 7, 6, 2], .keepO [2006, 2007, 10290]] (ps := [(0 + 2 ≤ 2), ((0 ≤ v8 ∧ v8 < ((List.length x2 : Nat) : Int))), ((List.drop ((Int.toNat v8) * 2) (List.flatMap askedC x2) : List T)[0]? = some (ti ((List.getD x2 (Int.toNat v8) (0, false)).1))), (ti ((List.getD x2 (Int.toNat v8) (0, false)).1) = ti ((List.getD x2 (Int.toNat v8) (0, false)).1)), ((0 ≤ v8 ∧ v8 < ((List.length x2 : Nat) : Int))), ((List.drop 1 (List.drop ((Int.toNat v8) * 2) (List.flatMap askedC x2)) : List T)[0]? = some (tb ((List.getD x2 (Int.toNat v8) (0, false)).2))), (tb ((List.getD x2 (Int.toNat v8) (0, false)).2) = tb ((List.getD x2 (Int.toNat v8) (0, false)).2)), (CG Tryd.prog 121 [V.t (T.agg [tl o10110, ti r11b]), vi ((List.getD x2 (Int.toNat v8) (0, false)).1), vb ((List.getD x2 (Int.toNat v8) (0, false)).2)] [] (V.agg [vo 9000 (List.length (ansN r11b ((List.getD x2 (Int.toNat v8) (0, false)).1) ((List.getD x2 (Int.toNat v8) (0, false)).2) o10110)), vi r11b]) [(9000, oc 3 (List.map (T.int .i64) (ansN r11b ((List.getD x2 (Int.toNat v8) (0, false)).1) ((List.getD x2 (Int.toNat v8) (0, false)).2) o10110)))]), ((V.agg [vo 9000 (List.length (ansN r11b ((List.getD x2 (Int.toNat v8) (0, false)).1) ((List.getD x2 (Int.toNat v8) (0, false)).2) o10110)), vi r11b]).flat = true), (flatO [(9000, oc 3 (List.map (T.int .i64) (ansN r11b ((List.getD x2 (Int.toNat v8) (0, false)).1) ((List.getD x2 (Int.toNat v8) (0, false)).2) o10110)))] = true), (List.length (List.map (T.int .i64) o10110) = (List.length o10110) * 1), (WkT (T.agg [tl o10110, ti r11b]) (T.agg [tl o10110, ti r11b])), (WkT (ti ((List.getD x2 (Int.toNat v8) (0, false)).1)) (ti ((List.getD x2 (Int.toNat v8) (0, false)).1))), (WkT (tb ((List.getD x2 (Int.toNat v8) (0, false)).2)) (tb ((List.getD x2 (Int.toNat v8) (0, false)).2))), ((0 + 2 ≤ 2 ∧ 2 = 2))]) (e := .normal) (σ' := ⟨[10290, 2006, 2007, 10110], [(8, vi v8), (7, V.ref 2007 0), (6, V.ref 2006 0), (2, V.t (T.list (List.length x2) 2 (List.flatMap askedC x2)))], [(2006, oc 82 [T.nils, ti 0]), (2007, ov 82 [vo 10290 (List.length (ansN r11b ((List.getD x2 (Int.toNat v8) (0, false)).1) ((List.getD x2 (Int.toNat v8) (0, false)).2) o10110)), vi r11b]), (10290, oc 3 (List.map (T.int .i64) (ansN r11b ((List.getD x2 (Int.toNat v8) (0, false)).1) ((List.getD x2 (Int.toNat v8) (0, false)).2) o10110)))]⟩) (by kernel_rfl) ⟨by decide, c1, fld0_asked (by simp) (by omega) rfl, rfl, c1, fld_asked (by simp) (by omega) rfl, rfl, (l2After_C_G o10110 r11b ((List.getD x2 (Int.toNat v8) (0, false)).1) ((List.getD x2 (Int.toNat v8) (0, false)).2) c2), by rfl, by first | rfl | (simp [flatO, Tl.Obj.flat, V.flats, V.flat, T.flats, T.flat, flats_app, flats_int, flats_bool, flats_str, flats_node, flats_asked]; done), by first | rfl | omega | (simp only [tlL] <;> omega) | (simp <;> omega) | (simp [] <;> omega), WkT.refl _, WkT.refl _, WkT.refl _, by decide, trivial⟩ ?_
        obtain ⟨c3, h⟩ := chk_some h
        refine WP.path tab_ok mixed [(17, An.v (T.int .i64 (v8 + (1 : Int))))] [.keep [8, 7, 6, 2], .keepO [2006, 2007, 10290], .names [(2006, 2006), (2007, 2007), (10290, 10110)]] (ps := [(True), (T.int .i64 (IntKind.wrap .i64 (v8 + (1 : Int))) = T.int .i64 (v8 + (1 : Int)))]) (e := .normal) (σ' := ⟨[2006, 2007, 10110], [(8, vi (v8 + (1 : Int))), (7, V.ref 2007 0), (6, V.ref 2006 0), (2, V.t (T.list (List.length x2) 2 (List.flatMap askedC x2)))], [(2006, oc 82 [T.nils, ti 0]), (2007, ov 82 [vo 10110 (List.length (ansN r11b ((List.getD x2 (Int.toNat v8) (0, false)).1) ((List.getD x2 (Int.toNat v8) (0, false)).2) o10110)), vi r11b]), (10110, oc 3 (List.map (T.int .i64) (ansN r11b ((List.getD x2 (Int.toNat v8) (0, false)).1) ((List.getD x2 (Int.toNat v8) (0, false)).2) o10110)))]⟩) (by kernel_rfl) ⟨trivial, wrapI c3, trivial⟩ ?_
        exact ⟨(n, ansN r11b ((List.getD x2 (Int.toNat v8) (0, false)).1) ((List.getD x2 (Int.toNat v8) (0, false)).2) o10110, (v8 + (1 : Int))), h, Nat.lt_succ_self _, rfl⟩
      · -- no
        refine WP.cond (b := decide (v8 < ((List.length x2 : Nat) : Int))) rfl (fun hh => by rw [h1] at hh; cases hh) (fun _ => ?_)
        refine WP.path tab_ok mixed [] [.keep [7, 6], .keepO [2006, 2007, 10110], .names [(2006, 2006), (2007, 2007), (10110, 10110)]] (ps := []) (e := (.exit 0)) (σ' := ⟨[2006, 2007, 10110], [(7, V.ref 2007 0), (6, V.ref 2006 0)], [(2006, oc 82 [T.nils, ti 0]), (2007, ov 82 [vo 10110 (List.length o10110), vi r11b]), (10110, oc 3 (List.map (T.int .i64) o10110))]⟩) (by kernel_rfl) trivial ?_
        exact ⟨(o10110), h, rfl⟩
  · -- from there
    intro o10110 h0
    have h := (show J1 o10110 = some (y0, y1) from h0)
    rw [hJ1] at h
    simp only [Option.some.injEq, Prod.mk.injEq] at h
    obtain ⟨rfl, rfl⟩ := h
    exact WP.pathG tab_ok mixed [] [.keep [6], .keepO [10110, 2006], .names [(10110, 9000), (2006, 2006)]] [9000] _ (r' := V.agg [vo 9000 (List.length o10110), vi r11b]) (ps := [(0 + 2 ≤ 2), ((0 + 2 ≤ 2 ∧ 2 = 2)), (0 + 2 ≤ 2)]) (r := V.agg [vo 9000 (List.length o10110), vi r11b]) (N := [9000, 2006]) (O := [(9000, oc 3 (List.map (T.int .i64) o10110))]) [] (by kernel_rfl) ⟨by decide, by decide, by decide, trivial⟩ ⟨rfl, (WkT.refl _), trivial⟩ rfl rfl (fun _ h => h)
theorem F_spec_l2All_W_C (x0 : Int) (x1 : Int) (x2 : List (Int × Bool)) (y0 : List Int) (y1 : Int) (h : F_spec_l2All x0 x1 x2 = some (y0, y1)) : C Tryd.prog 112 [ti x0, ti x1, T.list (List.length x2) 2 (List.flatMap askedC x2)] (T.agg [tl y0, ti y1]) :=
  CG.toC (ps := [(List.length (List.map (T.int .i64) y0) = (List.length y0) * 1)]) (F_spec_l2All_W  x0 x1 x2 y0 y1 h) (by rfl) ⟨by first | rfl | omega | (simp <;> omega) | (simp [hl] <;> omega), trivial⟩
theorem F_spec_AnswerAll_W (x0 : Int) (x1 : Int) (x2 : List (Int × Bool)) (y0 : List Int) (y1 : Int) (y2 : Bool) (h : F_spec_AnswerAll x0 x1 x2 = some (y0, y1, y2)) : CG Tryd.prog 54 [vi x0, vi x1, V.t (T.list (List.length x2) 2 (List.flatMap askedC x2))] [] (V.tup [V.agg [vo 9000 (List.length y0), vi y1], vb y2]) [(9000, oc 3 (List.map (T.int .i64) y0))] := by
  unfold F_spec_AnswerAll at h
  refine CG.intro (tab := tab) tab_ok (fn := Tryd.f54) Tryd.func54 (by kernel_rfl) rfl (Nat.le_of_ble_eq_true rfl) (by kernel_rfl) ?_
  refine WP.seq ?_
  refine WP.path tab_ok mixed [(6, An.id 2006)] [.keep [7, 6, 0, 1, 2], .keepO [2006]] (ps := []) (e := .normal) (σ' := ⟨[2006], [(7, vb false), (6, V.ref 2006 0), (0, vi x0), (1, vi x1), (2, V.t (T.list (List.length x2) 2 (List.flatMap askedC x2)))], [(2006, oc 82 [T.nils, ti 0])]⟩) (by kernel_rfl) trivial ?_
  refine WP.seq ?_
  obtain ⟨J1, hJ1, h⟩ := jn_some h
  refine WP.joinA (fun (zz : Bool) => ⟨[2006], [(16, vb zz), (7, vb false), (6, V.ref 2006 0), (0, vi x0), (1, vi x1), (2, V.t (T.list (List.length x2) 2 (List.flatMap askedC x2)))], [(2006, oc 82 [T.nils, ti 0])]⟩) (fun zz => J1 zz = some (y0, y1, y2)) ?_ ?_
  · -- to where they meet
    obtain ⟨r10, c0, h⟩ := bnd1_some h
    rcases ite_some h with ⟨h1, h⟩ | ⟨h1, h⟩
    · -- yes
      refine WP.path tab_ok mixed [(10, An.call (tb r10)), (12, An.b true)] [.keep [16, 7, 6, 0, 1, 2], .keepO [2006], .names [(2006, 2006)]] (ps := [(C Tryd.prog 111 [ti x0, T.list (List.length x2) 2 (List.flatMap askedC x2)] (tb r10)), ((!r10) = true)]) (e := .normal) (σ' := ⟨[2006], [(16, vb true), (7, vb false), (6, V.ref 2006 0), (0, vi x0), (1, vi x1), (2, V.t (T.list (List.length x2) 2 (List.flatMap askedC x2)))], [(2006, oc 82 [T.nils, ti 0])]⟩) (by kernel_rfl) ⟨(F_spec_l2Answers_W x0 x2 r10 c0), h1, trivial⟩ ?_
      exact ⟨(true), h, rfl⟩
    · -- no
      refine WP.path tab_ok mixed [(10, An.call (tb r10)), (12, An.b false), (14, An.call (tb (decide (x1 ≥ (0 : Int)) && decide (x1 ≤ (2 : Int)))))] [.keep [16, 7, 6, 0, 1, 2], .keepO [2006], .names [(2006, 2006)]] (ps := [(C Tryd.prog 111 [ti x0, T.list (List.length x2) 2 (List.flatMap askedC x2)] (tb r10)), ((!r10) = false), (C Tryd.prog 80 [ti x1, ti 0, ti 2] (tb (decide (x1 ≥ (0 : Int)) && decide (x1 ≤ (2 : Int)))))]) (e := .normal) (σ' := ⟨[2006], [(16, vb (!(decide (x1 ≥ (0 : Int)) && decide (x1 ≤ (2 : Int))))), (7, vb false), (6, V.ref 2006 0), (0, vi x0), (1, vi x1), (2, V.t (T.list (List.length x2) 2 (List.flatMap askedC x2)))], [(2006, oc 82 [T.nils, ti 0])]⟩) (by kernel_rfl) ⟨(F_spec_l2Answers_W x0 x2 r10 c0), h1, (by have hh := (l1In_C x1 (0 : Int) (2 : Int)); first | exact hh | simpa using hh), trivial⟩ ?_
      exact ⟨(!(decide (x1 ≥ (0 : Int)) && decide (x1 ≤ (2 : Int)))), h, rfl⟩
  · -- from there
    intro v16 h0
    have h := (show J1 v16 = some (y0, y1, y2) from h0)
    rw [hJ1] at h
    rcases ite_some h with ⟨h2, h⟩ | ⟨h2, h⟩
    · -- yes
      refine WP.cond (b := v16) rfl (fun _ => ?_) (fun hh => by rw [h2] at hh; cases hh)
      simp only [Option.some.injEq, Prod.mk.injEq] at h
      obtain ⟨rfl, rfl, rfl⟩ := h
      exact WP.pathG tab_ok mixed [] [.keep [6, 7], .keepO [2006], .names [(2006, 2006)]] [] _ (r' := V.tup [V.agg [vo 9000 (List.length ([] : List Int)), vi (0 : Int)], vb false]) (ps := [(True), ((0 + 2 ≤ 2 ∧ 2 = 2)), (0 + 2 ≤ 2)]) (r := V.t (T.tup [T.agg [T.nils, ti 0], tb false])) (N := [2006]) (O := []) [(9000, 3)] (by kernel_rfl) ⟨trivial, by decide, by first | decide | omega | (simp only [tlL] <;> omega) | (simp <;> omega) | (simp [] <;> omega), trivial⟩ ⟨(by first | rfl | (simp; done)), (WkT.eq (WkT.refl _) (by first | rfl | (simp only [tlS, tl, vl, vo, oc, ov, tbl, vbl, ty, vy] <;> rfl) | (simp <;> omega) | (simp []; done) | (rw [List.take_of_length_le (by simp [])] <;> rfl) | (simp [List.take_of_length_le]; done))), (WkT.refl _), trivial⟩ rfl rfl (fun _ h => h)
    · -- no
      refine WP.cond (b := v16) rfl (fun hh => by rw [h2] at hh; cases hh) (fun _ => ?_)
      refine WP.path tab_ok mixed [] [.keep [7, 6, 0, 1, 2], .keepO [2006]] (ps := []) (e := .normal) (σ' := ⟨[2006], [(7, vb false), (6, V.ref 2006 0), (0, vi x0), (1, vi x1), (2, V.t (T.list (List.length x2) 2 (List.flatMap askedC x2)))], [(2006, oc 82 [T.nils, ti 0])]⟩) (by kernel_rfl) trivial ?_
      obtain ⟨r21, r21b, c0, h⟩ := bnd2_some h
      simp only [Option.some.injEq, Prod.mk.injEq] at h
      obtain ⟨rfl, rfl, rfl⟩ := h
      exact WP.pathG tab_ok mixed [(21, An.callG [(9000, 10210)] [vi x0, vi x1, V.t (T.list (List.length x2) 2 (List.flatMap askedC x2))] [] (V.agg [vo 9000 (List.length r21), vi r21b]) [(9000, oc 3 (List.map (T.int .i64) r21))])] [.keep [6, 7], .keepO [10210, 2006], .names [(10210, 9000), (2006, 2006)]] [9000] _ (r' := V.tup [V.agg [vo 9000 (List.length r21), vi r21b], vb true]) (ps := [(CG Tryd.prog 112 [vi x0, vi x1, V.t (T.list (List.length x2) 2 (List.flatMap askedC x2))] [] (V.agg [vo 9000 (List.length r21), vi r21b]) [(9000, oc 3 (List.map (T.int .i64) r21))]), (WkT (ti x0) (ti x0)), (WkT (ti x1) (ti x1)), (WkT (T.list (List.length x2) 2 (List.flatMap askedC x2)) (T.list (List.length x2) 2 (List.flatMap askedC x2))), ((0 + 2 ≤ 2 ∧ 2 = 2)), (0 + 2 ≤ 2)]) (r := V.tup [V.agg [vo 9000 (List.length r21), vi r21b], vb true]) (N := [9000, 2006]) (O := [(9000, oc 3 (List.map (T.int .i64) r21))]) [] (by kernel_rfl) ⟨(F_spec_l2All_W x0 x1 x2 r21 r21b c0), WkT.refl _, WkT.refl _, WkT.refl _, by decide, by decide, trivial⟩ ⟨rfl, (WkT.refl _), (WkT.refl _), trivial⟩ rfl rfl (fun _ h => h)
theorem F_spec_AnswerAll_W_C (x0 : Int) (x1 : Int) (x2 : List (Int × Bool)) (y0 : List Int) (y1 : Int) (y2 : Bool) (h : F_spec_AnswerAll x0 x1 x2 = some (y0, y1, y2)) : C Tryd.prog 54 [ti x0, ti x1, T.list (List.length x2) 2 (List.flatMap askedC x2)] (T.tup [T.agg [tl y0, ti y1], tb y2]) :=
  CG.toC (ps := [(List.length (List.map (T.int .i64) y0) = (List.length y0) * 1)]) (F_spec_AnswerAll_W  x0 x1 x2 y0 y1 y2 h) (by rfl) ⟨by first | rfl | omega | (simp <;> omega) | (simp [hl] <;> omega), trivial⟩
theorem F_laws_rInts_W (x0 : List Int) (x1 : List Int) (y0 : Bool) (h : F_laws_rInts x0 x1 = some y0) : C Tryd.prog 77 [tl x0, tl x1] (tb y0) := by
  unfold F_laws_rInts at h
  refine C.intro (tab := tab) tab_ok (fn := Tryd.f77) Tryd.func77 (by kernel_rfl) rfl (Nat.le_of_ble_eq_true rfl) ?_
  refine WP.seq ?_
  refine WP.path tab_ok mixed [] [.keep [4, 0, 1], .keepO []] (ps := []) (e := .normal) (σ' := ⟨[], [(4, vb false), (0, vl x0), (1, vl x1)], []⟩) (by kernel_rfl) trivial ?_
  refine WP.seq ?_
  refine WP.seq ?_
  refine WP.path tab_ok mixed [] [.keep [10, 4, 0, 1], .keepO []] (ps := [(True)]) (e := .normal) (σ' := ⟨[], [(10, vb (((List.length x0 : Nat) : Int) != ((List.length x1 : Nat) : Int))), (4, vb false), (0, vl x0), (1, vl x1)], []⟩) (by kernel_rfl) ⟨trivial, trivial⟩ ?_
  rcases ite_some h with ⟨h1, h⟩ | ⟨h1, h⟩
  · -- yes
    refine WP.cond (b := ((List.length x0 : Nat) : Int) != ((List.length x1 : Nat) : Int)) rfl (fun _ => ?_) (fun hh => by rw [h1] at hh; cases hh)
    have h := Option.some.inj h
    subst h
    exact WP.pathW tab_ok mixed [] _ (ps := []) (r := tb false) (by kernel_rfl) trivial (WkT.eq (y := tb false) (WkT.refl _) rfl) (fun _ h => h)
  · -- no
    refine WP.cond (b := ((List.length x0 : Nat) : Int) != ((List.length x1 : Nat) : Int)) rfl (fun hh => by rw [h1] at hh; cases hh) (fun _ => ?_)
    refine WP.path tab_ok mixed [] [.keep [4, 0, 1], .keepO []] (ps := []) (e := .normal) (σ' := ⟨[], [(4, vb false), (0, vl x0), (1, vl x1)], []⟩) (by kernel_rfl) trivial ?_
    obtain ⟨J1, hJ1, h⟩ := jn_some h
    refine WP.joinA (fun (zz : Unit) => ⟨[], [(4, vb false)], []⟩) (fun zz => J1 () = some y0) ?_ ?_
    · -- to where they meet
      refine WP.seq ?_
      refine WP.path tab_ok mixed [] [.keep [5, 4, 0, 1], .keepO []] (ps := []) (e := .normal) (σ' := ⟨[], [(5, vi 0), (4, vb false), (0, vl x0), (1, vl x1)], []⟩) (by kernel_rfl) trivial ?_
      refine WP.block ?_
      refine WP.wk [.keep [5, 4, 0, 1], .keepO [], .names []] (σ' := ⟨[], [(5, vi 0), (4, vb false), (0, vl x0), (1, vl x1)], []⟩) (ps := []) (by kernel_rfl) trivial ?_
      refine WP.st (σ' := ⟨[], [(5, vi (0 : Int)), (4, vb false), (0, vl x0), (1, vl x1)], []⟩) (by first | rfl | (simp only [tlS, tl, vl, vo, oc, ov, tbl, vbl, ty, vy] <;> rfl) | (simp <;> omega) | (simp []; done) | (rw [List.take_of_length_le (by simp [])] <;> rfl) | (simp [List.take_of_length_le]; done)) ?_
      refine WP.loop (α := Nat × Int) (fun zz => ⟨[], [(5, vi zz.2), (4, vb false), (0, vl x0), (1, vl x1)], []⟩) (fun zz => F_laws_rInts_L1 x0 x1 J1 zz.1 zz.2 = some y0) (fun zz => zz.1) (fuel, (0 : Int)) h ?_
      rintro ⟨n, v5⟩ h0
      have h := (show F_laws_rInts_L1 x0 x1 J1 n v5 = some y0 from h0)
      rcases n with _ | n
      · rw [F_laws_rInts_L1] at h; cases h
      · rw [F_laws_rInts_L1] at h
        refine WP.seq ?_
        refine WP.seq ?_
        refine WP.path tab_ok mixed [] [.keep [14, 5, 4, 0, 1], .keepO []] (ps := [(True)]) (e := .normal) (σ' := ⟨[], [(14, vb (decide (v5 < ((List.length x0 : Nat) : Int)))), (5, vi v5), (4, vb false), (0, vl x0), (1, vl x1)], []⟩) (by kernel_rfl) ⟨trivial, trivial⟩ ?_
        rcases ite_some h with ⟨h2, h⟩ | ⟨h2, h⟩
        · -- yes
          refine WP.cond (b := decide (v5 < ((List.length x0 : Nat) : Int))) rfl (fun _ => ?_) (fun hh => by rw [h2] at hh; cases hh)
          refine WP.path tab_ok mixed [] [.keep [5, 4, 0, 1], .keepO []] (ps := []) (e := .normal) (σ' := ⟨[], [(5, vi v5), (4, vb false), (0, vl x0), (1, vl x1)], []⟩) (by kernel_rfl) trivial ?_
          refine WP.seq ?_
          refine WP.block ?_
          refine WP.seq ?_
          obtain ⟨c0, h⟩ := chk_some h
          obtain ⟨c1, h⟩ := chk_some h
          refine WP.path tab_ok mixed [(20, An.v (ti (List.getD x0 (Int.toNat v5) 0))), (24, An.v (ti (List.getD x1 (Int.toNat v5) 0)))] [.keep [25, 5, 4, 0, 1], .keepO []] (ps := [((0 ≤ v5 ∧ v5 < ((List.length x0 : Nat) : Int))), ((List.drop ((Int.toNat v5) * 1) (List.map (T.int .i64) x0) : List T)[0]? = some (ti (List.getD x0 (Int.toNat v5) 0))), (ti (List.getD x0 (Int.toNat v5) 0) = ti (List.getD x0 (Int.toNat v5) 0)), ((0 ≤ v5 ∧ v5 < ((List.length x1 : Nat) : Int))), ((List.drop ((Int.toNat v5) * 1) (List.map (T.int .i64) x1) : List T)[0]? = some (ti (List.getD x1 (Int.toNat v5) 0))), (ti (List.getD x1 (Int.toNat v5) 0) = ti (List.getD x1 (Int.toNat v5) 0)), (True)]) (e := .normal) (σ' := ⟨[], [(25, vb ((List.getD x0 (Int.toNat v5) 0) != (List.getD x1 (Int.toNat v5) 0))), (5, vi v5), (4, vb false), (0, vl x0), (1, vl x1)], []⟩) (by kernel_rfl) ⟨c0, at1 (by simp) (by omega), rfl, c1, at1 (by simp) (by omega), rfl, trivial, trivial⟩ ?_
          rcases ite_some h with ⟨h3, h⟩ | ⟨h3, h⟩
          · -- yes
            refine WP.cond (b := (List.getD x0 (Int.toNat v5) 0) != (List.getD x1 (Int.toNat v5) 0)) rfl (fun _ => ?_) (fun hh => by rw [h3] at hh; cases hh)
            have h := Option.some.inj h
            subst h
            exact WP.pathW tab_ok mixed [] _ (ps := []) (r := tb false) (by kernel_rfl) trivial (WkT.eq (y := tb false) (WkT.refl _) rfl) (fun _ h => h)
          · -- no
            refine WP.cond (b := (List.getD x0 (Int.toNat v5) 0) != (List.getD x1 (Int.toNat v5) 0)) rfl (fun hh => by rw [h3] at hh; cases hh) (fun _ => ?_)
            refine WP.path tab_ok mixed [] [.keep [5, 4, 0, 1], .keepO []] (ps := []) (e := .normal) (σ' := ⟨[], [(5, vi v5), (4, vb false), (0, vl x0), (1, vl x1)], []⟩) (by kernel_rfl) trivial ?_
            obtain ⟨c2, h⟩ := chk_some h
            refine WP.path tab_ok mixed [(16, An.v (T.int .i64 (v5 + (1 : Int))))] [.keep [5, 4, 0, 1], .keepO [], .names []] (ps := [(True), (T.int .i64 (IntKind.wrap .i64 (v5 + (1 : Int))) = T.int .i64 (v5 + (1 : Int)))]) (e := .normal) (σ' := ⟨[], [(5, vi (v5 + (1 : Int))), (4, vb false), (0, vl x0), (1, vl x1)], []⟩) (by kernel_rfl) ⟨trivial, wrapI c2, trivial⟩ ?_
            exact ⟨(n, (v5 + (1 : Int))), h, Nat.lt_succ_self _, rfl⟩
        · -- no
          refine WP.cond (b := decide (v5 < ((List.length x0 : Nat) : Int))) rfl (fun hh => by rw [h2] at hh; cases hh) (fun _ => ?_)
          refine WP.path tab_ok mixed [] [.keep [4], .keepO [], .names []] (ps := []) (e := (.exit 0)) (σ' := ⟨[], [(4, vb false)], []⟩) (by kernel_rfl) trivial ?_
          exact ⟨(), h, rfl⟩
    · -- from there
      intro _ h0
      have h := (show J1 () = some y0 from h0)
      rw [hJ1] at h
      have h := Option.some.inj h
      subst h
      exact WP.pathW tab_ok mixed [] _ (ps := []) (r := tb true) (by kernel_rfl) trivial (WkT.eq (y := tb true) (WkT.refl _) rfl) (fun _ h => h)
theorem F_laws_rState_W (x0 : List Int) (x1 : Int) (x2 : List Int) (x3 : Int) (y0 : Bool) (h : F_laws_rState x0 x1 x2 x3 = some y0) : C Tryd.prog 55 [T.agg [tl x0, ti x1], T.agg [tl x2, ti x3]] (tb y0) := by
  unfold F_laws_rState at h
  refine C.intro (tab := tab) tab_ok (fn := Tryd.f55) Tryd.func55 (by kernel_rfl) rfl (Nat.le_of_ble_eq_true rfl) ?_
  rcases ite_some h with ⟨h1, h⟩ | ⟨h1, h⟩
  · -- yes
    obtain ⟨r15, c0, h⟩ := bnd1_some h
    have h := Option.some.inj h
    subst h
    exact WP.pathW tab_ok mixed [(2, An.fz), (3, An.fz), (9, An.b true), (15, An.call (tb r15))] _ (ps := [(True), (True), (True), ((x1 == x3) = true), (True), (True), (C Tryd.prog 77 [tl x0, tl x2] (tb r15))]) (r := tb r15) (by kernel_rfl) ⟨trivial, trivial, trivial, h1, trivial, trivial, (F_laws_rInts_W x0 x2 r15 c0), trivial⟩ (WkT.eq (y := tb r15) (WkT.refl _) rfl) (fun _ h => h)
  · -- no
    have h := Option.some.inj h
    subst h
    exact WP.pathW tab_ok mixed [(2, An.fz), (3, An.fz), (9, An.b false)] _ (ps := [(True), (True), (True), ((x1 == x3) = false)]) (r := tb false) (by kernel_rfl) ⟨trivial, trivial, trivial, h1, trivial⟩ (WkT.eq (y := tb false) (WkT.refl _) rfl) (fun _ h => h)
theorem F_spec_DrawStartState_W (x0 : List Int) (y0 : Int) (y1 : Int) (h : F_spec_DrawStartState x0 = some (y0, y1)) : C Tryd.prog 56 [ty x0] (T.tup [ti y0, ti y1]) := by
  unfold F_spec_DrawStartState at h
  refine C.intro (tab := tab) tab_ok (fn := Tryd.f56) Tryd.func56 (by kernel_rfl) rfl (Nat.le_of_ble_eq_true rfl) ?_
  obtain ⟨r9, r9b, r9c, r9d, c0, h⟩ := bnd4_some h
  obtain ⟨r11, r11b, r11c, r11d, c1, h⟩ := bnd4_some h
  simp only [Option.some.injEq, Prod.mk.injEq] at h
  obtain ⟨rfl, rfl⟩ := h
  exact WP.pathW tab_ok mixed [(7, An.id 2007), (9, An.callG [(500, 2007)] [V.ref 500 0] [(500, oc 127 [ty x0, ti 0, T.int .u64 0])] (vi r9) [(500, oc 127 [ty r9b, ti r9c, T.int .u64 r9d])]), (11, An.callG [(500, 2007)] [V.ref 500 0] [(500, oc 127 [ty r9b, ti r9c, T.int .u64 r9d])] (vi r11) [(500, oc 127 [ty r11b, ti r11c, T.int .u64 r11d])])] _ (ps := [((1 = 1 ∧ 0 + 1 ≤ 3) ∧ True), (CG Tryd.prog 104 [V.ref 500 0] [(500, oc 127 [ty x0, ti 0, T.int .u64 0])] (vi r9) [(500, oc 127 [ty r9b, ti r9c, T.int .u64 r9d])]), ((V.ref 500 0).ren (renF [(500, 2007)]) = V.ref 2007 0), ((oc 127 [ty x0, ti 0, T.int .u64 0]) = (oc 127 [ty x0, ti 0, T.int .u64 0]).ren (renF [(500, 2007)])), (CG Tryd.prog 105 [V.ref 500 0] [(500, oc 127 [ty r9b, ti r9c, T.int .u64 r9d])] (vi r11) [(500, oc 127 [ty r11b, ti r11c, T.int .u64 r11d])]), ((V.ref 500 0).ren (renF [(500, 2007)]) = V.ref 2007 0), ((oc 127 [ty r9b, ti r9c, T.int .u64 r9d]) = (oc 127 [ty r9b, ti r9c, T.int .u64 r9d]).ren (renF [(500, 2007)]))]) (r := T.tup [ti r9, ti r11]) (by kernel_rfl) ⟨⟨⟨by first | rfl | (simp; done) | (simp []; done) | omega, by first | decide | (simp; done) | (simp []; done) | omega | (simp only [tlL]; omega) | (simp; omega)⟩, trivial⟩, (F_p_spec_l1Cur_many_W x0 (0 : Int) (0 : Int) r9 r9b r9c r9d c0), by first | rfl | (simp [V.ren, V.renL, renF, lk]; done) | (simp [V.ren, V.renL, renF, lk]; omega), by first | rfl | (simp only [tlS]; rfl) | (simp [Tl.Obj.ren, V.ren, V.renL, renF, lk]; done), (F_p_spec_l1Cur_lies_W r9b r9c r9d r11 r11b r11c r11d c1), by first | rfl | (simp [V.ren, V.renL, renF, lk]; done) | (simp [V.ren, V.renL, renF, lk]; omega), by first | rfl | (simp only [tlS]; rfl) | (simp [Tl.Obj.ren, V.ren, V.renL, renF, lk]; done), trivial⟩ (WkT.eq (y := T.tup [ti r9, ti r11]) (WkT.refl _) rfl) (fun _ h => h)
theorem F_p_spec_l1Cur_state_W (x0 : List Int) (x1 : Int) (x2 : Int) (y0 : List Int) (y1 : Int) (y2 : List Int) (y3 : Int) (y4 : Int) (h : F_p_spec_l1Cur_state x0 x1 x2 = some (y0, y1, y2, y3, y4)) : CG Tryd.prog 116 [V.ref 500 0] [(500, oc 127 [ty x0, ti x1, T.int .u64 x2])] (V.agg [vo 9000 (List.length y0), vi y1]) [(500, oc 127 [ty y2, ti y3, T.int .u64 y4]), (9000, oc 3 (List.map (T.int .i64) y0))] := by
  unfold F_p_spec_l1Cur_state at h
  refine CG.intro (tab := tab) tab_ok (fn := Tryd.f116) Tryd.func116 (by kernel_rfl) rfl (Nat.le_of_ble_eq_true rfl) (by kernel_rfl) ?_
  refine WP.seq ?_
  refine WP.path tab_ok mixed [(2, An.id 2002)] [.keep [2, 0], .keepO [500, 2002]] (ps := []) (e := .normal) (σ' := ⟨[2002, 500], [(2, V.ref 2002 0), (0, V.ref 500 0)], [(500, oc 127 [ty x0, ti x1, T.int .u64 x2]), (2002, oc 82 [T.nils, ti 0])]⟩) (by kernel_rfl) trivial ?_
  refine WP.seq ?_
  obtain ⟨r9, r9b, r9c, r9d, c0, h⟩ := bnd4_some h
  obtain ⟨r11, r11b, r11c, r11d, c1, h⟩ := bnd4_some h
  refine WP.path tab_ok mixed [(9, An.callG [(500, 500)] [V.ref 500 0] [(500, oc 127 [ty x0, ti x1, T.int .u64 x2])] (vi r9) [(500, oc 127 [ty r9b, ti r9c, T.int .u64 r9d])]), (11, An.callG [(500, 500)] [V.ref 500 0] [(500, oc 127 [ty r9b, ti r9c, T.int .u64 r9d])] (vi r11) [(500, oc 127 [ty r11b, ti r11c, T.int .u64 r11d])])] [.keep [4, 3, 2, 0], .keepO [500, 2002]] (ps := [(CG Tryd.prog 105 [V.ref 500 0] [(500, oc 127 [ty x0, ti x1, T.int .u64 x2])] (vi r9) [(500, oc 127 [ty r9b, ti r9c, T.int .u64 r9d])]), ((V.ref 500 0).ren (renF [(500, 500)]) = V.ref 500 0), ((oc 127 [ty x0, ti x1, T.int .u64 x2]) = (oc 127 [ty x0, ti x1, T.int .u64 x2]).ren (renF [(500, 500)])), (CG Tryd.prog 104 [V.ref 500 0] [(500, oc 127 [ty r9b, ti r9c, T.int .u64 r9d])] (vi r11) [(500, oc 127 [ty r11b, ti r11c, T.int .u64 r11d])]), ((V.ref 500 0).ren (renF [(500, 500)]) = V.ref 500 0), ((oc 127 [ty r9b, ti r9c, T.int .u64 r9d]) = (oc 127 [ty r9b, ti r9c, T.int .u64 r9d]).ren (renF [(500, 500)]))]) (e := .normal) (σ' := ⟨[2002, 500], [(4, vi r11), (3, vi r9), (2, V.ref 2002 0), (0, V.ref 500 0)], [(500, oc 127 [ty r11b, ti r11c, T.int .u64 r11d]), (2002, oc 82 [T.nils, ti 0])]⟩) (by kernel_rfl) ⟨(F_p_spec_l1Cur_lies_W x0 x1 x2 r9 r9b r9c r9d c0), by first | rfl | (simp [V.ren, V.renL, renF, lk]; done) | (simp [V.ren, V.renL, renF, lk]; omega), by first | rfl | (simp only [tlS]; rfl) | (simp [Tl.Obj.ren, V.ren, V.renL, renF, lk]; done), (F_p_spec_l1Cur_many_W r9b r9c r9d r11 r11b r11c r11d c1), by first | rfl | (simp [V.ren, V.renL, renF, lk]; done) | (simp [V.ren, V.renL, renF, lk]; omega), by first | rfl | (simp only [tlS]; rfl) | (simp [Tl.Obj.ren, V.ren, V.renL, renF, lk]; done), trivial⟩ ?_
  refine WP.seq ?_
  refine WP.path tab_ok mixed [(12, An.id 2012), (5, An.id 2005)] [.keep [5, 4, 3, 2, 0], .keepO [500, 2002, 2005, 2012]] (ps := [(True), (0 = 0 * 1), ((1 = 1 ∧ 0 + 1 ≤ 2) ∧ (1 = 1 ∧ 1 + 1 ≤ 2) ∧ True), ((0 + 2 ≤ 2 ∧ 2 = 2))]) (e := .normal) (σ' := ⟨[2005, 2012, 2002, 500], [(5, V.ref 2005 0), (4, vi r11), (3, vi r9), (2, V.ref 2002 0), (0, V.ref 500 0)], [(500, oc 127 [ty r11b, ti r11c, T.int .u64 r11d]), (2002, oc 82 [T.nils, ti 0]), (2005, ov 82 [vo 2012 0, vi r9]), (2012, oc 3 [])]⟩) (by kernel_rfl) ⟨trivial, by decide, ⟨⟨by decide, by decide⟩, ⟨by decide, by decide⟩, trivial⟩, by decide, trivial⟩ ?_
  obtain ⟨J1, hJ1, h⟩ := jn_some h
  refine WP.joinA (fun (zz : (List Int) × Int × Int × (List Int)) => ⟨[500, 2002, 2005, 2012], [(5, V.ref 2005 0), (4, vi r11), (3, vi r9), (2, V.ref 2002 0), (0, V.ref 500 0)], [(500, oc 127 [ty zz.1, ti zz.2.1, T.int .u64 zz.2.2.1]), (2002, oc 82 [T.nils, ti 0]), (2005, ov 82 [vo 2012 (List.length zz.2.2.2), vi r9]), (2012, oc 3 (List.map (T.int .i64) zz.2.2.2))]⟩) (fun zz => J1 zz.1 zz.2.1 zz.2.2.1 zz.2.2.2 = some (y0, y1, y2, y3, y4)) ?_ ?_
  · -- to where they meet
    refine WP.seq ?_
    refine WP.path tab_ok mixed [] [.keep [6, 5, 4, 3, 2, 0], .keepO [500, 2002, 2005, 2012]] (ps := []) (e := .normal) (σ' := ⟨[2005, 2012, 2002, 500], [(6, vi 0), (5, V.ref 2005 0), (4, vi r11), (3, vi r9), (2, V.ref 2002 0), (0, V.ref 500 0)], [(500, oc 127 [ty r11b, ti r11c, T.int .u64 r11d]), (2002, oc 82 [T.nils, ti 0]), (2005, ov 82 [vo 2012 0, vi r9]), (2012, oc 3 [])]⟩) (by kernel_rfl) trivial ?_
    refine WP.block ?_
    refine WP.wk [.keep [6, 5, 4, 3, 2, 0], .keepO [500, 2002, 2005, 2012], .names [(500, 500), (2002, 2002), (2005, 2005), (2012, 2012)]] (σ' := ⟨[500, 2002, 2005, 2012], [(6, vi 0), (5, V.ref 2005 0), (4, vi r11), (3, vi r9), (2, V.ref 2002 0), (0, V.ref 500 0)], [(500, oc 127 [ty r11b, ti r11c, T.int .u64 r11d]), (2002, oc 82 [T.nils, ti 0]), (2005, ov 82 [vo 2012 0, vi r9]), (2012, oc 3 [])]⟩) (ps := []) (by kernel_rfl) trivial ?_
    refine WP.st (σ' := ⟨[500, 2002, 2005, 2012], [(6, vi (0 : Int)), (5, V.ref 2005 0), (4, vi r11), (3, vi r9), (2, V.ref 2002 0), (0, V.ref 500 0)], [(500, oc 127 [ty r11b, ti r11c, T.int .u64 r11d]), (2002, oc 82 [T.nils, ti 0]), (2005, ov 82 [vo 2012 (List.length ([] : List Int)), vi r9]), (2012, oc 3 (List.map (T.int .i64) ([] : List Int)))]⟩) (by first | rfl | (simp only [tlS, tl, vl, vo, oc, ov, tbl, vbl, ty, vy] <;> rfl) | (simp <;> omega) | (simp []; done) | (rw [List.take_of_length_le (by simp [])] <;> rfl) | (simp [List.take_of_length_le]; done)) ?_
    refine WP.loop (α := Nat × (List Int) × Int × Int × (List Int) × Int) (fun zz => ⟨[500, 2002, 2005, 2012], [(6, vi zz.2.2.2.2.2), (5, V.ref 2005 0), (4, vi r11), (3, vi r9), (2, V.ref 2002 0), (0, V.ref 500 0)], [(500, oc 127 [ty zz.2.1, ti zz.2.2.1, T.int .u64 zz.2.2.2.1]), (2002, oc 82 [T.nils, ti 0]), (2005, ov 82 [vo 2012 (List.length zz.2.2.2.2.1), vi r9]), (2012, oc 3 (List.map (T.int .i64) zz.2.2.2.2.1))]⟩) (fun zz => F_p_spec_l1Cur_state_L1 r9 r11 J1 zz.1 zz.2.1 zz.2.2.1 zz.2.2.2.1 zz.2.2.2.2.1 zz.2.2.2.2.2 = some (y0, y1, y2, y3, y4)) (fun zz => zz.1) (fuel, r11b, r11c, r11d, ([] : List Int), (0 : Int)) h ?_
    rintro ⟨n, o500, o500b, o500c, o12, v6⟩ h0
    have h := (show F_p_spec_l1Cur_state_L1 r9 r11 J1 n o500 o500b o500c o12 v6 = some (y0, y1, y2, y3, y4) from h0)
    rcases n with _ | n
    · rw [F_p_spec_l1Cur_state_L1] at h; cases h
    · rw [F_p_spec_l1Cur_state_L1] at h
      refine WP.seq ?_
      refine WP.seq ?_
      refine WP.path tab_ok mixed [] [.keep [17, 6, 5, 4, 3, 2, 0], .keepO [500, 2002, 2005, 2012]] (ps := [(True)]) (e := .normal) (σ' := ⟨[500, 2002, 2005, 2012], [(17, vb (decide (v6 < r11))), (6, vi v6), (5, V.ref 2005 0), (4, vi r11), (3, vi r9), (2, V.ref 2002 0), (0, V.ref 500 0)], [(500, oc 127 [ty o500, ti o500b, T.int .u64 o500c]), (2002, oc 82 [T.nils, ti 0]), (2005, ov 82 [vo 2012 (List.length o12), vi r9]), (2012, oc 3 (List.map (T.int .i64) o12))]⟩) (by kernel_rfl) ⟨trivial, trivial⟩ ?_
      rcases ite_some h with ⟨h1, h⟩ | ⟨h1, h⟩
      · -- yes
        refine WP.cond (b := decide (v6 < r11)) rfl (fun _ => ?_) (fun hh => by rw [h1] at hh; cases hh)
        refine WP.path tab_ok mixed [] [.keep [6, 5, 4, 3, 2, 0], .keepO [500, 2002, 2005, 2012]] (ps := []) (e := .normal) (σ' := ⟨[500, 2002, 2005, 2012], [(6, vi v6), (5, V.ref 2005 0), (4, vi r11), (3, vi r9), (2, V.ref 2002 0), (0, V.ref 500 0)], [(500, oc 127 [ty o500, ti o500b, T.int .u64 o500c]), (2002, oc 82 [T.nils, ti 0]), (2005, ov 82 [vo 2012 (List.length o12), vi r9]), (2012, oc 3 (List.map (T.int .i64) o12))]⟩) (by kernel_rfl) trivial ?_
        refine WP.seq ?_
        refine WP.block ?_
        obtain ⟨c2, h⟩ := chk_some h
        obtain ⟨r26, r26b, r26c, r26d, c3, h⟩ := bnd4_some h
        obtain ⟨r28, r28b, r28c, r28d, c4, h⟩ := bnd4_some h
        obtain ⟨c5, h⟩ := chk_some h
        obtain ⟨c6, h⟩ := chk_some h
        obtain ⟨c7, h⟩ := chk_some h
        refine WP.path tab_ok mixed [(24, An.v (T.int .i64 (r9 + (2 : Int)))), (25, An.call (ti (maxN (1 : Int) (r9 + (2 : Int))))), (26, An.callG [(500, 500)] [V.ref 500 0, vi (maxN (1 : Int) (r9 + (2 : Int)))] [(500, oc 127 [ty o500, ti o500b, T.int .u64 o500c])] (vi r26) [(500, oc 127 [ty r26b, ti r26c, T.int .u64 r26d])]), (28, An.callG [(500, 500)] [V.ref 500 0, vi 6] [(500, oc 127 [ty r26b, ti r26c, T.int .u64 r26d])] (vi r28) [(500, oc 127 [ty r28b, ti r28c, T.int .u64 r28d])]), (29, An.v (T.int .i64 (Int.tdiv r28 (5 : Int)))), (30, An.v (T.int .i64 (r26 - (Int.tdiv r28 (5 : Int))))), (31, An.fz), (32, An.id 2032)] [.keep [6, 5, 4, 3, 2, 0], .keepO [500, 2002, 2005, 2032]] (ps := [(True), (True), (T.int .i64 (IntKind.wrap .i64 (r9 + (2 : Int))) = T.int .i64 (r9 + (2 : Int))), (C Tryd.prog 129 [ti 1, ti (r9 + (2 : Int))] (ti (maxN (1 : Int) (r9 + (2 : Int))))), (CG Tryd.prog 99 [V.ref 500 0, vi (maxN (1 : Int) (r9 + (2 : Int)))] [(500, oc 127 [ty o500, ti o500b, T.int .u64 o500c])] (vi r26) [(500, oc 127 [ty r26b, ti r26c, T.int .u64 r26d])]), ((V.ref 500 0).ren (renF [(500, 500)]) = V.ref 500 0), (WkT (ti (maxN (1 : Int) (r9 + (2 : Int)))) (ti (maxN (1 : Int) (r9 + (2 : Int))))), ((oc 127 [ty o500, ti o500b, T.int .u64 o500c]) = (oc 127 [ty o500, ti o500b, T.int .u64 o500c]).ren (renF [(500, 500)])), (CG Tryd.prog 99 [V.ref 500 0, vi 6] [(500, oc 127 [ty r26b, ti r26c, T.int .u64 r26d])] (vi r28) [(500, oc 127 [ty r28b, ti r28c, T.int .u64 r28d])]), ((V.ref 500 0).ren (renF [(500, 500)]) = V.ref 500 0), (WkT (ti 6) (ti 6)), ((oc 127 [ty r26b, ti r26c, T.int .u64 r26d]) = (oc 127 [ty r26b, ti r26c, T.int .u64 r26d]).ren (renF [(500, 500)])), ((5 : Int) ≠ 0), (T.int .i64 (IntKind.wrap .i64 (Int.tdiv r28 (5 : Int))) = T.int .i64 (Int.tdiv r28 (5 : Int))), (True), (T.int .i64 (IntKind.wrap .i64 (r26 - (Int.tdiv r28 (5 : Int)))) = T.int .i64 (r26 - (Int.tdiv r28 (5 : Int)))), ((1 = 1 ∧ 0 + 1 ≤ 1) ∧ True), (1 = 1 * 1), (True), (List.length (List.map (T.int .i64) o12) = (List.length o12) * 1), ((((List.length o12) + 1) * 8 ≤ 140737488355328 ∧ (List.length o12) + 1 ≤ maxLen)), (0 < 2)]) (e := .normal) (σ' := ⟨[2032, 500, 2002, 2005, 2012], [(6, vi v6), (5, V.ref 2005 0), (4, vi r11), (3, vi r9), (2, V.ref 2002 0), (0, V.ref 500 0)], [(500, oc 127 [ty r28b, ti r28c, T.int .u64 r28d]), (2002, oc 82 [T.nils, ti 0]), (2005, ov 82 [vo 2032 ((List.length o12) + 1), vi r9]), (2032, oc 3 ((List.map (T.int .i64) o12) ++ [ti (r26 - (Int.tdiv r28 (5 : Int)))]))]⟩) (by kernel_rfl) ⟨trivial, trivial, wrapI c2, (by have hh := (l1Most_C (1 : Int) (r9 + (2 : Int))); first | exact hh | simpa using hh), (F_p_spec_l1Cur_pick_W o500 o500b o500c (maxN (1 : Int) (r9 + (2 : Int))) r26 r26b r26c r26d c3), by first | rfl | (simp [V.ren, V.renL, renF, lk]; done) | (simp [V.ren, V.renL, renF, lk]; omega), WkT.refl _, by first | rfl | (simp only [tlS]; rfl) | (simp [Tl.Obj.ren, V.ren, V.renL, renF, lk]; done), (F_p_spec_l1Cur_pick_W r26b r26c r26d (6 : Int) r28 r28b r28c r28d c4), by first | rfl | (simp [V.ren, V.renL, renF, lk]; done) | (simp [V.ren, V.renL, renF, lk]; omega), WkT.refl _, by first | rfl | (simp only [tlS]; rfl) | (simp [Tl.Obj.ren, V.ren, V.renL, renF, lk]; done), (show (5 : Int) ≠ 0 by first | decide | (simp only [maxLen]; omega) | (unfold I64; omega) | (unfold I64; decide)), quo_told c5, trivial, wrapI c6, ⟨⟨by first | rfl | (simp; done) | (simp []; done) | omega, by first | decide | (simp; done) | (simp []; done) | omega | (simp only [tlL]; omega) | (simp; omega)⟩, trivial⟩, by decide, trivial, by first | rfl | omega | (simp only [tlL] <;> omega) | (simp <;> omega) | (simp [] <;> omega), c7, by decide, trivial⟩ ?_
        obtain ⟨c8, h⟩ := chk_some h
        refine WP.path tab_ok mixed [(19, An.v (T.int .i64 (v6 + (1 : Int))))] [.keep [6, 5, 4, 3, 2, 0], .keepO [500, 2002, 2005, 2032], .names [(500, 500), (2002, 2002), (2005, 2005), (2032, 2012)]] (ps := [(True), (T.int .i64 (IntKind.wrap .i64 (v6 + (1 : Int))) = T.int .i64 (v6 + (1 : Int)))]) (e := .normal) (σ' := ⟨[500, 2002, 2005, 2012], [(6, vi (v6 + (1 : Int))), (5, V.ref 2005 0), (4, vi r11), (3, vi r9), (2, V.ref 2002 0), (0, V.ref 500 0)], [(500, oc 127 [ty r28b, ti r28c, T.int .u64 r28d]), (2002, oc 82 [T.nils, ti 0]), (2005, ov 82 [vo 2012 ((List.length o12) + 1), vi r9]), (2012, oc 3 ((List.map (T.int .i64) o12) ++ [ti (r26 - (Int.tdiv r28 (5 : Int)))]))]⟩) (by kernel_rfl) ⟨trivial, wrapI c8, trivial⟩ ?_
        exact ⟨(n, r28b, r28c, r28d, o12 ++ [(r26 - (Int.tdiv r28 (5 : Int)))], (v6 + (1 : Int))), h, Nat.lt_succ_self _, (by first | rfl | (simp only [tlS, tl, vl, vo, oc, ov, tbl, vbl, ty, vy] <;> rfl) | (simp <;> omega) | (simp []; done) | (rw [List.take_of_length_le (by simp [])] <;> rfl) | (simp [List.take_of_length_le]; done))⟩
      · -- no
        refine WP.cond (b := decide (v6 < r11)) rfl (fun hh => by rw [h1] at hh; cases hh) (fun _ => ?_)
        refine WP.path tab_ok mixed [] [.keep [5, 4, 3, 2, 0], .keepO [500, 2002, 2005, 2012], .names [(500, 500), (2002, 2002), (2005, 2005), (2012, 2012)]] (ps := []) (e := (.exit 0)) (σ' := ⟨[500, 2002, 2005, 2012], [(5, V.ref 2005 0), (4, vi r11), (3, vi r9), (2, V.ref 2002 0), (0, V.ref 500 0)], [(500, oc 127 [ty o500, ti o500b, T.int .u64 o500c]), (2002, oc 82 [T.nils, ti 0]), (2005, ov 82 [vo 2012 (List.length o12), vi r9]), (2012, oc 3 (List.map (T.int .i64) o12))]⟩) (by kernel_rfl) trivial ?_
        exact ⟨(o500, o500b, o500c, o12), h, rfl⟩
  · -- from there
    rintro ⟨o500, o500b, o500c, o12⟩ h0
    have h := (show J1 o500 o500b o500c o12 = some (y0, y1, y2, y3, y4) from h0)
    rw [hJ1] at h
    obtain ⟨J1, hJ1, h⟩ := jn_some h
    refine WP.joinA (fun (zz : (List Int) × Int × Int × (List Int)) => ⟨[500, 2002, 2005, 2012], [(5, V.ref 2005 0), (2, V.ref 2002 0)], [(500, oc 127 [ty zz.1, ti zz.2.1, T.int .u64 zz.2.2.1]), (2002, oc 82 [T.nils, ti 0]), (2005, ov 82 [vo 2012 (List.length zz.2.2.2), vi r9]), (2012, oc 3 (List.map (T.int .i64) zz.2.2.2))]⟩) (fun zz => J1 zz.1 zz.2.1 zz.2.2.1 zz.2.2.2 = some (y0, y1, y2, y3, y4)) ?_ ?_
    · -- to where they meet
      refine WP.seq ?_
      refine WP.path tab_ok mixed [] [.keep [7, 5, 4, 3, 2, 0], .keepO [500, 2002, 2005, 2012]] (ps := []) (e := .normal) (σ' := ⟨[500, 2002, 2005, 2012], [(7, vi 0), (5, V.ref 2005 0), (4, vi r11), (3, vi r9), (2, V.ref 2002 0), (0, V.ref 500 0)], [(500, oc 127 [ty o500, ti o500b, T.int .u64 o500c]), (2002, oc 82 [T.nils, ti 0]), (2005, ov 82 [vo 2012 (List.length o12), vi r9]), (2012, oc 3 (List.map (T.int .i64) o12))]⟩) (by kernel_rfl) trivial ?_
      refine WP.block ?_
      refine WP.wk [.keep [7, 5, 4, 3, 2, 0], .keepO [500, 2002, 2005, 2012], .names [(500, 500), (2002, 2002), (2005, 2005), (2012, 2012)]] (σ' := ⟨[500, 2002, 2005, 2012], [(7, vi 0), (5, V.ref 2005 0), (4, vi r11), (3, vi r9), (2, V.ref 2002 0), (0, V.ref 500 0)], [(500, oc 127 [ty o500, ti o500b, T.int .u64 o500c]), (2002, oc 82 [T.nils, ti 0]), (2005, ov 82 [vo 2012 (List.length o12), vi r9]), (2012, oc 3 (List.map (T.int .i64) o12))]⟩) (ps := []) (by kernel_rfl) trivial ?_
      refine WP.st (σ' := ⟨[500, 2002, 2005, 2012], [(7, vi (0 : Int)), (5, V.ref 2005 0), (4, vi r11), (3, vi r9), (2, V.ref 2002 0), (0, V.ref 500 0)], [(500, oc 127 [ty o500, ti o500b, T.int .u64 o500c]), (2002, oc 82 [T.nils, ti 0]), (2005, ov 82 [vo 2012 (List.length o12), vi r9]), (2012, oc 3 (List.map (T.int .i64) o12))]⟩) (by first | rfl | (simp only [tlS, tl, vl, vo, oc, ov, tbl, vbl, ty, vy] <;> rfl) | (simp <;> omega) | (simp []; done) | (rw [List.take_of_length_le (by simp [])] <;> rfl) | (simp [List.take_of_length_le]; done)) ?_
      refine WP.loop (α := Nat × (List Int) × Int × Int × (List Int) × Int) (fun zz => ⟨[500, 2002, 2005, 2012], [(7, vi zz.2.2.2.2.2), (5, V.ref 2005 0), (4, vi r11), (3, vi r9), (2, V.ref 2002 0), (0, V.ref 500 0)], [(500, oc 127 [ty zz.2.1, ti zz.2.2.1, T.int .u64 zz.2.2.2.1]), (2002, oc 82 [T.nils, ti 0]), (2005, ov 82 [vo 2012 (List.length zz.2.2.2.2.1), vi r9]), (2012, oc 3 (List.map (T.int .i64) zz.2.2.2.2.1))]⟩) (fun zz => F_p_spec_l1Cur_state_L2 r9 r11 J1 zz.1 zz.2.1 zz.2.2.1 zz.2.2.2.1 zz.2.2.2.2.1 zz.2.2.2.2.2 = some (y0, y1, y2, y3, y4)) (fun zz => zz.1) (fuel, o500, o500b, o500c, o12, (0 : Int)) h ?_
      rintro ⟨n, o500d, o500e, o500g, o12b, v7⟩ h0
      have h := (show F_p_spec_l1Cur_state_L2 r9 r11 J1 n o500d o500e o500g o12b v7 = some (y0, y1, y2, y3, y4) from h0)
      rcases n with _ | n
      · rw [F_p_spec_l1Cur_state_L2] at h; cases h
      · rw [F_p_spec_l1Cur_state_L2] at h
        refine WP.seq ?_
        refine WP.seq ?_
        refine WP.path tab_ok mixed [] [.keep [36, 7, 5, 4, 3, 2, 0], .keepO [500, 2002, 2005, 2012]] (ps := [(True)]) (e := .normal) (σ' := ⟨[500, 2002, 2005, 2012], [(36, vb (decide (v7 < r11))), (7, vi v7), (5, V.ref 2005 0), (4, vi r11), (3, vi r9), (2, V.ref 2002 0), (0, V.ref 500 0)], [(500, oc 127 [ty o500d, ti o500e, T.int .u64 o500g]), (2002, oc 82 [T.nils, ti 0]), (2005, ov 82 [vo 2012 (List.length o12b), vi r9]), (2012, oc 3 (List.map (T.int .i64) o12b))]⟩) (by kernel_rfl) ⟨trivial, trivial⟩ ?_
        rcases ite_some h with ⟨h2, h⟩ | ⟨h2, h⟩
        · -- yes
          refine WP.cond (b := decide (v7 < r11)) rfl (fun _ => ?_) (fun hh => by rw [h2] at hh; cases hh)
          refine WP.path tab_ok mixed [] [.keep [7, 5, 4, 3, 2, 0], .keepO [500, 2002, 2005, 2012]] (ps := []) (e := .normal) (σ' := ⟨[500, 2002, 2005, 2012], [(7, vi v7), (5, V.ref 2005 0), (4, vi r11), (3, vi r9), (2, V.ref 2002 0), (0, V.ref 500 0)], [(500, oc 127 [ty o500d, ti o500e, T.int .u64 o500g]), (2002, oc 82 [T.nils, ti 0]), (2005, ov 82 [vo 2012 (List.length o12b), vi r9]), (2012, oc 3 (List.map (T.int .i64) o12b))]⟩) (by kernel_rfl) trivial ?_
          refine WP.seq ?_
          refine WP.block ?_
          obtain ⟨J2, hJ2, h⟩ := jn_some h
          refine WP.joinA (fun (zz : (List Int) × Int × Int × Bool) => ⟨[500, 2002, 2005, 2012], [(50, vb zz.2.2.2), (7, vi v7), (5, V.ref 2005 0), (4, vi r11), (3, vi r9), (2, V.ref 2002 0), (0, V.ref 500 0)], [(500, oc 127 [ty zz.1, ti zz.2.1, T.int .u64 zz.2.2.1]), (2002, oc 82 [T.nils, ti 0]), (2005, ov 82 [vo 2012 (List.length o12b), vi r9]), (2012, oc 3 (List.map (T.int .i64) o12b))]⟩) (fun zz => J2 zz.1 zz.2.1 zz.2.2.1 zz.2.2.2 = some (y0, y1, y2, y3, y4)) ?_ ?_
          · -- to where they meet
            obtain ⟨c2, h⟩ := chk_some h
            rcases ite_some h with ⟨h3, h⟩ | ⟨h3, h⟩
            · -- yes
              obtain ⟨r48, r48b, r48c, r48d, c3, h⟩ := bnd4_some h
              refine WP.path tab_ok mixed [(43, An.v (ti (List.getD o12b (Int.toNat v7) 0))), (45, An.b true), (48, An.callG [(500, 500)] [V.ref 500 0, vi 30] [(500, oc 127 [ty o500d, ti o500e, T.int .u64 o500g])] (vb r48) [(500, oc 127 [ty r48b, ti r48c, T.int .u64 r48d])])] [.keep [50, 7, 5, 4, 3, 2, 0], .keepO [500, 2002, 2005, 2012], .names [(500, 500), (2002, 2002), (2005, 2005), (2012, 2012)]] (ps := [(True), ((0 ≤ v7 ∧ v7 < ((List.length o12b : Nat) : Int))), ((List.map (T.int .i64) o12b : List T)[(Int.toNat v7) * 1]? = some (ti (List.getD o12b (Int.toNat v7) 0))), (ti (List.getD o12b (Int.toNat v7) 0) = ti (List.getD o12b (Int.toNat v7) 0)), (True), ((decide ((List.getD o12b (Int.toNat v7) 0) > r9)) = true), (CG Tryd.prog 98 [V.ref 500 0, vi 30] [(500, oc 127 [ty o500d, ti o500e, T.int .u64 o500g])] (vb r48) [(500, oc 127 [ty r48b, ti r48c, T.int .u64 r48d])]), ((V.ref 500 0).ren (renF [(500, 500)]) = V.ref 500 0), (WkT (ti 30) (ti 30)), ((oc 127 [ty o500d, ti o500e, T.int .u64 o500g]) = (oc 127 [ty o500d, ti o500e, T.int .u64 o500g]).ren (renF [(500, 500)]))]) (e := .normal) (σ' := ⟨[500, 2002, 2005, 2012], [(50, vb (!r48)), (7, vi v7), (5, V.ref 2005 0), (4, vi r11), (3, vi r9), (2, V.ref 2002 0), (0, V.ref 500 0)], [(500, oc 127 [ty r48b, ti r48c, T.int .u64 r48d]), (2002, oc 82 [T.nils, ti 0]), (2005, ov 82 [vo 2012 (List.length o12b), vi r9]), (2012, oc 3 (List.map (T.int .i64) o12b))]⟩) (by kernel_rfl) ⟨trivial, c2, atM (by simp) (by first | omega | (simp only [tlL]; omega) | (simp; omega)), rfl, trivial, h3, (F_p_spec_l1Cur_one_W o500d o500e o500g (30 : Int) r48 r48b r48c r48d c3), by first | rfl | (simp [V.ren, V.renL, renF, lk]; done) | (simp [V.ren, V.renL, renF, lk]; omega), WkT.refl _, by first | rfl | (simp only [tlS]; rfl) | (simp [Tl.Obj.ren, V.ren, V.renL, renF, lk]; done), trivial⟩ ?_
              exact ⟨(r48b, r48c, r48d, !r48), h, rfl⟩
            · -- no
              refine WP.path tab_ok mixed [(43, An.v (ti (List.getD o12b (Int.toNat v7) 0))), (45, An.b false)] [.keep [50, 7, 5, 4, 3, 2, 0], .keepO [500, 2002, 2005, 2012], .names [(500, 500), (2002, 2002), (2005, 2005), (2012, 2012)]] (ps := [(True), ((0 ≤ v7 ∧ v7 < ((List.length o12b : Nat) : Int))), ((List.map (T.int .i64) o12b : List T)[(Int.toNat v7) * 1]? = some (ti (List.getD o12b (Int.toNat v7) 0))), (ti (List.getD o12b (Int.toNat v7) 0) = ti (List.getD o12b (Int.toNat v7) 0)), (True), ((decide ((List.getD o12b (Int.toNat v7) 0) > r9)) = false)]) (e := .normal) (σ' := ⟨[500, 2002, 2005, 2012], [(50, vb false), (7, vi v7), (5, V.ref 2005 0), (4, vi r11), (3, vi r9), (2, V.ref 2002 0), (0, V.ref 500 0)], [(500, oc 127 [ty o500d, ti o500e, T.int .u64 o500g]), (2002, oc 82 [T.nils, ti 0]), (2005, ov 82 [vo 2012 (List.length o12b), vi r9]), (2012, oc 3 (List.map (T.int .i64) o12b))]⟩) (by kernel_rfl) ⟨trivial, c2, atM (by simp) (by first | omega | (simp only [tlL]; omega) | (simp; omega)), rfl, trivial, h3, trivial⟩ ?_
              exact ⟨(o500d, o500e, o500g, false), h, rfl⟩
          · -- from there
            rintro ⟨o500i, o500j, o500k, v50⟩ h0
            have h := (show J2 o500i o500j o500k v50 = some (y0, y1, y2, y3, y4) from h0)
            rw [hJ2] at h
            rcases ite_some h with ⟨h4, h⟩ | ⟨h4, h⟩
            · -- yes
              refine WP.cond (b := v50) rfl (fun _ => ?_) (fun hh => by rw [h4] at hh; cases hh)
              obtain ⟨c2, h⟩ := chk_some h
              refine WP.path tab_ok mixed [] [.keep [7, 5, 4, 3, 2, 0], .keepO [500, 2002, 2005, 2012]] (ps := [(True), ((0 ≤ v7 ∧ v7 < ((List.length o12b : Nat) : Int))), ((Int.toNat v7) * 1 < List.length (List.map (T.int .i64) o12b))]) (e := .normal) (σ' := ⟨[500, 2002, 2005, 2012], [(7, vi v7), (5, V.ref 2005 0), (4, vi r11), (3, vi r9), (2, V.ref 2002 0), (0, V.ref 500 0)], [(500, oc 127 [ty o500i, ti o500j, T.int .u64 o500k]), (2002, oc 82 [T.nils, ti 0]), (2005, ov 82 [vo 2012 (List.length o12b), vi r9]), (2012, oc 3 (List.set (List.map (T.int .i64) o12b) ((Int.toNat v7) * 1) (ti (-1))))]⟩) (by kernel_rfl) ⟨trivial, c2, by first | decide | omega | (simp only [tlL] <;> omega) | (simp <;> omega) | (simp [] <;> omega), trivial⟩ ?_
              obtain ⟨c3, h⟩ := chk_some h
              refine WP.path tab_ok mixed [(38, An.v (T.int .i64 (v7 + (1 : Int))))] [.keep [7, 5, 4, 3, 2, 0], .keepO [500, 2002, 2005, 2012], .names [(500, 500), (2002, 2002), (2005, 2005), (2012, 2012)]] (ps := [(True), (T.int .i64 (IntKind.wrap .i64 (v7 + (1 : Int))) = T.int .i64 (v7 + (1 : Int)))]) (e := .normal) (σ' := ⟨[500, 2002, 2005, 2012], [(7, vi (v7 + (1 : Int))), (5, V.ref 2005 0), (4, vi r11), (3, vi r9), (2, V.ref 2002 0), (0, V.ref 500 0)], [(500, oc 127 [ty o500i, ti o500j, T.int .u64 o500k]), (2002, oc 82 [T.nils, ti 0]), (2005, ov 82 [vo 2012 (List.length o12b), vi r9]), (2012, oc 3 (List.set (List.map (T.int .i64) o12b) ((Int.toNat v7) * 1) (ti (-1))))]⟩) (by kernel_rfl) ⟨trivial, wrapI c3, trivial⟩ ?_
              exact ⟨(n, o500i, o500j, o500k, List.set o12b (Int.toNat v7) (-1 : Int), (v7 + (1 : Int))), h, Nat.lt_succ_self _, (by first | rfl | (simp only [tlS, tl, vl, vo, oc, ov, tbl, vbl, ty, vy] <;> rfl) | (simp <;> omega) | (simp []; done) | (rw [List.take_of_length_le (by simp [])] <;> rfl) | (simp [List.take_of_length_le]; done))⟩
            · -- no
              refine WP.cond (b := v50) rfl (fun hh => by rw [h4] at hh; cases hh) (fun _ => ?_)
              refine WP.path tab_ok mixed [] [.keep [7, 5, 4, 3, 2, 0], .keepO [500, 2002, 2005, 2012]] (ps := []) (e := .normal) (σ' := ⟨[500, 2002, 2005, 2012], [(7, vi v7), (5, V.ref 2005 0), (4, vi r11), (3, vi r9), (2, V.ref 2002 0), (0, V.ref 500 0)], [(500, oc 127 [ty o500i, ti o500j, T.int .u64 o500k]), (2002, oc 82 [T.nils, ti 0]), (2005, ov 82 [vo 2012 (List.length o12b), vi r9]), (2012, oc 3 (List.map (T.int .i64) o12b))]⟩) (by kernel_rfl) trivial ?_
              obtain ⟨c2, h⟩ := chk_some h
              refine WP.path tab_ok mixed [(38, An.v (T.int .i64 (v7 + (1 : Int))))] [.keep [7, 5, 4, 3, 2, 0], .keepO [500, 2002, 2005, 2012], .names [(500, 500), (2002, 2002), (2005, 2005), (2012, 2012)]] (ps := [(True), (T.int .i64 (IntKind.wrap .i64 (v7 + (1 : Int))) = T.int .i64 (v7 + (1 : Int)))]) (e := .normal) (σ' := ⟨[500, 2002, 2005, 2012], [(7, vi (v7 + (1 : Int))), (5, V.ref 2005 0), (4, vi r11), (3, vi r9), (2, V.ref 2002 0), (0, V.ref 500 0)], [(500, oc 127 [ty o500i, ti o500j, T.int .u64 o500k]), (2002, oc 82 [T.nils, ti 0]), (2005, ov 82 [vo 2012 (List.length o12b), vi r9]), (2012, oc 3 (List.map (T.int .i64) o12b))]⟩) (by kernel_rfl) ⟨trivial, wrapI c2, trivial⟩ ?_
              exact ⟨(n, o500i, o500j, o500k, o12b, (v7 + (1 : Int))), h, Nat.lt_succ_self _, rfl⟩
        · -- no
          refine WP.cond (b := decide (v7 < r11)) rfl (fun hh => by rw [h2] at hh; cases hh) (fun _ => ?_)
          refine WP.path tab_ok mixed [] [.keep [5, 2], .keepO [500, 2002, 2005, 2012], .names [(500, 500), (2002, 2002), (2005, 2005), (2012, 2012)]] (ps := []) (e := (.exit 2)) (σ' := ⟨[500, 2002, 2005, 2012], [(5, V.ref 2005 0), (2, V.ref 2002 0)], [(500, oc 127 [ty o500d, ti o500e, T.int .u64 o500g]), (2002, oc 82 [T.nils, ti 0]), (2005, ov 82 [vo 2012 (List.length o12b), vi r9]), (2012, oc 3 (List.map (T.int .i64) o12b))]⟩) (by kernel_rfl) trivial ?_
          exact ⟨(o500d, o500e, o500g, o12b), h, rfl⟩
    · -- from there
      rintro ⟨o500d, o500e, o500g, o12b⟩ h0
      have h := (show J1 o500d o500e o500g o12b = some (y0, y1, y2, y3, y4) from h0)
      rw [hJ1] at h
      simp only [Option.some.injEq, Prod.mk.injEq] at h
      obtain ⟨rfl, rfl, rfl, rfl, rfl⟩ := h
      exact WP.pathG tab_ok mixed [] [.keep [2], .keepO [500, 2012, 2002], .names [(500, 500), (2012, 9000), (2002, 2002)]] [500, 9000] _ (r' := V.agg [vo 9000 (List.length o12b), vi r9]) (ps := [(0 + 2 ≤ 2), ((0 + 2 ≤ 2 ∧ 2 = 2)), (0 + 2 ≤ 2)]) (r := V.agg [vo 9000 (List.length o12b), vi r9]) (N := [500, 9000, 2002]) (O := [(500, oc 127 [ty o500d, ti o500e, T.int .u64 o500g]), (9000, oc 3 (List.map (T.int .i64) o12b))]) [] (by kernel_rfl) ⟨by decide, by decide, by decide, trivial⟩ ⟨rfl, (WkT.refl _), trivial⟩ rfl rfl (fun _ h => h)
theorem F_spec_DrawAnswerState_W (x0 : List Int) (y0 : List Int) (y1 : Int) (y2 : Int) (y3 : Bool) (h : F_spec_DrawAnswerState x0 = some (y0, y1, y2, y3)) : CG Tryd.prog 59 [vy x0] [] (V.tup [V.agg [vo 9000 (List.length y0), vi y1], V.t (T.agg [ti y2, tb y3])]) [(9000, oc 3 (List.map (T.int .i64) y0))] := by
  unfold F_spec_DrawAnswerState at h
  refine CG.intro (tab := tab) tab_ok (fn := Tryd.f59) Tryd.func59 (by kernel_rfl) rfl (Nat.le_of_ble_eq_true rfl) (by kernel_rfl) ?_
  obtain ⟨r11, r11b, r11c, r11d, r11e, c0, h⟩ := bnd5_some h
  obtain ⟨r13, r13b, r13c, r13d, c1, h⟩ := bnd4_some h
  obtain ⟨r19, r19b, r19c, r19d, c2, h⟩ := bnd4_some h
  simp only [Option.some.injEq, Prod.mk.injEq] at h
  obtain ⟨rfl, rfl, rfl, rfl⟩ := h
  exact WP.pathG tab_ok mixed [(2, An.id 2002), (3, An.id 2003), (9, An.id 2009), (11, An.callG [(500, 2009), (9000, 10110)] [V.ref 500 0] [(500, oc 127 [ty x0, ti 0, T.int .u64 0])] (V.agg [vo 9000 (List.length r11), vi r11b]) [(500, oc 127 [ty r11c, ti r11d, T.int .u64 r11e]), (9000, oc 3 (List.map (T.int .i64) r11))]), (5, An.id 2005), (13, An.callG [(500, 2009)] [V.ref 500 0, vi 2] [(500, oc 127 [ty r11c, ti r11d, T.int .u64 r11e])] (vb r13) [(500, oc 127 [ty r13b, ti r13c, T.int .u64 r13d])]), (19, An.callG [(500, 2009)] [V.ref 500 0, vi ((List.length r11 : Nat) : Int)] [(500, oc 127 [ty r13b, ti r13c, T.int .u64 r13d])] (vi r19) [(500, oc 127 [ty r19b, ti r19c, T.int .u64 r19d])])] [.keep [2, 3], .keepO [10110, 2002, 2003], .names [(10110, 9000), (2002, 2002), (2003, 2003)]] [9000] _ (r' := V.tup [V.agg [vo 9000 (List.length r11), vi r11b], V.t (T.agg [ti r19, tb r13])]) (ps := [((1 = 1 ∧ 0 + 1 ≤ 3) ∧ True), (CG Tryd.prog 116 [V.ref 500 0] [(500, oc 127 [ty x0, ti 0, T.int .u64 0])] (V.agg [vo 9000 (List.length r11), vi r11b]) [(500, oc 127 [ty r11c, ti r11d, T.int .u64 r11e]), (9000, oc 3 (List.map (T.int .i64) r11))]), ((V.ref 500 0).ren (renF [(500, 2009), (9000, 10110)]) = V.ref 2009 0), ((oc 127 [ty x0, ti 0, T.int .u64 0]) = (oc 127 [ty x0, ti 0, T.int .u64 0]).ren (renF [(500, 2009), (9000, 10110)])), ((0 + 2 ≤ 2 ∧ 2 = 2)), (CG Tryd.prog 98 [V.ref 500 0, vi 2] [(500, oc 127 [ty r11c, ti r11d, T.int .u64 r11e])] (vb r13) [(500, oc 127 [ty r13b, ti r13c, T.int .u64 r13d])]), ((V.ref 500 0).ren (renF [(500, 2009)]) = V.ref 2009 0), (WkT (ti 2) (ti 2)), ((oc 127 [ty r11c, ti r11d, T.int .u64 r11e]) = (oc 127 [ty r11c, ti r11d, T.int .u64 r11e]).ren (renF [(500, 2009)])), (0 + 2 ≤ 2), (True), (CG Tryd.prog 117 [V.ref 500 0, vi ((List.length r11 : Nat) : Int)] [(500, oc 127 [ty r13b, ti r13c, T.int .u64 r13d])] (vi r19) [(500, oc 127 [ty r19b, ti r19c, T.int .u64 r19d])]), ((V.ref 500 0).ren (renF [(500, 2009)]) = V.ref 2009 0), (WkT (ti ((List.length r11 : Nat) : Int)) (ti ((List.length r11 : Nat) : Int))), ((oc 127 [ty r13b, ti r13c, T.int .u64 r13d]) = (oc 127 [ty r13b, ti r13c, T.int .u64 r13d]).ren (renF [(500, 2009)])), ((1 = 1 ∧ 0 + 1 ≤ 2) ∧ (1 = 1 ∧ 1 + 1 ≤ 2) ∧ True), ((0 + 2 ≤ 2 ∧ 2 = 2)), ((0 + 2 ≤ 2 ∧ 2 = 2)), (0 + 2 ≤ 2), (0 + 2 ≤ 2)]) (r := V.tup [V.agg [vo 9000 (List.length r11), vi r11b], V.t (T.agg [ti r19, tb r13])]) (N := [9000, 2002, 2003]) (O := [(9000, oc 3 (List.map (T.int .i64) r11))]) [] (by kernel_rfl) ⟨⟨⟨by first | rfl | (simp; done) | (simp []; done) | omega, by first | decide | (simp; done) | (simp []; done) | omega | (simp only [tlL]; omega) | (simp; omega)⟩, trivial⟩, (F_p_spec_l1Cur_state_W x0 (0 : Int) (0 : Int) r11 r11b r11c r11d r11e c0), by first | rfl | (simp [V.ren, V.renL, renF, lk]; done) | (simp [V.ren, V.renL, renF, lk]; omega), by first | rfl | (simp only [tlS]; rfl) | (simp [Tl.Obj.ren, V.ren, V.renL, renF, lk]; done), by decide, (F_p_spec_l1Cur_one_W r11c r11d r11e (2 : Int) r13 r13b r13c r13d c1), by first | rfl | (simp [V.ren, V.renL, renF, lk]; done) | (simp [V.ren, V.renL, renF, lk]; omega), WkT.refl _, by first | rfl | (simp only [tlS]; rfl) | (simp [Tl.Obj.ren, V.ren, V.renL, renF, lk]; done), by decide, trivial, (F_p_spec_l1Cur_question_W r13b r13c r13d ((List.length r11 : Nat) : Int) r19 r19b r19c r19d c2), by first | rfl | (simp [V.ren, V.renL, renF, lk]; done) | (simp [V.ren, V.renL, renF, lk]; omega), WkT.refl _, by first | rfl | (simp only [tlS]; rfl) | (simp [Tl.Obj.ren, V.ren, V.renL, renF, lk]; done), ⟨⟨by first | rfl | (simp; done) | (simp []; done) | omega, by first | decide | (simp; done) | (simp []; done) | omega | (simp only [tlL]; omega) | (simp; omega)⟩, ⟨by first | rfl | (simp; done) | (simp []; done) | omega, by first | decide | (simp; done) | (simp []; done) | omega | (simp only [tlL]; omega) | (simp; omega)⟩, trivial⟩, by decide, by decide, by decide, by first | decide | omega | (simp only [tlL] <;> omega) | (simp <;> omega) | (simp [] <;> omega), trivial⟩ ⟨rfl, (WkT.refl _), (WkT.refl _), trivial⟩ rfl rfl (fun _ h => h)
theorem F_spec_DrawAnswerState_W_C (x0 : List Int) (y0 : List Int) (y1 : Int) (y2 : Int) (y3 : Bool) (h : F_spec_DrawAnswerState x0 = some (y0, y1, y2, y3)) : C Tryd.prog 59 [ty x0] (T.tup [T.agg [tl y0, ti y1], T.agg [ti y2, tb y3]]) :=
  CG.toC (ps := [(List.length (List.map (T.int .i64) y0) = (List.length y0) * 1)]) (F_spec_DrawAnswerState_W  x0 y0 y1 y2 y3 h) (by rfl) ⟨by first | rfl | omega | (simp <;> omega) | (simp [hl] <;> omega), trivial⟩
theorem F_spec_AnswerState_W (x0 : List Int) (x1 : Int) (x2 : Int) (x3 : Bool) (y0 : List Int) (y1 : Int) (y2 : Bool) (h : F_spec_AnswerState x0 x1 x2 x3 = some (y0, y1, y2)) : CG Tryd.prog 61 [V.t (T.agg [tl x0, ti x1]), V.t (T.agg [ti x2, tb x3])] [] (V.tup [V.agg [vo 9000 (List.length y0), vi y1], vb y2]) [(9000, oc 3 (List.map (T.int .i64) y0))] := by
  unfold F_spec_AnswerState at h
  refine CG.intro (tab := tab) tab_ok (fn := Tryd.f61) Tryd.func61 (by kernel_rfl) rfl (Nat.le_of_ble_eq_true rfl) (by kernel_rfl) ?_
  refine WP.seq ?_
  refine WP.path tab_ok mixed [(2, An.fz), (3, An.fz), (4, An.id 2004)] [.keep [5, 4, 3, 2], .keepO [2004]] (ps := []) (e := .normal) (σ' := ⟨[2004], [(5, vb false), (4, V.ref 2004 0), (3, V.t (T.ptr [ti x2, tb x3])), (2, V.t (T.ptr [tl x0, ti x1]))], [(2004, oc 82 [T.nils, ti 0])]⟩) (by kernel_rfl) trivial ?_
  refine WP.seq ?_
  obtain ⟨J1, hJ1, h⟩ := jn_some h
  refine WP.joinA (fun (zz : Bool) => ⟨[2004], [(15, vb zz), (5, vb false), (4, V.ref 2004 0), (3, V.t (T.ptr [ti x2, tb x3])), (2, V.t (T.ptr [tl x0, ti x1]))], [(2004, oc 82 [T.nils, ti 0])]⟩) (fun zz => J1 zz = some (y0, y1, y2)) ?_ ?_
  · -- to where they meet
    obtain ⟨c0, h⟩ := chk_some h
    rcases ite_some h with ⟨h1, h⟩ | ⟨h1, h⟩
    · -- yes
      refine WP.path tab_ok mixed [(7, An.call (tb (isStateN x0 x1))), (9, An.b true)] [.keep [15, 5, 4, 3, 2], .keepO [2004], .names [(2004, 2004)]] (ps := [(2 ≤ 2), (C Tryd.prog 119 [T.agg [tl x0, ti x1]] (tb (isStateN x0 x1))), ((!(isStateN x0 x1)) = true)]) (e := .normal) (σ' := ⟨[2004], [(15, vb true), (5, vb false), (4, V.ref 2004 0), (3, V.t (T.ptr [ti x2, tb x3])), (2, V.t (T.ptr [tl x0, ti x1]))], [(2004, oc 82 [T.nils, ti 0])]⟩) (by kernel_rfl) ⟨by decide, (l2State_C x0 x1 c0), h1, trivial⟩ ?_
      exact ⟨(true), h, rfl⟩
    · -- no
      refine WP.path tab_ok mixed [(7, An.call (tb (isStateN x0 x1))), (9, An.b false), (13, An.call (tb (isQ ((List.length x0 : Nat) : Int) x2)))] [.keep [15, 5, 4, 3, 2], .keepO [2004], .names [(2004, 2004)]] (ps := [(2 ≤ 2), (C Tryd.prog 119 [T.agg [tl x0, ti x1]] (tb (isStateN x0 x1))), ((!(isStateN x0 x1)) = false), (2 ≤ 2), (True), (C Tryd.prog 120 [T.agg [tl x0, ti x1], ti x2] (tb (isQ ((List.length x0 : Nat) : Int) x2)))]) (e := .normal) (σ' := ⟨[2004], [(15, vb (!(isQ ((List.length x0 : Nat) : Int) x2))), (5, vb false), (4, V.ref 2004 0), (3, V.t (T.ptr [ti x2, tb x3])), (2, V.t (T.ptr [tl x0, ti x1]))], [(2004, oc 82 [T.nils, ti 0])]⟩) (by kernel_rfl) ⟨by decide, (l2State_C x0 x1 c0), h1, by decide, trivial, (l2Question_C x0 x1 x2 c0), trivial⟩ ?_
      exact ⟨(!(isQ ((List.length x0 : Nat) : Int) x2)), h, rfl⟩
  · -- from there
    intro v15 h0
    have h := (show J1 v15 = some (y0, y1, y2) from h0)
    rw [hJ1] at h
    rcases ite_some h with ⟨h2, h⟩ | ⟨h2, h⟩
    · -- yes
      refine WP.cond (b := v15) rfl (fun _ => ?_) (fun hh => by rw [h2] at hh; cases hh)
      simp only [Option.some.injEq, Prod.mk.injEq] at h
      obtain ⟨rfl, rfl, rfl⟩ := h
      exact WP.pathG tab_ok mixed [] [.keep [4, 5], .keepO [2004], .names [(2004, 2004)]] [] _ (r' := V.tup [V.agg [vo 9000 (List.length ([] : List Int)), vi (0 : Int)], vb false]) (ps := [(True), ((0 + 2 ≤ 2 ∧ 2 = 2)), (0 + 2 ≤ 2)]) (r := V.t (T.tup [T.agg [T.nils, ti 0], tb false])) (N := [2004]) (O := []) [(9000, 3)] (by kernel_rfl) ⟨trivial, by decide, by first | decide | omega | (simp only [tlL] <;> omega) | (simp <;> omega) | (simp [] <;> omega), trivial⟩ ⟨(by first | rfl | (simp; done)), (WkT.eq (WkT.refl _) (by first | rfl | (simp only [tlS, tl, vl, vo, oc, ov, tbl, vbl, ty, vy] <;> rfl) | (simp <;> omega) | (simp []; done) | (rw [List.take_of_length_le (by simp [])] <;> rfl) | (simp [List.take_of_length_le]; done))), (WkT.refl _), trivial⟩ rfl rfl (fun _ h => h)
    · -- no
      refine WP.cond (b := v15) rfl (fun hh => by rw [h2] at hh; cases hh) (fun _ => ?_)
      refine WP.path tab_ok mixed [] [.keep [5, 4, 3, 2], .keepO [2004]] (ps := []) (e := .normal) (σ' := ⟨[2004], [(5, vb false), (4, V.ref 2004 0), (3, V.t (T.ptr [ti x2, tb x3])), (2, V.t (T.ptr [tl x0, ti x1]))], [(2004, oc 82 [T.nils, ti 0])]⟩) (by kernel_rfl) trivial ?_
      obtain ⟨c0, h⟩ := chk_some h
      simp only [Option.some.injEq, Prod.mk.injEq] at h
      obtain ⟨rfl, rfl, rfl⟩ := h
      exact WP.pathG tab_ok mixed [(22, An.callG [(9000, 10220)] [V.t (T.agg [tl x0, ti x1]), vi x2, vb x3] [] (V.agg [vo 9000 (List.length (ansN x1 x2 x3 x0)), vi x1]) [(9000, oc 3 (List.map (T.int .i64) (ansN x1 x2 x3 x0)))])] [.keep [4, 5], .keepO [10220, 2004], .names [(10220, 9000), (2004, 2004)]] [9000] _ (r' := V.tup [V.agg [vo 9000 (List.length (ansN x1 x2 x3 x0)), vi x1], vb true]) (ps := [(2 ≤ 2), (True), (True), (CG Tryd.prog 121 [V.t (T.agg [tl x0, ti x1]), vi x2, vb x3] [] (V.agg [vo 9000 (List.length (ansN x1 x2 x3 x0)), vi x1]) [(9000, oc 3 (List.map (T.int .i64) (ansN x1 x2 x3 x0)))]), (WkT (T.agg [tl x0, ti x1]) (T.agg [tl x0, ti x1])), (WkT (ti x2) (ti x2)), (WkT (tb x3) (tb x3)), ((0 + 2 ≤ 2 ∧ 2 = 2)), (0 + 2 ≤ 2)]) (r := V.tup [V.agg [vo 9000 (List.length (ansN x1 x2 x3 x0)), vi x1], vb true]) (N := [9000, 2004]) (O := [(9000, oc 3 (List.map (T.int .i64) (ansN x1 x2 x3 x0)))]) [] (by kernel_rfl) ⟨by decide, trivial, trivial, (l2After_C_G x0 x1 x2 x3 c0), WkT.refl _, WkT.refl _, WkT.refl _, by decide, by decide, trivial⟩ ⟨rfl, (WkT.refl _), (WkT.refl _), trivial⟩ rfl rfl (fun _ h => h)
theorem F_spec_AnswerState_W_C (x0 : List Int) (x1 : Int) (x2 : Int) (x3 : Bool) (y0 : List Int) (y1 : Int) (y2 : Bool) (h : F_spec_AnswerState x0 x1 x2 x3 = some (y0, y1, y2)) : C Tryd.prog 61 [T.agg [tl x0, ti x1], T.agg [ti x2, tb x3]] (T.tup [T.agg [tl y0, ti y1], tb y2]) :=
  CG.toC (ps := [(List.length (List.map (T.int .i64) y0) = (List.length y0) * 1)]) (F_spec_AnswerState_W  x0 x1 x2 x3 y0 y1 y2 h) (by rfl) ⟨by first | rfl | omega | (simp <;> omega) | (simp [hl] <;> omega), trivial⟩
theorem F_impl_CanAnswer_W (x0 : List Int) (x1 : Int) (x2 : Int) (x3 : Bool) (y0 : Bool) (y1 : Bool) (h : F_impl_CanAnswer x0 x1 x2 x3 = some (y0, y1)) : C Tryd.prog 62 [T.agg [tl x0, ti x1], T.agg [ti x2, tb x3]] (T.tup [tb y0, tb y1]) := by
  unfold F_impl_CanAnswer at h
  refine C.intro (tab := tab) tab_ok (fn := Tryd.f62) Tryd.func62 (by kernel_rfl) rfl (Nat.le_of_ble_eq_true rfl) ?_
  obtain ⟨c0, h⟩ := chk_some h
  obtain ⟨c1, h⟩ := chk_some h
  simp only [Option.some.injEq, Prod.mk.injEq] at h
  obtain ⟨rfl, rfl⟩ := h
  exact WP.pathW tab_ok mixed [(2, An.fz), (3, An.fz), (11, An.callG [(9000, 10110)] [V.t (T.agg [tl x0, ti x1]), V.t (T.agg [ti x2, tb x3])] [] (V.tup [V.agg [vo 9000 (List.length (asL x0 x1 x2 x3)), vi (asM x0 x1 x2 x3)], vb (asB x0 x1 x2)]) [(9000, oc 3 (List.map (T.int .i64) (asL x0 x1 x2 x3)))]), (6, An.id 2006), (15, An.callG [(9000, 10150)] [V.t (T.agg [tl (asL x0 x1 x2 x3), ti (asM x0 x1 x2 x3)])] [] (vo 9000 (List.length (openN (asL x0 x1 x2 x3)))) [(9000, oc 3 (List.map (T.int .i64) (openN (asL x0 x1 x2 x3))))])] _ (ps := [(2 ≤ 2), (2 ≤ 2), (CG Tryd.prog 60 [V.t (T.agg [tl x0, ti x1]), V.t (T.agg [ti x2, tb x3])] [] (V.tup [V.agg [vo 9000 (List.length (asL x0 x1 x2 x3)), vi (asM x0 x1 x2 x3)], vb (asB x0 x1 x2)]) [(9000, oc 3 (List.map (T.int .i64) (asL x0 x1 x2 x3)))]), (WkT (T.agg [tl x0, ti x1]) (T.agg [tl x0, ti x1])), (WkT (T.agg [ti x2, tb x3]) (T.agg [ti x2, tb x3])), ((0 + 2 ≤ 2 ∧ 2 = 2)), (0 + 2 ≤ 2), (CG Tryd.prog 122 [V.t (T.agg [tl (asL x0 x1 x2 x3), ti (asM x0 x1 x2 x3)])] [] (vo 9000 (List.length (openN (asL x0 x1 x2 x3)))) [(9000, oc 3 (List.map (T.int .i64) (openN (asL x0 x1 x2 x3))))]), ((vo 9000 (List.length (openN (asL x0 x1 x2 x3)))).flat = true), (flatO [(9000, oc 3 (List.map (T.int .i64) (openN (asL x0 x1 x2 x3))))] = true), (List.length (List.map (T.int .i64) (asL x0 x1 x2 x3)) = (List.length (asL x0 x1 x2 x3)) * 1), (WkT (T.agg [tl (asL x0 x1 x2 x3), ti (asM x0 x1 x2 x3)]) (T.agg [tl (asL x0 x1 x2 x3), ti (asM x0 x1 x2 x3)])), (True)]) (r := T.tup [tb (decide (((List.length (openN (asL x0 x1 x2 x3)) : Nat) : Int) > (0 : Int))), tb (asB x0 x1 x2)]) (by kernel_rfl) ⟨by decide, by decide, (iAnswerState_C_G x0 x1 x2 x3 c0), WkT.refl _, WkT.refl _, by decide, by decide, (open_C_G (asL x0 x1 x2 x3) (asM x0 x1 x2 x3) c1), by rfl, by first | rfl | (simp [flatO, Tl.Obj.flat, V.flats, V.flat, T.flats, T.flat, flats_app, flats_int, flats_bool, flats_str, flats_node, flats_asked]; done), by first | rfl | omega | (simp only [tlL] <;> omega) | (simp <;> omega) | (simp [] <;> omega), WkT.refl _, trivial, trivial⟩ (WkT.eq (y := T.tup [tb (decide (((List.length (openN (asL x0 x1 x2 x3)) : Nat) : Int) > (0 : Int))), tb (asB x0 x1 x2)]) (WkT.refl _) rfl) (fun _ h => h)
theorem F_spec_l2Open_W (x0 : List Int) (x1 : Int) (y0 : List Int) (h : F_spec_l2Open x0 x1 = some y0) : CG Tryd.prog 123 [V.t (T.agg [tl x0, ti x1])] [] (vo 9000 (List.length y0)) [(9000, oc 3 (List.map (T.int .i64) y0))] := by
  unfold F_spec_l2Open at h
  refine CG.intro (tab := tab) tab_ok (fn := Tryd.f123) Tryd.func123 (by kernel_rfl) rfl (Nat.le_of_ble_eq_true rfl) (by kernel_rfl) ?_
  refine WP.seq ?_
  refine WP.path tab_ok mixed [(1, An.fz)] [.keep [2, 1], .keepO []] (ps := []) (e := .normal) (σ' := ⟨[], [(2, V.t (T.nils)), (1, V.t (T.ptr [tl x0, ti x1]))], []⟩) (by kernel_rfl) trivial ?_
  refine WP.seq ?_
  refine WP.path tab_ok mixed [(5, An.id 2005)] [.keep [3, 2, 1], .keepO [2005]] (ps := [(True), (0 = 0 * 1)]) (e := .normal) (σ' := ⟨[2005], [(3, vo 2005 0), (2, V.t (T.nils)), (1, V.t (T.ptr [tl x0, ti x1]))], [(2005, oc 3 [])]⟩) (by kernel_rfl) ⟨trivial, by decide, trivial⟩ ?_
  obtain ⟨J1, hJ1, h⟩ := jn_some h
  refine WP.joinA (fun (zz : (List Int)) => ⟨[2005], [(3, vo 2005 (List.length zz)), (2, V.t (T.nils))], [(2005, oc 3 (List.map (T.int .i64) zz))]⟩) (fun zz => J1 zz = some y0) ?_ ?_
  · -- to where they meet
    refine WP.seq ?_
    refine WP.path tab_ok mixed [] [.keep [4, 3, 2, 1], .keepO [2005]] (ps := []) (e := .normal) (σ' := ⟨[2005], [(4, vi 0), (3, vo 2005 0), (2, V.t (T.nils)), (1, V.t (T.ptr [tl x0, ti x1]))], [(2005, oc 3 [])]⟩) (by kernel_rfl) trivial ?_
    refine WP.block ?_
    refine WP.wk [.keep [4, 3, 2, 1], .keepO [2005], .names [(2005, 2005)]] (σ' := ⟨[2005], [(4, vi 0), (3, vo 2005 0), (2, V.t (T.nils)), (1, V.t (T.ptr [tl x0, ti x1]))], [(2005, oc 3 [])]⟩) (ps := []) (by kernel_rfl) trivial ?_
    refine WP.st (σ' := ⟨[2005], [(4, vi (0 : Int)), (3, vo 2005 (List.length ([] : List Int))), (2, V.t (T.nils)), (1, V.t (T.ptr [tl x0, ti x1]))], [(2005, oc 3 (List.map (T.int .i64) ([] : List Int)))]⟩) (by first | rfl | (simp only [tlS, tl, vl, vo, oc, ov, tbl, vbl, ty, vy] <;> rfl) | (simp <;> omega) | (simp []; done) | (rw [List.take_of_length_le (by simp [])] <;> rfl) | (simp [List.take_of_length_le]; done)) ?_
    refine WP.loop (α := Nat × (List Int) × Int) (fun zz => ⟨[2005], [(4, vi zz.2.2), (3, vo 2005 (List.length zz.2.1)), (2, V.t (T.nils)), (1, V.t (T.ptr [tl x0, ti x1]))], [(2005, oc 3 (List.map (T.int .i64) zz.2.1))]⟩) (fun zz => F_spec_l2Open_L1 x0 J1 zz.1 zz.2.1 zz.2.2 = some y0) (fun zz => zz.1) (fuel, ([] : List Int), (0 : Int)) h ?_
    rintro ⟨n, o5, v4⟩ h0
    have h := (show F_spec_l2Open_L1 x0 J1 n o5 v4 = some y0 from h0)
    rcases n with _ | n
    · rw [F_spec_l2Open_L1] at h; cases h
    · rw [F_spec_l2Open_L1] at h
      refine WP.seq ?_
      refine WP.seq ?_
      refine WP.path tab_ok mixed [] [.keep [10, 4, 3, 2, 1], .keepO [2005]] (ps := [(True), (True)]) (e := .normal) (σ' := ⟨[2005], [(10, vb (decide (v4 < ((List.length x0 : Nat) : Int)))), (4, vi v4), (3, vo 2005 (List.length o5)), (2, V.t (T.nils)), (1, V.t (T.ptr [tl x0, ti x1]))], [(2005, oc 3 (List.map (T.int .i64) o5))]⟩) (by kernel_rfl) ⟨trivial, trivial, trivial⟩ ?_
      rcases ite_some h with ⟨h1, h⟩ | ⟨h1, h⟩
      · -- yes
        refine WP.cond (b := decide (v4 < ((List.length x0 : Nat) : Int))) rfl (fun _ => ?_) (fun hh => by rw [h1] at hh; cases hh)
        refine WP.path tab_ok mixed [] [.keep [4, 3, 2, 1], .keepO [2005]] (ps := []) (e := .normal) (σ' := ⟨[2005], [(4, vi v4), (3, vo 2005 (List.length o5)), (2, V.t (T.nils)), (1, V.t (T.ptr [tl x0, ti x1]))], [(2005, oc 3 (List.map (T.int .i64) o5))]⟩) (by kernel_rfl) trivial ?_
        refine WP.seq ?_
        refine WP.block ?_
        refine WP.seq ?_
        obtain ⟨c0, h⟩ := chk_some h
        refine WP.path tab_ok mixed [(17, An.v (ti (List.getD x0 (Int.toNat v4) 0)))] [.keep [18, 4, 3, 2, 1], .keepO [2005]] (ps := [(True), ((0 ≤ v4 ∧ v4 < ((List.length x0 : Nat) : Int))), ((List.drop ((Int.toNat v4) * 1) (List.map (T.int .i64) x0) : List T)[0]? = some (ti (List.getD x0 (Int.toNat v4) 0))), (ti (List.getD x0 (Int.toNat v4) 0) = ti (List.getD x0 (Int.toNat v4) 0)), (True)]) (e := .normal) (σ' := ⟨[2005], [(18, vb (decide ((List.getD x0 (Int.toNat v4) 0) ≥ (0 : Int)))), (4, vi v4), (3, vo 2005 (List.length o5)), (2, V.t (T.nils)), (1, V.t (T.ptr [tl x0, ti x1]))], [(2005, oc 3 (List.map (T.int .i64) o5))]⟩) (by kernel_rfl) ⟨trivial, c0, at1 (by simp) (by omega), rfl, trivial, trivial⟩ ?_
        rcases ite_some h with ⟨h2, h⟩ | ⟨h2, h⟩
        · -- yes
          refine WP.cond (b := decide ((List.getD x0 (Int.toNat v4) 0) ≥ (0 : Int))) rfl (fun _ => ?_) (fun hh => by rw [h2] at hh; cases hh)
          obtain ⟨c1, h⟩ := chk_some h
          refine WP.path tab_ok mixed [(21, An.fz), (22, An.id 2022)] [.keep [3, 4, 2, 1], .keepO [2022]] (ps := [((1 = 1 ∧ 0 + 1 ≤ 1) ∧ True), (1 = 1 * 1), (True), (List.length (List.map (T.int .i64) o5) = (List.length o5) * 1), ((((List.length o5) + 1) * 8 ≤ 140737488355328 ∧ (List.length o5) + 1 ≤ maxLen))]) (e := .normal) (σ' := ⟨[2022, 2005], [(3, vo 2022 ((List.length o5) + 1)), (4, vi v4), (2, V.t (T.nils)), (1, V.t (T.ptr [tl x0, ti x1]))], [(2022, oc 3 ((List.map (T.int .i64) o5) ++ [ti v4]))]⟩) (by kernel_rfl) ⟨⟨⟨by first | rfl | (simp; done) | (simp []; done) | omega, by first | decide | (simp; done) | (simp []; done) | omega | (simp only [tlL]; omega) | (simp; omega)⟩, trivial⟩, by decide, trivial, by first | rfl | omega | (simp only [tlL] <;> omega) | (simp <;> omega) | (simp [] <;> omega), c1, trivial⟩ ?_
          obtain ⟨c2, h⟩ := chk_some h
          refine WP.path tab_ok mixed [(12, An.v (T.int .i64 (v4 + (1 : Int))))] [.keep [4, 3, 2, 1], .keepO [2022], .names [(2022, 2005)]] (ps := [(True), (T.int .i64 (IntKind.wrap .i64 (v4 + (1 : Int))) = T.int .i64 (v4 + (1 : Int)))]) (e := .normal) (σ' := ⟨[2005], [(4, vi (v4 + (1 : Int))), (3, vo 2005 ((List.length o5) + 1)), (2, V.t (T.nils)), (1, V.t (T.ptr [tl x0, ti x1]))], [(2005, oc 3 ((List.map (T.int .i64) o5) ++ [ti v4]))]⟩) (by kernel_rfl) ⟨trivial, wrapI c2, trivial⟩ ?_
          exact ⟨(n, o5 ++ [v4], (v4 + (1 : Int))), h, Nat.lt_succ_self _, (by first | rfl | (simp only [tlS, tl, vl, vo, oc, ov, tbl, vbl, ty, vy] <;> rfl) | (simp <;> omega) | (simp []; done) | (rw [List.take_of_length_le (by simp [])] <;> rfl) | (simp [List.take_of_length_le]; done))⟩
        · -- no
          refine WP.cond (b := decide ((List.getD x0 (Int.toNat v4) 0) ≥ (0 : Int))) rfl (fun hh => by rw [h2] at hh; cases hh) (fun _ => ?_)
          refine WP.path tab_ok mixed [] [.keep [4, 3, 2, 1], .keepO [2005]] (ps := []) (e := .normal) (σ' := ⟨[2005], [(4, vi v4), (3, vo 2005 (List.length o5)), (2, V.t (T.nils)), (1, V.t (T.ptr [tl x0, ti x1]))], [(2005, oc 3 (List.map (T.int .i64) o5))]⟩) (by kernel_rfl) trivial ?_
          obtain ⟨c1, h⟩ := chk_some h
          refine WP.path tab_ok mixed [(12, An.v (T.int .i64 (v4 + (1 : Int))))] [.keep [4, 3, 2, 1], .keepO [2005], .names [(2005, 2005)]] (ps := [(True), (T.int .i64 (IntKind.wrap .i64 (v4 + (1 : Int))) = T.int .i64 (v4 + (1 : Int)))]) (e := .normal) (σ' := ⟨[2005], [(4, vi (v4 + (1 : Int))), (3, vo 2005 (List.length o5)), (2, V.t (T.nils)), (1, V.t (T.ptr [tl x0, ti x1]))], [(2005, oc 3 (List.map (T.int .i64) o5))]⟩) (by kernel_rfl) ⟨trivial, wrapI c1, trivial⟩ ?_
          exact ⟨(n, o5, (v4 + (1 : Int))), h, Nat.lt_succ_self _, rfl⟩
      · -- no
        refine WP.cond (b := decide (v4 < ((List.length x0 : Nat) : Int))) rfl (fun hh => by rw [h1] at hh; cases hh) (fun _ => ?_)
        refine WP.path tab_ok mixed [] [.keep [3, 2], .keepO [2005], .names [(2005, 2005)]] (ps := []) (e := (.exit 0)) (σ' := ⟨[2005], [(3, vo 2005 (List.length o5)), (2, V.t (T.nils))], [(2005, oc 3 (List.map (T.int .i64) o5))]⟩) (by kernel_rfl) trivial ?_
        exact ⟨(o5), h, rfl⟩
  · -- from there
    intro o5 h0
    have h := (show J1 o5 = some y0 from h0)
    rw [hJ1] at h
    have h := Option.some.inj h
    subst h
    exact WP.pathG tab_ok mixed [] [.keep [2], .keepO [2005], .names [(2005, 9000)]] [9000] _ (r' := vo 9000 (List.length o5)) (ps := []) (r := vo 9000 (List.length o5)) (N := [9000]) (O := [(9000, oc 3 (List.map (T.int .i64) o5))]) [] (by kernel_rfl) trivial ⟨rfl, trivial⟩ rfl rfl (fun _ h => h)
theorem F_spec_l2Open_W_C (x0 : List Int) (x1 : Int) (y0 : List Int) (h : F_spec_l2Open x0 x1 = some y0) : C Tryd.prog 123 [T.agg [tl x0, ti x1]] (tl y0) :=
  CG.toC (ps := [(List.length (List.map (T.int .i64) y0) = (List.length y0) * 1)]) (F_spec_l2Open_W  x0 x1 y0 h) (by rfl) ⟨by first | rfl | omega | (simp <;> omega) | (simp [hl] <;> omega), trivial⟩
theorem F_spec_CanAnswer_W (x0 : List Int) (x1 : Int) (x2 : Int) (x3 : Bool) (y0 : Bool) (y1 : Bool) (h : F_spec_CanAnswer x0 x1 x2 x3 = some (y0, y1)) : C Tryd.prog 63 [T.agg [tl x0, ti x1], T.agg [ti x2, tb x3]] (T.tup [tb y0, tb y1]) := by
  unfold F_spec_CanAnswer at h
  refine C.intro (tab := tab) tab_ok (fn := Tryd.f63) Tryd.func63 (by kernel_rfl) rfl (Nat.le_of_ble_eq_true rfl) ?_
  refine WP.seq ?_
  refine WP.path tab_ok mixed [(2, An.fz), (3, An.fz)] [.keep [5, 4, 3, 2], .keepO []] (ps := []) (e := .normal) (σ' := ⟨[], [(5, vb false), (4, vb false), (3, V.t (T.ptr [ti x2, tb x3])), (2, V.t (T.ptr [tl x0, ti x1]))], []⟩) (by kernel_rfl) trivial ?_
  refine WP.seq ?_
  obtain ⟨J1, hJ1, h⟩ := jn_some h
  refine WP.joinA (fun (zz : Bool) => ⟨[], [(15, vb zz), (5, vb false), (4, vb false), (3, V.t (T.ptr [ti x2, tb x3])), (2, V.t (T.ptr [tl x0, ti x1]))], []⟩) (fun zz => J1 zz = some (y0, y1)) ?_ ?_
  · -- to where they meet
    obtain ⟨c0, h⟩ := chk_some h
    rcases ite_some h with ⟨h1, h⟩ | ⟨h1, h⟩
    · -- yes
      refine WP.path tab_ok mixed [(7, An.call (tb (isStateN x0 x1))), (9, An.b true)] [.keep [15, 5, 4, 3, 2], .keepO [], .names []] (ps := [(2 ≤ 2), (C Tryd.prog 119 [T.agg [tl x0, ti x1]] (tb (isStateN x0 x1))), ((!(isStateN x0 x1)) = true)]) (e := .normal) (σ' := ⟨[], [(15, vb true), (5, vb false), (4, vb false), (3, V.t (T.ptr [ti x2, tb x3])), (2, V.t (T.ptr [tl x0, ti x1]))], []⟩) (by kernel_rfl) ⟨by decide, (l2State_C x0 x1 c0), h1, trivial⟩ ?_
      exact ⟨(true), h, rfl⟩
    · -- no
      refine WP.path tab_ok mixed [(7, An.call (tb (isStateN x0 x1))), (9, An.b false), (13, An.call (tb (isQ ((List.length x0 : Nat) : Int) x2)))] [.keep [15, 5, 4, 3, 2], .keepO [], .names []] (ps := [(2 ≤ 2), (C Tryd.prog 119 [T.agg [tl x0, ti x1]] (tb (isStateN x0 x1))), ((!(isStateN x0 x1)) = false), (2 ≤ 2), (True), (C Tryd.prog 120 [T.agg [tl x0, ti x1], ti x2] (tb (isQ ((List.length x0 : Nat) : Int) x2)))]) (e := .normal) (σ' := ⟨[], [(15, vb (!(isQ ((List.length x0 : Nat) : Int) x2))), (5, vb false), (4, vb false), (3, V.t (T.ptr [ti x2, tb x3])), (2, V.t (T.ptr [tl x0, ti x1]))], []⟩) (by kernel_rfl) ⟨by decide, (l2State_C x0 x1 c0), h1, by decide, trivial, (l2Question_C x0 x1 x2 c0), trivial⟩ ?_
      exact ⟨(!(isQ ((List.length x0 : Nat) : Int) x2)), h, rfl⟩
  · -- from there
    intro v15 h0
    have h := (show J1 v15 = some (y0, y1) from h0)
    rw [hJ1] at h
    rcases ite_some h with ⟨h2, h⟩ | ⟨h2, h⟩
    · -- yes
      refine WP.cond (b := v15) rfl (fun _ => ?_) (fun hh => by rw [h2] at hh; cases hh)
      simp only [Option.some.injEq, Prod.mk.injEq] at h
      obtain ⟨rfl, rfl⟩ := h
      exact WP.pathW tab_ok mixed [] _ (ps := []) (r := T.tup [tb false, tb false]) (by kernel_rfl) trivial (WkT.eq (y := T.tup [tb false, tb false]) (WkT.refl _) rfl) (fun _ h => h)
    · -- no
      refine WP.cond (b := v15) rfl (fun hh => by rw [h2] at hh; cases hh) (fun _ => ?_)
      refine WP.path tab_ok mixed [] [.keep [5, 4, 3, 2], .keepO []] (ps := []) (e := .normal) (σ' := ⟨[], [(5, vb false), (4, vb false), (3, V.t (T.ptr [ti x2, tb x3])), (2, V.t (T.ptr [tl x0, ti x1]))], []⟩) (by kernel_rfl) trivial ?_
      obtain ⟨c0, h⟩ := chk_some h
      obtain ⟨r22, c1, h⟩ := bnd1_some h
      simp only [Option.some.injEq, Prod.mk.injEq] at h
      obtain ⟨rfl, rfl⟩ := h
      exact WP.pathW tab_ok mixed [(21, An.callG [(9000, 10210)] [V.t (T.agg [tl x0, ti x1]), vi x2, vb x3] [] (V.agg [vo 9000 (List.length (ansN x1 x2 x3 x0)), vi x1]) [(9000, oc 3 (List.map (T.int .i64) (ansN x1 x2 x3 x0)))]), (22, An.callG [(9000, 10220)] [V.t (T.agg [tl (ansN x1 x2 x3 x0), ti x1])] [] (vo 9000 (List.length r22)) [(9000, oc 3 (List.map (T.int .i64) r22))])] _ (ps := [(2 ≤ 2), (True), (True), (CG Tryd.prog 121 [V.t (T.agg [tl x0, ti x1]), vi x2, vb x3] [] (V.agg [vo 9000 (List.length (ansN x1 x2 x3 x0)), vi x1]) [(9000, oc 3 (List.map (T.int .i64) (ansN x1 x2 x3 x0)))]), (WkT (T.agg [tl x0, ti x1]) (T.agg [tl x0, ti x1])), (WkT (ti x2) (ti x2)), (WkT (tb x3) (tb x3)), (CG Tryd.prog 123 [V.t (T.agg [tl (ansN x1 x2 x3 x0), ti x1])] [] (vo 9000 (List.length r22)) [(9000, oc 3 (List.map (T.int .i64) r22))]), ((vo 9000 (List.length r22)).flat = true), (flatO [(9000, oc 3 (List.map (T.int .i64) r22))] = true), (List.length (List.map (T.int .i64) (ansN x1 x2 x3 x0)) = (List.length (ansN x1 x2 x3 x0)) * 1), (WkT (T.agg [tl (ansN x1 x2 x3 x0), ti x1]) (T.agg [tl (ansN x1 x2 x3 x0), ti x1])), (True)]) (r := T.tup [tb (decide (((List.length r22 : Nat) : Int) > (0 : Int))), tb true]) (by kernel_rfl) ⟨by decide, trivial, trivial, (l2After_C_G x0 x1 x2 x3 c0), WkT.refl _, WkT.refl _, WkT.refl _, (F_spec_l2Open_W (ansN x1 x2 x3 x0) x1 r22 c1), by first | rfl | (simp [V.flats, V.flat, T.flats, T.flat, flats_app, flats_int, flats_bool, flats_str, flats_node, flats_asked, flats_pair, flats_recs, flats_fact, flatEs_mpB, flatEs_mpI, flatEs_mp3]; done), by first | rfl | (simp [flatO, Tl.Obj.flat, V.flats, V.flat, T.flats, T.flat, flats_app, flats_int, flats_bool, flats_str, flats_node, flats_asked, flats_pair, flats_recs, flats_fact, flatEs_mpB, flatEs_mpI, flatEs_mp3]; done), by first | rfl | omega | (simp only [tlL] <;> omega) | (simp <;> omega) | (simp [] <;> omega), WkT.refl _, trivial, trivial⟩ (WkT.eq (y := T.tup [tb (decide (((List.length r22 : Nat) : Int) > (0 : Int))), tb true]) (WkT.refl _) rfl) (fun _ h => h)
theorem F_spec_DrawIsState_W (x0 : List Int) (y0 : List Int) (y1 : Int) (h : F_spec_DrawIsState x0 = some (y0, y1)) : CG Tryd.prog 124 [vy x0] [] (V.agg [vo 9000 (List.length y0), vi y1]) [(9000, oc 3 (List.map (T.int .i64) y0))] := by
  unfold F_spec_DrawIsState at h
  refine CG.intro (tab := tab) tab_ok (fn := Tryd.f124) Tryd.func124 (by kernel_rfl) rfl (Nat.le_of_ble_eq_true rfl) (by kernel_rfl) ?_
  obtain ⟨r8, r8b, r8c, r8d, r8e, c0, h⟩ := bnd5_some h
  simp only [Option.some.injEq, Prod.mk.injEq] at h
  obtain ⟨rfl, rfl⟩ := h
  exact WP.pathG tab_ok mixed [(2, An.id 2002), (6, An.id 2006), (8, An.callG [(500, 2006), (9000, 10080)] [V.ref 500 0] [(500, oc 127 [ty x0, ti 0, T.int .u64 0])] (V.agg [vo 9000 (List.length r8), vi r8b]) [(500, oc 127 [ty r8c, ti r8d, T.int .u64 r8e]), (9000, oc 3 (List.map (T.int .i64) r8))])] [.keep [2], .keepO [10080, 2002], .names [(10080, 9000), (2002, 2002)]] [9000] _ (r' := V.agg [vo 9000 (List.length r8), vi r8b]) (ps := [((1 = 1 ∧ 0 + 1 ≤ 3) ∧ True), (CG Tryd.prog 116 [V.ref 500 0] [(500, oc 127 [ty x0, ti 0, T.int .u64 0])] (V.agg [vo 9000 (List.length r8), vi r8b]) [(500, oc 127 [ty r8c, ti r8d, T.int .u64 r8e]), (9000, oc 3 (List.map (T.int .i64) r8))]), ((V.ref 500 0).ren (renF [(500, 2006), (9000, 10080)]) = V.ref 2006 0), ((oc 127 [ty x0, ti 0, T.int .u64 0]) = (oc 127 [ty x0, ti 0, T.int .u64 0]).ren (renF [(500, 2006), (9000, 10080)])), ((0 + 2 ≤ 2 ∧ 2 = 2)), (0 + 2 ≤ 2)]) (r := V.agg [vo 9000 (List.length r8), vi r8b]) (N := [9000, 2002]) (O := [(9000, oc 3 (List.map (T.int .i64) r8))]) [] (by kernel_rfl) ⟨⟨⟨by first | rfl | (simp; done) | (simp []; done) | omega, by first | decide | (simp; done) | (simp []; done) | omega | (simp only [tlL]; omega) | (simp; omega)⟩, trivial⟩, (F_p_spec_l1Cur_state_W x0 (0 : Int) (0 : Int) r8 r8b r8c r8d r8e c0), by first | rfl | (simp [V.ren, V.renL, renF, lk]; done) | (simp [V.ren, V.renL, renF, lk]; omega), by first | rfl | (simp only [tlS]; rfl) | (simp [Tl.Obj.ren, V.ren, V.renL, renF, lk]; done), by decide, by decide, trivial⟩ ⟨rfl, (WkT.refl _), trivial⟩ rfl rfl (fun _ h => h)
theorem F_spec_DrawIsState_W_C (x0 : List Int) (y0 : List Int) (y1 : Int) (h : F_spec_DrawIsState x0 = some (y0, y1)) : C Tryd.prog 124 [ty x0] (T.agg [tl y0, ti y1]) :=
  CG.toC (ps := [(List.length (List.map (T.int .i64) y0) = (List.length y0) * 1)]) (F_spec_DrawIsState_W  x0 y0 y1 h) (by rfl) ⟨by first | rfl | omega | (simp <;> omega) | (simp [hl] <;> omega), trivial⟩
theorem F_spec_DrawStateText_W (x0 : List Int) (y0 : List Int) (y1 : Int) (h : F_spec_DrawStateText x0 = some (y0, y1)) : CG Tryd.prog 64 [vy x0] [] (V.agg [vo 9000 (List.length y0), vi y1]) [(9000, oc 3 (List.map (T.int .i64) y0))] := by
  unfold F_spec_DrawStateText at h
  refine CG.intro (tab := tab) tab_ok (fn := Tryd.f64) Tryd.func64 (by kernel_rfl) rfl (Nat.le_of_ble_eq_true rfl) (by kernel_rfl) ?_
  obtain ⟨r4, r4b, c0, h⟩ := bnd2_some h
  simp only [Option.some.injEq, Prod.mk.injEq] at h
  obtain ⟨rfl, rfl⟩ := h
  exact WP.pathG tab_ok mixed [(2, An.id 2002), (4, An.callG [(9000, 10040)] [vy x0] [] (V.agg [vo 9000 (List.length r4), vi r4b]) [(9000, oc 3 (List.map (T.int .i64) r4))])] [.keep [2], .keepO [10040, 2002], .names [(10040, 9000), (2002, 2002)]] [9000] _ (r' := V.agg [vo 9000 (List.length r4), vi r4b]) (ps := [(CG Tryd.prog 124 [vy x0] [] (V.agg [vo 9000 (List.length r4), vi r4b]) [(9000, oc 3 (List.map (T.int .i64) r4))]), (WkT (ty x0) (ty x0)), ((0 + 2 ≤ 2 ∧ 2 = 2)), (0 + 2 ≤ 2)]) (r := V.agg [vo 9000 (List.length r4), vi r4b]) (N := [9000, 2002]) (O := [(9000, oc 3 (List.map (T.int .i64) r4))]) [] (by kernel_rfl) ⟨(F_spec_DrawIsState_W x0 r4 r4b c0), WkT.refl _, by decide, by decide, trivial⟩ ⟨rfl, (WkT.refl _), trivial⟩ rfl rfl (fun _ h => h)
theorem F_spec_DrawStateText_W_C (x0 : List Int) (y0 : List Int) (y1 : Int) (h : F_spec_DrawStateText x0 = some (y0, y1)) : C Tryd.prog 64 [ty x0] (T.agg [tl y0, ti y1]) :=
  CG.toC (ps := [(List.length (List.map (T.int .i64) y0) = (List.length y0) * 1)]) (F_spec_DrawStateText_W  x0 y0 y1 h) (by rfl) ⟨by first | rfl | omega | (simp <;> omega) | (simp [hl] <;> omega), trivial⟩
theorem F_impl_StateText_W (x0 : List Int) (x1 : Int) (y0 : ByteArray) (y1 : Bool) (h : F_impl_StateText x0 x1 = some (y0, y1)) : C Tryd.prog 65 [T.agg [tl x0, ti x1]] (T.tup [T.str y0, tb y1]) := by
  unfold F_impl_StateText at h
  refine C.intro (tab := tab) tab_ok (fn := Tryd.f65) Tryd.func65 (by kernel_rfl) rfl (Nat.le_of_ble_eq_true rfl) ?_
  refine WP.seq ?_
  refine WP.path tab_ok mixed [(1, An.fz)] [.keep [3, 2, 1], .keepO []] (ps := []) (e := .normal) (σ' := ⟨[], [(3, vb false), (2, V.t (T.str (ByteArray.mk #[]))), (1, V.t (T.ptr [tl x0, ti x1]))], []⟩) (by kernel_rfl) trivial ?_
  refine WP.seq ?_
  refine WP.seq ?_
  obtain ⟨c0, h⟩ := chk_some h
  refine WP.path tab_ok mixed [(8, An.call (tb (isStateN x0 x1)))] [.keep [9, 3, 2, 1], .keepO []] (ps := [(2 ≤ 2), (C Tryd.prog 67 [T.agg [tl x0, ti x1]] (tb (isStateN x0 x1)))]) (e := .normal) (σ' := ⟨[], [(9, vb (!(isStateN x0 x1))), (3, vb false), (2, V.t (T.str (ByteArray.mk #[]))), (1, V.t (T.ptr [tl x0, ti x1]))], []⟩) (by kernel_rfl) ⟨by decide, (isState_C x0 x1 c0), trivial⟩ ?_
  rcases ite_some h with ⟨h1, h⟩ | ⟨h1, h⟩
  · -- yes
    refine WP.cond (b := !(isStateN x0 x1)) rfl (fun _ => ?_) (fun hh => by rw [h1] at hh; cases hh)
    simp only [Option.some.injEq, Prod.mk.injEq] at h
    obtain ⟨rfl, rfl⟩ := h
    exact WP.pathW tab_ok mixed [] _ (ps := []) (r := T.tup [T.str (ByteArray.mk #[]), tb false]) (by kernel_rfl) trivial (WkT.eq (y := T.tup [T.str (ByteArray.mk #[]), tb false]) (WkT.refl _) rfl) (fun _ h => h)
  · -- no
    refine WP.cond (b := !(isStateN x0 x1)) rfl (fun hh => by rw [h1] at hh; cases hh) (fun _ => ?_)
    refine WP.path tab_ok mixed [] [.keep [3, 2, 1], .keepO []] (ps := []) (e := .normal) (σ' := ⟨[], [(3, vb false), (2, V.t (T.str (ByteArray.mk #[]))), (1, V.t (T.ptr [tl x0, ti x1]))], []⟩) (by kernel_rfl) trivial ?_
    refine WP.seq ?_
    obtain ⟨c1, h⟩ := chk_some h
    obtain ⟨c2, h⟩ := chk_some h
    refine WP.path tab_ok mixed [(12, An.call (T.str (itoaB x1)))] [.keep [4, 3, 2, 1], .keepO []] (ps := [(True), (C Tryd.prog 85 [ti x1] (T.str (itoaB x1))), ((itoaB x1).size + (ByteArray.mk #[58]).size ≤ 9223372036854775807)]) (e := .normal) (σ' := ⟨[], [(4, V.t (T.str ((itoaB x1) ++ (ByteArray.mk #[58])))), (3, vb false), (2, V.t (T.str (ByteArray.mk #[]))), (1, V.t (T.ptr [tl x0, ti x1]))], []⟩) (by kernel_rfl) ⟨trivial, (itoa_C x1 c1), c2, trivial⟩ ?_
    obtain ⟨J1, hJ1, h⟩ := jn_some h
    refine WP.joinA (fun (zz : ByteArray) => ⟨[], [(4, V.t (T.str zz)), (3, vb false), (2, V.t (T.str (ByteArray.mk #[])))], []⟩) (fun zz => J1 zz = some (y0, y1)) ?_ ?_
    · -- to where they meet
      refine WP.seq ?_
      refine WP.path tab_ok mixed [] [.keep [17, 16, 15, 4, 3, 2], .keepO []] (ps := [(True)]) (e := .normal) (σ' := ⟨[], [(17, vi 0), (16, vi ((List.length x0 : Nat) : Int)), (15, vl x0), (4, V.t (T.str ((itoaB x1) ++ (ByteArray.mk #[58])))), (3, vb false), (2, V.t (T.str (ByteArray.mk #[])))], []⟩) (by kernel_rfl) ⟨trivial, trivial⟩ ?_
      refine WP.block ?_
      refine WP.wk [.keep [17, 16, 15, 4, 3, 2], .keepO [], .names []] (σ' := ⟨[], [(17, vi 0), (16, vi ((List.length x0 : Nat) : Int)), (15, vl x0), (4, V.t (T.str ((itoaB x1) ++ (ByteArray.mk #[58])))), (3, vb false), (2, V.t (T.str (ByteArray.mk #[])))], []⟩) (ps := []) (by kernel_rfl) trivial ?_
      refine WP.st (σ' := ⟨[], [(17, vi (0 : Int)), (16, vi ((List.length x0 : Nat) : Int)), (15, vl x0), (4, V.t (T.str ((itoaB x1) ++ (ByteArray.mk #[58])))), (3, vb false), (2, V.t (T.str (ByteArray.mk #[])))], []⟩) (by first | rfl | (simp only [tlS, tl, vl, vo, oc, ov, tbl, vbl, ty, vy] <;> rfl) | (simp <;> omega) | (simp []; done) | (rw [List.take_of_length_le (by simp [])] <;> rfl) | (simp [List.take_of_length_le]; done)) ?_
      refine WP.loop (α := Nat × Int × ByteArray) (fun zz => ⟨[], [(17, vi zz.2.1), (16, vi ((List.length x0 : Nat) : Int)), (15, vl x0), (4, V.t (T.str zz.2.2)), (3, vb false), (2, V.t (T.str (ByteArray.mk #[])))], []⟩) (fun zz => F_impl_StateText_L1 x0 J1 zz.1 zz.2.1 zz.2.2 = some (y0, y1)) (fun zz => zz.1) (fuel, (0 : Int), ((itoaB x1) ++ (ByteArray.mk #[58]))) h ?_
      rintro ⟨n, v17, v4⟩ h0
      have h := (show F_impl_StateText_L1 x0 J1 n v17 v4 = some (y0, y1) from h0)
      rcases n with _ | n
      · rw [F_impl_StateText_L1] at h; cases h
      · rw [F_impl_StateText_L1] at h
        refine WP.seq ?_
        refine WP.path tab_ok mixed [] [.keep [18, 17, 16, 15, 4, 3, 2], .keepO []] (ps := [(True)]) (e := .normal) (σ' := ⟨[], [(18, vb (decide (v17 < ((List.length x0 : Nat) : Int)))), (17, vi v17), (16, vi ((List.length x0 : Nat) : Int)), (15, vl x0), (4, V.t (T.str v4)), (3, vb false), (2, V.t (T.str (ByteArray.mk #[])))], []⟩) (by kernel_rfl) ⟨trivial, trivial⟩ ?_
        refine WP.seq ?_
        rcases ite_some h with ⟨h2, h⟩ | ⟨h2, h⟩
        · -- yes
          refine WP.cond (b := decide (v17 < ((List.length x0 : Nat) : Int))) rfl (fun _ => ?_) (fun hh => by rw [h2] at hh; cases hh)
          refine WP.path tab_ok mixed [] [.keep [17, 16, 15, 4, 3, 2], .keepO []] (ps := []) (e := .normal) (σ' := ⟨[], [(17, vi v17), (16, vi ((List.length x0 : Nat) : Int)), (15, vl x0), (4, V.t (T.str v4)), (3, vb false), (2, V.t (T.str (ByteArray.mk #[])))], []⟩) (by kernel_rfl) trivial ?_
          refine WP.seq ?_
          refine WP.block ?_
          refine WP.seq ?_
          obtain ⟨c3, h⟩ := chk_some h
          refine WP.path tab_ok mixed [(20, An.v (ti (List.getD x0 (Int.toNat v17) 0)))] [.keep [6, 17, 16, 15, 4, 3, 2], .keepO []] (ps := [((0 ≤ v17 ∧ v17 < ((List.length x0 : Nat) : Int))), ((List.drop ((Int.toNat v17) * 1) (List.map (T.int .i64) x0) : List T)[0]? = some (ti (List.getD x0 (Int.toNat v17) 0))), (ti (List.getD x0 (Int.toNat v17) 0) = ti (List.getD x0 (Int.toNat v17) 0))]) (e := .normal) (σ' := ⟨[], [(6, vi (List.getD x0 (Int.toNat v17) 0)), (17, vi v17), (16, vi ((List.length x0 : Nat) : Int)), (15, vl x0), (4, V.t (T.str v4)), (3, vb false), (2, V.t (T.str (ByteArray.mk #[])))], []⟩) (by kernel_rfl) ⟨c3, at1 (by simp) (by omega), rfl, trivial⟩ ?_
          refine WP.seq ?_
          refine WP.path tab_ok mixed [] [.keep [22, 6, 17, 16, 15, 4, 3, 2], .keepO []] (ps := [(True)]) (e := .normal) (σ' := ⟨[], [(22, vb (decide ((List.getD x0 (Int.toNat v17) 0) < (0 : Int)))), (6, vi (List.getD x0 (Int.toNat v17) 0)), (17, vi v17), (16, vi ((List.length x0 : Nat) : Int)), (15, vl x0), (4, V.t (T.str v4)), (3, vb false), (2, V.t (T.str (ByteArray.mk #[])))], []⟩) (by kernel_rfl) ⟨trivial, trivial⟩ ?_
          rcases ite_some h with ⟨h3, h⟩ | ⟨h3, h⟩
          · -- yes
            refine WP.cond (b := decide ((List.getD x0 (Int.toNat v17) 0) < (0 : Int))) rfl (fun _ => ?_) (fun hh => by rw [h3] at hh; cases hh)
            obtain ⟨c4, h⟩ := chk_some h
            refine WP.path tab_ok mixed [] [.keep [4, 17, 16, 15, 3, 2], .keepO []] (ps := [(v4.size + (ByteArray.mk #[45]).size ≤ 9223372036854775807)]) (e := .normal) (σ' := ⟨[], [(4, V.t (T.str (v4 ++ (ByteArray.mk #[45])))), (17, vi v17), (16, vi ((List.length x0 : Nat) : Int)), (15, vl x0), (3, vb false), (2, V.t (T.str (ByteArray.mk #[])))], []⟩) (by kernel_rfl) ⟨c4, trivial⟩ ?_
            obtain ⟨c5, h⟩ := chk_some h
            refine WP.path tab_ok mixed [(29, An.v (T.int .i64 (v17 + (1 : Int))))] [.keep [17, 16, 15, 4, 3, 2], .keepO [], .names []] (ps := [(True), (T.int .i64 (IntKind.wrap .i64 (v17 + (1 : Int))) = T.int .i64 (v17 + (1 : Int)))]) (e := .normal) (σ' := ⟨[], [(17, vi (v17 + (1 : Int))), (16, vi ((List.length x0 : Nat) : Int)), (15, vl x0), (4, V.t (T.str (v4 ++ (ByteArray.mk #[45])))), (3, vb false), (2, V.t (T.str (ByteArray.mk #[])))], []⟩) (by kernel_rfl) ⟨trivial, wrapI c5, trivial⟩ ?_
            exact ⟨(n, (v17 + (1 : Int)), (v4 ++ (ByteArray.mk #[45]))), h, Nat.lt_succ_self _, rfl⟩
          · -- no
            refine WP.cond (b := decide ((List.getD x0 (Int.toNat v17) 0) < (0 : Int))) rfl (fun hh => by rw [h3] at hh; cases hh) (fun _ => ?_)
            obtain ⟨c4, h⟩ := chk_some h
            obtain ⟨c5, h⟩ := chk_some h
            refine WP.path tab_ok mixed [(27, An.call (T.str (itoaB (List.getD x0 (Int.toNat v17) 0))))] [.keep [4, 17, 16, 15, 3, 2], .keepO []] (ps := [(C Tryd.prog 85 [ti (List.getD x0 (Int.toNat v17) 0)] (T.str (itoaB (List.getD x0 (Int.toNat v17) 0)))), (v4.size + (itoaB (List.getD x0 (Int.toNat v17) 0)).size ≤ 9223372036854775807)]) (e := .normal) (σ' := ⟨[], [(4, V.t (T.str (v4 ++ (itoaB (List.getD x0 (Int.toNat v17) 0))))), (17, vi v17), (16, vi ((List.length x0 : Nat) : Int)), (15, vl x0), (3, vb false), (2, V.t (T.str (ByteArray.mk #[])))], []⟩) (by kernel_rfl) ⟨(itoa_C (List.getD x0 (Int.toNat v17) 0) c4), c5, trivial⟩ ?_
            obtain ⟨c6, h⟩ := chk_some h
            refine WP.path tab_ok mixed [(29, An.v (T.int .i64 (v17 + (1 : Int))))] [.keep [17, 16, 15, 4, 3, 2], .keepO [], .names []] (ps := [(True), (T.int .i64 (IntKind.wrap .i64 (v17 + (1 : Int))) = T.int .i64 (v17 + (1 : Int)))]) (e := .normal) (σ' := ⟨[], [(17, vi (v17 + (1 : Int))), (16, vi ((List.length x0 : Nat) : Int)), (15, vl x0), (4, V.t (T.str (v4 ++ (itoaB (List.getD x0 (Int.toNat v17) 0))))), (3, vb false), (2, V.t (T.str (ByteArray.mk #[])))], []⟩) (by kernel_rfl) ⟨trivial, wrapI c6, trivial⟩ ?_
            exact ⟨(n, (v17 + (1 : Int)), (v4 ++ (itoaB (List.getD x0 (Int.toNat v17) 0)))), h, Nat.lt_succ_self _, rfl⟩
        · -- no
          refine WP.cond (b := decide (v17 < ((List.length x0 : Nat) : Int))) rfl (fun hh => by rw [h2] at hh; cases hh) (fun _ => ?_)
          refine WP.path tab_ok mixed [] [.keep [4, 3, 2], .keepO [], .names []] (ps := []) (e := (.exit 0)) (σ' := ⟨[], [(4, V.t (T.str v4)), (3, vb false), (2, V.t (T.str (ByteArray.mk #[])))], []⟩) (by kernel_rfl) trivial ?_
          exact ⟨(v4), h, rfl⟩
    · -- from there
      intro v4 h0
      have h := (show J1 v4 = some (y0, y1) from h0)
      rw [hJ1] at h
      simp only [Option.some.injEq, Prod.mk.injEq] at h
      obtain ⟨rfl, rfl⟩ := h
      exact WP.pathW tab_ok mixed [] _ (ps := []) (r := T.tup [T.str v4, tb true]) (by kernel_rfl) trivial (WkT.eq (y := T.tup [T.str v4, tb true]) (WkT.refl _) rfl) (fun _ h => h)
theorem F_spec_l1Num_B_W (self : Int → Option ByteArray) (hself : ∀ (x0 : Int) (y0 : ByteArray), self x0 = some y0 → C Tryd.prog 139 [ti x0] (T.str y0)) (x0 : Int) (y0 : ByteArray) (h : F_spec_l1Num_B self x0 = some y0) : C Tryd.prog 139 [ti x0] (T.str y0) := by
  unfold F_spec_l1Num_B at h
  refine C.intro (tab := tab) tab_ok (fn := Tryd.f139) Tryd.func139 (by kernel_rfl) rfl (Nat.le_of_ble_eq_true rfl) ?_
  refine WP.seq ?_
  refine WP.path tab_ok mixed [] [.keep [2, 0], .keepO []] (ps := []) (e := .normal) (σ' := ⟨[], [(2, V.t (T.str (ByteArray.mk #[]))), (0, vi x0)], []⟩) (by kernel_rfl) trivial ?_
  refine WP.seq ?_
  refine WP.seq ?_
  refine WP.path tab_ok mixed [] [.keep [4, 2, 0], .keepO []] (ps := [(True)]) (e := .normal) (σ' := ⟨[], [(4, vb (decide (x0 < (0 : Int)))), (2, V.t (T.str (ByteArray.mk #[]))), (0, vi x0)], []⟩) (by kernel_rfl) ⟨trivial, trivial⟩ ?_
  rcases ite_some h with ⟨h1, h⟩ | ⟨h1, h⟩
  · -- yes
    refine WP.cond (b := decide (x0 < (0 : Int))) rfl (fun _ => ?_) (fun hh => by rw [h1] at hh; cases hh)
    refine WP.seq ?_
    refine WP.seq ?_
    refine WP.path tab_ok mixed [] [.keep [6, 2, 0], .keepO []] (ps := [(True)]) (e := .normal) (σ' := ⟨[], [(6, vb (decide (x0 > (-10 : Int)))), (2, V.t (T.str (ByteArray.mk #[]))), (0, vi x0)], []⟩) (by kernel_rfl) ⟨trivial, trivial⟩ ?_
    rcases ite_some h with ⟨h2, h⟩ | ⟨h2, h⟩
    · -- yes
      refine WP.cond (b := decide (x0 > (-10 : Int))) rfl (fun _ => ?_) (fun hh => by rw [h2] at hh; cases hh)
      obtain ⟨c0, h⟩ := chk_some h
      obtain ⟨r9, c1, h⟩ := bnd1_some h
      obtain ⟨c2, h⟩ := chk_some h
      have h := Option.some.inj h
      subst h
      exact WP.pathW tab_ok mixed [(8, An.v (T.int .i64 (0 - x0))), (9, An.call (T.str r9))] _ (ps := [(T.int .i64 (IntKind.wrap .i64 (0 - x0)) = T.int .i64 (0 - x0)), (C Tryd.prog 139 [ti (0 - x0)] (T.str r9)), ((ByteArray.mk #[45]).size + r9.size ≤ 9223372036854775807)]) (r := T.str ((ByteArray.mk #[45]) ++ r9)) (by kernel_rfl) ⟨wrapI c0, (hself (0 - x0) r9 c1), c2, trivial⟩ (WkT.eq (y := T.str ((ByteArray.mk #[45]) ++ r9)) (WkT.refl _) rfl) (fun _ h => h)
    · -- no
      refine WP.cond (b := decide (x0 > (-10 : Int))) rfl (fun hh => by rw [h2] at hh; cases hh) (fun _ => ?_)
      refine WP.path tab_ok mixed [] [.keep [2, 0], .keepO []] (ps := []) (e := .normal) (σ' := ⟨[], [(2, V.t (T.str (ByteArray.mk #[]))), (0, vi x0)], []⟩) (by kernel_rfl) trivial ?_
      obtain ⟨c0, h⟩ := chk_some h
      obtain ⟨r13, c1, h⟩ := bnd1_some h
      obtain ⟨c2, h⟩ := chk_some h
      obtain ⟨r17, c3, h⟩ := bnd1_some h
      obtain ⟨c4, h⟩ := chk_some h
      have h := Option.some.inj h
      subst h
      exact WP.pathW tab_ok mixed [(12, An.v (T.int .i64 (Int.tdiv x0 (10 : Int)))), (13, An.call (T.str r13)), (16, An.v (T.int .i64 (0 - (Int.tmod x0 (10 : Int))))), (17, An.call (T.str r17))] _ (ps := [((10 : Int) ≠ 0), (T.int .i64 (IntKind.wrap .i64 (Int.tdiv x0 (10 : Int))) = T.int .i64 (Int.tdiv x0 (10 : Int))), (C Tryd.prog 139 [ti (Int.tdiv x0 (10 : Int))] (T.str r13)), ((10 : Int) ≠ 0), (T.int .i64 (IntKind.wrap .i64 (0 - (Int.tmod x0 (10 : Int)))) = T.int .i64 (0 - (Int.tmod x0 (10 : Int)))), (C Tryd.prog 139 [ti (0 - (Int.tmod x0 (10 : Int)))] (T.str r17)), (r13.size + r17.size ≤ 9223372036854775807)]) (r := T.str (r13 ++ r17)) (by kernel_rfl) ⟨(show (10 : Int) ≠ 0 by first | decide | (simp only [maxLen]; omega) | (unfold I64; omega) | (unfold I64; decide)), quo_told c0, (hself (Int.tdiv x0 (10 : Int)) r13 c1), by decide, wrapI c2, (hself (0 - (Int.tmod x0 (10 : Int))) r17 c3), c4, trivial⟩ (WkT.eq (y := T.str (r13 ++ r17)) (WkT.refl _) rfl) (fun _ h => h)
  · -- no
    refine WP.cond (b := decide (x0 < (0 : Int))) rfl (fun hh => by rw [h1] at hh; cases hh) (fun _ => ?_)
    refine WP.path tab_ok mixed [] [.keep [2, 0], .keepO []] (ps := []) (e := .normal) (σ' := ⟨[], [(2, V.t (T.str (ByteArray.mk #[]))), (0, vi x0)], []⟩) (by kernel_rfl) trivial ?_
    refine WP.seq ?_
    refine WP.seq ?_
    refine WP.path tab_ok mixed [] [.keep [20, 2, 0], .keepO []] (ps := [(True)]) (e := .normal) (σ' := ⟨[], [(20, vb (decide (x0 < (10 : Int)))), (2, V.t (T.str (ByteArray.mk #[]))), (0, vi x0)], []⟩) (by kernel_rfl) ⟨trivial, trivial⟩ ?_
    rcases ite_some h with ⟨h3, h⟩ | ⟨h3, h⟩
    · -- yes
      refine WP.cond (b := decide (x0 < (10 : Int))) rfl (fun _ => ?_) (fun hh => by rw [h3] at hh; cases hh)
      obtain ⟨c0, h⟩ := chk_some h
      obtain ⟨c1, h⟩ := chk_some h
      have h := Option.some.inj h
      subst h
      exact WP.pathW tab_ok mixed [(23, An.v (T.int .i64 (x0 + (1 : Int))))] _ (ps := [(True), (T.int .i64 (IntKind.wrap .i64 (x0 + (1 : Int))) = T.int .i64 (x0 + (1 : Int))), ((0 ≤ x0 ∧ x0 ≤ (x0 + (1 : Int)) ∧ (x0 + (1 : Int)) ≤ ((ByteArray.size (ByteArray.mk #[48, 49, 50, 51, 52, 53, 54, 55, 56, 57]) : Nat) : Int)))]) (r := T.str (ByteArray.extract (ByteArray.mk #[48, 49, 50, 51, 52, 53, 54, 55, 56, 57]) (Int.toNat x0) (Int.toNat (x0 + (1 : Int))))) (by kernel_rfl) ⟨trivial, wrapI c0, c1, trivial⟩ (WkT.eq (y := T.str (ByteArray.extract (ByteArray.mk #[48, 49, 50, 51, 52, 53, 54, 55, 56, 57]) (Int.toNat x0) (Int.toNat (x0 + (1 : Int))))) (WkT.refl _) rfl) (fun _ h => h)
    · -- no
      refine WP.cond (b := decide (x0 < (10 : Int))) rfl (fun hh => by rw [h3] at hh; cases hh) (fun _ => ?_)
      refine WP.path tab_ok mixed [] [.keep [2, 0], .keepO []] (ps := []) (e := .normal) (σ' := ⟨[], [(2, V.t (T.str (ByteArray.mk #[]))), (0, vi x0)], []⟩) (by kernel_rfl) trivial ?_
      obtain ⟨c0, h⟩ := chk_some h
      obtain ⟨r27, c1, h⟩ := bnd1_some h
      obtain ⟨c2, h⟩ := chk_some h
      obtain ⟨c3, h⟩ := chk_some h
      obtain ⟨c4, h⟩ := chk_some h
      have h := Option.some.inj h
      subst h
      exact WP.pathW tab_ok mixed [(26, An.v (T.int .i64 (Int.tdiv x0 (10 : Int)))), (27, An.call (T.str r27)), (32, An.v (T.int .i64 ((Int.tmod x0 (10 : Int)) + (1 : Int))))] _ (ps := [((10 : Int) ≠ 0), (T.int .i64 (IntKind.wrap .i64 (Int.tdiv x0 (10 : Int))) = T.int .i64 (Int.tdiv x0 (10 : Int))), (C Tryd.prog 139 [ti (Int.tdiv x0 (10 : Int))] (T.str r27)), ((10 : Int) ≠ 0), ((10 : Int) ≠ 0), (True), (T.int .i64 (IntKind.wrap .i64 ((Int.tmod x0 (10 : Int)) + (1 : Int))) = T.int .i64 ((Int.tmod x0 (10 : Int)) + (1 : Int))), ((0 ≤ (Int.tmod x0 (10 : Int)) ∧ (Int.tmod x0 (10 : Int)) ≤ ((Int.tmod x0 (10 : Int)) + (1 : Int)) ∧ ((Int.tmod x0 (10 : Int)) + (1 : Int)) ≤ ((ByteArray.size (ByteArray.mk #[48, 49, 50, 51, 52, 53, 54, 55, 56, 57]) : Nat) : Int))), (r27.size + (ByteArray.extract (ByteArray.mk #[48, 49, 50, 51, 52, 53, 54, 55, 56, 57]) (Int.toNat (Int.tmod x0 (10 : Int))) (Int.toNat ((Int.tmod x0 (10 : Int)) + (1 : Int)))).size ≤ 9223372036854775807)]) (r := T.str (r27 ++ (ByteArray.extract (ByteArray.mk #[48, 49, 50, 51, 52, 53, 54, 55, 56, 57]) (Int.toNat (Int.tmod x0 (10 : Int))) (Int.toNat ((Int.tmod x0 (10 : Int)) + (1 : Int)))))) (by kernel_rfl) ⟨(show (10 : Int) ≠ 0 by first | decide | (simp only [maxLen]; omega) | (unfold I64; omega) | (unfold I64; decide)), quo_told c0, (hself (Int.tdiv x0 (10 : Int)) r27 c1), by decide, by decide, trivial, wrapI c2, c3, c4, trivial⟩ (WkT.eq (y := T.str (r27 ++ (ByteArray.extract (ByteArray.mk #[48, 49, 50, 51, 52, 53, 54, 55, 56, 57]) (Int.toNat (Int.tmod x0 (10 : Int))) (Int.toNat ((Int.tmod x0 (10 : Int)) + (1 : Int)))))) (WkT.refl _) rfl) (fun _ h => h)
theorem F_spec_l1Num_W (n : Nat) : ∀ (x0 : Int) (y0 : ByteArray), F_spec_l1Num n x0 = some y0 → C Tryd.prog 139 [ti x0] (T.str y0) := by
  induction n with
  | zero => intro x0 y0 h; rw [F_spec_l1Num] at h; cases h
  | succ n ih => intro x0 y0 h; rw [F_spec_l1Num] at h; exact F_spec_l1Num_B_W _ ih x0 y0 h
theorem F_spec_l2Text_W (x0 : List Int) (x1 : Int) (y0 : ByteArray) (h : F_spec_l2Text x0 x1 = some y0) : C Tryd.prog 125 [T.agg [tl x0, ti x1]] (T.str y0) := by
  unfold F_spec_l2Text at h
  refine C.intro (tab := tab) tab_ok (fn := Tryd.f125) Tryd.func125 (by kernel_rfl) rfl (Nat.le_of_ble_eq_true rfl) ?_
  refine WP.seq ?_
  refine WP.path tab_ok mixed [(1, An.fz)] [.keep [2, 1], .keepO []] (ps := []) (e := .normal) (σ' := ⟨[], [(2, V.t (T.str (ByteArray.mk #[]))), (1, V.t (T.ptr [tl x0, ti x1]))], []⟩) (by kernel_rfl) trivial ?_
  refine WP.seq ?_
  obtain ⟨r7, c0, h⟩ := bnd1_some h
  obtain ⟨c1, h⟩ := chk_some h
  refine WP.path tab_ok mixed [(7, An.call (T.str r7))] [.keep [3, 2, 1], .keepO []] (ps := [(True), (C Tryd.prog 139 [ti x1] (T.str r7)), (r7.size + (ByteArray.mk #[58]).size ≤ 9223372036854775807)]) (e := .normal) (σ' := ⟨[], [(3, V.t (T.str (r7 ++ (ByteArray.mk #[58])))), (2, V.t (T.str (ByteArray.mk #[]))), (1, V.t (T.ptr [tl x0, ti x1]))], []⟩) (by kernel_rfl) ⟨trivial, (F_spec_l1Num_W fuel x1 r7 c0), c1, trivial⟩ ?_
  obtain ⟨J1, hJ1, h⟩ := jn_some h
  refine WP.joinA (fun (zz : ByteArray) => ⟨[], [(3, V.t (T.str zz)), (2, V.t (T.str (ByteArray.mk #[])))], []⟩) (fun zz => J1 zz = some y0) ?_ ?_
  · -- to where they meet
    refine WP.seq ?_
    refine WP.path tab_ok mixed [] [.keep [4, 3, 2, 1], .keepO []] (ps := []) (e := .normal) (σ' := ⟨[], [(4, vi 0), (3, V.t (T.str (r7 ++ (ByteArray.mk #[58])))), (2, V.t (T.str (ByteArray.mk #[]))), (1, V.t (T.ptr [tl x0, ti x1]))], []⟩) (by kernel_rfl) trivial ?_
    refine WP.block ?_
    refine WP.wk [.keep [4, 3, 2, 1], .keepO [], .names []] (σ' := ⟨[], [(4, vi 0), (3, V.t (T.str (r7 ++ (ByteArray.mk #[58])))), (2, V.t (T.str (ByteArray.mk #[]))), (1, V.t (T.ptr [tl x0, ti x1]))], []⟩) (ps := []) (by kernel_rfl) trivial ?_
    refine WP.st (σ' := ⟨[], [(4, vi (0 : Int)), (3, V.t (T.str (r7 ++ (ByteArray.mk #[58])))), (2, V.t (T.str (ByteArray.mk #[]))), (1, V.t (T.ptr [tl x0, ti x1]))], []⟩) (by first | rfl | (simp only [tlS, tl, vl, vo, oc, ov, tbl, vbl, ty, vy] <;> rfl) | (simp <;> omega) | (simp []; done) | (rw [List.take_of_length_le (by simp [])] <;> rfl) | (simp [List.take_of_length_le]; done)) ?_
    refine WP.loop (α := Nat × Int × ByteArray) (fun zz => ⟨[], [(4, vi zz.2.1), (3, V.t (T.str zz.2.2)), (2, V.t (T.str (ByteArray.mk #[]))), (1, V.t (T.ptr [tl x0, ti x1]))], []⟩) (fun zz => F_spec_l2Text_L1 x0 J1 zz.1 zz.2.1 zz.2.2 = some y0) (fun zz => zz.1) (fuel, (0 : Int), (r7 ++ (ByteArray.mk #[58]))) h ?_
    rintro ⟨n, v4, v3⟩ h0
    have h := (show F_spec_l2Text_L1 x0 J1 n v4 v3 = some y0 from h0)
    rcases n with _ | n
    · rw [F_spec_l2Text_L1] at h; cases h
    · rw [F_spec_l2Text_L1] at h
      refine WP.seq ?_
      refine WP.seq ?_
      refine WP.path tab_ok mixed [] [.keep [13, 4, 3, 2, 1], .keepO []] (ps := [(True), (True)]) (e := .normal) (σ' := ⟨[], [(13, vb (decide (v4 < ((List.length x0 : Nat) : Int)))), (4, vi v4), (3, V.t (T.str v3)), (2, V.t (T.str (ByteArray.mk #[]))), (1, V.t (T.ptr [tl x0, ti x1]))], []⟩) (by kernel_rfl) ⟨trivial, trivial, trivial⟩ ?_
      rcases ite_some h with ⟨h1, h⟩ | ⟨h1, h⟩
      · -- yes
        refine WP.cond (b := decide (v4 < ((List.length x0 : Nat) : Int))) rfl (fun _ => ?_) (fun hh => by rw [h1] at hh; cases hh)
        refine WP.path tab_ok mixed [] [.keep [4, 3, 2, 1], .keepO []] (ps := []) (e := .normal) (σ' := ⟨[], [(4, vi v4), (3, V.t (T.str v3)), (2, V.t (T.str (ByteArray.mk #[]))), (1, V.t (T.ptr [tl x0, ti x1]))], []⟩) (by kernel_rfl) trivial ?_
        refine WP.seq ?_
        refine WP.block ?_
        refine WP.seq ?_
        obtain ⟨c2, h⟩ := chk_some h
        refine WP.path tab_ok mixed [(20, An.v (ti (List.getD x0 (Int.toNat v4) 0)))] [.keep [21, 4, 3, 2, 1], .keepO []] (ps := [(True), ((0 ≤ v4 ∧ v4 < ((List.length x0 : Nat) : Int))), ((List.drop ((Int.toNat v4) * 1) (List.map (T.int .i64) x0) : List T)[0]? = some (ti (List.getD x0 (Int.toNat v4) 0))), (ti (List.getD x0 (Int.toNat v4) 0) = ti (List.getD x0 (Int.toNat v4) 0)), (True)]) (e := .normal) (σ' := ⟨[], [(21, vb (decide ((List.getD x0 (Int.toNat v4) 0) < (0 : Int)))), (4, vi v4), (3, V.t (T.str v3)), (2, V.t (T.str (ByteArray.mk #[]))), (1, V.t (T.ptr [tl x0, ti x1]))], []⟩) (by kernel_rfl) ⟨trivial, c2, at1 (by simp) (by omega), rfl, trivial, trivial⟩ ?_
        rcases ite_some h with ⟨h2, h⟩ | ⟨h2, h⟩
        · -- yes
          refine WP.cond (b := decide ((List.getD x0 (Int.toNat v4) 0) < (0 : Int))) rfl (fun _ => ?_) (fun hh => by rw [h2] at hh; cases hh)
          obtain ⟨c3, h⟩ := chk_some h
          refine WP.path tab_ok mixed [] [.keep [3, 4, 2, 1], .keepO []] (ps := [(v3.size + (ByteArray.mk #[45]).size ≤ 9223372036854775807)]) (e := .normal) (σ' := ⟨[], [(3, V.t (T.str (v3 ++ (ByteArray.mk #[45])))), (4, vi v4), (2, V.t (T.str (ByteArray.mk #[]))), (1, V.t (T.ptr [tl x0, ti x1]))], []⟩) (by kernel_rfl) ⟨c3, trivial⟩ ?_
          obtain ⟨c4, h⟩ := chk_some h
          refine WP.path tab_ok mixed [(15, An.v (T.int .i64 (v4 + (1 : Int))))] [.keep [4, 3, 2, 1], .keepO [], .names []] (ps := [(True), (T.int .i64 (IntKind.wrap .i64 (v4 + (1 : Int))) = T.int .i64 (v4 + (1 : Int)))]) (e := .normal) (σ' := ⟨[], [(4, vi (v4 + (1 : Int))), (3, V.t (T.str (v3 ++ (ByteArray.mk #[45])))), (2, V.t (T.str (ByteArray.mk #[]))), (1, V.t (T.ptr [tl x0, ti x1]))], []⟩) (by kernel_rfl) ⟨trivial, wrapI c4, trivial⟩ ?_
          exact ⟨(n, (v4 + (1 : Int)), (v3 ++ (ByteArray.mk #[45]))), h, Nat.lt_succ_self _, rfl⟩
        · -- no
          refine WP.cond (b := decide ((List.getD x0 (Int.toNat v4) 0) < (0 : Int))) rfl (fun hh => by rw [h2] at hh; cases hh) (fun _ => ?_)
          obtain ⟨r30, c3, h⟩ := bnd1_some h
          obtain ⟨c4, h⟩ := chk_some h
          refine WP.path tab_ok mixed [(29, An.v (ti (List.getD x0 (Int.toNat v4) 0))), (30, An.call (T.str r30))] [.keep [3, 4, 2, 1], .keepO []] (ps := [(True), ((0 ≤ v4 ∧ v4 < ((List.length x0 : Nat) : Int))), ((List.drop ((Int.toNat v4) * 1) (List.map (T.int .i64) x0) : List T)[0]? = some (ti (List.getD x0 (Int.toNat v4) 0))), (ti (List.getD x0 (Int.toNat v4) 0) = ti (List.getD x0 (Int.toNat v4) 0)), (C Tryd.prog 139 [ti (List.getD x0 (Int.toNat v4) 0)] (T.str r30)), (v3.size + r30.size ≤ 9223372036854775807)]) (e := .normal) (σ' := ⟨[], [(3, V.t (T.str (v3 ++ r30))), (4, vi v4), (2, V.t (T.str (ByteArray.mk #[]))), (1, V.t (T.ptr [tl x0, ti x1]))], []⟩) (by kernel_rfl) ⟨trivial, c2, at1 (by simp) (by omega), rfl, (F_spec_l1Num_W fuel (List.getD x0 (Int.toNat v4) 0) r30 c3), c4, trivial⟩ ?_
          obtain ⟨c5, h⟩ := chk_some h
          refine WP.path tab_ok mixed [(15, An.v (T.int .i64 (v4 + (1 : Int))))] [.keep [4, 3, 2, 1], .keepO [], .names []] (ps := [(True), (T.int .i64 (IntKind.wrap .i64 (v4 + (1 : Int))) = T.int .i64 (v4 + (1 : Int)))]) (e := .normal) (σ' := ⟨[], [(4, vi (v4 + (1 : Int))), (3, V.t (T.str (v3 ++ r30))), (2, V.t (T.str (ByteArray.mk #[]))), (1, V.t (T.ptr [tl x0, ti x1]))], []⟩) (by kernel_rfl) ⟨trivial, wrapI c5, trivial⟩ ?_
          exact ⟨(n, (v4 + (1 : Int)), (v3 ++ r30)), h, Nat.lt_succ_self _, rfl⟩
      · -- no
        refine WP.cond (b := decide (v4 < ((List.length x0 : Nat) : Int))) rfl (fun hh => by rw [h1] at hh; cases hh) (fun _ => ?_)
        refine WP.path tab_ok mixed [] [.keep [3, 2], .keepO [], .names []] (ps := []) (e := (.exit 0)) (σ' := ⟨[], [(3, V.t (T.str v3)), (2, V.t (T.str (ByteArray.mk #[])))], []⟩) (by kernel_rfl) trivial ?_
        exact ⟨(v3), h, rfl⟩
  · -- from there
    intro v3 h0
    have h := (show J1 v3 = some y0 from h0)
    rw [hJ1] at h
    have h := Option.some.inj h
    subst h
    exact WP.pathW tab_ok mixed [] _ (ps := []) (r := T.str v3) (by kernel_rfl) trivial (WkT.eq (y := T.str v3) (WkT.refl _) rfl) (fun _ h => h)
theorem F_spec_StateText_W (x0 : List Int) (x1 : Int) (y0 : ByteArray) (y1 : Bool) (h : F_spec_StateText x0 x1 = some (y0, y1)) : C Tryd.prog 66 [T.agg [tl x0, ti x1]] (T.tup [T.str y0, tb y1]) := by
  unfold F_spec_StateText at h
  refine C.intro (tab := tab) tab_ok (fn := Tryd.f66) Tryd.func66 (by kernel_rfl) rfl (Nat.le_of_ble_eq_true rfl) ?_
  refine WP.seq ?_
  refine WP.path tab_ok mixed [(1, An.fz)] [.keep [3, 2, 1], .keepO []] (ps := []) (e := .normal) (σ' := ⟨[], [(3, vb false), (2, V.t (T.str (ByteArray.mk #[]))), (1, V.t (T.ptr [tl x0, ti x1]))], []⟩) (by kernel_rfl) trivial ?_
  refine WP.seq ?_
  refine WP.seq ?_
  obtain ⟨c0, h⟩ := chk_some h
  refine WP.path tab_ok mixed [(5, An.call (tb (isStateN x0 x1)))] [.keep [6, 3, 2, 1], .keepO []] (ps := [(2 ≤ 2), (C Tryd.prog 119 [T.agg [tl x0, ti x1]] (tb (isStateN x0 x1)))]) (e := .normal) (σ' := ⟨[], [(6, vb (!(isStateN x0 x1))), (3, vb false), (2, V.t (T.str (ByteArray.mk #[]))), (1, V.t (T.ptr [tl x0, ti x1]))], []⟩) (by kernel_rfl) ⟨by decide, (l2State_C x0 x1 c0), trivial⟩ ?_
  rcases ite_some h with ⟨h1, h⟩ | ⟨h1, h⟩
  · -- yes
    refine WP.cond (b := !(isStateN x0 x1)) rfl (fun _ => ?_) (fun hh => by rw [h1] at hh; cases hh)
    simp only [Option.some.injEq, Prod.mk.injEq] at h
    obtain ⟨rfl, rfl⟩ := h
    exact WP.pathW tab_ok mixed [] _ (ps := []) (r := T.tup [T.str (ByteArray.mk #[]), tb false]) (by kernel_rfl) trivial (WkT.eq (y := T.tup [T.str (ByteArray.mk #[]), tb false]) (WkT.refl _) rfl) (fun _ h => h)
  · -- no
    refine WP.cond (b := !(isStateN x0 x1)) rfl (fun hh => by rw [h1] at hh; cases hh) (fun _ => ?_)
    refine WP.path tab_ok mixed [] [.keep [3, 2, 1], .keepO []] (ps := []) (e := .normal) (σ' := ⟨[], [(3, vb false), (2, V.t (T.str (ByteArray.mk #[]))), (1, V.t (T.ptr [tl x0, ti x1]))], []⟩) (by kernel_rfl) trivial ?_
    obtain ⟨r8, c1, h⟩ := bnd1_some h
    simp only [Option.some.injEq, Prod.mk.injEq] at h
    obtain ⟨rfl, rfl⟩ := h
    exact WP.pathW tab_ok mixed [(8, An.call (T.str r8))] _ (ps := [(2 ≤ 2), (C Tryd.prog 125 [T.agg [tl x0, ti x1]] (T.str r8))]) (r := T.tup [T.str r8, tb true]) (by kernel_rfl) ⟨by decide, (F_spec_l2Text_W x0 x1 r8 c1), trivial⟩ (WkT.eq (y := T.tup [T.str r8, tb true]) (WkT.refl _) rfl) (fun _ h => h)
theorem F_p_spec_l1Cur_spoilt_W (x0 : List Int) (x1 : Int) (x2 : Int) (x3 : ByteArray) (x4 : ByteArray) (y0 : ByteArray) (y1 : List Int) (y2 : Int) (y3 : Int) (h : F_p_spec_l1Cur_spoilt x0 x1 x2 x3 x4 = some (y0, y1, y2, y3)) : CG Tryd.prog 103 [V.ref 500 0, V.t (T.str x3), V.t (T.str x4)] [(500, oc 127 [ty x0, ti x1, T.int .u64 x2])] (V.t (T.str y0)) [(500, oc 127 [ty y1, ti y2, T.int .u64 y3])] := by
  unfold F_p_spec_l1Cur_spoilt at h
  refine CG.intro (tab := tab) tab_ok (fn := Tryd.f103) Tryd.func103 (by kernel_rfl) rfl (Nat.le_of_ble_eq_true rfl) (by kernel_rfl) ?_
  refine WP.seq ?_
  refine WP.path tab_ok mixed [] [.keep [6, 0, 1, 2], .keepO [500]] (ps := []) (e := .normal) (σ' := ⟨[500], [(6, V.t (T.str (ByteArray.mk #[]))), (0, V.ref 500 0), (1, V.t (T.str x3)), (2, V.t (T.str x4))], [(500, oc 127 [ty x0, ti x1, T.int .u64 x2])]⟩) (by kernel_rfl) trivial ?_
  refine WP.seq ?_
  refine WP.seq ?_
  refine WP.path tab_ok mixed [] [.keep [10, 6, 0, 1, 2], .keepO [500]] (ps := [(True)]) (e := .normal) (σ' := ⟨[500], [(10, vb (x3.toList == (ByteArray.mk #[]).toList)), (6, V.t (T.str (ByteArray.mk #[]))), (0, V.ref 500 0), (1, V.t (T.str x3)), (2, V.t (T.str x4))], [(500, oc 127 [ty x0, ti x1, T.int .u64 x2])]⟩) (by kernel_rfl) ⟨trivial, trivial⟩ ?_
  rcases ite_some h with ⟨h1, h⟩ | ⟨h1, h⟩
  · -- yes
    refine WP.cond (b := x3.toList == (ByteArray.mk #[]).toList) rfl (fun _ => ?_) (fun hh => by rw [h1] at hh; cases hh)
    obtain ⟨c0, h⟩ := chk_some h
    simp only [Option.some.injEq, Prod.mk.injEq] at h
    obtain ⟨rfl, rfl, rfl, rfl⟩ := h
    exact WP.pathG tab_ok mixed [] [.keep [6], .keepO [500], .names [(500, 500)]] [500] _ (r' := V.t (T.str (ByteArray.extract x4 0 1))) (ps := [((0 ≤ (0 : Int) ∧ (0 : Int) ≤ (1 : Int) ∧ (1 : Int) ≤ ((ByteArray.size x4 : Nat) : Int)))]) (r := V.t (T.str (ByteArray.extract x4 0 1))) (N := [500]) (O := [(500, oc 127 [ty x0, ti x1, T.int .u64 x2])]) [] (by kernel_rfl) ⟨c0, trivial⟩ ⟨(WkT.refl _), trivial⟩ rfl rfl (fun _ h => h)
  · -- no
    refine WP.cond (b := x3.toList == (ByteArray.mk #[]).toList) rfl (fun hh => by rw [h1] at hh; cases hh) (fun _ => ?_)
    refine WP.path tab_ok mixed [] [.keep [6, 0, 1, 2], .keepO [500]] (ps := []) (e := .normal) (σ' := ⟨[500], [(6, V.t (T.str (ByteArray.mk #[]))), (0, V.ref 500 0), (1, V.t (T.str x3)), (2, V.t (T.str x4))], [(500, oc 127 [ty x0, ti x1, T.int .u64 x2])]⟩) (by kernel_rfl) trivial ?_
    refine WP.seq ?_
    obtain ⟨r16, r16b, r16c, r16d, c0, h⟩ := bnd4_some h
    refine WP.path tab_ok mixed [(16, An.callG [(500, 500)] [V.ref 500 0, vi ((ByteArray.size x3 : Nat) : Int)] [(500, oc 127 [ty x0, ti x1, T.int .u64 x2])] (vi r16) [(500, oc 127 [ty r16b, ti r16c, T.int .u64 r16d])])] [.keep [7, 6, 0, 1, 2], .keepO [500]] (ps := [(CG Tryd.prog 99 [V.ref 500 0, vi ((ByteArray.size x3 : Nat) : Int)] [(500, oc 127 [ty x0, ti x1, T.int .u64 x2])] (vi r16) [(500, oc 127 [ty r16b, ti r16c, T.int .u64 r16d])]), ((V.ref 500 0).ren (renF [(500, 500)]) = V.ref 500 0), (WkT (ti ((ByteArray.size x3 : Nat) : Int)) (ti ((ByteArray.size x3 : Nat) : Int))), ((oc 127 [ty x0, ti x1, T.int .u64 x2]) = (oc 127 [ty x0, ti x1, T.int .u64 x2]).ren (renF [(500, 500)]))]) (e := .normal) (σ' := ⟨[500], [(7, vi r16), (6, V.t (T.str (ByteArray.mk #[]))), (0, V.ref 500 0), (1, V.t (T.str x3)), (2, V.t (T.str x4))], [(500, oc 127 [ty r16b, ti r16c, T.int .u64 r16d])]⟩) (by kernel_rfl) ⟨(F_p_spec_l1Cur_pick_W x0 x1 x2 ((ByteArray.size x3 : Nat) : Int) r16 r16b r16c r16d c0), by first | rfl | (simp [V.ren, V.renL, renF, lk]; done) | (simp [V.ren, V.renL, renF, lk]; omega), WkT.refl _, by first | rfl | (simp only [tlS]; rfl) | (simp [Tl.Obj.ren, V.ren, V.renL, renF, lk]; done), trivial⟩ ?_
    refine WP.seq ?_
    obtain ⟨r21, r21b, r21c, r21d, c1, h⟩ := bnd4_some h
    obtain ⟨c2, h⟩ := chk_some h
    obtain ⟨c3, h⟩ := chk_some h
    refine WP.path tab_ok mixed [(21, An.callG [(500, 500)] [V.ref 500 0, vi ((ByteArray.size x4 : Nat) : Int)] [(500, oc 127 [ty r16b, ti r16c, T.int .u64 r16d])] (vi r21) [(500, oc 127 [ty r21b, ti r21c, T.int .u64 r21d])])] [.keep [8, 7, 6, 0, 1], .keepO [500]] (ps := [(CG Tryd.prog 99 [V.ref 500 0, vi ((ByteArray.size x4 : Nat) : Int)] [(500, oc 127 [ty r16b, ti r16c, T.int .u64 r16d])] (vi r21) [(500, oc 127 [ty r21b, ti r21c, T.int .u64 r21d])]), ((V.ref 500 0).ren (renF [(500, 500)]) = V.ref 500 0), (WkT (ti ((ByteArray.size x4 : Nat) : Int)) (ti ((ByteArray.size x4 : Nat) : Int))), ((oc 127 [ty r16b, ti r16c, T.int .u64 r16d]) = (oc 127 [ty r16b, ti r16c, T.int .u64 r16d]).ren (renF [(500, 500)])), ((0 ≤ r21 ∧ r21 ≤ ((ByteArray.size x4 : Nat) : Int) ∧ ((ByteArray.size x4 : Nat) : Int) ≤ ((ByteArray.size x4 : Nat) : Int))), ((0 ≤ (0 : Int) ∧ (0 : Int) ≤ (1 : Int) ∧ (1 : Int) ≤ ((ByteArray.size (ByteArray.extract x4 (Int.toNat r21) (Int.toNat ((ByteArray.size x4 : Nat) : Int))) : Nat) : Int)))]) (e := .normal) (σ' := ⟨[500], [(8, V.t (T.str (ByteArray.extract (ByteArray.extract x4 (Int.toNat r21) (Int.toNat ((ByteArray.size x4 : Nat) : Int))) 0 1))), (7, vi r16), (6, V.t (T.str (ByteArray.mk #[]))), (0, V.ref 500 0), (1, V.t (T.str x3))], [(500, oc 127 [ty r21b, ti r21c, T.int .u64 r21d])]⟩) (by kernel_rfl) ⟨(F_p_spec_l1Cur_pick_W r16b r16c r16d ((ByteArray.size x4 : Nat) : Int) r21 r21b r21c r21d c1), by first | rfl | (simp [V.ren, V.renL, renF, lk]; done) | (simp [V.ren, V.renL, renF, lk]; omega), WkT.refl _, by first | rfl | (simp only [tlS]; rfl) | (simp [Tl.Obj.ren, V.ren, V.renL, renF, lk]; done), c2, c3, trivial⟩ ?_
    refine WP.seq ?_
    refine WP.seq ?_
    obtain ⟨r25, r25b, r25c, r25d, c4, h⟩ := bnd4_some h
    refine WP.path tab_ok mixed [(25, An.callG [(500, 500)] [V.ref 500 0, vi 3] [(500, oc 127 [ty r21b, ti r21c, T.int .u64 r21d])] (vi r25) [(500, oc 127 [ty r25b, ti r25c, T.int .u64 r25d])])] [.keep [25, 8, 7, 6, 1], .keepO [500]] (ps := [(CG Tryd.prog 99 [V.ref 500 0, vi 3] [(500, oc 127 [ty r21b, ti r21c, T.int .u64 r21d])] (vi r25) [(500, oc 127 [ty r25b, ti r25c, T.int .u64 r25d])]), ((V.ref 500 0).ren (renF [(500, 500)]) = V.ref 500 0), (WkT (ti 3) (ti 3)), ((oc 127 [ty r21b, ti r21c, T.int .u64 r21d]) = (oc 127 [ty r21b, ti r21c, T.int .u64 r21d]).ren (renF [(500, 500)]))]) (e := .normal) (σ' := ⟨[500], [(25, vi r25), (8, V.t (T.str (ByteArray.extract (ByteArray.extract x4 (Int.toNat r21) (Int.toNat ((ByteArray.size x4 : Nat) : Int))) 0 1))), (7, vi r16), (6, V.t (T.str (ByteArray.mk #[]))), (1, V.t (T.str x3))], [(500, oc 127 [ty r25b, ti r25c, T.int .u64 r25d])]⟩) (by kernel_rfl) ⟨(F_p_spec_l1Cur_pick_W r21b r21c r21d (3 : Int) r25 r25b r25c r25d c4), by first | rfl | (simp [V.ren, V.renL, renF, lk]; done) | (simp [V.ren, V.renL, renF, lk]; omega), WkT.refl _, by first | rfl | (simp only [tlS]; rfl) | (simp [Tl.Obj.ren, V.ren, V.renL, renF, lk]; done), trivial⟩ ?_
    refine WP.block ?_
    refine WP.seq ?_
    refine WP.path tab_ok mixed [] [.keep [26, 25, 8, 7, 6, 1], .keepO [500]] (ps := [(True)]) (e := .normal) (σ' := ⟨[500], [(26, vb (r25 == (0 : Int))), (25, vi r25), (8, V.t (T.str (ByteArray.extract (ByteArray.extract x4 (Int.toNat r21) (Int.toNat ((ByteArray.size x4 : Nat) : Int))) 0 1))), (7, vi r16), (6, V.t (T.str (ByteArray.mk #[]))), (1, V.t (T.str x3))], [(500, oc 127 [ty r25b, ti r25c, T.int .u64 r25d])]⟩) (by kernel_rfl) ⟨trivial, trivial⟩ ?_
    rcases ite_some h with ⟨h2, h⟩ | ⟨h2, h⟩
    · -- yes
      refine WP.cond (b := r25 == (0 : Int)) rfl (fun _ => ?_) (fun hh => by rw [h2] at hh; cases hh)
      obtain ⟨c5, h⟩ := chk_some h
      obtain ⟨c6, h⟩ := chk_some h
      obtain ⟨c7, h⟩ := chk_some h
      obtain ⟨c8, h⟩ := chk_some h
      simp only [Option.some.injEq, Prod.mk.injEq] at h
      obtain ⟨rfl, rfl, rfl, rfl⟩ := h
      exact WP.pathG tab_ok mixed [] [.keep [6], .keepO [500], .names [(500, 500)]] [500] _ (r' := V.t (T.str (((ByteArray.extract x3 0 (Int.toNat r16)) ++ (ByteArray.extract (ByteArray.extract x4 (Int.toNat r21) (Int.toNat ((ByteArray.size x4 : Nat) : Int))) 0 1)) ++ (ByteArray.extract x3 (Int.toNat r16) (Int.toNat ((ByteArray.size x3 : Nat) : Int)))))) (ps := [((0 ≤ (0 : Int) ∧ (0 : Int) ≤ r16 ∧ r16 ≤ ((ByteArray.size x3 : Nat) : Int))), ((ByteArray.extract x3 0 (Int.toNat r16)).size + (ByteArray.extract (ByteArray.extract x4 (Int.toNat r21) (Int.toNat ((ByteArray.size x4 : Nat) : Int))) 0 1).size ≤ 9223372036854775807), ((0 ≤ r16 ∧ r16 ≤ ((ByteArray.size x3 : Nat) : Int) ∧ ((ByteArray.size x3 : Nat) : Int) ≤ ((ByteArray.size x3 : Nat) : Int))), (((ByteArray.extract x3 0 (Int.toNat r16)) ++ (ByteArray.extract (ByteArray.extract x4 (Int.toNat r21) (Int.toNat ((ByteArray.size x4 : Nat) : Int))) 0 1)).size + (ByteArray.extract x3 (Int.toNat r16) (Int.toNat ((ByteArray.size x3 : Nat) : Int))).size ≤ 9223372036854775807)]) (r := V.t (T.str (((ByteArray.extract x3 0 (Int.toNat r16)) ++ (ByteArray.extract (ByteArray.extract x4 (Int.toNat r21) (Int.toNat ((ByteArray.size x4 : Nat) : Int))) 0 1)) ++ (ByteArray.extract x3 (Int.toNat r16) (Int.toNat ((ByteArray.size x3 : Nat) : Int)))))) (N := [500]) (O := [(500, oc 127 [ty r25b, ti r25c, T.int .u64 r25d])]) [] (by kernel_rfl) ⟨c5, c6, c7, c8, trivial⟩ ⟨(WkT.refl _), trivial⟩ rfl rfl (fun _ h => h)
    · -- no
      refine WP.cond (b := r25 == (0 : Int)) rfl (fun hh => by rw [h2] at hh; cases hh) (fun _ => ?_)
      refine WP.seq ?_
      refine WP.path tab_ok mixed [] [.keep [37, 8, 7, 6, 1], .keepO [500]] (ps := [(True)]) (e := .normal) (σ' := ⟨[500], [(37, vb (r25 == (1 : Int))), (8, V.t (T.str (ByteArray.extract (ByteArray.extract x4 (Int.toNat r21) (Int.toNat ((ByteArray.size x4 : Nat) : Int))) 0 1))), (7, vi r16), (6, V.t (T.str (ByteArray.mk #[]))), (1, V.t (T.str x3))], [(500, oc 127 [ty r25b, ti r25c, T.int .u64 r25d])]⟩) (by kernel_rfl) ⟨trivial, trivial⟩ ?_
      rcases ite_some h with ⟨h3, h⟩ | ⟨h3, h⟩
      · -- yes
        refine WP.cond (b := r25 == (1 : Int)) rfl (fun _ => ?_) (fun hh => by rw [h3] at hh; cases hh)
        obtain ⟨c5, h⟩ := chk_some h
        obtain ⟨c6, h⟩ := chk_some h
        obtain ⟨c7, h⟩ := chk_some h
        obtain ⟨c8, h⟩ := chk_some h
        obtain ⟨c9, h⟩ := chk_some h
        simp only [Option.some.injEq, Prod.mk.injEq] at h
        obtain ⟨rfl, rfl, rfl, rfl⟩ := h
        exact WP.pathG tab_ok mixed [(46, An.v (T.int .i64 (r16 + (1 : Int))))] [.keep [6], .keepO [500], .names [(500, 500)]] [500] _ (r' := V.t (T.str (((ByteArray.extract x3 0 (Int.toNat r16)) ++ (ByteArray.extract (ByteArray.extract x4 (Int.toNat r21) (Int.toNat ((ByteArray.size x4 : Nat) : Int))) 0 1)) ++ (ByteArray.extract x3 (Int.toNat (r16 + (1 : Int))) (Int.toNat ((ByteArray.size x3 : Nat) : Int)))))) (ps := [((0 ≤ (0 : Int) ∧ (0 : Int) ≤ r16 ∧ r16 ≤ ((ByteArray.size x3 : Nat) : Int))), ((ByteArray.extract x3 0 (Int.toNat r16)).size + (ByteArray.extract (ByteArray.extract x4 (Int.toNat r21) (Int.toNat ((ByteArray.size x4 : Nat) : Int))) 0 1).size ≤ 9223372036854775807), (True), (T.int .i64 (IntKind.wrap .i64 (r16 + (1 : Int))) = T.int .i64 (r16 + (1 : Int))), ((0 ≤ (r16 + (1 : Int)) ∧ (r16 + (1 : Int)) ≤ ((ByteArray.size x3 : Nat) : Int) ∧ ((ByteArray.size x3 : Nat) : Int) ≤ ((ByteArray.size x3 : Nat) : Int))), (((ByteArray.extract x3 0 (Int.toNat r16)) ++ (ByteArray.extract (ByteArray.extract x4 (Int.toNat r21) (Int.toNat ((ByteArray.size x4 : Nat) : Int))) 0 1)).size + (ByteArray.extract x3 (Int.toNat (r16 + (1 : Int))) (Int.toNat ((ByteArray.size x3 : Nat) : Int))).size ≤ 9223372036854775807)]) (r := V.t (T.str (((ByteArray.extract x3 0 (Int.toNat r16)) ++ (ByteArray.extract (ByteArray.extract x4 (Int.toNat r21) (Int.toNat ((ByteArray.size x4 : Nat) : Int))) 0 1)) ++ (ByteArray.extract x3 (Int.toNat (r16 + (1 : Int))) (Int.toNat ((ByteArray.size x3 : Nat) : Int)))))) (N := [500]) (O := [(500, oc 127 [ty r25b, ti r25c, T.int .u64 r25d])]) [] (by kernel_rfl) ⟨c5, c6, trivial, wrapI c7, c8, c9, trivial⟩ ⟨(WkT.refl _), trivial⟩ rfl rfl (fun _ h => h)
      · -- no
        refine WP.cond (b := r25 == (1 : Int)) rfl (fun hh => by rw [h3] at hh; cases hh) (fun _ => ?_)
        refine WP.path tab_ok mixed [] [.keep [7, 6, 1], .keepO [500]] (ps := []) (e := .normal) (σ' := ⟨[500], [(7, vi r16), (6, V.t (T.str (ByteArray.mk #[]))), (1, V.t (T.str x3))], [(500, oc 127 [ty r25b, ti r25c, T.int .u64 r25d])]⟩) (by kernel_rfl) trivial ?_
        obtain ⟨c5, h⟩ := chk_some h
        obtain ⟨c6, h⟩ := chk_some h
        obtain ⟨c7, h⟩ := chk_some h
        obtain ⟨c8, h⟩ := chk_some h
        simp only [Option.some.injEq, Prod.mk.injEq] at h
        obtain ⟨rfl, rfl, rfl, rfl⟩ := h
        exact WP.pathG tab_ok mixed [(54, An.v (T.int .i64 (r16 + (1 : Int))))] [.keep [6], .keepO [500], .names [(500, 500)]] [500] _ (r' := V.t (T.str ((ByteArray.extract x3 0 (Int.toNat r16)) ++ (ByteArray.extract x3 (Int.toNat (r16 + (1 : Int))) (Int.toNat ((ByteArray.size x3 : Nat) : Int)))))) (ps := [((0 ≤ (0 : Int) ∧ (0 : Int) ≤ r16 ∧ r16 ≤ ((ByteArray.size x3 : Nat) : Int))), (True), (T.int .i64 (IntKind.wrap .i64 (r16 + (1 : Int))) = T.int .i64 (r16 + (1 : Int))), ((0 ≤ (r16 + (1 : Int)) ∧ (r16 + (1 : Int)) ≤ ((ByteArray.size x3 : Nat) : Int) ∧ ((ByteArray.size x3 : Nat) : Int) ≤ ((ByteArray.size x3 : Nat) : Int))), ((ByteArray.extract x3 0 (Int.toNat r16)).size + (ByteArray.extract x3 (Int.toNat (r16 + (1 : Int))) (Int.toNat ((ByteArray.size x3 : Nat) : Int))).size ≤ 9223372036854775807)]) (r := V.t (T.str ((ByteArray.extract x3 0 (Int.toNat r16)) ++ (ByteArray.extract x3 (Int.toNat (r16 + (1 : Int))) (Int.toNat ((ByteArray.size x3 : Nat) : Int)))))) (N := [500]) (O := [(500, oc 127 [ty r25b, ti r25c, T.int .u64 r25d])]) [] (by kernel_rfl) ⟨c5, trivial, wrapI c6, c7, c8, trivial⟩ ⟨(WkT.refl _), trivial⟩ rfl rfl (fun _ h => h)
theorem F_spec_DrawParseState_W (x0 : List Int) (y0 : ByteArray) (h : F_spec_DrawParseState x0 = some y0) : C Tryd.prog 68 [ty x0] (T.str y0) := by
  unfold F_spec_DrawParseState at h
  refine C.intro (tab := tab) tab_ok (fn := Tryd.f68) Tryd.func68 (by kernel_rfl) rfl (Nat.le_of_ble_eq_true rfl) ?_
  refine WP.seq ?_
  refine WP.path tab_ok mixed [] [.keep [2, 0], .keepO []] (ps := []) (e := .normal) (σ' := ⟨[], [(2, V.t (T.str (ByteArray.mk #[]))), (0, vy x0)], []⟩) (by kernel_rfl) trivial ?_
  refine WP.seq ?_
  refine WP.path tab_ok mixed [(8, An.id 2008)] [.keep [3, 2], .keepO [2008]] (ps := [((1 = 1 ∧ 0 + 1 ≤ 3) ∧ True)]) (e := .normal) (σ' := ⟨[2008], [(3, V.ref 2008 0), (2, V.t (T.str (ByteArray.mk #[])))], [(2008, oc 127 [ty x0, ti 0, T.int .u64 0])]⟩) (by kernel_rfl) ⟨⟨⟨by first | rfl | (simp; done) | (simp []; done) | omega, by first | decide | (simp; done) | (simp []; done) | omega | (simp only [tlL]; omega) | (simp; omega)⟩, trivial⟩, trivial⟩ ?_
  refine WP.seq ?_
  refine WP.path tab_ok mixed [] [.keep [4, 3, 2], .keepO [2008]] (ps := []) (e := .normal) (σ' := ⟨[2008], [(4, V.t (T.str (ByteArray.mk #[49, 58, 48, 48, 49, 45]))), (3, V.ref 2008 0), (2, V.t (T.str (ByteArray.mk #[])))], [(2008, oc 127 [ty x0, ti 0, T.int .u64 0])]⟩) (by kernel_rfl) trivial ?_
  obtain ⟨J1, hJ1, h⟩ := jn_some h
  refine WP.joinA (fun (zz : (List Int) × Int × Int × ByteArray) => ⟨[2008], [(4, V.t (T.str zz.2.2.2)), (3, V.ref 2008 0), (2, V.t (T.str (ByteArray.mk #[])))], [(2008, oc 127 [ty zz.1, ti zz.2.1, T.int .u64 zz.2.2.1])]⟩) (fun zz => J1 zz.1 zz.2.1 zz.2.2.1 zz.2.2.2 = some y0) ?_ ?_
  · -- to where they meet
    refine WP.seq ?_
    obtain ⟨r10, r10b, r10c, r10d, r10e, c0, h⟩ := bnd5_some h
    refine WP.path tab_ok mixed [(10, An.callG [(500, 2008), (9000, 10100)] [V.ref 500 0] [(500, oc 127 [ty x0, ti 0, T.int .u64 0])] (V.agg [vo 9000 (List.length r10), vi r10b]) [(500, oc 127 [ty r10c, ti r10d, T.int .u64 r10e]), (9000, oc 3 (List.map (T.int .i64) r10))]), (5, An.id 2005)] [.keep [5, 4, 3, 2], .keepO [2005, 2008, 10100]] (ps := [(CG Tryd.prog 116 [V.ref 500 0] [(500, oc 127 [ty x0, ti 0, T.int .u64 0])] (V.agg [vo 9000 (List.length r10), vi r10b]) [(500, oc 127 [ty r10c, ti r10d, T.int .u64 r10e]), (9000, oc 3 (List.map (T.int .i64) r10))]), ((V.ref 500 0).ren (renF [(500, 2008), (9000, 10100)]) = V.ref 2008 0), ((oc 127 [ty x0, ti 0, T.int .u64 0]) = (oc 127 [ty x0, ti 0, T.int .u64 0]).ren (renF [(500, 2008), (9000, 10100)])), ((0 + 2 ≤ 2 ∧ 2 = 2))]) (e := .normal) (σ' := ⟨[2005, 10100, 2008], [(5, V.ref 2005 0), (4, V.t (T.str (ByteArray.mk #[49, 58, 48, 48, 49, 45]))), (3, V.ref 2008 0), (2, V.t (T.str (ByteArray.mk #[])))], [(2005, ov 82 [vo 10100 (List.length r10), vi r10b]), (2008, oc 127 [ty r10c, ti r10d, T.int .u64 r10e]), (10100, oc 3 (List.map (T.int .i64) r10))]⟩) (by kernel_rfl) ⟨(F_p_spec_l1Cur_state_W x0 (0 : Int) (0 : Int) r10 r10b r10c r10d r10e c0), by first | rfl | (simp [V.ren, V.renL, renF, lk]; done) | (simp [V.ren, V.renL, renF, lk]; omega), by first | rfl | (simp only [tlS]; rfl) | (simp [Tl.Obj.ren, V.ren, V.renL, renF, lk]; done), by decide, trivial⟩ ?_
    refine WP.seq ?_
    obtain ⟨c1, h⟩ := chk_some h
    refine WP.path tab_ok mixed [(12, An.call (tb (isStateN r10 r10b)))] [.keep [12, 5, 4, 3, 2], .keepO [2005, 2008, 10100]] (ps := [(0 + 2 ≤ 2), (C Tryd.prog 119 [T.agg [tl r10, ti r10b]] (tb (isStateN r10 r10b))), (List.length (List.map (T.int .i64) r10) = (List.length r10) * 1)]) (e := .normal) (σ' := ⟨[2005, 10100, 2008], [(12, vb (isStateN r10 r10b)), (5, V.ref 2005 0), (4, V.t (T.str (ByteArray.mk #[49, 58, 48, 48, 49, 45]))), (3, V.ref 2008 0), (2, V.t (T.str (ByteArray.mk #[])))], [(2005, ov 82 [vo 10100 (List.length r10), vi r10b]), (2008, oc 127 [ty r10c, ti r10d, T.int .u64 r10e]), (10100, oc 3 (List.map (T.int .i64) r10))]⟩) (by kernel_rfl) ⟨by decide, (l2State_C r10 r10b c1), by first | rfl | omega | (simp only [tlL] <;> omega) | (simp <;> omega) | (simp [] <;> omega), trivial⟩ ?_
    rcases ite_some h with ⟨h1, h⟩ | ⟨h1, h⟩
    · -- yes
      refine WP.cond (b := isStateN r10 r10b) rfl (fun _ => ?_) (fun hh => by rw [h1] at hh; cases hh)
      obtain ⟨r14, c2, h⟩ := bnd1_some h
      refine WP.path tab_ok mixed [(14, An.call (T.str r14))] [.keep [4, 3, 2], .keepO [2008], .names [(2008, 2008)]] (ps := [(0 + 2 ≤ 2), (C Tryd.prog 125 [T.agg [tl r10, ti r10b]] (T.str r14)), (List.length (List.map (T.int .i64) r10) = (List.length r10) * 1)]) (e := .normal) (σ' := ⟨[2008], [(4, V.t (T.str r14)), (3, V.ref 2008 0), (2, V.t (T.str (ByteArray.mk #[])))], [(2008, oc 127 [ty r10c, ti r10d, T.int .u64 r10e])]⟩) (by kernel_rfl) ⟨by decide, (F_spec_l2Text_W r10 r10b r14 c2), by first | rfl | omega | (simp only [tlL] <;> omega) | (simp <;> omega) | (simp [] <;> omega), trivial⟩ ?_
      exact ⟨(r10c, r10d, r10e, r14), h, rfl⟩
    · -- no
      refine WP.cond (b := isStateN r10 r10b) rfl (fun hh => by rw [h1] at hh; cases hh) (fun _ => ?_)
      refine WP.path tab_ok mixed [] [.keep [4, 3, 2], .keepO [2008], .names [(2008, 2008)]] (ps := []) (e := .normal) (σ' := ⟨[2008], [(4, V.t (T.str (ByteArray.mk #[49, 58, 48, 48, 49, 45]))), (3, V.ref 2008 0), (2, V.t (T.str (ByteArray.mk #[])))], [(2008, oc 127 [ty r10c, ti r10d, T.int .u64 r10e])]⟩) (by kernel_rfl) trivial ?_
      exact ⟨(r10c, r10d, r10e, (ByteArray.mk #[49, 58, 48, 48, 49, 45])), h, rfl⟩
  · -- from there
    rintro ⟨o8, o8b, o8c, v4⟩ h0
    have h := (show J1 o8 o8b o8c v4 = some y0 from h0)
    rw [hJ1] at h
    refine WP.seq ?_
    refine WP.seq ?_
    obtain ⟨r16, r16b, r16c, r16d, c0, h⟩ := bnd4_some h
    refine WP.path tab_ok mixed [(16, An.callG [(500, 2008)] [V.ref 500 0, vi 3] [(500, oc 127 [ty o8, ti o8b, T.int .u64 o8c])] (vb r16) [(500, oc 127 [ty r16b, ti r16c, T.int .u64 r16d])])] [.keep [16, 4, 3, 2], .keepO [2008]] (ps := [(CG Tryd.prog 98 [V.ref 500 0, vi 3] [(500, oc 127 [ty o8, ti o8b, T.int .u64 o8c])] (vb r16) [(500, oc 127 [ty r16b, ti r16c, T.int .u64 r16d])]), ((V.ref 500 0).ren (renF [(500, 2008)]) = V.ref 2008 0), (WkT (ti 3) (ti 3)), ((oc 127 [ty o8, ti o8b, T.int .u64 o8c]) = (oc 127 [ty o8, ti o8b, T.int .u64 o8c]).ren (renF [(500, 2008)]))]) (e := .normal) (σ' := ⟨[2008], [(16, vb r16), (4, V.t (T.str v4)), (3, V.ref 2008 0), (2, V.t (T.str (ByteArray.mk #[])))], [(2008, oc 127 [ty r16b, ti r16c, T.int .u64 r16d])]⟩) (by kernel_rfl) ⟨(F_p_spec_l1Cur_one_W o8 o8b o8c (3 : Int) r16 r16b r16c r16d c0), by first | rfl | (simp [V.ren, V.renL, renF, lk]; done) | (simp [V.ren, V.renL, renF, lk]; omega), WkT.refl _, by first | rfl | (simp only [tlS]; rfl) | (simp [Tl.Obj.ren, V.ren, V.renL, renF, lk]; done), trivial⟩ ?_
    rcases ite_some h with ⟨h2, h⟩ | ⟨h2, h⟩
    · -- yes
      refine WP.cond (b := r16) rfl (fun _ => ?_) (fun hh => by rw [h2] at hh; cases hh)
      obtain ⟨r19, r19b, r19c, r19d, c1, h⟩ := bnd4_some h
      refine WP.path tab_ok mixed [(19, An.callG [(500, 2008)] [V.ref 500 0, V.t (T.str v4), V.t (T.str (ByteArray.mk #[48, 49, 50, 45, 58, 51, 32]))] [(500, oc 127 [ty r16b, ti r16c, T.int .u64 r16d])] (V.t (T.str r19)) [(500, oc 127 [ty r19b, ti r19c, T.int .u64 r19d])])] [.keep [4, 2], .keepO []] (ps := [(CG Tryd.prog 103 [V.ref 500 0, V.t (T.str v4), V.t (T.str (ByteArray.mk #[48, 49, 50, 45, 58, 51, 32]))] [(500, oc 127 [ty r16b, ti r16c, T.int .u64 r16d])] (V.t (T.str r19)) [(500, oc 127 [ty r19b, ti r19c, T.int .u64 r19d])]), ((V.ref 500 0).ren (renF [(500, 2008)]) = V.ref 2008 0), (WkT (T.str v4) (T.str v4)), (WkT (T.str (ByteArray.mk #[48, 49, 50, 45, 58, 51, 32])) (T.str (ByteArray.mk #[48, 49, 50, 45, 58, 51, 32]))), ((oc 127 [ty r16b, ti r16c, T.int .u64 r16d]) = (oc 127 [ty r16b, ti r16c, T.int .u64 r16d]).ren (renF [(500, 2008)]))]) (e := .normal) (σ' := ⟨[2008], [(4, V.t (T.str r19)), (2, V.t (T.str (ByteArray.mk #[])))], []⟩) (by kernel_rfl) ⟨(F_p_spec_l1Cur_spoilt_W r16b r16c r16d v4 (ByteArray.mk #[48, 49, 50, 45, 58, 51, 32]) r19 r19b r19c r19d c1), by first | rfl | (simp [V.ren, V.renL, renF, lk]; done) | (simp [V.ren, V.renL, renF, lk]; omega), WkT.refl _, WkT.refl _, by first | rfl | (simp only [tlS]; rfl) | (simp [Tl.Obj.ren, V.ren, V.renL, renF, lk]; done), trivial⟩ ?_
      have h := Option.some.inj h
      subst h
      exact WP.pathW tab_ok mixed [] _ (ps := []) (r := T.str r19) (by kernel_rfl) trivial (WkT.eq (y := T.str r19) (WkT.refl _) rfl) (fun _ h => h)
    · -- no
      refine WP.cond (b := r16) rfl (fun hh => by rw [h2] at hh; cases hh) (fun _ => ?_)
      refine WP.path tab_ok mixed [] [.keep [4, 2], .keepO []] (ps := []) (e := .normal) (σ' := ⟨[2008], [(4, V.t (T.str v4)), (2, V.t (T.str (ByteArray.mk #[])))], []⟩) (by kernel_rfl) trivial ?_
      have h := Option.some.inj h
      subst h
      exact WP.pathW tab_ok mixed [] _ (ps := []) (r := T.str v4) (by kernel_rfl) trivial (WkT.eq (y := T.str v4) (WkT.refl _) rfl) (fun _ h => h)
theorem F_impl_ParseState_W (x0 : ByteArray) (y0 : List Int) (y1 : Int) (y2 : Bool) (h : F_impl_ParseState x0 = some (y0, y1, y2)) : CG Tryd.prog 69 [V.t (T.str x0)] [] (V.tup [V.agg [vo 9000 (List.length y0), vi y1], vb y2]) [(9000, oc 3 (List.map (T.int .i64) y0))] := by
  unfold F_impl_ParseState at h
  refine CG.intro (tab := tab) tab_ok (fn := Tryd.f69) Tryd.func69 (by kernel_rfl) rfl (Nat.le_of_ble_eq_true rfl) (by kernel_rfl) ?_
  refine WP.seq ?_
  refine WP.path tab_ok mixed [(2, An.id 2002)] [.keep [3, 2, 0], .keepO [2002]] (ps := []) (e := .normal) (σ' := ⟨[2002], [(3, vb false), (2, V.ref 2002 0), (0, V.t (T.str x0))], [(2002, oc 82 [T.nils, ti 0])]⟩) (by kernel_rfl) trivial ?_
  refine WP.seq ?_
  refine WP.seq ?_
  refine WP.path tab_ok mixed [(11, An.call (tb (decide ((3 : Int) ≤ ((ByteArray.size x0 : Nat) : Int)) && decide (((ByteArray.size x0 : Nat) : Int) ≤ (14 : Int)))))] [.keep [12, 3, 2, 0], .keepO [2002]] (ps := [(C Tryd.prog 83 [ti ((ByteArray.size x0 : Nat) : Int), ti 3, ti 14] (tb (decide ((3 : Int) ≤ ((ByteArray.size x0 : Nat) : Int)) && decide (((ByteArray.size x0 : Nat) : Int) ≤ (14 : Int)))))]) (e := .normal) (σ' := ⟨[2002], [(12, vb (!(decide ((3 : Int) ≤ ((ByteArray.size x0 : Nat) : Int)) && decide (((ByteArray.size x0 : Nat) : Int) ≤ (14 : Int))))), (3, vb false), (2, V.ref 2002 0), (0, V.t (T.str x0))], [(2002, oc 82 [T.nils, ti 0])]⟩) (by kernel_rfl) ⟨(by have hh := (in_C ((ByteArray.size x0 : Nat) : Int) (3 : Int) (14 : Int)); first | exact hh | simpa using hh), trivial⟩ ?_
  rcases ite_some h with ⟨h1, h⟩ | ⟨h1, h⟩
  · -- yes
    refine WP.cond (b := !(decide ((3 : Int) ≤ ((ByteArray.size x0 : Nat) : Int)) && decide (((ByteArray.size x0 : Nat) : Int) ≤ (14 : Int)))) rfl (fun _ => ?_) (fun hh => by rw [h1] at hh; cases hh)
    simp only [Option.some.injEq, Prod.mk.injEq] at h
    obtain ⟨rfl, rfl, rfl⟩ := h
    exact WP.pathG tab_ok mixed [] [.keep [2, 3], .keepO [2002], .names [(2002, 2002)]] [] _ (r' := V.tup [V.agg [vo 9000 (List.length ([] : List Int)), vi (0 : Int)], vb false]) (ps := [(True), ((0 + 2 ≤ 2 ∧ 2 = 2)), (0 + 2 ≤ 2)]) (r := V.t (T.tup [T.agg [T.nils, ti 0], tb false])) (N := [2002]) (O := []) [(9000, 3)] (by kernel_rfl) ⟨trivial, by decide, by first | decide | omega | (simp only [tlL] <;> omega) | (simp <;> omega) | (simp [] <;> omega), trivial⟩ ⟨(by first | rfl | (simp; done)), (WkT.eq (WkT.refl _) (by first | rfl | (simp only [tlS, tl, vl, vo, oc, ov, tbl, vbl, ty, vy] <;> rfl) | (simp <;> omega) | (simp []; done) | (rw [List.take_of_length_le (by simp [])] <;> rfl) | (simp [List.take_of_length_le]; done))), (WkT.refl _), trivial⟩ rfl rfl (fun _ h => h)
  · -- no
    refine WP.cond (b := !(decide ((3 : Int) ≤ ((ByteArray.size x0 : Nat) : Int)) && decide (((ByteArray.size x0 : Nat) : Int) ≤ (14 : Int)))) rfl (fun hh => by rw [h1] at hh; cases hh) (fun _ => ?_)
    refine WP.path tab_ok mixed [] [.keep [3, 2, 0], .keepO [2002]] (ps := []) (e := .normal) (σ' := ⟨[2002], [(3, vb false), (2, V.ref 2002 0), (0, V.t (T.str x0))], [(2002, oc 82 [T.nils, ti 0])]⟩) (by kernel_rfl) trivial ?_
    refine WP.seq ?_
    obtain ⟨c0, h⟩ := chk_some h
    obtain ⟨c1, h⟩ := chk_some h
    obtain ⟨c2, h⟩ := chk_some h
    refine WP.path tab_ok mixed [(16, An.v (T.int .i64 (byteAt x0 0))), (17, An.v (T.int .i64 ((byteAt x0 0) - (48 : Int)))), (4, An.id 2004)] [.keep [4, 3, 2, 0], .adoptO 2004 [vo 720040 0, vi ((byteAt x0 0) - (48 : Int))] [(720040, 3)], .keepO [2002, 2004, 720040]] (ps := [((0 ≤ (0 : Int) ∧ (0 : Int) < ((ByteArray.size x0 : Nat) : Int))), (T.int .i64 (IntKind.wrap .i64 (byteAt x0 0)) = T.int .i64 (byteAt x0 0)), (True), (T.int .i64 (IntKind.wrap .i64 ((byteAt x0 0) - (48 : Int))) = T.int .i64 ((byteAt x0 0) - (48 : Int))), ((1 = 1 ∧ 1 + 1 ≤ 2) ∧ True), ((0 + 2 ≤ 2 ∧ 2 = 2)), (((0 : Nat) = 0)), ((WkT (ti ((byteAt x0 0) - (48 : Int))) (ti ((byteAt x0 0) - (48 : Int)))))]) (e := .normal) (σ' := ⟨[720040, 2004, 2002], [(4, V.ref 2004 0), (3, vb false), (2, V.ref 2002 0), (0, V.t (T.str x0))], [(2002, oc 82 [T.nils, ti 0]), (2004, ov 82 [vo 720040 0, vi ((byteAt x0 0) - (48 : Int))]), (720040, oc 3 [])]⟩) (by kernel_rfl) ⟨c0, wrapI c1, trivial, wrapI c2, ⟨⟨by first | rfl | (simp; done) | (simp []; done) | omega, by first | decide | (simp; done) | (simp []; done) | omega | (simp only [tlL]; omega) | (simp; omega)⟩, trivial⟩, by decide, rfl, WkT.refl _, trivial⟩ ?_
    obtain ⟨J1, hJ1, h⟩ := jn_some h
    refine WP.joinA (fun (zz : (List Int)) => ⟨[2002, 2004, 720040], [(4, V.ref 2004 0), (3, vb false), (2, V.ref 2002 0), (0, V.t (T.str x0))], [(2002, oc 82 [T.nils, ti 0]), (2004, ov 82 [vo 720040 (List.length zz), vi ((byteAt x0 0) - (48 : Int))]), (720040, oc 3 (List.map (T.int .i64) zz))]⟩) (fun zz => J1 zz = some (y0, y1, y2)) ?_ ?_
    · -- to where they meet
      refine WP.seq ?_
      refine WP.path tab_ok mixed [] [.keep [5, 4, 3, 2, 0], .keepO [2002, 2004, 720040]] (ps := []) (e := .normal) (σ' := ⟨[720040, 2004, 2002], [(5, vi 2), (4, V.ref 2004 0), (3, vb false), (2, V.ref 2002 0), (0, V.t (T.str x0))], [(2002, oc 82 [T.nils, ti 0]), (2004, ov 82 [vo 720040 0, vi ((byteAt x0 0) - (48 : Int))]), (720040, oc 3 [])]⟩) (by kernel_rfl) trivial ?_
      refine WP.block ?_
      refine WP.wk [.keep [5, 4, 3, 2, 0], .keepO [2002, 2004, 720040], .names [(2002, 2002), (2004, 2004), (720040, 720040)]] (σ' := ⟨[2002, 2004, 720040], [(5, vi 2), (4, V.ref 2004 0), (3, vb false), (2, V.ref 2002 0), (0, V.t (T.str x0))], [(2002, oc 82 [T.nils, ti 0]), (2004, ov 82 [vo 720040 0, vi ((byteAt x0 0) - (48 : Int))]), (720040, oc 3 [])]⟩) (ps := []) (by kernel_rfl) trivial ?_
      refine WP.st (σ' := ⟨[2002, 2004, 720040], [(5, vi (2 : Int)), (4, V.ref 2004 0), (3, vb false), (2, V.ref 2002 0), (0, V.t (T.str x0))], [(2002, oc 82 [T.nils, ti 0]), (2004, ov 82 [vo 720040 (List.length ([] : List Int)), vi ((byteAt x0 0) - (48 : Int))]), (720040, oc 3 (List.map (T.int .i64) ([] : List Int)))]⟩) (by first | rfl | (simp only [tlS, tl, vl, vo, oc, ov, tbl, vbl, ty, vy] <;> rfl) | (simp <;> omega) | (simp []; done) | (rw [List.take_of_length_le (by simp [])] <;> rfl) | (simp [List.take_of_length_le]; done)) ?_
      refine WP.loop (α := Nat × (List Int) × Int) (fun zz => ⟨[2002, 2004, 720040], [(5, vi zz.2.2), (4, V.ref 2004 0), (3, vb false), (2, V.ref 2002 0), (0, V.t (T.str x0))], [(2002, oc 82 [T.nils, ti 0]), (2004, ov 82 [vo 720040 (List.length zz.2.1), vi ((byteAt x0 0) - (48 : Int))]), (720040, oc 3 (List.map (T.int .i64) zz.2.1))]⟩) (fun zz => F_impl_ParseState_L1 x0 J1 zz.1 zz.2.1 zz.2.2 = some (y0, y1, y2)) (fun zz => zz.1) (fuel, ([] : List Int), (2 : Int)) h ?_
      rintro ⟨n, o720040, v5⟩ h0
      have h := (show F_impl_ParseState_L1 x0 J1 n o720040 v5 = some (y0, y1, y2) from h0)
      rcases n with _ | n
      · rw [F_impl_ParseState_L1] at h; cases h
      · rw [F_impl_ParseState_L1] at h
        refine WP.seq ?_
        refine WP.seq ?_
        refine WP.path tab_ok mixed [] [.keep [22, 5, 4, 3, 2, 0], .keepO [2002, 2004, 720040]] (ps := [(True)]) (e := .normal) (σ' := ⟨[2002, 2004, 720040], [(22, vb (decide (v5 < ((ByteArray.size x0 : Nat) : Int)))), (5, vi v5), (4, V.ref 2004 0), (3, vb false), (2, V.ref 2002 0), (0, V.t (T.str x0))], [(2002, oc 82 [T.nils, ti 0]), (2004, ov 82 [vo 720040 (List.length o720040), vi ((byteAt x0 0) - (48 : Int))]), (720040, oc 3 (List.map (T.int .i64) o720040))]⟩) (by kernel_rfl) ⟨trivial, trivial⟩ ?_
        rcases ite_some h with ⟨h2, h⟩ | ⟨h2, h⟩
        · -- yes
          refine WP.cond (b := decide (v5 < ((ByteArray.size x0 : Nat) : Int))) rfl (fun _ => ?_) (fun hh => by rw [h2] at hh; cases hh)
          refine WP.path tab_ok mixed [] [.keep [5, 4, 3, 2, 0], .keepO [2002, 2004, 720040]] (ps := []) (e := .normal) (σ' := ⟨[2002, 2004, 720040], [(5, vi v5), (4, V.ref 2004 0), (3, vb false), (2, V.ref 2002 0), (0, V.t (T.str x0))], [(2002, oc 82 [T.nils, ti 0]), (2004, ov 82 [vo 720040 (List.length o720040), vi ((byteAt x0 0) - (48 : Int))]), (720040, oc 3 (List.map (T.int .i64) o720040))]⟩) (by kernel_rfl) trivial ?_
          refine WP.seq ?_
          refine WP.block ?_
          refine WP.seq ?_
          obtain ⟨c3, h⟩ := chk_some h
          obtain ⟨c4, h⟩ := chk_some h
          obtain ⟨c5, h⟩ := chk_some h
          refine WP.path tab_ok mixed [(28, An.v (T.int .i64 (byteAt x0 (Int.toNat v5)))), (29, An.v (T.int .i64 ((byteAt x0 (Int.toNat v5)) - (48 : Int))))] [.keep [6, 5, 4, 3, 2, 0], .keepO [2002, 2004, 720040]] (ps := [((0 ≤ v5 ∧ v5 < ((ByteArray.size x0 : Nat) : Int))), (T.int .i64 (IntKind.wrap .i64 (byteAt x0 (Int.toNat v5))) = T.int .i64 (byteAt x0 (Int.toNat v5))), (True), (T.int .i64 (IntKind.wrap .i64 ((byteAt x0 (Int.toNat v5)) - (48 : Int))) = T.int .i64 ((byteAt x0 (Int.toNat v5)) - (48 : Int)))]) (e := .normal) (σ' := ⟨[2002, 2004, 720040], [(6, vi ((byteAt x0 (Int.toNat v5)) - (48 : Int))), (5, vi v5), (4, V.ref 2004 0), (3, vb false), (2, V.ref 2002 0), (0, V.t (T.str x0))], [(2002, oc 82 [T.nils, ti 0]), (2004, ov 82 [vo 720040 (List.length o720040), vi ((byteAt x0 0) - (48 : Int))]), (720040, oc 3 (List.map (T.int .i64) o720040))]⟩) (by kernel_rfl) ⟨c3, wrapI c4, trivial, wrapI c5, trivial⟩ ?_
          obtain ⟨J2, hJ2, h⟩ := jn_some h
          refine WP.joinA (fun (zz : Int) => ⟨[2002, 2004, 720040], [(6, vi zz), (5, vi v5), (4, V.ref 2004 0), (3, vb false), (2, V.ref 2002 0), (0, V.t (T.str x0))], [(2002, oc 82 [T.nils, ti 0]), (2004, ov 82 [vo 720040 (List.length o720040), vi ((byteAt x0 0) - (48 : Int))]), (720040, oc 3 (List.map (T.int .i64) o720040))]⟩) (fun zz => J2 zz = some (y0, y1, y2)) ?_ ?_
          · -- to where they meet
            refine WP.seq ?_
            refine WP.path tab_ok mixed [] [.keep [33, 6, 5, 4, 3, 2, 0], .keepO [2002, 2004, 720040]] (ps := [((0 ≤ v5 ∧ v5 < ((ByteArray.size x0 : Nat) : Int))), (True)]) (e := .normal) (σ' := ⟨[2002, 2004, 720040], [(33, vb ((byteAt x0 (Int.toNat v5)) == (45 : Int))), (6, vi ((byteAt x0 (Int.toNat v5)) - (48 : Int))), (5, vi v5), (4, V.ref 2004 0), (3, vb false), (2, V.ref 2002 0), (0, V.t (T.str x0))], [(2002, oc 82 [T.nils, ti 0]), (2004, ov 82 [vo 720040 (List.length o720040), vi ((byteAt x0 0) - (48 : Int))]), (720040, oc 3 (List.map (T.int .i64) o720040))]⟩) (by kernel_rfl) ⟨c3, trivial, trivial⟩ ?_
            rcases ite_some h with ⟨h3, h⟩ | ⟨h3, h⟩
            · -- yes
              refine WP.cond (b := (byteAt x0 (Int.toNat v5)) == (45 : Int)) rfl (fun _ => ?_) (fun hh => by rw [h3] at hh; cases hh)
              refine WP.path tab_ok mixed [] [.keep [6, 5, 4, 3, 2, 0], .keepO [2002, 2004, 720040], .names [(2002, 2002), (2004, 2004), (720040, 720040)]] (ps := []) (e := .normal) (σ' := ⟨[2002, 2004, 720040], [(6, vi (-1)), (5, vi v5), (4, V.ref 2004 0), (3, vb false), (2, V.ref 2002 0), (0, V.t (T.str x0))], [(2002, oc 82 [T.nils, ti 0]), (2004, ov 82 [vo 720040 (List.length o720040), vi ((byteAt x0 0) - (48 : Int))]), (720040, oc 3 (List.map (T.int .i64) o720040))]⟩) (by kernel_rfl) trivial ?_
              exact ⟨((-1 : Int)), h, (by first | rfl | (simp only [tlS, tl, vl, vo, oc, ov, tbl, vbl, ty, vy] <;> rfl) | (simp <;> omega) | (simp []; done) | (rw [List.take_of_length_le (by simp [])] <;> rfl) | (simp [List.take_of_length_le]; done))⟩
            · -- no
              refine WP.cond (b := (byteAt x0 (Int.toNat v5)) == (45 : Int)) rfl (fun hh => by rw [h3] at hh; cases hh) (fun _ => ?_)
              refine WP.path tab_ok mixed [] [.keep [6, 5, 4, 3, 2, 0], .keepO [2002, 2004, 720040], .names [(2002, 2002), (2004, 2004), (720040, 720040)]] (ps := []) (e := .normal) (σ' := ⟨[2002, 2004, 720040], [(6, vi ((byteAt x0 (Int.toNat v5)) - (48 : Int))), (5, vi v5), (4, V.ref 2004 0), (3, vb false), (2, V.ref 2002 0), (0, V.t (T.str x0))], [(2002, oc 82 [T.nils, ti 0]), (2004, ov 82 [vo 720040 (List.length o720040), vi ((byteAt x0 0) - (48 : Int))]), (720040, oc 3 (List.map (T.int .i64) o720040))]⟩) (by kernel_rfl) trivial ?_
              exact ⟨(((byteAt x0 (Int.toNat v5)) - (48 : Int))), h, rfl⟩
          · -- from there
            intro v6 h0
            have h := (show J2 v6 = some (y0, y1, y2) from h0)
            rw [hJ2] at h
            obtain ⟨c6, h⟩ := chk_some h
            refine WP.path tab_ok mixed [(37, An.fz), (38, An.id 2038)] [.keep [5, 4, 3, 2, 0], .keepO [2002, 2004, 2038]] (ps := [(True), ((1 = 1 ∧ 0 + 1 ≤ 1) ∧ True), (1 = 1 * 1), (True), (List.length (List.map (T.int .i64) o720040) = (List.length o720040) * 1), ((((List.length o720040) + 1) * 8 ≤ 140737488355328 ∧ (List.length o720040) + 1 ≤ maxLen)), (0 < 2)]) (e := .normal) (σ' := ⟨[2038, 2002, 2004, 720040], [(5, vi v5), (4, V.ref 2004 0), (3, vb false), (2, V.ref 2002 0), (0, V.t (T.str x0))], [(2002, oc 82 [T.nils, ti 0]), (2004, ov 82 [vo 2038 ((List.length o720040) + 1), vi ((byteAt x0 0) - (48 : Int))]), (2038, oc 3 ((List.map (T.int .i64) o720040) ++ [ti v6]))]⟩) (by kernel_rfl) ⟨trivial, ⟨⟨by first | rfl | (simp; done) | (simp []; done) | omega, by first | decide | (simp; done) | (simp []; done) | omega | (simp only [tlL]; omega) | (simp; omega)⟩, trivial⟩, by decide, trivial, by first | rfl | omega | (simp only [tlL] <;> omega) | (simp <;> omega) | (simp [] <;> omega), c6, by decide, trivial⟩ ?_
            obtain ⟨c7, h⟩ := chk_some h
            refine WP.path tab_ok mixed [(24, An.v (T.int .i64 (v5 + (1 : Int))))] [.keep [5, 4, 3, 2, 0], .keepO [2002, 2004, 2038], .names [(2002, 2002), (2004, 2004), (2038, 720040)]] (ps := [(True), (T.int .i64 (IntKind.wrap .i64 (v5 + (1 : Int))) = T.int .i64 (v5 + (1 : Int)))]) (e := .normal) (σ' := ⟨[2002, 2004, 720040], [(5, vi (v5 + (1 : Int))), (4, V.ref 2004 0), (3, vb false), (2, V.ref 2002 0), (0, V.t (T.str x0))], [(2002, oc 82 [T.nils, ti 0]), (2004, ov 82 [vo 720040 ((List.length o720040) + 1), vi ((byteAt x0 0) - (48 : Int))]), (720040, oc 3 ((List.map (T.int .i64) o720040) ++ [ti v6]))]⟩) (by kernel_rfl) ⟨trivial, wrapI c7, trivial⟩ ?_
            exact ⟨(n, o720040 ++ [v6], (v5 + (1 : Int))), h, Nat.lt_succ_self _, (by first | rfl | (simp only [tlS, tl, vl, vo, oc, ov, tbl, vbl, ty, vy] <;> rfl) | (simp <;> omega) | (simp []; done) | (rw [List.take_of_length_le (by simp [])] <;> rfl) | (simp [List.take_of_length_le]; done))⟩
        · -- no
          refine WP.cond (b := decide (v5 < ((ByteArray.size x0 : Nat) : Int))) rfl (fun hh => by rw [h2] at hh; cases hh) (fun _ => ?_)
          refine WP.path tab_ok mixed [] [.keep [4, 3, 2, 0], .keepO [2002, 2004, 720040], .names [(2002, 2002), (2004, 2004), (720040, 720040)]] (ps := []) (e := (.exit 0)) (σ' := ⟨[2002, 2004, 720040], [(4, V.ref 2004 0), (3, vb false), (2, V.ref 2002 0), (0, V.t (T.str x0))], [(2002, oc 82 [T.nils, ti 0]), (2004, ov 82 [vo 720040 (List.length o720040), vi ((byteAt x0 0) - (48 : Int))]), (720040, oc 3 (List.map (T.int .i64) o720040))]⟩) (by kernel_rfl) trivial ?_
          exact ⟨(o720040), h, rfl⟩
    · -- from there
      intro o720040 h0
      have h := (show J1 o720040 = some (y0, y1, y2) from h0)
      rw [hJ1] at h
      refine WP.seq ?_
      refine WP.seq ?_
      obtain ⟨r42, r42b, c3, h⟩ := bnd2_some h
      refine WP.path tab_ok mixed [(42, An.call (T.tup [T.str r42, tb r42b]))] [.keep [8, 7, 4, 3, 2, 0], .keepO [2002, 2004, 720040]] (ps := [(0 + 2 ≤ 2), (C Tryd.prog 65 [T.agg [tl o720040, ti ((byteAt x0 0) - (48 : Int))]] (T.tup [T.str r42, tb r42b])), (List.length (List.map (T.int .i64) o720040) = (List.length o720040) * 1)]) (e := .normal) (σ' := ⟨[2002, 2004, 720040], [(8, vb r42b), (7, V.t (T.str r42)), (4, V.ref 2004 0), (3, vb false), (2, V.ref 2002 0), (0, V.t (T.str x0))], [(2002, oc 82 [T.nils, ti 0]), (2004, ov 82 [vo 720040 (List.length o720040), vi ((byteAt x0 0) - (48 : Int))]), (720040, oc 3 (List.map (T.int .i64) o720040))]⟩) (by kernel_rfl) ⟨by decide, (F_impl_StateText_W o720040 ((byteAt x0 0) - (48 : Int)) r42 r42b c3), by first | rfl | omega | (simp only [tlL] <;> omega) | (simp <;> omega) | (simp [] <;> omega), trivial⟩ ?_
      obtain ⟨J1, hJ1, h⟩ := jn_some h
      refine WP.joinA (fun (zz : Bool) => ⟨[2002, 2004, 720040], [(51, vb zz), (4, V.ref 2004 0), (3, vb false), (2, V.ref 2002 0)], [(2002, oc 82 [T.nils, ti 0]), (2004, ov 82 [vo 720040 (List.length o720040), vi ((byteAt x0 0) - (48 : Int))]), (720040, oc 3 (List.map (T.int .i64) o720040))]⟩) (fun zz => J1 zz = some (y0, y1, y2)) ?_ ?_
      · -- to where they meet
        rcases ite_some h with ⟨h4, h⟩ | ⟨h4, h⟩
        · -- yes
          refine WP.path tab_ok mixed [(47, An.b true)] [.keep [51, 4, 3, 2], .keepO [2002, 2004, 720040], .names [(2002, 2002), (2004, 2004), (720040, 720040)]] (ps := [((!r42b) = true)]) (e := .normal) (σ' := ⟨[2002, 2004, 720040], [(51, vb true), (4, V.ref 2004 0), (3, vb false), (2, V.ref 2002 0)], [(2002, oc 82 [T.nils, ti 0]), (2004, ov 82 [vo 720040 (List.length o720040), vi ((byteAt x0 0) - (48 : Int))]), (720040, oc 3 (List.map (T.int .i64) o720040))]⟩) (by kernel_rfl) ⟨h4, trivial⟩ ?_
          exact ⟨(true), h, rfl⟩
        · -- no
          refine WP.path tab_ok mixed [(47, An.b false)] [.keep [51, 4, 3, 2], .keepO [2002, 2004, 720040], .names [(2002, 2002), (2004, 2004), (720040, 720040)]] (ps := [((!r42b) = false), (True)]) (e := .normal) (σ' := ⟨[2002, 2004, 720040], [(51, vb (!(r42.toList == x0.toList))), (4, V.ref 2004 0), (3, vb false), (2, V.ref 2002 0)], [(2002, oc 82 [T.nils, ti 0]), (2004, ov 82 [vo 720040 (List.length o720040), vi ((byteAt x0 0) - (48 : Int))]), (720040, oc 3 (List.map (T.int .i64) o720040))]⟩) (by kernel_rfl) ⟨h4, trivial, trivial⟩ ?_
          exact ⟨(!(r42.toList == x0.toList)), h, rfl⟩
      · -- from there
        intro v51 h0
        have h := (show J1 v51 = some (y0, y1, y2) from h0)
        rw [hJ1] at h
        rcases ite_some h with ⟨h5, h⟩ | ⟨h5, h⟩
        · -- yes
          refine WP.cond (b := v51) rfl (fun _ => ?_) (fun hh => by rw [h5] at hh; cases hh)
          simp only [Option.some.injEq, Prod.mk.injEq] at h
          obtain ⟨rfl, rfl, rfl⟩ := h
          exact WP.pathG tab_ok mixed [] [.keep [2, 3], .keepO [2002], .names [(2002, 2002)]] [] _ (r' := V.tup [V.agg [vo 9000 (List.length ([] : List Int)), vi (0 : Int)], vb false]) (ps := [(True), ((0 + 2 ≤ 2 ∧ 2 = 2)), (0 + 2 ≤ 2)]) (r := V.t (T.tup [T.agg [T.nils, ti 0], tb false])) (N := [2002]) (O := []) [(9000, 3)] (by kernel_rfl) ⟨trivial, by decide, by first | decide | omega | (simp only [tlL] <;> omega) | (simp <;> omega) | (simp [] <;> omega), trivial⟩ ⟨(by first | rfl | (simp; done)), (WkT.eq (WkT.refl _) (by first | rfl | (simp only [tlS, tl, vl, vo, oc, ov, tbl, vbl, ty, vy] <;> rfl) | (simp <;> omega) | (simp []; done) | (rw [List.take_of_length_le (by simp [])] <;> rfl) | (simp [List.take_of_length_le]; done))), (WkT.refl _), trivial⟩ rfl rfl (fun _ h => h)
        · -- no
          refine WP.cond (b := v51) rfl (fun hh => by rw [h5] at hh; cases hh) (fun _ => ?_)
          refine WP.path tab_ok mixed [] [.keep [4, 3, 2], .keepO [2002, 2004, 720040]] (ps := []) (e := .normal) (σ' := ⟨[2002, 2004, 720040], [(4, V.ref 2004 0), (3, vb false), (2, V.ref 2002 0)], [(2002, oc 82 [T.nils, ti 0]), (2004, ov 82 [vo 720040 (List.length o720040), vi ((byteAt x0 0) - (48 : Int))]), (720040, oc 3 (List.map (T.int .i64) o720040))]⟩) (by kernel_rfl) trivial ?_
          simp only [Option.some.injEq, Prod.mk.injEq] at h
          obtain ⟨rfl, rfl, rfl⟩ := h
          exact WP.pathG tab_ok mixed [] [.keep [2, 3], .keepO [720040, 2002], .names [(720040, 9000), (2002, 2002)]] [9000] _ (r' := V.tup [V.agg [vo 9000 (List.length o720040), vi ((byteAt x0 0) - (48 : Int))], vb true]) (ps := [(0 + 2 ≤ 2), ((0 + 2 ≤ 2 ∧ 2 = 2)), (0 + 2 ≤ 2)]) (r := V.tup [V.agg [vo 9000 (List.length o720040), vi ((byteAt x0 0) - (48 : Int))], vb true]) (N := [9000, 2002]) (O := [(9000, oc 3 (List.map (T.int .i64) o720040))]) [] (by kernel_rfl) ⟨by decide, by decide, by decide, trivial⟩ ⟨rfl, (WkT.refl _), (WkT.refl _), trivial⟩ rfl rfl (fun _ h => h)
theorem F_impl_ParseState_W_C (x0 : ByteArray) (y0 : List Int) (y1 : Int) (y2 : Bool) (h : F_impl_ParseState x0 = some (y0, y1, y2)) : C Tryd.prog 69 [T.str x0] (T.tup [T.agg [tl y0, ti y1], tb y2]) :=
  CG.toC (ps := [(List.length (List.map (T.int .i64) y0) = (List.length y0) * 1)]) (F_impl_ParseState_W  x0 y0 y1 y2 h) (by rfl) ⟨by first | rfl | omega | (simp <;> omega) | (simp [hl] <;> omega), trivial⟩

end Go.Proofs.YtfhmgiipcmmnlaaDoor.AuStatesa
