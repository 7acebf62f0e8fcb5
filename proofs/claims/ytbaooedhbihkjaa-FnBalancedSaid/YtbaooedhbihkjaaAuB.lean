/-
  The walks: each function of the program returns what the plain function beside it returns. No statement is proved here.
-/
import Derived.Test.YtbaooedhbihkjaaTlV
import Derived.Test.YtbaooedhbihkjaaTlCI
import Derived.Test.YtbaooedhbihkjaaAuBF
import Derived.Test.YtbaooedhbihkjaaProg
import Derived.Test.YtbaooedhbihkjaaAuBO
namespace Go.Proofs.Ytbaooedhbihkjaa.AuB
open Go Go.Tl Go.Proofs
open Go.Proofs.Ytbaooedhbihkjaa.AuBO hiding tab tab_ok mixed
set_option linter.unusedVariables false
set_option linter.unusedSimpArgs false
set_option maxRecDepth 100000
def tab : Tab := [(3, ⟨.int .i64, 1, 8, [.int .i64 0]⟩), (4, ⟨.bool, 1, 1, [.bool false]⟩), (5, ⟨.int .u8, 1, 1, [.int .u8 0]⟩), (25, ⟨.slice 3 1 8, 1, 24, [.nils]⟩), (27, ⟨.struct [(0, 1, false), (1, 1, false)], 2, 32, [.nils, .int .i64 0]⟩), (35, ⟨.slice 5 1 1, 1, 24, [.nils]⟩), (39, ⟨.array 2 3 1 false, 2, 16, [.int .i64 0, .int .i64 0]⟩), (52, ⟨.struct [(0, 1, false), (1, 1, false)], 2, 16, [.int .i64 0, .bool false]⟩), (109, ⟨.pointer 112, 1, 8, [.nilp]⟩), (110, ⟨.int .u64, 1, 8, [.int .u64 0]⟩), (112, ⟨.struct [(0, 1, false), (1, 1, false), (2, 1, false)], 3, 40, [.nils, .int .i64 0, .int .u64 0]⟩)]
theorem tab_ok : chkTab Try.prog tab = true := by kernel_rfl
theorem mixed : Try.prog.follows .mixedOrders = true := by kernel_rfl
theorem F_p_spec_l1Cur_next_W (x0 : List Int) (x1 : Int) (x2 : Int) (y0 : Int) (y1 : List Int) (y2 : Int) (y3 : Int) (h : F_p_spec_l1Cur_next x0 x1 x2 = some (y0, y1, y2, y3)) : CG Try.prog 179 [V.ref 500 0] [(500, oc 112 [ty x0, ti x1, T.int .u64 x2])] (vi y0) [(500, oc 112 [ty y1, ti y2, T.int .u64 y3])] := by
  unfold F_p_spec_l1Cur_next at h
  refine CG.intro (tab := tab) tab_ok (fn := Try.f179) Try.func179 (by kernel_rfl) rfl (Nat.le_of_ble_eq_true rfl) (by kernel_rfl) ?_
  refine WP.seq ?_
  refine WP.path tab_ok mixed [] [.keep [2, 0], .keepO [500]] (ps := []) (e := .normal) (σ' := ⟨[500], [(2, vi 0), (0, V.ref 500 0)], [(500, oc 112 [ty x0, ti x1, T.int .u64 x2])]⟩) (by kernel_rfl) trivial ?_
  refine WP.seq ?_
  refine WP.path tab_ok mixed [] [.keep [3, 2, 0], .keepO [500]] (ps := []) (e := .normal) (σ' := ⟨[500], [(3, vi 0), (2, vi 0), (0, V.ref 500 0)], [(500, oc 112 [ty x0, ti x1, T.int .u64 x2])]⟩) (by kernel_rfl) trivial ?_
  obtain ⟨J1, hJ1, h⟩ := jn_some h
  refine WP.joinA (fun (zz : Int) => ⟨[500], [(3, vi zz), (2, vi 0), (0, V.ref 500 0)], [(500, oc 112 [ty x0, ti x1, T.int .u64 x2])]⟩) (fun zz => J1 zz = some (y0, y1, y2, y3)) ?_ ?_
  · -- to where they meet
    refine WP.seq ?_
    refine WP.path tab_ok mixed [] [.keep [13, 3, 2, 0], .keepO [500]] (ps := [(True), (True), (True)]) (e := .normal) (σ' := ⟨[500], [(13, vb (decide (x1 < ((List.length x0 : Nat) : Int)))), (3, vi 0), (2, vi 0), (0, V.ref 500 0)], [(500, oc 112 [ty x0, ti x1, T.int .u64 x2])]⟩) (by kernel_rfl) ⟨trivial, trivial, trivial, trivial⟩ ?_
    rcases ite_some h with ⟨h1, h⟩ | ⟨h1, h⟩
    · -- yes
      refine WP.cond (b := decide (x1 < ((List.length x0 : Nat) : Int))) rfl (fun _ => ?_) (fun hh => by rw [h1] at hh; cases hh)
      obtain ⟨c0, h⟩ := chk_some h
      obtain ⟨c1, h⟩ := chk_some h
      refine WP.path tab_ok mixed [(23, An.v (T.int .u8 (List.getD x0 (Int.toNat x1) 0))), (24, An.v (T.int .i64 (List.getD x0 (Int.toNat x1) 0)))] [.keep [3, 2, 0], .keepO [500], .names [(500, 500)]] (ps := [(True), (True), ((0 ≤ x1 ∧ x1 < ((List.length x0 : Nat) : Int))), ((List.drop ((Int.toNat x1) * 1) (List.map (T.int .u8) x0) : List T)[0]? = some (T.int .u8 (List.getD x0 (Int.toNat x1) 0))), (T.int .u8 (List.getD x0 (Int.toNat x1) 0) = T.int .u8 (List.getD x0 (Int.toNat x1) 0)), (T.int .i64 (IntKind.wrap .i64 (List.getD x0 (Int.toNat x1) 0)) = T.int .i64 (List.getD x0 (Int.toNat x1) 0))]) (e := .normal) (σ' := ⟨[500], [(3, vi (List.getD x0 (Int.toNat x1) 0)), (2, vi 0), (0, V.ref 500 0)], [(500, oc 112 [ty x0, ti x1, T.int .u64 x2])]⟩) (by kernel_rfl) ⟨trivial, trivial, c0, at1 (by simp) (by omega), rfl, wrapI c1, trivial⟩ ?_
      exact ⟨((List.getD x0 (Int.toNat x1) 0)), h, rfl⟩
    · -- no
      refine WP.cond (b := decide (x1 < ((List.length x0 : Nat) : Int))) rfl (fun hh => by rw [h1] at hh; cases hh) (fun _ => ?_)
      refine WP.path tab_ok mixed [] [.keep [3, 2, 0], .keepO [500], .names [(500, 500)]] (ps := []) (e := .normal) (σ' := ⟨[500], [(3, vi 0), (2, vi 0), (0, V.ref 500 0)], [(500, oc 112 [ty x0, ti x1, T.int .u64 x2])]⟩) (by kernel_rfl) trivial ?_
      exact ⟨((0 : Int)), h, (by first | rfl | (simp only [tlS, tl, vl, vo, oc, ov, tbl, vbl, ty, vy]; done) | (simp only [tlS, tl, vl, vo, oc, ov, tbl, vbl, ty, vy]; rfl) | (simp; done) | (simp []; done) | (rw [List.take_of_length_le (by simp [])]; done) | (rw [List.take_of_length_le (by simp [])]; rfl) | (simp only [tlL]; omega) | (simp; omega))⟩
  · -- from there
    intro v3 h0
    have h := (show J1 v3 = some (y0, y1, y2, y3) from h0)
    rw [hJ1] at h
    refine WP.seq ?_
    obtain ⟨c0, h⟩ := chk_some h
    refine WP.path tab_ok mixed [(29, An.v (T.int .i64 (x1 + (1 : Int))))] [.keep [3, 2, 0], .keepO [500]] (ps := [(True), (True), (T.int .i64 (IntKind.wrap .i64 (x1 + (1 : Int))) = T.int .i64 (x1 + (1 : Int))), (1 < 3)]) (e := .normal) (σ' := ⟨[500], [(3, vi v3), (2, vi 0), (0, V.ref 500 0)], [(500, oc 112 [ty x0, ti (x1 + (1 : Int)), T.int .u64 x2])]⟩) (by kernel_rfl) ⟨trivial, trivial, wrapI c0, by decide, trivial⟩ ?_
    refine WP.seq ?_
    obtain ⟨n37, c1, h⟩ := nam_some h
    obtain ⟨n40, c2, h⟩ := nam_some h
    refine WP.path tab_ok mixed [(37, An.v (T.int .u64 n37)), (40, An.v (T.int .u64 n40))] [.keep [3, 2, 0], .keepO [500]] (ps := [(True), (True), (T.int .u64 (IntKind.wrap .u64 (x2 * (6364136223846793005 : Int))) = T.int .u64 n37), (True), (T.int .u64 (IntKind.wrap .u64 (n37 + (IntKind.wrap .u64 v3))) = T.int .u64 n40), (True), (2 < 3)]) (e := .normal) (σ' := ⟨[500], [(3, vi v3), (2, vi 0), (0, V.ref 500 0)], [(500, oc 112 [ty x0, ti (x1 + (1 : Int)), T.int .u64 (IntKind.wrap .u64 (n40 + (462197 : Int)))])]⟩) (by kernel_rfl) ⟨trivial, trivial, congrArg (T.int .u64) c1, trivial, congrArg (T.int .u64) c2, trivial, by decide, trivial⟩ ?_
    refine WP.seq ?_
    refine WP.seq ?_
    refine WP.path tab_ok mixed [] [.keep [53, 3, 2, 0], .keepO [500]] (ps := [(True), (True), (True)]) (e := .normal) (σ' := ⟨[500], [(53, vb (decide ((x1 + (1 : Int)) ≤ ((List.length x0 : Nat) : Int)))), (3, vi v3), (2, vi 0), (0, V.ref 500 0)], [(500, oc 112 [ty x0, ti (x1 + (1 : Int)), T.int .u64 (IntKind.wrap .u64 (n40 + (462197 : Int)))])]⟩) (by kernel_rfl) ⟨trivial, trivial, trivial, trivial⟩ ?_
    rcases ite_some h with ⟨h2, h⟩ | ⟨h2, h⟩
    · -- yes
      refine WP.cond (b := decide ((x1 + (1 : Int)) ≤ ((List.length x0 : Nat) : Int))) rfl (fun _ => ?_) (fun hh => by rw [h2] at hh; cases hh)
      simp only [Option.some.injEq, Prod.mk.injEq] at h
      obtain ⟨rfl, rfl, rfl, rfl⟩ := h
      exact WP.pathG tab_ok mixed [] [.keep [2], .keepO [500], .names [(500, 500)]] [500] _ (r' := vi v3) (ps := []) (r := vi v3) (N := [500]) (O := [(500, oc 112 [ty x0, ti (x1 + (1 : Int)), T.int .u64 (IntKind.wrap .u64 (n40 + (462197 : Int)))])]) [] (by kernel_rfl) trivial ⟨(WkT.refl _), trivial⟩ rfl rfl (fun _ h => h)
    · -- no
      refine WP.cond (b := decide ((x1 + (1 : Int)) ≤ ((List.length x0 : Nat) : Int))) rfl (fun hh => by rw [h2] at hh; cases hh) (fun _ => ?_)
      refine WP.path tab_ok mixed [] [.keep [2, 0], .keepO [500]] (ps := []) (e := .normal) (σ' := ⟨[500], [(2, vi 0), (0, V.ref 500 0)], [(500, oc 112 [ty x0, ti (x1 + (1 : Int)), T.int .u64 (IntKind.wrap .u64 (n40 + (462197 : Int)))])]⟩) (by kernel_rfl) trivial ?_
      obtain ⟨n60, c3, h⟩ := nam_some h
      obtain ⟨c4, h⟩ := chk_some h
      simp only [Option.some.injEq, Prod.mk.injEq] at h
      obtain ⟨rfl, rfl, rfl, rfl⟩ := h
      exact WP.pathG tab_ok mixed [(59, An.v (T.int .u64 ((IntKind.wrap .u64 (n40 + (462197 : Int))) / 2 ^ Int.toNat (40 : Int)))), (60, An.v (T.int .u64 n60)), (61, An.v (T.int .i64 n60))] [.keep [2], .keepO [500], .names [(500, 500)]] [500] _ (r' := vi n60) (ps := [(True), (0 ≤ (40 : Int)), (T.int .u64 (Int.fdiv (IntKind.wrap .u64 (n40 + (462197 : Int))) (2 ^ (min (Int.toNat (40 : Int)) 64))) = T.int .u64 ((IntKind.wrap .u64 (n40 + (462197 : Int))) / 2 ^ Int.toNat (40 : Int))), (True), (T.int .u64 (bits .and .u64 ((IntKind.wrap .u64 (n40 + (462197 : Int))) / 2 ^ Int.toNat (40 : Int)) (255 : Int)) = T.int .u64 n60), (T.int .i64 (IntKind.wrap .i64 n60) = T.int .i64 n60)]) (r := vi n60) (N := [500]) (O := [(500, oc 112 [ty x0, ti (x1 + (1 : Int)), T.int .u64 (IntKind.wrap .u64 (n40 + (462197 : Int)))])]) [] (by kernel_rfl) ⟨trivial, (show (0 ≤ (40 : Int) ∧ (40 : Int) < 64) by first | decide | (simp only [maxLen]; omega) | (unfold I64; omega) | (unfold I64; decide)).1, shr_told (show (0 ≤ (40 : Int) ∧ (40 : Int) < 64) by first | decide | (simp only [maxLen]; omega) | (unfold I64; omega) | (unfold I64; decide)), trivial, congrArg (T.int .u64) c3, wrapI c4, trivial⟩ ⟨(WkT.refl _), trivial⟩ rfl rfl (fun _ h => h)
theorem F_p_spec_l1Cur_pick_W (x0 : List Int) (x1 : Int) (x2 : Int) (x3 : Int) (y0 : Int) (y1 : List Int) (y2 : Int) (y3 : Int) (h : F_p_spec_l1Cur_pick x0 x1 x2 x3 = some (y0, y1, y2, y3)) : CG Try.prog 133 [V.ref 500 0, vi x3] [(500, oc 112 [ty x0, ti x1, T.int .u64 x2])] (vi y0) [(500, oc 112 [ty y1, ti y2, T.int .u64 y3])] := by
  unfold F_p_spec_l1Cur_pick at h
  refine CG.intro (tab := tab) tab_ok (fn := Try.f133) Try.func133 (by kernel_rfl) rfl (Nat.le_of_ble_eq_true rfl) (by kernel_rfl) ?_
  refine WP.seq ?_
  refine WP.path tab_ok mixed [] [.keep [4, 0, 1], .keepO [500]] (ps := []) (e := .normal) (σ' := ⟨[500], [(4, vi 0), (0, V.ref 500 0), (1, vi x3)], [(500, oc 112 [ty x0, ti x1, T.int .u64 x2])]⟩) (by kernel_rfl) trivial ?_
  refine WP.seq ?_
  refine WP.seq ?_
  refine WP.path tab_ok mixed [] [.keep [7, 4, 0, 1], .keepO [500]] (ps := [(True)]) (e := .normal) (σ' := ⟨[500], [(7, vb (decide (x3 ≤ (1 : Int)))), (4, vi 0), (0, V.ref 500 0), (1, vi x3)], [(500, oc 112 [ty x0, ti x1, T.int .u64 x2])]⟩) (by kernel_rfl) ⟨trivial, trivial⟩ ?_
  rcases ite_some h with ⟨h1, h⟩ | ⟨h1, h⟩
  · -- yes
    refine WP.cond (b := decide (x3 ≤ (1 : Int))) rfl (fun _ => ?_) (fun hh => by rw [h1] at hh; cases hh)
    simp only [Option.some.injEq, Prod.mk.injEq] at h
    obtain ⟨rfl, rfl, rfl, rfl⟩ := h
    exact WP.pathG tab_ok mixed [] [.keep [4], .keepO [500], .names [(500, 500)]] [500] _ (r' := vi (0 : Int)) (ps := []) (r := vi 0) (N := [500]) (O := [(500, oc 112 [ty x0, ti x1, T.int .u64 x2])]) [] (by kernel_rfl) trivial ⟨(WkT.eq (WkT.refl _) (by first | rfl | (simp only [tlS, tl, vl, vo, oc, ov, tbl, vbl, ty, vy]; done) | (simp only [tlS, tl, vl, vo, oc, ov, tbl, vbl, ty, vy]; rfl) | (simp; done) | (simp []; done) | (rw [List.take_of_length_le (by simp [])]; done) | (rw [List.take_of_length_le (by simp [])]; rfl) | (simp only [tlL]; omega) | (simp; omega))), trivial⟩ rfl rfl (fun _ h => h)
  · -- no
    refine WP.cond (b := decide (x3 ≤ (1 : Int))) rfl (fun hh => by rw [h1] at hh; cases hh) (fun _ => ?_)
    refine WP.path tab_ok mixed [] [.keep [4, 0, 1], .keepO [500]] (ps := []) (e := .normal) (σ' := ⟨[500], [(4, vi 0), (0, V.ref 500 0), (1, vi x3)], [(500, oc 112 [ty x0, ti x1, T.int .u64 x2])]⟩) (by kernel_rfl) trivial ?_
    refine WP.seq ?_
    obtain ⟨r9, r9b, r9c, r9d, c0, h⟩ := bnd4_some h
    refine WP.path tab_ok mixed [(9, An.callG [(500, 500)] [V.ref 500 0] [(500, oc 112 [ty x0, ti x1, T.int .u64 x2])] (vi r9) [(500, oc 112 [ty r9b, ti r9c, T.int .u64 r9d])])] [.keep [5, 4, 0, 1], .keepO [500]] (ps := [(CG Try.prog 179 [V.ref 500 0] [(500, oc 112 [ty x0, ti x1, T.int .u64 x2])] (vi r9) [(500, oc 112 [ty r9b, ti r9c, T.int .u64 r9d])]), ((V.ref 500 0).ren (renF [(500, 500)]) = V.ref 500 0), ((oc 112 [ty x0, ti x1, T.int .u64 x2]) = (oc 112 [ty x0, ti x1, T.int .u64 x2]).ren (renF [(500, 500)]))]) (e := .normal) (σ' := ⟨[500], [(5, vi r9), (4, vi 0), (0, V.ref 500 0), (1, vi x3)], [(500, oc 112 [ty r9b, ti r9c, T.int .u64 r9d])]⟩) (by kernel_rfl) ⟨(F_p_spec_l1Cur_next_W x0 x1 x2 r9 r9b r9c r9d c0), by first | rfl | (simp [V.ren, V.renL, renF, lk]; done) | (simp [V.ren, V.renL, renF, lk]; omega), by first | rfl | (simp only [tlS]; rfl) | (simp [Tl.Obj.ren, V.ren, V.renL, renF, lk]; done), trivial⟩ ?_
    obtain ⟨J1, hJ1, h⟩ := jn_some h
    refine WP.joinA (fun (zz : (List Int) × Int × Int × Int) => ⟨[500], [(5, vi zz.2.2.2), (4, vi 0), (1, vi x3)], [(500, oc 112 [ty zz.1, ti zz.2.1, T.int .u64 zz.2.2.1])]⟩) (fun zz => J1 zz.1 zz.2.1 zz.2.2.1 zz.2.2.2 = some (y0, y1, y2, y3)) ?_ ?_
    · -- to where they meet
      refine WP.seq ?_
      refine WP.path tab_ok mixed [] [.keep [11, 5, 4, 0, 1], .keepO [500]] (ps := [(True)]) (e := .normal) (σ' := ⟨[500], [(11, vb (decide (x3 > (200 : Int)))), (5, vi r9), (4, vi 0), (0, V.ref 500 0), (1, vi x3)], [(500, oc 112 [ty r9b, ti r9c, T.int .u64 r9d])]⟩) (by kernel_rfl) ⟨trivial, trivial⟩ ?_
      rcases ite_some h with ⟨h2, h⟩ | ⟨h2, h⟩
      · -- yes
        refine WP.cond (b := decide (x3 > (200 : Int))) rfl (fun _ => ?_) (fun hh => by rw [h2] at hh; cases hh)
        obtain ⟨c1, h⟩ := chk_some h
        obtain ⟨r15, r15b, r15c, r15d, c2, h⟩ := bnd4_some h
        obtain ⟨c3, h⟩ := chk_some h
        refine WP.path tab_ok mixed [(13, An.v (T.int .i64 (r9 * (256 : Int)))), (15, An.callG [(500, 500)] [V.ref 500 0] [(500, oc 112 [ty r9b, ti r9c, T.int .u64 r9d])] (vi r15) [(500, oc 112 [ty r15b, ti r15c, T.int .u64 r15d])]), (16, An.v (T.int .i64 ((r9 * (256 : Int)) + r15)))] [.keep [5, 4, 1], .keepO [500], .names [(500, 500)]] (ps := [(True), (T.int .i64 (IntKind.wrap .i64 (r9 * (256 : Int))) = T.int .i64 (r9 * (256 : Int))), (CG Try.prog 179 [V.ref 500 0] [(500, oc 112 [ty r9b, ti r9c, T.int .u64 r9d])] (vi r15) [(500, oc 112 [ty r15b, ti r15c, T.int .u64 r15d])]), ((V.ref 500 0).ren (renF [(500, 500)]) = V.ref 500 0), ((oc 112 [ty r9b, ti r9c, T.int .u64 r9d]) = (oc 112 [ty r9b, ti r9c, T.int .u64 r9d]).ren (renF [(500, 500)])), (True), (T.int .i64 (IntKind.wrap .i64 ((r9 * (256 : Int)) + r15)) = T.int .i64 ((r9 * (256 : Int)) + r15))]) (e := .normal) (σ' := ⟨[500], [(5, vi ((r9 * (256 : Int)) + r15)), (4, vi 0), (1, vi x3)], [(500, oc 112 [ty r15b, ti r15c, T.int .u64 r15d])]⟩) (by kernel_rfl) ⟨trivial, wrapI c1, (F_p_spec_l1Cur_next_W r9b r9c r9d r15 r15b r15c r15d c2), by first | rfl | (simp [V.ren, V.renL, renF, lk]; done) | (simp [V.ren, V.renL, renF, lk]; omega), by first | rfl | (simp only [tlS]; rfl) | (simp [Tl.Obj.ren, V.ren, V.renL, renF, lk]; done), trivial, wrapI c3, trivial⟩ ?_
        exact ⟨(r15b, r15c, r15d, ((r9 * (256 : Int)) + r15)), h, rfl⟩
      · -- no
        refine WP.cond (b := decide (x3 > (200 : Int))) rfl (fun hh => by rw [h2] at hh; cases hh) (fun _ => ?_)
        refine WP.path tab_ok mixed [] [.keep [5, 4, 1], .keepO [500], .names [(500, 500)]] (ps := []) (e := .normal) (σ' := ⟨[500], [(5, vi r9), (4, vi 0), (1, vi x3)], [(500, oc 112 [ty r9b, ti r9c, T.int .u64 r9d])]⟩) (by kernel_rfl) trivial ?_
        exact ⟨(r9b, r9c, r9d, r9), h, rfl⟩
    · -- from there
      rintro ⟨o500, o500b, o500c, v5⟩ h0
      have h := (show J1 o500 o500b o500c v5 = some (y0, y1, y2, y3) from h0)
      rw [hJ1] at h
      obtain ⟨c1, h⟩ := chk_some h
      simp only [Option.some.injEq, Prod.mk.injEq] at h
      obtain ⟨rfl, rfl, rfl, rfl⟩ := h
      exact WP.pathG tab_ok mixed [] [.keep [4], .keepO [500], .names [(500, 500)]] [500] _ (r' := vi (Int.tmod v5 x3)) (ps := [(x3 ≠ 0)]) (r := vi (Int.tmod v5 x3)) (N := [500]) (O := [(500, oc 112 [ty o500, ti o500b, T.int .u64 o500c])]) [] (by kernel_rfl) ⟨c1, trivial⟩ ⟨(WkT.refl _), trivial⟩ rfl rfl (fun _ h => h)
theorem F_p_spec_l1Cur_among_W (x0 : List Int) (x1 : Int) (x2 : Int) (x3 : List Int) (y0 : Int) (y1 : List Int) (y2 : Int) (y3 : Int) (h : F_p_spec_l1Cur_among x0 x1 x2 x3 = some (y0, y1, y2, y3)) : CG Try.prog 152 [V.ref 500 0, vl x3] [(500, oc 112 [ty x0, ti x1, T.int .u64 x2])] (vi y0) [(500, oc 112 [ty y1, ti y2, T.int .u64 y3])] := by
  unfold F_p_spec_l1Cur_among at h
  refine CG.intro (tab := tab) tab_ok (fn := Try.f152) Try.func152 (by kernel_rfl) rfl (Nat.le_of_ble_eq_true rfl) (by kernel_rfl) ?_
  obtain ⟨r9, r9b, r9c, r9d, c0, h⟩ := bnd4_some h
  obtain ⟨c1, h⟩ := chk_some h
  simp only [Option.some.injEq, Prod.mk.injEq] at h
  obtain ⟨rfl, rfl, rfl, rfl⟩ := h
  exact WP.pathG tab_ok mixed [(9, An.callG [(500, 500)] [V.ref 500 0, vi ((List.length x3 : Nat) : Int)] [(500, oc 112 [ty x0, ti x1, T.int .u64 x2])] (vi r9) [(500, oc 112 [ty r9b, ti r9c, T.int .u64 r9d])]), (11, An.v (ti (List.getD x3 (Int.toNat r9) 0)))] [.keep [4], .keepO [500], .names [(500, 500)]] [500] _ (r' := vi (List.getD x3 (Int.toNat r9) 0)) (ps := [(CG Try.prog 133 [V.ref 500 0, vi ((List.length x3 : Nat) : Int)] [(500, oc 112 [ty x0, ti x1, T.int .u64 x2])] (vi r9) [(500, oc 112 [ty r9b, ti r9c, T.int .u64 r9d])]), ((V.ref 500 0).ren (renF [(500, 500)]) = V.ref 500 0), (WkT (ti ((List.length x3 : Nat) : Int)) (ti ((List.length x3 : Nat) : Int))), ((oc 112 [ty x0, ti x1, T.int .u64 x2]) = (oc 112 [ty x0, ti x1, T.int .u64 x2]).ren (renF [(500, 500)])), ((0 ≤ r9 ∧ r9 < ((List.length x3 : Nat) : Int))), ((List.drop ((Int.toNat r9) * 1) (List.map (T.int .i64) x3) : List T)[0]? = some (ti (List.getD x3 (Int.toNat r9) 0))), (ti (List.getD x3 (Int.toNat r9) 0) = ti (List.getD x3 (Int.toNat r9) 0))]) (r := vi (List.getD x3 (Int.toNat r9) 0)) (N := [500]) (O := [(500, oc 112 [ty r9b, ti r9c, T.int .u64 r9d])]) [] (by kernel_rfl) ⟨(F_p_spec_l1Cur_pick_W x0 x1 x2 ((List.length x3 : Nat) : Int) r9 r9b r9c r9d c0), by first | rfl | (simp [V.ren, V.renL, renF, lk]; done) | (simp [V.ren, V.renL, renF, lk]; omega), WkT.refl _, by first | rfl | (simp only [tlS]; rfl) | (simp [Tl.Obj.ren, V.ren, V.renL, renF, lk]; done), c1, at1 (by simp) (by omega), rfl, trivial⟩ ⟨(WkT.refl _), trivial⟩ rfl rfl (fun _ h => h)
theorem F_p_spec_l1Cur_many_W (x0 : List Int) (x1 : Int) (x2 : Int) (y0 : Int) (y1 : List Int) (y2 : Int) (y3 : Int) (h : F_p_spec_l1Cur_many x0 x1 x2 = some (y0, y1, y2, y3)) : CG Try.prog 131 [V.ref 500 0] [(500, oc 112 [ty x0, ti x1, T.int .u64 x2])] (vi y0) [(500, oc 112 [ty y1, ti y2, T.int .u64 y3])] := by
  unfold F_p_spec_l1Cur_many at h
  refine CG.intro (tab := tab) tab_ok (fn := Try.f131) Try.func131 (by kernel_rfl) rfl (Nat.le_of_ble_eq_true rfl) (by kernel_rfl) ?_
  obtain ⟨r5, r5b, r5c, r5d, c0, h⟩ := bnd4_some h
  simp only [Option.some.injEq, Prod.mk.injEq] at h
  obtain ⟨rfl, rfl, rfl, rfl⟩ := h
  exact WP.pathG tab_ok mixed [(4, An.fz), (5, An.callG [(500, 500)] [V.ref 500 0, vl [(4 : Int), (6 : Int), (8 : Int), (3 : Int), (5 : Int), (2 : Int), (7 : Int), (12 : Int), (1 : Int), (0 : Int), (13 : Int), (4 : Int), (6 : Int), (8 : Int), (3 : Int), (5 : Int)]] [(500, oc 112 [ty x0, ti x1, T.int .u64 x2])] (vi r5) [(500, oc 112 [ty r5b, ti r5c, T.int .u64 r5d])])] [.keep [2], .keepO [500], .names [(500, 500)]] [500] _ (r' := vi r5) (ps := [((1 = 1 ∧ 0 + 1 ≤ 16) ∧ (1 = 1 ∧ 1 + 1 ≤ 16) ∧ (1 = 1 ∧ 2 + 1 ≤ 16) ∧ (1 = 1 ∧ 3 + 1 ≤ 16) ∧ (1 = 1 ∧ 4 + 1 ≤ 16) ∧ (1 = 1 ∧ 5 + 1 ≤ 16) ∧ (1 = 1 ∧ 6 + 1 ≤ 16) ∧ (1 = 1 ∧ 7 + 1 ≤ 16) ∧ (1 = 1 ∧ 8 + 1 ≤ 16) ∧ (1 = 1 ∧ 9 + 1 ≤ 16) ∧ (1 = 1 ∧ 10 + 1 ≤ 16) ∧ (1 = 1 ∧ 11 + 1 ≤ 16) ∧ (1 = 1 ∧ 12 + 1 ≤ 16) ∧ (1 = 1 ∧ 13 + 1 ≤ 16) ∧ (1 = 1 ∧ 14 + 1 ≤ 16) ∧ (1 = 1 ∧ 15 + 1 ≤ 16) ∧ True), (16 = 16 * 1), (CG Try.prog 152 [V.ref 500 0, vl [(4 : Int), (6 : Int), (8 : Int), (3 : Int), (5 : Int), (2 : Int), (7 : Int), (12 : Int), (1 : Int), (0 : Int), (13 : Int), (4 : Int), (6 : Int), (8 : Int), (3 : Int), (5 : Int)]] [(500, oc 112 [ty x0, ti x1, T.int .u64 x2])] (vi r5) [(500, oc 112 [ty r5b, ti r5c, T.int .u64 r5d])]), ((V.ref 500 0).ren (renF [(500, 500)]) = V.ref 500 0), (WkT (T.list 16 1 [ti 4, ti 6, ti 8, ti 3, ti 5, ti 2, ti 7, ti 12, ti 1, ti 0, ti 13, ti 4, ti 6, ti 8, ti 3, ti 5]) (tl [(4 : Int), (6 : Int), (8 : Int), (3 : Int), (5 : Int), (2 : Int), (7 : Int), (12 : Int), (1 : Int), (0 : Int), (13 : Int), (4 : Int), (6 : Int), (8 : Int), (3 : Int), (5 : Int)])), ((oc 112 [ty x0, ti x1, T.int .u64 x2]) = (oc 112 [ty x0, ti x1, T.int .u64 x2]).ren (renF [(500, 500)]))]) (r := vi r5) (N := [500]) (O := [(500, oc 112 [ty r5b, ti r5c, T.int .u64 r5d])]) [] (by kernel_rfl) ⟨⟨⟨by first | rfl | (simp; done) | (simp []; done) | omega, by first | decide | (simp; done) | (simp []; done) | omega | (simp only [tlL]; omega) | (simp; omega)⟩, ⟨by first | rfl | (simp; done) | (simp []; done) | omega, by first | decide | (simp; done) | (simp []; done) | omega | (simp only [tlL]; omega) | (simp; omega)⟩, ⟨by first | rfl | (simp; done) | (simp []; done) | omega, by first | decide | (simp; done) | (simp []; done) | omega | (simp only [tlL]; omega) | (simp; omega)⟩, ⟨by first | rfl | (simp; done) | (simp []; done) | omega, by first | decide | (simp; done) | (simp []; done) | omega | (simp only [tlL]; omega) | (simp; omega)⟩, ⟨by first | rfl | (simp; done) | (simp []; done) | omega, by first | decide | (simp; done) | (simp []; done) | omega | (simp only [tlL]; omega) | (simp; omega)⟩, ⟨by first | rfl | (simp; done) | (simp []; done) | omega, by first | decide | (simp; done) | (simp []; done) | omega | (simp only [tlL]; omega) | (simp; omega)⟩, ⟨by first | rfl | (simp; done) | (simp []; done) | omega, by first | decide | (simp; done) | (simp []; done) | omega | (simp only [tlL]; omega) | (simp; omega)⟩, ⟨by first | rfl | (simp; done) | (simp []; done) | omega, by first | decide | (simp; done) | (simp []; done) | omega | (simp only [tlL]; omega) | (simp; omega)⟩, ⟨by first | rfl | (simp; done) | (simp []; done) | omega, by first | decide | (simp; done) | (simp []; done) | omega | (simp only [tlL]; omega) | (simp; omega)⟩, ⟨by first | rfl | (simp; done) | (simp []; done) | omega, by first | decide | (simp; done) | (simp []; done) | omega | (simp only [tlL]; omega) | (simp; omega)⟩, ⟨by first | rfl | (simp; done) | (simp []; done) | omega, by first | decide | (simp; done) | (simp []; done) | omega | (simp only [tlL]; omega) | (simp; omega)⟩, ⟨by first | rfl | (simp; done) | (simp []; done) | omega, by first | decide | (simp; done) | (simp []; done) | omega | (simp only [tlL]; omega) | (simp; omega)⟩, ⟨by first | rfl | (simp; done) | (simp []; done) | omega, by first | decide | (simp; done) | (simp []; done) | omega | (simp only [tlL]; omega) | (simp; omega)⟩, ⟨by first | rfl | (simp; done) | (simp []; done) | omega, by first | decide | (simp; done) | (simp []; done) | omega | (simp only [tlL]; omega) | (simp; omega)⟩, ⟨by first | rfl | (simp; done) | (simp []; done) | omega, by first | decide | (simp; done) | (simp []; done) | omega | (simp only [tlL]; omega) | (simp; omega)⟩, ⟨by first | rfl | (simp; done) | (simp []; done) | omega, by first | decide | (simp; done) | (simp []; done) | omega | (simp only [tlL]; omega) | (simp; omega)⟩, trivial⟩, by decide, (F_p_spec_l1Cur_among_W x0 x1 x2 [(4 : Int), (6 : Int), (8 : Int), (3 : Int), (5 : Int), (2 : Int), (7 : Int), (12 : Int), (1 : Int), (0 : Int), (13 : Int), (4 : Int), (6 : Int), (8 : Int), (3 : Int), (5 : Int)] r5 r5b r5c r5d c0), by first | rfl | (simp [V.ren, V.renL, renF, lk]; done) | (simp [V.ren, V.renL, renF, lk]; omega), WkT.eq (WkT.refl _) (by first | rfl | (simp only [tlS, tl, vl, vo, oc, ov, tbl, vbl, ty, vy]; done) | (simp only [tlS, tl, vl, vo, oc, ov, tbl, vbl, ty, vy]; rfl) | (simp; done) | (simp []; done) | (rw [List.take_of_length_le (by simp [])]; done) | (rw [List.take_of_length_le (by simp [])]; rfl) | (simp only [tlL]; omega) | (simp; omega)), by first | rfl | (simp only [tlS]; rfl) | (simp [Tl.Obj.ren, V.ren, V.renL, renF, lk]; done), trivial⟩ ⟨(WkT.refl _), trivial⟩ rfl rfl (fun _ h => h)
theorem F_p_spec_l1Cur_one_W (x0 : List Int) (x1 : Int) (x2 : Int) (x3 : Int) (y0 : Bool) (y1 : List Int) (y2 : Int) (y3 : Int) (h : F_p_spec_l1Cur_one x0 x1 x2 x3 = some (y0, y1, y2, y3)) : CG Try.prog 134 [V.ref 500 0, vi x3] [(500, oc 112 [ty x0, ti x1, T.int .u64 x2])] (vb y0) [(500, oc 112 [ty y1, ti y2, T.int .u64 y3])] := by
  unfold F_p_spec_l1Cur_one at h
  refine CG.intro (tab := tab) tab_ok (fn := Try.f134) Try.func134 (by kernel_rfl) rfl (Nat.le_of_ble_eq_true rfl) (by kernel_rfl) ?_
  obtain ⟨r7, r7b, r7c, r7d, c0, h⟩ := bnd4_some h
  simp only [Option.some.injEq, Prod.mk.injEq] at h
  obtain ⟨rfl, rfl, rfl, rfl⟩ := h
  exact WP.pathG tab_ok mixed [(7, An.callG [(500, 500)] [V.ref 500 0, vi x3] [(500, oc 112 [ty x0, ti x1, T.int .u64 x2])] (vi r7) [(500, oc 112 [ty r7b, ti r7c, T.int .u64 r7d])])] [.keep [4], .keepO [500], .names [(500, 500)]] [500] _ (r' := vb (r7 == (0 : Int))) (ps := [(CG Try.prog 133 [V.ref 500 0, vi x3] [(500, oc 112 [ty x0, ti x1, T.int .u64 x2])] (vi r7) [(500, oc 112 [ty r7b, ti r7c, T.int .u64 r7d])]), ((V.ref 500 0).ren (renF [(500, 500)]) = V.ref 500 0), (WkT (ti x3) (ti x3)), ((oc 112 [ty x0, ti x1, T.int .u64 x2]) = (oc 112 [ty x0, ti x1, T.int .u64 x2]).ren (renF [(500, 500)])), (True)]) (r := vb (r7 == (0 : Int))) (N := [500]) (O := [(500, oc 112 [ty r7b, ti r7c, T.int .u64 r7d])]) [] (by kernel_rfl) ⟨(F_p_spec_l1Cur_pick_W x0 x1 x2 x3 r7 r7b r7c r7d c0), by first | rfl | (simp [V.ren, V.renL, renF, lk]; done) | (simp [V.ren, V.renL, renF, lk]; omega), WkT.refl _, by first | rfl | (simp only [tlS]; rfl) | (simp [Tl.Obj.ren, V.ren, V.renL, renF, lk]; done), trivial, trivial⟩ ⟨(WkT.refl _), trivial⟩ rfl rfl (fun _ h => h)
theorem F_p_spec_l1Cur_lies_W (x0 : List Int) (x1 : Int) (x2 : Int) (y0 : Int) (y1 : List Int) (y2 : Int) (y3 : Int) (h : F_p_spec_l1Cur_lies x0 x1 x2 = some (y0, y1, y2, y3)) : CG Try.prog 150 [V.ref 500 0] [(500, oc 112 [ty x0, ti x1, T.int .u64 x2])] (vi y0) [(500, oc 112 [ty y1, ti y2, T.int .u64 y3])] := by
  unfold F_p_spec_l1Cur_lies at h
  refine CG.intro (tab := tab) tab_ok (fn := Try.f150) Try.func150 (by kernel_rfl) rfl (Nat.le_of_ble_eq_true rfl) (by kernel_rfl) ?_
  obtain ⟨r5, r5b, r5c, r5d, c0, h⟩ := bnd4_some h
  simp only [Option.some.injEq, Prod.mk.injEq] at h
  obtain ⟨rfl, rfl, rfl, rfl⟩ := h
  exact WP.pathG tab_ok mixed [(4, An.fz), (5, An.callG [(500, 500)] [V.ref 500 0, vl [(1 : Int), (1 : Int), (2 : Int), (0 : Int), (1 : Int), (2 : Int), (1 : Int), (3 : Int), (-1 : Int), (1 : Int), (2 : Int), (0 : Int)]] [(500, oc 112 [ty x0, ti x1, T.int .u64 x2])] (vi r5) [(500, oc 112 [ty r5b, ti r5c, T.int .u64 r5d])])] [.keep [2], .keepO [500], .names [(500, 500)]] [500] _ (r' := vi r5) (ps := [((1 = 1 ∧ 0 + 1 ≤ 12) ∧ (1 = 1 ∧ 1 + 1 ≤ 12) ∧ (1 = 1 ∧ 2 + 1 ≤ 12) ∧ (1 = 1 ∧ 3 + 1 ≤ 12) ∧ (1 = 1 ∧ 4 + 1 ≤ 12) ∧ (1 = 1 ∧ 5 + 1 ≤ 12) ∧ (1 = 1 ∧ 6 + 1 ≤ 12) ∧ (1 = 1 ∧ 7 + 1 ≤ 12) ∧ (1 = 1 ∧ 8 + 1 ≤ 12) ∧ (1 = 1 ∧ 9 + 1 ≤ 12) ∧ (1 = 1 ∧ 10 + 1 ≤ 12) ∧ (1 = 1 ∧ 11 + 1 ≤ 12) ∧ True), (12 = 12 * 1), (CG Try.prog 152 [V.ref 500 0, vl [(1 : Int), (1 : Int), (2 : Int), (0 : Int), (1 : Int), (2 : Int), (1 : Int), (3 : Int), (-1 : Int), (1 : Int), (2 : Int), (0 : Int)]] [(500, oc 112 [ty x0, ti x1, T.int .u64 x2])] (vi r5) [(500, oc 112 [ty r5b, ti r5c, T.int .u64 r5d])]), ((V.ref 500 0).ren (renF [(500, 500)]) = V.ref 500 0), (WkT (T.list 12 1 [ti 1, ti 1, ti 2, ti 0, ti 1, ti 2, ti 1, ti 3, ti (-1), ti 1, ti 2, ti 0]) (tl [(1 : Int), (1 : Int), (2 : Int), (0 : Int), (1 : Int), (2 : Int), (1 : Int), (3 : Int), (-1 : Int), (1 : Int), (2 : Int), (0 : Int)])), ((oc 112 [ty x0, ti x1, T.int .u64 x2]) = (oc 112 [ty x0, ti x1, T.int .u64 x2]).ren (renF [(500, 500)]))]) (r := vi r5) (N := [500]) (O := [(500, oc 112 [ty r5b, ti r5c, T.int .u64 r5d])]) [] (by kernel_rfl) ⟨⟨⟨by first | rfl | (simp; done) | (simp []; done) | omega, by first | decide | (simp; done) | (simp []; done) | omega | (simp only [tlL]; omega) | (simp; omega)⟩, ⟨by first | rfl | (simp; done) | (simp []; done) | omega, by first | decide | (simp; done) | (simp []; done) | omega | (simp only [tlL]; omega) | (simp; omega)⟩, ⟨by first | rfl | (simp; done) | (simp []; done) | omega, by first | decide | (simp; done) | (simp []; done) | omega | (simp only [tlL]; omega) | (simp; omega)⟩, ⟨by first | rfl | (simp; done) | (simp []; done) | omega, by first | decide | (simp; done) | (simp []; done) | omega | (simp only [tlL]; omega) | (simp; omega)⟩, ⟨by first | rfl | (simp; done) | (simp []; done) | omega, by first | decide | (simp; done) | (simp []; done) | omega | (simp only [tlL]; omega) | (simp; omega)⟩, ⟨by first | rfl | (simp; done) | (simp []; done) | omega, by first | decide | (simp; done) | (simp []; done) | omega | (simp only [tlL]; omega) | (simp; omega)⟩, ⟨by first | rfl | (simp; done) | (simp []; done) | omega, by first | decide | (simp; done) | (simp []; done) | omega | (simp only [tlL]; omega) | (simp; omega)⟩, ⟨by first | rfl | (simp; done) | (simp []; done) | omega, by first | decide | (simp; done) | (simp []; done) | omega | (simp only [tlL]; omega) | (simp; omega)⟩, ⟨by first | rfl | (simp; done) | (simp []; done) | omega, by first | decide | (simp; done) | (simp []; done) | omega | (simp only [tlL]; omega) | (simp; omega)⟩, ⟨by first | rfl | (simp; done) | (simp []; done) | omega, by first | decide | (simp; done) | (simp []; done) | omega | (simp only [tlL]; omega) | (simp; omega)⟩, ⟨by first | rfl | (simp; done) | (simp []; done) | omega, by first | decide | (simp; done) | (simp []; done) | omega | (simp only [tlL]; omega) | (simp; omega)⟩, ⟨by first | rfl | (simp; done) | (simp []; done) | omega, by first | decide | (simp; done) | (simp []; done) | omega | (simp only [tlL]; omega) | (simp; omega)⟩, trivial⟩, by decide, (F_p_spec_l1Cur_among_W x0 x1 x2 [(1 : Int), (1 : Int), (2 : Int), (0 : Int), (1 : Int), (2 : Int), (1 : Int), (3 : Int), (-1 : Int), (1 : Int), (2 : Int), (0 : Int)] r5 r5b r5c r5d c0), by first | rfl | (simp [V.ren, V.renL, renF, lk]; done) | (simp [V.ren, V.renL, renF, lk]; omega), WkT.eq (WkT.refl _) (by first | rfl | (simp only [tlS, tl, vl, vo, oc, ov, tbl, vbl, ty, vy]; done) | (simp only [tlS, tl, vl, vo, oc, ov, tbl, vbl, ty, vy]; rfl) | (simp; done) | (simp []; done) | (rw [List.take_of_length_le (by simp [])]; done) | (rw [List.take_of_length_le (by simp [])]; rfl) | (simp only [tlL]; omega) | (simp; omega)), by first | rfl | (simp only [tlS]; rfl) | (simp [Tl.Obj.ren, V.ren, V.renL, renF, lk]; done), trivial⟩ ⟨(WkT.refl _), trivial⟩ rfl rfl (fun _ h => h)
theorem F_p_spec_l1Cur_state_W (x0 : List Int) (x1 : Int) (x2 : Int) (y0 : List Int) (y1 : Int) (y2 : List Int) (y3 : Int) (y4 : Int) (h : F_p_spec_l1Cur_state x0 x1 x2 = some (y0, y1, y2, y3, y4)) : CG Try.prog 88 [V.ref 500 0] [(500, oc 112 [ty x0, ti x1, T.int .u64 x2])] (V.agg [vo 9000 (List.length y0), vi y1]) [(500, oc 112 [ty y2, ti y3, T.int .u64 y4]), (9000, oc 3 (List.map (T.int .i64) y0))] := by
  unfold F_p_spec_l1Cur_state at h
  refine CG.intro (tab := tab) tab_ok (fn := Try.f88) Try.func88 (by kernel_rfl) rfl (Nat.le_of_ble_eq_true rfl) (by kernel_rfl) ?_
  refine WP.seq ?_
  refine WP.path tab_ok mixed [(2, An.id 2002)] [.keep [2, 0], .keepO [500, 2002]] (ps := []) (e := .normal) (σ' := ⟨[2002, 500], [(2, V.ref 2002 0), (0, V.ref 500 0)], [(500, oc 112 [ty x0, ti x1, T.int .u64 x2]), (2002, oc 27 [T.nils, ti 0])]⟩) (by kernel_rfl) trivial ?_
  refine WP.seq ?_
  obtain ⟨r9, r9b, r9c, r9d, c0, h⟩ := bnd4_some h
  obtain ⟨r11, r11b, r11c, r11d, c1, h⟩ := bnd4_some h
  refine WP.path tab_ok mixed [(9, An.callG [(500, 500)] [V.ref 500 0] [(500, oc 112 [ty x0, ti x1, T.int .u64 x2])] (vi r9) [(500, oc 112 [ty r9b, ti r9c, T.int .u64 r9d])]), (11, An.callG [(500, 500)] [V.ref 500 0] [(500, oc 112 [ty r9b, ti r9c, T.int .u64 r9d])] (vi r11) [(500, oc 112 [ty r11b, ti r11c, T.int .u64 r11d])])] [.keep [4, 3, 2, 0], .keepO [500, 2002]] (ps := [(CG Try.prog 150 [V.ref 500 0] [(500, oc 112 [ty x0, ti x1, T.int .u64 x2])] (vi r9) [(500, oc 112 [ty r9b, ti r9c, T.int .u64 r9d])]), ((V.ref 500 0).ren (renF [(500, 500)]) = V.ref 500 0), ((oc 112 [ty x0, ti x1, T.int .u64 x2]) = (oc 112 [ty x0, ti x1, T.int .u64 x2]).ren (renF [(500, 500)])), (CG Try.prog 131 [V.ref 500 0] [(500, oc 112 [ty r9b, ti r9c, T.int .u64 r9d])] (vi r11) [(500, oc 112 [ty r11b, ti r11c, T.int .u64 r11d])]), ((V.ref 500 0).ren (renF [(500, 500)]) = V.ref 500 0), ((oc 112 [ty r9b, ti r9c, T.int .u64 r9d]) = (oc 112 [ty r9b, ti r9c, T.int .u64 r9d]).ren (renF [(500, 500)]))]) (e := .normal) (σ' := ⟨[2002, 500], [(4, vi r11), (3, vi r9), (2, V.ref 2002 0), (0, V.ref 500 0)], [(500, oc 112 [ty r11b, ti r11c, T.int .u64 r11d]), (2002, oc 27 [T.nils, ti 0])]⟩) (by kernel_rfl) ⟨(F_p_spec_l1Cur_lies_W x0 x1 x2 r9 r9b r9c r9d c0), by first | rfl | (simp [V.ren, V.renL, renF, lk]; done) | (simp [V.ren, V.renL, renF, lk]; omega), by first | rfl | (simp only [tlS]; rfl) | (simp [Tl.Obj.ren, V.ren, V.renL, renF, lk]; done), (F_p_spec_l1Cur_many_W r9b r9c r9d r11 r11b r11c r11d c1), by first | rfl | (simp [V.ren, V.renL, renF, lk]; done) | (simp [V.ren, V.renL, renF, lk]; omega), by first | rfl | (simp only [tlS]; rfl) | (simp [Tl.Obj.ren, V.ren, V.renL, renF, lk]; done), trivial⟩ ?_
  refine WP.seq ?_
  refine WP.path tab_ok mixed [(12, An.id 2012), (5, An.id 2005)] [.keep [5, 4, 3, 2, 0], .keepO [500, 2002, 2005, 2012]] (ps := [(True), (0 = 0 * 1), ((1 = 1 ∧ 0 + 1 ≤ 2) ∧ (1 = 1 ∧ 1 + 1 ≤ 2) ∧ True), ((0 + 2 ≤ 2 ∧ 2 = 2))]) (e := .normal) (σ' := ⟨[2005, 2012, 2002, 500], [(5, V.ref 2005 0), (4, vi r11), (3, vi r9), (2, V.ref 2002 0), (0, V.ref 500 0)], [(500, oc 112 [ty r11b, ti r11c, T.int .u64 r11d]), (2002, oc 27 [T.nils, ti 0]), (2005, ov 27 [vo 2012 0, vi r9]), (2012, oc 3 [])]⟩) (by kernel_rfl) ⟨trivial, by decide, ⟨⟨by decide, by decide⟩, ⟨by decide, by decide⟩, trivial⟩, by decide, trivial⟩ ?_
  obtain ⟨J1, hJ1, h⟩ := jn_some h
  refine WP.joinA (fun (zz : (List Int) × Int × Int × (List Int)) => ⟨[500, 2002, 2005, 2012], [(5, V.ref 2005 0), (4, vi r11), (3, vi r9), (2, V.ref 2002 0), (0, V.ref 500 0)], [(500, oc 112 [ty zz.1, ti zz.2.1, T.int .u64 zz.2.2.1]), (2002, oc 27 [T.nils, ti 0]), (2005, ov 27 [vo 2012 (List.length zz.2.2.2), vi r9]), (2012, oc 3 (List.map (T.int .i64) zz.2.2.2))]⟩) (fun zz => J1 zz.1 zz.2.1 zz.2.2.1 zz.2.2.2 = some (y0, y1, y2, y3, y4)) ?_ ?_
  · -- to where they meet
    refine WP.seq ?_
    refine WP.path tab_ok mixed [] [.keep [6, 5, 4, 3, 2, 0], .keepO [500, 2002, 2005, 2012]] (ps := []) (e := .normal) (σ' := ⟨[2005, 2012, 2002, 500], [(6, vi 0), (5, V.ref 2005 0), (4, vi r11), (3, vi r9), (2, V.ref 2002 0), (0, V.ref 500 0)], [(500, oc 112 [ty r11b, ti r11c, T.int .u64 r11d]), (2002, oc 27 [T.nils, ti 0]), (2005, ov 27 [vo 2012 0, vi r9]), (2012, oc 3 [])]⟩) (by kernel_rfl) trivial ?_
    refine WP.block ?_
    refine WP.wk [.keep [6, 5, 4, 3, 2, 0], .keepO [500, 2002, 2005, 2012], .names [(500, 500), (2002, 2002), (2005, 2005), (2012, 2012)]] (σ' := ⟨[500, 2002, 2005, 2012], [(6, vi 0), (5, V.ref 2005 0), (4, vi r11), (3, vi r9), (2, V.ref 2002 0), (0, V.ref 500 0)], [(500, oc 112 [ty r11b, ti r11c, T.int .u64 r11d]), (2002, oc 27 [T.nils, ti 0]), (2005, ov 27 [vo 2012 0, vi r9]), (2012, oc 3 [])]⟩) (ps := []) (by kernel_rfl) trivial ?_
    refine WP.st (σ' := ⟨[500, 2002, 2005, 2012], [(6, vi (0 : Int)), (5, V.ref 2005 0), (4, vi r11), (3, vi r9), (2, V.ref 2002 0), (0, V.ref 500 0)], [(500, oc 112 [ty r11b, ti r11c, T.int .u64 r11d]), (2002, oc 27 [T.nils, ti 0]), (2005, ov 27 [vo 2012 (List.length ([] : List Int)), vi r9]), (2012, oc 3 (List.map (T.int .i64) ([] : List Int)))]⟩) (by first | rfl | (simp only [tlS, tl, vl, vo, oc, ov, tbl, vbl, ty, vy]; done) | (simp only [tlS, tl, vl, vo, oc, ov, tbl, vbl, ty, vy]; rfl) | (simp; done) | (simp []; done) | (rw [List.take_of_length_le (by simp [])]; done) | (rw [List.take_of_length_le (by simp [])]; rfl) | (simp only [tlL]; omega) | (simp; omega)) ?_
    refine WP.loop (α := Nat × (List Int) × Int × Int × (List Int) × Int) (fun zz => ⟨[500, 2002, 2005, 2012], [(6, vi zz.2.2.2.2.2), (5, V.ref 2005 0), (4, vi r11), (3, vi r9), (2, V.ref 2002 0), (0, V.ref 500 0)], [(500, oc 112 [ty zz.2.1, ti zz.2.2.1, T.int .u64 zz.2.2.2.1]), (2002, oc 27 [T.nils, ti 0]), (2005, ov 27 [vo 2012 (List.length zz.2.2.2.2.1), vi r9]), (2012, oc 3 (List.map (T.int .i64) zz.2.2.2.2.1))]⟩) (fun zz => F_p_spec_l1Cur_state_L1 r9 r11 J1 zz.1 zz.2.1 zz.2.2.1 zz.2.2.2.1 zz.2.2.2.2.1 zz.2.2.2.2.2 = some (y0, y1, y2, y3, y4)) (fun zz => zz.1) (fuel, r11b, r11c, r11d, ([] : List Int), (0 : Int)) h ?_
    rintro ⟨n, o500, o500b, o500c, o12, v6⟩ h0
    have h := (show F_p_spec_l1Cur_state_L1 r9 r11 J1 n o500 o500b o500c o12 v6 = some (y0, y1, y2, y3, y4) from h0)
    rcases n with _ | n
    · rw [F_p_spec_l1Cur_state_L1] at h; cases h
    · rw [F_p_spec_l1Cur_state_L1] at h
      refine WP.seq ?_
      refine WP.seq ?_
      refine WP.path tab_ok mixed [] [.keep [17, 6, 5, 4, 3, 2, 0], .keepO [500, 2002, 2005, 2012]] (ps := [(True)]) (e := .normal) (σ' := ⟨[500, 2002, 2005, 2012], [(17, vb (decide (v6 < r11))), (6, vi v6), (5, V.ref 2005 0), (4, vi r11), (3, vi r9), (2, V.ref 2002 0), (0, V.ref 500 0)], [(500, oc 112 [ty o500, ti o500b, T.int .u64 o500c]), (2002, oc 27 [T.nils, ti 0]), (2005, ov 27 [vo 2012 (List.length o12), vi r9]), (2012, oc 3 (List.map (T.int .i64) o12))]⟩) (by kernel_rfl) ⟨trivial, trivial⟩ ?_
      rcases ite_some h with ⟨h1, h⟩ | ⟨h1, h⟩
      · -- yes
        refine WP.cond (b := decide (v6 < r11)) rfl (fun _ => ?_) (fun hh => by rw [h1] at hh; cases hh)
        refine WP.path tab_ok mixed [] [.keep [6, 5, 4, 3, 2, 0], .keepO [500, 2002, 2005, 2012]] (ps := []) (e := .normal) (σ' := ⟨[500, 2002, 2005, 2012], [(6, vi v6), (5, V.ref 2005 0), (4, vi r11), (3, vi r9), (2, V.ref 2002 0), (0, V.ref 500 0)], [(500, oc 112 [ty o500, ti o500b, T.int .u64 o500c]), (2002, oc 27 [T.nils, ti 0]), (2005, ov 27 [vo 2012 (List.length o12), vi r9]), (2012, oc 3 (List.map (T.int .i64) o12))]⟩) (by kernel_rfl) trivial ?_
        refine WP.seq ?_
        refine WP.block ?_
        obtain ⟨c2, h⟩ := chk_some h
        obtain ⟨r26, r26b, r26c, r26d, c3, h⟩ := bnd4_some h
        obtain ⟨r28, r28b, r28c, r28d, c4, h⟩ := bnd4_some h
        obtain ⟨c5, h⟩ := chk_some h
        obtain ⟨c6, h⟩ := chk_some h
        obtain ⟨c7, h⟩ := chk_some h
        refine WP.path tab_ok mixed [(24, An.v (T.int .i64 (r9 + (2 : Int)))), (25, An.call (ti (maxN (1 : Int) (r9 + (2 : Int))))), (26, An.callG [(500, 500)] [V.ref 500 0, vi (maxN (1 : Int) (r9 + (2 : Int)))] [(500, oc 112 [ty o500, ti o500b, T.int .u64 o500c])] (vi r26) [(500, oc 112 [ty r26b, ti r26c, T.int .u64 r26d])]), (28, An.callG [(500, 500)] [V.ref 500 0, vi 6] [(500, oc 112 [ty r26b, ti r26c, T.int .u64 r26d])] (vi r28) [(500, oc 112 [ty r28b, ti r28c, T.int .u64 r28d])]), (29, An.v (T.int .i64 (Int.tdiv r28 (5 : Int)))), (30, An.v (T.int .i64 (r26 - (Int.tdiv r28 (5 : Int))))), (31, An.fz), (32, An.id 2032)] [.keep [6, 5, 4, 3, 2, 0], .keepO [500, 2002, 2005, 2032]] (ps := [(True), (True), (T.int .i64 (IntKind.wrap .i64 (r9 + (2 : Int))) = T.int .i64 (r9 + (2 : Int))), (C Try.prog 151 [ti 1, ti (r9 + (2 : Int))] (ti (maxN (1 : Int) (r9 + (2 : Int))))), (CG Try.prog 133 [V.ref 500 0, vi (maxN (1 : Int) (r9 + (2 : Int)))] [(500, oc 112 [ty o500, ti o500b, T.int .u64 o500c])] (vi r26) [(500, oc 112 [ty r26b, ti r26c, T.int .u64 r26d])]), ((V.ref 500 0).ren (renF [(500, 500)]) = V.ref 500 0), (WkT (ti (maxN (1 : Int) (r9 + (2 : Int)))) (ti (maxN (1 : Int) (r9 + (2 : Int))))), ((oc 112 [ty o500, ti o500b, T.int .u64 o500c]) = (oc 112 [ty o500, ti o500b, T.int .u64 o500c]).ren (renF [(500, 500)])), (CG Try.prog 133 [V.ref 500 0, vi 6] [(500, oc 112 [ty r26b, ti r26c, T.int .u64 r26d])] (vi r28) [(500, oc 112 [ty r28b, ti r28c, T.int .u64 r28d])]), ((V.ref 500 0).ren (renF [(500, 500)]) = V.ref 500 0), (WkT (ti 6) (ti 6)), ((oc 112 [ty r26b, ti r26c, T.int .u64 r26d]) = (oc 112 [ty r26b, ti r26c, T.int .u64 r26d]).ren (renF [(500, 500)])), ((5 : Int) ≠ 0), (T.int .i64 (IntKind.wrap .i64 (Int.tdiv r28 (5 : Int))) = T.int .i64 (Int.tdiv r28 (5 : Int))), (True), (T.int .i64 (IntKind.wrap .i64 (r26 - (Int.tdiv r28 (5 : Int)))) = T.int .i64 (r26 - (Int.tdiv r28 (5 : Int)))), ((1 = 1 ∧ 0 + 1 ≤ 1) ∧ True), (1 = 1 * 1), (True), (List.length (List.map (T.int .i64) o12) = (List.length o12) * 1), ((((List.length o12) + 1) * 8 ≤ 140737488355328 ∧ (List.length o12) + 1 ≤ maxLen)), (0 < 2)]) (e := .normal) (σ' := ⟨[2032, 500, 2002, 2005, 2012], [(6, vi v6), (5, V.ref 2005 0), (4, vi r11), (3, vi r9), (2, V.ref 2002 0), (0, V.ref 500 0)], [(500, oc 112 [ty r28b, ti r28c, T.int .u64 r28d]), (2002, oc 27 [T.nils, ti 0]), (2005, ov 27 [vo 2032 ((List.length o12) + 1), vi r9]), (2032, oc 3 ((List.map (T.int .i64) o12) ++ [ti (r26 - (Int.tdiv r28 (5 : Int)))]))]⟩) (by kernel_rfl) ⟨trivial, trivial, wrapI c2, (by have hh := (l1Most_C (1 : Int) (r9 + (2 : Int))); simpa using hh), (F_p_spec_l1Cur_pick_W o500 o500b o500c (maxN (1 : Int) (r9 + (2 : Int))) r26 r26b r26c r26d c3), by first | rfl | (simp [V.ren, V.renL, renF, lk]; done) | (simp [V.ren, V.renL, renF, lk]; omega), WkT.refl _, by first | rfl | (simp only [tlS]; rfl) | (simp [Tl.Obj.ren, V.ren, V.renL, renF, lk]; done), (F_p_spec_l1Cur_pick_W r26b r26c r26d (6 : Int) r28 r28b r28c r28d c4), by first | rfl | (simp [V.ren, V.renL, renF, lk]; done) | (simp [V.ren, V.renL, renF, lk]; omega), WkT.refl _, by first | rfl | (simp only [tlS]; rfl) | (simp [Tl.Obj.ren, V.ren, V.renL, renF, lk]; done), (show (5 : Int) ≠ 0 by first | decide | (simp only [maxLen]; omega) | (unfold I64; omega) | (unfold I64; decide)), quo_told c5, trivial, wrapI c6, ⟨⟨by first | rfl | (simp; done) | (simp []; done) | omega, by first | decide | (simp; done) | (simp []; done) | omega | (simp only [tlL]; omega) | (simp; omega)⟩, trivial⟩, by decide, trivial, by first | rfl | (simp; done) | omega | (simp only [tlL]; omega) | (simp; omega) | (simp []; done) | (simp []; omega), c7, by decide, trivial⟩ ?_
        obtain ⟨c8, h⟩ := chk_some h
        refine WP.path tab_ok mixed [(19, An.v (T.int .i64 (v6 + (1 : Int))))] [.keep [6, 5, 4, 3, 2, 0], .keepO [500, 2002, 2005, 2032], .names [(500, 500), (2002, 2002), (2005, 2005), (2032, 2012)]] (ps := [(True), (T.int .i64 (IntKind.wrap .i64 (v6 + (1 : Int))) = T.int .i64 (v6 + (1 : Int)))]) (e := .normal) (σ' := ⟨[500, 2002, 2005, 2012], [(6, vi (v6 + (1 : Int))), (5, V.ref 2005 0), (4, vi r11), (3, vi r9), (2, V.ref 2002 0), (0, V.ref 500 0)], [(500, oc 112 [ty r28b, ti r28c, T.int .u64 r28d]), (2002, oc 27 [T.nils, ti 0]), (2005, ov 27 [vo 2012 ((List.length o12) + 1), vi r9]), (2012, oc 3 ((List.map (T.int .i64) o12) ++ [ti (r26 - (Int.tdiv r28 (5 : Int)))]))]⟩) (by kernel_rfl) ⟨trivial, wrapI c8, trivial⟩ ?_
        exact ⟨(n, r28b, r28c, r28d, o12 ++ [(r26 - (Int.tdiv r28 (5 : Int)))], (v6 + (1 : Int))), h, Nat.lt_succ_self _, (by first | rfl | (simp only [tlS, tl, vl, vo, oc, ov, tbl, vbl, ty, vy]; done) | (simp only [tlS, tl, vl, vo, oc, ov, tbl, vbl, ty, vy]; rfl) | (simp; done) | (simp []; done) | (rw [List.take_of_length_le (by simp [])]; done) | (rw [List.take_of_length_le (by simp [])]; rfl) | (simp only [tlL]; omega) | (simp; omega))⟩
      · -- no
        refine WP.cond (b := decide (v6 < r11)) rfl (fun hh => by rw [h1] at hh; cases hh) (fun _ => ?_)
        refine WP.path tab_ok mixed [] [.keep [5, 4, 3, 2, 0], .keepO [500, 2002, 2005, 2012], .names [(500, 500), (2002, 2002), (2005, 2005), (2012, 2012)]] (ps := []) (e := (.exit 0)) (σ' := ⟨[500, 2002, 2005, 2012], [(5, V.ref 2005 0), (4, vi r11), (3, vi r9), (2, V.ref 2002 0), (0, V.ref 500 0)], [(500, oc 112 [ty o500, ti o500b, T.int .u64 o500c]), (2002, oc 27 [T.nils, ti 0]), (2005, ov 27 [vo 2012 (List.length o12), vi r9]), (2012, oc 3 (List.map (T.int .i64) o12))]⟩) (by kernel_rfl) trivial ?_
        exact ⟨(o500, o500b, o500c, o12), h, rfl⟩
  · -- from there
    rintro ⟨o500, o500b, o500c, o12⟩ h0
    have h := (show J1 o500 o500b o500c o12 = some (y0, y1, y2, y3, y4) from h0)
    rw [hJ1] at h
    obtain ⟨J1, hJ1, h⟩ := jn_some h
    refine WP.joinA (fun (zz : (List Int) × Int × Int × (List Int)) => ⟨[500, 2002, 2005, 2012], [(5, V.ref 2005 0), (2, V.ref 2002 0)], [(500, oc 112 [ty zz.1, ti zz.2.1, T.int .u64 zz.2.2.1]), (2002, oc 27 [T.nils, ti 0]), (2005, ov 27 [vo 2012 (List.length zz.2.2.2), vi r9]), (2012, oc 3 (List.map (T.int .i64) zz.2.2.2))]⟩) (fun zz => J1 zz.1 zz.2.1 zz.2.2.1 zz.2.2.2 = some (y0, y1, y2, y3, y4)) ?_ ?_
    · -- to where they meet
      refine WP.seq ?_
      refine WP.path tab_ok mixed [] [.keep [7, 5, 4, 3, 2, 0], .keepO [500, 2002, 2005, 2012]] (ps := []) (e := .normal) (σ' := ⟨[500, 2002, 2005, 2012], [(7, vi 0), (5, V.ref 2005 0), (4, vi r11), (3, vi r9), (2, V.ref 2002 0), (0, V.ref 500 0)], [(500, oc 112 [ty o500, ti o500b, T.int .u64 o500c]), (2002, oc 27 [T.nils, ti 0]), (2005, ov 27 [vo 2012 (List.length o12), vi r9]), (2012, oc 3 (List.map (T.int .i64) o12))]⟩) (by kernel_rfl) trivial ?_
      refine WP.block ?_
      refine WP.wk [.keep [7, 5, 4, 3, 2, 0], .keepO [500, 2002, 2005, 2012], .names [(500, 500), (2002, 2002), (2005, 2005), (2012, 2012)]] (σ' := ⟨[500, 2002, 2005, 2012], [(7, vi 0), (5, V.ref 2005 0), (4, vi r11), (3, vi r9), (2, V.ref 2002 0), (0, V.ref 500 0)], [(500, oc 112 [ty o500, ti o500b, T.int .u64 o500c]), (2002, oc 27 [T.nils, ti 0]), (2005, ov 27 [vo 2012 (List.length o12), vi r9]), (2012, oc 3 (List.map (T.int .i64) o12))]⟩) (ps := []) (by kernel_rfl) trivial ?_
      refine WP.st (σ' := ⟨[500, 2002, 2005, 2012], [(7, vi (0 : Int)), (5, V.ref 2005 0), (4, vi r11), (3, vi r9), (2, V.ref 2002 0), (0, V.ref 500 0)], [(500, oc 112 [ty o500, ti o500b, T.int .u64 o500c]), (2002, oc 27 [T.nils, ti 0]), (2005, ov 27 [vo 2012 (List.length o12), vi r9]), (2012, oc 3 (List.map (T.int .i64) o12))]⟩) (by first | rfl | (simp only [tlS, tl, vl, vo, oc, ov, tbl, vbl, ty, vy]; done) | (simp only [tlS, tl, vl, vo, oc, ov, tbl, vbl, ty, vy]; rfl) | (simp; done) | (simp []; done) | (rw [List.take_of_length_le (by simp [])]; done) | (rw [List.take_of_length_le (by simp [])]; rfl) | (simp only [tlL]; omega) | (simp; omega)) ?_
      refine WP.loop (α := Nat × (List Int) × Int × Int × (List Int) × Int) (fun zz => ⟨[500, 2002, 2005, 2012], [(7, vi zz.2.2.2.2.2), (5, V.ref 2005 0), (4, vi r11), (3, vi r9), (2, V.ref 2002 0), (0, V.ref 500 0)], [(500, oc 112 [ty zz.2.1, ti zz.2.2.1, T.int .u64 zz.2.2.2.1]), (2002, oc 27 [T.nils, ti 0]), (2005, ov 27 [vo 2012 (List.length zz.2.2.2.2.1), vi r9]), (2012, oc 3 (List.map (T.int .i64) zz.2.2.2.2.1))]⟩) (fun zz => F_p_spec_l1Cur_state_L2 r9 r11 J1 zz.1 zz.2.1 zz.2.2.1 zz.2.2.2.1 zz.2.2.2.2.1 zz.2.2.2.2.2 = some (y0, y1, y2, y3, y4)) (fun zz => zz.1) (fuel, o500, o500b, o500c, o12, (0 : Int)) h ?_
      rintro ⟨n, o500d, o500e, o500g, o12b, v7⟩ h0
      have h := (show F_p_spec_l1Cur_state_L2 r9 r11 J1 n o500d o500e o500g o12b v7 = some (y0, y1, y2, y3, y4) from h0)
      rcases n with _ | n
      · rw [F_p_spec_l1Cur_state_L2] at h; cases h
      · rw [F_p_spec_l1Cur_state_L2] at h
        refine WP.seq ?_
        refine WP.seq ?_
        refine WP.path tab_ok mixed [] [.keep [36, 7, 5, 4, 3, 2, 0], .keepO [500, 2002, 2005, 2012]] (ps := [(True)]) (e := .normal) (σ' := ⟨[500, 2002, 2005, 2012], [(36, vb (decide (v7 < r11))), (7, vi v7), (5, V.ref 2005 0), (4, vi r11), (3, vi r9), (2, V.ref 2002 0), (0, V.ref 500 0)], [(500, oc 112 [ty o500d, ti o500e, T.int .u64 o500g]), (2002, oc 27 [T.nils, ti 0]), (2005, ov 27 [vo 2012 (List.length o12b), vi r9]), (2012, oc 3 (List.map (T.int .i64) o12b))]⟩) (by kernel_rfl) ⟨trivial, trivial⟩ ?_
        rcases ite_some h with ⟨h2, h⟩ | ⟨h2, h⟩
        · -- yes
          refine WP.cond (b := decide (v7 < r11)) rfl (fun _ => ?_) (fun hh => by rw [h2] at hh; cases hh)
          refine WP.path tab_ok mixed [] [.keep [7, 5, 4, 3, 2, 0], .keepO [500, 2002, 2005, 2012]] (ps := []) (e := .normal) (σ' := ⟨[500, 2002, 2005, 2012], [(7, vi v7), (5, V.ref 2005 0), (4, vi r11), (3, vi r9), (2, V.ref 2002 0), (0, V.ref 500 0)], [(500, oc 112 [ty o500d, ti o500e, T.int .u64 o500g]), (2002, oc 27 [T.nils, ti 0]), (2005, ov 27 [vo 2012 (List.length o12b), vi r9]), (2012, oc 3 (List.map (T.int .i64) o12b))]⟩) (by kernel_rfl) trivial ?_
          refine WP.seq ?_
          refine WP.block ?_
          obtain ⟨J2, hJ2, h⟩ := jn_some h
          refine WP.joinA (fun (zz : (List Int) × Int × Int × Bool) => ⟨[500, 2002, 2005, 2012], [(50, vb zz.2.2.2), (7, vi v7), (5, V.ref 2005 0), (4, vi r11), (3, vi r9), (2, V.ref 2002 0), (0, V.ref 500 0)], [(500, oc 112 [ty zz.1, ti zz.2.1, T.int .u64 zz.2.2.1]), (2002, oc 27 [T.nils, ti 0]), (2005, ov 27 [vo 2012 (List.length o12b), vi r9]), (2012, oc 3 (List.map (T.int .i64) o12b))]⟩) (fun zz => J2 zz.1 zz.2.1 zz.2.2.1 zz.2.2.2 = some (y0, y1, y2, y3, y4)) ?_ ?_
          · -- to where they meet
            obtain ⟨c2, h⟩ := chk_some h
            rcases ite_some h with ⟨h3, h⟩ | ⟨h3, h⟩
            · -- yes
              obtain ⟨r48, r48b, r48c, r48d, c3, h⟩ := bnd4_some h
              refine WP.path tab_ok mixed [(43, An.v (ti (List.getD o12b (Int.toNat v7) 0))), (45, An.b true), (48, An.callG [(500, 500)] [V.ref 500 0, vi 30] [(500, oc 112 [ty o500d, ti o500e, T.int .u64 o500g])] (vb r48) [(500, oc 112 [ty r48b, ti r48c, T.int .u64 r48d])])] [.keep [50, 7, 5, 4, 3, 2, 0], .keepO [500, 2002, 2005, 2012], .names [(500, 500), (2002, 2002), (2005, 2005), (2012, 2012)]] (ps := [(True), ((0 ≤ v7 ∧ v7 < ((List.length o12b : Nat) : Int))), ((List.map (T.int .i64) o12b : List T)[(Int.toNat v7) * 1]? = some (ti (List.getD o12b (Int.toNat v7) 0))), (ti (List.getD o12b (Int.toNat v7) 0) = ti (List.getD o12b (Int.toNat v7) 0)), (True), ((decide ((List.getD o12b (Int.toNat v7) 0) > r9)) = true), (CG Try.prog 134 [V.ref 500 0, vi 30] [(500, oc 112 [ty o500d, ti o500e, T.int .u64 o500g])] (vb r48) [(500, oc 112 [ty r48b, ti r48c, T.int .u64 r48d])]), ((V.ref 500 0).ren (renF [(500, 500)]) = V.ref 500 0), (WkT (ti 30) (ti 30)), ((oc 112 [ty o500d, ti o500e, T.int .u64 o500g]) = (oc 112 [ty o500d, ti o500e, T.int .u64 o500g]).ren (renF [(500, 500)]))]) (e := .normal) (σ' := ⟨[500, 2002, 2005, 2012], [(50, vb !r48), (7, vi v7), (5, V.ref 2005 0), (4, vi r11), (3, vi r9), (2, V.ref 2002 0), (0, V.ref 500 0)], [(500, oc 112 [ty r48b, ti r48c, T.int .u64 r48d]), (2002, oc 27 [T.nils, ti 0]), (2005, ov 27 [vo 2012 (List.length o12b), vi r9]), (2012, oc 3 (List.map (T.int .i64) o12b))]⟩) (by kernel_rfl) ⟨trivial, c2, atM (by simp) (by first | omega | (simp only [tlL]; omega) | (simp; omega)), rfl, trivial, h3, (F_p_spec_l1Cur_one_W o500d o500e o500g (30 : Int) r48 r48b r48c r48d c3), by first | rfl | (simp [V.ren, V.renL, renF, lk]; done) | (simp [V.ren, V.renL, renF, lk]; omega), WkT.refl _, by first | rfl | (simp only [tlS]; rfl) | (simp [Tl.Obj.ren, V.ren, V.renL, renF, lk]; done), trivial⟩ ?_
              exact ⟨(r48b, r48c, r48d, !r48), h, rfl⟩
            · -- no
              refine WP.path tab_ok mixed [(43, An.v (ti (List.getD o12b (Int.toNat v7) 0))), (45, An.b false)] [.keep [50, 7, 5, 4, 3, 2, 0], .keepO [500, 2002, 2005, 2012], .names [(500, 500), (2002, 2002), (2005, 2005), (2012, 2012)]] (ps := [(True), ((0 ≤ v7 ∧ v7 < ((List.length o12b : Nat) : Int))), ((List.map (T.int .i64) o12b : List T)[(Int.toNat v7) * 1]? = some (ti (List.getD o12b (Int.toNat v7) 0))), (ti (List.getD o12b (Int.toNat v7) 0) = ti (List.getD o12b (Int.toNat v7) 0)), (True), ((decide ((List.getD o12b (Int.toNat v7) 0) > r9)) = false)]) (e := .normal) (σ' := ⟨[500, 2002, 2005, 2012], [(50, vb false), (7, vi v7), (5, V.ref 2005 0), (4, vi r11), (3, vi r9), (2, V.ref 2002 0), (0, V.ref 500 0)], [(500, oc 112 [ty o500d, ti o500e, T.int .u64 o500g]), (2002, oc 27 [T.nils, ti 0]), (2005, ov 27 [vo 2012 (List.length o12b), vi r9]), (2012, oc 3 (List.map (T.int .i64) o12b))]⟩) (by kernel_rfl) ⟨trivial, c2, atM (by simp) (by first | omega | (simp only [tlL]; omega) | (simp; omega)), rfl, trivial, h3, trivial⟩ ?_
              exact ⟨(o500d, o500e, o500g, false), h, rfl⟩
          · -- from there
            rintro ⟨o500i, o500j, o500k, v50⟩ h0
            have h := (show J2 o500i o500j o500k v50 = some (y0, y1, y2, y3, y4) from h0)
            rw [hJ2] at h
            rcases ite_some h with ⟨h4, h⟩ | ⟨h4, h⟩
            · -- yes
              refine WP.cond (b := v50) rfl (fun _ => ?_) (fun hh => by rw [h4] at hh; cases hh)
              obtain ⟨c2, h⟩ := chk_some h
              refine WP.path tab_ok mixed [] [.keep [7, 5, 4, 3, 2, 0], .keepO [500, 2002, 2005, 2012]] (ps := [(True), ((0 ≤ v7 ∧ v7 < ((List.length o12b : Nat) : Int))), ((Int.toNat v7) * 1 < List.length (List.map (T.int .i64) o12b))]) (e := .normal) (σ' := ⟨[500, 2002, 2005, 2012], [(7, vi v7), (5, V.ref 2005 0), (4, vi r11), (3, vi r9), (2, V.ref 2002 0), (0, V.ref 500 0)], [(500, oc 112 [ty o500i, ti o500j, T.int .u64 o500k]), (2002, oc 27 [T.nils, ti 0]), (2005, ov 27 [vo 2012 (List.length o12b), vi r9]), (2012, oc 3 (List.set (List.map (T.int .i64) o12b) ((Int.toNat v7) * 1) (ti (-1))))]⟩) (by kernel_rfl) ⟨trivial, c2, by first | decide | omega | (simp only [tlL]; omega) | (simp; omega) | (simp []; done) | (simp []; omega), trivial⟩ ?_
              obtain ⟨c3, h⟩ := chk_some h
              refine WP.path tab_ok mixed [(38, An.v (T.int .i64 (v7 + (1 : Int))))] [.keep [7, 5, 4, 3, 2, 0], .keepO [500, 2002, 2005, 2012], .names [(500, 500), (2002, 2002), (2005, 2005), (2012, 2012)]] (ps := [(True), (T.int .i64 (IntKind.wrap .i64 (v7 + (1 : Int))) = T.int .i64 (v7 + (1 : Int)))]) (e := .normal) (σ' := ⟨[500, 2002, 2005, 2012], [(7, vi (v7 + (1 : Int))), (5, V.ref 2005 0), (4, vi r11), (3, vi r9), (2, V.ref 2002 0), (0, V.ref 500 0)], [(500, oc 112 [ty o500i, ti o500j, T.int .u64 o500k]), (2002, oc 27 [T.nils, ti 0]), (2005, ov 27 [vo 2012 (List.length o12b), vi r9]), (2012, oc 3 (List.set (List.map (T.int .i64) o12b) ((Int.toNat v7) * 1) (ti (-1))))]⟩) (by kernel_rfl) ⟨trivial, wrapI c3, trivial⟩ ?_
              exact ⟨(n, o500i, o500j, o500k, List.set o12b (Int.toNat v7) (-1 : Int), (v7 + (1 : Int))), h, Nat.lt_succ_self _, (by first | rfl | (simp only [tlS, tl, vl, vo, oc, ov, tbl, vbl, ty, vy]; done) | (simp only [tlS, tl, vl, vo, oc, ov, tbl, vbl, ty, vy]; rfl) | (simp; done) | (simp []; done) | (rw [List.take_of_length_le (by simp [])]; done) | (rw [List.take_of_length_le (by simp [])]; rfl) | (simp only [tlL]; omega) | (simp; omega))⟩
            · -- no
              refine WP.cond (b := v50) rfl (fun hh => by rw [h4] at hh; cases hh) (fun _ => ?_)
              refine WP.path tab_ok mixed [] [.keep [7, 5, 4, 3, 2, 0], .keepO [500, 2002, 2005, 2012]] (ps := []) (e := .normal) (σ' := ⟨[500, 2002, 2005, 2012], [(7, vi v7), (5, V.ref 2005 0), (4, vi r11), (3, vi r9), (2, V.ref 2002 0), (0, V.ref 500 0)], [(500, oc 112 [ty o500i, ti o500j, T.int .u64 o500k]), (2002, oc 27 [T.nils, ti 0]), (2005, ov 27 [vo 2012 (List.length o12b), vi r9]), (2012, oc 3 (List.map (T.int .i64) o12b))]⟩) (by kernel_rfl) trivial ?_
              obtain ⟨c2, h⟩ := chk_some h
              refine WP.path tab_ok mixed [(38, An.v (T.int .i64 (v7 + (1 : Int))))] [.keep [7, 5, 4, 3, 2, 0], .keepO [500, 2002, 2005, 2012], .names [(500, 500), (2002, 2002), (2005, 2005), (2012, 2012)]] (ps := [(True), (T.int .i64 (IntKind.wrap .i64 (v7 + (1 : Int))) = T.int .i64 (v7 + (1 : Int)))]) (e := .normal) (σ' := ⟨[500, 2002, 2005, 2012], [(7, vi (v7 + (1 : Int))), (5, V.ref 2005 0), (4, vi r11), (3, vi r9), (2, V.ref 2002 0), (0, V.ref 500 0)], [(500, oc 112 [ty o500i, ti o500j, T.int .u64 o500k]), (2002, oc 27 [T.nils, ti 0]), (2005, ov 27 [vo 2012 (List.length o12b), vi r9]), (2012, oc 3 (List.map (T.int .i64) o12b))]⟩) (by kernel_rfl) ⟨trivial, wrapI c2, trivial⟩ ?_
              exact ⟨(n, o500i, o500j, o500k, o12b, (v7 + (1 : Int))), h, Nat.lt_succ_self _, rfl⟩
        · -- no
          refine WP.cond (b := decide (v7 < r11)) rfl (fun hh => by rw [h2] at hh; cases hh) (fun _ => ?_)
          refine WP.path tab_ok mixed [] [.keep [5, 2], .keepO [500, 2002, 2005, 2012], .names [(500, 500), (2002, 2002), (2005, 2005), (2012, 2012)]] (ps := []) (e := (.exit 2)) (σ' := ⟨[500, 2002, 2005, 2012], [(5, V.ref 2005 0), (2, V.ref 2002 0)], [(500, oc 112 [ty o500d, ti o500e, T.int .u64 o500g]), (2002, oc 27 [T.nils, ti 0]), (2005, ov 27 [vo 2012 (List.length o12b), vi r9]), (2012, oc 3 (List.map (T.int .i64) o12b))]⟩) (by kernel_rfl) trivial ?_
          exact ⟨(o500d, o500e, o500g, o12b), h, rfl⟩
    · -- from there
      rintro ⟨o500d, o500e, o500g, o12b⟩ h0
      have h := (show J1 o500d o500e o500g o12b = some (y0, y1, y2, y3, y4) from h0)
      rw [hJ1] at h
      simp only [Option.some.injEq, Prod.mk.injEq] at h
      obtain ⟨rfl, rfl, rfl, rfl, rfl⟩ := h
      exact WP.pathG tab_ok mixed [] [.keep [2], .keepO [500, 2012, 2002], .names [(500, 500), (2012, 9000), (2002, 2002)]] [500, 9000] _ (r' := V.agg [vo 9000 (List.length o12b), vi r9]) (ps := [(0 + 2 ≤ 2), ((0 + 2 ≤ 2 ∧ 2 = 2)), (0 + 2 ≤ 2)]) (r := V.agg [vo 9000 (List.length o12b), vi r9]) (N := [500, 9000, 2002]) (O := [(500, oc 112 [ty o500d, ti o500e, T.int .u64 o500g]), (9000, oc 3 (List.map (T.int .i64) o12b))]) [] (by kernel_rfl) ⟨by decide, by decide, by decide, trivial⟩ ⟨rfl, (WkT.refl _), trivial⟩ rfl rfl (fun _ h => h)
theorem F_p_spec_l1Cur_question_W (x0 : List Int) (x1 : Int) (x2 : Int) (x3 : Int) (y0 : Int) (y1 : List Int) (y2 : Int) (y3 : Int) (h : F_p_spec_l1Cur_question x0 x1 x2 x3 = some (y0, y1, y2, y3)) : CG Try.prog 89 [V.ref 500 0, vi x3] [(500, oc 112 [ty x0, ti x1, T.int .u64 x2])] (vi y0) [(500, oc 112 [ty y1, ti y2, T.int .u64 y3])] := by
  unfold F_p_spec_l1Cur_question at h
  refine CG.intro (tab := tab) tab_ok (fn := Try.f89) Try.func89 (by kernel_rfl) rfl (Nat.le_of_ble_eq_true rfl) (by kernel_rfl) ?_
  refine WP.seq ?_
  refine WP.path tab_ok mixed [] [.keep [4, 0, 1], .keepO [500]] (ps := []) (e := .normal) (σ' := ⟨[500], [(4, vi 0), (0, V.ref 500 0), (1, vi x3)], [(500, oc 112 [ty x0, ti x1, T.int .u64 x2])]⟩) (by kernel_rfl) trivial ?_
  refine WP.seq ?_
  refine WP.seq ?_
  obtain ⟨r6, r6b, r6c, r6d, c0, h⟩ := bnd4_some h
  refine WP.path tab_ok mixed [(6, An.callG [(500, 500)] [V.ref 500 0, vi 24] [(500, oc 112 [ty x0, ti x1, T.int .u64 x2])] (vb r6) [(500, oc 112 [ty r6b, ti r6c, T.int .u64 r6d])])] [.keep [6, 4, 0, 1], .keepO [500]] (ps := [(CG Try.prog 134 [V.ref 500 0, vi 24] [(500, oc 112 [ty x0, ti x1, T.int .u64 x2])] (vb r6) [(500, oc 112 [ty r6b, ti r6c, T.int .u64 r6d])]), ((V.ref 500 0).ren (renF [(500, 500)]) = V.ref 500 0), (WkT (ti 24) (ti 24)), ((oc 112 [ty x0, ti x1, T.int .u64 x2]) = (oc 112 [ty x0, ti x1, T.int .u64 x2]).ren (renF [(500, 500)]))]) (e := .normal) (σ' := ⟨[500], [(6, vb r6), (4, vi 0), (0, V.ref 500 0), (1, vi x3)], [(500, oc 112 [ty r6b, ti r6c, T.int .u64 r6d])]⟩) (by kernel_rfl) ⟨(F_p_spec_l1Cur_one_W x0 x1 x2 (24 : Int) r6 r6b r6c r6d c0), by first | rfl | (simp [V.ren, V.renL, renF, lk]; done) | (simp [V.ren, V.renL, renF, lk]; omega), WkT.refl _, by first | rfl | (simp only [tlS]; rfl) | (simp [Tl.Obj.ren, V.ren, V.renL, renF, lk]; done), trivial⟩ ?_
  rcases ite_some h with ⟨h1, h⟩ | ⟨h1, h⟩
  · -- yes
    refine WP.cond (b := r6) rfl (fun _ => ?_) (fun hh => by rw [h1] at hh; cases hh)
    obtain ⟨c1, h⟩ := chk_some h
    obtain ⟨r13, r13b, r13c, r13d, c2, h⟩ := bnd4_some h
    simp only [Option.some.injEq, Prod.mk.injEq] at h
    obtain ⟨rfl, rfl, rfl, rfl⟩ := h
    exact WP.pathG tab_ok mixed [(9, An.call (ti (minN x3 (13 : Int)))), (10, An.call (ti (maxN (0 : Int) (minN x3 (13 : Int))))), (11, An.v (T.int .i64 ((1 : Int) * 2 ^ Int.toNat (maxN (0 : Int) (minN x3 (13 : Int)))))), (12, An.fz), (13, An.callG [(500, 500)] [V.ref 500 0, vl [(-1 : Int), ((1 : Int) * 2 ^ Int.toNat (maxN (0 : Int) (minN x3 (13 : Int)))), (4611686018427387904 : Int)]] [(500, oc 112 [ty r6b, ti r6c, T.int .u64 r6d])] (vi r13) [(500, oc 112 [ty r13b, ti r13c, T.int .u64 r13d])])] [.keep [4], .keepO [500], .names [(500, 500)]] [500] _ (r' := vi r13) (ps := [(C Try.prog 153 [ti x3, ti 13] (ti (minN x3 (13 : Int)))), (C Try.prog 151 [ti 0, ti (minN x3 (13 : Int))] (ti (maxN (0 : Int) (minN x3 (13 : Int))))), (0 ≤ (maxN (0 : Int) (minN x3 (13 : Int)))), (T.int .i64 (IntKind.wrap .i64 ((1 : Int) * 2 ^ (min (Int.toNat (maxN (0 : Int) (minN x3 (13 : Int)))) 64))) = T.int .i64 ((1 : Int) * 2 ^ Int.toNat (maxN (0 : Int) (minN x3 (13 : Int))))), ((1 = 1 ∧ 0 + 1 ≤ 3) ∧ (1 = 1 ∧ 1 + 1 ≤ 3) ∧ (1 = 1 ∧ 2 + 1 ≤ 3) ∧ True), (3 = 3 * 1), (CG Try.prog 152 [V.ref 500 0, vl [(-1 : Int), ((1 : Int) * 2 ^ Int.toNat (maxN (0 : Int) (minN x3 (13 : Int)))), (4611686018427387904 : Int)]] [(500, oc 112 [ty r6b, ti r6c, T.int .u64 r6d])] (vi r13) [(500, oc 112 [ty r13b, ti r13c, T.int .u64 r13d])]), ((V.ref 500 0).ren (renF [(500, 500)]) = V.ref 500 0), (WkT (T.list 3 1 [ti (-1), ti ((1 : Int) * 2 ^ Int.toNat (maxN (0 : Int) (minN x3 (13 : Int)))), ti 4611686018427387904]) (tl [(-1 : Int), ((1 : Int) * 2 ^ Int.toNat (maxN (0 : Int) (minN x3 (13 : Int)))), (4611686018427387904 : Int)])), ((oc 112 [ty r6b, ti r6c, T.int .u64 r6d]) = (oc 112 [ty r6b, ti r6c, T.int .u64 r6d]).ren (renF [(500, 500)]))]) (r := vi r13) (N := [500]) (O := [(500, oc 112 [ty r13b, ti r13c, T.int .u64 r13d])]) [] (by kernel_rfl) ⟨(by have hh := (l1Least_C x3 (13 : Int)); simpa using hh), (by have hh := (l1Most_C (0 : Int) (minN x3 (13 : Int))); simpa using hh), c1.1, shl_told c1, ⟨⟨by first | rfl | (simp; done) | (simp []; done) | omega, by first | decide | (simp; done) | (simp []; done) | omega | (simp only [tlL]; omega) | (simp; omega)⟩, ⟨by first | rfl | (simp; done) | (simp []; done) | omega, by first | decide | (simp; done) | (simp []; done) | omega | (simp only [tlL]; omega) | (simp; omega)⟩, ⟨by first | rfl | (simp; done) | (simp []; done) | omega, by first | decide | (simp; done) | (simp []; done) | omega | (simp only [tlL]; omega) | (simp; omega)⟩, trivial⟩, by decide, (F_p_spec_l1Cur_among_W r6b r6c r6d [(-1 : Int), ((1 : Int) * 2 ^ Int.toNat (maxN (0 : Int) (minN x3 (13 : Int)))), (4611686018427387904 : Int)] r13 r13b r13c r13d c2), by first | rfl | (simp [V.ren, V.renL, renF, lk]; done) | (simp [V.ren, V.renL, renF, lk]; omega), WkT.eq (WkT.refl _) (by first | rfl | (simp only [tlS, tl, vl, vo, oc, ov, tbl, vbl, ty, vy]; done) | (simp only [tlS, tl, vl, vo, oc, ov, tbl, vbl, ty, vy]; rfl) | (simp; done) | (simp []; done) | (rw [List.take_of_length_le (by simp [])]; done) | (rw [List.take_of_length_le (by simp [])]; rfl) | (simp only [tlL]; omega) | (simp; omega)), by first | rfl | (simp only [tlS]; rfl) | (simp [Tl.Obj.ren, V.ren, V.renL, renF, lk]; done), trivial⟩ ⟨(WkT.refl _), trivial⟩ rfl rfl (fun _ h => h)
  · -- no
    refine WP.cond (b := r6) rfl (fun hh => by rw [h1] at hh; cases hh) (fun _ => ?_)
    refine WP.path tab_ok mixed [] [.keep [4, 0, 1], .keepO [500]] (ps := []) (e := .normal) (σ' := ⟨[500], [(4, vi 0), (0, V.ref 500 0), (1, vi x3)], [(500, oc 112 [ty r6b, ti r6c, T.int .u64 r6d])]⟩) (by kernel_rfl) trivial ?_
    obtain ⟨c1, h⟩ := chk_some h
    obtain ⟨r19, r19b, r19c, r19d, c2, h⟩ := bnd4_some h
    simp only [Option.some.injEq, Prod.mk.injEq] at h
    obtain ⟨rfl, rfl, rfl, rfl⟩ := h
    exact WP.pathG tab_ok mixed [(16, An.call (ti (minN x3 (12 : Int)))), (17, An.call (ti (maxN (0 : Int) (minN x3 (12 : Int))))), (18, An.v (T.int .i64 ((1 : Int) * 2 ^ Int.toNat (maxN (0 : Int) (minN x3 (12 : Int)))))), (19, An.callG [(500, 500)] [V.ref 500 0, vi ((1 : Int) * 2 ^ Int.toNat (maxN (0 : Int) (minN x3 (12 : Int))))] [(500, oc 112 [ty r6b, ti r6c, T.int .u64 r6d])] (vi r19) [(500, oc 112 [ty r19b, ti r19c, T.int .u64 r19d])])] [.keep [4], .keepO [500], .names [(500, 500)]] [500] _ (r' := vi r19) (ps := [(C Try.prog 153 [ti x3, ti 12] (ti (minN x3 (12 : Int)))), (C Try.prog 151 [ti 0, ti (minN x3 (12 : Int))] (ti (maxN (0 : Int) (minN x3 (12 : Int))))), (0 ≤ (maxN (0 : Int) (minN x3 (12 : Int)))), (T.int .i64 (IntKind.wrap .i64 ((1 : Int) * 2 ^ (min (Int.toNat (maxN (0 : Int) (minN x3 (12 : Int)))) 64))) = T.int .i64 ((1 : Int) * 2 ^ Int.toNat (maxN (0 : Int) (minN x3 (12 : Int))))), (CG Try.prog 133 [V.ref 500 0, vi ((1 : Int) * 2 ^ Int.toNat (maxN (0 : Int) (minN x3 (12 : Int))))] [(500, oc 112 [ty r6b, ti r6c, T.int .u64 r6d])] (vi r19) [(500, oc 112 [ty r19b, ti r19c, T.int .u64 r19d])]), ((V.ref 500 0).ren (renF [(500, 500)]) = V.ref 500 0), (WkT (ti ((1 : Int) * 2 ^ Int.toNat (maxN (0 : Int) (minN x3 (12 : Int))))) (ti ((1 : Int) * 2 ^ Int.toNat (maxN (0 : Int) (minN x3 (12 : Int)))))), ((oc 112 [ty r6b, ti r6c, T.int .u64 r6d]) = (oc 112 [ty r6b, ti r6c, T.int .u64 r6d]).ren (renF [(500, 500)]))]) (r := vi r19) (N := [500]) (O := [(500, oc 112 [ty r19b, ti r19c, T.int .u64 r19d])]) [] (by kernel_rfl) ⟨(by have hh := (l1Least_C x3 (12 : Int)); simpa using hh), (by have hh := (l1Most_C (0 : Int) (minN x3 (12 : Int))); simpa using hh), c1.1, shl_told c1, (F_p_spec_l1Cur_pick_W r6b r6c r6d ((1 : Int) * 2 ^ Int.toNat (maxN (0 : Int) (minN x3 (12 : Int)))) r19 r19b r19c r19d c2), by first | rfl | (simp [V.ren, V.renL, renF, lk]; done) | (simp [V.ren, V.renL, renF, lk]; omega), WkT.refl _, by first | rfl | (simp only [tlS]; rfl) | (simp [Tl.Obj.ren, V.ren, V.renL, renF, lk]; done), trivial⟩ ⟨(WkT.refl _), trivial⟩ rfl rfl (fun _ h => h)
theorem F_p_spec_l1Cur_ahead3_W (x0 : List Int) (x1 : Int) (x2 : Int) (y0 : Int) (y1 : List Int) (y2 : Int) (y3 : Int) (h : F_p_spec_l1Cur_ahead3 x0 x1 x2 = some (y0, y1, y2, y3)) : CG Try.prog 90 [V.ref 500 0] [(500, oc 112 [ty x0, ti x1, T.int .u64 x2])] (vi y0) [(500, oc 112 [ty y1, ti y2, T.int .u64 y3])] := by
  unfold F_p_spec_l1Cur_ahead3 at h
  refine CG.intro (tab := tab) tab_ok (fn := Try.f90) Try.func90 (by kernel_rfl) rfl (Nat.le_of_ble_eq_true rfl) (by kernel_rfl) ?_
  obtain ⟨r6, r6b, r6c, r6d, c0, h⟩ := bnd4_some h
  obtain ⟨c1, h⟩ := chk_some h
  obtain ⟨c2, h⟩ := chk_some h
  obtain ⟨c3, h⟩ := chk_some h
  obtain ⟨r10, r10b, r10c, r10d, c4, h⟩ := bnd4_some h
  simp only [Option.some.injEq, Prod.mk.injEq] at h
  obtain ⟨rfl, rfl, rfl, rfl⟩ := h
  exact WP.pathG tab_ok mixed [(4, An.fz), (6, An.callG [(500, 500)] [V.ref 500 0, vi 24] [(500, oc 112 [ty x0, ti x1, T.int .u64 x2])] (vi r6) [(500, oc 112 [ty r6b, ti r6c, T.int .u64 r6d])]), (7, An.v (T.int .i64 (Int.tdiv r6 (11 : Int)))), (8, An.v (T.int .i64 ((10 : Int) + (Int.tdiv r6 (11 : Int))))), (10, An.callG [(500, 500)] [V.ref 500 0, vl (List.take ((Int.toNat ((10 : Int) + (Int.tdiv r6 (11 : Int)))) - 0) [(4 : Int), (5 : Int), (3 : Int), (6 : Int), (2 : Int), (8 : Int), (1 : Int), (30 : Int), (12 : Int), (0 : Int), (31 : Int), (-1 : Int)])] [(500, oc 112 [ty r6b, ti r6c, T.int .u64 r6d])] (vi r10) [(500, oc 112 [ty r10b, ti r10c, T.int .u64 r10d])])] [.keep [2], .keepO [500], .names [(500, 500)]] [500] _ (r' := vi r10) (ps := [((1 = 1 ∧ 0 + 1 ≤ 12) ∧ (1 = 1 ∧ 1 + 1 ≤ 12) ∧ (1 = 1 ∧ 2 + 1 ≤ 12) ∧ (1 = 1 ∧ 3 + 1 ≤ 12) ∧ (1 = 1 ∧ 4 + 1 ≤ 12) ∧ (1 = 1 ∧ 5 + 1 ≤ 12) ∧ (1 = 1 ∧ 6 + 1 ≤ 12) ∧ (1 = 1 ∧ 7 + 1 ≤ 12) ∧ (1 = 1 ∧ 8 + 1 ≤ 12) ∧ (1 = 1 ∧ 9 + 1 ≤ 12) ∧ (1 = 1 ∧ 10 + 1 ≤ 12) ∧ (1 = 1 ∧ 11 + 1 ≤ 12) ∧ True), (12 = 12 * 1), (CG Try.prog 133 [V.ref 500 0, vi 24] [(500, oc 112 [ty x0, ti x1, T.int .u64 x2])] (vi r6) [(500, oc 112 [ty r6b, ti r6c, T.int .u64 r6d])]), ((V.ref 500 0).ren (renF [(500, 500)]) = V.ref 500 0), (WkT (ti 24) (ti 24)), ((oc 112 [ty x0, ti x1, T.int .u64 x2]) = (oc 112 [ty x0, ti x1, T.int .u64 x2]).ren (renF [(500, 500)])), ((11 : Int) ≠ 0), (T.int .i64 (IntKind.wrap .i64 (Int.tdiv r6 (11 : Int))) = T.int .i64 (Int.tdiv r6 (11 : Int))), (True), (T.int .i64 (IntKind.wrap .i64 ((10 : Int) + (Int.tdiv r6 (11 : Int)))) = T.int .i64 ((10 : Int) + (Int.tdiv r6 (11 : Int)))), ((0 ≤ (0 : Int) ∧ (0 : Int) ≤ ((10 : Int) + (Int.tdiv r6 (11 : Int))) ∧ ((10 : Int) + (Int.tdiv r6 (11 : Int))) ≤ (12 : Int))), (CG Try.prog 152 [V.ref 500 0, vl (List.take ((Int.toNat ((10 : Int) + (Int.tdiv r6 (11 : Int)))) - 0) [(4 : Int), (5 : Int), (3 : Int), (6 : Int), (2 : Int), (8 : Int), (1 : Int), (30 : Int), (12 : Int), (0 : Int), (31 : Int), (-1 : Int)])] [(500, oc 112 [ty r6b, ti r6c, T.int .u64 r6d])] (vi r10) [(500, oc 112 [ty r10b, ti r10c, T.int .u64 r10d])]), ((V.ref 500 0).ren (renF [(500, 500)]) = V.ref 500 0), (WkT (T.list ((Int.toNat ((10 : Int) + (Int.tdiv r6 (11 : Int)))) - 0) 1 (List.take (((Int.toNat ((10 : Int) + (Int.tdiv r6 (11 : Int)))) - 0) * 1) [ti 4, ti 5, ti 3, ti 6, ti 2, ti 8, ti 1, ti 30, ti 12, ti 0, ti 31, ti (-1)])) (tl (List.take ((Int.toNat ((10 : Int) + (Int.tdiv r6 (11 : Int)))) - 0) [(4 : Int), (5 : Int), (3 : Int), (6 : Int), (2 : Int), (8 : Int), (1 : Int), (30 : Int), (12 : Int), (0 : Int), (31 : Int), (-1 : Int)]))), ((oc 112 [ty r6b, ti r6c, T.int .u64 r6d]) = (oc 112 [ty r6b, ti r6c, T.int .u64 r6d]).ren (renF [(500, 500)]))]) (r := vi r10) (N := [500]) (O := [(500, oc 112 [ty r10b, ti r10c, T.int .u64 r10d])]) [] (by kernel_rfl) ⟨⟨⟨by first | rfl | (simp; done) | (simp []; done) | omega, by first | decide | (simp; done) | (simp []; done) | omega | (simp only [tlL]; omega) | (simp; omega)⟩, ⟨by first | rfl | (simp; done) | (simp []; done) | omega, by first | decide | (simp; done) | (simp []; done) | omega | (simp only [tlL]; omega) | (simp; omega)⟩, ⟨by first | rfl | (simp; done) | (simp []; done) | omega, by first | decide | (simp; done) | (simp []; done) | omega | (simp only [tlL]; omega) | (simp; omega)⟩, ⟨by first | rfl | (simp; done) | (simp []; done) | omega, by first | decide | (simp; done) | (simp []; done) | omega | (simp only [tlL]; omega) | (simp; omega)⟩, ⟨by first | rfl | (simp; done) | (simp []; done) | omega, by first | decide | (simp; done) | (simp []; done) | omega | (simp only [tlL]; omega) | (simp; omega)⟩, ⟨by first | rfl | (simp; done) | (simp []; done) | omega, by first | decide | (simp; done) | (simp []; done) | omega | (simp only [tlL]; omega) | (simp; omega)⟩, ⟨by first | rfl | (simp; done) | (simp []; done) | omega, by first | decide | (simp; done) | (simp []; done) | omega | (simp only [tlL]; omega) | (simp; omega)⟩, ⟨by first | rfl | (simp; done) | (simp []; done) | omega, by first | decide | (simp; done) | (simp []; done) | omega | (simp only [tlL]; omega) | (simp; omega)⟩, ⟨by first | rfl | (simp; done) | (simp []; done) | omega, by first | decide | (simp; done) | (simp []; done) | omega | (simp only [tlL]; omega) | (simp; omega)⟩, ⟨by first | rfl | (simp; done) | (simp []; done) | omega, by first | decide | (simp; done) | (simp []; done) | omega | (simp only [tlL]; omega) | (simp; omega)⟩, ⟨by first | rfl | (simp; done) | (simp []; done) | omega, by first | decide | (simp; done) | (simp []; done) | omega | (simp only [tlL]; omega) | (simp; omega)⟩, ⟨by first | rfl | (simp; done) | (simp []; done) | omega, by first | decide | (simp; done) | (simp []; done) | omega | (simp only [tlL]; omega) | (simp; omega)⟩, trivial⟩, by decide, (F_p_spec_l1Cur_pick_W x0 x1 x2 (24 : Int) r6 r6b r6c r6d c0), by first | rfl | (simp [V.ren, V.renL, renF, lk]; done) | (simp [V.ren, V.renL, renF, lk]; omega), WkT.refl _, by first | rfl | (simp only [tlS]; rfl) | (simp [Tl.Obj.ren, V.ren, V.renL, renF, lk]; done), (show (11 : Int) ≠ 0 by first | decide | (simp only [maxLen]; omega) | (unfold I64; omega) | (unfold I64; decide)), quo_told c1, trivial, wrapI c2, c3, (F_p_spec_l1Cur_among_W r6b r6c r6d (List.take ((Int.toNat ((10 : Int) + (Int.tdiv r6 (11 : Int)))) - 0) [(4 : Int), (5 : Int), (3 : Int), (6 : Int), (2 : Int), (8 : Int), (1 : Int), (30 : Int), (12 : Int), (0 : Int), (31 : Int), (-1 : Int)]) r10 r10b r10c r10d c4), by first | rfl | (simp [V.ren, V.renL, renF, lk]; done) | (simp [V.ren, V.renL, renF, lk]; omega), WkT.eq (WkT.refl _) (by first | rfl | (simp only [tlS, tl, vl, vo, oc, ov, tbl, vbl, ty, vy]; done) | (simp only [tlS, tl, vl, vo, oc, ov, tbl, vbl, ty, vy]; rfl) | (simp; done) | (simp []; done) | (rw [List.take_of_length_le (by simp [])]; done) | (rw [List.take_of_length_le (by simp [])]; rfl) | (simp only [tlL]; omega) | (simp; omega)), by first | rfl | (simp only [tlS]; rfl) | (simp [Tl.Obj.ren, V.ren, V.renL, renF, lk]; done), trivial⟩ ⟨(WkT.refl _), trivial⟩ rfl rfl (fun _ h => h)
theorem F_spec_DrawAnswerWeights_W (x0 : List Int) (y0 : List Int) (y1 : Int) (y2 : Int) (y3 : Int) (h : F_spec_DrawAnswerWeights x0 = some (y0, y1, y2, y3)) : CG Try.prog 22 [vy x0] [] (V.tup [V.agg [vo 9000 (List.length y0), vi y1], vi y2, vi y3]) [(9000, oc 3 (List.map (T.int .i64) y0))] := by
  unfold F_spec_DrawAnswerWeights at h
  refine CG.intro (tab := tab) tab_ok (fn := Try.f22) Try.func22 (by kernel_rfl) rfl (Nat.le_of_ble_eq_true rfl) (by kernel_rfl) ?_
  obtain ⟨r11, r11b, r11c, r11d, r11e, c0, h⟩ := bnd5_some h
  obtain ⟨r17, r17b, r17c, r17d, c1, h⟩ := bnd4_some h
  obtain ⟨r19, r19b, r19c, r19d, c2, h⟩ := bnd4_some h
  simp only [Option.some.injEq, Prod.mk.injEq] at h
  obtain ⟨rfl, rfl, rfl, rfl⟩ := h
  exact WP.pathG tab_ok mixed [(2, An.id 2002), (9, An.id 2009), (11, An.callG [(500, 2009), (9000, 10110)] [V.ref 500 0] [(500, oc 112 [ty x0, ti 0, T.int .u64 0])] (V.agg [vo 9000 (List.length r11), vi r11b]) [(500, oc 112 [ty r11c, ti r11d, T.int .u64 r11e]), (9000, oc 3 (List.map (T.int .i64) r11))]), (6, An.id 2006), (17, An.callG [(500, 2009)] [V.ref 500 0, vi ((List.length r11 : Nat) : Int)] [(500, oc 112 [ty r11c, ti r11d, T.int .u64 r11e])] (vi r17) [(500, oc 112 [ty r17b, ti r17c, T.int .u64 r17d])]), (19, An.callG [(500, 2009)] [V.ref 500 0] [(500, oc 112 [ty r17b, ti r17c, T.int .u64 r17d])] (vi r19) [(500, oc 112 [ty r19b, ti r19c, T.int .u64 r19d])])] [.keep [2, 3, 4], .keepO [10110, 2002], .names [(10110, 9000), (2002, 2002)]] [9000] _ (r' := V.tup [V.agg [vo 9000 (List.length r11), vi r11b], vi r17, vi r19]) (ps := [((1 = 1 ∧ 0 + 1 ≤ 3) ∧ True), (CG Try.prog 88 [V.ref 500 0] [(500, oc 112 [ty x0, ti 0, T.int .u64 0])] (V.agg [vo 9000 (List.length r11), vi r11b]) [(500, oc 112 [ty r11c, ti r11d, T.int .u64 r11e]), (9000, oc 3 (List.map (T.int .i64) r11))]), ((V.ref 500 0).ren (renF [(500, 2009), (9000, 10110)]) = V.ref 2009 0), ((oc 112 [ty x0, ti 0, T.int .u64 0]) = (oc 112 [ty x0, ti 0, T.int .u64 0]).ren (renF [(500, 2009), (9000, 10110)])), ((0 + 2 ≤ 2 ∧ 2 = 2)), (0 + 2 ≤ 2), (True), (CG Try.prog 89 [V.ref 500 0, vi ((List.length r11 : Nat) : Int)] [(500, oc 112 [ty r11c, ti r11d, T.int .u64 r11e])] (vi r17) [(500, oc 112 [ty r17b, ti r17c, T.int .u64 r17d])]), ((V.ref 500 0).ren (renF [(500, 2009)]) = V.ref 2009 0), (WkT (ti ((List.length r11 : Nat) : Int)) (ti ((List.length r11 : Nat) : Int))), ((oc 112 [ty r11c, ti r11d, T.int .u64 r11e]) = (oc 112 [ty r11c, ti r11d, T.int .u64 r11e]).ren (renF [(500, 2009)])), (CG Try.prog 90 [V.ref 500 0] [(500, oc 112 [ty r17b, ti r17c, T.int .u64 r17d])] (vi r19) [(500, oc 112 [ty r19b, ti r19c, T.int .u64 r19d])]), ((V.ref 500 0).ren (renF [(500, 2009)]) = V.ref 2009 0), ((oc 112 [ty r17b, ti r17c, T.int .u64 r17d]) = (oc 112 [ty r17b, ti r17c, T.int .u64 r17d]).ren (renF [(500, 2009)])), ((0 + 2 ≤ 2 ∧ 2 = 2)), (0 + 2 ≤ 2)]) (r := V.tup [V.agg [vo 9000 (List.length r11), vi r11b], vi r17, vi r19]) (N := [9000, 2002]) (O := [(9000, oc 3 (List.map (T.int .i64) r11))]) [] (by kernel_rfl) ⟨⟨⟨by first | rfl | (simp; done) | (simp []; done) | omega, by first | decide | (simp; done) | (simp []; done) | omega | (simp only [tlL]; omega) | (simp; omega)⟩, trivial⟩, (F_p_spec_l1Cur_state_W x0 (0 : Int) (0 : Int) r11 r11b r11c r11d r11e c0), by first | rfl | (simp [V.ren, V.renL, renF, lk]; done) | (simp [V.ren, V.renL, renF, lk]; omega), by first | rfl | (simp only [tlS]; rfl) | (simp [Tl.Obj.ren, V.ren, V.renL, renF, lk]; done), by decide, by decide, trivial, (F_p_spec_l1Cur_question_W r11c r11d r11e ((List.length r11 : Nat) : Int) r17 r17b r17c r17d c1), by first | rfl | (simp [V.ren, V.renL, renF, lk]; done) | (simp [V.ren, V.renL, renF, lk]; omega), WkT.refl _, by first | rfl | (simp only [tlS]; rfl) | (simp [Tl.Obj.ren, V.ren, V.renL, renF, lk]; done), (F_p_spec_l1Cur_ahead3_W r17b r17c r17d r19 r19b r19c r19d c2), by first | rfl | (simp [V.ren, V.renL, renF, lk]; done) | (simp [V.ren, V.renL, renF, lk]; omega), by first | rfl | (simp only [tlS]; rfl) | (simp [Tl.Obj.ren, V.ren, V.renL, renF, lk]; done), by decide, by decide, trivial⟩ ⟨rfl, (WkT.refl _), (WkT.refl _), (WkT.refl _), trivial⟩ rfl rfl (fun _ h => h)
theorem F_spec_DrawAnswerWeights_W_C (x0 : List Int) (y0 : List Int) (y1 : Int) (y2 : Int) (y3 : Int) (h : F_spec_DrawAnswerWeights x0 = some (y0, y1, y2, y3)) : C Try.prog 22 [ty x0] (T.tup [T.agg [tl y0, ti y1], ti y2, ti y3]) :=
  CG.toC (ps := [(List.length (List.map (T.int .i64) y0) = (List.length y0) * 1)]) (F_spec_DrawAnswerWeights_W  x0 y0 y1 y2 y3 h) (by rfl) ⟨by first | rfl | (simp; done) | omega | (simp; omega) | (simp [hl]; done) | (simp [hl]; omega), trivial⟩
theorem F_impl_areWeights_W (x0 : List Int) (x1 : Int) (x2 : Int) (y0 : Bool) (h : F_impl_areWeights x0 x1 x2 = some y0) : C Try.prog 91 [T.agg [tl x0, ti x1], ti x2] (tb y0) := by
  unfold F_impl_areWeights at h
  refine C.intro (tab := tab) tab_ok (fn := Try.f91) Try.func91 (by kernel_rfl) rfl (Nat.le_of_ble_eq_true rfl) ?_
  obtain ⟨c0, h⟩ := chk_some h
  rcases ite_some h with ⟨h1, h⟩ | ⟨h1, h⟩
  · -- yes
    have h := Option.some.inj h
    subst h
    exact WP.pathW tab_ok mixed [(2, An.fz), (6, An.call (tb true)), (9, An.call (tb (decide ((1 : Int) ≤ x2) && decide (x2 ≤ (30 : Int)))))] _ (ps := [(2 ≤ 2), (C Try.prog 100 [T.agg [tl x0, ti x1]] (tb true)), (C Try.prog 149 [ti x2, ti 1, ti 30] (tb (decide ((1 : Int) ≤ x2) && decide (x2 ≤ (30 : Int)))))]) (r := tb (decide ((1 : Int) ≤ x2) && decide (x2 ≤ (30 : Int)))) (by kernel_rfl) ⟨by decide, (C.toB h1 (isState_C x0 x1 c0)), (by have hh := (in_C x2 (1 : Int) (30 : Int)); simpa using hh), trivial⟩ (WkT.eq (y := tb (decide ((1 : Int) ≤ x2) && decide (x2 ≤ (30 : Int)))) (WkT.refl _) rfl) (fun _ h => h)
  · -- no
    have h := Option.some.inj h
    subst h
    exact WP.pathW tab_ok mixed [(2, An.fz), (6, An.call (tb false))] _ (ps := [(2 ≤ 2), (C Try.prog 100 [T.agg [tl x0, ti x1]] (tb false))]) (r := tb false) (by kernel_rfl) ⟨by decide, (C.toB h1 (isState_C x0 x1 c0)), trivial⟩ (WkT.eq (y := tb false) (WkT.refl _) rfl) (fun _ h => h)
theorem F_impl_ways_W (x0 : Int) (x1 : Int) (y0 : Int) (h : F_impl_ways x0 x1 = some y0) : C Try.prog 197 [ti x0, ti x1] (ti y0) := by
  unfold F_impl_ways at h
  refine C.intro (tab := tab) tab_ok (fn := Try.f197) Try.func197 (by kernel_rfl) rfl (Nat.le_of_ble_eq_true rfl) ?_
  refine WP.seq ?_
  refine WP.path tab_ok mixed [] [.keep [4, 0, 1], .keepO []] (ps := []) (e := .normal) (σ' := ⟨[], [(4, vi 0), (0, vi x0), (1, vi x1)], []⟩) (by kernel_rfl) trivial ?_
  refine WP.seq ?_
  refine WP.path tab_ok mixed [] [.keep [5, 4, 0, 1], .keepO []] (ps := []) (e := .normal) (σ' := ⟨[], [(5, vi 1), (4, vi 0), (0, vi x0), (1, vi x1)], []⟩) (by kernel_rfl) trivial ?_
  obtain ⟨J1, hJ1, h⟩ := jn_some h
  refine WP.joinA (fun (zz : Int) => ⟨[], [(5, vi zz), (4, vi 0)], []⟩) (fun zz => J1 zz = some y0) ?_ ?_
  · -- to where they meet
    refine WP.seq ?_
    refine WP.path tab_ok mixed [] [.keep [8, 7, 5, 4, 0], .keepO []] (ps := []) (e := .normal) (σ' := ⟨[], [(8, vi 0), (7, vi x1), (5, vi 1), (4, vi 0), (0, vi x0)], []⟩) (by kernel_rfl) trivial ?_
    refine WP.block ?_
    refine WP.wk [.keep [8, 7, 5, 4, 0], .keepO [], .names []] (σ' := ⟨[], [(8, vi 0), (7, vi x1), (5, vi 1), (4, vi 0), (0, vi x0)], []⟩) (ps := []) (by kernel_rfl) trivial ?_
    refine WP.st (σ' := ⟨[], [(8, vi (0 : Int)), (7, vi x1), (5, vi (1 : Int)), (4, vi 0), (0, vi x0)], []⟩) (by first | rfl | (simp only [tlS, tl, vl, vo, oc, ov, tbl, vbl, ty, vy]; done) | (simp only [tlS, tl, vl, vo, oc, ov, tbl, vbl, ty, vy]; rfl) | (simp; done) | (simp []; done) | (rw [List.take_of_length_le (by simp [])]; done) | (rw [List.take_of_length_le (by simp [])]; rfl) | (simp only [tlL]; omega) | (simp; omega)) ?_
    refine WP.loop (α := Nat × Int × Int) (fun zz => ⟨[], [(8, vi zz.2.1), (7, vi x1), (5, vi zz.2.2), (4, vi 0), (0, vi x0)], []⟩) (fun zz => F_impl_ways_L1 x0 x1 J1 zz.1 zz.2.1 zz.2.2 = some y0) (fun zz => zz.1) (fuel, (0 : Int), (1 : Int)) h ?_
    rintro ⟨n, v8, v5⟩ h0
    have h := (show F_impl_ways_L1 x0 x1 J1 n v8 v5 = some y0 from h0)
    rcases n with _ | n
    · rw [F_impl_ways_L1] at h; cases h
    · rw [F_impl_ways_L1] at h
      refine WP.seq ?_
      refine WP.path tab_ok mixed [] [.keep [9, 8, 7, 5, 4, 0], .keepO []] (ps := [(True)]) (e := .normal) (σ' := ⟨[], [(9, vb (decide (v8 < x1))), (8, vi v8), (7, vi x1), (5, vi v5), (4, vi 0), (0, vi x0)], []⟩) (by kernel_rfl) ⟨trivial, trivial⟩ ?_
      refine WP.seq ?_
      rcases ite_some h with ⟨h1, h⟩ | ⟨h1, h⟩
      · -- yes
        refine WP.cond (b := decide (v8 < x1)) rfl (fun _ => ?_) (fun hh => by rw [h1] at hh; cases hh)
        refine WP.path tab_ok mixed [] [.keep [8, 7, 5, 4, 0], .keepO []] (ps := []) (e := .normal) (σ' := ⟨[], [(8, vi v8), (7, vi x1), (5, vi v5), (4, vi 0), (0, vi x0)], []⟩) (by kernel_rfl) trivial ?_
        refine WP.seq ?_
        refine WP.block ?_
        obtain ⟨c0, h⟩ := chk_some h
        obtain ⟨c1, h⟩ := chk_some h
        obtain ⟨c2, h⟩ := chk_some h
        obtain ⟨c3, h⟩ := chk_some h
        obtain ⟨c4, h⟩ := chk_some h
        refine WP.path tab_ok mixed [(14, An.v (T.int .i64 (x0 - v8))), (15, An.v (T.int .i64 (v5 * (x0 - v8)))), (17, An.v (T.int .i64 (v8 + (1 : Int)))), (18, An.v (T.int .i64 (Int.tdiv (v5 * (x0 - v8)) (v8 + (1 : Int)))))] [.keep [5, 8, 7, 4, 0], .keepO []] (ps := [(True), (T.int .i64 (IntKind.wrap .i64 (x0 - v8)) = T.int .i64 (x0 - v8)), (True), (T.int .i64 (IntKind.wrap .i64 (v5 * (x0 - v8))) = T.int .i64 (v5 * (x0 - v8))), (True), (T.int .i64 (IntKind.wrap .i64 (v8 + (1 : Int))) = T.int .i64 (v8 + (1 : Int))), ((v8 + (1 : Int)) ≠ 0), (T.int .i64 (IntKind.wrap .i64 (Int.tdiv (v5 * (x0 - v8)) (v8 + (1 : Int)))) = T.int .i64 (Int.tdiv (v5 * (x0 - v8)) (v8 + (1 : Int))))]) (e := .normal) (σ' := ⟨[], [(5, vi (Int.tdiv (v5 * (x0 - v8)) (v8 + (1 : Int)))), (8, vi v8), (7, vi x1), (4, vi 0), (0, vi x0)], []⟩) (by kernel_rfl) ⟨trivial, wrapI c0, trivial, wrapI c1, trivial, wrapI c2, c4, quo_told c3, trivial⟩ ?_
        refine WP.path tab_ok mixed [(19, An.v (T.int .i64 (v8 + (1 : Int))))] [.keep [8, 7, 5, 4, 0], .keepO [], .names []] (ps := [(True), (T.int .i64 (IntKind.wrap .i64 (v8 + (1 : Int))) = T.int .i64 (v8 + (1 : Int)))]) (e := .normal) (σ' := ⟨[], [(8, vi (v8 + (1 : Int))), (7, vi x1), (5, vi (Int.tdiv (v5 * (x0 - v8)) (v8 + (1 : Int)))), (4, vi 0), (0, vi x0)], []⟩) (by kernel_rfl) ⟨trivial, wrapI c2, trivial⟩ ?_
        exact ⟨(n, (v8 + (1 : Int)), (Int.tdiv (v5 * (x0 - v8)) (v8 + (1 : Int)))), h, Nat.lt_succ_self _, rfl⟩
      · -- no
        refine WP.cond (b := decide (v8 < x1)) rfl (fun hh => by rw [h1] at hh; cases hh) (fun _ => ?_)
        refine WP.path tab_ok mixed [] [.keep [5, 4], .keepO [], .names []] (ps := []) (e := (.exit 0)) (σ' := ⟨[], [(5, vi v5), (4, vi 0)], []⟩) (by kernel_rfl) trivial ?_
        exact ⟨(v5), h, rfl⟩
  · -- from there
    intro v5 h0
    have h := (show J1 v5 = some y0 from h0)
    rw [hJ1] at h
    have h := Option.some.inj h
    subst h
    exact WP.pathW tab_ok mixed [] _ (ps := []) (r := ti v5) (by kernel_rfl) trivial (WkT.eq (y := ti v5) (WkT.refl _) rfl) (fun _ h => h)
theorem F_impl_ball_W (x0 : Int) (x1 : Int) (y0 : Int) (h : F_impl_ball x0 x1 = some y0) : C Try.prog 190 [ti x0, ti x1] (ti y0) := by
  unfold F_impl_ball at h
  refine C.intro (tab := tab) tab_ok (fn := Try.f190) Try.func190 (by kernel_rfl) rfl (Nat.le_of_ble_eq_true rfl) ?_
  refine WP.seq ?_
  refine WP.path tab_ok mixed [] [.keep [4, 0, 1], .keepO []] (ps := []) (e := .normal) (σ' := ⟨[], [(4, vi 0), (0, vi x0), (1, vi x1)], []⟩) (by kernel_rfl) trivial ?_
  refine WP.seq ?_
  refine WP.path tab_ok mixed [] [.keep [5, 4, 0, 1], .keepO []] (ps := []) (e := .normal) (σ' := ⟨[], [(5, vi 0), (4, vi 0), (0, vi x0), (1, vi x1)], []⟩) (by kernel_rfl) trivial ?_
  obtain ⟨J1, hJ1, h⟩ := jn_some h
  refine WP.joinA (fun (zz : Int) => ⟨[], [(5, vi zz), (4, vi 0)], []⟩) (fun zz => J1 zz = some y0) ?_ ?_
  · -- to where they meet
    refine WP.seq ?_
    obtain ⟨c0, h⟩ := chk_some h
    refine WP.path tab_ok mixed [(10, An.v (T.int .i64 ((min x0 x1) + (1 : Int))))] [.keep [11, 10, 5, 4, 0], .keepO []] (ps := [(True), (T.int .i64 (IntKind.wrap .i64 ((min x0 x1) + (1 : Int))) = T.int .i64 ((min x0 x1) + (1 : Int)))]) (e := .normal) (σ' := ⟨[], [(11, vi 0), (10, vi ((min x0 x1) + (1 : Int))), (5, vi 0), (4, vi 0), (0, vi x0)], []⟩) (by kernel_rfl) ⟨trivial, wrapI c0, trivial⟩ ?_
    refine WP.block ?_
    refine WP.wk [.keep [11, 10, 5, 4, 0], .keepO [], .names []] (σ' := ⟨[], [(11, vi 0), (10, vi ((min x0 x1) + (1 : Int))), (5, vi 0), (4, vi 0), (0, vi x0)], []⟩) (ps := []) (by kernel_rfl) trivial ?_
    refine WP.st (σ' := ⟨[], [(11, vi (0 : Int)), (10, vi ((min x0 x1) + (1 : Int))), (5, vi (0 : Int)), (4, vi 0), (0, vi x0)], []⟩) (by first | rfl | (simp only [tlS, tl, vl, vo, oc, ov, tbl, vbl, ty, vy]; done) | (simp only [tlS, tl, vl, vo, oc, ov, tbl, vbl, ty, vy]; rfl) | (simp; done) | (simp []; done) | (rw [List.take_of_length_le (by simp [])]; done) | (rw [List.take_of_length_le (by simp [])]; rfl) | (simp only [tlL]; omega) | (simp; omega)) ?_
    refine WP.loop (α := Nat × Int × Int) (fun zz => ⟨[], [(11, vi zz.2.1), (10, vi ((min x0 x1) + (1 : Int))), (5, vi zz.2.2), (4, vi 0), (0, vi x0)], []⟩) (fun zz => F_impl_ball_L1 x0 x1 J1 zz.1 zz.2.1 zz.2.2 = some y0) (fun zz => zz.1) (fuel, (0 : Int), (0 : Int)) h ?_
    rintro ⟨n, v11, v5⟩ h0
    have h := (show F_impl_ball_L1 x0 x1 J1 n v11 v5 = some y0 from h0)
    rcases n with _ | n
    · rw [F_impl_ball_L1] at h; cases h
    · rw [F_impl_ball_L1] at h
      refine WP.seq ?_
      refine WP.path tab_ok mixed [] [.keep [12, 11, 10, 5, 4, 0], .keepO []] (ps := [(True)]) (e := .normal) (σ' := ⟨[], [(12, vb (decide (v11 < ((min x0 x1) + (1 : Int))))), (11, vi v11), (10, vi ((min x0 x1) + (1 : Int))), (5, vi v5), (4, vi 0), (0, vi x0)], []⟩) (by kernel_rfl) ⟨trivial, trivial⟩ ?_
      refine WP.seq ?_
      rcases ite_some h with ⟨h1, h⟩ | ⟨h1, h⟩
      · -- yes
        refine WP.cond (b := decide (v11 < ((min x0 x1) + (1 : Int)))) rfl (fun _ => ?_) (fun hh => by rw [h1] at hh; cases hh)
        refine WP.path tab_ok mixed [] [.keep [11, 10, 5, 4, 0], .keepO []] (ps := []) (e := .normal) (σ' := ⟨[], [(11, vi v11), (10, vi ((min x0 x1) + (1 : Int))), (5, vi v5), (4, vi 0), (0, vi x0)], []⟩) (by kernel_rfl) trivial ?_
        refine WP.seq ?_
        refine WP.block ?_
        obtain ⟨r17, c1, h⟩ := bnd1_some h
        obtain ⟨c2, h⟩ := chk_some h
        refine WP.path tab_ok mixed [(17, An.call (ti r17)), (18, An.v (T.int .i64 (v5 + r17)))] [.keep [5, 11, 10, 4, 0], .keepO []] (ps := [(C Try.prog 197 [ti x0, ti v11] (ti r17)), (True), (T.int .i64 (IntKind.wrap .i64 (v5 + r17)) = T.int .i64 (v5 + r17))]) (e := .normal) (σ' := ⟨[], [(5, vi (v5 + r17)), (11, vi v11), (10, vi ((min x0 x1) + (1 : Int))), (4, vi 0), (0, vi x0)], []⟩) (by kernel_rfl) ⟨(F_impl_ways_W x0 v11 r17 c1), trivial, wrapI c2, trivial⟩ ?_
        obtain ⟨c3, h⟩ := chk_some h
        refine WP.path tab_ok mixed [(19, An.v (T.int .i64 (v11 + (1 : Int))))] [.keep [11, 10, 5, 4, 0], .keepO [], .names []] (ps := [(True), (T.int .i64 (IntKind.wrap .i64 (v11 + (1 : Int))) = T.int .i64 (v11 + (1 : Int)))]) (e := .normal) (σ' := ⟨[], [(11, vi (v11 + (1 : Int))), (10, vi ((min x0 x1) + (1 : Int))), (5, vi (v5 + r17)), (4, vi 0), (0, vi x0)], []⟩) (by kernel_rfl) ⟨trivial, wrapI c3, trivial⟩ ?_
        exact ⟨(n, (v11 + (1 : Int)), (v5 + r17)), h, Nat.lt_succ_self _, rfl⟩
      · -- no
        refine WP.cond (b := decide (v11 < ((min x0 x1) + (1 : Int)))) rfl (fun hh => by rw [h1] at hh; cases hh) (fun _ => ?_)
        refine WP.path tab_ok mixed [] [.keep [5, 4], .keepO [], .names []] (ps := []) (e := (.exit 0)) (σ' := ⟨[], [(5, vi v5), (4, vi 0)], []⟩) (by kernel_rfl) trivial ?_
        exact ⟨(v5), h, rfl⟩
  · -- from there
    intro v5 h0
    have h := (show J1 v5 = some y0 from h0)
    rw [hJ1] at h
    have h := Option.some.inj h
    subst h
    exact WP.pathW tab_ok mixed [] _ (ps := []) (r := ti v5) (by kernel_rfl) trivial (WkT.eq (y := ti v5) (WkT.refl _) rfl) (fun _ h => h)
theorem F_impl_State_weight_W (x0 : List Int) (x1 : Int) (x2 : Int) (x3 : Int) (y0 : Int) (h : F_impl_State_weight x0 x1 x2 x3 = some y0) : C Try.prog 159 [T.agg [tl x0, ti x1], ti x2, ti x3] (ti y0) := by
  unfold F_impl_State_weight at h
  refine C.intro (tab := tab) tab_ok (fn := Try.f159) Try.func159 (by kernel_rfl) rfl (Nat.le_of_ble_eq_true rfl) ?_
  refine WP.seq ?_
  refine WP.path tab_ok mixed [(3, An.fz)] [.keep [6, 3, 1, 2], .keepO []] (ps := []) (e := .normal) (σ' := ⟨[], [(6, vi 0), (3, V.t (T.ptr [tl x0, ti x1])), (1, vi x2), (2, vi x3)], []⟩) (by kernel_rfl) trivial ?_
  refine WP.seq ?_
  refine WP.seq ?_
  obtain ⟨c0, h⟩ := chk_some h
  refine WP.path tab_ok mixed [(11, An.v (ti (List.getD x0 (Int.toNat x2) 0)))] [.keep [12, 6, 3, 1, 2], .keepO []] (ps := [(True), ((0 ≤ x2 ∧ x2 < ((List.length x0 : Nat) : Int))), ((List.drop ((Int.toNat x2) * 1) (List.map (T.int .i64) x0) : List T)[0]? = some (ti (List.getD x0 (Int.toNat x2) 0))), (ti (List.getD x0 (Int.toNat x2) 0) = ti (List.getD x0 (Int.toNat x2) 0)), (True)]) (e := .normal) (σ' := ⟨[], [(12, vb (decide ((List.getD x0 (Int.toNat x2) 0) < (0 : Int)))), (6, vi 0), (3, V.t (T.ptr [tl x0, ti x1])), (1, vi x2), (2, vi x3)], []⟩) (by kernel_rfl) ⟨trivial, c0, at1 (by simp) (by omega), rfl, trivial, trivial⟩ ?_
  rcases ite_some h with ⟨h1, h⟩ | ⟨h1, h⟩
  · -- yes
    refine WP.cond (b := decide ((List.getD x0 (Int.toNat x2) 0) < (0 : Int))) rfl (fun _ => ?_) (fun hh => by rw [h1] at hh; cases hh)
    have h := Option.some.inj h
    subst h
    exact WP.pathW tab_ok mixed [] _ (ps := []) (r := ti 0) (by kernel_rfl) trivial (WkT.eq (y := ti 0) (WkT.refl _) (by first | rfl | (simp only [tlS, tl, vl, vo, oc, ov, tbl, vbl, ty, vy]; done) | (simp only [tlS, tl, vl, vo, oc, ov, tbl, vbl, ty, vy]; rfl) | (simp; done) | (simp []; done) | (rw [List.take_of_length_le (by simp [])]; done) | (rw [List.take_of_length_le (by simp [])]; rfl) | (simp only [tlL]; omega) | (simp; omega))) (fun _ h => h)
  · -- no
    refine WP.cond (b := decide ((List.getD x0 (Int.toNat x2) 0) < (0 : Int))) rfl (fun hh => by rw [h1] at hh; cases hh) (fun _ => ?_)
    refine WP.path tab_ok mixed [] [.keep [6, 3, 1, 2], .keepO []] (ps := []) (e := .normal) (σ' := ⟨[], [(6, vi 0), (3, V.t (T.ptr [tl x0, ti x1])), (1, vi x2), (2, vi x3)], []⟩) (by kernel_rfl) trivial ?_
    obtain ⟨c1, h⟩ := chk_some h
    obtain ⟨r22, c2, h⟩ := bnd1_some h
    have h := Option.some.inj h
    subst h
    exact WP.pathW tab_ok mixed [(20, An.v (ti (List.getD x0 (Int.toNat x2) 0))), (21, An.v (T.int .i64 (x1 - (List.getD x0 (Int.toNat x2) 0)))), (22, An.call (ti r22))] _ (ps := [(True), (True), ((0 ≤ x2 ∧ x2 < ((List.length x0 : Nat) : Int))), ((List.drop ((Int.toNat x2) * 1) (List.map (T.int .i64) x0) : List T)[0]? = some (ti (List.getD x0 (Int.toNat x2) 0))), (ti (List.getD x0 (Int.toNat x2) 0) = ti (List.getD x0 (Int.toNat x2) 0)), (True), (T.int .i64 (IntKind.wrap .i64 (x1 - (List.getD x0 (Int.toNat x2) 0))) = T.int .i64 (x1 - (List.getD x0 (Int.toNat x2) 0))), (C Try.prog 190 [ti x3, ti (x1 - (List.getD x0 (Int.toNat x2) 0))] (ti r22))]) (r := ti r22) (by kernel_rfl) ⟨trivial, trivial, c0, at1 (by simp) (by omega), rfl, trivial, wrapI c1, (F_impl_ball_W x3 (x1 - (List.getD x0 (Int.toNat x2) 0)) r22 c2), trivial⟩ (WkT.eq (y := ti r22) (WkT.refl _) rfl) (fun _ h => h)
theorem F_impl_State_allWeight_W (x0 : List Int) (x1 : Int) (x2 : Int) (y0 : Int) (h : F_impl_State_allWeight x0 x1 x2 = some y0) : C Try.prog 102 [T.agg [tl x0, ti x1], ti x2] (ti y0) := by
  unfold F_impl_State_allWeight at h
  refine C.intro (tab := tab) tab_ok (fn := Try.f102) Try.func102 (by kernel_rfl) rfl (Nat.le_of_ble_eq_true rfl) ?_
  refine WP.seq ?_
  refine WP.path tab_ok mixed [(2, An.fz)] [.keep [4, 2, 1], .keepO []] (ps := []) (e := .normal) (σ' := ⟨[], [(4, vi 0), (2, V.t (T.ptr [tl x0, ti x1])), (1, vi x2)], []⟩) (by kernel_rfl) trivial ?_
  refine WP.seq ?_
  refine WP.path tab_ok mixed [] [.keep [5, 4, 2, 1], .keepO []] (ps := []) (e := .normal) (σ' := ⟨[], [(5, vi 0), (4, vi 0), (2, V.t (T.ptr [tl x0, ti x1])), (1, vi x2)], []⟩) (by kernel_rfl) trivial ?_
  obtain ⟨J1, hJ1, h⟩ := jn_some h
  refine WP.joinA (fun (zz : Int) => ⟨[], [(5, vi zz), (4, vi 0)], []⟩) (fun zz => J1 zz = some y0) ?_ ?_
  · -- to where they meet
    refine WP.seq ?_
    refine WP.path tab_ok mixed [] [.keep [10, 9, 5, 4, 2, 1], .keepO []] (ps := [(True)]) (e := .normal) (σ' := ⟨[], [(10, vi 0), (9, vi ((List.length x0 : Nat) : Int)), (5, vi 0), (4, vi 0), (2, V.t (T.ptr [tl x0, ti x1])), (1, vi x2)], []⟩) (by kernel_rfl) ⟨trivial, trivial⟩ ?_
    refine WP.block ?_
    refine WP.wk [.keep [10, 9, 5, 4, 2, 1], .keepO [], .names []] (σ' := ⟨[], [(10, vi 0), (9, vi ((List.length x0 : Nat) : Int)), (5, vi 0), (4, vi 0), (2, V.t (T.ptr [tl x0, ti x1])), (1, vi x2)], []⟩) (ps := []) (by kernel_rfl) trivial ?_
    refine WP.st (σ' := ⟨[], [(10, vi (0 : Int)), (9, vi ((List.length x0 : Nat) : Int)), (5, vi (0 : Int)), (4, vi 0), (2, V.t (T.ptr [tl x0, ti x1])), (1, vi x2)], []⟩) (by first | rfl | (simp only [tlS, tl, vl, vo, oc, ov, tbl, vbl, ty, vy]; done) | (simp only [tlS, tl, vl, vo, oc, ov, tbl, vbl, ty, vy]; rfl) | (simp; done) | (simp []; done) | (rw [List.take_of_length_le (by simp [])]; done) | (rw [List.take_of_length_le (by simp [])]; rfl) | (simp only [tlL]; omega) | (simp; omega)) ?_
    refine WP.loop (α := Nat × Int × Int) (fun zz => ⟨[], [(10, vi zz.2.1), (9, vi ((List.length x0 : Nat) : Int)), (5, vi zz.2.2), (4, vi 0), (2, V.t (T.ptr [tl x0, ti x1])), (1, vi x2)], []⟩) (fun zz => F_impl_State_allWeight_L1 x0 x1 x2 J1 zz.1 zz.2.1 zz.2.2 = some y0) (fun zz => zz.1) (fuel, (0 : Int), (0 : Int)) h ?_
    rintro ⟨n, v10, v5⟩ h0
    have h := (show F_impl_State_allWeight_L1 x0 x1 x2 J1 n v10 v5 = some y0 from h0)
    rcases n with _ | n
    · rw [F_impl_State_allWeight_L1] at h; cases h
    · rw [F_impl_State_allWeight_L1] at h
      refine WP.seq ?_
      refine WP.path tab_ok mixed [] [.keep [11, 10, 9, 5, 4, 2, 1], .keepO []] (ps := [(True)]) (e := .normal) (σ' := ⟨[], [(11, vb (decide (v10 < ((List.length x0 : Nat) : Int)))), (10, vi v10), (9, vi ((List.length x0 : Nat) : Int)), (5, vi v5), (4, vi 0), (2, V.t (T.ptr [tl x0, ti x1])), (1, vi x2)], []⟩) (by kernel_rfl) ⟨trivial, trivial⟩ ?_
      refine WP.seq ?_
      rcases ite_some h with ⟨h1, h⟩ | ⟨h1, h⟩
      · -- yes
        refine WP.cond (b := decide (v10 < ((List.length x0 : Nat) : Int))) rfl (fun _ => ?_) (fun hh => by rw [h1] at hh; cases hh)
        refine WP.path tab_ok mixed [] [.keep [10, 9, 5, 4, 2, 1], .keepO []] (ps := []) (e := .normal) (σ' := ⟨[], [(10, vi v10), (9, vi ((List.length x0 : Nat) : Int)), (5, vi v5), (4, vi 0), (2, V.t (T.ptr [tl x0, ti x1])), (1, vi x2)], []⟩) (by kernel_rfl) trivial ?_
        refine WP.seq ?_
        refine WP.block ?_
        obtain ⟨r17, c0, h⟩ := bnd1_some h
        obtain ⟨c1, h⟩ := chk_some h
        refine WP.path tab_ok mixed [(17, An.call (ti r17)), (18, An.v (T.int .i64 (v5 + r17)))] [.keep [5, 10, 9, 4, 2, 1], .keepO []] (ps := [(2 ≤ 2), (C Try.prog 159 [T.agg [tl x0, ti x1], ti v10, ti x2] (ti r17)), (True), (T.int .i64 (IntKind.wrap .i64 (v5 + r17)) = T.int .i64 (v5 + r17))]) (e := .normal) (σ' := ⟨[], [(5, vi (v5 + r17)), (10, vi v10), (9, vi ((List.length x0 : Nat) : Int)), (4, vi 0), (2, V.t (T.ptr [tl x0, ti x1])), (1, vi x2)], []⟩) (by kernel_rfl) ⟨by decide, (F_impl_State_weight_W x0 x1 v10 x2 r17 c0), trivial, wrapI c1, trivial⟩ ?_
        obtain ⟨c2, h⟩ := chk_some h
        refine WP.path tab_ok mixed [(19, An.v (T.int .i64 (v10 + (1 : Int))))] [.keep [10, 9, 5, 4, 2, 1], .keepO [], .names []] (ps := [(True), (T.int .i64 (IntKind.wrap .i64 (v10 + (1 : Int))) = T.int .i64 (v10 + (1 : Int)))]) (e := .normal) (σ' := ⟨[], [(10, vi (v10 + (1 : Int))), (9, vi ((List.length x0 : Nat) : Int)), (5, vi (v5 + r17)), (4, vi 0), (2, V.t (T.ptr [tl x0, ti x1])), (1, vi x2)], []⟩) (by kernel_rfl) ⟨trivial, wrapI c2, trivial⟩ ?_
        exact ⟨(n, (v10 + (1 : Int)), (v5 + r17)), h, Nat.lt_succ_self _, rfl⟩
      · -- no
        refine WP.cond (b := decide (v10 < ((List.length x0 : Nat) : Int))) rfl (fun hh => by rw [h1] at hh; cases hh) (fun _ => ?_)
        refine WP.path tab_ok mixed [] [.keep [5, 4], .keepO [], .names []] (ps := []) (e := (.exit 0)) (σ' := ⟨[], [(5, vi v5), (4, vi 0)], []⟩) (by kernel_rfl) trivial ?_
        exact ⟨(v5), h, rfl⟩
  · -- from there
    intro v5 h0
    have h := (show J1 v5 = some y0 from h0)
    rw [hJ1] at h
    have h := Option.some.inj h
    subst h
    exact WP.pathW tab_ok mixed [] _ (ps := []) (r := ti v5) (by kernel_rfl) trivial (WkT.eq (y := ti v5) (WkT.refl _) rfl) (fun _ h => h)
theorem F_impl_State_weights_W (x0 : List Int) (x1 : Int) (x2 : Int) (x3 : Int) (y0 : Int) (y1 : Int) (h : F_impl_State_weights x0 x1 x2 x3 = some (y0, y1)) : C Try.prog 93 [T.agg [tl x0, ti x1], ti x2, ti x3] (T.agg [ti y0, ti y1]) := by
  unfold F_impl_State_weights at h
  refine C.intro (tab := tab) tab_ok (fn := Try.f93) Try.func93 (by kernel_rfl) rfl (Nat.le_of_ble_eq_true rfl) ?_
  obtain ⟨c0, h⟩ := chk_some h
  obtain ⟨c1, h⟩ := chk_some h
  obtain ⟨r13, c2, h⟩ := bnd1_some h
  obtain ⟨r20, c3, h⟩ := bnd1_some h
  simp only [Option.some.injEq, Prod.mk.injEq] at h
  obtain ⟨rfl, rfl⟩ := h
  exact WP.pathW tab_ok mixed [(3, An.fz), (6, An.id 2006), (10, An.callG [(9000, 10100)] [V.t (T.agg [tl x0, ti x1]), V.t (T.agg [ti x2, tb true])] [] (V.agg [vo 9000 (List.length (ansN x1 x2 true x0)), vi x1]) [(9000, oc 3 (List.map (T.int .i64) (ansN x1 x2 true x0)))]), (12, An.v (T.int .i64 (x3 - (1 : Int)))), (13, An.call (ti r13)), (17, An.callG [(9000, 10170)] [V.t (T.agg [tl x0, ti x1]), V.t (T.agg [ti x2, tb false])] [] (V.agg [vo 9000 (List.length (ansN x1 x2 false x0)), vi x1]) [(9000, oc 3 (List.map (T.int .i64) (ansN x1 x2 false x0)))]), (19, An.v (T.int .i64 (x3 - (1 : Int)))), (20, An.call (ti r20))] _ (ps := [(2 ≤ 2), ((1 = 1 ∧ 0 + 1 ≤ 2) ∧ (1 = 1 ∧ 1 + 1 ≤ 2) ∧ True), (CG Try.prog 104 [V.t (T.agg [tl x0, ti x1]), V.t (T.agg [ti x2, tb true])] [] (V.agg [vo 9000 (List.length (ansN x1 x2 true x0)), vi x1]) [(9000, oc 3 (List.map (T.int .i64) (ansN x1 x2 true x0)))]), (WkT (T.agg [tl x0, ti x1]) (T.agg [tl x0, ti x1])), (WkT (T.agg [ti x2, tb true]) (T.agg [ti x2, tb true])), (True), (T.int .i64 (IntKind.wrap .i64 (x3 - (1 : Int))) = T.int .i64 (x3 - (1 : Int))), (C Try.prog 102 [T.agg [tl (ansN x1 x2 true x0), ti x1], ti (x3 - (1 : Int))] (ti r13)), (List.length (List.map (T.int .i64) (ansN x1 x2 true x0)) = (List.length (ansN x1 x2 true x0)) * 1), (2 ≤ 2), ((1 = 1 ∧ 0 + 1 ≤ 2) ∧ (1 = 1 ∧ 1 + 1 ≤ 2) ∧ True), (CG Try.prog 104 [V.t (T.agg [tl x0, ti x1]), V.t (T.agg [ti x2, tb false])] [] (V.agg [vo 9000 (List.length (ansN x1 x2 false x0)), vi x1]) [(9000, oc 3 (List.map (T.int .i64) (ansN x1 x2 false x0)))]), (WkT (T.agg [tl x0, ti x1]) (T.agg [tl x0, ti x1])), (WkT (T.agg [ti x2, tb false]) (T.agg [ti x2, tb false])), (True), (T.int .i64 (IntKind.wrap .i64 (x3 - (1 : Int))) = T.int .i64 (x3 - (1 : Int))), (C Try.prog 102 [T.agg [tl (ansN x1 x2 false x0), ti x1], ti (x3 - (1 : Int))] (ti r20)), (List.length (List.map (T.int .i64) (ansN x1 x2 false x0)) = (List.length (ansN x1 x2 false x0)) * 1), ((1 = 1 ∧ 0 + 1 ≤ 2) ∧ (1 = 1 ∧ 1 + 1 ≤ 2) ∧ True), ((0 + 2 ≤ 2 ∧ 2 = 2)), (0 + 2 ≤ 2)]) (r := T.agg [ti r13, ti r20]) (by kernel_rfl) ⟨by decide, ⟨⟨by first | rfl | (simp; done) | (simp []; done) | omega, by first | decide | (simp; done) | (simp []; done) | omega | (simp only [tlL]; omega) | (simp; omega)⟩, ⟨by first | rfl | (simp; done) | (simp []; done) | omega, by first | decide | (simp; done) | (simp []; done) | omega | (simp only [tlL]; omega) | (simp; omega)⟩, trivial⟩, (answered_C_G x0 x1 x2 true c0), WkT.refl _, WkT.refl _, trivial, wrapI c1, (F_impl_State_allWeight_W (ansN x1 x2 true x0) x1 (x3 - (1 : Int)) r13 c2), by first | rfl | (simp; done) | omega | (simp only [tlL]; omega) | (simp; omega) | (simp []; done) | (simp []; omega), by decide, ⟨⟨by first | rfl | (simp; done) | (simp []; done) | omega, by first | decide | (simp; done) | (simp []; done) | omega | (simp only [tlL]; omega) | (simp; omega)⟩, ⟨by first | rfl | (simp; done) | (simp []; done) | omega, by first | decide | (simp; done) | (simp []; done) | omega | (simp only [tlL]; omega) | (simp; omega)⟩, trivial⟩, (answered_C_G x0 x1 x2 false c0), WkT.refl _, WkT.refl _, trivial, wrapI c1, (F_impl_State_allWeight_W (ansN x1 x2 false x0) x1 (x3 - (1 : Int)) r20 c3), by first | rfl | (simp; done) | omega | (simp only [tlL]; omega) | (simp; omega) | (simp []; done) | (simp []; omega), ⟨⟨by first | rfl | (simp; done) | (simp []; done) | omega, by first | decide | (simp; done) | (simp []; done) | omega | (simp only [tlL]; omega) | (simp; omega)⟩, ⟨by first | rfl | (simp; done) | (simp []; done) | omega, by first | decide | (simp; done) | (simp []; done) | omega | (simp only [tlL]; omega) | (simp; omega)⟩, trivial⟩, by decide, by first | decide | omega | (simp only [tlL]; omega) | (simp; omega) | (simp []; done) | (simp []; omega), trivial⟩ (WkT.eq (y := T.agg [ti r13, ti r20]) (WkT.refl _) rfl) (fun _ h => h)
theorem F_impl_AnswerWeights_W (x0 : List Int) (x1 : Int) (x2 : Int) (x3 : Int) (y0 : Int) (y1 : Int) (y2 : Bool) (h : F_impl_AnswerWeights x0 x1 x2 x3 = some (y0, y1, y2)) : C Try.prog 23 [T.agg [tl x0, ti x1], ti x2, ti x3] (T.tup [T.agg [ti y0, ti y1], tb y2]) := by
  unfold F_impl_AnswerWeights at h
  refine C.intro (tab := tab) tab_ok (fn := Try.f23) Try.func23 (by kernel_rfl) rfl (Nat.le_of_ble_eq_true rfl) ?_
  refine WP.seq ?_
  refine WP.path tab_ok mixed [(3, An.fz), (6, An.id 2006)] [.keep [7, 6, 3, 1, 2], .keepO [2006]] (ps := []) (e := .normal) (σ' := ⟨[2006], [(7, vb false), (6, V.ref 2006 0), (3, V.t (T.ptr [tl x0, ti x1])), (1, vi x2), (2, vi x3)], [(2006, oc 39 [ti 0, ti 0])]⟩) (by kernel_rfl) trivial ?_
  refine WP.seq ?_
  obtain ⟨J1, hJ1, h⟩ := jn_some h
  refine WP.joinA (fun (zz : Bool) => ⟨[2006], [(19, vb zz), (7, vb false), (6, V.ref 2006 0), (3, V.t (T.ptr [tl x0, ti x1])), (1, vi x2), (2, vi x3)], [(2006, oc 39 [ti 0, ti 0])]⟩) (fun zz => J1 zz = some (y0, y1, y2)) ?_ ?_
  · -- to where they meet
    obtain ⟨r10, c0, h⟩ := bnd1_some h
    rcases ite_some h with ⟨h1, h⟩ | ⟨h1, h⟩
    · -- yes
      refine WP.path tab_ok mixed [(10, An.call (tb r10)), (12, An.b true)] [.keep [19, 7, 6, 3, 1, 2], .keepO [2006], .names [(2006, 2006)]] (ps := [(2 ≤ 2), (C Try.prog 91 [T.agg [tl x0, ti x1], ti x3] (tb r10)), ((!r10) = true)]) (e := .normal) (σ' := ⟨[2006], [(19, vb true), (7, vb false), (6, V.ref 2006 0), (3, V.t (T.ptr [tl x0, ti x1])), (1, vi x2), (2, vi x3)], [(2006, oc 39 [ti 0, ti 0])]⟩) (by kernel_rfl) ⟨by decide, (F_impl_areWeights_W x0 x1 x3 r10 c0), h1, trivial⟩ ?_
      exact ⟨(true), h, rfl⟩
    · -- no
      refine WP.path tab_ok mixed [(10, An.call (tb r10)), (12, An.b false), (17, An.call (tb (isQ ((List.length x0 : Nat) : Int) x2)))] [.keep [19, 7, 6, 3, 1, 2], .keepO [2006], .names [(2006, 2006)]] (ps := [(2 ≤ 2), (C Try.prog 91 [T.agg [tl x0, ti x1], ti x3] (tb r10)), ((!r10) = false), (True), (C Try.prog 92 [ti ((List.length x0 : Nat) : Int), ti x2] (tb (isQ ((List.length x0 : Nat) : Int) x2)))]) (e := .normal) (σ' := ⟨[2006], [(19, vb (!(isQ ((List.length x0 : Nat) : Int) x2))), (7, vb false), (6, V.ref 2006 0), (3, V.t (T.ptr [tl x0, ti x1])), (1, vi x2), (2, vi x3)], [(2006, oc 39 [ti 0, ti 0])]⟩) (by kernel_rfl) ⟨by decide, (F_impl_areWeights_W x0 x1 x3 r10 c0), h1, trivial, (isQuestion_C ((List.length x0 : Nat) : Int) x2), trivial⟩ ?_
      exact ⟨(!(isQ ((List.length x0 : Nat) : Int) x2)), h, rfl⟩
  · -- from there
    intro v19 h0
    have h := (show J1 v19 = some (y0, y1, y2) from h0)
    rw [hJ1] at h
    rcases ite_some h with ⟨h2, h⟩ | ⟨h2, h⟩
    · -- yes
      refine WP.cond (b := v19) rfl (fun _ => ?_) (fun hh => by rw [h2] at hh; cases hh)
      simp only [Option.some.injEq, Prod.mk.injEq] at h
      obtain ⟨rfl, rfl, rfl⟩ := h
      exact WP.pathW tab_ok mixed [] _ (ps := [(True), ((0 + 2 ≤ 2 ∧ 2 = 2)), (0 + 2 ≤ 2)]) (r := T.tup [T.agg [ti 0, ti 0], tb false]) (by kernel_rfl) ⟨trivial, by decide, by first | decide | omega | (simp only [tlL]; omega) | (simp; omega) | (simp []; done) | (simp []; omega), trivial⟩ (WkT.eq (y := T.tup [T.agg [ti 0, ti 0], tb false]) (WkT.refl _) (by first | rfl | (simp only [tlS, tl, vl, vo, oc, ov, tbl, vbl, ty, vy]; done) | (simp only [tlS, tl, vl, vo, oc, ov, tbl, vbl, ty, vy]; rfl) | (simp; done) | (simp []; done) | (rw [List.take_of_length_le (by simp [])]; done) | (rw [List.take_of_length_le (by simp [])]; rfl) | (simp only [tlL]; omega) | (simp; omega))) (fun _ h => h)
    · -- no
      refine WP.cond (b := v19) rfl (fun hh => by rw [h2] at hh; cases hh) (fun _ => ?_)
      refine WP.path tab_ok mixed [] [.keep [7, 6, 3, 1, 2], .keepO [2006]] (ps := []) (e := .normal) (σ' := ⟨[2006], [(7, vb false), (6, V.ref 2006 0), (3, V.t (T.ptr [tl x0, ti x1])), (1, vi x2), (2, vi x3)], [(2006, oc 39 [ti 0, ti 0])]⟩) (by kernel_rfl) trivial ?_
      obtain ⟨r24, r24b, c0, h⟩ := bnd2_some h
      simp only [Option.some.injEq, Prod.mk.injEq] at h
      obtain ⟨rfl, rfl, rfl⟩ := h
      exact WP.pathW tab_ok mixed [(24, An.call (T.agg [ti r24, ti r24b]))] _ (ps := [(2 ≤ 2), (C Try.prog 93 [T.agg [tl x0, ti x1], ti x2, ti x3] (T.agg [ti r24, ti r24b])), ((0 + 2 ≤ 2 ∧ 2 = 2)), (0 + 2 ≤ 2)]) (r := T.tup [T.agg [ti r24, ti r24b], tb true]) (by kernel_rfl) ⟨by decide, (F_impl_State_weights_W x0 x1 x2 x3 r24 r24b c0), by decide, by first | decide | omega | (simp only [tlL]; omega) | (simp; omega) | (simp []; done) | (simp []; omega), trivial⟩ (WkT.eq (y := T.tup [T.agg [ti r24, ti r24b], tb true]) (WkT.refl _) rfl) (fun _ h => h)
theorem F_spec_l3Asks_W (x0 : List Int) (x1 : Int) (x2 : Int) (y0 : Bool) (h : F_spec_l3Asks x0 x1 x2 = some y0) : C Try.prog 94 [T.agg [tl x0, ti x1], ti x2] (tb y0) := by
  unfold F_spec_l3Asks at h
  refine C.intro (tab := tab) tab_ok (fn := Try.f94) Try.func94 (by kernel_rfl) rfl (Nat.le_of_ble_eq_true rfl) ?_
  obtain ⟨c0, h⟩ := chk_some h
  rcases ite_some h with ⟨h1, h⟩ | ⟨h1, h⟩
  · -- yes
    have h := Option.some.inj h
    subst h
    exact WP.pathW tab_ok mixed [(2, An.fz), (6, An.call (tb true)), (9, An.call (tb (decide (x2 ≥ (1 : Int)) && decide (x2 ≤ (30 : Int)))))] _ (ps := [(2 ≤ 2), (C Try.prog 147 [T.agg [tl x0, ti x1]] (tb true)), (C Try.prog 141 [ti x2, ti 1, ti 30] (tb (decide (x2 ≥ (1 : Int)) && decide (x2 ≤ (30 : Int)))))]) (r := tb (decide (x2 ≥ (1 : Int)) && decide (x2 ≤ (30 : Int)))) (by kernel_rfl) ⟨by decide, (C.toB h1 (l2State_C x0 x1 c0)), (by have hh := (l1In_C x2 (1 : Int) (30 : Int)); simpa using hh), trivial⟩ (WkT.eq (y := tb (decide (x2 ≥ (1 : Int)) && decide (x2 ≤ (30 : Int)))) (WkT.refl _) rfl) (fun _ h => h)
  · -- no
    have h := Option.some.inj h
    subst h
    exact WP.pathW tab_ok mixed [(2, An.fz), (6, An.call (tb false))] _ (ps := [(2 ≤ 2), (C Try.prog 147 [T.agg [tl x0, ti x1]] (tb false))]) (r := tb false) (by kernel_rfl) ⟨by decide, (C.toB h1 (l2State_C x0 x1 c0)), trivial⟩ (WkT.eq (y := tb false) (WkT.refl _) rfl) (fun _ h => h)
theorem F_spec_l3Ways_W (x0 : Int) (x1 : Int) (y0 : Int) (h : F_spec_l3Ways x0 x1 = some y0) : C Try.prog 198 [ti x0, ti x1] (ti y0) := by
  unfold F_spec_l3Ways at h
  refine C.intro (tab := tab) tab_ok (fn := Try.f198) Try.func198 (by kernel_rfl) rfl (Nat.le_of_ble_eq_true rfl) ?_
  refine WP.seq ?_
  refine WP.path tab_ok mixed [] [.keep [4, 0, 1], .keepO []] (ps := []) (e := .normal) (σ' := ⟨[], [(4, vi 0), (0, vi x0), (1, vi x1)], []⟩) (by kernel_rfl) trivial ?_
  refine WP.seq ?_
  refine WP.path tab_ok mixed [] [.keep [5, 4, 0, 1], .keepO []] (ps := []) (e := .normal) (σ' := ⟨[], [(5, vi 1), (4, vi 0), (0, vi x0), (1, vi x1)], []⟩) (by kernel_rfl) trivial ?_
  obtain ⟨J1, hJ1, h⟩ := jn_some h
  refine WP.joinA (fun (zz : Int) => ⟨[], [(5, vi zz), (4, vi 0)], []⟩) (fun zz => J1 zz = some y0) ?_ ?_
  · -- to where they meet
    refine WP.seq ?_
    refine WP.path tab_ok mixed [] [.keep [6, 5, 4, 0, 1], .keepO []] (ps := []) (e := .normal) (σ' := ⟨[], [(6, vi 0), (5, vi 1), (4, vi 0), (0, vi x0), (1, vi x1)], []⟩) (by kernel_rfl) trivial ?_
    refine WP.block ?_
    refine WP.wk [.keep [6, 5, 4, 0, 1], .keepO [], .names []] (σ' := ⟨[], [(6, vi 0), (5, vi 1), (4, vi 0), (0, vi x0), (1, vi x1)], []⟩) (ps := []) (by kernel_rfl) trivial ?_
    refine WP.st (σ' := ⟨[], [(6, vi (0 : Int)), (5, vi (1 : Int)), (4, vi 0), (0, vi x0), (1, vi x1)], []⟩) (by first | rfl | (simp only [tlS, tl, vl, vo, oc, ov, tbl, vbl, ty, vy]; done) | (simp only [tlS, tl, vl, vo, oc, ov, tbl, vbl, ty, vy]; rfl) | (simp; done) | (simp []; done) | (rw [List.take_of_length_le (by simp [])]; done) | (rw [List.take_of_length_le (by simp [])]; rfl) | (simp only [tlL]; omega) | (simp; omega)) ?_
    refine WP.loop (α := Nat × Int × Int) (fun zz => ⟨[], [(6, vi zz.2.1), (5, vi zz.2.2), (4, vi 0), (0, vi x0), (1, vi x1)], []⟩) (fun zz => F_spec_l3Ways_L1 x0 x1 J1 zz.1 zz.2.1 zz.2.2 = some y0) (fun zz => zz.1) (fuel, (0 : Int), (1 : Int)) h ?_
    rintro ⟨n, v6, v5⟩ h0
    have h := (show F_spec_l3Ways_L1 x0 x1 J1 n v6 v5 = some y0 from h0)
    rcases n with _ | n
    · rw [F_spec_l3Ways_L1] at h; cases h
    · rw [F_spec_l3Ways_L1] at h
      refine WP.seq ?_
      refine WP.seq ?_
      refine WP.path tab_ok mixed [] [.keep [9, 6, 5, 4, 0, 1], .keepO []] (ps := [(True)]) (e := .normal) (σ' := ⟨[], [(9, vb (decide (v6 < x1))), (6, vi v6), (5, vi v5), (4, vi 0), (0, vi x0), (1, vi x1)], []⟩) (by kernel_rfl) ⟨trivial, trivial⟩ ?_
      rcases ite_some h with ⟨h1, h⟩ | ⟨h1, h⟩
      · -- yes
        refine WP.cond (b := decide (v6 < x1)) rfl (fun _ => ?_) (fun hh => by rw [h1] at hh; cases hh)
        refine WP.path tab_ok mixed [] [.keep [6, 5, 4, 0, 1], .keepO []] (ps := []) (e := .normal) (σ' := ⟨[], [(6, vi v6), (5, vi v5), (4, vi 0), (0, vi x0), (1, vi x1)], []⟩) (by kernel_rfl) trivial ?_
        refine WP.seq ?_
        refine WP.block ?_
        obtain ⟨c0, h⟩ := chk_some h
        obtain ⟨c1, h⟩ := chk_some h
        obtain ⟨c2, h⟩ := chk_some h
        obtain ⟨c3, h⟩ := chk_some h
        obtain ⟨c4, h⟩ := chk_some h
        refine WP.path tab_ok mixed [(15, An.v (T.int .i64 (x0 - v6))), (16, An.v (T.int .i64 (v5 * (x0 - v6)))), (18, An.v (T.int .i64 (v6 + (1 : Int)))), (19, An.v (T.int .i64 (Int.tdiv (v5 * (x0 - v6)) (v6 + (1 : Int)))))] [.keep [5, 6, 4, 0, 1], .keepO []] (ps := [(True), (T.int .i64 (IntKind.wrap .i64 (x0 - v6)) = T.int .i64 (x0 - v6)), (True), (T.int .i64 (IntKind.wrap .i64 (v5 * (x0 - v6))) = T.int .i64 (v5 * (x0 - v6))), (True), (T.int .i64 (IntKind.wrap .i64 (v6 + (1 : Int))) = T.int .i64 (v6 + (1 : Int))), ((v6 + (1 : Int)) ≠ 0), (T.int .i64 (IntKind.wrap .i64 (Int.tdiv (v5 * (x0 - v6)) (v6 + (1 : Int)))) = T.int .i64 (Int.tdiv (v5 * (x0 - v6)) (v6 + (1 : Int))))]) (e := .normal) (σ' := ⟨[], [(5, vi (Int.tdiv (v5 * (x0 - v6)) (v6 + (1 : Int)))), (6, vi v6), (4, vi 0), (0, vi x0), (1, vi x1)], []⟩) (by kernel_rfl) ⟨trivial, wrapI c0, trivial, wrapI c1, trivial, wrapI c2, c4, quo_told c3, trivial⟩ ?_
        refine WP.path tab_ok mixed [(11, An.v (T.int .i64 (v6 + (1 : Int))))] [.keep [6, 5, 4, 0, 1], .keepO [], .names []] (ps := [(True), (T.int .i64 (IntKind.wrap .i64 (v6 + (1 : Int))) = T.int .i64 (v6 + (1 : Int)))]) (e := .normal) (σ' := ⟨[], [(6, vi (v6 + (1 : Int))), (5, vi (Int.tdiv (v5 * (x0 - v6)) (v6 + (1 : Int)))), (4, vi 0), (0, vi x0), (1, vi x1)], []⟩) (by kernel_rfl) ⟨trivial, wrapI c2, trivial⟩ ?_
        exact ⟨(n, (v6 + (1 : Int)), (Int.tdiv (v5 * (x0 - v6)) (v6 + (1 : Int)))), h, Nat.lt_succ_self _, rfl⟩
      · -- no
        refine WP.cond (b := decide (v6 < x1)) rfl (fun hh => by rw [h1] at hh; cases hh) (fun _ => ?_)
        refine WP.path tab_ok mixed [] [.keep [5, 4], .keepO [], .names []] (ps := []) (e := (.exit 0)) (σ' := ⟨[], [(5, vi v5), (4, vi 0)], []⟩) (by kernel_rfl) trivial ?_
        exact ⟨(v5), h, rfl⟩
  · -- from there
    intro v5 h0
    have h := (show J1 v5 = some y0 from h0)
    rw [hJ1] at h
    have h := Option.some.inj h
    subst h
    exact WP.pathW tab_ok mixed [] _ (ps := []) (r := ti v5) (by kernel_rfl) trivial (WkT.eq (y := ti v5) (WkT.refl _) rfl) (fun _ h => h)
theorem F_spec_l3Ball_W (x0 : Int) (x1 : Int) (y0 : Int) (h : F_spec_l3Ball x0 x1 = some y0) : C Try.prog 196 [ti x0, ti x1] (ti y0) := by
  unfold F_spec_l3Ball at h
  refine C.intro (tab := tab) tab_ok (fn := Try.f196) Try.func196 (by kernel_rfl) rfl (Nat.le_of_ble_eq_true rfl) ?_
  refine WP.seq ?_
  refine WP.path tab_ok mixed [] [.keep [4, 0, 1], .keepO []] (ps := []) (e := .normal) (σ' := ⟨[], [(4, vi 0), (0, vi x0), (1, vi x1)], []⟩) (by kernel_rfl) trivial ?_
  refine WP.seq ?_
  refine WP.path tab_ok mixed [] [.keep [5, 4, 0, 1], .keepO []] (ps := []) (e := .normal) (σ' := ⟨[], [(5, vi 0), (4, vi 0), (0, vi x0), (1, vi x1)], []⟩) (by kernel_rfl) trivial ?_
  obtain ⟨J1, hJ1, h⟩ := jn_some h
  refine WP.joinA (fun (zz : Int) => ⟨[], [(5, vi zz), (4, vi 0)], []⟩) (fun zz => J1 zz = some y0) ?_ ?_
  · -- to where they meet
    refine WP.seq ?_
    refine WP.path tab_ok mixed [] [.keep [6, 5, 4, 0, 1], .keepO []] (ps := []) (e := .normal) (σ' := ⟨[], [(6, vi 0), (5, vi 0), (4, vi 0), (0, vi x0), (1, vi x1)], []⟩) (by kernel_rfl) trivial ?_
    refine WP.block ?_
    refine WP.wk [.keep [6, 5, 4, 0, 1], .keepO [], .names []] (σ' := ⟨[], [(6, vi 0), (5, vi 0), (4, vi 0), (0, vi x0), (1, vi x1)], []⟩) (ps := []) (by kernel_rfl) trivial ?_
    refine WP.st (σ' := ⟨[], [(6, vi (0 : Int)), (5, vi (0 : Int)), (4, vi 0), (0, vi x0), (1, vi x1)], []⟩) (by first | rfl | (simp only [tlS, tl, vl, vo, oc, ov, tbl, vbl, ty, vy]; done) | (simp only [tlS, tl, vl, vo, oc, ov, tbl, vbl, ty, vy]; rfl) | (simp; done) | (simp []; done) | (rw [List.take_of_length_le (by simp [])]; done) | (rw [List.take_of_length_le (by simp [])]; rfl) | (simp only [tlL]; omega) | (simp; omega)) ?_
    refine WP.loop (α := Nat × Int × Int) (fun zz => ⟨[], [(6, vi zz.2.1), (5, vi zz.2.2), (4, vi 0), (0, vi x0), (1, vi x1)], []⟩) (fun zz => F_spec_l3Ball_L1 x0 x1 J1 zz.1 zz.2.1 zz.2.2 = some y0) (fun zz => zz.1) (fuel, (0 : Int), (0 : Int)) h ?_
    rintro ⟨n, v6, v5⟩ h0
    have h := (show F_spec_l3Ball_L1 x0 x1 J1 n v6 v5 = some y0 from h0)
    rcases n with _ | n
    · rw [F_spec_l3Ball_L1] at h; cases h
    · rw [F_spec_l3Ball_L1] at h
      refine WP.seq ?_
      obtain ⟨J2, hJ2, h⟩ := jn_some h
      refine WP.joinA (fun (zz : Bool) => ⟨[], [(14, vb zz), (6, vi v6), (5, vi v5), (4, vi 0), (0, vi x0), (1, vi x1)], []⟩) (fun zz => J2 zz = some y0) ?_ ?_
      · -- to where they meet
        rcases ite_some h with ⟨h1, h⟩ | ⟨h1, h⟩
        · -- yes
          refine WP.path tab_ok mixed [(9, An.b true)] [.keep [14, 6, 5, 4, 0, 1], .keepO [], .names []] (ps := [(True), ((decide (v6 ≤ x1)) = true), (True)]) (e := .normal) (σ' := ⟨[], [(14, vb (decide (v6 ≤ x0))), (6, vi v6), (5, vi v5), (4, vi 0), (0, vi x0), (1, vi x1)], []⟩) (by kernel_rfl) ⟨trivial, h1, trivial, trivial⟩ ?_
          exact ⟨(decide (v6 ≤ x0)), h, rfl⟩
        · -- no
          refine WP.path tab_ok mixed [(9, An.b false)] [.keep [14, 6, 5, 4, 0, 1], .keepO [], .names []] (ps := [(True), ((decide (v6 ≤ x1)) = false)]) (e := .normal) (σ' := ⟨[], [(14, vb false), (6, vi v6), (5, vi v5), (4, vi 0), (0, vi x0), (1, vi x1)], []⟩) (by kernel_rfl) ⟨trivial, h1, trivial⟩ ?_
          exact ⟨(false), h, rfl⟩
      · -- from there
        intro v14 h0
        have h := (show J2 v14 = some y0 from h0)
        rw [hJ2] at h
        rcases ite_some h with ⟨h2, h⟩ | ⟨h2, h⟩
        · -- yes
          refine WP.cond (b := v14) rfl (fun _ => ?_) (fun hh => by rw [h2] at hh; cases hh)
          refine WP.path tab_ok mixed [] [.keep [6, 5, 4, 0, 1], .keepO []] (ps := []) (e := .normal) (σ' := ⟨[], [(6, vi v6), (5, vi v5), (4, vi 0), (0, vi x0), (1, vi x1)], []⟩) (by kernel_rfl) trivial ?_
          refine WP.seq ?_
          refine WP.block ?_
          obtain ⟨r20, c0, h⟩ := bnd1_some h
          obtain ⟨c1, h⟩ := chk_some h
          refine WP.path tab_ok mixed [(20, An.call (ti r20)), (21, An.v (T.int .i64 (v5 + r20)))] [.keep [5, 6, 4, 0, 1], .keepO []] (ps := [(C Try.prog 198 [ti x0, ti v6] (ti r20)), (True), (T.int .i64 (IntKind.wrap .i64 (v5 + r20)) = T.int .i64 (v5 + r20))]) (e := .normal) (σ' := ⟨[], [(5, vi (v5 + r20)), (6, vi v6), (4, vi 0), (0, vi x0), (1, vi x1)], []⟩) (by kernel_rfl) ⟨(F_spec_l3Ways_W x0 v6 r20 c0), trivial, wrapI c1, trivial⟩ ?_
          obtain ⟨c2, h⟩ := chk_some h
          refine WP.path tab_ok mixed [(16, An.v (T.int .i64 (v6 + (1 : Int))))] [.keep [6, 5, 4, 0, 1], .keepO [], .names []] (ps := [(True), (T.int .i64 (IntKind.wrap .i64 (v6 + (1 : Int))) = T.int .i64 (v6 + (1 : Int)))]) (e := .normal) (σ' := ⟨[], [(6, vi (v6 + (1 : Int))), (5, vi (v5 + r20)), (4, vi 0), (0, vi x0), (1, vi x1)], []⟩) (by kernel_rfl) ⟨trivial, wrapI c2, trivial⟩ ?_
          exact ⟨(n, (v6 + (1 : Int)), (v5 + r20)), h, Nat.lt_succ_self _, rfl⟩
        · -- no
          refine WP.cond (b := v14) rfl (fun hh => by rw [h2] at hh; cases hh) (fun _ => ?_)
          refine WP.path tab_ok mixed [] [.keep [5, 4], .keepO [], .names []] (ps := []) (e := (.exit 0)) (σ' := ⟨[], [(5, vi v5), (4, vi 0)], []⟩) (by kernel_rfl) trivial ?_
          exact ⟨(v5), h, rfl⟩
  · -- from there
    intro v5 h0
    have h := (show J1 v5 = some y0 from h0)
    rw [hJ1] at h
    have h := Option.some.inj h
    subst h
    exact WP.pathW tab_ok mixed [] _ (ps := []) (r := ti v5) (by kernel_rfl) trivial (WkT.eq (y := ti v5) (WkT.refl _) rfl) (fun _ h => h)
theorem F_spec_l3Number_W (x0 : List Int) (x1 : Int) (x2 : Int) (x3 : Int) (y0 : Int) (h : F_spec_l3Number x0 x1 x2 x3 = some y0) : C Try.prog 186 [T.agg [tl x0, ti x1], ti x2, ti x3] (ti y0) := by
  unfold F_spec_l3Number at h
  refine C.intro (tab := tab) tab_ok (fn := Try.f186) Try.func186 (by kernel_rfl) rfl (Nat.le_of_ble_eq_true rfl) ?_
  refine WP.seq ?_
  refine WP.path tab_ok mixed [(3, An.fz)] [.keep [6, 3, 1, 2], .keepO []] (ps := []) (e := .normal) (σ' := ⟨[], [(6, vi 0), (3, V.t (T.ptr [tl x0, ti x1])), (1, vi x2), (2, vi x3)], []⟩) (by kernel_rfl) trivial ?_
  refine WP.seq ?_
  refine WP.seq ?_
  obtain ⟨c0, h⟩ := chk_some h
  refine WP.path tab_ok mixed [(11, An.v (ti (List.getD x0 (Int.toNat x2) 0)))] [.keep [12, 6, 3, 1, 2], .keepO []] (ps := [(True), ((0 ≤ x2 ∧ x2 < ((List.length x0 : Nat) : Int))), ((List.drop ((Int.toNat x2) * 1) (List.map (T.int .i64) x0) : List T)[0]? = some (ti (List.getD x0 (Int.toNat x2) 0))), (ti (List.getD x0 (Int.toNat x2) 0) = ti (List.getD x0 (Int.toNat x2) 0)), (True)]) (e := .normal) (σ' := ⟨[], [(12, vb (decide ((List.getD x0 (Int.toNat x2) 0) < (0 : Int)))), (6, vi 0), (3, V.t (T.ptr [tl x0, ti x1])), (1, vi x2), (2, vi x3)], []⟩) (by kernel_rfl) ⟨trivial, c0, at1 (by simp) (by omega), rfl, trivial, trivial⟩ ?_
  rcases ite_some h with ⟨h1, h⟩ | ⟨h1, h⟩
  · -- yes
    refine WP.cond (b := decide ((List.getD x0 (Int.toNat x2) 0) < (0 : Int))) rfl (fun _ => ?_) (fun hh => by rw [h1] at hh; cases hh)
    have h := Option.some.inj h
    subst h
    exact WP.pathW tab_ok mixed [] _ (ps := []) (r := ti 0) (by kernel_rfl) trivial (WkT.eq (y := ti 0) (WkT.refl _) (by first | rfl | (simp only [tlS, tl, vl, vo, oc, ov, tbl, vbl, ty, vy]; done) | (simp only [tlS, tl, vl, vo, oc, ov, tbl, vbl, ty, vy]; rfl) | (simp; done) | (simp []; done) | (rw [List.take_of_length_le (by simp [])]; done) | (rw [List.take_of_length_le (by simp [])]; rfl) | (simp only [tlL]; omega) | (simp; omega))) (fun _ h => h)
  · -- no
    refine WP.cond (b := decide ((List.getD x0 (Int.toNat x2) 0) < (0 : Int))) rfl (fun hh => by rw [h1] at hh; cases hh) (fun _ => ?_)
    refine WP.path tab_ok mixed [] [.keep [6, 3, 1, 2], .keepO []] (ps := []) (e := .normal) (σ' := ⟨[], [(6, vi 0), (3, V.t (T.ptr [tl x0, ti x1])), (1, vi x2), (2, vi x3)], []⟩) (by kernel_rfl) trivial ?_
    obtain ⟨c1, h⟩ := chk_some h
    obtain ⟨r22, c2, h⟩ := bnd1_some h
    have h := Option.some.inj h
    subst h
    exact WP.pathW tab_ok mixed [(20, An.v (ti (List.getD x0 (Int.toNat x2) 0))), (21, An.v (T.int .i64 (x1 - (List.getD x0 (Int.toNat x2) 0)))), (22, An.call (ti r22))] _ (ps := [(True), (True), ((0 ≤ x2 ∧ x2 < ((List.length x0 : Nat) : Int))), ((List.drop ((Int.toNat x2) * 1) (List.map (T.int .i64) x0) : List T)[0]? = some (ti (List.getD x0 (Int.toNat x2) 0))), (ti (List.getD x0 (Int.toNat x2) 0) = ti (List.getD x0 (Int.toNat x2) 0)), (True), (T.int .i64 (IntKind.wrap .i64 (x1 - (List.getD x0 (Int.toNat x2) 0))) = T.int .i64 (x1 - (List.getD x0 (Int.toNat x2) 0))), (C Try.prog 196 [ti x3, ti (x1 - (List.getD x0 (Int.toNat x2) 0))] (ti r22))]) (r := ti r22) (by kernel_rfl) ⟨trivial, trivial, c0, at1 (by simp) (by omega), rfl, trivial, wrapI c1, (F_spec_l3Ball_W x3 (x1 - (List.getD x0 (Int.toNat x2) 0)) r22 c2), trivial⟩ (WkT.eq (y := ti r22) (WkT.refl _) rfl) (fun _ h => h)
theorem F_spec_l3Weight_W (x0 : List Int) (x1 : Int) (x2 : Int) (y0 : Int) (h : F_spec_l3Weight x0 x1 x2 = some y0) : C Try.prog 155 [T.agg [tl x0, ti x1], ti x2] (ti y0) := by
  unfold F_spec_l3Weight at h
  refine C.intro (tab := tab) tab_ok (fn := Try.f155) Try.func155 (by kernel_rfl) rfl (Nat.le_of_ble_eq_true rfl) ?_
  refine WP.seq ?_
  refine WP.path tab_ok mixed [(2, An.fz)] [.keep [4, 2, 1], .keepO []] (ps := []) (e := .normal) (σ' := ⟨[], [(4, vi 0), (2, V.t (T.ptr [tl x0, ti x1])), (1, vi x2)], []⟩) (by kernel_rfl) trivial ?_
  refine WP.seq ?_
  refine WP.path tab_ok mixed [] [.keep [5, 4, 2, 1], .keepO []] (ps := []) (e := .normal) (σ' := ⟨[], [(5, vi 0), (4, vi 0), (2, V.t (T.ptr [tl x0, ti x1])), (1, vi x2)], []⟩) (by kernel_rfl) trivial ?_
  obtain ⟨J1, hJ1, h⟩ := jn_some h
  refine WP.joinA (fun (zz : Int) => ⟨[], [(5, vi zz), (4, vi 0)], []⟩) (fun zz => J1 zz = some y0) ?_ ?_
  · -- to where they meet
    refine WP.seq ?_
    refine WP.path tab_ok mixed [] [.keep [6, 5, 4, 2, 1], .keepO []] (ps := []) (e := .normal) (σ' := ⟨[], [(6, vi 0), (5, vi 0), (4, vi 0), (2, V.t (T.ptr [tl x0, ti x1])), (1, vi x2)], []⟩) (by kernel_rfl) trivial ?_
    refine WP.block ?_
    refine WP.wk [.keep [6, 5, 4, 2, 1], .keepO [], .names []] (σ' := ⟨[], [(6, vi 0), (5, vi 0), (4, vi 0), (2, V.t (T.ptr [tl x0, ti x1])), (1, vi x2)], []⟩) (ps := []) (by kernel_rfl) trivial ?_
    refine WP.st (σ' := ⟨[], [(6, vi (0 : Int)), (5, vi (0 : Int)), (4, vi 0), (2, V.t (T.ptr [tl x0, ti x1])), (1, vi x2)], []⟩) (by first | rfl | (simp only [tlS, tl, vl, vo, oc, ov, tbl, vbl, ty, vy]; done) | (simp only [tlS, tl, vl, vo, oc, ov, tbl, vbl, ty, vy]; rfl) | (simp; done) | (simp []; done) | (rw [List.take_of_length_le (by simp [])]; done) | (rw [List.take_of_length_le (by simp [])]; rfl) | (simp only [tlL]; omega) | (simp; omega)) ?_
    refine WP.loop (α := Nat × Int × Int) (fun zz => ⟨[], [(6, vi zz.2.1), (5, vi zz.2.2), (4, vi 0), (2, V.t (T.ptr [tl x0, ti x1])), (1, vi x2)], []⟩) (fun zz => F_spec_l3Weight_L1 x0 x1 x2 J1 zz.1 zz.2.1 zz.2.2 = some y0) (fun zz => zz.1) (fuel, (0 : Int), (0 : Int)) h ?_
    rintro ⟨n, v6, v5⟩ h0
    have h := (show F_spec_l3Weight_L1 x0 x1 x2 J1 n v6 v5 = some y0 from h0)
    rcases n with _ | n
    · rw [F_spec_l3Weight_L1] at h; cases h
    · rw [F_spec_l3Weight_L1] at h
      refine WP.seq ?_
      refine WP.seq ?_
      refine WP.path tab_ok mixed [] [.keep [11, 6, 5, 4, 2, 1], .keepO []] (ps := [(True), (True)]) (e := .normal) (σ' := ⟨[], [(11, vb (decide (v6 < ((List.length x0 : Nat) : Int)))), (6, vi v6), (5, vi v5), (4, vi 0), (2, V.t (T.ptr [tl x0, ti x1])), (1, vi x2)], []⟩) (by kernel_rfl) ⟨trivial, trivial, trivial⟩ ?_
      rcases ite_some h with ⟨h1, h⟩ | ⟨h1, h⟩
      · -- yes
        refine WP.cond (b := decide (v6 < ((List.length x0 : Nat) : Int))) rfl (fun _ => ?_) (fun hh => by rw [h1] at hh; cases hh)
        refine WP.path tab_ok mixed [] [.keep [6, 5, 4, 2, 1], .keepO []] (ps := []) (e := .normal) (σ' := ⟨[], [(6, vi v6), (5, vi v5), (4, vi 0), (2, V.t (T.ptr [tl x0, ti x1])), (1, vi x2)], []⟩) (by kernel_rfl) trivial ?_
        refine WP.seq ?_
        refine WP.block ?_
        obtain ⟨r18, c0, h⟩ := bnd1_some h
        obtain ⟨c1, h⟩ := chk_some h
        refine WP.path tab_ok mixed [(18, An.call (ti r18)), (19, An.v (T.int .i64 (v5 + r18)))] [.keep [5, 6, 4, 2, 1], .keepO []] (ps := [(2 ≤ 2), (C Try.prog 186 [T.agg [tl x0, ti x1], ti v6, ti x2] (ti r18)), (True), (T.int .i64 (IntKind.wrap .i64 (v5 + r18)) = T.int .i64 (v5 + r18))]) (e := .normal) (σ' := ⟨[], [(5, vi (v5 + r18)), (6, vi v6), (4, vi 0), (2, V.t (T.ptr [tl x0, ti x1])), (1, vi x2)], []⟩) (by kernel_rfl) ⟨by decide, (F_spec_l3Number_W x0 x1 v6 x2 r18 c0), trivial, wrapI c1, trivial⟩ ?_
        obtain ⟨c2, h⟩ := chk_some h
        refine WP.path tab_ok mixed [(13, An.v (T.int .i64 (v6 + (1 : Int))))] [.keep [6, 5, 4, 2, 1], .keepO [], .names []] (ps := [(True), (T.int .i64 (IntKind.wrap .i64 (v6 + (1 : Int))) = T.int .i64 (v6 + (1 : Int)))]) (e := .normal) (σ' := ⟨[], [(6, vi (v6 + (1 : Int))), (5, vi (v5 + r18)), (4, vi 0), (2, V.t (T.ptr [tl x0, ti x1])), (1, vi x2)], []⟩) (by kernel_rfl) ⟨trivial, wrapI c2, trivial⟩ ?_
        exact ⟨(n, (v6 + (1 : Int)), (v5 + r18)), h, Nat.lt_succ_self _, rfl⟩
      · -- no
        refine WP.cond (b := decide (v6 < ((List.length x0 : Nat) : Int))) rfl (fun hh => by rw [h1] at hh; cases hh) (fun _ => ?_)
        refine WP.path tab_ok mixed [] [.keep [5, 4], .keepO [], .names []] (ps := []) (e := (.exit 0)) (σ' := ⟨[], [(5, vi v5), (4, vi 0)], []⟩) (by kernel_rfl) trivial ?_
        exact ⟨(v5), h, rfl⟩
  · -- from there
    intro v5 h0
    have h := (show J1 v5 = some y0 from h0)
    rw [hJ1] at h
    have h := Option.some.inj h
    subst h
    exact WP.pathW tab_ok mixed [] _ (ps := []) (r := ti v5) (by kernel_rfl) trivial (WkT.eq (y := ti v5) (WkT.refl _) rfl) (fun _ h => h)
theorem F_spec_l3Answers_W (x0 : List Int) (x1 : Int) (x2 : Int) (x3 : Int) (y0 : Int) (y1 : Int) (h : F_spec_l3Answers x0 x1 x2 x3 = some (y0, y1)) : C Try.prog 96 [T.agg [tl x0, ti x1], ti x2, ti x3] (T.agg [ti y0, ti y1]) := by
  unfold F_spec_l3Answers at h
  refine C.intro (tab := tab) tab_ok (fn := Try.f96) Try.func96 (by kernel_rfl) rfl (Nat.le_of_ble_eq_true rfl) ?_
  obtain ⟨c0, h⟩ := chk_some h
  obtain ⟨c1, h⟩ := chk_some h
  obtain ⟨r12, c2, h⟩ := bnd1_some h
  obtain ⟨r18, c3, h⟩ := bnd1_some h
  simp only [Option.some.injEq, Prod.mk.injEq] at h
  obtain ⟨rfl, rfl⟩ := h
  exact WP.pathW tab_ok mixed [(3, An.fz), (6, An.id 2006), (9, An.callG [(9000, 10090)] [V.t (T.agg [tl x0, ti x1]), vi x2, vb true] [] (V.agg [vo 9000 (List.length (ansN x1 x2 true x0)), vi x1]) [(9000, oc 3 (List.map (T.int .i64) (ansN x1 x2 true x0)))]), (11, An.v (T.int .i64 (x3 - (1 : Int)))), (12, An.call (ti r12)), (15, An.callG [(9000, 10150)] [V.t (T.agg [tl x0, ti x1]), vi x2, vb false] [] (V.agg [vo 9000 (List.length (ansN x1 x2 false x0)), vi x1]) [(9000, oc 3 (List.map (T.int .i64) (ansN x1 x2 false x0)))]), (17, An.v (T.int .i64 (x3 - (1 : Int)))), (18, An.call (ti r18))] _ (ps := [(2 ≤ 2), (CG Try.prog 156 [V.t (T.agg [tl x0, ti x1]), vi x2, vb true] [] (V.agg [vo 9000 (List.length (ansN x1 x2 true x0)), vi x1]) [(9000, oc 3 (List.map (T.int .i64) (ansN x1 x2 true x0)))]), (WkT (T.agg [tl x0, ti x1]) (T.agg [tl x0, ti x1])), (WkT (ti x2) (ti x2)), (WkT (tb true) (tb true)), (True), (T.int .i64 (IntKind.wrap .i64 (x3 - (1 : Int))) = T.int .i64 (x3 - (1 : Int))), (C Try.prog 155 [T.agg [tl (ansN x1 x2 true x0), ti x1], ti (x3 - (1 : Int))] (ti r12)), (List.length (List.map (T.int .i64) (ansN x1 x2 true x0)) = (List.length (ansN x1 x2 true x0)) * 1), (2 ≤ 2), (CG Try.prog 156 [V.t (T.agg [tl x0, ti x1]), vi x2, vb false] [] (V.agg [vo 9000 (List.length (ansN x1 x2 false x0)), vi x1]) [(9000, oc 3 (List.map (T.int .i64) (ansN x1 x2 false x0)))]), (WkT (T.agg [tl x0, ti x1]) (T.agg [tl x0, ti x1])), (WkT (ti x2) (ti x2)), (WkT (tb false) (tb false)), (True), (T.int .i64 (IntKind.wrap .i64 (x3 - (1 : Int))) = T.int .i64 (x3 - (1 : Int))), (C Try.prog 155 [T.agg [tl (ansN x1 x2 false x0), ti x1], ti (x3 - (1 : Int))] (ti r18)), (List.length (List.map (T.int .i64) (ansN x1 x2 false x0)) = (List.length (ansN x1 x2 false x0)) * 1), ((1 = 1 ∧ 0 + 1 ≤ 2) ∧ (1 = 1 ∧ 1 + 1 ≤ 2) ∧ True), ((0 + 2 ≤ 2 ∧ 2 = 2)), (0 + 2 ≤ 2)]) (r := T.agg [ti r12, ti r18]) (by kernel_rfl) ⟨by decide, (l2After_C_G x0 x1 x2 true c0), WkT.refl _, WkT.refl _, WkT.refl _, trivial, wrapI c1, (F_spec_l3Weight_W (ansN x1 x2 true x0) x1 (x3 - (1 : Int)) r12 c2), by first | rfl | (simp; done) | omega | (simp only [tlL]; omega) | (simp; omega) | (simp []; done) | (simp []; omega), by decide, (l2After_C_G x0 x1 x2 false c0), WkT.refl _, WkT.refl _, WkT.refl _, trivial, wrapI c1, (F_spec_l3Weight_W (ansN x1 x2 false x0) x1 (x3 - (1 : Int)) r18 c3), by first | rfl | (simp; done) | omega | (simp only [tlL]; omega) | (simp; omega) | (simp []; done) | (simp []; omega), ⟨⟨by first | rfl | (simp; done) | (simp []; done) | omega, by first | decide | (simp; done) | (simp []; done) | omega | (simp only [tlL]; omega) | (simp; omega)⟩, ⟨by first | rfl | (simp; done) | (simp []; done) | omega, by first | decide | (simp; done) | (simp []; done) | omega | (simp only [tlL]; omega) | (simp; omega)⟩, trivial⟩, by decide, by first | decide | omega | (simp only [tlL]; omega) | (simp; omega) | (simp []; done) | (simp []; omega), trivial⟩ (WkT.eq (y := T.agg [ti r12, ti r18]) (WkT.refl _) rfl) (fun _ h => h)
theorem F_spec_AnswerWeights_W (x0 : List Int) (x1 : Int) (x2 : Int) (x3 : Int) (y0 : Int) (y1 : Int) (y2 : Bool) (h : F_spec_AnswerWeights x0 x1 x2 x3 = some (y0, y1, y2)) : C Try.prog 24 [T.agg [tl x0, ti x1], ti x2, ti x3] (T.tup [T.agg [ti y0, ti y1], tb y2]) := by
  unfold F_spec_AnswerWeights at h
  refine C.intro (tab := tab) tab_ok (fn := Try.f24) Try.func24 (by kernel_rfl) rfl (Nat.le_of_ble_eq_true rfl) ?_
  refine WP.seq ?_
  refine WP.path tab_ok mixed [(3, An.fz), (6, An.id 2006)] [.keep [7, 6, 3, 1, 2], .keepO [2006]] (ps := []) (e := .normal) (σ' := ⟨[2006], [(7, vb false), (6, V.ref 2006 0), (3, V.t (T.ptr [tl x0, ti x1])), (1, vi x2), (2, vi x3)], [(2006, oc 39 [ti 0, ti 0])]⟩) (by kernel_rfl) trivial ?_
  refine WP.seq ?_
  obtain ⟨J1, hJ1, h⟩ := jn_some h
  refine WP.joinA (fun (zz : Bool) => ⟨[2006], [(17, vb zz), (7, vb false), (6, V.ref 2006 0), (3, V.t (T.ptr [tl x0, ti x1])), (1, vi x2), (2, vi x3)], [(2006, oc 39 [ti 0, ti 0])]⟩) (fun zz => J1 zz = some (y0, y1, y2)) ?_ ?_
  · -- to where they meet
    obtain ⟨r10, c0, h⟩ := bnd1_some h
    rcases ite_some h with ⟨h1, h⟩ | ⟨h1, h⟩
    · -- yes
      refine WP.path tab_ok mixed [(10, An.call (tb r10)), (12, An.b true)] [.keep [17, 7, 6, 3, 1, 2], .keepO [2006], .names [(2006, 2006)]] (ps := [(2 ≤ 2), (C Try.prog 94 [T.agg [tl x0, ti x1], ti x3] (tb r10)), ((!r10) = true)]) (e := .normal) (σ' := ⟨[2006], [(17, vb true), (7, vb false), (6, V.ref 2006 0), (3, V.t (T.ptr [tl x0, ti x1])), (1, vi x2), (2, vi x3)], [(2006, oc 39 [ti 0, ti 0])]⟩) (by kernel_rfl) ⟨by decide, (F_spec_l3Asks_W x0 x1 x3 r10 c0), h1, trivial⟩ ?_
      exact ⟨(true), h, rfl⟩
    · -- no
      obtain ⟨c1, h⟩ := chk_some h
      refine WP.path tab_ok mixed [(10, An.call (tb r10)), (12, An.b false), (15, An.call (tb (isQ ((List.length x0 : Nat) : Int) x2)))] [.keep [17, 7, 6, 3, 1, 2], .keepO [2006], .names [(2006, 2006)]] (ps := [(2 ≤ 2), (C Try.prog 94 [T.agg [tl x0, ti x1], ti x3] (tb r10)), ((!r10) = false), (2 ≤ 2), (C Try.prog 95 [T.agg [tl x0, ti x1], ti x2] (tb (isQ ((List.length x0 : Nat) : Int) x2)))]) (e := .normal) (σ' := ⟨[2006], [(17, vb (!(isQ ((List.length x0 : Nat) : Int) x2))), (7, vb false), (6, V.ref 2006 0), (3, V.t (T.ptr [tl x0, ti x1])), (1, vi x2), (2, vi x3)], [(2006, oc 39 [ti 0, ti 0])]⟩) (by kernel_rfl) ⟨by decide, (F_spec_l3Asks_W x0 x1 x3 r10 c0), h1, by decide, (l2Question_C x0 x1 x2 c1), trivial⟩ ?_
      exact ⟨(!(isQ ((List.length x0 : Nat) : Int) x2)), h, rfl⟩
  · -- from there
    intro v17 h0
    have h := (show J1 v17 = some (y0, y1, y2) from h0)
    rw [hJ1] at h
    rcases ite_some h with ⟨h2, h⟩ | ⟨h2, h⟩
    · -- yes
      refine WP.cond (b := v17) rfl (fun _ => ?_) (fun hh => by rw [h2] at hh; cases hh)
      simp only [Option.some.injEq, Prod.mk.injEq] at h
      obtain ⟨rfl, rfl, rfl⟩ := h
      exact WP.pathW tab_ok mixed [] _ (ps := [(True), ((0 + 2 ≤ 2 ∧ 2 = 2)), (0 + 2 ≤ 2)]) (r := T.tup [T.agg [ti 0, ti 0], tb false]) (by kernel_rfl) ⟨trivial, by decide, by first | decide | omega | (simp only [tlL]; omega) | (simp; omega) | (simp []; done) | (simp []; omega), trivial⟩ (WkT.eq (y := T.tup [T.agg [ti 0, ti 0], tb false]) (WkT.refl _) (by first | rfl | (simp only [tlS, tl, vl, vo, oc, ov, tbl, vbl, ty, vy]; done) | (simp only [tlS, tl, vl, vo, oc, ov, tbl, vbl, ty, vy]; rfl) | (simp; done) | (simp []; done) | (rw [List.take_of_length_le (by simp [])]; done) | (rw [List.take_of_length_le (by simp [])]; rfl) | (simp only [tlL]; omega) | (simp; omega))) (fun _ h => h)
    · -- no
      refine WP.cond (b := v17) rfl (fun hh => by rw [h2] at hh; cases hh) (fun _ => ?_)
      refine WP.path tab_ok mixed [] [.keep [7, 6, 3, 1, 2], .keepO [2006]] (ps := []) (e := .normal) (σ' := ⟨[2006], [(7, vb false), (6, V.ref 2006 0), (3, V.t (T.ptr [tl x0, ti x1])), (1, vi x2), (2, vi x3)], [(2006, oc 39 [ti 0, ti 0])]⟩) (by kernel_rfl) trivial ?_
      obtain ⟨r22, r22b, c0, h⟩ := bnd2_some h
      simp only [Option.some.injEq, Prod.mk.injEq] at h
      obtain ⟨rfl, rfl, rfl⟩ := h
      exact WP.pathW tab_ok mixed [(22, An.call (T.agg [ti r22, ti r22b]))] _ (ps := [(2 ≤ 2), (C Try.prog 96 [T.agg [tl x0, ti x1], ti x2, ti x3] (T.agg [ti r22, ti r22b])), ((0 + 2 ≤ 2 ∧ 2 = 2)), (0 + 2 ≤ 2)]) (r := T.tup [T.agg [ti r22, ti r22b], tb true]) (by kernel_rfl) ⟨by decide, (F_spec_l3Answers_W x0 x1 x2 x3 r22 r22b c0), by decide, by first | decide | omega | (simp only [tlL]; omega) | (simp; omega) | (simp []; done) | (simp []; omega), trivial⟩ (WkT.eq (y := T.tup [T.agg [ti r22, ti r22b], tb true]) (WkT.refl _) rfl) (fun _ h => h)
theorem F_impl_greater_W (x0 : Int) (x1 : Int) (y0 : Int) (h : F_impl_greater x0 x1 = some y0) : C Try.prog 97 [T.agg [ti x0, ti x1]] (ti y0) := by
  unfold F_impl_greater at h
  refine C.intro (tab := tab) tab_ok (fn := Try.f97) Try.func97 (by kernel_rfl) rfl (Nat.le_of_ble_eq_true rfl) ?_
  have h := Option.some.inj h
  subst h
  exact WP.pathW tab_ok mixed [(1, An.fz)] _ (ps := [((0 ≤ (0 : Int) ∧ (0 : Int) < (2 : Int))), (True), ((0 ≤ (1 : Int) ∧ (1 : Int) < (2 : Int))), (True)]) (r := ti (max x0 x1)) (by kernel_rfl) ⟨by decide, trivial, by decide, trivial, trivial⟩ (WkT.eq (y := ti (max x0 x1)) (WkT.refl _) rfl) (fun _ h => h)
theorem F_impl_IsBalanced_W (x0 : List Int) (x1 : Int) (x2 : Int) (x3 : Int) (y0 : Bool) (y1 : Bool) (h : F_impl_IsBalanced x0 x1 x2 x3 = some (y0, y1)) : C Try.prog 25 [T.agg [tl x0, ti x1], ti x2, ti x3] (T.tup [tb y0, tb y1]) := by
  unfold F_impl_IsBalanced at h
  refine C.intro (tab := tab) tab_ok (fn := Try.f25) Try.func25 (by kernel_rfl) rfl (Nat.le_of_ble_eq_true rfl) ?_
  obtain ⟨r14, r14b, r14c, c0, h⟩ := bnd3_some h
  rcases ite_some h with ⟨h1, h⟩ | ⟨h1, h⟩
  · -- yes
    obtain ⟨r20, c1, h⟩ := bnd1_some h
    obtain ⟨c2, h⟩ := chk_some h
    obtain ⟨c3, h⟩ := chk_some h
    simp only [Option.some.injEq, Prod.mk.injEq] at h
    obtain ⟨rfl, rfl⟩ := h
    exact WP.pathW tab_ok mixed [(3, An.fz), (14, An.call (T.tup [T.agg [ti r14, ti r14b], tb r14c])), (16, An.b true), (8, An.id 2008), (20, An.call (ti r20)), (22, An.v (T.int .i64 (x3 - (1 : Int)))), (23, An.v (T.int .i64 ((1 : Int) * 2 ^ Int.toNat (x3 - (1 : Int)))))] _ (ps := [(2 ≤ 2), (C Try.prog 23 [T.agg [tl x0, ti x1], ti x2, ti x3] (T.tup [T.agg [ti r14, ti r14b], tb r14c])), ((r14c) = true), ((0 + 2 ≤ 2 ∧ 2 = 2)), (0 + 2 ≤ 2), (C Try.prog 97 [T.agg [ti r14, ti r14b]] (ti r20)), (True), (T.int .i64 (IntKind.wrap .i64 (x3 - (1 : Int))) = T.int .i64 (x3 - (1 : Int))), (0 ≤ (x3 - (1 : Int))), (T.int .i64 (IntKind.wrap .i64 ((1 : Int) * 2 ^ (min (Int.toNat (x3 - (1 : Int))) 64))) = T.int .i64 ((1 : Int) * 2 ^ Int.toNat (x3 - (1 : Int)))), (True)]) (r := T.tup [tb (decide (r20 ≤ ((1 : Int) * 2 ^ Int.toNat (x3 - (1 : Int))))), tb true]) (by kernel_rfl) ⟨by decide, (F_impl_AnswerWeights_W x0 x1 x2 x3 r14 r14b r14c c0), h1, by decide, by decide, (F_impl_greater_W r14 r14b r20 c1), trivial, wrapI c2, c3.1, shl_told c3, trivial, trivial⟩ (WkT.eq (y := T.tup [tb (decide (r20 ≤ ((1 : Int) * 2 ^ Int.toNat (x3 - (1 : Int))))), tb true]) (WkT.refl _) rfl) (fun _ h => h)
  · -- no
    simp only [Option.some.injEq, Prod.mk.injEq] at h
    obtain ⟨rfl, rfl⟩ := h
    exact WP.pathW tab_ok mixed [(3, An.fz), (14, An.call (T.tup [T.agg [ti r14, ti r14b], tb r14c])), (16, An.b false), (8, An.id 2008)] _ (ps := [(2 ≤ 2), (C Try.prog 23 [T.agg [tl x0, ti x1], ti x2, ti x3] (T.tup [T.agg [ti r14, ti r14b], tb r14c])), ((r14c) = false), ((0 + 2 ≤ 2 ∧ 2 = 2))]) (r := T.tup [tb false, tb false]) (by kernel_rfl) ⟨by decide, (F_impl_AnswerWeights_W x0 x1 x2 x3 r14 r14b r14c c0), h1, by decide, trivial⟩ (WkT.eq (y := T.tup [tb false, tb false]) (WkT.refl _) rfl) (fun _ h => h)
theorem F_spec_l3Most_W (x0 : List Int) (x1 : Int) (x2 : Int) (x3 : Int) (y0 : Int) (h : F_spec_l3Most x0 x1 x2 x3 = some y0) : C Try.prog 98 [T.agg [tl x0, ti x1], ti x2, ti x3] (ti y0) := by
  unfold F_spec_l3Most at h
  refine C.intro (tab := tab) tab_ok (fn := Try.f98) Try.func98 (by kernel_rfl) rfl (Nat.le_of_ble_eq_true rfl) ?_
  obtain ⟨r11, r11b, c0, h⟩ := bnd2_some h
  have h := Option.some.inj h
  subst h
  exact WP.pathW tab_ok mixed [(3, An.fz), (11, An.call (T.agg [ti r11, ti r11b])), (7, An.id 2007), (16, An.call (ti (maxN r11 r11b)))] _ (ps := [(2 ≤ 2), (C Try.prog 96 [T.agg [tl x0, ti x1], ti x2, ti x3] (T.agg [ti r11, ti r11b])), ((0 + 2 ≤ 2 ∧ 2 = 2)), ((0 ≤ (0 : Int) ∧ (0 : Int) < (2 : Int))), (True), ((0 ≤ (1 : Int) ∧ (1 : Int) < (2 : Int))), (True), (C Try.prog 151 [ti r11, ti r11b] (ti (maxN r11 r11b)))]) (r := ti (maxN r11 r11b)) (by kernel_rfl) ⟨by decide, (F_spec_l3Answers_W x0 x1 x2 x3 r11 r11b c0), by decide, by decide, trivial, by decide, trivial, (l1Most_C r11 r11b), trivial⟩ (WkT.eq (y := ti (maxN r11 r11b)) (WkT.refl _) rfl) (fun _ h => h)
theorem F_spec_IsBalanced_W (x0 : List Int) (x1 : Int) (x2 : Int) (x3 : Int) (y0 : Bool) (y1 : Bool) (h : F_spec_IsBalanced x0 x1 x2 x3 = some (y0, y1)) : C Try.prog 26 [T.agg [tl x0, ti x1], ti x2, ti x3] (T.tup [tb y0, tb y1]) := by
  unfold F_spec_IsBalanced at h
  refine C.intro (tab := tab) tab_ok (fn := Try.f26) Try.func26 (by kernel_rfl) rfl (Nat.le_of_ble_eq_true rfl) ?_
  refine WP.seq ?_
  refine WP.path tab_ok mixed [(3, An.fz)] [.keep [7, 6, 3, 1, 2], .keepO []] (ps := []) (e := .normal) (σ' := ⟨[], [(7, vb false), (6, vb false), (3, V.t (T.ptr [tl x0, ti x1])), (1, vi x2), (2, vi x3)], []⟩) (by kernel_rfl) trivial ?_
  refine WP.seq ?_
  obtain ⟨J1, hJ1, h⟩ := jn_some h
  refine WP.joinA (fun (zz : Bool) => ⟨[], [(17, vb zz), (7, vb false), (6, vb false), (3, V.t (T.ptr [tl x0, ti x1])), (1, vi x2), (2, vi x3)], []⟩) (fun zz => J1 zz = some (y0, y1)) ?_ ?_
  · -- to where they meet
    obtain ⟨r10, c0, h⟩ := bnd1_some h
    rcases ite_some h with ⟨h1, h⟩ | ⟨h1, h⟩
    · -- yes
      refine WP.path tab_ok mixed [(10, An.call (tb r10)), (12, An.b true)] [.keep [17, 7, 6, 3, 1, 2], .keepO [], .names []] (ps := [(2 ≤ 2), (C Try.prog 94 [T.agg [tl x0, ti x1], ti x3] (tb r10)), ((!r10) = true)]) (e := .normal) (σ' := ⟨[], [(17, vb true), (7, vb false), (6, vb false), (3, V.t (T.ptr [tl x0, ti x1])), (1, vi x2), (2, vi x3)], []⟩) (by kernel_rfl) ⟨by decide, (F_spec_l3Asks_W x0 x1 x3 r10 c0), h1, trivial⟩ ?_
      exact ⟨(true), h, rfl⟩
    · -- no
      obtain ⟨c1, h⟩ := chk_some h
      refine WP.path tab_ok mixed [(10, An.call (tb r10)), (12, An.b false), (15, An.call (tb (isQ ((List.length x0 : Nat) : Int) x2)))] [.keep [17, 7, 6, 3, 1, 2], .keepO [], .names []] (ps := [(2 ≤ 2), (C Try.prog 94 [T.agg [tl x0, ti x1], ti x3] (tb r10)), ((!r10) = false), (2 ≤ 2), (C Try.prog 95 [T.agg [tl x0, ti x1], ti x2] (tb (isQ ((List.length x0 : Nat) : Int) x2)))]) (e := .normal) (σ' := ⟨[], [(17, vb (!(isQ ((List.length x0 : Nat) : Int) x2))), (7, vb false), (6, vb false), (3, V.t (T.ptr [tl x0, ti x1])), (1, vi x2), (2, vi x3)], []⟩) (by kernel_rfl) ⟨by decide, (F_spec_l3Asks_W x0 x1 x3 r10 c0), h1, by decide, (l2Question_C x0 x1 x2 c1), trivial⟩ ?_
      exact ⟨(!(isQ ((List.length x0 : Nat) : Int) x2)), h, rfl⟩
  · -- from there
    intro v17 h0
    have h := (show J1 v17 = some (y0, y1) from h0)
    rw [hJ1] at h
    rcases ite_some h with ⟨h2, h⟩ | ⟨h2, h⟩
    · -- yes
      refine WP.cond (b := v17) rfl (fun _ => ?_) (fun hh => by rw [h2] at hh; cases hh)
      simp only [Option.some.injEq, Prod.mk.injEq] at h
      obtain ⟨rfl, rfl⟩ := h
      exact WP.pathW tab_ok mixed [] _ (ps := []) (r := T.tup [tb false, tb false]) (by kernel_rfl) trivial (WkT.eq (y := T.tup [tb false, tb false]) (WkT.refl _) rfl) (fun _ h => h)
    · -- no
      refine WP.cond (b := v17) rfl (fun hh => by rw [h2] at hh; cases hh) (fun _ => ?_)
      refine WP.path tab_ok mixed [] [.keep [7, 6, 3, 1, 2], .keepO []] (ps := []) (e := .normal) (σ' := ⟨[], [(7, vb false), (6, vb false), (3, V.t (T.ptr [tl x0, ti x1])), (1, vi x2), (2, vi x3)], []⟩) (by kernel_rfl) trivial ?_
      obtain ⟨r21, c0, h⟩ := bnd1_some h
      obtain ⟨c1, h⟩ := chk_some h
      obtain ⟨c2, h⟩ := chk_some h
      simp only [Option.some.injEq, Prod.mk.injEq] at h
      obtain ⟨rfl, rfl⟩ := h
      exact WP.pathW tab_ok mixed [(21, An.call (ti r21)), (23, An.v (T.int .i64 (x3 - (1 : Int)))), (24, An.v (T.int .i64 ((1 : Int) * 2 ^ Int.toNat (x3 - (1 : Int)))))] _ (ps := [(2 ≤ 2), (C Try.prog 98 [T.agg [tl x0, ti x1], ti x2, ti x3] (ti r21)), (True), (T.int .i64 (IntKind.wrap .i64 (x3 - (1 : Int))) = T.int .i64 (x3 - (1 : Int))), (0 ≤ (x3 - (1 : Int))), (T.int .i64 (IntKind.wrap .i64 ((1 : Int) * 2 ^ (min (Int.toNat (x3 - (1 : Int))) 64))) = T.int .i64 ((1 : Int) * 2 ^ Int.toNat (x3 - (1 : Int)))), (True)]) (r := T.tup [tb (decide (r21 ≤ ((1 : Int) * 2 ^ Int.toNat (x3 - (1 : Int))))), tb true]) (by kernel_rfl) ⟨by decide, (F_spec_l3Most_W x0 x1 x2 x3 r21 c0), trivial, wrapI c1, c2.1, shl_told c2, trivial, trivial⟩ (WkT.eq (y := T.tup [tb (decide (r21 ≤ ((1 : Int) * 2 ^ Int.toNat (x3 - (1 : Int))))), tb true]) (WkT.refl _) rfl) (fun _ h => h)
theorem F_spec_DrawStateWeight_W (x0 : List Int) (y0 : List Int) (y1 : Int) (y2 : Int) (h : F_spec_DrawStateWeight x0 = some (y0, y1, y2)) : CG Try.prog 99 [vy x0] [] (V.tup [V.agg [vo 9000 (List.length y0), vi y1], vi y2]) [(9000, oc 3 (List.map (T.int .i64) y0))] := by
  unfold F_spec_DrawStateWeight at h
  refine CG.intro (tab := tab) tab_ok (fn := Try.f99) Try.func99 (by kernel_rfl) rfl (Nat.le_of_ble_eq_true rfl) (by kernel_rfl) ?_
  obtain ⟨r9, r9b, r9c, r9d, r9e, c0, h⟩ := bnd5_some h
  obtain ⟨r11, r11b, r11c, r11d, c1, h⟩ := bnd4_some h
  simp only [Option.some.injEq, Prod.mk.injEq] at h
  obtain ⟨rfl, rfl, rfl⟩ := h
  exact WP.pathG tab_ok mixed [(2, An.id 2002), (7, An.id 2007), (9, An.callG [(500, 2007), (9000, 10090)] [V.ref 500 0] [(500, oc 112 [ty x0, ti 0, T.int .u64 0])] (V.agg [vo 9000 (List.length r9), vi r9b]) [(500, oc 112 [ty r9c, ti r9d, T.int .u64 r9e]), (9000, oc 3 (List.map (T.int .i64) r9))]), (11, An.callG [(500, 2007)] [V.ref 500 0] [(500, oc 112 [ty r9c, ti r9d, T.int .u64 r9e])] (vi r11) [(500, oc 112 [ty r11b, ti r11c, T.int .u64 r11d])])] [.keep [2, 3], .keepO [10090, 2002], .names [(10090, 9000), (2002, 2002)]] [9000] _ (r' := V.tup [V.agg [vo 9000 (List.length r9), vi r9b], vi r11]) (ps := [((1 = 1 ∧ 0 + 1 ≤ 3) ∧ True), (CG Try.prog 88 [V.ref 500 0] [(500, oc 112 [ty x0, ti 0, T.int .u64 0])] (V.agg [vo 9000 (List.length r9), vi r9b]) [(500, oc 112 [ty r9c, ti r9d, T.int .u64 r9e]), (9000, oc 3 (List.map (T.int .i64) r9))]), ((V.ref 500 0).ren (renF [(500, 2007), (9000, 10090)]) = V.ref 2007 0), ((oc 112 [ty x0, ti 0, T.int .u64 0]) = (oc 112 [ty x0, ti 0, T.int .u64 0]).ren (renF [(500, 2007), (9000, 10090)])), (CG Try.prog 90 [V.ref 500 0] [(500, oc 112 [ty r9c, ti r9d, T.int .u64 r9e])] (vi r11) [(500, oc 112 [ty r11b, ti r11c, T.int .u64 r11d])]), ((V.ref 500 0).ren (renF [(500, 2007)]) = V.ref 2007 0), ((oc 112 [ty r9c, ti r9d, T.int .u64 r9e]) = (oc 112 [ty r9c, ti r9d, T.int .u64 r9e]).ren (renF [(500, 2007)])), ((0 + 2 ≤ 2 ∧ 2 = 2)), (0 + 2 ≤ 2)]) (r := V.tup [V.agg [vo 9000 (List.length r9), vi r9b], vi r11]) (N := [9000, 2002]) (O := [(9000, oc 3 (List.map (T.int .i64) r9))]) [] (by kernel_rfl) ⟨⟨⟨by first | rfl | (simp; done) | (simp []; done) | omega, by first | decide | (simp; done) | (simp []; done) | omega | (simp only [tlL]; omega) | (simp; omega)⟩, trivial⟩, (F_p_spec_l1Cur_state_W x0 (0 : Int) (0 : Int) r9 r9b r9c r9d r9e c0), by first | rfl | (simp [V.ren, V.renL, renF, lk]; done) | (simp [V.ren, V.renL, renF, lk]; omega), by first | rfl | (simp only [tlS]; rfl) | (simp [Tl.Obj.ren, V.ren, V.renL, renF, lk]; done), (F_p_spec_l1Cur_ahead3_W r9c r9d r9e r11 r11b r11c r11d c1), by first | rfl | (simp [V.ren, V.renL, renF, lk]; done) | (simp [V.ren, V.renL, renF, lk]; omega), by first | rfl | (simp only [tlS]; rfl) | (simp [Tl.Obj.ren, V.ren, V.renL, renF, lk]; done), by decide, by decide, trivial⟩ ⟨rfl, (WkT.refl _), (WkT.refl _), trivial⟩ rfl rfl (fun _ h => h)
theorem F_spec_DrawStateWeight_W_C (x0 : List Int) (y0 : List Int) (y1 : Int) (y2 : Int) (h : F_spec_DrawStateWeight x0 = some (y0, y1, y2)) : C Try.prog 99 [ty x0] (T.tup [T.agg [tl y0, ti y1], ti y2]) :=
  CG.toC (ps := [(List.length (List.map (T.int .i64) y0) = (List.length y0) * 1)]) (F_spec_DrawStateWeight_W  x0 y0 y1 y2 h) (by rfl) ⟨by first | rfl | (simp; done) | omega | (simp; omega) | (simp [hl]; done) | (simp [hl]; omega), trivial⟩
theorem F_spec_DrawEvenQuestion_W (x0 : List Int) (y0 : List Int) (y1 : Int) (y2 : Int) (h : F_spec_DrawEvenQuestion x0 = some (y0, y1, y2)) : CG Try.prog 27 [vy x0] [] (V.tup [V.agg [vo 9000 (List.length y0), vi y1], vi y2]) [(9000, oc 3 (List.map (T.int .i64) y0))] := by
  unfold F_spec_DrawEvenQuestion at h
  refine CG.intro (tab := tab) tab_ok (fn := Try.f27) Try.func27 (by kernel_rfl) rfl (Nat.le_of_ble_eq_true rfl) (by kernel_rfl) ?_
  obtain ⟨r5, r5b, r5c, c0, h⟩ := bnd3_some h
  simp only [Option.some.injEq, Prod.mk.injEq] at h
  obtain ⟨rfl, rfl, rfl⟩ := h
  exact WP.pathG tab_ok mixed [(2, An.id 2002), (5, An.callG [(9000, 10050)] [vy x0] [] (V.tup [V.agg [vo 9000 (List.length r5), vi r5b], vi r5c]) [(9000, oc 3 (List.map (T.int .i64) r5))])] [.keep [2, 3], .keepO [10050, 2002], .names [(10050, 9000), (2002, 2002)]] [9000] _ (r' := V.tup [V.agg [vo 9000 (List.length r5), vi r5b], vi r5c]) (ps := [(CG Try.prog 99 [vy x0] [] (V.tup [V.agg [vo 9000 (List.length r5), vi r5b], vi r5c]) [(9000, oc 3 (List.map (T.int .i64) r5))]), (WkT (ty x0) (ty x0)), ((0 + 2 ≤ 2 ∧ 2 = 2)), (0 + 2 ≤ 2)]) (r := V.tup [V.agg [vo 9000 (List.length r5), vi r5b], vi r5c]) (N := [9000, 2002]) (O := [(9000, oc 3 (List.map (T.int .i64) r5))]) [] (by kernel_rfl) ⟨(F_spec_DrawStateWeight_W x0 r5 r5b r5c c0), WkT.refl _, by decide, by decide, trivial⟩ ⟨rfl, (WkT.refl _), (WkT.refl _), trivial⟩ rfl rfl (fun _ h => h)
theorem F_spec_DrawEvenQuestion_W_C (x0 : List Int) (y0 : List Int) (y1 : Int) (y2 : Int) (h : F_spec_DrawEvenQuestion x0 = some (y0, y1, y2)) : C Try.prog 27 [ty x0] (T.tup [T.agg [tl y0, ti y1], ti y2]) :=
  CG.toC (ps := [(List.length (List.map (T.int .i64) y0) = (List.length y0) * 1)]) (F_spec_DrawEvenQuestion_W  x0 y0 y1 y2 h) (by rfl) ⟨by first | rfl | (simp; done) | omega | (simp; omega) | (simp [hl]; done) | (simp [hl]; omega), trivial⟩
theorem F_impl_EvenQuestion_W (x0 : List Int) (x1 : Int) (x2 : Int) (y0 : Int) (y1 : Bool) (h : F_impl_EvenQuestion x0 x1 x2 = some (y0, y1)) : C Try.prog 29 [T.agg [tl x0, ti x1], ti x2] (T.tup [ti y0, tb y1]) := by
  unfold F_impl_EvenQuestion at h
  refine C.intro (tab := tab) tab_ok (fn := Try.f29) Try.func29 (by kernel_rfl) rfl (Nat.le_of_ble_eq_true rfl) ?_
  refine WP.seq ?_
  refine WP.path tab_ok mixed [(2, An.fz)] [.keep [5, 4, 2, 1], .keepO []] (ps := []) (e := .normal) (σ' := ⟨[], [(5, vb false), (4, vi 0), (2, V.t (T.ptr [tl x0, ti x1])), (1, vi x2)], []⟩) (by kernel_rfl) trivial ?_
  refine WP.seq ?_
  refine WP.seq ?_
  obtain ⟨r12, c0, h⟩ := bnd1_some h
  refine WP.path tab_ok mixed [(12, An.call (tb r12))] [.keep [13, 5, 4, 2, 1], .keepO []] (ps := [(2 ≤ 2), (C Try.prog 91 [T.agg [tl x0, ti x1], ti x2] (tb r12))]) (e := .normal) (σ' := ⟨[], [(13, vb !r12), (5, vb false), (4, vi 0), (2, V.t (T.ptr [tl x0, ti x1])), (1, vi x2)], []⟩) (by kernel_rfl) ⟨by decide, (F_impl_areWeights_W x0 x1 x2 r12 c0), trivial⟩ ?_
  rcases ite_some h with ⟨h1, h⟩ | ⟨h1, h⟩
  · -- yes
    refine WP.cond (b := !r12) rfl (fun _ => ?_) (fun hh => by rw [h1] at hh; cases hh)
    simp only [Option.some.injEq, Prod.mk.injEq] at h
    obtain ⟨rfl, rfl⟩ := h
    exact WP.pathW tab_ok mixed [] _ (ps := []) (r := T.tup [ti 0, tb false]) (by kernel_rfl) trivial (WkT.eq (y := T.tup [ti 0, tb false]) (WkT.refl _) (by first | rfl | (simp only [tlS, tl, vl, vo, oc, ov, tbl, vbl, ty, vy]; done) | (simp only [tlS, tl, vl, vo, oc, ov, tbl, vbl, ty, vy]; rfl) | (simp; done) | (simp []; done) | (rw [List.take_of_length_le (by simp [])]; done) | (rw [List.take_of_length_le (by simp [])]; rfl) | (simp only [tlL]; omega) | (simp; omega))) (fun _ h => h)
  · -- no
    refine WP.cond (b := !r12) rfl (fun hh => by rw [h1] at hh; cases hh) (fun _ => ?_)
    refine WP.path tab_ok mixed [] [.keep [5, 4, 2, 1], .keepO []] (ps := []) (e := .normal) (σ' := ⟨[], [(5, vb false), (4, vi 0), (2, V.t (T.ptr [tl x0, ti x1])), (1, vi x2)], []⟩) (by kernel_rfl) trivial ?_
    refine WP.seq ?_
    obtain ⟨r16, r16b, c1, h⟩ := bnd2_some h
    obtain ⟨r17, c2, h⟩ := bnd1_some h
    refine WP.path tab_ok mixed [(16, An.call (T.agg [ti r16, ti r16b])), (17, An.call (ti r17))] [.keep [7, 6, 5, 4, 2, 1], .keepO []] (ps := [(2 ≤ 2), (C Try.prog 93 [T.agg [tl x0, ti x1], ti 0, ti x2] (T.agg [ti r16, ti r16b])), (C Try.prog 97 [T.agg [ti r16, ti r16b]] (ti r17))]) (e := .normal) (σ' := ⟨[], [(7, vi r17), (6, vi 0), (5, vb false), (4, vi 0), (2, V.t (T.ptr [tl x0, ti x1])), (1, vi x2)], []⟩) (by kernel_rfl) ⟨by decide, (F_impl_State_weights_W x0 x1 (0 : Int) x2 r16 r16b c1), (F_impl_greater_W r16 r16b r17 c2), trivial⟩ ?_
    obtain ⟨J1, hJ1, h⟩ := jn_some h
    refine WP.joinA (fun (zz : Int) => ⟨[], [(6, vi zz), (5, vb false), (4, vi 0)], []⟩) (fun zz => J1 zz = some (y0, y1)) ?_ ?_
    · -- to where they meet
      refine WP.seq ?_
      obtain ⟨c3, h⟩ := chk_some h
      refine WP.path tab_ok mixed [(21, An.v (T.int .i64 ((1 : Int) * 2 ^ Int.toNat ((List.length x0 : Nat) : Int))))] [.keep [22, 21, 7, 6, 5, 4, 2, 1], .keepO []] (ps := [(True), (0 ≤ ((List.length x0 : Nat) : Int)), (T.int .i64 (IntKind.wrap .i64 ((1 : Int) * 2 ^ (min (Int.toNat ((List.length x0 : Nat) : Int)) 64))) = T.int .i64 ((1 : Int) * 2 ^ Int.toNat ((List.length x0 : Nat) : Int)))]) (e := .normal) (σ' := ⟨[], [(22, vi 0), (21, vi ((1 : Int) * 2 ^ Int.toNat ((List.length x0 : Nat) : Int))), (7, vi r17), (6, vi 0), (5, vb false), (4, vi 0), (2, V.t (T.ptr [tl x0, ti x1])), (1, vi x2)], []⟩) (by kernel_rfl) ⟨trivial, c3.1, shl_told c3, trivial⟩ ?_
      refine WP.block ?_
      refine WP.wk [.keep [22, 21, 7, 6, 5, 4, 2, 1], .keepO [], .names []] (σ' := ⟨[], [(22, vi 0), (21, vi ((1 : Int) * 2 ^ Int.toNat ((List.length x0 : Nat) : Int))), (7, vi r17), (6, vi 0), (5, vb false), (4, vi 0), (2, V.t (T.ptr [tl x0, ti x1])), (1, vi x2)], []⟩) (ps := []) (by kernel_rfl) trivial ?_
      refine WP.st (σ' := ⟨[], [(22, vi (0 : Int)), (21, vi ((1 : Int) * 2 ^ Int.toNat ((List.length x0 : Nat) : Int))), (7, vi r17), (6, vi (0 : Int)), (5, vb false), (4, vi 0), (2, V.t (T.ptr [tl x0, ti x1])), (1, vi x2)], []⟩) (by first | rfl | (simp only [tlS, tl, vl, vo, oc, ov, tbl, vbl, ty, vy]; done) | (simp only [tlS, tl, vl, vo, oc, ov, tbl, vbl, ty, vy]; rfl) | (simp; done) | (simp []; done) | (rw [List.take_of_length_le (by simp [])]; done) | (rw [List.take_of_length_le (by simp [])]; rfl) | (simp only [tlL]; omega) | (simp; omega)) ?_
      refine WP.loop (α := Nat × Int × Int × Int) (fun zz => ⟨[], [(22, vi zz.2.1), (21, vi ((1 : Int) * 2 ^ Int.toNat ((List.length x0 : Nat) : Int))), (7, vi zz.2.2.1), (6, vi zz.2.2.2), (5, vb false), (4, vi 0), (2, V.t (T.ptr [tl x0, ti x1])), (1, vi x2)], []⟩) (fun zz => F_impl_EvenQuestion_L1 x0 x1 x2 J1 zz.1 zz.2.1 zz.2.2.1 zz.2.2.2 = some (y0, y1)) (fun zz => zz.1) (fuel, (0 : Int), r17, (0 : Int)) h ?_
      rintro ⟨n, v22, v7, v6⟩ h0
      have h := (show F_impl_EvenQuestion_L1 x0 x1 x2 J1 n v22 v7 v6 = some (y0, y1) from h0)
      rcases n with _ | n
      · rw [F_impl_EvenQuestion_L1] at h; cases h
      · rw [F_impl_EvenQuestion_L1] at h
        refine WP.seq ?_
        refine WP.path tab_ok mixed [] [.keep [23, 22, 21, 7, 6, 5, 4, 2, 1], .keepO []] (ps := [(True)]) (e := .normal) (σ' := ⟨[], [(23, vb (decide (v22 < ((1 : Int) * 2 ^ Int.toNat ((List.length x0 : Nat) : Int))))), (22, vi v22), (21, vi ((1 : Int) * 2 ^ Int.toNat ((List.length x0 : Nat) : Int))), (7, vi v7), (6, vi v6), (5, vb false), (4, vi 0), (2, V.t (T.ptr [tl x0, ti x1])), (1, vi x2)], []⟩) (by kernel_rfl) ⟨trivial, trivial⟩ ?_
        refine WP.seq ?_
        rcases ite_some h with ⟨h2, h⟩ | ⟨h2, h⟩
        · -- yes
          refine WP.cond (b := decide (v22 < ((1 : Int) * 2 ^ Int.toNat ((List.length x0 : Nat) : Int)))) rfl (fun _ => ?_) (fun hh => by rw [h2] at hh; cases hh)
          refine WP.path tab_ok mixed [] [.keep [22, 21, 7, 6, 5, 4, 2, 1], .keepO []] (ps := []) (e := .normal) (σ' := ⟨[], [(22, vi v22), (21, vi ((1 : Int) * 2 ^ Int.toNat ((List.length x0 : Nat) : Int))), (7, vi v7), (6, vi v6), (5, vb false), (4, vi 0), (2, V.t (T.ptr [tl x0, ti x1])), (1, vi x2)], []⟩) (by kernel_rfl) trivial ?_
          refine WP.seq ?_
          refine WP.block ?_
          refine WP.seq ?_
          refine WP.path tab_ok mixed [] [.keep [8, 22, 21, 7, 6, 5, 4, 2, 1], .keepO []] (ps := []) (e := .normal) (σ' := ⟨[], [(8, vi v22), (22, vi v22), (21, vi ((1 : Int) * 2 ^ Int.toNat ((List.length x0 : Nat) : Int))), (7, vi v7), (6, vi v6), (5, vb false), (4, vi 0), (2, V.t (T.ptr [tl x0, ti x1])), (1, vi x2)], []⟩) (by kernel_rfl) trivial ?_
          refine WP.seq ?_
          obtain ⟨r28, r28b, c4, h⟩ := bnd2_some h
          obtain ⟨r29, c5, h⟩ := bnd1_some h
          refine WP.path tab_ok mixed [(28, An.call (T.agg [ti r28, ti r28b])), (29, An.call (ti r29))] [.keep [9, 8, 22, 21, 7, 6, 5, 4, 2, 1], .keepO []] (ps := [(2 ≤ 2), (C Try.prog 93 [T.agg [tl x0, ti x1], ti v22, ti x2] (T.agg [ti r28, ti r28b])), (C Try.prog 97 [T.agg [ti r28, ti r28b]] (ti r29))]) (e := .normal) (σ' := ⟨[], [(9, vi r29), (8, vi v22), (22, vi v22), (21, vi ((1 : Int) * 2 ^ Int.toNat ((List.length x0 : Nat) : Int))), (7, vi v7), (6, vi v6), (5, vb false), (4, vi 0), (2, V.t (T.ptr [tl x0, ti x1])), (1, vi x2)], []⟩) (by kernel_rfl) ⟨by decide, (F_impl_State_weights_W x0 x1 v22 x2 r28 r28b c4), (F_impl_greater_W r28 r28b r29 c5), trivial⟩ ?_
          refine WP.seq ?_
          refine WP.path tab_ok mixed [] [.keep [32, 9, 8, 22, 21, 7, 6, 5, 4, 2, 1], .keepO []] (ps := [(True)]) (e := .normal) (σ' := ⟨[], [(32, vb (decide (r29 < v7))), (9, vi r29), (8, vi v22), (22, vi v22), (21, vi ((1 : Int) * 2 ^ Int.toNat ((List.length x0 : Nat) : Int))), (7, vi v7), (6, vi v6), (5, vb false), (4, vi 0), (2, V.t (T.ptr [tl x0, ti x1])), (1, vi x2)], []⟩) (by kernel_rfl) ⟨trivial, trivial⟩ ?_
          rcases ite_some h with ⟨h3, h⟩ | ⟨h3, h⟩
          · -- yes
            refine WP.cond (b := decide (r29 < v7)) rfl (fun _ => ?_) (fun hh => by rw [h3] at hh; cases hh)
            refine WP.path tab_ok mixed [] [.keep [7, 6, 22, 21, 5, 4, 2, 1], .keepO []] (ps := []) (e := .normal) (σ' := ⟨[], [(7, vi r29), (6, vi v22), (22, vi v22), (21, vi ((1 : Int) * 2 ^ Int.toNat ((List.length x0 : Nat) : Int))), (5, vb false), (4, vi 0), (2, V.t (T.ptr [tl x0, ti x1])), (1, vi x2)], []⟩) (by kernel_rfl) trivial ?_
            obtain ⟨c6, h⟩ := chk_some h
            refine WP.path tab_ok mixed [(35, An.v (T.int .i64 (v22 + (1 : Int))))] [.keep [22, 21, 7, 6, 5, 4, 2, 1], .keepO [], .names []] (ps := [(True), (T.int .i64 (IntKind.wrap .i64 (v22 + (1 : Int))) = T.int .i64 (v22 + (1 : Int)))]) (e := .normal) (σ' := ⟨[], [(22, vi (v22 + (1 : Int))), (21, vi ((1 : Int) * 2 ^ Int.toNat ((List.length x0 : Nat) : Int))), (7, vi r29), (6, vi v22), (5, vb false), (4, vi 0), (2, V.t (T.ptr [tl x0, ti x1])), (1, vi x2)], []⟩) (by kernel_rfl) ⟨trivial, wrapI c6, trivial⟩ ?_
            exact ⟨(n, (v22 + (1 : Int)), r29, v22), h, Nat.lt_succ_self _, rfl⟩
          · -- no
            refine WP.cond (b := decide (r29 < v7)) rfl (fun hh => by rw [h3] at hh; cases hh) (fun _ => ?_)
            refine WP.path tab_ok mixed [] [.keep [22, 21, 7, 6, 5, 4, 2, 1], .keepO []] (ps := []) (e := .normal) (σ' := ⟨[], [(22, vi v22), (21, vi ((1 : Int) * 2 ^ Int.toNat ((List.length x0 : Nat) : Int))), (7, vi v7), (6, vi v6), (5, vb false), (4, vi 0), (2, V.t (T.ptr [tl x0, ti x1])), (1, vi x2)], []⟩) (by kernel_rfl) trivial ?_
            obtain ⟨c6, h⟩ := chk_some h
            refine WP.path tab_ok mixed [(35, An.v (T.int .i64 (v22 + (1 : Int))))] [.keep [22, 21, 7, 6, 5, 4, 2, 1], .keepO [], .names []] (ps := [(True), (T.int .i64 (IntKind.wrap .i64 (v22 + (1 : Int))) = T.int .i64 (v22 + (1 : Int)))]) (e := .normal) (σ' := ⟨[], [(22, vi (v22 + (1 : Int))), (21, vi ((1 : Int) * 2 ^ Int.toNat ((List.length x0 : Nat) : Int))), (7, vi v7), (6, vi v6), (5, vb false), (4, vi 0), (2, V.t (T.ptr [tl x0, ti x1])), (1, vi x2)], []⟩) (by kernel_rfl) ⟨trivial, wrapI c6, trivial⟩ ?_
            exact ⟨(n, (v22 + (1 : Int)), v7, v6), h, Nat.lt_succ_self _, rfl⟩
        · -- no
          refine WP.cond (b := decide (v22 < ((1 : Int) * 2 ^ Int.toNat ((List.length x0 : Nat) : Int)))) rfl (fun hh => by rw [h2] at hh; cases hh) (fun _ => ?_)
          refine WP.path tab_ok mixed [] [.keep [6, 5, 4], .keepO [], .names []] (ps := []) (e := (.exit 0)) (σ' := ⟨[], [(6, vi v6), (5, vb false), (4, vi 0)], []⟩) (by kernel_rfl) trivial ?_
          exact ⟨(v6), h, rfl⟩
    · -- from there
      intro v6 h0
      have h := (show J1 v6 = some (y0, y1) from h0)
      rw [hJ1] at h
      simp only [Option.some.injEq, Prod.mk.injEq] at h
      obtain ⟨rfl, rfl⟩ := h
      exact WP.pathW tab_ok mixed [] _ (ps := []) (r := T.tup [ti v6, tb true]) (by kernel_rfl) trivial (WkT.eq (y := T.tup [ti v6, tb true]) (WkT.refl _) rfl) (fun _ h => h)
theorem F_spec_EvenQuestion_W (x0 : List Int) (x1 : Int) (x2 : Int) (y0 : Int) (y1 : Bool) (h : F_spec_EvenQuestion x0 x1 x2 = some (y0, y1)) : C Try.prog 30 [T.agg [tl x0, ti x1], ti x2] (T.tup [ti y0, tb y1]) := by
  unfold F_spec_EvenQuestion at h
  refine C.intro (tab := tab) tab_ok (fn := Try.f30) Try.func30 (by kernel_rfl) rfl (Nat.le_of_ble_eq_true rfl) ?_
  refine WP.seq ?_
  refine WP.path tab_ok mixed [(2, An.fz)] [.keep [5, 4, 2, 1], .keepO []] (ps := []) (e := .normal) (σ' := ⟨[], [(5, vb false), (4, vi 0), (2, V.t (T.ptr [tl x0, ti x1])), (1, vi x2)], []⟩) (by kernel_rfl) trivial ?_
  refine WP.seq ?_
  refine WP.seq ?_
  obtain ⟨r12, c0, h⟩ := bnd1_some h
  refine WP.path tab_ok mixed [(12, An.call (tb r12))] [.keep [13, 5, 4, 2, 1], .keepO []] (ps := [(2 ≤ 2), (C Try.prog 94 [T.agg [tl x0, ti x1], ti x2] (tb r12))]) (e := .normal) (σ' := ⟨[], [(13, vb !r12), (5, vb false), (4, vi 0), (2, V.t (T.ptr [tl x0, ti x1])), (1, vi x2)], []⟩) (by kernel_rfl) ⟨by decide, (F_spec_l3Asks_W x0 x1 x2 r12 c0), trivial⟩ ?_
  rcases ite_some h with ⟨h1, h⟩ | ⟨h1, h⟩
  · -- yes
    refine WP.cond (b := !r12) rfl (fun _ => ?_) (fun hh => by rw [h1] at hh; cases hh)
    simp only [Option.some.injEq, Prod.mk.injEq] at h
    obtain ⟨rfl, rfl⟩ := h
    exact WP.pathW tab_ok mixed [] _ (ps := []) (r := T.tup [ti 0, tb false]) (by kernel_rfl) trivial (WkT.eq (y := T.tup [ti 0, tb false]) (WkT.refl _) (by first | rfl | (simp only [tlS, tl, vl, vo, oc, ov, tbl, vbl, ty, vy]; done) | (simp only [tlS, tl, vl, vo, oc, ov, tbl, vbl, ty, vy]; rfl) | (simp; done) | (simp []; done) | (rw [List.take_of_length_le (by simp [])]; done) | (rw [List.take_of_length_le (by simp [])]; rfl) | (simp only [tlL]; omega) | (simp; omega))) (fun _ h => h)
  · -- no
    refine WP.cond (b := !r12) rfl (fun hh => by rw [h1] at hh; cases hh) (fun _ => ?_)
    refine WP.path tab_ok mixed [] [.keep [5, 4, 2, 1], .keepO []] (ps := []) (e := .normal) (σ' := ⟨[], [(5, vb false), (4, vi 0), (2, V.t (T.ptr [tl x0, ti x1])), (1, vi x2)], []⟩) (by kernel_rfl) trivial ?_
    refine WP.seq ?_
    obtain ⟨r16, c1, h⟩ := bnd1_some h
    refine WP.path tab_ok mixed [(16, An.call (ti r16))] [.keep [7, 6, 5, 4, 2, 1], .keepO []] (ps := [(2 ≤ 2), (C Try.prog 98 [T.agg [tl x0, ti x1], ti 0, ti x2] (ti r16))]) (e := .normal) (σ' := ⟨[], [(7, vi r16), (6, vi 0), (5, vb false), (4, vi 0), (2, V.t (T.ptr [tl x0, ti x1])), (1, vi x2)], []⟩) (by kernel_rfl) ⟨by decide, (F_spec_l3Most_W x0 x1 (0 : Int) x2 r16 c1), trivial⟩ ?_
    obtain ⟨J1, hJ1, h⟩ := jn_some h
    refine WP.joinA (fun (zz : Int) => ⟨[], [(6, vi zz), (5, vb false), (4, vi 0)], []⟩) (fun zz => J1 zz = some (y0, y1)) ?_ ?_
    · -- to where they meet
      refine WP.seq ?_
      refine WP.path tab_ok mixed [] [.keep [8, 7, 6, 5, 4, 2, 1], .keepO []] (ps := []) (e := .normal) (σ' := ⟨[], [(8, vi 1), (7, vi r16), (6, vi 0), (5, vb false), (4, vi 0), (2, V.t (T.ptr [tl x0, ti x1])), (1, vi x2)], []⟩) (by kernel_rfl) trivial ?_
      refine WP.block ?_
      refine WP.wk [.keep [8, 7, 6, 5, 4, 2, 1], .keepO [], .names []] (σ' := ⟨[], [(8, vi 1), (7, vi r16), (6, vi 0), (5, vb false), (4, vi 0), (2, V.t (T.ptr [tl x0, ti x1])), (1, vi x2)], []⟩) (ps := []) (by kernel_rfl) trivial ?_
      refine WP.st (σ' := ⟨[], [(8, vi (1 : Int)), (7, vi r16), (6, vi (0 : Int)), (5, vb false), (4, vi 0), (2, V.t (T.ptr [tl x0, ti x1])), (1, vi x2)], []⟩) (by first | rfl | (simp only [tlS, tl, vl, vo, oc, ov, tbl, vbl, ty, vy]; done) | (simp only [tlS, tl, vl, vo, oc, ov, tbl, vbl, ty, vy]; rfl) | (simp; done) | (simp []; done) | (rw [List.take_of_length_le (by simp [])]; done) | (rw [List.take_of_length_le (by simp [])]; rfl) | (simp only [tlL]; omega) | (simp; omega)) ?_
      refine WP.loop (α := Nat × Int × Int × Int) (fun zz => ⟨[], [(8, vi zz.2.1), (7, vi zz.2.2.1), (6, vi zz.2.2.2), (5, vb false), (4, vi 0), (2, V.t (T.ptr [tl x0, ti x1])), (1, vi x2)], []⟩) (fun zz => F_spec_EvenQuestion_L1 x0 x1 x2 J1 zz.1 zz.2.1 zz.2.2.1 zz.2.2.2 = some (y0, y1)) (fun zz => zz.1) (fuel, (1 : Int), r16, (0 : Int)) h ?_
      rintro ⟨n, v8, v7, v6⟩ h0
      have h := (show F_spec_EvenQuestion_L1 x0 x1 x2 J1 n v8 v7 v6 = some (y0, y1) from h0)
      rcases n with _ | n
      · rw [F_spec_EvenQuestion_L1] at h; cases h
      · rw [F_spec_EvenQuestion_L1] at h
        refine WP.seq ?_
        refine WP.seq ?_
        obtain ⟨c2, h⟩ := chk_some h
        refine WP.path tab_ok mixed [(21, An.v (T.int .i64 ((1 : Int) * 2 ^ Int.toNat ((List.length x0 : Nat) : Int))))] [.keep [22, 8, 7, 6, 5, 4, 2, 1], .keepO []] (ps := [(True), (0 ≤ ((List.length x0 : Nat) : Int)), (T.int .i64 (IntKind.wrap .i64 ((1 : Int) * 2 ^ (min (Int.toNat ((List.length x0 : Nat) : Int)) 64))) = T.int .i64 ((1 : Int) * 2 ^ Int.toNat ((List.length x0 : Nat) : Int))), (True)]) (e := .normal) (σ' := ⟨[], [(22, vb (decide (v8 < ((1 : Int) * 2 ^ Int.toNat ((List.length x0 : Nat) : Int))))), (8, vi v8), (7, vi v7), (6, vi v6), (5, vb false), (4, vi 0), (2, V.t (T.ptr [tl x0, ti x1])), (1, vi x2)], []⟩) (by kernel_rfl) ⟨trivial, c2.1, shl_told c2, trivial, trivial⟩ ?_
        rcases ite_some h with ⟨h2, h⟩ | ⟨h2, h⟩
        · -- yes
          refine WP.cond (b := decide (v8 < ((1 : Int) * 2 ^ Int.toNat ((List.length x0 : Nat) : Int)))) rfl (fun _ => ?_) (fun hh => by rw [h2] at hh; cases hh)
          refine WP.path tab_ok mixed [] [.keep [8, 7, 6, 5, 4, 2, 1], .keepO []] (ps := []) (e := .normal) (σ' := ⟨[], [(8, vi v8), (7, vi v7), (6, vi v6), (5, vb false), (4, vi 0), (2, V.t (T.ptr [tl x0, ti x1])), (1, vi x2)], []⟩) (by kernel_rfl) trivial ?_
          refine WP.seq ?_
          refine WP.block ?_
          refine WP.seq ?_
          obtain ⟨r28, c3, h⟩ := bnd1_some h
          refine WP.path tab_ok mixed [(28, An.call (ti r28))] [.keep [9, 8, 7, 6, 5, 4, 2, 1], .keepO []] (ps := [(2 ≤ 2), (C Try.prog 98 [T.agg [tl x0, ti x1], ti v8, ti x2] (ti r28))]) (e := .normal) (σ' := ⟨[], [(9, vi r28), (8, vi v8), (7, vi v7), (6, vi v6), (5, vb false), (4, vi 0), (2, V.t (T.ptr [tl x0, ti x1])), (1, vi x2)], []⟩) (by kernel_rfl) ⟨by decide, (F_spec_l3Most_W x0 x1 v8 x2 r28 c3), trivial⟩ ?_
          refine WP.seq ?_
          refine WP.path tab_ok mixed [] [.keep [31, 9, 8, 7, 6, 5, 4, 2, 1], .keepO []] (ps := [(True)]) (e := .normal) (σ' := ⟨[], [(31, vb (decide (r28 < v7))), (9, vi r28), (8, vi v8), (7, vi v7), (6, vi v6), (5, vb false), (4, vi 0), (2, V.t (T.ptr [tl x0, ti x1])), (1, vi x2)], []⟩) (by kernel_rfl) ⟨trivial, trivial⟩ ?_
          rcases ite_some h with ⟨h3, h⟩ | ⟨h3, h⟩
          · -- yes
            refine WP.cond (b := decide (r28 < v7)) rfl (fun _ => ?_) (fun hh => by rw [h3] at hh; cases hh)
            refine WP.path tab_ok mixed [] [.keep [7, 6, 8, 5, 4, 2, 1], .keepO []] (ps := []) (e := .normal) (σ' := ⟨[], [(7, vi r28), (6, vi v8), (8, vi v8), (5, vb false), (4, vi 0), (2, V.t (T.ptr [tl x0, ti x1])), (1, vi x2)], []⟩) (by kernel_rfl) trivial ?_
            obtain ⟨c4, h⟩ := chk_some h
            refine WP.path tab_ok mixed [(24, An.v (T.int .i64 (v8 + (1 : Int))))] [.keep [8, 7, 6, 5, 4, 2, 1], .keepO [], .names []] (ps := [(True), (T.int .i64 (IntKind.wrap .i64 (v8 + (1 : Int))) = T.int .i64 (v8 + (1 : Int)))]) (e := .normal) (σ' := ⟨[], [(8, vi (v8 + (1 : Int))), (7, vi r28), (6, vi v8), (5, vb false), (4, vi 0), (2, V.t (T.ptr [tl x0, ti x1])), (1, vi x2)], []⟩) (by kernel_rfl) ⟨trivial, wrapI c4, trivial⟩ ?_
            exact ⟨(n, (v8 + (1 : Int)), r28, v8), h, Nat.lt_succ_self _, rfl⟩
          · -- no
            refine WP.cond (b := decide (r28 < v7)) rfl (fun hh => by rw [h3] at hh; cases hh) (fun _ => ?_)
            refine WP.path tab_ok mixed [] [.keep [8, 7, 6, 5, 4, 2, 1], .keepO []] (ps := []) (e := .normal) (σ' := ⟨[], [(8, vi v8), (7, vi v7), (6, vi v6), (5, vb false), (4, vi 0), (2, V.t (T.ptr [tl x0, ti x1])), (1, vi x2)], []⟩) (by kernel_rfl) trivial ?_
            obtain ⟨c4, h⟩ := chk_some h
            refine WP.path tab_ok mixed [(24, An.v (T.int .i64 (v8 + (1 : Int))))] [.keep [8, 7, 6, 5, 4, 2, 1], .keepO [], .names []] (ps := [(True), (T.int .i64 (IntKind.wrap .i64 (v8 + (1 : Int))) = T.int .i64 (v8 + (1 : Int)))]) (e := .normal) (σ' := ⟨[], [(8, vi (v8 + (1 : Int))), (7, vi v7), (6, vi v6), (5, vb false), (4, vi 0), (2, V.t (T.ptr [tl x0, ti x1])), (1, vi x2)], []⟩) (by kernel_rfl) ⟨trivial, wrapI c4, trivial⟩ ?_
            exact ⟨(n, (v8 + (1 : Int)), v7, v6), h, Nat.lt_succ_self _, rfl⟩
        · -- no
          refine WP.cond (b := decide (v8 < ((1 : Int) * 2 ^ Int.toNat ((List.length x0 : Nat) : Int)))) rfl (fun hh => by rw [h2] at hh; cases hh) (fun _ => ?_)
          refine WP.path tab_ok mixed [] [.keep [6, 5, 4], .keepO [], .names []] (ps := []) (e := (.exit 0)) (σ' := ⟨[], [(6, vi v6), (5, vb false), (4, vi 0)], []⟩) (by kernel_rfl) trivial ?_
          exact ⟨(v6), h, rfl⟩
    · -- from there
      intro v6 h0
      have h := (show J1 v6 = some (y0, y1) from h0)
      rw [hJ1] at h
      simp only [Option.some.injEq, Prod.mk.injEq] at h
      obtain ⟨rfl, rfl⟩ := h
      exact WP.pathW tab_ok mixed [] _ (ps := []) (r := T.tup [ti v6, tb true]) (by kernel_rfl) trivial (WkT.eq (y := T.tup [ti v6, tb true]) (WkT.refl _) rfl) (fun _ h => h)
theorem F_impl_CountBalanced_W (x0 : List Int) (x1 : Int) (x2 : Int) (y0 : Int) (y1 : Bool) (h : F_impl_CountBalanced x0 x1 x2 = some (y0, y1)) : C Try.prog 31 [T.agg [tl x0, ti x1], ti x2] (T.tup [ti y0, tb y1]) := by
  unfold F_impl_CountBalanced at h
  refine C.intro (tab := tab) tab_ok (fn := Try.f31) Try.func31 (by kernel_rfl) rfl (Nat.le_of_ble_eq_true rfl) ?_
  refine WP.seq ?_
  refine WP.path tab_ok mixed [(2, An.fz)] [.keep [5, 4, 2, 1], .keepO []] (ps := []) (e := .normal) (σ' := ⟨[], [(5, vb false), (4, vi 0), (2, V.t (T.ptr [tl x0, ti x1])), (1, vi x2)], []⟩) (by kernel_rfl) trivial ?_
  refine WP.seq ?_
  refine WP.seq ?_
  obtain ⟨r10, c0, h⟩ := bnd1_some h
  refine WP.path tab_ok mixed [(10, An.call (tb r10))] [.keep [11, 5, 4, 2, 1], .keepO []] (ps := [(2 ≤ 2), (C Try.prog 91 [T.agg [tl x0, ti x1], ti x2] (tb r10))]) (e := .normal) (σ' := ⟨[], [(11, vb !r10), (5, vb false), (4, vi 0), (2, V.t (T.ptr [tl x0, ti x1])), (1, vi x2)], []⟩) (by kernel_rfl) ⟨by decide, (F_impl_areWeights_W x0 x1 x2 r10 c0), trivial⟩ ?_
  rcases ite_some h with ⟨h1, h⟩ | ⟨h1, h⟩
  · -- yes
    refine WP.cond (b := !r10) rfl (fun _ => ?_) (fun hh => by rw [h1] at hh; cases hh)
    simp only [Option.some.injEq, Prod.mk.injEq] at h
    obtain ⟨rfl, rfl⟩ := h
    exact WP.pathW tab_ok mixed [] _ (ps := []) (r := T.tup [ti 0, tb false]) (by kernel_rfl) trivial (WkT.eq (y := T.tup [ti 0, tb false]) (WkT.refl _) (by first | rfl | (simp only [tlS, tl, vl, vo, oc, ov, tbl, vbl, ty, vy]; done) | (simp only [tlS, tl, vl, vo, oc, ov, tbl, vbl, ty, vy]; rfl) | (simp; done) | (simp []; done) | (rw [List.take_of_length_le (by simp [])]; done) | (rw [List.take_of_length_le (by simp [])]; rfl) | (simp only [tlL]; omega) | (simp; omega))) (fun _ h => h)
  · -- no
    refine WP.cond (b := !r10) rfl (fun hh => by rw [h1] at hh; cases hh) (fun _ => ?_)
    refine WP.path tab_ok mixed [] [.keep [5, 4, 2, 1], .keepO []] (ps := []) (e := .normal) (σ' := ⟨[], [(5, vb false), (4, vi 0), (2, V.t (T.ptr [tl x0, ti x1])), (1, vi x2)], []⟩) (by kernel_rfl) trivial ?_
    refine WP.seq ?_
    refine WP.path tab_ok mixed [] [.keep [6, 5, 4, 2, 1], .keepO []] (ps := []) (e := .normal) (σ' := ⟨[], [(6, vi 0), (5, vb false), (4, vi 0), (2, V.t (T.ptr [tl x0, ti x1])), (1, vi x2)], []⟩) (by kernel_rfl) trivial ?_
    obtain ⟨J1, hJ1, h⟩ := jn_some h
    refine WP.joinA (fun (zz : Int) => ⟨[], [(6, vi zz), (5, vb false), (4, vi 0)], []⟩) (fun zz => J1 zz = some (y0, y1)) ?_ ?_
    · -- to where they meet
      refine WP.seq ?_
      obtain ⟨c1, h⟩ := chk_some h
      refine WP.path tab_ok mixed [(15, An.v (T.int .i64 ((1 : Int) * 2 ^ Int.toNat ((List.length x0 : Nat) : Int))))] [.keep [16, 15, 6, 5, 4, 2, 1], .keepO []] (ps := [(True), (0 ≤ ((List.length x0 : Nat) : Int)), (T.int .i64 (IntKind.wrap .i64 ((1 : Int) * 2 ^ (min (Int.toNat ((List.length x0 : Nat) : Int)) 64))) = T.int .i64 ((1 : Int) * 2 ^ Int.toNat ((List.length x0 : Nat) : Int)))]) (e := .normal) (σ' := ⟨[], [(16, vi 0), (15, vi ((1 : Int) * 2 ^ Int.toNat ((List.length x0 : Nat) : Int))), (6, vi 0), (5, vb false), (4, vi 0), (2, V.t (T.ptr [tl x0, ti x1])), (1, vi x2)], []⟩) (by kernel_rfl) ⟨trivial, c1.1, shl_told c1, trivial⟩ ?_
      refine WP.block ?_
      refine WP.wk [.keep [16, 15, 6, 5, 4, 2, 1], .keepO [], .names []] (σ' := ⟨[], [(16, vi 0), (15, vi ((1 : Int) * 2 ^ Int.toNat ((List.length x0 : Nat) : Int))), (6, vi 0), (5, vb false), (4, vi 0), (2, V.t (T.ptr [tl x0, ti x1])), (1, vi x2)], []⟩) (ps := []) (by kernel_rfl) trivial ?_
      refine WP.st (σ' := ⟨[], [(16, vi (0 : Int)), (15, vi ((1 : Int) * 2 ^ Int.toNat ((List.length x0 : Nat) : Int))), (6, vi (0 : Int)), (5, vb false), (4, vi 0), (2, V.t (T.ptr [tl x0, ti x1])), (1, vi x2)], []⟩) (by first | rfl | (simp only [tlS, tl, vl, vo, oc, ov, tbl, vbl, ty, vy]; done) | (simp only [tlS, tl, vl, vo, oc, ov, tbl, vbl, ty, vy]; rfl) | (simp; done) | (simp []; done) | (rw [List.take_of_length_le (by simp [])]; done) | (rw [List.take_of_length_le (by simp [])]; rfl) | (simp only [tlL]; omega) | (simp; omega)) ?_
      refine WP.loop (α := Nat × Int × Int) (fun zz => ⟨[], [(16, vi zz.2.1), (15, vi ((1 : Int) * 2 ^ Int.toNat ((List.length x0 : Nat) : Int))), (6, vi zz.2.2), (5, vb false), (4, vi 0), (2, V.t (T.ptr [tl x0, ti x1])), (1, vi x2)], []⟩) (fun zz => F_impl_CountBalanced_L1 x0 x1 x2 J1 zz.1 zz.2.1 zz.2.2 = some (y0, y1)) (fun zz => zz.1) (fuel, (0 : Int), (0 : Int)) h ?_
      rintro ⟨n, v16, v6⟩ h0
      have h := (show F_impl_CountBalanced_L1 x0 x1 x2 J1 n v16 v6 = some (y0, y1) from h0)
      rcases n with _ | n
      · rw [F_impl_CountBalanced_L1] at h; cases h
      · rw [F_impl_CountBalanced_L1] at h
        refine WP.seq ?_
        refine WP.path tab_ok mixed [] [.keep [17, 16, 15, 6, 5, 4, 2, 1], .keepO []] (ps := [(True)]) (e := .normal) (σ' := ⟨[], [(17, vb (decide (v16 < ((1 : Int) * 2 ^ Int.toNat ((List.length x0 : Nat) : Int))))), (16, vi v16), (15, vi ((1 : Int) * 2 ^ Int.toNat ((List.length x0 : Nat) : Int))), (6, vi v6), (5, vb false), (4, vi 0), (2, V.t (T.ptr [tl x0, ti x1])), (1, vi x2)], []⟩) (by kernel_rfl) ⟨trivial, trivial⟩ ?_
        refine WP.seq ?_
        rcases ite_some h with ⟨h2, h⟩ | ⟨h2, h⟩
        · -- yes
          refine WP.cond (b := decide (v16 < ((1 : Int) * 2 ^ Int.toNat ((List.length x0 : Nat) : Int)))) rfl (fun _ => ?_) (fun hh => by rw [h2] at hh; cases hh)
          refine WP.path tab_ok mixed [] [.keep [16, 15, 6, 5, 4, 2, 1], .keepO []] (ps := []) (e := .normal) (σ' := ⟨[], [(16, vi v16), (15, vi ((1 : Int) * 2 ^ Int.toNat ((List.length x0 : Nat) : Int))), (6, vi v6), (5, vb false), (4, vi 0), (2, V.t (T.ptr [tl x0, ti x1])), (1, vi x2)], []⟩) (by kernel_rfl) trivial ?_
          refine WP.seq ?_
          refine WP.block ?_
          refine WP.seq ?_
          refine WP.path tab_ok mixed [] [.keep [7, 16, 15, 6, 5, 4, 2, 1], .keepO []] (ps := []) (e := .normal) (σ' := ⟨[], [(7, vi v16), (16, vi v16), (15, vi ((1 : Int) * 2 ^ Int.toNat ((List.length x0 : Nat) : Int))), (6, vi v6), (5, vb false), (4, vi 0), (2, V.t (T.ptr [tl x0, ti x1])), (1, vi x2)], []⟩) (by kernel_rfl) trivial ?_
          refine WP.seq ?_
          obtain ⟨r22, r22b, c2, h⟩ := bnd2_some h
          obtain ⟨r23, c3, h⟩ := bnd1_some h
          obtain ⟨c4, h⟩ := chk_some h
          obtain ⟨c5, h⟩ := chk_some h
          refine WP.path tab_ok mixed [(22, An.call (T.agg [ti r22, ti r22b])), (23, An.call (ti r23)), (25, An.v (T.int .i64 (x2 - (1 : Int)))), (26, An.v (T.int .i64 ((1 : Int) * 2 ^ Int.toNat (x2 - (1 : Int)))))] [.keep [27, 16, 15, 6, 5, 4, 2, 1], .keepO []] (ps := [(2 ≤ 2), (C Try.prog 93 [T.agg [tl x0, ti x1], ti v16, ti x2] (T.agg [ti r22, ti r22b])), (C Try.prog 97 [T.agg [ti r22, ti r22b]] (ti r23)), (True), (T.int .i64 (IntKind.wrap .i64 (x2 - (1 : Int))) = T.int .i64 (x2 - (1 : Int))), (0 ≤ (x2 - (1 : Int))), (T.int .i64 (IntKind.wrap .i64 ((1 : Int) * 2 ^ (min (Int.toNat (x2 - (1 : Int))) 64))) = T.int .i64 ((1 : Int) * 2 ^ Int.toNat (x2 - (1 : Int)))), (True)]) (e := .normal) (σ' := ⟨[], [(27, vb (decide (r23 ≤ ((1 : Int) * 2 ^ Int.toNat (x2 - (1 : Int)))))), (16, vi v16), (15, vi ((1 : Int) * 2 ^ Int.toNat ((List.length x0 : Nat) : Int))), (6, vi v6), (5, vb false), (4, vi 0), (2, V.t (T.ptr [tl x0, ti x1])), (1, vi x2)], []⟩) (by kernel_rfl) ⟨by decide, (F_impl_State_weights_W x0 x1 v16 x2 r22 r22b c2), (F_impl_greater_W r22 r22b r23 c3), trivial, wrapI c4, c5.1, shl_told c5, trivial, trivial⟩ ?_
          rcases ite_some h with ⟨h3, h⟩ | ⟨h3, h⟩
          · -- yes
            refine WP.cond (b := decide (r23 ≤ ((1 : Int) * 2 ^ Int.toNat (x2 - (1 : Int))))) rfl (fun _ => ?_) (fun hh => by rw [h3] at hh; cases hh)
            obtain ⟨c6, h⟩ := chk_some h
            refine WP.path tab_ok mixed [(29, An.v (T.int .i64 (v6 + (1 : Int))))] [.keep [6, 16, 15, 5, 4, 2, 1], .keepO []] (ps := [(True), (T.int .i64 (IntKind.wrap .i64 (v6 + (1 : Int))) = T.int .i64 (v6 + (1 : Int)))]) (e := .normal) (σ' := ⟨[], [(6, vi (v6 + (1 : Int))), (16, vi v16), (15, vi ((1 : Int) * 2 ^ Int.toNat ((List.length x0 : Nat) : Int))), (5, vb false), (4, vi 0), (2, V.t (T.ptr [tl x0, ti x1])), (1, vi x2)], []⟩) (by kernel_rfl) ⟨trivial, wrapI c6, trivial⟩ ?_
            obtain ⟨c7, h⟩ := chk_some h
            refine WP.path tab_ok mixed [(30, An.v (T.int .i64 (v16 + (1 : Int))))] [.keep [16, 15, 6, 5, 4, 2, 1], .keepO [], .names []] (ps := [(True), (T.int .i64 (IntKind.wrap .i64 (v16 + (1 : Int))) = T.int .i64 (v16 + (1 : Int)))]) (e := .normal) (σ' := ⟨[], [(16, vi (v16 + (1 : Int))), (15, vi ((1 : Int) * 2 ^ Int.toNat ((List.length x0 : Nat) : Int))), (6, vi (v6 + (1 : Int))), (5, vb false), (4, vi 0), (2, V.t (T.ptr [tl x0, ti x1])), (1, vi x2)], []⟩) (by kernel_rfl) ⟨trivial, wrapI c7, trivial⟩ ?_
            exact ⟨(n, (v16 + (1 : Int)), (v6 + (1 : Int))), h, Nat.lt_succ_self _, rfl⟩
          · -- no
            refine WP.cond (b := decide (r23 ≤ ((1 : Int) * 2 ^ Int.toNat (x2 - (1 : Int))))) rfl (fun hh => by rw [h3] at hh; cases hh) (fun _ => ?_)
            refine WP.path tab_ok mixed [] [.keep [16, 15, 6, 5, 4, 2, 1], .keepO []] (ps := []) (e := .normal) (σ' := ⟨[], [(16, vi v16), (15, vi ((1 : Int) * 2 ^ Int.toNat ((List.length x0 : Nat) : Int))), (6, vi v6), (5, vb false), (4, vi 0), (2, V.t (T.ptr [tl x0, ti x1])), (1, vi x2)], []⟩) (by kernel_rfl) trivial ?_
            obtain ⟨c6, h⟩ := chk_some h
            refine WP.path tab_ok mixed [(30, An.v (T.int .i64 (v16 + (1 : Int))))] [.keep [16, 15, 6, 5, 4, 2, 1], .keepO [], .names []] (ps := [(True), (T.int .i64 (IntKind.wrap .i64 (v16 + (1 : Int))) = T.int .i64 (v16 + (1 : Int)))]) (e := .normal) (σ' := ⟨[], [(16, vi (v16 + (1 : Int))), (15, vi ((1 : Int) * 2 ^ Int.toNat ((List.length x0 : Nat) : Int))), (6, vi v6), (5, vb false), (4, vi 0), (2, V.t (T.ptr [tl x0, ti x1])), (1, vi x2)], []⟩) (by kernel_rfl) ⟨trivial, wrapI c6, trivial⟩ ?_
            exact ⟨(n, (v16 + (1 : Int)), v6), h, Nat.lt_succ_self _, rfl⟩
        · -- no
          refine WP.cond (b := decide (v16 < ((1 : Int) * 2 ^ Int.toNat ((List.length x0 : Nat) : Int)))) rfl (fun hh => by rw [h2] at hh; cases hh) (fun _ => ?_)
          refine WP.path tab_ok mixed [] [.keep [6, 5, 4], .keepO [], .names []] (ps := []) (e := (.exit 0)) (σ' := ⟨[], [(6, vi v6), (5, vb false), (4, vi 0)], []⟩) (by kernel_rfl) trivial ?_
          exact ⟨(v6), h, rfl⟩
    · -- from there
      intro v6 h0
      have h := (show J1 v6 = some (y0, y1) from h0)
      rw [hJ1] at h
      simp only [Option.some.injEq, Prod.mk.injEq] at h
      obtain ⟨rfl, rfl⟩ := h
      exact WP.pathW tab_ok mixed [] _ (ps := []) (r := T.tup [ti v6, tb true]) (by kernel_rfl) trivial (WkT.eq (y := T.tup [ti v6, tb true]) (WkT.refl _) rfl) (fun _ h => h)
theorem F_spec_CountBalanced_W (x0 : List Int) (x1 : Int) (x2 : Int) (y0 : Int) (y1 : Bool) (h : F_spec_CountBalanced x0 x1 x2 = some (y0, y1)) : C Try.prog 32 [T.agg [tl x0, ti x1], ti x2] (T.tup [ti y0, tb y1]) := by
  unfold F_spec_CountBalanced at h
  refine C.intro (tab := tab) tab_ok (fn := Try.f32) Try.func32 (by kernel_rfl) rfl (Nat.le_of_ble_eq_true rfl) ?_
  refine WP.seq ?_
  refine WP.path tab_ok mixed [(2, An.fz)] [.keep [5, 4, 2, 1], .keepO []] (ps := []) (e := .normal) (σ' := ⟨[], [(5, vb false), (4, vi 0), (2, V.t (T.ptr [tl x0, ti x1])), (1, vi x2)], []⟩) (by kernel_rfl) trivial ?_
  refine WP.seq ?_
  refine WP.seq ?_
  obtain ⟨r10, c0, h⟩ := bnd1_some h
  refine WP.path tab_ok mixed [(10, An.call (tb r10))] [.keep [11, 5, 4, 2, 1], .keepO []] (ps := [(2 ≤ 2), (C Try.prog 94 [T.agg [tl x0, ti x1], ti x2] (tb r10))]) (e := .normal) (σ' := ⟨[], [(11, vb !r10), (5, vb false), (4, vi 0), (2, V.t (T.ptr [tl x0, ti x1])), (1, vi x2)], []⟩) (by kernel_rfl) ⟨by decide, (F_spec_l3Asks_W x0 x1 x2 r10 c0), trivial⟩ ?_
  rcases ite_some h with ⟨h1, h⟩ | ⟨h1, h⟩
  · -- yes
    refine WP.cond (b := !r10) rfl (fun _ => ?_) (fun hh => by rw [h1] at hh; cases hh)
    simp only [Option.some.injEq, Prod.mk.injEq] at h
    obtain ⟨rfl, rfl⟩ := h
    exact WP.pathW tab_ok mixed [] _ (ps := []) (r := T.tup [ti 0, tb false]) (by kernel_rfl) trivial (WkT.eq (y := T.tup [ti 0, tb false]) (WkT.refl _) (by first | rfl | (simp only [tlS, tl, vl, vo, oc, ov, tbl, vbl, ty, vy]; done) | (simp only [tlS, tl, vl, vo, oc, ov, tbl, vbl, ty, vy]; rfl) | (simp; done) | (simp []; done) | (rw [List.take_of_length_le (by simp [])]; done) | (rw [List.take_of_length_le (by simp [])]; rfl) | (simp only [tlL]; omega) | (simp; omega))) (fun _ h => h)
  · -- no
    refine WP.cond (b := !r10) rfl (fun hh => by rw [h1] at hh; cases hh) (fun _ => ?_)
    refine WP.path tab_ok mixed [] [.keep [5, 4, 2, 1], .keepO []] (ps := []) (e := .normal) (σ' := ⟨[], [(5, vb false), (4, vi 0), (2, V.t (T.ptr [tl x0, ti x1])), (1, vi x2)], []⟩) (by kernel_rfl) trivial ?_
    refine WP.seq ?_
    refine WP.path tab_ok mixed [] [.keep [6, 5, 4, 2, 1], .keepO []] (ps := []) (e := .normal) (σ' := ⟨[], [(6, vi 0), (5, vb false), (4, vi 0), (2, V.t (T.ptr [tl x0, ti x1])), (1, vi x2)], []⟩) (by kernel_rfl) trivial ?_
    obtain ⟨J1, hJ1, h⟩ := jn_some h
    refine WP.joinA (fun (zz : Int) => ⟨[], [(6, vi zz), (5, vb false), (4, vi 0)], []⟩) (fun zz => J1 zz = some (y0, y1)) ?_ ?_
    · -- to where they meet
      refine WP.seq ?_
      refine WP.path tab_ok mixed [] [.keep [7, 6, 5, 4, 2, 1], .keepO []] (ps := []) (e := .normal) (σ' := ⟨[], [(7, vi 0), (6, vi 0), (5, vb false), (4, vi 0), (2, V.t (T.ptr [tl x0, ti x1])), (1, vi x2)], []⟩) (by kernel_rfl) trivial ?_
      refine WP.block ?_
      refine WP.wk [.keep [7, 6, 5, 4, 2, 1], .keepO [], .names []] (σ' := ⟨[], [(7, vi 0), (6, vi 0), (5, vb false), (4, vi 0), (2, V.t (T.ptr [tl x0, ti x1])), (1, vi x2)], []⟩) (ps := []) (by kernel_rfl) trivial ?_
      refine WP.st (σ' := ⟨[], [(7, vi (0 : Int)), (6, vi (0 : Int)), (5, vb false), (4, vi 0), (2, V.t (T.ptr [tl x0, ti x1])), (1, vi x2)], []⟩) (by first | rfl | (simp only [tlS, tl, vl, vo, oc, ov, tbl, vbl, ty, vy]; done) | (simp only [tlS, tl, vl, vo, oc, ov, tbl, vbl, ty, vy]; rfl) | (simp; done) | (simp []; done) | (rw [List.take_of_length_le (by simp [])]; done) | (rw [List.take_of_length_le (by simp [])]; rfl) | (simp only [tlL]; omega) | (simp; omega)) ?_
      refine WP.loop (α := Nat × Int × Int) (fun zz => ⟨[], [(7, vi zz.2.1), (6, vi zz.2.2), (5, vb false), (4, vi 0), (2, V.t (T.ptr [tl x0, ti x1])), (1, vi x2)], []⟩) (fun zz => F_spec_CountBalanced_L1 x0 x1 x2 J1 zz.1 zz.2.1 zz.2.2 = some (y0, y1)) (fun zz => zz.1) (fuel, (0 : Int), (0 : Int)) h ?_
      rintro ⟨n, v7, v6⟩ h0
      have h := (show F_spec_CountBalanced_L1 x0 x1 x2 J1 n v7 v6 = some (y0, y1) from h0)
      rcases n with _ | n
      · rw [F_spec_CountBalanced_L1] at h; cases h
      · rw [F_spec_CountBalanced_L1] at h
        refine WP.seq ?_
        refine WP.seq ?_
        obtain ⟨c1, h⟩ := chk_some h
        refine WP.path tab_ok mixed [(16, An.v (T.int .i64 ((1 : Int) * 2 ^ Int.toNat ((List.length x0 : Nat) : Int))))] [.keep [17, 7, 6, 5, 4, 2, 1], .keepO []] (ps := [(True), (0 ≤ ((List.length x0 : Nat) : Int)), (T.int .i64 (IntKind.wrap .i64 ((1 : Int) * 2 ^ (min (Int.toNat ((List.length x0 : Nat) : Int)) 64))) = T.int .i64 ((1 : Int) * 2 ^ Int.toNat ((List.length x0 : Nat) : Int))), (True)]) (e := .normal) (σ' := ⟨[], [(17, vb (decide (v7 < ((1 : Int) * 2 ^ Int.toNat ((List.length x0 : Nat) : Int))))), (7, vi v7), (6, vi v6), (5, vb false), (4, vi 0), (2, V.t (T.ptr [tl x0, ti x1])), (1, vi x2)], []⟩) (by kernel_rfl) ⟨trivial, c1.1, shl_told c1, trivial, trivial⟩ ?_
        rcases ite_some h with ⟨h2, h⟩ | ⟨h2, h⟩
        · -- yes
          refine WP.cond (b := decide (v7 < ((1 : Int) * 2 ^ Int.toNat ((List.length x0 : Nat) : Int)))) rfl (fun _ => ?_) (fun hh => by rw [h2] at hh; cases hh)
          refine WP.path tab_ok mixed [] [.keep [7, 6, 5, 4, 2, 1], .keepO []] (ps := []) (e := .normal) (σ' := ⟨[], [(7, vi v7), (6, vi v6), (5, vb false), (4, vi 0), (2, V.t (T.ptr [tl x0, ti x1])), (1, vi x2)], []⟩) (by kernel_rfl) trivial ?_
          refine WP.seq ?_
          refine WP.block ?_
          refine WP.seq ?_
          obtain ⟨r23, c2, h⟩ := bnd1_some h
          obtain ⟨c3, h⟩ := chk_some h
          obtain ⟨c4, h⟩ := chk_some h
          refine WP.path tab_ok mixed [(23, An.call (ti r23)), (25, An.v (T.int .i64 (x2 - (1 : Int)))), (26, An.v (T.int .i64 ((1 : Int) * 2 ^ Int.toNat (x2 - (1 : Int)))))] [.keep [27, 7, 6, 5, 4, 2, 1], .keepO []] (ps := [(2 ≤ 2), (C Try.prog 98 [T.agg [tl x0, ti x1], ti v7, ti x2] (ti r23)), (True), (T.int .i64 (IntKind.wrap .i64 (x2 - (1 : Int))) = T.int .i64 (x2 - (1 : Int))), (0 ≤ (x2 - (1 : Int))), (T.int .i64 (IntKind.wrap .i64 ((1 : Int) * 2 ^ (min (Int.toNat (x2 - (1 : Int))) 64))) = T.int .i64 ((1 : Int) * 2 ^ Int.toNat (x2 - (1 : Int)))), (True)]) (e := .normal) (σ' := ⟨[], [(27, vb (decide (r23 ≤ ((1 : Int) * 2 ^ Int.toNat (x2 - (1 : Int)))))), (7, vi v7), (6, vi v6), (5, vb false), (4, vi 0), (2, V.t (T.ptr [tl x0, ti x1])), (1, vi x2)], []⟩) (by kernel_rfl) ⟨by decide, (F_spec_l3Most_W x0 x1 v7 x2 r23 c2), trivial, wrapI c3, c4.1, shl_told c4, trivial, trivial⟩ ?_
          rcases ite_some h with ⟨h3, h⟩ | ⟨h3, h⟩
          · -- yes
            refine WP.cond (b := decide (r23 ≤ ((1 : Int) * 2 ^ Int.toNat (x2 - (1 : Int))))) rfl (fun _ => ?_) (fun hh => by rw [h3] at hh; cases hh)
            obtain ⟨c5, h⟩ := chk_some h
            refine WP.path tab_ok mixed [(29, An.v (T.int .i64 (v6 + (1 : Int))))] [.keep [6, 7, 5, 4, 2, 1], .keepO []] (ps := [(True), (T.int .i64 (IntKind.wrap .i64 (v6 + (1 : Int))) = T.int .i64 (v6 + (1 : Int)))]) (e := .normal) (σ' := ⟨[], [(6, vi (v6 + (1 : Int))), (7, vi v7), (5, vb false), (4, vi 0), (2, V.t (T.ptr [tl x0, ti x1])), (1, vi x2)], []⟩) (by kernel_rfl) ⟨trivial, wrapI c5, trivial⟩ ?_
            obtain ⟨c6, h⟩ := chk_some h
            refine WP.path tab_ok mixed [(19, An.v (T.int .i64 (v7 + (1 : Int))))] [.keep [7, 6, 5, 4, 2, 1], .keepO [], .names []] (ps := [(True), (T.int .i64 (IntKind.wrap .i64 (v7 + (1 : Int))) = T.int .i64 (v7 + (1 : Int)))]) (e := .normal) (σ' := ⟨[], [(7, vi (v7 + (1 : Int))), (6, vi (v6 + (1 : Int))), (5, vb false), (4, vi 0), (2, V.t (T.ptr [tl x0, ti x1])), (1, vi x2)], []⟩) (by kernel_rfl) ⟨trivial, wrapI c6, trivial⟩ ?_
            exact ⟨(n, (v7 + (1 : Int)), (v6 + (1 : Int))), h, Nat.lt_succ_self _, rfl⟩
          · -- no
            refine WP.cond (b := decide (r23 ≤ ((1 : Int) * 2 ^ Int.toNat (x2 - (1 : Int))))) rfl (fun hh => by rw [h3] at hh; cases hh) (fun _ => ?_)
            refine WP.path tab_ok mixed [] [.keep [7, 6, 5, 4, 2, 1], .keepO []] (ps := []) (e := .normal) (σ' := ⟨[], [(7, vi v7), (6, vi v6), (5, vb false), (4, vi 0), (2, V.t (T.ptr [tl x0, ti x1])), (1, vi x2)], []⟩) (by kernel_rfl) trivial ?_
            obtain ⟨c5, h⟩ := chk_some h
            refine WP.path tab_ok mixed [(19, An.v (T.int .i64 (v7 + (1 : Int))))] [.keep [7, 6, 5, 4, 2, 1], .keepO [], .names []] (ps := [(True), (T.int .i64 (IntKind.wrap .i64 (v7 + (1 : Int))) = T.int .i64 (v7 + (1 : Int)))]) (e := .normal) (σ' := ⟨[], [(7, vi (v7 + (1 : Int))), (6, vi v6), (5, vb false), (4, vi 0), (2, V.t (T.ptr [tl x0, ti x1])), (1, vi x2)], []⟩) (by kernel_rfl) ⟨trivial, wrapI c5, trivial⟩ ?_
            exact ⟨(n, (v7 + (1 : Int)), v6), h, Nat.lt_succ_self _, rfl⟩
        · -- no
          refine WP.cond (b := decide (v7 < ((1 : Int) * 2 ^ Int.toNat ((List.length x0 : Nat) : Int)))) rfl (fun hh => by rw [h2] at hh; cases hh) (fun _ => ?_)
          refine WP.path tab_ok mixed [] [.keep [6, 5, 4], .keepO [], .names []] (ps := []) (e := (.exit 0)) (σ' := ⟨[], [(6, vi v6), (5, vb false), (4, vi 0)], []⟩) (by kernel_rfl) trivial ?_
          exact ⟨(v6), h, rfl⟩
    · -- from there
      intro v6 h0
      have h := (show J1 v6 = some (y0, y1) from h0)
      rw [hJ1] at h
      simp only [Option.some.injEq, Prod.mk.injEq] at h
      obtain ⟨rfl, rfl⟩ := h
      exact WP.pathW tab_ok mixed [] _ (ps := []) (r := T.tup [ti v6, tb true]) (by kernel_rfl) trivial (WkT.eq (y := T.tup [ti v6, tb true]) (WkT.refl _) rfl) (fun _ h => h)
theorem F_impl_isAhead_W (x0 : Int) (y0 : Bool) (h : F_impl_isAhead x0 = some y0) : C Try.prog 101 [ti x0] (tb y0) := by
  unfold F_impl_isAhead at h
  refine C.intro (tab := tab) tab_ok (fn := Try.f101) Try.func101 (by kernel_rfl) rfl (Nat.le_of_ble_eq_true rfl) ?_
  have h := Option.some.inj h
  subst h
  exact WP.pathW tab_ok mixed [(4, An.call (tb (decide ((0 : Int) ≤ x0) && decide (x0 ≤ (30 : Int)))))] _ (ps := [(C Try.prog 149 [ti x0, ti 0, ti 30] (tb (decide ((0 : Int) ≤ x0) && decide (x0 ≤ (30 : Int)))))]) (r := tb (decide ((0 : Int) ≤ x0) && decide (x0 ≤ (30 : Int)))) (by kernel_rfl) ⟨(by have hh := (in_C x0 (0 : Int) (30 : Int)); simpa using hh), trivial⟩ (WkT.eq (y := tb (decide ((0 : Int) ≤ x0) && decide (x0 ≤ (30 : Int)))) (WkT.refl _) rfl) (fun _ h => h)
theorem F_impl_StateWeight_W (x0 : List Int) (x1 : Int) (x2 : Int) (y0 : Int) (y1 : Bool) (h : F_impl_StateWeight x0 x1 x2 = some (y0, y1)) : C Try.prog 33 [T.agg [tl x0, ti x1], ti x2] (T.tup [ti y0, tb y1]) := by
  unfold F_impl_StateWeight at h
  refine C.intro (tab := tab) tab_ok (fn := Try.f33) Try.func33 (by kernel_rfl) rfl (Nat.le_of_ble_eq_true rfl) ?_
  refine WP.seq ?_
  refine WP.path tab_ok mixed [(2, An.fz)] [.keep [5, 4, 2, 1], .keepO []] (ps := []) (e := .normal) (σ' := ⟨[], [(5, vb false), (4, vi 0), (2, V.t (T.ptr [tl x0, ti x1])), (1, vi x2)], []⟩) (by kernel_rfl) trivial ?_
  refine WP.seq ?_
  obtain ⟨J1, hJ1, h⟩ := jn_some h
  refine WP.joinA (fun (zz : Bool) => ⟨[], [(13, vb zz), (5, vb false), (4, vi 0), (2, V.t (T.ptr [tl x0, ti x1])), (1, vi x2)], []⟩) (fun zz => J1 zz = some (y0, y1)) ?_ ?_
  · -- to where they meet
    obtain ⟨c0, h⟩ := chk_some h
    rcases ite_some h with ⟨h1, h⟩ | ⟨h1, h⟩
    · -- yes
      refine WP.path tab_ok mixed [(7, An.call (tb (isStateN x0 x1))), (9, An.b true)] [.keep [13, 5, 4, 2, 1], .keepO [], .names []] (ps := [(2 ≤ 2), (C Try.prog 100 [T.agg [tl x0, ti x1]] (tb (isStateN x0 x1))), ((!(isStateN x0 x1)) = true)]) (e := .normal) (σ' := ⟨[], [(13, vb true), (5, vb false), (4, vi 0), (2, V.t (T.ptr [tl x0, ti x1])), (1, vi x2)], []⟩) (by kernel_rfl) ⟨by decide, (isState_C x0 x1 c0), h1, trivial⟩ ?_
      exact ⟨(true), h, rfl⟩
    · -- no
      obtain ⟨r11, c1, h⟩ := bnd1_some h
      refine WP.path tab_ok mixed [(7, An.call (tb (isStateN x0 x1))), (9, An.b false), (11, An.call (tb r11))] [.keep [13, 5, 4, 2, 1], .keepO [], .names []] (ps := [(2 ≤ 2), (C Try.prog 100 [T.agg [tl x0, ti x1]] (tb (isStateN x0 x1))), ((!(isStateN x0 x1)) = false), (C Try.prog 101 [ti x2] (tb r11))]) (e := .normal) (σ' := ⟨[], [(13, vb !r11), (5, vb false), (4, vi 0), (2, V.t (T.ptr [tl x0, ti x1])), (1, vi x2)], []⟩) (by kernel_rfl) ⟨by decide, (isState_C x0 x1 c0), h1, (F_impl_isAhead_W x2 r11 c1), trivial⟩ ?_
      exact ⟨(!r11), h, rfl⟩
  · -- from there
    intro v13 h0
    have h := (show J1 v13 = some (y0, y1) from h0)
    rw [hJ1] at h
    rcases ite_some h with ⟨h2, h⟩ | ⟨h2, h⟩
    · -- yes
      refine WP.cond (b := v13) rfl (fun _ => ?_) (fun hh => by rw [h2] at hh; cases hh)
      simp only [Option.some.injEq, Prod.mk.injEq] at h
      obtain ⟨rfl, rfl⟩ := h
      exact WP.pathW tab_ok mixed [] _ (ps := []) (r := T.tup [ti 0, tb false]) (by kernel_rfl) trivial (WkT.eq (y := T.tup [ti 0, tb false]) (WkT.refl _) (by first | rfl | (simp only [tlS, tl, vl, vo, oc, ov, tbl, vbl, ty, vy]; done) | (simp only [tlS, tl, vl, vo, oc, ov, tbl, vbl, ty, vy]; rfl) | (simp; done) | (simp []; done) | (rw [List.take_of_length_le (by simp [])]; done) | (rw [List.take_of_length_le (by simp [])]; rfl) | (simp only [tlL]; omega) | (simp; omega))) (fun _ h => h)
    · -- no
      refine WP.cond (b := v13) rfl (fun hh => by rw [h2] at hh; cases hh) (fun _ => ?_)
      refine WP.path tab_ok mixed [] [.keep [5, 4, 2, 1], .keepO []] (ps := []) (e := .normal) (σ' := ⟨[], [(5, vb false), (4, vi 0), (2, V.t (T.ptr [tl x0, ti x1])), (1, vi x2)], []⟩) (by kernel_rfl) trivial ?_
      obtain ⟨r16, c0, h⟩ := bnd1_some h
      simp only [Option.some.injEq, Prod.mk.injEq] at h
      obtain ⟨rfl, rfl⟩ := h
      exact WP.pathW tab_ok mixed [(16, An.call (ti r16))] _ (ps := [(2 ≤ 2), (C Try.prog 102 [T.agg [tl x0, ti x1], ti x2] (ti r16))]) (r := T.tup [ti r16, tb true]) (by kernel_rfl) ⟨by decide, (F_impl_State_allWeight_W x0 x1 x2 r16 c0), trivial⟩ (WkT.eq (y := T.tup [ti r16, tb true]) (WkT.refl _) rfl) (fun _ h => h)
theorem F_laws_FnBalanced_W (x0 : List Int) (y0 : Bool) (h : F_laws_FnBalanced x0 = some y0) : C Try.prog 4 [ty x0] (tb y0) := by
  unfold F_laws_FnBalanced at h
  refine C.intro (tab := tab) tab_ok (fn := Try.f4) Try.func4 (by kernel_rfl) rfl (Nat.le_of_ble_eq_true rfl) ?_
  refine WP.seq ?_
  refine WP.path tab_ok mixed [] [.keep [2, 0], .keepO []] (ps := []) (e := .normal) (σ' := ⟨[], [(2, vb false), (0, vy x0)], []⟩) (by kernel_rfl) trivial ?_
  refine WP.seq ?_
  refine WP.seq ?_
  obtain ⟨c0, h⟩ := chk_some h
  refine WP.path tab_ok mixed [(37, An.call (tb (decide (((List.length x0 : Nat) : Int) > (65536 : Int)))))] [.keep [37, 2, 0], .keepO []] (ps := [(C Try.prog 21 [ty x0] (tb (decide (((List.length x0 : Nat) : Int) > (65536 : Int)))))]) (e := .normal) (σ' := ⟨[], [(37, vb (decide (((List.length x0 : Nat) : Int) > (65536 : Int)))), (2, vb false), (0, vy x0)], []⟩) (by kernel_rfl) ⟨(vBig_C x0 c0), trivial⟩ ?_
  rcases ite_some h with ⟨h1, h⟩ | ⟨h1, h⟩
  · -- yes
    refine WP.cond (b := decide (((List.length x0 : Nat) : Int) > (65536 : Int))) rfl (fun _ => ?_) (fun hh => by rw [h1] at hh; cases hh)
    have h := Option.some.inj h
    subst h
    exact WP.pathW tab_ok mixed [] _ (ps := []) (r := tb true) (by kernel_rfl) trivial (WkT.eq (y := tb true) (WkT.refl _) rfl) (fun _ h => h)
  · -- no
    refine WP.cond (b := decide (((List.length x0 : Nat) : Int) > (65536 : Int))) rfl (fun hh => by rw [h1] at hh; cases hh) (fun _ => ?_)
    refine WP.path tab_ok mixed [] [.keep [2, 0], .keepO []] (ps := []) (e := .normal) (σ' := ⟨[], [(2, vb false), (0, vy x0)], []⟩) (by kernel_rfl) trivial ?_
    refine WP.seq ?_
    obtain ⟨r40, r40b, r40c, r40d, c1, h⟩ := bnd4_some h
    refine WP.path tab_ok mixed [(40, An.call (T.tup [T.agg [tl r40, ti r40b], ti r40c, ti r40d])), (3, An.id 2003)] [.keep [5, 4, 3, 2, 0], .keepO [2003]] (ps := [(C Try.prog 22 [ty x0] (T.tup [T.agg [tl r40, ti r40b], ti r40c, ti r40d])), ((0 + 2 ≤ 2 ∧ 2 = 2))]) (e := .normal) (σ' := ⟨[2003], [(5, vi r40d), (4, vi r40c), (3, V.ref 2003 0), (2, vb false), (0, vy x0)], [(2003, oc 27 [tl r40, ti r40b])]⟩) (by kernel_rfl) ⟨(F_spec_DrawAnswerWeights_W_C x0 r40 r40b r40c r40d c1), by decide, trivial⟩ ?_
    refine WP.seq ?_
    obtain ⟨r48, r48b, r48c, c2, h⟩ := bnd3_some h
    refine WP.path tab_ok mixed [(48, An.call (T.tup [T.agg [ti r48, ti r48b], tb r48c])), (6, An.id 2006)] [.keep [7, 6, 5, 4, 3, 2, 0], .keepO [2003, 2006]] (ps := [(0 + 2 ≤ 2), (C Try.prog 23 [T.agg [tl r40, ti r40b], ti r40c, ti r40d] (T.tup [T.agg [ti r48, ti r48b], tb r48c])), ((0 + 2 ≤ 2 ∧ 2 = 2))]) (e := .normal) (σ' := ⟨[2006, 2003], [(7, vb r48c), (6, V.ref 2006 0), (5, vi r40d), (4, vi r40c), (3, V.ref 2003 0), (2, vb false), (0, vy x0)], [(2003, oc 27 [tl r40, ti r40b]), (2006, oc 39 [ti r48, ti r48b])]⟩) (by kernel_rfl) ⟨by decide, (F_impl_AnswerWeights_W r40 r40b r40c r40d r48 r48b r48c c2), by decide, trivial⟩ ?_
    refine WP.seq ?_
    obtain ⟨r55, r55b, r55c, c3, h⟩ := bnd3_some h
    refine WP.path tab_ok mixed [(55, An.call (T.tup [T.agg [ti r55, ti r55b], tb r55c])), (8, An.id 2008)] [.keep [9, 8, 7, 6, 5, 4, 3, 2, 0], .keepO [2003, 2006, 2008]] (ps := [(0 + 2 ≤ 2), (C Try.prog 24 [T.agg [tl r40, ti r40b], ti r40c, ti r40d] (T.tup [T.agg [ti r55, ti r55b], tb r55c])), ((0 + 2 ≤ 2 ∧ 2 = 2))]) (e := .normal) (σ' := ⟨[2008, 2006, 2003], [(9, vb r55c), (8, V.ref 2008 0), (7, vb r48c), (6, V.ref 2006 0), (5, vi r40d), (4, vi r40c), (3, V.ref 2003 0), (2, vb false), (0, vy x0)], [(2003, oc 27 [tl r40, ti r40b]), (2006, oc 39 [ti r48, ti r48b]), (2008, oc 39 [ti r55, ti r55b])]⟩) (by kernel_rfl) ⟨by decide, (F_spec_AnswerWeights_W r40 r40b r40c r40d r55 r55b r55c c3), by decide, trivial⟩ ?_
    refine WP.seq ?_
    obtain ⟨r62, r62b, c4, h⟩ := bnd2_some h
    refine WP.path tab_ok mixed [(62, An.call (T.tup [tb r62, tb r62b]))] [.keep [11, 10, 9, 8, 7, 6, 5, 4, 3, 2, 0], .keepO [2003, 2006, 2008]] (ps := [(0 + 2 ≤ 2), (C Try.prog 25 [T.agg [tl r40, ti r40b], ti r40c, ti r40d] (T.tup [tb r62, tb r62b]))]) (e := .normal) (σ' := ⟨[2008, 2006, 2003], [(11, vb r62b), (10, vb r62), (9, vb r55c), (8, V.ref 2008 0), (7, vb r48c), (6, V.ref 2006 0), (5, vi r40d), (4, vi r40c), (3, V.ref 2003 0), (2, vb false), (0, vy x0)], [(2003, oc 27 [tl r40, ti r40b]), (2006, oc 39 [ti r48, ti r48b]), (2008, oc 39 [ti r55, ti r55b])]⟩) (by kernel_rfl) ⟨by decide, (F_impl_IsBalanced_W r40 r40b r40c r40d r62 r62b c4), trivial⟩ ?_
    refine WP.seq ?_
    obtain ⟨r69, r69b, c5, h⟩ := bnd2_some h
    refine WP.path tab_ok mixed [(69, An.call (T.tup [tb r69, tb r69b]))] [.keep [13, 12, 11, 10, 9, 8, 7, 6, 5, 4, 3, 2, 0], .keepO [2003, 2006, 2008]] (ps := [(0 + 2 ≤ 2), (C Try.prog 26 [T.agg [tl r40, ti r40b], ti r40c, ti r40d] (T.tup [tb r69, tb r69b]))]) (e := .normal) (σ' := ⟨[2008, 2006, 2003], [(13, vb r69b), (12, vb r69), (11, vb r62b), (10, vb r62), (9, vb r55c), (8, V.ref 2008 0), (7, vb r48c), (6, V.ref 2006 0), (5, vi r40d), (4, vi r40c), (3, V.ref 2003 0), (2, vb false), (0, vy x0)], [(2003, oc 27 [tl r40, ti r40b]), (2006, oc 39 [ti r48, ti r48b]), (2008, oc 39 [ti r55, ti r55b])]⟩) (by kernel_rfl) ⟨by decide, (F_spec_IsBalanced_W r40 r40b r40c r40d r69 r69b c5), trivial⟩ ?_
    refine WP.seq ?_
    obtain ⟨c6, h⟩ := chk_some h
    obtain ⟨r75, r75b, r75c, c7, h⟩ := bnd3_some h
    refine WP.path tab_ok mixed [(74, An.call (ty (cutY x0 (1 : Int)))), (75, An.call (T.tup [T.agg [tl r75, ti r75b], ti r75c])), (14, An.id 2014)] [.keep [15, 14, 13, 12, 11, 10, 9, 8, 7, 6, 5, 4, 3, 2], .keepO [2003, 2006, 2008, 2014]] (ps := [(C Try.prog 28 [ty x0, ti 1] (ty (cutY x0 (1 : Int)))), (C Try.prog 27 [ty (cutY x0 (1 : Int))] (T.tup [T.agg [tl r75, ti r75b], ti r75c])), ((0 + 2 ≤ 2 ∧ 2 = 2))]) (e := .normal) (σ' := ⟨[2014, 2008, 2006, 2003], [(15, vi r75c), (14, V.ref 2014 0), (13, vb r69b), (12, vb r69), (11, vb r62b), (10, vb r62), (9, vb r55c), (8, V.ref 2008 0), (7, vb r48c), (6, V.ref 2006 0), (5, vi r40d), (4, vi r40c), (3, V.ref 2003 0), (2, vb false)], [(2003, oc 27 [tl r40, ti r40b]), (2006, oc 39 [ti r48, ti r48b]), (2008, oc 39 [ti r55, ti r55b]), (2014, oc 27 [tl r75, ti r75b])]⟩) (by kernel_rfl) ⟨(by have hh := (vCut_C x0 (1 : Int) (show 0 ≤ (1 : Int) by first | decide | (simp only [maxLen]; omega) | (unfold I64; omega) | (unfold I64; decide)) (show (1 : Int) ≤ 255 by first | decide | (simp only [maxLen]; omega) | (unfold I64; omega) | (unfold I64; decide)) c6); simpa using hh), (F_spec_DrawEvenQuestion_W_C (cutY x0 (1 : Int)) r75 r75b r75c c7), by decide, trivial⟩ ?_
    refine WP.seq ?_
    obtain ⟨r81, r81b, c8, h⟩ := bnd2_some h
    refine WP.path tab_ok mixed [(81, An.call (T.tup [ti r81, tb r81b]))] [.keep [17, 16, 15, 14, 13, 12, 11, 10, 9, 8, 7, 6, 5, 4, 3, 2], .keepO [2003, 2006, 2008, 2014]] (ps := [(0 + 2 ≤ 2), (C Try.prog 29 [T.agg [tl r75, ti r75b], ti r75c] (T.tup [ti r81, tb r81b]))]) (e := .normal) (σ' := ⟨[2014, 2008, 2006, 2003], [(17, vb r81b), (16, vi r81), (15, vi r75c), (14, V.ref 2014 0), (13, vb r69b), (12, vb r69), (11, vb r62b), (10, vb r62), (9, vb r55c), (8, V.ref 2008 0), (7, vb r48c), (6, V.ref 2006 0), (5, vi r40d), (4, vi r40c), (3, V.ref 2003 0), (2, vb false)], [(2003, oc 27 [tl r40, ti r40b]), (2006, oc 39 [ti r48, ti r48b]), (2008, oc 39 [ti r55, ti r55b]), (2014, oc 27 [tl r75, ti r75b])]⟩) (by kernel_rfl) ⟨by decide, (F_impl_EvenQuestion_W r75 r75b r75c r81 r81b c8), trivial⟩ ?_
    refine WP.seq ?_
    obtain ⟨r87, r87b, c9, h⟩ := bnd2_some h
    refine WP.path tab_ok mixed [(87, An.call (T.tup [ti r87, tb r87b]))] [.keep [19, 18, 17, 16, 15, 14, 13, 12, 11, 10, 9, 8, 7, 6, 5, 4, 3, 2], .keepO [2003, 2006, 2008, 2014]] (ps := [(0 + 2 ≤ 2), (C Try.prog 30 [T.agg [tl r75, ti r75b], ti r75c] (T.tup [ti r87, tb r87b]))]) (e := .normal) (σ' := ⟨[2014, 2008, 2006, 2003], [(19, vb r87b), (18, vi r87), (17, vb r81b), (16, vi r81), (15, vi r75c), (14, V.ref 2014 0), (13, vb r69b), (12, vb r69), (11, vb r62b), (10, vb r62), (9, vb r55c), (8, V.ref 2008 0), (7, vb r48c), (6, V.ref 2006 0), (5, vi r40d), (4, vi r40c), (3, V.ref 2003 0), (2, vb false)], [(2003, oc 27 [tl r40, ti r40b]), (2006, oc 39 [ti r48, ti r48b]), (2008, oc 39 [ti r55, ti r55b]), (2014, oc 27 [tl r75, ti r75b])]⟩) (by kernel_rfl) ⟨by decide, (F_spec_EvenQuestion_W r75 r75b r75c r87 r87b c9), trivial⟩ ?_
    refine WP.seq ?_
    obtain ⟨r93, r93b, c10, h⟩ := bnd2_some h
    refine WP.path tab_ok mixed [(93, An.call (T.tup [ti r93, tb r93b]))] [.keep [21, 20, 19, 18, 17, 16, 15, 14, 13, 12, 11, 10, 9, 8, 7, 6, 5, 4, 3, 2], .keepO [2003, 2006, 2008, 2014]] (ps := [(0 + 2 ≤ 2), (C Try.prog 31 [T.agg [tl r75, ti r75b], ti r75c] (T.tup [ti r93, tb r93b]))]) (e := .normal) (σ' := ⟨[2014, 2008, 2006, 2003], [(21, vb r93b), (20, vi r93), (19, vb r87b), (18, vi r87), (17, vb r81b), (16, vi r81), (15, vi r75c), (14, V.ref 2014 0), (13, vb r69b), (12, vb r69), (11, vb r62b), (10, vb r62), (9, vb r55c), (8, V.ref 2008 0), (7, vb r48c), (6, V.ref 2006 0), (5, vi r40d), (4, vi r40c), (3, V.ref 2003 0), (2, vb false)], [(2003, oc 27 [tl r40, ti r40b]), (2006, oc 39 [ti r48, ti r48b]), (2008, oc 39 [ti r55, ti r55b]), (2014, oc 27 [tl r75, ti r75b])]⟩) (by kernel_rfl) ⟨by decide, (F_impl_CountBalanced_W r75 r75b r75c r93 r93b c10), trivial⟩ ?_
    refine WP.seq ?_
    obtain ⟨r99, r99b, c11, h⟩ := bnd2_some h
    refine WP.path tab_ok mixed [(99, An.call (T.tup [ti r99, tb r99b]))] [.keep [23, 22, 21, 20, 19, 18, 17, 16, 15, 14, 13, 12, 11, 10, 9, 8, 7, 6, 5, 4, 3, 2], .keepO [2003, 2006, 2008, 2014]] (ps := [(0 + 2 ≤ 2), (C Try.prog 32 [T.agg [tl r75, ti r75b], ti r75c] (T.tup [ti r99, tb r99b]))]) (e := .normal) (σ' := ⟨[2014, 2008, 2006, 2003], [(23, vb r99b), (22, vi r99), (21, vb r93b), (20, vi r93), (19, vb r87b), (18, vi r87), (17, vb r81b), (16, vi r81), (15, vi r75c), (14, V.ref 2014 0), (13, vb r69b), (12, vb r69), (11, vb r62b), (10, vb r62), (9, vb r55c), (8, V.ref 2008 0), (7, vb r48c), (6, V.ref 2006 0), (5, vi r40d), (4, vi r40c), (3, V.ref 2003 0), (2, vb false)], [(2003, oc 27 [tl r40, ti r40b]), (2006, oc 39 [ti r48, ti r48b]), (2008, oc 39 [ti r55, ti r55b]), (2014, oc 27 [tl r75, ti r75b])]⟩) (by kernel_rfl) ⟨by decide, (F_spec_CountBalanced_W r75 r75b r75c r99 r99b c11), trivial⟩ ?_
    refine WP.seq ?_
    obtain ⟨J1, hJ1, h⟩ := jn_some h
    refine WP.joinA (fun (zz : Bool) => ⟨[2003, 2006, 2014], [(149, vb zz), (20, vi r93), (17, vb r81b), (16, vi r81), (15, vi r75c), (14, V.ref 2014 0), (10, vb r62), (7, vb r48c), (6, V.ref 2006 0), (5, vi r40d), (4, vi r40c), (3, V.ref 2003 0), (2, vb false)], [(2003, oc 27 [tl r40, ti r40b]), (2006, oc 39 [ti r48, ti r48b]), (2014, oc 27 [tl r75, ti r75b])]⟩) (fun zz => J1 zz = some y0) ?_ ?_
    · -- to where they meet
      rcases ite_some h with ⟨h2, h⟩ | ⟨h2, h⟩
      · -- yes
        refine WP.path tab_ok mixed [(104, An.b true)] [.keep [149, 20, 17, 16, 15, 14, 10, 7, 6, 5, 4, 3, 2], .keepO [2003, 2006, 2014], .names [(2003, 2003), (2006, 2006), (2014, 2014)]] (ps := [(0 + 2 ≤ 2), (0 + 2 ≤ 2), (chkEq Try.prog 39 [ti r48, ti r48b] = true), ((!((r48 == r55) && ((r48b == r55b) && (true)))) = true)]) (e := .normal) (σ' := ⟨[2003, 2006, 2014], [(149, vb true), (20, vi r93), (17, vb r81b), (16, vi r81), (15, vi r75c), (14, V.ref 2014 0), (10, vb r62), (7, vb r48c), (6, V.ref 2006 0), (5, vi r40d), (4, vi r40c), (3, V.ref 2003 0), (2, vb false)], [(2003, oc 27 [tl r40, ti r40b]), (2006, oc 39 [ti r48, ti r48b]), (2014, oc 27 [tl r75, ti r75b])]⟩) (by kernel_rfl) ⟨by decide, by decide, by kernel_rfl, h2, trivial⟩ ?_
        exact ⟨(true), h, rfl⟩
      · -- no
        rcases ite_some h with ⟨h3, h⟩ | ⟨h3, h⟩
        · -- yes
          refine WP.path tab_ok mixed [(104, An.b false), (108, An.b true)] [.keep [149, 20, 17, 16, 15, 14, 10, 7, 6, 5, 4, 3, 2], .keepO [2003, 2006, 2014], .names [(2003, 2003), (2006, 2006), (2014, 2014)]] (ps := [(0 + 2 ≤ 2), (0 + 2 ≤ 2), (chkEq Try.prog 39 [ti r48, ti r48b] = true), ((!((r48 == r55) && ((r48b == r55b) && (true)))) = false), (True), ((!(r48c == r55c)) = true)]) (e := .normal) (σ' := ⟨[2003, 2006, 2014], [(149, vb true), (20, vi r93), (17, vb r81b), (16, vi r81), (15, vi r75c), (14, V.ref 2014 0), (10, vb r62), (7, vb r48c), (6, V.ref 2006 0), (5, vi r40d), (4, vi r40c), (3, V.ref 2003 0), (2, vb false)], [(2003, oc 27 [tl r40, ti r40b]), (2006, oc 39 [ti r48, ti r48b]), (2014, oc 27 [tl r75, ti r75b])]⟩) (by kernel_rfl) ⟨by decide, by decide, by kernel_rfl, h2, trivial, h3, trivial⟩ ?_
          exact ⟨(true), h, rfl⟩
        · -- no
          rcases ite_some h with ⟨h4, h⟩ | ⟨h4, h⟩
          · -- yes
            refine WP.path tab_ok mixed [(104, An.b false), (108, An.b false), (113, An.b true)] [.keep [149, 20, 17, 16, 15, 14, 10, 7, 6, 5, 4, 3, 2], .keepO [2003, 2006, 2014], .names [(2003, 2003), (2006, 2006), (2014, 2014)]] (ps := [(0 + 2 ≤ 2), (0 + 2 ≤ 2), (chkEq Try.prog 39 [ti r48, ti r48b] = true), ((!((r48 == r55) && ((r48b == r55b) && (true)))) = false), (True), ((!(r48c == r55c)) = false), (True), ((!(r62 == r69)) = true)]) (e := .normal) (σ' := ⟨[2003, 2006, 2014], [(149, vb true), (20, vi r93), (17, vb r81b), (16, vi r81), (15, vi r75c), (14, V.ref 2014 0), (10, vb r62), (7, vb r48c), (6, V.ref 2006 0), (5, vi r40d), (4, vi r40c), (3, V.ref 2003 0), (2, vb false)], [(2003, oc 27 [tl r40, ti r40b]), (2006, oc 39 [ti r48, ti r48b]), (2014, oc 27 [tl r75, ti r75b])]⟩) (by kernel_rfl) ⟨by decide, by decide, by kernel_rfl, h2, trivial, h3, trivial, h4, trivial⟩ ?_
            exact ⟨(true), h, rfl⟩
          · -- no
            rcases ite_some h with ⟨h5, h⟩ | ⟨h5, h⟩
            · -- yes
              refine WP.path tab_ok mixed [(104, An.b false), (108, An.b false), (113, An.b false), (118, An.b true)] [.keep [149, 20, 17, 16, 15, 14, 10, 7, 6, 5, 4, 3, 2], .keepO [2003, 2006, 2014], .names [(2003, 2003), (2006, 2006), (2014, 2014)]] (ps := [(0 + 2 ≤ 2), (0 + 2 ≤ 2), (chkEq Try.prog 39 [ti r48, ti r48b] = true), ((!((r48 == r55) && ((r48b == r55b) && (true)))) = false), (True), ((!(r48c == r55c)) = false), (True), ((!(r62 == r69)) = false), (True), ((!(r62b == r69b)) = true)]) (e := .normal) (σ' := ⟨[2003, 2006, 2014], [(149, vb true), (20, vi r93), (17, vb r81b), (16, vi r81), (15, vi r75c), (14, V.ref 2014 0), (10, vb r62), (7, vb r48c), (6, V.ref 2006 0), (5, vi r40d), (4, vi r40c), (3, V.ref 2003 0), (2, vb false)], [(2003, oc 27 [tl r40, ti r40b]), (2006, oc 39 [ti r48, ti r48b]), (2014, oc 27 [tl r75, ti r75b])]⟩) (by kernel_rfl) ⟨by decide, by decide, by kernel_rfl, h2, trivial, h3, trivial, h4, trivial, h5, trivial⟩ ?_
              exact ⟨(true), h, rfl⟩
            · -- no
              rcases ite_some h with ⟨h6, h⟩ | ⟨h6, h⟩
              · -- yes
                refine WP.path tab_ok mixed [(104, An.b false), (108, An.b false), (113, An.b false), (118, An.b false), (123, An.b true)] [.keep [149, 20, 17, 16, 15, 14, 10, 7, 6, 5, 4, 3, 2], .keepO [2003, 2006, 2014], .names [(2003, 2003), (2006, 2006), (2014, 2014)]] (ps := [(0 + 2 ≤ 2), (0 + 2 ≤ 2), (chkEq Try.prog 39 [ti r48, ti r48b] = true), ((!((r48 == r55) && ((r48b == r55b) && (true)))) = false), (True), ((!(r48c == r55c)) = false), (True), ((!(r62 == r69)) = false), (True), ((!(r62b == r69b)) = false), (True), ((r81 != r87) = true)]) (e := .normal) (σ' := ⟨[2003, 2006, 2014], [(149, vb true), (20, vi r93), (17, vb r81b), (16, vi r81), (15, vi r75c), (14, V.ref 2014 0), (10, vb r62), (7, vb r48c), (6, V.ref 2006 0), (5, vi r40d), (4, vi r40c), (3, V.ref 2003 0), (2, vb false)], [(2003, oc 27 [tl r40, ti r40b]), (2006, oc 39 [ti r48, ti r48b]), (2014, oc 27 [tl r75, ti r75b])]⟩) (by kernel_rfl) ⟨by decide, by decide, by kernel_rfl, h2, trivial, h3, trivial, h4, trivial, h5, trivial, h6, trivial⟩ ?_
                exact ⟨(true), h, rfl⟩
              · -- no
                rcases ite_some h with ⟨h7, h⟩ | ⟨h7, h⟩
                · -- yes
                  refine WP.path tab_ok mixed [(104, An.b false), (108, An.b false), (113, An.b false), (118, An.b false), (123, An.b false), (128, An.b true)] [.keep [149, 20, 17, 16, 15, 14, 10, 7, 6, 5, 4, 3, 2], .keepO [2003, 2006, 2014], .names [(2003, 2003), (2006, 2006), (2014, 2014)]] (ps := [(0 + 2 ≤ 2), (0 + 2 ≤ 2), (chkEq Try.prog 39 [ti r48, ti r48b] = true), ((!((r48 == r55) && ((r48b == r55b) && (true)))) = false), (True), ((!(r48c == r55c)) = false), (True), ((!(r62 == r69)) = false), (True), ((!(r62b == r69b)) = false), (True), ((r81 != r87) = false), (True), ((!(r81b == r87b)) = true)]) (e := .normal) (σ' := ⟨[2003, 2006, 2014], [(149, vb true), (20, vi r93), (17, vb r81b), (16, vi r81), (15, vi r75c), (14, V.ref 2014 0), (10, vb r62), (7, vb r48c), (6, V.ref 2006 0), (5, vi r40d), (4, vi r40c), (3, V.ref 2003 0), (2, vb false)], [(2003, oc 27 [tl r40, ti r40b]), (2006, oc 39 [ti r48, ti r48b]), (2014, oc 27 [tl r75, ti r75b])]⟩) (by kernel_rfl) ⟨by decide, by decide, by kernel_rfl, h2, trivial, h3, trivial, h4, trivial, h5, trivial, h6, trivial, h7, trivial⟩ ?_
                  exact ⟨(true), h, rfl⟩
                · -- no
                  rcases ite_some h with ⟨h8, h⟩ | ⟨h8, h⟩
                  · -- yes
                    refine WP.path tab_ok mixed [(104, An.b false), (108, An.b false), (113, An.b false), (118, An.b false), (123, An.b false), (128, An.b false), (133, An.b true)] [.keep [149, 20, 17, 16, 15, 14, 10, 7, 6, 5, 4, 3, 2], .keepO [2003, 2006, 2014], .names [(2003, 2003), (2006, 2006), (2014, 2014)]] (ps := [(0 + 2 ≤ 2), (0 + 2 ≤ 2), (chkEq Try.prog 39 [ti r48, ti r48b] = true), ((!((r48 == r55) && ((r48b == r55b) && (true)))) = false), (True), ((!(r48c == r55c)) = false), (True), ((!(r62 == r69)) = false), (True), ((!(r62b == r69b)) = false), (True), ((r81 != r87) = false), (True), ((!(r81b == r87b)) = false), (True), ((r93 != r99) = true)]) (e := .normal) (σ' := ⟨[2003, 2006, 2014], [(149, vb true), (20, vi r93), (17, vb r81b), (16, vi r81), (15, vi r75c), (14, V.ref 2014 0), (10, vb r62), (7, vb r48c), (6, V.ref 2006 0), (5, vi r40d), (4, vi r40c), (3, V.ref 2003 0), (2, vb false)], [(2003, oc 27 [tl r40, ti r40b]), (2006, oc 39 [ti r48, ti r48b]), (2014, oc 27 [tl r75, ti r75b])]⟩) (by kernel_rfl) ⟨by decide, by decide, by kernel_rfl, h2, trivial, h3, trivial, h4, trivial, h5, trivial, h6, trivial, h7, trivial, h8, trivial⟩ ?_
                    exact ⟨(true), h, rfl⟩
                  · -- no
                    rcases ite_some h with ⟨h9, h⟩ | ⟨h9, h⟩
                    · -- yes
                      refine WP.path tab_ok mixed [(104, An.b false), (108, An.b false), (113, An.b false), (118, An.b false), (123, An.b false), (128, An.b false), (133, An.b false), (138, An.b true)] [.keep [149, 20, 17, 16, 15, 14, 10, 7, 6, 5, 4, 3, 2], .keepO [2003, 2006, 2014], .names [(2003, 2003), (2006, 2006), (2014, 2014)]] (ps := [(0 + 2 ≤ 2), (0 + 2 ≤ 2), (chkEq Try.prog 39 [ti r48, ti r48b] = true), ((!((r48 == r55) && ((r48b == r55b) && (true)))) = false), (True), ((!(r48c == r55c)) = false), (True), ((!(r62 == r69)) = false), (True), ((!(r62b == r69b)) = false), (True), ((r81 != r87) = false), (True), ((!(r81b == r87b)) = false), (True), ((r93 != r99) = false), (True), ((!(r93b == r99b)) = true)]) (e := .normal) (σ' := ⟨[2003, 2006, 2014], [(149, vb true), (20, vi r93), (17, vb r81b), (16, vi r81), (15, vi r75c), (14, V.ref 2014 0), (10, vb r62), (7, vb r48c), (6, V.ref 2006 0), (5, vi r40d), (4, vi r40c), (3, V.ref 2003 0), (2, vb false)], [(2003, oc 27 [tl r40, ti r40b]), (2006, oc 39 [ti r48, ti r48b]), (2014, oc 27 [tl r75, ti r75b])]⟩) (by kernel_rfl) ⟨by decide, by decide, by kernel_rfl, h2, trivial, h3, trivial, h4, trivial, h5, trivial, h6, trivial, h7, trivial, h8, trivial, h9, trivial⟩ ?_
                      exact ⟨(true), h, rfl⟩
                    · -- no
                      rcases ite_some h with ⟨h10, h⟩ | ⟨h10, h⟩
                      · -- yes
                        refine WP.path tab_ok mixed [(104, An.b false), (108, An.b false), (113, An.b false), (118, An.b false), (123, An.b false), (128, An.b false), (133, An.b false), (138, An.b false), (143, An.b true)] [.keep [149, 20, 17, 16, 15, 14, 10, 7, 6, 5, 4, 3, 2], .keepO [2003, 2006, 2014], .names [(2003, 2003), (2006, 2006), (2014, 2014)]] (ps := [(0 + 2 ≤ 2), (0 + 2 ≤ 2), (chkEq Try.prog 39 [ti r48, ti r48b] = true), ((!((r48 == r55) && ((r48b == r55b) && (true)))) = false), (True), ((!(r48c == r55c)) = false), (True), ((!(r62 == r69)) = false), (True), ((!(r62b == r69b)) = false), (True), ((r81 != r87) = false), (True), ((!(r81b == r87b)) = false), (True), ((r93 != r99) = false), (True), ((!(r93b == r99b)) = false), (True), ((!(r48c == r62b)) = true)]) (e := .normal) (σ' := ⟨[2003, 2006, 2014], [(149, vb true), (20, vi r93), (17, vb r81b), (16, vi r81), (15, vi r75c), (14, V.ref 2014 0), (10, vb r62), (7, vb r48c), (6, V.ref 2006 0), (5, vi r40d), (4, vi r40c), (3, V.ref 2003 0), (2, vb false)], [(2003, oc 27 [tl r40, ti r40b]), (2006, oc 39 [ti r48, ti r48b]), (2014, oc 27 [tl r75, ti r75b])]⟩) (by kernel_rfl) ⟨by decide, by decide, by kernel_rfl, h2, trivial, h3, trivial, h4, trivial, h5, trivial, h6, trivial, h7, trivial, h8, trivial, h9, trivial, h10, trivial⟩ ?_
                        exact ⟨(true), h, rfl⟩
                      · -- no
                        refine WP.path tab_ok mixed [(104, An.b false), (108, An.b false), (113, An.b false), (118, An.b false), (123, An.b false), (128, An.b false), (133, An.b false), (138, An.b false), (143, An.b false)] [.keep [149, 20, 17, 16, 15, 14, 10, 7, 6, 5, 4, 3, 2], .keepO [2003, 2006, 2014], .names [(2003, 2003), (2006, 2006), (2014, 2014)]] (ps := [(0 + 2 ≤ 2), (0 + 2 ≤ 2), (chkEq Try.prog 39 [ti r48, ti r48b] = true), ((!((r48 == r55) && ((r48b == r55b) && (true)))) = false), (True), ((!(r48c == r55c)) = false), (True), ((!(r62 == r69)) = false), (True), ((!(r62b == r69b)) = false), (True), ((r81 != r87) = false), (True), ((!(r81b == r87b)) = false), (True), ((r93 != r99) = false), (True), ((!(r93b == r99b)) = false), (True), ((!(r48c == r62b)) = false), (True)]) (e := .normal) (σ' := ⟨[2003, 2006, 2014], [(149, vb (!(r81b == r93b))), (20, vi r93), (17, vb r81b), (16, vi r81), (15, vi r75c), (14, V.ref 2014 0), (10, vb r62), (7, vb r48c), (6, V.ref 2006 0), (5, vi r40d), (4, vi r40c), (3, V.ref 2003 0), (2, vb false)], [(2003, oc 27 [tl r40, ti r40b]), (2006, oc 39 [ti r48, ti r48b]), (2014, oc 27 [tl r75, ti r75b])]⟩) (by kernel_rfl) ⟨by decide, by decide, by kernel_rfl, h2, trivial, h3, trivial, h4, trivial, h5, trivial, h6, trivial, h7, trivial, h8, trivial, h9, trivial, h10, trivial, trivial⟩ ?_
                        exact ⟨(!(r81b == r93b)), h, rfl⟩
    · -- from there
      intro v149 h0
      have h := (show J1 v149 = some y0 from h0)
      rw [hJ1] at h
      rcases ite_some h with ⟨h11, h⟩ | ⟨h11, h⟩
      · -- yes
        refine WP.cond (b := v149) rfl (fun _ => ?_) (fun hh => by rw [h11] at hh; cases hh)
        have h := Option.some.inj h
        subst h
        exact WP.pathW tab_ok mixed [] _ (ps := []) (r := tb false) (by kernel_rfl) trivial (WkT.eq (y := tb false) (WkT.refl _) rfl) (fun _ h => h)
      · -- no
        refine WP.cond (b := v149) rfl (fun hh => by rw [h11] at hh; cases hh) (fun _ => ?_)
        refine WP.path tab_ok mixed [] [.keep [20, 17, 16, 15, 14, 10, 7, 6, 5, 4, 3, 2], .keepO [2003, 2006, 2014]] (ps := []) (e := .normal) (σ' := ⟨[2003, 2006, 2014], [(20, vi r93), (17, vb r81b), (16, vi r81), (15, vi r75c), (14, V.ref 2014 0), (10, vb r62), (7, vb r48c), (6, V.ref 2006 0), (5, vi r40d), (4, vi r40c), (3, V.ref 2003 0), (2, vb false)], [(2003, oc 27 [tl r40, ti r40b]), (2006, oc 39 [ti r48, ti r48b]), (2014, oc 27 [tl r75, ti r75b])]⟩) (by kernel_rfl) trivial ?_
        obtain ⟨J1, hJ1, h⟩ := jn_some h
        refine WP.joinA (fun (zz : Unit) => ⟨[2014], [(20, vi r93), (17, vb r81b), (16, vi r81), (15, vi r75c), (14, V.ref 2014 0), (2, vb false)], [(2014, oc 27 [tl r75, ti r75b])]⟩) (fun zz => J1 () = some y0) ?_ ?_
        · -- to where they meet
          refine WP.seq ?_
          refine WP.path tab_ok mixed [] [.keep [150, 20, 17, 16, 15, 14, 10, 6, 5, 4, 3, 2], .keepO [2003, 2006, 2014]] (ps := []) (e := .normal) (σ' := ⟨[2003, 2006, 2014], [(150, vb r48c), (20, vi r93), (17, vb r81b), (16, vi r81), (15, vi r75c), (14, V.ref 2014 0), (10, vb r62), (6, V.ref 2006 0), (5, vi r40d), (4, vi r40c), (3, V.ref 2003 0), (2, vb false)], [(2003, oc 27 [tl r40, ti r40b]), (2006, oc 39 [ti r48, ti r48b]), (2014, oc 27 [tl r75, ti r75b])]⟩) (by kernel_rfl) trivial ?_
          rcases ite_some h with ⟨h12, h⟩ | ⟨h12, h⟩
          · -- yes
            refine WP.cond (b := r48c) rfl (fun _ => ?_) (fun hh => by rw [h12] at hh; cases hh)
            refine WP.seq ?_
            obtain ⟨r154, r154b, c12, h⟩ := bnd2_some h
            refine WP.path tab_ok mixed [(154, An.call (T.tup [ti r154, tb r154b]))] [.keep [25, 24, 20, 17, 16, 15, 14, 10, 6, 5, 4, 3, 2], .keepO [2003, 2006, 2014]] (ps := [(0 + 2 ≤ 2), (C Try.prog 33 [T.agg [tl r40, ti r40b], ti r40d] (T.tup [ti r154, tb r154b]))]) (e := .normal) (σ' := ⟨[2003, 2006, 2014], [(25, vb r154b), (24, vi r154), (20, vi r93), (17, vb r81b), (16, vi r81), (15, vi r75c), (14, V.ref 2014 0), (10, vb r62), (6, V.ref 2006 0), (5, vi r40d), (4, vi r40c), (3, V.ref 2003 0), (2, vb false)], [(2003, oc 27 [tl r40, ti r40b]), (2006, oc 39 [ti r48, ti r48b]), (2014, oc 27 [tl r75, ti r75b])]⟩) (by kernel_rfl) ⟨by decide, (F_impl_StateWeight_W r40 r40b r40d r154 r154b c12), trivial⟩ ?_
            refine WP.seq ?_
            refine WP.path tab_ok mixed [(162, An.call (T.tup [ti (oqV ((List.length r40 : Nat) : Int) r40c), tb (isQ ((List.length r40 : Nat) : Int) r40c)]))] [.keep [27, 26, 25, 24, 20, 17, 16, 15, 14, 10, 6, 5, 4, 3, 2], .keepO [2003, 2006, 2014]] (ps := [(True), (C Try.prog 34 [ti ((List.length r40 : Nat) : Int), ti r40c] (T.tup [ti (oqV ((List.length r40 : Nat) : Int) r40c), tb (isQ ((List.length r40 : Nat) : Int) r40c)]))]) (e := .normal) (σ' := ⟨[2003, 2006, 2014], [(27, vb (isQ ((List.length r40 : Nat) : Int) r40c)), (26, vi (oqV ((List.length r40 : Nat) : Int) r40c)), (25, vb r154b), (24, vi r154), (20, vi r93), (17, vb r81b), (16, vi r81), (15, vi r75c), (14, V.ref 2014 0), (10, vb r62), (6, V.ref 2006 0), (5, vi r40d), (4, vi r40c), (3, V.ref 2003 0), (2, vb false)], [(2003, oc 27 [tl r40, ti r40b]), (2006, oc 39 [ti r48, ti r48b]), (2014, oc 27 [tl r75, ti r75b])]⟩) (by kernel_rfl) ⟨trivial, (iOtherQuestion_C ((List.length r40 : Nat) : Int) r40c), trivial⟩ ?_
            refine WP.seq ?_
            obtain ⟨r169, r169b, r169c, c13, h⟩ := bnd3_some h
            refine WP.path tab_ok mixed [(169, An.call (T.tup [T.agg [ti r169, ti r169b], tb r169c])), (28, An.id 2028)] [.keep [29, 28, 27, 25, 24, 20, 17, 16, 15, 14, 10, 6, 5, 4, 3, 2], .keepO [2003, 2006, 2014, 2028]] (ps := [(0 + 2 ≤ 2), (C Try.prog 23 [T.agg [tl r40, ti r40b], ti (oqV ((List.length r40 : Nat) : Int) r40c), ti r40d] (T.tup [T.agg [ti r169, ti r169b], tb r169c])), ((0 + 2 ≤ 2 ∧ 2 = 2))]) (e := .normal) (σ' := ⟨[2028, 2003, 2006, 2014], [(29, vb r169c), (28, V.ref 2028 0), (27, vb (isQ ((List.length r40 : Nat) : Int) r40c)), (25, vb r154b), (24, vi r154), (20, vi r93), (17, vb r81b), (16, vi r81), (15, vi r75c), (14, V.ref 2014 0), (10, vb r62), (6, V.ref 2006 0), (5, vi r40d), (4, vi r40c), (3, V.ref 2003 0), (2, vb false)], [(2003, oc 27 [tl r40, ti r40b]), (2006, oc 39 [ti r48, ti r48b]), (2014, oc 27 [tl r75, ti r75b]), (2028, oc 39 [ti r169, ti r169b])]⟩) (by kernel_rfl) ⟨by decide, (F_impl_AnswerWeights_W r40 r40b (oqV ((List.length r40 : Nat) : Int) r40c) r40d r169 r169b r169c c13), by decide, trivial⟩ ?_
            refine WP.seq ?_
            obtain ⟨J2, hJ2, h⟩ := jn_some h
            refine WP.joinA (fun (zz : Bool) => ⟨[2003, 2006, 2014], [(222, vb zz), (20, vi r93), (17, vb r81b), (16, vi r81), (15, vi r75c), (14, V.ref 2014 0), (6, V.ref 2006 0), (5, vi r40d), (4, vi r40c), (3, V.ref 2003 0), (2, vb false)], [(2003, oc 27 [tl r40, ti r40b]), (2006, oc 39 [ti r48, ti r48b]), (2014, oc 27 [tl r75, ti r75b])]⟩) (fun zz => J2 zz = some y0) ?_ ?_
            · -- to where they meet
              rcases ite_some h with ⟨h13, h⟩ | ⟨h13, h⟩
              · -- yes
                refine WP.path tab_ok mixed [(174, An.b true)] [.keep [222, 20, 17, 16, 15, 14, 6, 5, 4, 3, 2], .keepO [2003, 2006, 2014], .names [(2003, 2003), (2006, 2006), (2014, 2014)]] (ps := [((!r154b) = true)]) (e := .normal) (σ' := ⟨[2003, 2006, 2014], [(222, vb true), (20, vi r93), (17, vb r81b), (16, vi r81), (15, vi r75c), (14, V.ref 2014 0), (6, V.ref 2006 0), (5, vi r40d), (4, vi r40c), (3, V.ref 2003 0), (2, vb false)], [(2003, oc 27 [tl r40, ti r40b]), (2006, oc 39 [ti r48, ti r48b]), (2014, oc 27 [tl r75, ti r75b])]⟩) (by kernel_rfl) ⟨h13, trivial⟩ ?_
                exact ⟨(true), h, rfl⟩
              · -- no
                rcases ite_some h with ⟨h14, h⟩ | ⟨h14, h⟩
                · -- yes
                  refine WP.path tab_ok mixed [(174, An.b false), (178, An.b true)] [.keep [222, 20, 17, 16, 15, 14, 6, 5, 4, 3, 2], .keepO [2003, 2006, 2014], .names [(2003, 2003), (2006, 2006), (2014, 2014)]] (ps := [((!r154b) = false), ((!(isQ ((List.length r40 : Nat) : Int) r40c)) = true)]) (e := .normal) (σ' := ⟨[2003, 2006, 2014], [(222, vb true), (20, vi r93), (17, vb r81b), (16, vi r81), (15, vi r75c), (14, V.ref 2014 0), (6, V.ref 2006 0), (5, vi r40d), (4, vi r40c), (3, V.ref 2003 0), (2, vb false)], [(2003, oc 27 [tl r40, ti r40b]), (2006, oc 39 [ti r48, ti r48b]), (2014, oc 27 [tl r75, ti r75b])]⟩) (by kernel_rfl) ⟨h13, h14, trivial⟩ ?_
                  exact ⟨(true), h, rfl⟩
                · -- no
                  rcases ite_some h with ⟨h15, h⟩ | ⟨h15, h⟩
                  · -- yes
                    refine WP.path tab_ok mixed [(174, An.b false), (178, An.b false), (182, An.b true)] [.keep [222, 20, 17, 16, 15, 14, 6, 5, 4, 3, 2], .keepO [2003, 2006, 2014], .names [(2003, 2003), (2006, 2006), (2014, 2014)]] (ps := [((!r154b) = false), ((!(isQ ((List.length r40 : Nat) : Int) r40c)) = false), ((!r169c) = true)]) (e := .normal) (σ' := ⟨[2003, 2006, 2014], [(222, vb true), (20, vi r93), (17, vb r81b), (16, vi r81), (15, vi r75c), (14, V.ref 2014 0), (6, V.ref 2006 0), (5, vi r40d), (4, vi r40c), (3, V.ref 2003 0), (2, vb false)], [(2003, oc 27 [tl r40, ti r40b]), (2006, oc 39 [ti r48, ti r48b]), (2014, oc 27 [tl r75, ti r75b])]⟩) (by kernel_rfl) ⟨h13, h14, h15, trivial⟩ ?_
                    exact ⟨(true), h, rfl⟩
                  · -- no
                    obtain ⟨c14, h⟩ := chk_some h
                    rcases ite_some h with ⟨h16, h⟩ | ⟨h16, h⟩
                    · -- yes
                      refine WP.path tab_ok mixed [(174, An.b false), (178, An.b false), (182, An.b false), (187, An.v (T.int .i64 (r48 + r48b))), (189, An.b true)] [.keep [222, 20, 17, 16, 15, 14, 6, 5, 4, 3, 2], .keepO [2003, 2006, 2014], .names [(2003, 2003), (2006, 2006), (2014, 2014)]] (ps := [((!r154b) = false), ((!(isQ ((List.length r40 : Nat) : Int) r40c)) = false), ((!r169c) = false), ((0 ≤ (0 : Int) ∧ (0 : Int) < (2 : Int))), (True), ((0 ≤ (1 : Int) ∧ (1 : Int) < (2 : Int))), (True), (True), (T.int .i64 (IntKind.wrap .i64 (r48 + r48b)) = T.int .i64 (r48 + r48b)), (True), (((r48 + r48b) != r154) = true)]) (e := .normal) (σ' := ⟨[2003, 2006, 2014], [(222, vb true), (20, vi r93), (17, vb r81b), (16, vi r81), (15, vi r75c), (14, V.ref 2014 0), (6, V.ref 2006 0), (5, vi r40d), (4, vi r40c), (3, V.ref 2003 0), (2, vb false)], [(2003, oc 27 [tl r40, ti r40b]), (2006, oc 39 [ti r48, ti r48b]), (2014, oc 27 [tl r75, ti r75b])]⟩) (by kernel_rfl) ⟨h13, h14, h15, by decide, trivial, by decide, trivial, trivial, wrapI c14, trivial, h16, trivial⟩ ?_
                      exact ⟨(true), h, rfl⟩
                    · -- no
                      rcases ite_some h with ⟨h17, h⟩ | ⟨h17, h⟩
                      · -- yes
                        refine WP.path tab_ok mixed [(174, An.b false), (178, An.b false), (182, An.b false), (187, An.v (T.int .i64 (r48 + r48b))), (189, An.b false), (196, An.b true)] [.keep [222, 20, 17, 16, 15, 14, 6, 5, 4, 3, 2], .keepO [2003, 2006, 2014], .names [(2003, 2003), (2006, 2006), (2014, 2014)]] (ps := [((!r154b) = false), ((!(isQ ((List.length r40 : Nat) : Int) r40c)) = false), ((!r169c) = false), ((0 ≤ (0 : Int) ∧ (0 : Int) < (2 : Int))), (True), ((0 ≤ (1 : Int) ∧ (1 : Int) < (2 : Int))), (True), (True), (T.int .i64 (IntKind.wrap .i64 (r48 + r48b)) = T.int .i64 (r48 + r48b)), (True), (((r48 + r48b) != r154) = false), ((0 ≤ (0 : Int) ∧ (0 : Int) < (2 : Int))), (True), ((0 ≤ (1 : Int) ∧ (1 : Int) < (2 : Int))), (True), (True), ((r169 != r48b) = true)]) (e := .normal) (σ' := ⟨[2003, 2006, 2014], [(222, vb true), (20, vi r93), (17, vb r81b), (16, vi r81), (15, vi r75c), (14, V.ref 2014 0), (6, V.ref 2006 0), (5, vi r40d), (4, vi r40c), (3, V.ref 2003 0), (2, vb false)], [(2003, oc 27 [tl r40, ti r40b]), (2006, oc 39 [ti r48, ti r48b]), (2014, oc 27 [tl r75, ti r75b])]⟩) (by kernel_rfl) ⟨h13, h14, h15, by decide, trivial, by decide, trivial, trivial, wrapI c14, trivial, h16, by decide, trivial, by decide, trivial, trivial, h17, trivial⟩ ?_
                        exact ⟨(true), h, rfl⟩
                      · -- no
                        rcases ite_some h with ⟨h18, h⟩ | ⟨h18, h⟩
                        · -- yes
                          refine WP.path tab_ok mixed [(174, An.b false), (178, An.b false), (182, An.b false), (187, An.v (T.int .i64 (r48 + r48b))), (189, An.b false), (196, An.b false), (203, An.b true)] [.keep [222, 20, 17, 16, 15, 14, 6, 5, 4, 3, 2], .keepO [2003, 2006, 2014], .names [(2003, 2003), (2006, 2006), (2014, 2014)]] (ps := [((!r154b) = false), ((!(isQ ((List.length r40 : Nat) : Int) r40c)) = false), ((!r169c) = false), ((0 ≤ (0 : Int) ∧ (0 : Int) < (2 : Int))), (True), ((0 ≤ (1 : Int) ∧ (1 : Int) < (2 : Int))), (True), (True), (T.int .i64 (IntKind.wrap .i64 (r48 + r48b)) = T.int .i64 (r48 + r48b)), (True), (((r48 + r48b) != r154) = false), ((0 ≤ (0 : Int) ∧ (0 : Int) < (2 : Int))), (True), ((0 ≤ (1 : Int) ∧ (1 : Int) < (2 : Int))), (True), (True), ((r169 != r48b) = false), ((0 ≤ (1 : Int) ∧ (1 : Int) < (2 : Int))), (True), ((0 ≤ (0 : Int) ∧ (0 : Int) < (2 : Int))), (True), (True), ((r169b != r48) = true)]) (e := .normal) (σ' := ⟨[2003, 2006, 2014], [(222, vb true), (20, vi r93), (17, vb r81b), (16, vi r81), (15, vi r75c), (14, V.ref 2014 0), (6, V.ref 2006 0), (5, vi r40d), (4, vi r40c), (3, V.ref 2003 0), (2, vb false)], [(2003, oc 27 [tl r40, ti r40b]), (2006, oc 39 [ti r48, ti r48b]), (2014, oc 27 [tl r75, ti r75b])]⟩) (by kernel_rfl) ⟨h13, h14, h15, by decide, trivial, by decide, trivial, trivial, wrapI c14, trivial, h16, by decide, trivial, by decide, trivial, trivial, h17, by decide, trivial, by decide, trivial, trivial, h18, trivial⟩ ?_
                          exact ⟨(true), h, rfl⟩
                        · -- no
                          obtain ⟨c15, h⟩ := chk_some h
                          obtain ⟨c16, h⟩ := chk_some h
                          rcases ite_some h with ⟨h19, h⟩ | ⟨h19, h⟩
                          · -- yes
                            refine WP.path tab_ok mixed [(174, An.b false), (178, An.b false), (182, An.b false), (187, An.v (T.int .i64 (r48 + r48b))), (189, An.b false), (196, An.b false), (203, An.b false), (210, An.v (T.int .i64 (r40d - (1 : Int)))), (211, An.v (T.int .i64 ((1 : Int) * 2 ^ Int.toNat (r40d - (1 : Int))))), (212, An.b true), (217, An.v (T.int .i64 (r40d - (1 : Int)))), (218, An.v (T.int .i64 ((1 : Int) * 2 ^ Int.toNat (r40d - (1 : Int)))))] [.keep [222, 20, 17, 16, 15, 14, 6, 5, 4, 3, 2], .keepO [2003, 2006, 2014], .names [(2003, 2003), (2006, 2006), (2014, 2014)]] (ps := [((!r154b) = false), ((!(isQ ((List.length r40 : Nat) : Int) r40c)) = false), ((!r169c) = false), ((0 ≤ (0 : Int) ∧ (0 : Int) < (2 : Int))), (True), ((0 ≤ (1 : Int) ∧ (1 : Int) < (2 : Int))), (True), (True), (T.int .i64 (IntKind.wrap .i64 (r48 + r48b)) = T.int .i64 (r48 + r48b)), (True), (((r48 + r48b) != r154) = false), ((0 ≤ (0 : Int) ∧ (0 : Int) < (2 : Int))), (True), ((0 ≤ (1 : Int) ∧ (1 : Int) < (2 : Int))), (True), (True), ((r169 != r48b) = false), ((0 ≤ (1 : Int) ∧ (1 : Int) < (2 : Int))), (True), ((0 ≤ (0 : Int) ∧ (0 : Int) < (2 : Int))), (True), (True), ((r169b != r48) = false), ((0 ≤ (0 : Int) ∧ (0 : Int) < (2 : Int))), (True), (True), (T.int .i64 (IntKind.wrap .i64 (r40d - (1 : Int))) = T.int .i64 (r40d - (1 : Int))), (0 ≤ (r40d - (1 : Int))), (T.int .i64 (IntKind.wrap .i64 ((1 : Int) * 2 ^ (min (Int.toNat (r40d - (1 : Int))) 64))) = T.int .i64 ((1 : Int) * 2 ^ Int.toNat (r40d - (1 : Int)))), (True), ((decide (r48 ≤ ((1 : Int) * 2 ^ Int.toNat (r40d - (1 : Int))))) = true), ((0 ≤ (1 : Int) ∧ (1 : Int) < (2 : Int))), (True), (True), (T.int .i64 (IntKind.wrap .i64 (r40d - (1 : Int))) = T.int .i64 (r40d - (1 : Int))), (0 ≤ (r40d - (1 : Int))), (T.int .i64 (IntKind.wrap .i64 ((1 : Int) * 2 ^ (min (Int.toNat (r40d - (1 : Int))) 64))) = T.int .i64 ((1 : Int) * 2 ^ Int.toNat (r40d - (1 : Int)))), (True), (True)]) (e := .normal) (σ' := ⟨[2003, 2006, 2014], [(222, vb (!(r62 == (decide (r48b ≤ ((1 : Int) * 2 ^ Int.toNat (r40d - (1 : Int)))))))), (20, vi r93), (17, vb r81b), (16, vi r81), (15, vi r75c), (14, V.ref 2014 0), (6, V.ref 2006 0), (5, vi r40d), (4, vi r40c), (3, V.ref 2003 0), (2, vb false)], [(2003, oc 27 [tl r40, ti r40b]), (2006, oc 39 [ti r48, ti r48b]), (2014, oc 27 [tl r75, ti r75b])]⟩) (by kernel_rfl) ⟨h13, h14, h15, by decide, trivial, by decide, trivial, trivial, wrapI c14, trivial, h16, by decide, trivial, by decide, trivial, trivial, h17, by decide, trivial, by decide, trivial, trivial, h18, by decide, trivial, trivial, wrapI c15, c16.1, shl_told c16, trivial, h19, by decide, trivial, trivial, wrapI c15, c16.1, shl_told c16, trivial, trivial, trivial⟩ ?_
                            exact ⟨(!(r62 == (decide (r48b ≤ ((1 : Int) * 2 ^ Int.toNat (r40d - (1 : Int))))))), h, rfl⟩
                          · -- no
                            refine WP.path tab_ok mixed [(174, An.b false), (178, An.b false), (182, An.b false), (187, An.v (T.int .i64 (r48 + r48b))), (189, An.b false), (196, An.b false), (203, An.b false), (210, An.v (T.int .i64 (r40d - (1 : Int)))), (211, An.v (T.int .i64 ((1 : Int) * 2 ^ Int.toNat (r40d - (1 : Int))))), (212, An.b false)] [.keep [222, 20, 17, 16, 15, 14, 6, 5, 4, 3, 2], .keepO [2003, 2006, 2014], .names [(2003, 2003), (2006, 2006), (2014, 2014)]] (ps := [((!r154b) = false), ((!(isQ ((List.length r40 : Nat) : Int) r40c)) = false), ((!r169c) = false), ((0 ≤ (0 : Int) ∧ (0 : Int) < (2 : Int))), (True), ((0 ≤ (1 : Int) ∧ (1 : Int) < (2 : Int))), (True), (True), (T.int .i64 (IntKind.wrap .i64 (r48 + r48b)) = T.int .i64 (r48 + r48b)), (True), (((r48 + r48b) != r154) = false), ((0 ≤ (0 : Int) ∧ (0 : Int) < (2 : Int))), (True), ((0 ≤ (1 : Int) ∧ (1 : Int) < (2 : Int))), (True), (True), ((r169 != r48b) = false), ((0 ≤ (1 : Int) ∧ (1 : Int) < (2 : Int))), (True), ((0 ≤ (0 : Int) ∧ (0 : Int) < (2 : Int))), (True), (True), ((r169b != r48) = false), ((0 ≤ (0 : Int) ∧ (0 : Int) < (2 : Int))), (True), (True), (T.int .i64 (IntKind.wrap .i64 (r40d - (1 : Int))) = T.int .i64 (r40d - (1 : Int))), (0 ≤ (r40d - (1 : Int))), (T.int .i64 (IntKind.wrap .i64 ((1 : Int) * 2 ^ (min (Int.toNat (r40d - (1 : Int))) 64))) = T.int .i64 ((1 : Int) * 2 ^ Int.toNat (r40d - (1 : Int)))), (True), ((decide (r48 ≤ ((1 : Int) * 2 ^ Int.toNat (r40d - (1 : Int))))) = false), (True)]) (e := .normal) (σ' := ⟨[2003, 2006, 2014], [(222, vb (!(r62 == false))), (20, vi r93), (17, vb r81b), (16, vi r81), (15, vi r75c), (14, V.ref 2014 0), (6, V.ref 2006 0), (5, vi r40d), (4, vi r40c), (3, V.ref 2003 0), (2, vb false)], [(2003, oc 27 [tl r40, ti r40b]), (2006, oc 39 [ti r48, ti r48b]), (2014, oc 27 [tl r75, ti r75b])]⟩) (by kernel_rfl) ⟨h13, h14, h15, by decide, trivial, by decide, trivial, trivial, wrapI c14, trivial, h16, by decide, trivial, by decide, trivial, trivial, h17, by decide, trivial, by decide, trivial, trivial, h18, by decide, trivial, trivial, wrapI c15, c16.1, shl_told c16, trivial, h19, trivial, trivial⟩ ?_
                            exact ⟨(!(r62 == false)), h, rfl⟩
            · -- from there
              intro v222 h0
              have h := (show J2 v222 = some y0 from h0)
              rw [hJ2] at h
              rcases ite_some h with ⟨h20, h⟩ | ⟨h20, h⟩
              · -- yes
                refine WP.cond (b := v222) rfl (fun _ => ?_) (fun hh => by rw [h20] at hh; cases hh)
                have h := Option.some.inj h
                subst h
                exact WP.pathW tab_ok mixed [] _ (ps := []) (r := tb false) (by kernel_rfl) trivial (WkT.eq (y := tb false) (WkT.refl _) rfl) (fun _ h => h)
              · -- no
                refine WP.cond (b := v222) rfl (fun hh => by rw [h20] at hh; cases hh) (fun _ => ?_)
                refine WP.path tab_ok mixed [] [.keep [20, 17, 16, 15, 14, 6, 5, 4, 3, 2], .keepO [2003, 2006, 2014]] (ps := []) (e := .normal) (σ' := ⟨[2003, 2006, 2014], [(20, vi r93), (17, vb r81b), (16, vi r81), (15, vi r75c), (14, V.ref 2014 0), (6, V.ref 2006 0), (5, vi r40d), (4, vi r40c), (3, V.ref 2003 0), (2, vb false)], [(2003, oc 27 [tl r40, ti r40b]), (2006, oc 39 [ti r48, ti r48b]), (2014, oc 27 [tl r75, ti r75b])]⟩) (by kernel_rfl) trivial ?_
                refine WP.seq ?_
                obtain ⟨c14, h⟩ := chk_some h
                refine WP.path tab_ok mixed [(227, An.call (T.tup [T.agg [tl (asL r40 r40b r40c true), ti (asM r40 r40b r40c true)], tb (asB r40 r40b r40c)])), (30, An.id 2030)] [.keep [31, 30, 20, 17, 16, 15, 14, 6, 5, 2], .keepO [2006, 2014, 2030]] (ps := [(0 + 2 ≤ 2), ((1 = 1 ∧ 0 + 1 ≤ 2) ∧ (1 = 1 ∧ 1 + 1 ≤ 2) ∧ True), (C Try.prog 35 [T.agg [tl r40, ti r40b], T.agg [ti r40c, tb true]] (T.tup [T.agg [tl (asL r40 r40b r40c true), ti (asM r40 r40b r40c true)], tb (asB r40 r40b r40c)])), ((0 + 2 ≤ 2 ∧ 2 = 2))]) (e := .normal) (σ' := ⟨[2030, 2003, 2006, 2014], [(31, vb (asB r40 r40b r40c)), (30, V.ref 2030 0), (20, vi r93), (17, vb r81b), (16, vi r81), (15, vi r75c), (14, V.ref 2014 0), (6, V.ref 2006 0), (5, vi r40d), (2, vb false)], [(2006, oc 39 [ti r48, ti r48b]), (2014, oc 27 [tl r75, ti r75b]), (2030, oc 27 [tl (asL r40 r40b r40c true), ti (asM r40 r40b r40c true)])]⟩) (by kernel_rfl) ⟨by decide, ⟨⟨by first | rfl | (simp; done) | (simp []; done) | omega, by first | decide | (simp; done) | (simp []; done) | omega | (simp only [tlL]; omega) | (simp; omega)⟩, ⟨by first | rfl | (simp; done) | (simp []; done) | omega, by first | decide | (simp; done) | (simp []; done) | omega | (simp only [tlL]; omega) | (simp; omega)⟩, trivial⟩, (iAnswerState_C r40 r40b r40c true c14), by decide, trivial⟩ ?_
                refine WP.seq ?_
                obtain ⟨c15, h⟩ := chk_some h
                obtain ⟨r234, r234b, c16, h⟩ := bnd2_some h
                refine WP.path tab_ok mixed [(233, An.v (T.int .i64 (r40d - (1 : Int)))), (234, An.call (T.tup [ti r234, tb r234b]))] [.keep [33, 32, 31, 20, 17, 16, 15, 14, 6, 2], .keepO [2006, 2014]] (ps := [(0 + 2 ≤ 2), (True), (T.int .i64 (IntKind.wrap .i64 (r40d - (1 : Int))) = T.int .i64 (r40d - (1 : Int))), (C Try.prog 33 [T.agg [tl (asL r40 r40b r40c true), ti (asM r40 r40b r40c true)], ti (r40d - (1 : Int))] (T.tup [ti r234, tb r234b]))]) (e := .normal) (σ' := ⟨[2030, 2003, 2006, 2014], [(33, vb r234b), (32, vi r234), (31, vb (asB r40 r40b r40c)), (20, vi r93), (17, vb r81b), (16, vi r81), (15, vi r75c), (14, V.ref 2014 0), (6, V.ref 2006 0), (2, vb false)], [(2006, oc 39 [ti r48, ti r48b]), (2014, oc 27 [tl r75, ti r75b])]⟩) (by kernel_rfl) ⟨by decide, trivial, wrapI c15, (F_impl_StateWeight_W (asL r40 r40b r40c true) (asM r40 r40b r40c true) (r40d - (1 : Int)) r234 r234b c16), trivial⟩ ?_
                obtain ⟨J2, hJ2, h⟩ := jn_some h
                refine WP.joinA (fun (zz : Bool) => ⟨[2014], [(248, vb zz), (20, vi r93), (17, vb r81b), (16, vi r81), (15, vi r75c), (14, V.ref 2014 0), (2, vb false)], [(2014, oc 27 [tl r75, ti r75b])]⟩) (fun zz => J2 zz = some y0) ?_ ?_
                · -- to where they meet
                  rcases ite_some h with ⟨h21, h⟩ | ⟨h21, h⟩
                  · -- yes
                    refine WP.path tab_ok mixed [(239, An.b true)] [.keep [248, 20, 17, 16, 15, 14, 2], .keepO [2014], .names [(2014, 2014)]] (ps := [((!(asB r40 r40b r40c)) = true)]) (e := .normal) (σ' := ⟨[2014], [(248, vb true), (20, vi r93), (17, vb r81b), (16, vi r81), (15, vi r75c), (14, V.ref 2014 0), (2, vb false)], [(2014, oc 27 [tl r75, ti r75b])]⟩) (by kernel_rfl) ⟨h21, trivial⟩ ?_
                    exact ⟨(true), h, rfl⟩
                  · -- no
                    rcases ite_some h with ⟨h22, h⟩ | ⟨h22, h⟩
                    · -- yes
                      refine WP.path tab_ok mixed [(239, An.b false), (243, An.b true)] [.keep [248, 20, 17, 16, 15, 14, 2], .keepO [2014], .names [(2014, 2014)]] (ps := [((!(asB r40 r40b r40c)) = false), ((!r234b) = true)]) (e := .normal) (σ' := ⟨[2014], [(248, vb true), (20, vi r93), (17, vb r81b), (16, vi r81), (15, vi r75c), (14, V.ref 2014 0), (2, vb false)], [(2014, oc 27 [tl r75, ti r75b])]⟩) (by kernel_rfl) ⟨h21, h22, trivial⟩ ?_
                      exact ⟨(true), h, rfl⟩
                    · -- no
                      refine WP.path tab_ok mixed [(239, An.b false), (243, An.b false)] [.keep [248, 20, 17, 16, 15, 14, 2], .keepO [2014], .names [(2014, 2014)]] (ps := [((!(asB r40 r40b r40c)) = false), ((!r234b) = false), ((0 ≤ (0 : Int) ∧ (0 : Int) < (2 : Int))), (True), (True)]) (e := .normal) (σ' := ⟨[2014], [(248, vb (r234 != r48)), (20, vi r93), (17, vb r81b), (16, vi r81), (15, vi r75c), (14, V.ref 2014 0), (2, vb false)], [(2014, oc 27 [tl r75, ti r75b])]⟩) (by kernel_rfl) ⟨h21, h22, by decide, trivial, trivial, trivial⟩ ?_
                      exact ⟨(r234 != r48), h, rfl⟩
                · -- from there
                  intro v248 h0
                  have h := (show J2 v248 = some y0 from h0)
                  rw [hJ2] at h
                  rcases ite_some h with ⟨h23, h⟩ | ⟨h23, h⟩
                  · -- yes
                    refine WP.cond (b := v248) rfl (fun _ => ?_) (fun hh => by rw [h23] at hh; cases hh)
                    have h := Option.some.inj h
                    subst h
                    exact WP.pathW tab_ok mixed [] _ (ps := []) (r := tb false) (by kernel_rfl) trivial (WkT.eq (y := tb false) (WkT.refl _) rfl) (fun _ h => h)
                  · -- no
                    refine WP.cond (b := v248) rfl (fun hh => by rw [h23] at hh; cases hh) (fun _ => ?_)
                    refine WP.path tab_ok mixed [] [.keep [20, 17, 16, 15, 14, 2], .keepO [2014], .names [(2014, 2014)]] (ps := []) (e := .normal) (σ' := ⟨[2014], [(20, vi r93), (17, vb r81b), (16, vi r81), (15, vi r75c), (14, V.ref 2014 0), (2, vb false)], [(2014, oc 27 [tl r75, ti r75b])]⟩) (by kernel_rfl) trivial ?_
                    exact ⟨(), h, rfl⟩
          · -- no
            refine WP.cond (b := r48c) rfl (fun hh => by rw [h12] at hh; cases hh) (fun _ => ?_)
            refine WP.path tab_ok mixed [] [.keep [20, 17, 16, 15, 14, 2], .keepO [2014], .names [(2014, 2014)]] (ps := []) (e := .normal) (σ' := ⟨[2014], [(20, vi r93), (17, vb r81b), (16, vi r81), (15, vi r75c), (14, V.ref 2014 0), (2, vb false)], [(2014, oc 27 [tl r75, ti r75b])]⟩) (by kernel_rfl) trivial ?_
            exact ⟨(), h, rfl⟩
        · -- from there
          intro _ h0
          have h := (show J1 () = some y0 from h0)
          rw [hJ1] at h
          refine WP.seq ?_
          refine WP.seq ?_
          refine WP.path tab_ok mixed [] [.keep [249, 20, 16, 15, 14, 2], .keepO [2014]] (ps := []) (e := .normal) (σ' := ⟨[2014], [(249, vb r81b), (20, vi r93), (16, vi r81), (15, vi r75c), (14, V.ref 2014 0), (2, vb false)], [(2014, oc 27 [tl r75, ti r75b])]⟩) (by kernel_rfl) trivial ?_
          rcases ite_some h with ⟨h24, h⟩ | ⟨h24, h⟩
          · -- yes
            refine WP.cond (b := r81b) rfl (fun _ => ?_) (fun hh => by rw [h24] at hh; cases hh)
            obtain ⟨r254, r254b, c12, h⟩ := bnd2_some h
            rcases ite_some h with ⟨h25, h⟩ | ⟨h25, h⟩
            · -- yes
              rcases ite_some h with ⟨h26, h⟩ | ⟨h26, h⟩
              · -- yes
                have h := Option.some.inj h
                subst h
                exact WP.pathW tab_ok mixed [(254, An.call (T.tup [tb r254, tb r254b])), (256, An.b true), (262, An.b true)] _ (ps := [(0 + 2 ≤ 2), (C Try.prog 25 [T.agg [tl r75, ti r75b], ti r81, ti r75c] (T.tup [tb r254, tb r254b])), ((r254b) = true), (True), (True), ((r254 == (decide (r93 > (0 : Int)))) = true), ((2 : Int) ≠ 0), (True)]) (r := tb ((Int.tmod r93 (2 : Int)) == (0 : Int))) (by kernel_rfl) ⟨by decide, (F_impl_IsBalanced_W r75 r75b r81 r75c r254 r254b c12), h25, trivial, trivial, h26, by decide, trivial, trivial⟩ (WkT.eq (y := tb ((Int.tmod r93 (2 : Int)) == (0 : Int))) (WkT.refl _) rfl) (fun _ h => h)
              · -- no
                have h := Option.some.inj h
                subst h
                exact WP.pathW tab_ok mixed [(254, An.call (T.tup [tb r254, tb r254b])), (256, An.b true), (262, An.b false)] _ (ps := [(0 + 2 ≤ 2), (C Try.prog 25 [T.agg [tl r75, ti r75b], ti r81, ti r75c] (T.tup [tb r254, tb r254b])), ((r254b) = true), (True), (True), ((r254 == (decide (r93 > (0 : Int)))) = false)]) (r := tb false) (by kernel_rfl) ⟨by decide, (F_impl_IsBalanced_W r75 r75b r81 r75c r254 r254b c12), h25, trivial, trivial, h26, trivial⟩ (WkT.eq (y := tb false) (WkT.refl _) rfl) (fun _ h => h)
            · -- no
              have h := Option.some.inj h
              subst h
              exact WP.pathW tab_ok mixed [(254, An.call (T.tup [tb r254, tb r254b])), (256, An.b false)] _ (ps := [(0 + 2 ≤ 2), (C Try.prog 25 [T.agg [tl r75, ti r75b], ti r81, ti r75c] (T.tup [tb r254, tb r254b])), ((r254b) = false)]) (r := tb false) (by kernel_rfl) ⟨by decide, (F_impl_IsBalanced_W r75 r75b r81 r75c r254 r254b c12), h25, trivial⟩ (WkT.eq (y := tb false) (WkT.refl _) rfl) (fun _ h => h)
          · -- no
            refine WP.cond (b := r81b) rfl (fun hh => by rw [h24] at hh; cases hh) (fun _ => ?_)
            refine WP.path tab_ok mixed [] [.keep [2], .keepO []] (ps := []) (e := .normal) (σ' := ⟨[2014], [(2, vb false)], []⟩) (by kernel_rfl) trivial ?_
            have h := Option.some.inj h
            subst h
            exact WP.pathW tab_ok mixed [] _ (ps := []) (r := tb true) (by kernel_rfl) trivial (WkT.eq (y := tb true) (WkT.refl _) rfl) (fun _ h => h)

end Go.Proofs.Ytbaooedhbihkjaa.AuB
