/-
  The walks: each function of the program returns what the plain function beside it returns. No statement is proved here.
-/
import Derived.Test.YtopodonemnnjdaaTlGroupc


import Derived.Test.YtopodonemnnjdaaAuHoF
import Derived.Test.YtopodonemnnjdaaProg
import Derived.Test.YtopodonemnnjdaaAuHoO
namespace Go.Proofs.Ytopodonemnnjdaa.AuHoa
open Go Go.Tl Go.Proofs
open Go.Proofs.Ytopodonemnnjdaa.AuHoO hiding tab tab_ok mixed
set_option linter.unusedVariables false
set_option linter.unusedSimpArgs false
set_option maxRecDepth 100000
def tab : Tab := [(3, ⟨.int .i64, 1, 8, [.int .i64 0]⟩), (4, ⟨.bool, 1, 1, [.bool false]⟩), (5, ⟨.int .u8, 1, 1, [.int .u8 0]⟩), (22, ⟨.slice 5 1 1, 1, 24, [.nils]⟩), (24, ⟨.slice 3 1 8, 1, 24, [.nils]⟩), (26, ⟨.struct [(0, 1, false), (1, 1, false)], 2, 32, [.nils, .int .i64 0]⟩), (29, ⟨.slice 4 1 1, 1, 24, [.nils]⟩), (58, ⟨.func, 1, 8, [.nilf]⟩), (87, ⟨.pointer 90, 1, 8, [.nilp]⟩), (88, ⟨.int .u64, 1, 8, [.int .u64 0]⟩), (90, ⟨.struct [(0, 1, false), (1, 1, false), (2, 1, false)], 3, 40, [.nils, .int .i64 0, .int .u64 0]⟩), (101, ⟨.struct [(0, 1, false), (1, 1, false)], 2, 16, [.int .i64 0, .bool false]⟩)]
theorem tab_ok : chkTab Try.prog tab = true := by kernel_rfl
theorem mixed : Try.prog.follows .mixedOrders = true := by kernel_rfl
theorem F_p_spec_l1Cur_next_W (x0 : List Int) (x1 : Int) (x2 : Int) (y0 : Int) (y1 : List Int) (y2 : Int) (y3 : Int) (h : F_p_spec_l1Cur_next x0 x1 x2 = some (y0, y1, y2, y3)) : CG Try.prog 140 [V.ref 500 0] [(500, oc 90 [ty x0, ti x1, T.int .u64 x2])] (vi y0) [(500, oc 90 [ty y1, ti y2, T.int .u64 y3])] := by
  unfold F_p_spec_l1Cur_next at h
  refine CG.intro (tab := tab) tab_ok (fn := Try.f140) Try.func140 (by kernel_rfl) rfl (Nat.le_of_ble_eq_true rfl) (by kernel_rfl) ?_
  refine WP.seq ?_
  refine WP.path tab_ok mixed [] [.keep [2, 0], .keepO [500]] (ps := []) (e := .normal) (σ' := ⟨[500], [(2, vi 0), (0, V.ref 500 0)], [(500, oc 90 [ty x0, ti x1, T.int .u64 x2])]⟩) (by kernel_rfl) trivial ?_
  refine WP.seq ?_
  refine WP.path tab_ok mixed [] [.keep [3, 2, 0], .keepO [500]] (ps := []) (e := .normal) (σ' := ⟨[500], [(3, vi 0), (2, vi 0), (0, V.ref 500 0)], [(500, oc 90 [ty x0, ti x1, T.int .u64 x2])]⟩) (by kernel_rfl) trivial ?_
  obtain ⟨J1, hJ1, h⟩ := jn_some h
  refine WP.joinA (fun (zz : Int) => ⟨[500], [(3, vi zz), (2, vi 0), (0, V.ref 500 0)], [(500, oc 90 [ty x0, ti x1, T.int .u64 x2])]⟩) (fun zz => J1 zz = some (y0, y1, y2, y3)) ?_ ?_
  · -- to where they meet
    refine WP.seq ?_
    refine WP.path tab_ok mixed [] [.keep [13, 3, 2, 0], .keepO [500]] (ps := [(True), (True), (True)]) (e := .normal) (σ' := ⟨[500], [(13, vb (decide (x1 < ((List.length x0 : Nat) : Int)))), (3, vi 0), (2, vi 0), (0, V.ref 500 0)], [(500, oc 90 [ty x0, ti x1, T.int .u64 x2])]⟩) (by kernel_rfl) ⟨trivial, trivial, trivial, trivial⟩ ?_
    rcases ite_some h with ⟨h1, h⟩ | ⟨h1, h⟩
    · -- yes
      refine WP.cond (b := decide (x1 < ((List.length x0 : Nat) : Int))) rfl (fun _ => ?_) (fun hh => by rw [h1] at hh; cases hh)
      obtain ⟨c0, h⟩ := chk_some h
      obtain ⟨c1, h⟩ := chk_some h
      refine WP.path tab_ok mixed [(23, An.v (T.int .u8 (List.getD x0 (Int.toNat x1) 0))), (24, An.v (T.int .i64 (List.getD x0 (Int.toNat x1) 0)))] [.keep [3, 2, 0], .keepO [500], .names [(500, 500)]] (ps := [(True), (True), ((0 ≤ x1 ∧ x1 < ((List.length x0 : Nat) : Int))), ((List.drop ((Int.toNat x1) * 1) (List.map (T.int .u8) x0) : List T)[0]? = some (T.int .u8 (List.getD x0 (Int.toNat x1) 0))), (T.int .u8 (List.getD x0 (Int.toNat x1) 0) = T.int .u8 (List.getD x0 (Int.toNat x1) 0)), (T.int .i64 (IntKind.wrap .i64 (List.getD x0 (Int.toNat x1) 0)) = T.int .i64 (List.getD x0 (Int.toNat x1) 0))]) (e := .normal) (σ' := ⟨[500], [(3, vi (List.getD x0 (Int.toNat x1) 0)), (2, vi 0), (0, V.ref 500 0)], [(500, oc 90 [ty x0, ti x1, T.int .u64 x2])]⟩) (by kernel_rfl) ⟨trivial, trivial, c0, at1 (by simp) (by omega), rfl, wrapI c1, trivial⟩ ?_
      exact ⟨((List.getD x0 (Int.toNat x1) 0)), h, rfl⟩
    · -- no
      refine WP.cond (b := decide (x1 < ((List.length x0 : Nat) : Int))) rfl (fun hh => by rw [h1] at hh; cases hh) (fun _ => ?_)
      refine WP.path tab_ok mixed [] [.keep [3, 2, 0], .keepO [500], .names [(500, 500)]] (ps := []) (e := .normal) (σ' := ⟨[500], [(3, vi 0), (2, vi 0), (0, V.ref 500 0)], [(500, oc 90 [ty x0, ti x1, T.int .u64 x2])]⟩) (by kernel_rfl) trivial ?_
      exact ⟨((0 : Int)), h, (by first | rfl | (simp only [tlS, tl, vl, vo, oc, ov, tbl, vbl, ty, vy] <;> rfl) | (simp <;> omega) | (simp []; done) | (rw [List.take_of_length_le (by simp [])] <;> rfl) | (simp [List.take_of_length_le]; done))⟩
  · -- from there
    intro v3 h0
    have h := (show J1 v3 = some (y0, y1, y2, y3) from h0)
    rw [hJ1] at h
    refine WP.seq ?_
    obtain ⟨c0, h⟩ := chk_some h
    refine WP.path tab_ok mixed [(29, An.v (T.int .i64 (x1 + (1 : Int))))] [.keep [3, 2, 0], .keepO [500]] (ps := [(True), (True), (T.int .i64 (IntKind.wrap .i64 (x1 + (1 : Int))) = T.int .i64 (x1 + (1 : Int))), (1 < 3)]) (e := .normal) (σ' := ⟨[500], [(3, vi v3), (2, vi 0), (0, V.ref 500 0)], [(500, oc 90 [ty x0, ti (x1 + (1 : Int)), T.int .u64 x2])]⟩) (by kernel_rfl) ⟨trivial, trivial, wrapI c0, by decide, trivial⟩ ?_
    refine WP.seq ?_
    obtain ⟨n37, c1, h⟩ := nam_some h
    obtain ⟨n40, c2, h⟩ := nam_some h
    refine WP.path tab_ok mixed [(37, An.v (T.int .u64 n37)), (40, An.v (T.int .u64 n40))] [.keep [3, 2, 0], .keepO [500]] (ps := [(True), (True), (T.int .u64 (IntKind.wrap .u64 (x2 * (6364136223846793005 : Int))) = T.int .u64 n37), (True), (T.int .u64 (IntKind.wrap .u64 (n37 + (IntKind.wrap .u64 v3))) = T.int .u64 n40), (True), (2 < 3)]) (e := .normal) (σ' := ⟨[500], [(3, vi v3), (2, vi 0), (0, V.ref 500 0)], [(500, oc 90 [ty x0, ti (x1 + (1 : Int)), T.int .u64 (IntKind.wrap .u64 (n40 + (462197 : Int)))])]⟩) (by kernel_rfl) ⟨trivial, trivial, congrArg (T.int .u64) c1, trivial, congrArg (T.int .u64) c2, trivial, by decide, trivial⟩ ?_
    refine WP.seq ?_
    refine WP.seq ?_
    refine WP.path tab_ok mixed [] [.keep [53, 3, 2, 0], .keepO [500]] (ps := [(True), (True), (True)]) (e := .normal) (σ' := ⟨[500], [(53, vb (decide ((x1 + (1 : Int)) ≤ ((List.length x0 : Nat) : Int)))), (3, vi v3), (2, vi 0), (0, V.ref 500 0)], [(500, oc 90 [ty x0, ti (x1 + (1 : Int)), T.int .u64 (IntKind.wrap .u64 (n40 + (462197 : Int)))])]⟩) (by kernel_rfl) ⟨trivial, trivial, trivial, trivial⟩ ?_
    rcases ite_some h with ⟨h2, h⟩ | ⟨h2, h⟩
    · -- yes
      refine WP.cond (b := decide ((x1 + (1 : Int)) ≤ ((List.length x0 : Nat) : Int))) rfl (fun _ => ?_) (fun hh => by rw [h2] at hh; cases hh)
      simp only [Option.some.injEq, Prod.mk.injEq] at h
      obtain ⟨rfl, rfl, rfl, rfl⟩ := h
      exact WP.pathG tab_ok mixed [] [.keep [2], .keepO [500], .names [(500, 500)]] [500] _ (r' := vi v3) (ps := []) (r := vi v3) (N := [500]) (O := [(500, oc 90 [ty x0, ti (x1 + (1 : Int)), T.int .u64 (IntKind.wrap .u64 (n40 + (462197 : Int)))])]) [] (by kernel_rfl) trivial ⟨(WkT.refl _), trivial⟩ rfl rfl (fun _ h => h)
    · -- no
      refine WP.cond (b := decide ((x1 + (1 : Int)) ≤ ((List.length x0 : Nat) : Int))) rfl (fun hh => by rw [h2] at hh; cases hh) (fun _ => ?_)
      refine WP.path tab_ok mixed [] [.keep [2, 0], .keepO [500]] (ps := []) (e := .normal) (σ' := ⟨[500], [(2, vi 0), (0, V.ref 500 0)], [(500, oc 90 [ty x0, ti (x1 + (1 : Int)), T.int .u64 (IntKind.wrap .u64 (n40 + (462197 : Int)))])]⟩) (by kernel_rfl) trivial ?_
      obtain ⟨n60, c3, h⟩ := nam_some h
      obtain ⟨c4, h⟩ := chk_some h
      simp only [Option.some.injEq, Prod.mk.injEq] at h
      obtain ⟨rfl, rfl, rfl, rfl⟩ := h
      exact WP.pathG tab_ok mixed [(59, An.v (T.int .u64 ((IntKind.wrap .u64 (n40 + (462197 : Int))) / 2 ^ Int.toNat (40 : Int)))), (60, An.v (T.int .u64 n60)), (61, An.v (T.int .i64 n60))] [.keep [2], .keepO [500], .names [(500, 500)]] [500] _ (r' := vi n60) (ps := [(True), (0 ≤ (40 : Int)), (T.int .u64 (Int.fdiv (IntKind.wrap .u64 (n40 + (462197 : Int))) (2 ^ (min (Int.toNat (40 : Int)) 64))) = T.int .u64 ((IntKind.wrap .u64 (n40 + (462197 : Int))) / 2 ^ Int.toNat (40 : Int))), (True), (T.int .u64 (bits .and .u64 ((IntKind.wrap .u64 (n40 + (462197 : Int))) / 2 ^ Int.toNat (40 : Int)) (255 : Int)) = T.int .u64 n60), (T.int .i64 (IntKind.wrap .i64 n60) = T.int .i64 n60)]) (r := vi n60) (N := [500]) (O := [(500, oc 90 [ty x0, ti (x1 + (1 : Int)), T.int .u64 (IntKind.wrap .u64 (n40 + (462197 : Int)))])]) [] (by kernel_rfl) ⟨trivial, (show (0 ≤ (40 : Int) ∧ (40 : Int) < 64) by first | decide | (simp only [maxLen]; omega) | (unfold I64; omega) | (unfold I64; decide)).1, shr_told (show (0 ≤ (40 : Int) ∧ (40 : Int) < 64) by first | decide | (simp only [maxLen]; omega) | (unfold I64; omega) | (unfold I64; decide)), trivial, congrArg (T.int .u64) c3, wrapI c4, trivial⟩ ⟨(WkT.refl _), trivial⟩ rfl rfl (fun _ h => h)
theorem F_p_spec_l1Cur_pick_W (x0 : List Int) (x1 : Int) (x2 : Int) (x3 : Int) (y0 : Int) (y1 : List Int) (y2 : Int) (y3 : Int) (h : F_p_spec_l1Cur_pick x0 x1 x2 x3 = some (y0, y1, y2, y3)) : CG Try.prog 119 [V.ref 500 0, vi x3] [(500, oc 90 [ty x0, ti x1, T.int .u64 x2])] (vi y0) [(500, oc 90 [ty y1, ti y2, T.int .u64 y3])] := by
  unfold F_p_spec_l1Cur_pick at h
  refine CG.intro (tab := tab) tab_ok (fn := Try.f119) Try.func119 (by kernel_rfl) rfl (Nat.le_of_ble_eq_true rfl) (by kernel_rfl) ?_
  refine WP.seq ?_
  refine WP.path tab_ok mixed [] [.keep [4, 0, 1], .keepO [500]] (ps := []) (e := .normal) (σ' := ⟨[500], [(4, vi 0), (0, V.ref 500 0), (1, vi x3)], [(500, oc 90 [ty x0, ti x1, T.int .u64 x2])]⟩) (by kernel_rfl) trivial ?_
  refine WP.seq ?_
  refine WP.seq ?_
  refine WP.path tab_ok mixed [] [.keep [7, 4, 0, 1], .keepO [500]] (ps := [(True)]) (e := .normal) (σ' := ⟨[500], [(7, vb (decide (x3 ≤ (1 : Int)))), (4, vi 0), (0, V.ref 500 0), (1, vi x3)], [(500, oc 90 [ty x0, ti x1, T.int .u64 x2])]⟩) (by kernel_rfl) ⟨trivial, trivial⟩ ?_
  rcases ite_some h with ⟨h1, h⟩ | ⟨h1, h⟩
  · -- yes
    refine WP.cond (b := decide (x3 ≤ (1 : Int))) rfl (fun _ => ?_) (fun hh => by rw [h1] at hh; cases hh)
    simp only [Option.some.injEq, Prod.mk.injEq] at h
    obtain ⟨rfl, rfl, rfl, rfl⟩ := h
    exact WP.pathG tab_ok mixed [] [.keep [4], .keepO [500], .names [(500, 500)]] [500] _ (r' := vi (0 : Int)) (ps := []) (r := vi 0) (N := [500]) (O := [(500, oc 90 [ty x0, ti x1, T.int .u64 x2])]) [] (by kernel_rfl) trivial ⟨(WkT.eq (WkT.refl _) (by first | rfl | (simp only [tlS, tl, vl, vo, oc, ov, tbl, vbl, ty, vy] <;> rfl) | (simp <;> omega) | (simp []; done) | (rw [List.take_of_length_le (by simp [])] <;> rfl) | (simp [List.take_of_length_le]; done))), trivial⟩ rfl rfl (fun _ h => h)
  · -- no
    refine WP.cond (b := decide (x3 ≤ (1 : Int))) rfl (fun hh => by rw [h1] at hh; cases hh) (fun _ => ?_)
    refine WP.path tab_ok mixed [] [.keep [4, 0, 1], .keepO [500]] (ps := []) (e := .normal) (σ' := ⟨[500], [(4, vi 0), (0, V.ref 500 0), (1, vi x3)], [(500, oc 90 [ty x0, ti x1, T.int .u64 x2])]⟩) (by kernel_rfl) trivial ?_
    refine WP.seq ?_
    obtain ⟨r9, r9b, r9c, r9d, c0, h⟩ := bnd4_some h
    refine WP.path tab_ok mixed [(9, An.callG [(500, 500)] [V.ref 500 0] [(500, oc 90 [ty x0, ti x1, T.int .u64 x2])] (vi r9) [(500, oc 90 [ty r9b, ti r9c, T.int .u64 r9d])])] [.keep [5, 4, 0, 1], .keepO [500]] (ps := [(CG Try.prog 140 [V.ref 500 0] [(500, oc 90 [ty x0, ti x1, T.int .u64 x2])] (vi r9) [(500, oc 90 [ty r9b, ti r9c, T.int .u64 r9d])]), ((V.ref 500 0).ren (renF [(500, 500)]) = V.ref 500 0), ((oc 90 [ty x0, ti x1, T.int .u64 x2]) = (oc 90 [ty x0, ti x1, T.int .u64 x2]).ren (renF [(500, 500)]))]) (e := .normal) (σ' := ⟨[500], [(5, vi r9), (4, vi 0), (0, V.ref 500 0), (1, vi x3)], [(500, oc 90 [ty r9b, ti r9c, T.int .u64 r9d])]⟩) (by kernel_rfl) ⟨(F_p_spec_l1Cur_next_W x0 x1 x2 r9 r9b r9c r9d c0), by first | rfl | (simp [V.ren, V.renL, renF, lk]; done) | (simp [V.ren, V.renL, renF, lk]; omega), by first | rfl | (simp only [tlS]; rfl) | (simp [Tl.Obj.ren, V.ren, V.renL, renF, lk]; done), trivial⟩ ?_
    obtain ⟨J1, hJ1, h⟩ := jn_some h
    refine WP.joinA (fun (zz : (List Int) × Int × Int × Int) => ⟨[500], [(5, vi zz.2.2.2), (4, vi 0), (1, vi x3)], [(500, oc 90 [ty zz.1, ti zz.2.1, T.int .u64 zz.2.2.1])]⟩) (fun zz => J1 zz.1 zz.2.1 zz.2.2.1 zz.2.2.2 = some (y0, y1, y2, y3)) ?_ ?_
    · -- to where they meet
      refine WP.seq ?_
      refine WP.path tab_ok mixed [] [.keep [11, 5, 4, 0, 1], .keepO [500]] (ps := [(True)]) (e := .normal) (σ' := ⟨[500], [(11, vb (decide (x3 > (200 : Int)))), (5, vi r9), (4, vi 0), (0, V.ref 500 0), (1, vi x3)], [(500, oc 90 [ty r9b, ti r9c, T.int .u64 r9d])]⟩) (by kernel_rfl) ⟨trivial, trivial⟩ ?_
      rcases ite_some h with ⟨h2, h⟩ | ⟨h2, h⟩
      · -- yes
        refine WP.cond (b := decide (x3 > (200 : Int))) rfl (fun _ => ?_) (fun hh => by rw [h2] at hh; cases hh)
        obtain ⟨c1, h⟩ := chk_some h
        obtain ⟨r15, r15b, r15c, r15d, c2, h⟩ := bnd4_some h
        obtain ⟨c3, h⟩ := chk_some h
        refine WP.path tab_ok mixed [(13, An.v (T.int .i64 (r9 * (256 : Int)))), (15, An.callG [(500, 500)] [V.ref 500 0] [(500, oc 90 [ty r9b, ti r9c, T.int .u64 r9d])] (vi r15) [(500, oc 90 [ty r15b, ti r15c, T.int .u64 r15d])]), (16, An.v (T.int .i64 ((r9 * (256 : Int)) + r15)))] [.keep [5, 4, 1], .keepO [500], .names [(500, 500)]] (ps := [(True), (T.int .i64 (IntKind.wrap .i64 (r9 * (256 : Int))) = T.int .i64 (r9 * (256 : Int))), (CG Try.prog 140 [V.ref 500 0] [(500, oc 90 [ty r9b, ti r9c, T.int .u64 r9d])] (vi r15) [(500, oc 90 [ty r15b, ti r15c, T.int .u64 r15d])]), ((V.ref 500 0).ren (renF [(500, 500)]) = V.ref 500 0), ((oc 90 [ty r9b, ti r9c, T.int .u64 r9d]) = (oc 90 [ty r9b, ti r9c, T.int .u64 r9d]).ren (renF [(500, 500)])), (True), (T.int .i64 (IntKind.wrap .i64 ((r9 * (256 : Int)) + r15)) = T.int .i64 ((r9 * (256 : Int)) + r15))]) (e := .normal) (σ' := ⟨[500], [(5, vi ((r9 * (256 : Int)) + r15)), (4, vi 0), (1, vi x3)], [(500, oc 90 [ty r15b, ti r15c, T.int .u64 r15d])]⟩) (by kernel_rfl) ⟨trivial, wrapI c1, (F_p_spec_l1Cur_next_W r9b r9c r9d r15 r15b r15c r15d c2), by first | rfl | (simp [V.ren, V.renL, renF, lk]; done) | (simp [V.ren, V.renL, renF, lk]; omega), by first | rfl | (simp only [tlS]; rfl) | (simp [Tl.Obj.ren, V.ren, V.renL, renF, lk]; done), trivial, wrapI c3, trivial⟩ ?_
        exact ⟨(r15b, r15c, r15d, ((r9 * (256 : Int)) + r15)), h, rfl⟩
      · -- no
        refine WP.cond (b := decide (x3 > (200 : Int))) rfl (fun hh => by rw [h2] at hh; cases hh) (fun _ => ?_)
        refine WP.path tab_ok mixed [] [.keep [5, 4, 1], .keepO [500], .names [(500, 500)]] (ps := []) (e := .normal) (σ' := ⟨[500], [(5, vi r9), (4, vi 0), (1, vi x3)], [(500, oc 90 [ty r9b, ti r9c, T.int .u64 r9d])]⟩) (by kernel_rfl) trivial ?_
        exact ⟨(r9b, r9c, r9d, r9), h, rfl⟩
    · -- from there
      rintro ⟨o500, o500b, o500c, v5⟩ h0
      have h := (show J1 o500 o500b o500c v5 = some (y0, y1, y2, y3) from h0)
      rw [hJ1] at h
      obtain ⟨c1, h⟩ := chk_some h
      simp only [Option.some.injEq, Prod.mk.injEq] at h
      obtain ⟨rfl, rfl, rfl, rfl⟩ := h
      exact WP.pathG tab_ok mixed [] [.keep [4], .keepO [500], .names [(500, 500)]] [500] _ (r' := vi (Int.tmod v5 x3)) (ps := [(x3 ≠ 0)]) (r := vi (Int.tmod v5 x3)) (N := [500]) (O := [(500, oc 90 [ty o500, ti o500b, T.int .u64 o500c])]) [] (by kernel_rfl) ⟨c1, trivial⟩ ⟨(WkT.refl _), trivial⟩ rfl rfl (fun _ h => h)
theorem F_p_spec_l1Cur_among_W (x0 : List Int) (x1 : Int) (x2 : Int) (x3 : List Int) (y0 : Int) (y1 : List Int) (y2 : Int) (y3 : Int) (h : F_p_spec_l1Cur_among x0 x1 x2 x3 = some (y0, y1, y2, y3)) : CG Try.prog 78 [V.ref 500 0, vl x3] [(500, oc 90 [ty x0, ti x1, T.int .u64 x2])] (vi y0) [(500, oc 90 [ty y1, ti y2, T.int .u64 y3])] := by
  unfold F_p_spec_l1Cur_among at h
  refine CG.intro (tab := tab) tab_ok (fn := Try.f78) Try.func78 (by kernel_rfl) rfl (Nat.le_of_ble_eq_true rfl) (by kernel_rfl) ?_
  obtain ⟨r9, r9b, r9c, r9d, c0, h⟩ := bnd4_some h
  obtain ⟨c1, h⟩ := chk_some h
  simp only [Option.some.injEq, Prod.mk.injEq] at h
  obtain ⟨rfl, rfl, rfl, rfl⟩ := h
  exact WP.pathG tab_ok mixed [(9, An.callG [(500, 500)] [V.ref 500 0, vi ((List.length x3 : Nat) : Int)] [(500, oc 90 [ty x0, ti x1, T.int .u64 x2])] (vi r9) [(500, oc 90 [ty r9b, ti r9c, T.int .u64 r9d])]), (11, An.v (ti (List.getD x3 (Int.toNat r9) 0)))] [.keep [4], .keepO [500], .names [(500, 500)]] [500] _ (r' := vi (List.getD x3 (Int.toNat r9) 0)) (ps := [(CG Try.prog 119 [V.ref 500 0, vi ((List.length x3 : Nat) : Int)] [(500, oc 90 [ty x0, ti x1, T.int .u64 x2])] (vi r9) [(500, oc 90 [ty r9b, ti r9c, T.int .u64 r9d])]), ((V.ref 500 0).ren (renF [(500, 500)]) = V.ref 500 0), (WkT (ti ((List.length x3 : Nat) : Int)) (ti ((List.length x3 : Nat) : Int))), ((oc 90 [ty x0, ti x1, T.int .u64 x2]) = (oc 90 [ty x0, ti x1, T.int .u64 x2]).ren (renF [(500, 500)])), ((0 ≤ r9 ∧ r9 < ((List.length x3 : Nat) : Int))), ((List.drop ((Int.toNat r9) * 1) (List.map (T.int .i64) x3) : List T)[0]? = some (ti (List.getD x3 (Int.toNat r9) 0))), (ti (List.getD x3 (Int.toNat r9) 0) = ti (List.getD x3 (Int.toNat r9) 0))]) (r := vi (List.getD x3 (Int.toNat r9) 0)) (N := [500]) (O := [(500, oc 90 [ty r9b, ti r9c, T.int .u64 r9d])]) [] (by kernel_rfl) ⟨(F_p_spec_l1Cur_pick_W x0 x1 x2 ((List.length x3 : Nat) : Int) r9 r9b r9c r9d c0), by first | rfl | (simp [V.ren, V.renL, renF, lk]; done) | (simp [V.ren, V.renL, renF, lk]; omega), WkT.refl _, by first | rfl | (simp only [tlS]; rfl) | (simp [Tl.Obj.ren, V.ren, V.renL, renF, lk]; done), c1, at1 (by simp) (by omega), rfl, trivial⟩ ⟨(WkT.refl _), trivial⟩ rfl rfl (fun _ h => h)
theorem F_p_spec_l1Cur_lies_W (x0 : List Int) (x1 : Int) (x2 : Int) (y0 : Int) (y1 : List Int) (y2 : Int) (y3 : Int) (h : F_p_spec_l1Cur_lies x0 x1 x2 = some (y0, y1, y2, y3)) : CG Try.prog 79 [V.ref 500 0] [(500, oc 90 [ty x0, ti x1, T.int .u64 x2])] (vi y0) [(500, oc 90 [ty y1, ti y2, T.int .u64 y3])] := by
  unfold F_p_spec_l1Cur_lies at h
  refine CG.intro (tab := tab) tab_ok (fn := Try.f79) Try.func79 (by kernel_rfl) rfl (Nat.le_of_ble_eq_true rfl) (by kernel_rfl) ?_
  obtain ⟨r5, r5b, r5c, r5d, c0, h⟩ := bnd4_some h
  simp only [Option.some.injEq, Prod.mk.injEq] at h
  obtain ⟨rfl, rfl, rfl, rfl⟩ := h
  exact WP.pathG tab_ok mixed [(4, An.fz), (5, An.callG [(500, 500)] [V.ref 500 0, vl [(1 : Int), (1 : Int), (2 : Int), (0 : Int), (1 : Int), (2 : Int), (1 : Int), (3 : Int), (-1 : Int), (1 : Int), (2 : Int), (0 : Int)]] [(500, oc 90 [ty x0, ti x1, T.int .u64 x2])] (vi r5) [(500, oc 90 [ty r5b, ti r5c, T.int .u64 r5d])])] [.keep [2], .keepO [500], .names [(500, 500)]] [500] _ (r' := vi r5) (ps := [((1 = 1 ∧ 0 + 1 ≤ 12) ∧ (1 = 1 ∧ 1 + 1 ≤ 12) ∧ (1 = 1 ∧ 2 + 1 ≤ 12) ∧ (1 = 1 ∧ 3 + 1 ≤ 12) ∧ (1 = 1 ∧ 4 + 1 ≤ 12) ∧ (1 = 1 ∧ 5 + 1 ≤ 12) ∧ (1 = 1 ∧ 6 + 1 ≤ 12) ∧ (1 = 1 ∧ 7 + 1 ≤ 12) ∧ (1 = 1 ∧ 8 + 1 ≤ 12) ∧ (1 = 1 ∧ 9 + 1 ≤ 12) ∧ (1 = 1 ∧ 10 + 1 ≤ 12) ∧ (1 = 1 ∧ 11 + 1 ≤ 12) ∧ True), (12 = 12 * 1), (CG Try.prog 78 [V.ref 500 0, vl [(1 : Int), (1 : Int), (2 : Int), (0 : Int), (1 : Int), (2 : Int), (1 : Int), (3 : Int), (-1 : Int), (1 : Int), (2 : Int), (0 : Int)]] [(500, oc 90 [ty x0, ti x1, T.int .u64 x2])] (vi r5) [(500, oc 90 [ty r5b, ti r5c, T.int .u64 r5d])]), ((V.ref 500 0).ren (renF [(500, 500)]) = V.ref 500 0), (WkT (T.list 12 1 [ti 1, ti 1, ti 2, ti 0, ti 1, ti 2, ti 1, ti 3, ti (-1), ti 1, ti 2, ti 0]) (tl [(1 : Int), (1 : Int), (2 : Int), (0 : Int), (1 : Int), (2 : Int), (1 : Int), (3 : Int), (-1 : Int), (1 : Int), (2 : Int), (0 : Int)])), ((oc 90 [ty x0, ti x1, T.int .u64 x2]) = (oc 90 [ty x0, ti x1, T.int .u64 x2]).ren (renF [(500, 500)]))]) (r := vi r5) (N := [500]) (O := [(500, oc 90 [ty r5b, ti r5c, T.int .u64 r5d])]) [] (by kernel_rfl) ⟨⟨⟨by first | rfl | (simp; done) | (simp []; done) | omega, by first | decide | (simp; done) | (simp []; done) | omega | (simp only [tlL]; omega) | (simp; omega)⟩, ⟨by first | rfl | (simp; done) | (simp []; done) | omega, by first | decide | (simp; done) | (simp []; done) | omega | (simp only [tlL]; omega) | (simp; omega)⟩, ⟨by first | rfl | (simp; done) | (simp []; done) | omega, by first | decide | (simp; done) | (simp []; done) | omega | (simp only [tlL]; omega) | (simp; omega)⟩, ⟨by first | rfl | (simp; done) | (simp []; done) | omega, by first | decide | (simp; done) | (simp []; done) | omega | (simp only [tlL]; omega) | (simp; omega)⟩, ⟨by first | rfl | (simp; done) | (simp []; done) | omega, by first | decide | (simp; done) | (simp []; done) | omega | (simp only [tlL]; omega) | (simp; omega)⟩, ⟨by first | rfl | (simp; done) | (simp []; done) | omega, by first | decide | (simp; done) | (simp []; done) | omega | (simp only [tlL]; omega) | (simp; omega)⟩, ⟨by first | rfl | (simp; done) | (simp []; done) | omega, by first | decide | (simp; done) | (simp []; done) | omega | (simp only [tlL]; omega) | (simp; omega)⟩, ⟨by first | rfl | (simp; done) | (simp []; done) | omega, by first | decide | (simp; done) | (simp []; done) | omega | (simp only [tlL]; omega) | (simp; omega)⟩, ⟨by first | rfl | (simp; done) | (simp []; done) | omega, by first | decide | (simp; done) | (simp []; done) | omega | (simp only [tlL]; omega) | (simp; omega)⟩, ⟨by first | rfl | (simp; done) | (simp []; done) | omega, by first | decide | (simp; done) | (simp []; done) | omega | (simp only [tlL]; omega) | (simp; omega)⟩, ⟨by first | rfl | (simp; done) | (simp []; done) | omega, by first | decide | (simp; done) | (simp []; done) | omega | (simp only [tlL]; omega) | (simp; omega)⟩, ⟨by first | rfl | (simp; done) | (simp []; done) | omega, by first | decide | (simp; done) | (simp []; done) | omega | (simp only [tlL]; omega) | (simp; omega)⟩, trivial⟩, by decide, (F_p_spec_l1Cur_among_W x0 x1 x2 [(1 : Int), (1 : Int), (2 : Int), (0 : Int), (1 : Int), (2 : Int), (1 : Int), (3 : Int), (-1 : Int), (1 : Int), (2 : Int), (0 : Int)] r5 r5b r5c r5d c0), by first | rfl | (simp [V.ren, V.renL, renF, lk]; done) | (simp [V.ren, V.renL, renF, lk]; omega), WkT.eq (WkT.refl _) (by first | rfl | (simp only [tlS, tl, vl, vo, oc, ov, tbl, vbl, ty, vy] <;> rfl) | (simp <;> omega) | (simp []; done) | (rw [List.take_of_length_le (by simp [])] <;> rfl) | (simp [List.take_of_length_le]; done)), by first | rfl | (simp only [tlS]; rfl) | (simp [Tl.Obj.ren, V.ren, V.renL, renF, lk]; done), trivial⟩ ⟨(WkT.refl _), trivial⟩ rfl rfl (fun _ h => h)
theorem F_p_spec_l1Cur_one_W (x0 : List Int) (x1 : Int) (x2 : Int) (x3 : Int) (y0 : Bool) (y1 : List Int) (y2 : Int) (y3 : Int) (h : F_p_spec_l1Cur_one x0 x1 x2 x3 = some (y0, y1, y2, y3)) : CG Try.prog 124 [V.ref 500 0, vi x3] [(500, oc 90 [ty x0, ti x1, T.int .u64 x2])] (vb y0) [(500, oc 90 [ty y1, ti y2, T.int .u64 y3])] := by
  unfold F_p_spec_l1Cur_one at h
  refine CG.intro (tab := tab) tab_ok (fn := Try.f124) Try.func124 (by kernel_rfl) rfl (Nat.le_of_ble_eq_true rfl) (by kernel_rfl) ?_
  obtain ⟨r7, r7b, r7c, r7d, c0, h⟩ := bnd4_some h
  simp only [Option.some.injEq, Prod.mk.injEq] at h
  obtain ⟨rfl, rfl, rfl, rfl⟩ := h
  exact WP.pathG tab_ok mixed [(7, An.callG [(500, 500)] [V.ref 500 0, vi x3] [(500, oc 90 [ty x0, ti x1, T.int .u64 x2])] (vi r7) [(500, oc 90 [ty r7b, ti r7c, T.int .u64 r7d])])] [.keep [4], .keepO [500], .names [(500, 500)]] [500] _ (r' := vb (r7 == (0 : Int))) (ps := [(CG Try.prog 119 [V.ref 500 0, vi x3] [(500, oc 90 [ty x0, ti x1, T.int .u64 x2])] (vi r7) [(500, oc 90 [ty r7b, ti r7c, T.int .u64 r7d])]), ((V.ref 500 0).ren (renF [(500, 500)]) = V.ref 500 0), (WkT (ti x3) (ti x3)), ((oc 90 [ty x0, ti x1, T.int .u64 x2]) = (oc 90 [ty x0, ti x1, T.int .u64 x2]).ren (renF [(500, 500)])), (True)]) (r := vb (r7 == (0 : Int))) (N := [500]) (O := [(500, oc 90 [ty r7b, ti r7c, T.int .u64 r7d])]) [] (by kernel_rfl) ⟨(F_p_spec_l1Cur_pick_W x0 x1 x2 x3 r7 r7b r7c r7d c0), by first | rfl | (simp [V.ren, V.renL, renF, lk]; done) | (simp [V.ren, V.renL, renF, lk]; omega), WkT.refl _, by first | rfl | (simp only [tlS]; rfl) | (simp [Tl.Obj.ren, V.ren, V.renL, renF, lk]; done), trivial, trivial⟩ ⟨(WkT.refl _), trivial⟩ rfl rfl (fun _ h => h)
theorem F_p_spec_l1Cur_many_W (x0 : List Int) (x1 : Int) (x2 : Int) (y0 : Int) (y1 : List Int) (y2 : Int) (y3 : Int) (h : F_p_spec_l1Cur_many x0 x1 x2 = some (y0, y1, y2, y3)) : CG Try.prog 130 [V.ref 500 0] [(500, oc 90 [ty x0, ti x1, T.int .u64 x2])] (vi y0) [(500, oc 90 [ty y1, ti y2, T.int .u64 y3])] := by
  unfold F_p_spec_l1Cur_many at h
  refine CG.intro (tab := tab) tab_ok (fn := Try.f130) Try.func130 (by kernel_rfl) rfl (Nat.le_of_ble_eq_true rfl) (by kernel_rfl) ?_
  obtain ⟨r5, r5b, r5c, r5d, c0, h⟩ := bnd4_some h
  simp only [Option.some.injEq, Prod.mk.injEq] at h
  obtain ⟨rfl, rfl, rfl, rfl⟩ := h
  exact WP.pathG tab_ok mixed [(4, An.fz), (5, An.callG [(500, 500)] [V.ref 500 0, vl [(4 : Int), (6 : Int), (8 : Int), (3 : Int), (5 : Int), (2 : Int), (7 : Int), (12 : Int), (1 : Int), (0 : Int), (13 : Int), (4 : Int), (6 : Int), (8 : Int), (3 : Int), (5 : Int)]] [(500, oc 90 [ty x0, ti x1, T.int .u64 x2])] (vi r5) [(500, oc 90 [ty r5b, ti r5c, T.int .u64 r5d])])] [.keep [2], .keepO [500], .names [(500, 500)]] [500] _ (r' := vi r5) (ps := [((1 = 1 ∧ 0 + 1 ≤ 16) ∧ (1 = 1 ∧ 1 + 1 ≤ 16) ∧ (1 = 1 ∧ 2 + 1 ≤ 16) ∧ (1 = 1 ∧ 3 + 1 ≤ 16) ∧ (1 = 1 ∧ 4 + 1 ≤ 16) ∧ (1 = 1 ∧ 5 + 1 ≤ 16) ∧ (1 = 1 ∧ 6 + 1 ≤ 16) ∧ (1 = 1 ∧ 7 + 1 ≤ 16) ∧ (1 = 1 ∧ 8 + 1 ≤ 16) ∧ (1 = 1 ∧ 9 + 1 ≤ 16) ∧ (1 = 1 ∧ 10 + 1 ≤ 16) ∧ (1 = 1 ∧ 11 + 1 ≤ 16) ∧ (1 = 1 ∧ 12 + 1 ≤ 16) ∧ (1 = 1 ∧ 13 + 1 ≤ 16) ∧ (1 = 1 ∧ 14 + 1 ≤ 16) ∧ (1 = 1 ∧ 15 + 1 ≤ 16) ∧ True), (16 = 16 * 1), (CG Try.prog 78 [V.ref 500 0, vl [(4 : Int), (6 : Int), (8 : Int), (3 : Int), (5 : Int), (2 : Int), (7 : Int), (12 : Int), (1 : Int), (0 : Int), (13 : Int), (4 : Int), (6 : Int), (8 : Int), (3 : Int), (5 : Int)]] [(500, oc 90 [ty x0, ti x1, T.int .u64 x2])] (vi r5) [(500, oc 90 [ty r5b, ti r5c, T.int .u64 r5d])]), ((V.ref 500 0).ren (renF [(500, 500)]) = V.ref 500 0), (WkT (T.list 16 1 [ti 4, ti 6, ti 8, ti 3, ti 5, ti 2, ti 7, ti 12, ti 1, ti 0, ti 13, ti 4, ti 6, ti 8, ti 3, ti 5]) (tl [(4 : Int), (6 : Int), (8 : Int), (3 : Int), (5 : Int), (2 : Int), (7 : Int), (12 : Int), (1 : Int), (0 : Int), (13 : Int), (4 : Int), (6 : Int), (8 : Int), (3 : Int), (5 : Int)])), ((oc 90 [ty x0, ti x1, T.int .u64 x2]) = (oc 90 [ty x0, ti x1, T.int .u64 x2]).ren (renF [(500, 500)]))]) (r := vi r5) (N := [500]) (O := [(500, oc 90 [ty r5b, ti r5c, T.int .u64 r5d])]) [] (by kernel_rfl) ⟨⟨⟨by first | rfl | (simp; done) | (simp []; done) | omega, by first | decide | (simp; done) | (simp []; done) | omega | (simp only [tlL]; omega) | (simp; omega)⟩, ⟨by first | rfl | (simp; done) | (simp []; done) | omega, by first | decide | (simp; done) | (simp []; done) | omega | (simp only [tlL]; omega) | (simp; omega)⟩, ⟨by first | rfl | (simp; done) | (simp []; done) | omega, by first | decide | (simp; done) | (simp []; done) | omega | (simp only [tlL]; omega) | (simp; omega)⟩, ⟨by first | rfl | (simp; done) | (simp []; done) | omega, by first | decide | (simp; done) | (simp []; done) | omega | (simp only [tlL]; omega) | (simp; omega)⟩, ⟨by first | rfl | (simp; done) | (simp []; done) | omega, by first | decide | (simp; done) | (simp []; done) | omega | (simp only [tlL]; omega) | (simp; omega)⟩, ⟨by first | rfl | (simp; done) | (simp []; done) | omega, by first | decide | (simp; done) | (simp []; done) | omega | (simp only [tlL]; omega) | (simp; omega)⟩, ⟨by first | rfl | (simp; done) | (simp []; done) | omega, by first | decide | (simp; done) | (simp []; done) | omega | (simp only [tlL]; omega) | (simp; omega)⟩, ⟨by first | rfl | (simp; done) | (simp []; done) | omega, by first | decide | (simp; done) | (simp []; done) | omega | (simp only [tlL]; omega) | (simp; omega)⟩, ⟨by first | rfl | (simp; done) | (simp []; done) | omega, by first | decide | (simp; done) | (simp []; done) | omega | (simp only [tlL]; omega) | (simp; omega)⟩, ⟨by first | rfl | (simp; done) | (simp []; done) | omega, by first | decide | (simp; done) | (simp []; done) | omega | (simp only [tlL]; omega) | (simp; omega)⟩, ⟨by first | rfl | (simp; done) | (simp []; done) | omega, by first | decide | (simp; done) | (simp []; done) | omega | (simp only [tlL]; omega) | (simp; omega)⟩, ⟨by first | rfl | (simp; done) | (simp []; done) | omega, by first | decide | (simp; done) | (simp []; done) | omega | (simp only [tlL]; omega) | (simp; omega)⟩, ⟨by first | rfl | (simp; done) | (simp []; done) | omega, by first | decide | (simp; done) | (simp []; done) | omega | (simp only [tlL]; omega) | (simp; omega)⟩, ⟨by first | rfl | (simp; done) | (simp []; done) | omega, by first | decide | (simp; done) | (simp []; done) | omega | (simp only [tlL]; omega) | (simp; omega)⟩, ⟨by first | rfl | (simp; done) | (simp []; done) | omega, by first | decide | (simp; done) | (simp []; done) | omega | (simp only [tlL]; omega) | (simp; omega)⟩, ⟨by first | rfl | (simp; done) | (simp []; done) | omega, by first | decide | (simp; done) | (simp []; done) | omega | (simp only [tlL]; omega) | (simp; omega)⟩, trivial⟩, by decide, (F_p_spec_l1Cur_among_W x0 x1 x2 [(4 : Int), (6 : Int), (8 : Int), (3 : Int), (5 : Int), (2 : Int), (7 : Int), (12 : Int), (1 : Int), (0 : Int), (13 : Int), (4 : Int), (6 : Int), (8 : Int), (3 : Int), (5 : Int)] r5 r5b r5c r5d c0), by first | rfl | (simp [V.ren, V.renL, renF, lk]; done) | (simp [V.ren, V.renL, renF, lk]; omega), WkT.eq (WkT.refl _) (by first | rfl | (simp only [tlS, tl, vl, vo, oc, ov, tbl, vbl, ty, vy] <;> rfl) | (simp <;> omega) | (simp []; done) | (rw [List.take_of_length_le (by simp [])] <;> rfl) | (simp [List.take_of_length_le]; done)), by first | rfl | (simp only [tlS]; rfl) | (simp [Tl.Obj.ren, V.ren, V.renL, renF, lk]; done), trivial⟩ ⟨(WkT.refl _), trivial⟩ rfl rfl (fun _ h => h)
theorem F_p_spec_l1Cur_state_W (x0 : List Int) (x1 : Int) (x2 : Int) (y0 : List Int) (y1 : Int) (y2 : List Int) (y3 : Int) (y4 : Int) (h : F_p_spec_l1Cur_state x0 x1 x2 = some (y0, y1, y2, y3, y4)) : CG Try.prog 98 [V.ref 500 0] [(500, oc 90 [ty x0, ti x1, T.int .u64 x2])] (V.agg [vo 9000 (List.length y0), vi y1]) [(500, oc 90 [ty y2, ti y3, T.int .u64 y4]), (9000, oc 3 (List.map (T.int .i64) y0))] := by
  unfold F_p_spec_l1Cur_state at h
  refine CG.intro (tab := tab) tab_ok (fn := Try.f98) Try.func98 (by kernel_rfl) rfl (Nat.le_of_ble_eq_true rfl) (by kernel_rfl) ?_
  refine WP.seq ?_
  refine WP.path tab_ok mixed [(2, An.id 2002)] [.keep [2, 0], .keepO [500, 2002]] (ps := []) (e := .normal) (σ' := ⟨[2002, 500], [(2, V.ref 2002 0), (0, V.ref 500 0)], [(500, oc 90 [ty x0, ti x1, T.int .u64 x2]), (2002, oc 26 [T.nils, ti 0])]⟩) (by kernel_rfl) trivial ?_
  refine WP.seq ?_
  obtain ⟨r9, r9b, r9c, r9d, c0, h⟩ := bnd4_some h
  obtain ⟨r11, r11b, r11c, r11d, c1, h⟩ := bnd4_some h
  refine WP.path tab_ok mixed [(9, An.callG [(500, 500)] [V.ref 500 0] [(500, oc 90 [ty x0, ti x1, T.int .u64 x2])] (vi r9) [(500, oc 90 [ty r9b, ti r9c, T.int .u64 r9d])]), (11, An.callG [(500, 500)] [V.ref 500 0] [(500, oc 90 [ty r9b, ti r9c, T.int .u64 r9d])] (vi r11) [(500, oc 90 [ty r11b, ti r11c, T.int .u64 r11d])])] [.keep [4, 3, 2, 0], .keepO [500, 2002]] (ps := [(CG Try.prog 79 [V.ref 500 0] [(500, oc 90 [ty x0, ti x1, T.int .u64 x2])] (vi r9) [(500, oc 90 [ty r9b, ti r9c, T.int .u64 r9d])]), ((V.ref 500 0).ren (renF [(500, 500)]) = V.ref 500 0), ((oc 90 [ty x0, ti x1, T.int .u64 x2]) = (oc 90 [ty x0, ti x1, T.int .u64 x2]).ren (renF [(500, 500)])), (CG Try.prog 130 [V.ref 500 0] [(500, oc 90 [ty r9b, ti r9c, T.int .u64 r9d])] (vi r11) [(500, oc 90 [ty r11b, ti r11c, T.int .u64 r11d])]), ((V.ref 500 0).ren (renF [(500, 500)]) = V.ref 500 0), ((oc 90 [ty r9b, ti r9c, T.int .u64 r9d]) = (oc 90 [ty r9b, ti r9c, T.int .u64 r9d]).ren (renF [(500, 500)]))]) (e := .normal) (σ' := ⟨[2002, 500], [(4, vi r11), (3, vi r9), (2, V.ref 2002 0), (0, V.ref 500 0)], [(500, oc 90 [ty r11b, ti r11c, T.int .u64 r11d]), (2002, oc 26 [T.nils, ti 0])]⟩) (by kernel_rfl) ⟨(F_p_spec_l1Cur_lies_W x0 x1 x2 r9 r9b r9c r9d c0), by first | rfl | (simp [V.ren, V.renL, renF, lk]; done) | (simp [V.ren, V.renL, renF, lk]; omega), by first | rfl | (simp only [tlS]; rfl) | (simp [Tl.Obj.ren, V.ren, V.renL, renF, lk]; done), (F_p_spec_l1Cur_many_W r9b r9c r9d r11 r11b r11c r11d c1), by first | rfl | (simp [V.ren, V.renL, renF, lk]; done) | (simp [V.ren, V.renL, renF, lk]; omega), by first | rfl | (simp only [tlS]; rfl) | (simp [Tl.Obj.ren, V.ren, V.renL, renF, lk]; done), trivial⟩ ?_
  refine WP.seq ?_
  refine WP.path tab_ok mixed [(12, An.id 2012), (5, An.id 2005)] [.keep [5, 4, 3, 2, 0], .keepO [500, 2002, 2005, 2012]] (ps := [(True), (0 = 0 * 1), ((1 = 1 ∧ 0 + 1 ≤ 2) ∧ (1 = 1 ∧ 1 + 1 ≤ 2) ∧ True), ((0 + 2 ≤ 2 ∧ 2 = 2))]) (e := .normal) (σ' := ⟨[2005, 2012, 2002, 500], [(5, V.ref 2005 0), (4, vi r11), (3, vi r9), (2, V.ref 2002 0), (0, V.ref 500 0)], [(500, oc 90 [ty r11b, ti r11c, T.int .u64 r11d]), (2002, oc 26 [T.nils, ti 0]), (2005, ov 26 [vo 2012 0, vi r9]), (2012, oc 3 [])]⟩) (by kernel_rfl) ⟨trivial, by decide, ⟨⟨by decide, by decide⟩, ⟨by decide, by decide⟩, trivial⟩, by decide, trivial⟩ ?_
  obtain ⟨J1, hJ1, h⟩ := jn_some h
  refine WP.joinA (fun (zz : (List Int) × Int × Int × (List Int)) => ⟨[500, 2002, 2005, 2012], [(5, V.ref 2005 0), (4, vi r11), (3, vi r9), (2, V.ref 2002 0), (0, V.ref 500 0)], [(500, oc 90 [ty zz.1, ti zz.2.1, T.int .u64 zz.2.2.1]), (2002, oc 26 [T.nils, ti 0]), (2005, ov 26 [vo 2012 (List.length zz.2.2.2), vi r9]), (2012, oc 3 (List.map (T.int .i64) zz.2.2.2))]⟩) (fun zz => J1 zz.1 zz.2.1 zz.2.2.1 zz.2.2.2 = some (y0, y1, y2, y3, y4)) ?_ ?_
  · -- to where they meet
    refine WP.seq ?_
    refine WP.path tab_ok mixed [] [.keep [6, 5, 4, 3, 2, 0], .keepO [500, 2002, 2005, 2012]] (ps := []) (e := .normal) (σ' := ⟨[2005, 2012, 2002, 500], [(6, vi 0), (5, V.ref 2005 0), (4, vi r11), (3, vi r9), (2, V.ref 2002 0), (0, V.ref 500 0)], [(500, oc 90 [ty r11b, ti r11c, T.int .u64 r11d]), (2002, oc 26 [T.nils, ti 0]), (2005, ov 26 [vo 2012 0, vi r9]), (2012, oc 3 [])]⟩) (by kernel_rfl) trivial ?_
    refine WP.block ?_
    refine WP.wk [.keep [6, 5, 4, 3, 2, 0], .keepO [500, 2002, 2005, 2012], .names [(500, 500), (2002, 2002), (2005, 2005), (2012, 2012)]] (σ' := ⟨[500, 2002, 2005, 2012], [(6, vi 0), (5, V.ref 2005 0), (4, vi r11), (3, vi r9), (2, V.ref 2002 0), (0, V.ref 500 0)], [(500, oc 90 [ty r11b, ti r11c, T.int .u64 r11d]), (2002, oc 26 [T.nils, ti 0]), (2005, ov 26 [vo 2012 0, vi r9]), (2012, oc 3 [])]⟩) (ps := []) (by kernel_rfl) trivial ?_
    refine WP.st (σ' := ⟨[500, 2002, 2005, 2012], [(6, vi (0 : Int)), (5, V.ref 2005 0), (4, vi r11), (3, vi r9), (2, V.ref 2002 0), (0, V.ref 500 0)], [(500, oc 90 [ty r11b, ti r11c, T.int .u64 r11d]), (2002, oc 26 [T.nils, ti 0]), (2005, ov 26 [vo 2012 (List.length ([] : List Int)), vi r9]), (2012, oc 3 (List.map (T.int .i64) ([] : List Int)))]⟩) (by first | rfl | (simp only [tlS, tl, vl, vo, oc, ov, tbl, vbl, ty, vy] <;> rfl) | (simp <;> omega) | (simp []; done) | (rw [List.take_of_length_le (by simp [])] <;> rfl) | (simp [List.take_of_length_le]; done)) ?_
    refine WP.loop (α := Nat × (List Int) × Int × Int × (List Int) × Int) (fun zz => ⟨[500, 2002, 2005, 2012], [(6, vi zz.2.2.2.2.2), (5, V.ref 2005 0), (4, vi r11), (3, vi r9), (2, V.ref 2002 0), (0, V.ref 500 0)], [(500, oc 90 [ty zz.2.1, ti zz.2.2.1, T.int .u64 zz.2.2.2.1]), (2002, oc 26 [T.nils, ti 0]), (2005, ov 26 [vo 2012 (List.length zz.2.2.2.2.1), vi r9]), (2012, oc 3 (List.map (T.int .i64) zz.2.2.2.2.1))]⟩) (fun zz => F_p_spec_l1Cur_state_L1 r9 r11 J1 zz.1 zz.2.1 zz.2.2.1 zz.2.2.2.1 zz.2.2.2.2.1 zz.2.2.2.2.2 = some (y0, y1, y2, y3, y4)) (fun zz => zz.1) (fuel, r11b, r11c, r11d, ([] : List Int), (0 : Int)) h ?_
    rintro ⟨n, o500, o500b, o500c, o12, v6⟩ h0
    have h := (show F_p_spec_l1Cur_state_L1 r9 r11 J1 n o500 o500b o500c o12 v6 = some (y0, y1, y2, y3, y4) from h0)
    rcases n with _ | n
    · rw [F_p_spec_l1Cur_state_L1] at h; cases h
    · rw [F_p_spec_l1Cur_state_L1] at h
      refine WP.seq ?_
      refine WP.seq ?_
      refine WP.path tab_ok mixed [] [.keep [17, 6, 5, 4, 3, 2, 0], .keepO [500, 2002, 2005, 2012]] (ps := [(True)]) (e := .normal) (σ' := ⟨[500, 2002, 2005, 2012], [(17, vb (decide (v6 < r11))), (6, vi v6), (5, V.ref 2005 0), (4, vi r11), (3, vi r9), (2, V.ref 2002 0), (0, V.ref 500 0)], [(500, oc 90 [ty o500, ti o500b, T.int .u64 o500c]), (2002, oc 26 [T.nils, ti 0]), (2005, ov 26 [vo 2012 (List.length o12), vi r9]), (2012, oc 3 (List.map (T.int .i64) o12))]⟩) (by kernel_rfl) ⟨trivial, trivial⟩ ?_
      rcases ite_some h with ⟨h1, h⟩ | ⟨h1, h⟩
      · -- yes
        refine WP.cond (b := decide (v6 < r11)) rfl (fun _ => ?_) (fun hh => by rw [h1] at hh; cases hh)
        refine WP.path tab_ok mixed [] [.keep [6, 5, 4, 3, 2, 0], .keepO [500, 2002, 2005, 2012]] (ps := []) (e := .normal) (σ' := ⟨[500, 2002, 2005, 2012], [(6, vi v6), (5, V.ref 2005 0), (4, vi r11), (3, vi r9), (2, V.ref 2002 0), (0, V.ref 500 0)], [(500, oc 90 [ty o500, ti o500b, T.int .u64 o500c]), (2002, oc 26 [T.nils, ti 0]), (2005, ov 26 [vo 2012 (List.length o12), vi r9]), (2012, oc 3 (List.map (T.int .i64) o12))]⟩) (by kernel_rfl) trivial ?_
        refine WP.seq ?_
        refine WP.block ?_
        obtain ⟨c2, h⟩ := chk_some h
        obtain ⟨r26, r26b, r26c, r26d, c3, h⟩ := bnd4_some h
        obtain ⟨r28, r28b, r28c, r28d, c4, h⟩ := bnd4_some h
        obtain ⟨c5, h⟩ := chk_some h
        obtain ⟨c6, h⟩ := chk_some h
        obtain ⟨c7, h⟩ := chk_some h
        refine WP.path tab_ok mixed [(24, An.v (T.int .i64 (r9 + (2 : Int)))), (25, An.call (ti (maxN (1 : Int) (r9 + (2 : Int))))), (26, An.callG [(500, 500)] [V.ref 500 0, vi (maxN (1 : Int) (r9 + (2 : Int)))] [(500, oc 90 [ty o500, ti o500b, T.int .u64 o500c])] (vi r26) [(500, oc 90 [ty r26b, ti r26c, T.int .u64 r26d])]), (28, An.callG [(500, 500)] [V.ref 500 0, vi 6] [(500, oc 90 [ty r26b, ti r26c, T.int .u64 r26d])] (vi r28) [(500, oc 90 [ty r28b, ti r28c, T.int .u64 r28d])]), (29, An.v (T.int .i64 (Int.tdiv r28 (5 : Int)))), (30, An.v (T.int .i64 (r26 - (Int.tdiv r28 (5 : Int))))), (31, An.fz), (32, An.id 2032)] [.keep [6, 5, 4, 3, 2, 0], .keepO [500, 2002, 2005, 2032]] (ps := [(True), (True), (T.int .i64 (IntKind.wrap .i64 (r9 + (2 : Int))) = T.int .i64 (r9 + (2 : Int))), (C Try.prog 77 [ti 1, ti (r9 + (2 : Int))] (ti (maxN (1 : Int) (r9 + (2 : Int))))), (CG Try.prog 119 [V.ref 500 0, vi (maxN (1 : Int) (r9 + (2 : Int)))] [(500, oc 90 [ty o500, ti o500b, T.int .u64 o500c])] (vi r26) [(500, oc 90 [ty r26b, ti r26c, T.int .u64 r26d])]), ((V.ref 500 0).ren (renF [(500, 500)]) = V.ref 500 0), (WkT (ti (maxN (1 : Int) (r9 + (2 : Int)))) (ti (maxN (1 : Int) (r9 + (2 : Int))))), ((oc 90 [ty o500, ti o500b, T.int .u64 o500c]) = (oc 90 [ty o500, ti o500b, T.int .u64 o500c]).ren (renF [(500, 500)])), (CG Try.prog 119 [V.ref 500 0, vi 6] [(500, oc 90 [ty r26b, ti r26c, T.int .u64 r26d])] (vi r28) [(500, oc 90 [ty r28b, ti r28c, T.int .u64 r28d])]), ((V.ref 500 0).ren (renF [(500, 500)]) = V.ref 500 0), (WkT (ti 6) (ti 6)), ((oc 90 [ty r26b, ti r26c, T.int .u64 r26d]) = (oc 90 [ty r26b, ti r26c, T.int .u64 r26d]).ren (renF [(500, 500)])), ((5 : Int) ≠ 0), (T.int .i64 (IntKind.wrap .i64 (Int.tdiv r28 (5 : Int))) = T.int .i64 (Int.tdiv r28 (5 : Int))), (True), (T.int .i64 (IntKind.wrap .i64 (r26 - (Int.tdiv r28 (5 : Int)))) = T.int .i64 (r26 - (Int.tdiv r28 (5 : Int)))), ((1 = 1 ∧ 0 + 1 ≤ 1) ∧ True), (1 = 1 * 1), (True), (List.length (List.map (T.int .i64) o12) = (List.length o12) * 1), ((((List.length o12) + 1) * 8 ≤ 140737488355328 ∧ (List.length o12) + 1 ≤ maxLen)), (0 < 2)]) (e := .normal) (σ' := ⟨[2032, 500, 2002, 2005, 2012], [(6, vi v6), (5, V.ref 2005 0), (4, vi r11), (3, vi r9), (2, V.ref 2002 0), (0, V.ref 500 0)], [(500, oc 90 [ty r28b, ti r28c, T.int .u64 r28d]), (2002, oc 26 [T.nils, ti 0]), (2005, ov 26 [vo 2032 ((List.length o12) + 1), vi r9]), (2032, oc 3 ((List.map (T.int .i64) o12) ++ [ti (r26 - (Int.tdiv r28 (5 : Int)))]))]⟩) (by kernel_rfl) ⟨trivial, trivial, wrapI c2, (by have hh := (l1Most_C (1 : Int) (r9 + (2 : Int))); first | exact hh | simpa using hh), (F_p_spec_l1Cur_pick_W o500 o500b o500c (maxN (1 : Int) (r9 + (2 : Int))) r26 r26b r26c r26d c3), by first | rfl | (simp [V.ren, V.renL, renF, lk]; done) | (simp [V.ren, V.renL, renF, lk]; omega), WkT.refl _, by first | rfl | (simp only [tlS]; rfl) | (simp [Tl.Obj.ren, V.ren, V.renL, renF, lk]; done), (F_p_spec_l1Cur_pick_W r26b r26c r26d (6 : Int) r28 r28b r28c r28d c4), by first | rfl | (simp [V.ren, V.renL, renF, lk]; done) | (simp [V.ren, V.renL, renF, lk]; omega), WkT.refl _, by first | rfl | (simp only [tlS]; rfl) | (simp [Tl.Obj.ren, V.ren, V.renL, renF, lk]; done), (show (5 : Int) ≠ 0 by first | decide | (simp only [maxLen]; omega) | (unfold I64; omega) | (unfold I64; decide)), quo_told c5, trivial, wrapI c6, ⟨⟨by first | rfl | (simp; done) | (simp []; done) | omega, by first | decide | (simp; done) | (simp []; done) | omega | (simp only [tlL]; omega) | (simp; omega)⟩, trivial⟩, by decide, trivial, by first | rfl | omega | (simp only [tlL] <;> omega) | (simp <;> omega) | (simp [] <;> omega), c7, by decide, trivial⟩ ?_
        obtain ⟨c8, h⟩ := chk_some h
        refine WP.path tab_ok mixed [(19, An.v (T.int .i64 (v6 + (1 : Int))))] [.keep [6, 5, 4, 3, 2, 0], .keepO [500, 2002, 2005, 2032], .names [(500, 500), (2002, 2002), (2005, 2005), (2032, 2012)]] (ps := [(True), (T.int .i64 (IntKind.wrap .i64 (v6 + (1 : Int))) = T.int .i64 (v6 + (1 : Int)))]) (e := .normal) (σ' := ⟨[500, 2002, 2005, 2012], [(6, vi (v6 + (1 : Int))), (5, V.ref 2005 0), (4, vi r11), (3, vi r9), (2, V.ref 2002 0), (0, V.ref 500 0)], [(500, oc 90 [ty r28b, ti r28c, T.int .u64 r28d]), (2002, oc 26 [T.nils, ti 0]), (2005, ov 26 [vo 2012 ((List.length o12) + 1), vi r9]), (2012, oc 3 ((List.map (T.int .i64) o12) ++ [ti (r26 - (Int.tdiv r28 (5 : Int)))]))]⟩) (by kernel_rfl) ⟨trivial, wrapI c8, trivial⟩ ?_
        exact ⟨(n, r28b, r28c, r28d, o12 ++ [(r26 - (Int.tdiv r28 (5 : Int)))], (v6 + (1 : Int))), h, Nat.lt_succ_self _, (by first | rfl | (simp only [tlS, tl, vl, vo, oc, ov, tbl, vbl, ty, vy] <;> rfl) | (simp <;> omega) | (simp []; done) | (rw [List.take_of_length_le (by simp [])] <;> rfl) | (simp [List.take_of_length_le]; done))⟩
      · -- no
        refine WP.cond (b := decide (v6 < r11)) rfl (fun hh => by rw [h1] at hh; cases hh) (fun _ => ?_)
        refine WP.path tab_ok mixed [] [.keep [5, 4, 3, 2, 0], .keepO [500, 2002, 2005, 2012], .names [(500, 500), (2002, 2002), (2005, 2005), (2012, 2012)]] (ps := []) (e := (.exit 0)) (σ' := ⟨[500, 2002, 2005, 2012], [(5, V.ref 2005 0), (4, vi r11), (3, vi r9), (2, V.ref 2002 0), (0, V.ref 500 0)], [(500, oc 90 [ty o500, ti o500b, T.int .u64 o500c]), (2002, oc 26 [T.nils, ti 0]), (2005, ov 26 [vo 2012 (List.length o12), vi r9]), (2012, oc 3 (List.map (T.int .i64) o12))]⟩) (by kernel_rfl) trivial ?_
        exact ⟨(o500, o500b, o500c, o12), h, rfl⟩
  · -- from there
    rintro ⟨o500, o500b, o500c, o12⟩ h0
    have h := (show J1 o500 o500b o500c o12 = some (y0, y1, y2, y3, y4) from h0)
    rw [hJ1] at h
    obtain ⟨J1, hJ1, h⟩ := jn_some h
    refine WP.joinA (fun (zz : (List Int) × Int × Int × (List Int)) => ⟨[500, 2002, 2005, 2012], [(5, V.ref 2005 0), (2, V.ref 2002 0)], [(500, oc 90 [ty zz.1, ti zz.2.1, T.int .u64 zz.2.2.1]), (2002, oc 26 [T.nils, ti 0]), (2005, ov 26 [vo 2012 (List.length zz.2.2.2), vi r9]), (2012, oc 3 (List.map (T.int .i64) zz.2.2.2))]⟩) (fun zz => J1 zz.1 zz.2.1 zz.2.2.1 zz.2.2.2 = some (y0, y1, y2, y3, y4)) ?_ ?_
    · -- to where they meet
      refine WP.seq ?_
      refine WP.path tab_ok mixed [] [.keep [7, 5, 4, 3, 2, 0], .keepO [500, 2002, 2005, 2012]] (ps := []) (e := .normal) (σ' := ⟨[500, 2002, 2005, 2012], [(7, vi 0), (5, V.ref 2005 0), (4, vi r11), (3, vi r9), (2, V.ref 2002 0), (0, V.ref 500 0)], [(500, oc 90 [ty o500, ti o500b, T.int .u64 o500c]), (2002, oc 26 [T.nils, ti 0]), (2005, ov 26 [vo 2012 (List.length o12), vi r9]), (2012, oc 3 (List.map (T.int .i64) o12))]⟩) (by kernel_rfl) trivial ?_
      refine WP.block ?_
      refine WP.wk [.keep [7, 5, 4, 3, 2, 0], .keepO [500, 2002, 2005, 2012], .names [(500, 500), (2002, 2002), (2005, 2005), (2012, 2012)]] (σ' := ⟨[500, 2002, 2005, 2012], [(7, vi 0), (5, V.ref 2005 0), (4, vi r11), (3, vi r9), (2, V.ref 2002 0), (0, V.ref 500 0)], [(500, oc 90 [ty o500, ti o500b, T.int .u64 o500c]), (2002, oc 26 [T.nils, ti 0]), (2005, ov 26 [vo 2012 (List.length o12), vi r9]), (2012, oc 3 (List.map (T.int .i64) o12))]⟩) (ps := []) (by kernel_rfl) trivial ?_
      refine WP.st (σ' := ⟨[500, 2002, 2005, 2012], [(7, vi (0 : Int)), (5, V.ref 2005 0), (4, vi r11), (3, vi r9), (2, V.ref 2002 0), (0, V.ref 500 0)], [(500, oc 90 [ty o500, ti o500b, T.int .u64 o500c]), (2002, oc 26 [T.nils, ti 0]), (2005, ov 26 [vo 2012 (List.length o12), vi r9]), (2012, oc 3 (List.map (T.int .i64) o12))]⟩) (by first | rfl | (simp only [tlS, tl, vl, vo, oc, ov, tbl, vbl, ty, vy] <;> rfl) | (simp <;> omega) | (simp []; done) | (rw [List.take_of_length_le (by simp [])] <;> rfl) | (simp [List.take_of_length_le]; done)) ?_
      refine WP.loop (α := Nat × (List Int) × Int × Int × (List Int) × Int) (fun zz => ⟨[500, 2002, 2005, 2012], [(7, vi zz.2.2.2.2.2), (5, V.ref 2005 0), (4, vi r11), (3, vi r9), (2, V.ref 2002 0), (0, V.ref 500 0)], [(500, oc 90 [ty zz.2.1, ti zz.2.2.1, T.int .u64 zz.2.2.2.1]), (2002, oc 26 [T.nils, ti 0]), (2005, ov 26 [vo 2012 (List.length zz.2.2.2.2.1), vi r9]), (2012, oc 3 (List.map (T.int .i64) zz.2.2.2.2.1))]⟩) (fun zz => F_p_spec_l1Cur_state_L2 r9 r11 J1 zz.1 zz.2.1 zz.2.2.1 zz.2.2.2.1 zz.2.2.2.2.1 zz.2.2.2.2.2 = some (y0, y1, y2, y3, y4)) (fun zz => zz.1) (fuel, o500, o500b, o500c, o12, (0 : Int)) h ?_
      rintro ⟨n, o500d, o500e, o500g, o12b, v7⟩ h0
      have h := (show F_p_spec_l1Cur_state_L2 r9 r11 J1 n o500d o500e o500g o12b v7 = some (y0, y1, y2, y3, y4) from h0)
      rcases n with _ | n
      · rw [F_p_spec_l1Cur_state_L2] at h; cases h
      · rw [F_p_spec_l1Cur_state_L2] at h
        refine WP.seq ?_
        refine WP.seq ?_
        refine WP.path tab_ok mixed [] [.keep [36, 7, 5, 4, 3, 2, 0], .keepO [500, 2002, 2005, 2012]] (ps := [(True)]) (e := .normal) (σ' := ⟨[500, 2002, 2005, 2012], [(36, vb (decide (v7 < r11))), (7, vi v7), (5, V.ref 2005 0), (4, vi r11), (3, vi r9), (2, V.ref 2002 0), (0, V.ref 500 0)], [(500, oc 90 [ty o500d, ti o500e, T.int .u64 o500g]), (2002, oc 26 [T.nils, ti 0]), (2005, ov 26 [vo 2012 (List.length o12b), vi r9]), (2012, oc 3 (List.map (T.int .i64) o12b))]⟩) (by kernel_rfl) ⟨trivial, trivial⟩ ?_
        rcases ite_some h with ⟨h2, h⟩ | ⟨h2, h⟩
        · -- yes
          refine WP.cond (b := decide (v7 < r11)) rfl (fun _ => ?_) (fun hh => by rw [h2] at hh; cases hh)
          refine WP.path tab_ok mixed [] [.keep [7, 5, 4, 3, 2, 0], .keepO [500, 2002, 2005, 2012]] (ps := []) (e := .normal) (σ' := ⟨[500, 2002, 2005, 2012], [(7, vi v7), (5, V.ref 2005 0), (4, vi r11), (3, vi r9), (2, V.ref 2002 0), (0, V.ref 500 0)], [(500, oc 90 [ty o500d, ti o500e, T.int .u64 o500g]), (2002, oc 26 [T.nils, ti 0]), (2005, ov 26 [vo 2012 (List.length o12b), vi r9]), (2012, oc 3 (List.map (T.int .i64) o12b))]⟩) (by kernel_rfl) trivial ?_
          refine WP.seq ?_
          refine WP.block ?_
          obtain ⟨J2, hJ2, h⟩ := jn_some h
          refine WP.joinA (fun (zz : (List Int) × Int × Int × Bool) => ⟨[500, 2002, 2005, 2012], [(50, vb zz.2.2.2), (7, vi v7), (5, V.ref 2005 0), (4, vi r11), (3, vi r9), (2, V.ref 2002 0), (0, V.ref 500 0)], [(500, oc 90 [ty zz.1, ti zz.2.1, T.int .u64 zz.2.2.1]), (2002, oc 26 [T.nils, ti 0]), (2005, ov 26 [vo 2012 (List.length o12b), vi r9]), (2012, oc 3 (List.map (T.int .i64) o12b))]⟩) (fun zz => J2 zz.1 zz.2.1 zz.2.2.1 zz.2.2.2 = some (y0, y1, y2, y3, y4)) ?_ ?_
          · -- to where they meet
            obtain ⟨c2, h⟩ := chk_some h
            rcases ite_some h with ⟨h3, h⟩ | ⟨h3, h⟩
            · -- yes
              obtain ⟨r48, r48b, r48c, r48d, c3, h⟩ := bnd4_some h
              refine WP.path tab_ok mixed [(43, An.v (ti (List.getD o12b (Int.toNat v7) 0))), (45, An.b true), (48, An.callG [(500, 500)] [V.ref 500 0, vi 30] [(500, oc 90 [ty o500d, ti o500e, T.int .u64 o500g])] (vb r48) [(500, oc 90 [ty r48b, ti r48c, T.int .u64 r48d])])] [.keep [50, 7, 5, 4, 3, 2, 0], .keepO [500, 2002, 2005, 2012], .names [(500, 500), (2002, 2002), (2005, 2005), (2012, 2012)]] (ps := [(True), ((0 ≤ v7 ∧ v7 < ((List.length o12b : Nat) : Int))), ((List.map (T.int .i64) o12b : List T)[(Int.toNat v7) * 1]? = some (ti (List.getD o12b (Int.toNat v7) 0))), (ti (List.getD o12b (Int.toNat v7) 0) = ti (List.getD o12b (Int.toNat v7) 0)), (True), ((decide ((List.getD o12b (Int.toNat v7) 0) > r9)) = true), (CG Try.prog 124 [V.ref 500 0, vi 30] [(500, oc 90 [ty o500d, ti o500e, T.int .u64 o500g])] (vb r48) [(500, oc 90 [ty r48b, ti r48c, T.int .u64 r48d])]), ((V.ref 500 0).ren (renF [(500, 500)]) = V.ref 500 0), (WkT (ti 30) (ti 30)), ((oc 90 [ty o500d, ti o500e, T.int .u64 o500g]) = (oc 90 [ty o500d, ti o500e, T.int .u64 o500g]).ren (renF [(500, 500)]))]) (e := .normal) (σ' := ⟨[500, 2002, 2005, 2012], [(50, vb (!r48)), (7, vi v7), (5, V.ref 2005 0), (4, vi r11), (3, vi r9), (2, V.ref 2002 0), (0, V.ref 500 0)], [(500, oc 90 [ty r48b, ti r48c, T.int .u64 r48d]), (2002, oc 26 [T.nils, ti 0]), (2005, ov 26 [vo 2012 (List.length o12b), vi r9]), (2012, oc 3 (List.map (T.int .i64) o12b))]⟩) (by kernel_rfl) ⟨trivial, c2, atM (by simp) (by first | omega | (simp only [tlL]; omega) | (simp; omega)), rfl, trivial, h3, (F_p_spec_l1Cur_one_W o500d o500e o500g (30 : Int) r48 r48b r48c r48d c3), by first | rfl | (simp [V.ren, V.renL, renF, lk]; done) | (simp [V.ren, V.renL, renF, lk]; omega), WkT.refl _, by first | rfl | (simp only [tlS]; rfl) | (simp [Tl.Obj.ren, V.ren, V.renL, renF, lk]; done), trivial⟩ ?_
              exact ⟨(r48b, r48c, r48d, !r48), h, rfl⟩
            · -- no
              refine WP.path tab_ok mixed [(43, An.v (ti (List.getD o12b (Int.toNat v7) 0))), (45, An.b false)] [.keep [50, 7, 5, 4, 3, 2, 0], .keepO [500, 2002, 2005, 2012], .names [(500, 500), (2002, 2002), (2005, 2005), (2012, 2012)]] (ps := [(True), ((0 ≤ v7 ∧ v7 < ((List.length o12b : Nat) : Int))), ((List.map (T.int .i64) o12b : List T)[(Int.toNat v7) * 1]? = some (ti (List.getD o12b (Int.toNat v7) 0))), (ti (List.getD o12b (Int.toNat v7) 0) = ti (List.getD o12b (Int.toNat v7) 0)), (True), ((decide ((List.getD o12b (Int.toNat v7) 0) > r9)) = false)]) (e := .normal) (σ' := ⟨[500, 2002, 2005, 2012], [(50, vb false), (7, vi v7), (5, V.ref 2005 0), (4, vi r11), (3, vi r9), (2, V.ref 2002 0), (0, V.ref 500 0)], [(500, oc 90 [ty o500d, ti o500e, T.int .u64 o500g]), (2002, oc 26 [T.nils, ti 0]), (2005, ov 26 [vo 2012 (List.length o12b), vi r9]), (2012, oc 3 (List.map (T.int .i64) o12b))]⟩) (by kernel_rfl) ⟨trivial, c2, atM (by simp) (by first | omega | (simp only [tlL]; omega) | (simp; omega)), rfl, trivial, h3, trivial⟩ ?_
              exact ⟨(o500d, o500e, o500g, false), h, rfl⟩
          · -- from there
            rintro ⟨o500i, o500j, o500k, v50⟩ h0
            have h := (show J2 o500i o500j o500k v50 = some (y0, y1, y2, y3, y4) from h0)
            rw [hJ2] at h
            rcases ite_some h with ⟨h4, h⟩ | ⟨h4, h⟩
            · -- yes
              refine WP.cond (b := v50) rfl (fun _ => ?_) (fun hh => by rw [h4] at hh; cases hh)
              obtain ⟨c2, h⟩ := chk_some h
              refine WP.path tab_ok mixed [] [.keep [7, 5, 4, 3, 2, 0], .keepO [500, 2002, 2005, 2012]] (ps := [(True), ((0 ≤ v7 ∧ v7 < ((List.length o12b : Nat) : Int))), ((Int.toNat v7) * 1 < List.length (List.map (T.int .i64) o12b))]) (e := .normal) (σ' := ⟨[500, 2002, 2005, 2012], [(7, vi v7), (5, V.ref 2005 0), (4, vi r11), (3, vi r9), (2, V.ref 2002 0), (0, V.ref 500 0)], [(500, oc 90 [ty o500i, ti o500j, T.int .u64 o500k]), (2002, oc 26 [T.nils, ti 0]), (2005, ov 26 [vo 2012 (List.length o12b), vi r9]), (2012, oc 3 (List.set (List.map (T.int .i64) o12b) ((Int.toNat v7) * 1) (ti (-1))))]⟩) (by kernel_rfl) ⟨trivial, c2, by first | decide | omega | (simp only [tlL] <;> omega) | (simp <;> omega) | (simp [] <;> omega), trivial⟩ ?_
              obtain ⟨c3, h⟩ := chk_some h
              refine WP.path tab_ok mixed [(38, An.v (T.int .i64 (v7 + (1 : Int))))] [.keep [7, 5, 4, 3, 2, 0], .keepO [500, 2002, 2005, 2012], .names [(500, 500), (2002, 2002), (2005, 2005), (2012, 2012)]] (ps := [(True), (T.int .i64 (IntKind.wrap .i64 (v7 + (1 : Int))) = T.int .i64 (v7 + (1 : Int)))]) (e := .normal) (σ' := ⟨[500, 2002, 2005, 2012], [(7, vi (v7 + (1 : Int))), (5, V.ref 2005 0), (4, vi r11), (3, vi r9), (2, V.ref 2002 0), (0, V.ref 500 0)], [(500, oc 90 [ty o500i, ti o500j, T.int .u64 o500k]), (2002, oc 26 [T.nils, ti 0]), (2005, ov 26 [vo 2012 (List.length o12b), vi r9]), (2012, oc 3 (List.set (List.map (T.int .i64) o12b) ((Int.toNat v7) * 1) (ti (-1))))]⟩) (by kernel_rfl) ⟨trivial, wrapI c3, trivial⟩ ?_
              exact ⟨(n, o500i, o500j, o500k, List.set o12b (Int.toNat v7) (-1 : Int), (v7 + (1 : Int))), h, Nat.lt_succ_self _, (by first | rfl | (simp only [tlS, tl, vl, vo, oc, ov, tbl, vbl, ty, vy] <;> rfl) | (simp <;> omega) | (simp []; done) | (rw [List.take_of_length_le (by simp [])] <;> rfl) | (simp [List.take_of_length_le]; done))⟩
            · -- no
              refine WP.cond (b := v50) rfl (fun hh => by rw [h4] at hh; cases hh) (fun _ => ?_)
              refine WP.path tab_ok mixed [] [.keep [7, 5, 4, 3, 2, 0], .keepO [500, 2002, 2005, 2012]] (ps := []) (e := .normal) (σ' := ⟨[500, 2002, 2005, 2012], [(7, vi v7), (5, V.ref 2005 0), (4, vi r11), (3, vi r9), (2, V.ref 2002 0), (0, V.ref 500 0)], [(500, oc 90 [ty o500i, ti o500j, T.int .u64 o500k]), (2002, oc 26 [T.nils, ti 0]), (2005, ov 26 [vo 2012 (List.length o12b), vi r9]), (2012, oc 3 (List.map (T.int .i64) o12b))]⟩) (by kernel_rfl) trivial ?_
              obtain ⟨c2, h⟩ := chk_some h
              refine WP.path tab_ok mixed [(38, An.v (T.int .i64 (v7 + (1 : Int))))] [.keep [7, 5, 4, 3, 2, 0], .keepO [500, 2002, 2005, 2012], .names [(500, 500), (2002, 2002), (2005, 2005), (2012, 2012)]] (ps := [(True), (T.int .i64 (IntKind.wrap .i64 (v7 + (1 : Int))) = T.int .i64 (v7 + (1 : Int)))]) (e := .normal) (σ' := ⟨[500, 2002, 2005, 2012], [(7, vi (v7 + (1 : Int))), (5, V.ref 2005 0), (4, vi r11), (3, vi r9), (2, V.ref 2002 0), (0, V.ref 500 0)], [(500, oc 90 [ty o500i, ti o500j, T.int .u64 o500k]), (2002, oc 26 [T.nils, ti 0]), (2005, ov 26 [vo 2012 (List.length o12b), vi r9]), (2012, oc 3 (List.map (T.int .i64) o12b))]⟩) (by kernel_rfl) ⟨trivial, wrapI c2, trivial⟩ ?_
              exact ⟨(n, o500i, o500j, o500k, o12b, (v7 + (1 : Int))), h, Nat.lt_succ_self _, rfl⟩
        · -- no
          refine WP.cond (b := decide (v7 < r11)) rfl (fun hh => by rw [h2] at hh; cases hh) (fun _ => ?_)
          refine WP.path tab_ok mixed [] [.keep [5, 2], .keepO [500, 2002, 2005, 2012], .names [(500, 500), (2002, 2002), (2005, 2005), (2012, 2012)]] (ps := []) (e := (.exit 2)) (σ' := ⟨[500, 2002, 2005, 2012], [(5, V.ref 2005 0), (2, V.ref 2002 0)], [(500, oc 90 [ty o500d, ti o500e, T.int .u64 o500g]), (2002, oc 26 [T.nils, ti 0]), (2005, ov 26 [vo 2012 (List.length o12b), vi r9]), (2012, oc 3 (List.map (T.int .i64) o12b))]⟩) (by kernel_rfl) trivial ?_
          exact ⟨(o500d, o500e, o500g, o12b), h, rfl⟩
    · -- from there
      rintro ⟨o500d, o500e, o500g, o12b⟩ h0
      have h := (show J1 o500d o500e o500g o12b = some (y0, y1, y2, y3, y4) from h0)
      rw [hJ1] at h
      simp only [Option.some.injEq, Prod.mk.injEq] at h
      obtain ⟨rfl, rfl, rfl, rfl, rfl⟩ := h
      exact WP.pathG tab_ok mixed [] [.keep [2], .keepO [500, 2012, 2002], .names [(500, 500), (2012, 9000), (2002, 2002)]] [500, 9000] _ (r' := V.agg [vo 9000 (List.length o12b), vi r9]) (ps := [(0 + 2 ≤ 2), ((0 + 2 ≤ 2 ∧ 2 = 2)), (0 + 2 ≤ 2)]) (r := V.agg [vo 9000 (List.length o12b), vi r9]) (N := [500, 9000, 2002]) (O := [(500, oc 90 [ty o500d, ti o500e, T.int .u64 o500g]), (9000, oc 3 (List.map (T.int .i64) o12b))]) [] (by kernel_rfl) ⟨by decide, by decide, by decide, trivial⟩ ⟨rfl, (WkT.refl _), trivial⟩ rfl rfl (fun _ h => h)
theorem F_spec_l2Start_W (x0 : Int) (x1 : Int) (y0 : List Int) (y1 : Int) (h : F_spec_l2Start x0 x1 = some (y0, y1)) : CG Try.prog 125 [vi x0, vi x1] [] (V.agg [vo 9000 (List.length y0), vi y1]) [(9000, oc 3 (List.map (T.int .i64) y0))] := by
  unfold F_spec_l2Start at h
  refine CG.intro (tab := tab) tab_ok (fn := Try.f125) Try.func125 (by kernel_rfl) rfl (Nat.le_of_ble_eq_true rfl) (by kernel_rfl) ?_
  obtain ⟨c0, h⟩ := chk_some h
  simp only [Option.some.injEq, Prod.mk.injEq] at h
  obtain ⟨rfl, rfl⟩ := h
  exact WP.pathG tab_ok mixed [(4, An.id 2004), (6, An.id 2006)] [.keep [4], .keepO [2006, 2004], .names [(2006, 9000), (2004, 2004)]] [9000] _ (r' := V.agg [vo 9000 (List.length (List.replicate (Int.toNat x0) (0 : Int))), vi x1]) (ps := [((0 ≤ x0 ∧ x0 ≤ x0 ∧ (8 : Int) * x0 ≤ 281474976710656 ∧ x0 ≤ (maxLen : Int))), ((1 = 1 ∧ 0 + 1 ≤ 2) ∧ (1 = 1 ∧ 1 + 1 ≤ 2) ∧ True), ((0 + 2 ≤ 2 ∧ 2 = 2)), (0 + 2 ≤ 2)]) (r := V.agg [vo 9000 (Int.toNat x0), vi x1]) (N := [9000, 2004]) (O := [(9000, oc 3 (List.replicate (Int.toNat x0) (ti 0)))]) [] (by kernel_rfl) ⟨c0, ⟨⟨by decide, by decide⟩, ⟨by decide, by decide⟩, trivial⟩, by decide, by decide, trivial⟩ ⟨(congrArg (V.own 9000 1) (by first | rfl | (simp only [tlS, tl, vl, vo, oc, ov, tbl, vbl, ty, vy] <;> rfl) | (simp <;> omega) | (simp []; done) | (rw [List.take_of_length_le (by simp [])] <;> rfl) | (simp [List.take_of_length_le]; done))), (WkT.refl _), trivial⟩ rfl (by first | rfl | (simp only [tlS, tl, vl, vo, oc, ov, tbl, vbl, ty, vy] <;> rfl) | (simp <;> omega) | (simp []; done) | (rw [List.take_of_length_le (by simp [])] <;> rfl) | (simp [List.take_of_length_le]; done)) (fun _ h => h)
theorem F_spec_l2Start_W_C (x0 : Int) (x1 : Int) (y0 : List Int) (y1 : Int) (h : F_spec_l2Start x0 x1 = some (y0, y1)) : C Try.prog 125 [ti x0, ti x1] (T.agg [tl y0, ti y1]) :=
  CG.toC (ps := [(List.length (List.map (T.int .i64) y0) = (List.length y0) * 1)]) (F_spec_l2Start_W  x0 x1 y0 y1 h) (by rfl) ⟨by first | rfl | omega | (simp <;> omega) | (simp [hl] <;> omega), trivial⟩
theorem F_p_spec_l1Cur_question_W (x0 : List Int) (x1 : Int) (x2 : Int) (x3 : Int) (y0 : Int) (y1 : List Int) (y2 : Int) (y3 : Int) (h : F_p_spec_l1Cur_question x0 x1 x2 x3 = some (y0, y1, y2, y3)) : CG Try.prog 126 [V.ref 500 0, vi x3] [(500, oc 90 [ty x0, ti x1, T.int .u64 x2])] (vi y0) [(500, oc 90 [ty y1, ti y2, T.int .u64 y3])] := by
  unfold F_p_spec_l1Cur_question at h
  refine CG.intro (tab := tab) tab_ok (fn := Try.f126) Try.func126 (by kernel_rfl) rfl (Nat.le_of_ble_eq_true rfl) (by kernel_rfl) ?_
  refine WP.seq ?_
  refine WP.path tab_ok mixed [] [.keep [4, 0, 1], .keepO [500]] (ps := []) (e := .normal) (σ' := ⟨[500], [(4, vi 0), (0, V.ref 500 0), (1, vi x3)], [(500, oc 90 [ty x0, ti x1, T.int .u64 x2])]⟩) (by kernel_rfl) trivial ?_
  refine WP.seq ?_
  refine WP.seq ?_
  obtain ⟨r6, r6b, r6c, r6d, c0, h⟩ := bnd4_some h
  refine WP.path tab_ok mixed [(6, An.callG [(500, 500)] [V.ref 500 0, vi 24] [(500, oc 90 [ty x0, ti x1, T.int .u64 x2])] (vb r6) [(500, oc 90 [ty r6b, ti r6c, T.int .u64 r6d])])] [.keep [6, 4, 0, 1], .keepO [500]] (ps := [(CG Try.prog 124 [V.ref 500 0, vi 24] [(500, oc 90 [ty x0, ti x1, T.int .u64 x2])] (vb r6) [(500, oc 90 [ty r6b, ti r6c, T.int .u64 r6d])]), ((V.ref 500 0).ren (renF [(500, 500)]) = V.ref 500 0), (WkT (ti 24) (ti 24)), ((oc 90 [ty x0, ti x1, T.int .u64 x2]) = (oc 90 [ty x0, ti x1, T.int .u64 x2]).ren (renF [(500, 500)]))]) (e := .normal) (σ' := ⟨[500], [(6, vb r6), (4, vi 0), (0, V.ref 500 0), (1, vi x3)], [(500, oc 90 [ty r6b, ti r6c, T.int .u64 r6d])]⟩) (by kernel_rfl) ⟨(F_p_spec_l1Cur_one_W x0 x1 x2 (24 : Int) r6 r6b r6c r6d c0), by first | rfl | (simp [V.ren, V.renL, renF, lk]; done) | (simp [V.ren, V.renL, renF, lk]; omega), WkT.refl _, by first | rfl | (simp only [tlS]; rfl) | (simp [Tl.Obj.ren, V.ren, V.renL, renF, lk]; done), trivial⟩ ?_
  rcases ite_some h with ⟨h1, h⟩ | ⟨h1, h⟩
  · -- yes
    refine WP.cond (b := r6) rfl (fun _ => ?_) (fun hh => by rw [h1] at hh; cases hh)
    obtain ⟨c1, h⟩ := chk_some h
    obtain ⟨r13, r13b, r13c, r13d, c2, h⟩ := bnd4_some h
    simp only [Option.some.injEq, Prod.mk.injEq] at h
    obtain ⟨rfl, rfl, rfl, rfl⟩ := h
    exact WP.pathG tab_ok mixed [(9, An.call (ti (minN x3 (13 : Int)))), (10, An.call (ti (maxN (0 : Int) (minN x3 (13 : Int))))), (11, An.v (T.int .i64 ((1 : Int) * 2 ^ Int.toNat (maxN (0 : Int) (minN x3 (13 : Int)))))), (12, An.fz), (13, An.callG [(500, 500)] [V.ref 500 0, vl [(-1 : Int), ((1 : Int) * 2 ^ Int.toNat (maxN (0 : Int) (minN x3 (13 : Int)))), (4611686018427387904 : Int)]] [(500, oc 90 [ty r6b, ti r6c, T.int .u64 r6d])] (vi r13) [(500, oc 90 [ty r13b, ti r13c, T.int .u64 r13d])])] [.keep [4], .keepO [500], .names [(500, 500)]] [500] _ (r' := vi r13) (ps := [(C Try.prog 141 [ti x3, ti 13] (ti (minN x3 (13 : Int)))), (C Try.prog 77 [ti 0, ti (minN x3 (13 : Int))] (ti (maxN (0 : Int) (minN x3 (13 : Int))))), (0 ≤ (maxN (0 : Int) (minN x3 (13 : Int)))), (T.int .i64 (IntKind.wrap .i64 ((1 : Int) * 2 ^ (min (Int.toNat (maxN (0 : Int) (minN x3 (13 : Int)))) 64))) = T.int .i64 ((1 : Int) * 2 ^ Int.toNat (maxN (0 : Int) (minN x3 (13 : Int))))), ((1 = 1 ∧ 0 + 1 ≤ 3) ∧ (1 = 1 ∧ 1 + 1 ≤ 3) ∧ (1 = 1 ∧ 2 + 1 ≤ 3) ∧ True), (3 = 3 * 1), (CG Try.prog 78 [V.ref 500 0, vl [(-1 : Int), ((1 : Int) * 2 ^ Int.toNat (maxN (0 : Int) (minN x3 (13 : Int)))), (4611686018427387904 : Int)]] [(500, oc 90 [ty r6b, ti r6c, T.int .u64 r6d])] (vi r13) [(500, oc 90 [ty r13b, ti r13c, T.int .u64 r13d])]), ((V.ref 500 0).ren (renF [(500, 500)]) = V.ref 500 0), (WkT (T.list 3 1 [ti (-1), ti ((1 : Int) * 2 ^ Int.toNat (maxN (0 : Int) (minN x3 (13 : Int)))), ti 4611686018427387904]) (tl [(-1 : Int), ((1 : Int) * 2 ^ Int.toNat (maxN (0 : Int) (minN x3 (13 : Int)))), (4611686018427387904 : Int)])), ((oc 90 [ty r6b, ti r6c, T.int .u64 r6d]) = (oc 90 [ty r6b, ti r6c, T.int .u64 r6d]).ren (renF [(500, 500)]))]) (r := vi r13) (N := [500]) (O := [(500, oc 90 [ty r13b, ti r13c, T.int .u64 r13d])]) [] (by kernel_rfl) ⟨(by have hh := (l1Least_C x3 (13 : Int)); first | exact hh | simpa using hh), (by have hh := (l1Most_C (0 : Int) (minN x3 (13 : Int))); first | exact hh | simpa using hh), c1.1, shl_told c1, ⟨⟨by first | rfl | (simp; done) | (simp []; done) | omega, by first | decide | (simp; done) | (simp []; done) | omega | (simp only [tlL]; omega) | (simp; omega)⟩, ⟨by first | rfl | (simp; done) | (simp []; done) | omega, by first | decide | (simp; done) | (simp []; done) | omega | (simp only [tlL]; omega) | (simp; omega)⟩, ⟨by first | rfl | (simp; done) | (simp []; done) | omega, by first | decide | (simp; done) | (simp []; done) | omega | (simp only [tlL]; omega) | (simp; omega)⟩, trivial⟩, by decide, (F_p_spec_l1Cur_among_W r6b r6c r6d [(-1 : Int), ((1 : Int) * 2 ^ Int.toNat (maxN (0 : Int) (minN x3 (13 : Int)))), (4611686018427387904 : Int)] r13 r13b r13c r13d c2), by first | rfl | (simp [V.ren, V.renL, renF, lk]; done) | (simp [V.ren, V.renL, renF, lk]; omega), WkT.eq (WkT.refl _) (by first | rfl | (simp only [tlS, tl, vl, vo, oc, ov, tbl, vbl, ty, vy] <;> rfl) | (simp <;> omega) | (simp []; done) | (rw [List.take_of_length_le (by simp [])] <;> rfl) | (simp [List.take_of_length_le]; done)), by first | rfl | (simp only [tlS]; rfl) | (simp [Tl.Obj.ren, V.ren, V.renL, renF, lk]; done), trivial⟩ ⟨(WkT.refl _), trivial⟩ rfl rfl (fun _ h => h)
  · -- no
    refine WP.cond (b := r6) rfl (fun hh => by rw [h1] at hh; cases hh) (fun _ => ?_)
    refine WP.path tab_ok mixed [] [.keep [4, 0, 1], .keepO [500]] (ps := []) (e := .normal) (σ' := ⟨[500], [(4, vi 0), (0, V.ref 500 0), (1, vi x3)], [(500, oc 90 [ty r6b, ti r6c, T.int .u64 r6d])]⟩) (by kernel_rfl) trivial ?_
    obtain ⟨c1, h⟩ := chk_some h
    obtain ⟨r19, r19b, r19c, r19d, c2, h⟩ := bnd4_some h
    simp only [Option.some.injEq, Prod.mk.injEq] at h
    obtain ⟨rfl, rfl, rfl, rfl⟩ := h
    exact WP.pathG tab_ok mixed [(16, An.call (ti (minN x3 (12 : Int)))), (17, An.call (ti (maxN (0 : Int) (minN x3 (12 : Int))))), (18, An.v (T.int .i64 ((1 : Int) * 2 ^ Int.toNat (maxN (0 : Int) (minN x3 (12 : Int)))))), (19, An.callG [(500, 500)] [V.ref 500 0, vi ((1 : Int) * 2 ^ Int.toNat (maxN (0 : Int) (minN x3 (12 : Int))))] [(500, oc 90 [ty r6b, ti r6c, T.int .u64 r6d])] (vi r19) [(500, oc 90 [ty r19b, ti r19c, T.int .u64 r19d])])] [.keep [4], .keepO [500], .names [(500, 500)]] [500] _ (r' := vi r19) (ps := [(C Try.prog 141 [ti x3, ti 12] (ti (minN x3 (12 : Int)))), (C Try.prog 77 [ti 0, ti (minN x3 (12 : Int))] (ti (maxN (0 : Int) (minN x3 (12 : Int))))), (0 ≤ (maxN (0 : Int) (minN x3 (12 : Int)))), (T.int .i64 (IntKind.wrap .i64 ((1 : Int) * 2 ^ (min (Int.toNat (maxN (0 : Int) (minN x3 (12 : Int)))) 64))) = T.int .i64 ((1 : Int) * 2 ^ Int.toNat (maxN (0 : Int) (minN x3 (12 : Int))))), (CG Try.prog 119 [V.ref 500 0, vi ((1 : Int) * 2 ^ Int.toNat (maxN (0 : Int) (minN x3 (12 : Int))))] [(500, oc 90 [ty r6b, ti r6c, T.int .u64 r6d])] (vi r19) [(500, oc 90 [ty r19b, ti r19c, T.int .u64 r19d])]), ((V.ref 500 0).ren (renF [(500, 500)]) = V.ref 500 0), (WkT (ti ((1 : Int) * 2 ^ Int.toNat (maxN (0 : Int) (minN x3 (12 : Int))))) (ti ((1 : Int) * 2 ^ Int.toNat (maxN (0 : Int) (minN x3 (12 : Int)))))), ((oc 90 [ty r6b, ti r6c, T.int .u64 r6d]) = (oc 90 [ty r6b, ti r6c, T.int .u64 r6d]).ren (renF [(500, 500)]))]) (r := vi r19) (N := [500]) (O := [(500, oc 90 [ty r19b, ti r19c, T.int .u64 r19d])]) [] (by kernel_rfl) ⟨(by have hh := (l1Least_C x3 (12 : Int)); first | exact hh | simpa using hh), (by have hh := (l1Most_C (0 : Int) (minN x3 (12 : Int))); first | exact hh | simpa using hh), c1.1, shl_told c1, (F_p_spec_l1Cur_pick_W r6b r6c r6d ((1 : Int) * 2 ^ Int.toNat (maxN (0 : Int) (minN x3 (12 : Int)))) r19 r19b r19c r19d c2), by first | rfl | (simp [V.ren, V.renL, renF, lk]; done) | (simp [V.ren, V.renL, renF, lk]; omega), WkT.refl _, by first | rfl | (simp only [tlS]; rfl) | (simp [Tl.Obj.ren, V.ren, V.renL, renF, lk]; done), trivial⟩ ⟨(WkT.refl _), trivial⟩ rfl rfl (fun _ h => h)
theorem F_p_spec_l1Cur_fixed_W (x0 : List Int) (x1 : Int) (x2 : Int) (y0 : List Int) (y1 : Int) (y2 : List Int) (y3 : List Int) (y4 : Int) (y5 : Int) (h : F_p_spec_l1Cur_fixed x0 x1 x2 = some (y0, y1, y2, y3, y4, y5)) : CG Try.prog 87 [V.ref 500 0] [(500, oc 90 [ty x0, ti x1, T.int .u64 x2])] (V.t (T.tup [T.agg [tl y0, ti y1], tl y2])) [(500, oc 90 [ty y3, ti y4, T.int .u64 y5])] := by
  unfold F_p_spec_l1Cur_fixed at h
  refine CG.intro (tab := tab) tab_ok (fn := Try.f87) Try.func87 (by kernel_rfl) rfl (Nat.le_of_ble_eq_true rfl) (by kernel_rfl) ?_
  refine WP.seq ?_
  refine WP.path tab_ok mixed [(2, An.id 2002)] [.keep [3, 2, 0], .keepO [500, 2002]] (ps := []) (e := .normal) (σ' := ⟨[2002, 500], [(3, V.t (T.nils)), (2, V.ref 2002 0), (0, V.ref 500 0)], [(500, oc 90 [ty x0, ti x1, T.int .u64 x2]), (2002, oc 26 [T.nils, ti 0])]⟩) (by kernel_rfl) trivial ?_
  refine WP.seq ?_
  obtain ⟨r12, r12b, r12c, r12d, r12e, c0, h⟩ := bnd5_some h
  refine WP.path tab_ok mixed [(12, An.callG [(500, 500), (9000, 10120)] [V.ref 500 0] [(500, oc 90 [ty x0, ti x1, T.int .u64 x2])] (V.agg [vo 9000 (List.length r12), vi r12b]) [(500, oc 90 [ty r12c, ti r12d, T.int .u64 r12e]), (9000, oc 3 (List.map (T.int .i64) r12))]), (4, An.id 2004)] [.keep [4, 3, 2, 0], .keepO [500, 2002, 2004, 10120]] (ps := [(CG Try.prog 98 [V.ref 500 0] [(500, oc 90 [ty x0, ti x1, T.int .u64 x2])] (V.agg [vo 9000 (List.length r12), vi r12b]) [(500, oc 90 [ty r12c, ti r12d, T.int .u64 r12e]), (9000, oc 3 (List.map (T.int .i64) r12))]), ((V.ref 500 0).ren (renF [(500, 500), (9000, 10120)]) = V.ref 500 0), ((oc 90 [ty x0, ti x1, T.int .u64 x2]) = (oc 90 [ty x0, ti x1, T.int .u64 x2]).ren (renF [(500, 500), (9000, 10120)])), ((0 + 2 ≤ 2 ∧ 2 = 2))]) (e := .normal) (σ' := ⟨[2004, 10120, 2002, 500], [(4, V.ref 2004 0), (3, V.t (T.nils)), (2, V.ref 2002 0), (0, V.ref 500 0)], [(500, oc 90 [ty r12c, ti r12d, T.int .u64 r12e]), (2002, oc 26 [T.nils, ti 0]), (2004, ov 26 [vo 10120 (List.length r12), vi r12b]), (10120, oc 3 (List.map (T.int .i64) r12))]⟩) (by kernel_rfl) ⟨(F_p_spec_l1Cur_state_W x0 x1 x2 r12 r12b r12c r12d r12e c0), by first | rfl | (simp [V.ren, V.renL, renF, lk]; done) | (simp [V.ren, V.renL, renF, lk]; omega), by first | rfl | (simp only [tlS]; rfl) | (simp [Tl.Obj.ren, V.ren, V.renL, renF, lk]; done), by decide, trivial⟩ ?_
  obtain ⟨J1, hJ1, h⟩ := jn_some h
  refine WP.joinA (fun (zz : (List Int) × Int × Int × (List Int) × Int) => ⟨[500, 2002, 2004, 10200], [(4, V.ref 2004 0), (3, V.t (T.nils)), (2, V.ref 2002 0), (0, V.ref 500 0)], [(500, oc 90 [ty zz.1, ti zz.2.1, T.int .u64 zz.2.2.1]), (2002, oc 26 [T.nils, ti 0]), (2004, ov 26 [vo 10200 (List.length zz.2.2.2.1), vi zz.2.2.2.2]), (10200, oc 3 (List.map (T.int .i64) zz.2.2.2.1))]⟩) (fun zz => J1 zz.1 zz.2.1 zz.2.2.1 zz.2.2.2.1 zz.2.2.2.2 = some (y0, y1, y2, y3, y4, y5)) ?_ ?_
  · -- to where they meet
    refine WP.seq ?_
    obtain ⟨r14, r14b, r14c, r14d, c1, h⟩ := bnd4_some h
    refine WP.path tab_ok mixed [(14, An.callG [(500, 500)] [V.ref 500 0, vi 2] [(500, oc 90 [ty r12c, ti r12d, T.int .u64 r12e])] (vb r14) [(500, oc 90 [ty r14b, ti r14c, T.int .u64 r14d])])] [.keep [14, 4, 3, 2, 0], .keepO [500, 2002, 2004, 10120]] (ps := [(CG Try.prog 124 [V.ref 500 0, vi 2] [(500, oc 90 [ty r12c, ti r12d, T.int .u64 r12e])] (vb r14) [(500, oc 90 [ty r14b, ti r14c, T.int .u64 r14d])]), ((V.ref 500 0).ren (renF [(500, 500)]) = V.ref 500 0), (WkT (ti 2) (ti 2)), ((oc 90 [ty r12c, ti r12d, T.int .u64 r12e]) = (oc 90 [ty r12c, ti r12d, T.int .u64 r12e]).ren (renF [(500, 500)]))]) (e := .normal) (σ' := ⟨[2004, 10120, 2002, 500], [(14, vb r14), (4, V.ref 2004 0), (3, V.t (T.nils)), (2, V.ref 2002 0), (0, V.ref 500 0)], [(500, oc 90 [ty r14b, ti r14c, T.int .u64 r14d]), (2002, oc 26 [T.nils, ti 0]), (2004, ov 26 [vo 10120 (List.length r12), vi r12b]), (10120, oc 3 (List.map (T.int .i64) r12))]⟩) (by kernel_rfl) ⟨(F_p_spec_l1Cur_one_W r12c r12d r12e (2 : Int) r14 r14b r14c r14d c1), by first | rfl | (simp [V.ren, V.renL, renF, lk]; done) | (simp [V.ren, V.renL, renF, lk]; omega), WkT.refl _, by first | rfl | (simp only [tlS]; rfl) | (simp [Tl.Obj.ren, V.ren, V.renL, renF, lk]; done), trivial⟩ ?_
    rcases ite_some h with ⟨h1, h⟩ | ⟨h1, h⟩
    · -- yes
      refine WP.cond (b := r14) rfl (fun _ => ?_) (fun hh => by rw [h1] at hh; cases hh)
      obtain ⟨r16, r16b, r16c, r16d, c2, h⟩ := bnd4_some h
      obtain ⟨c3, h⟩ := chk_some h
      obtain ⟨r19, r19b, r19c, r19d, c4, h⟩ := bnd4_some h
      obtain ⟨r20, r20b, c5, h⟩ := bnd2_some h
      refine WP.path tab_ok mixed [(16, An.callG [(500, 500)] [V.ref 500 0, vi 6] [(500, oc 90 [ty r14b, ti r14c, T.int .u64 r14d])] (vi r16) [(500, oc 90 [ty r16b, ti r16c, T.int .u64 r16d])]), (17, An.v (T.int .i64 ((2 : Int) + r16))), (19, An.callG [(500, 500)] [V.ref 500 0, vi 3] [(500, oc 90 [ty r16b, ti r16c, T.int .u64 r16d])] (vi r19) [(500, oc 90 [ty r19b, ti r19c, T.int .u64 r19d])]), (20, An.callG [(9000, 10200)] [vi ((2 : Int) + r16), vi r19] [] (V.agg [vo 9000 (List.length r20), vi r20b]) [(9000, oc 3 (List.map (T.int .i64) r20))])] [.keep [4, 3, 2, 0], .keepO [500, 2002, 2004, 10200], .names [(500, 500), (2002, 2002), (2004, 2004), (10200, 10200)]] (ps := [(CG Try.prog 119 [V.ref 500 0, vi 6] [(500, oc 90 [ty r14b, ti r14c, T.int .u64 r14d])] (vi r16) [(500, oc 90 [ty r16b, ti r16c, T.int .u64 r16d])]), ((V.ref 500 0).ren (renF [(500, 500)]) = V.ref 500 0), (WkT (ti 6) (ti 6)), ((oc 90 [ty r14b, ti r14c, T.int .u64 r14d]) = (oc 90 [ty r14b, ti r14c, T.int .u64 r14d]).ren (renF [(500, 500)])), (True), (T.int .i64 (IntKind.wrap .i64 ((2 : Int) + r16)) = T.int .i64 ((2 : Int) + r16)), (CG Try.prog 119 [V.ref 500 0, vi 3] [(500, oc 90 [ty r16b, ti r16c, T.int .u64 r16d])] (vi r19) [(500, oc 90 [ty r19b, ti r19c, T.int .u64 r19d])]), ((V.ref 500 0).ren (renF [(500, 500)]) = V.ref 500 0), (WkT (ti 3) (ti 3)), ((oc 90 [ty r16b, ti r16c, T.int .u64 r16d]) = (oc 90 [ty r16b, ti r16c, T.int .u64 r16d]).ren (renF [(500, 500)])), (CG Try.prog 125 [vi ((2 : Int) + r16), vi r19] [] (V.agg [vo 9000 (List.length r20), vi r20b]) [(9000, oc 3 (List.map (T.int .i64) r20))]), (WkT (ti ((2 : Int) + r16)) (ti ((2 : Int) + r16))), (WkT (ti r19) (ti r19)), ((0 + 2 ≤ 2 ∧ 2 = 2))]) (e := .normal) (σ' := ⟨[500, 2002, 2004, 10200], [(4, V.ref 2004 0), (3, V.t (T.nils)), (2, V.ref 2002 0), (0, V.ref 500 0)], [(500, oc 90 [ty r19b, ti r19c, T.int .u64 r19d]), (2002, oc 26 [T.nils, ti 0]), (2004, ov 26 [vo 10200 (List.length r20), vi r20b]), (10200, oc 3 (List.map (T.int .i64) r20))]⟩) (by kernel_rfl) ⟨(F_p_spec_l1Cur_pick_W r14b r14c r14d (6 : Int) r16 r16b r16c r16d c2), by first | rfl | (simp [V.ren, V.renL, renF, lk]; done) | (simp [V.ren, V.renL, renF, lk]; omega), WkT.refl _, by first | rfl | (simp only [tlS]; rfl) | (simp [Tl.Obj.ren, V.ren, V.renL, renF, lk]; done), trivial, wrapI c3, (F_p_spec_l1Cur_pick_W r16b r16c r16d (3 : Int) r19 r19b r19c r19d c4), by first | rfl | (simp [V.ren, V.renL, renF, lk]; done) | (simp [V.ren, V.renL, renF, lk]; omega), WkT.refl _, by first | rfl | (simp only [tlS]; rfl) | (simp [Tl.Obj.ren, V.ren, V.renL, renF, lk]; done), (F_spec_l2Start_W ((2 : Int) + r16) r19 r20 r20b c5), WkT.refl _, WkT.refl _, by decide, trivial⟩ ?_
      exact ⟨(r19b, r19c, r19d, r20, r20b), h, rfl⟩
    · -- no
      refine WP.cond (b := r14) rfl (fun hh => by rw [h1] at hh; cases hh) (fun _ => ?_)
      refine WP.path tab_ok mixed [] [.keep [4, 3, 2, 0], .keepO [500, 2002, 2004, 10120], .names [(500, 500), (2002, 2002), (2004, 2004), (10120, 10200)]] (ps := []) (e := .normal) (σ' := ⟨[500, 2002, 2004, 10200], [(4, V.ref 2004 0), (3, V.t (T.nils)), (2, V.ref 2002 0), (0, V.ref 500 0)], [(500, oc 90 [ty r14b, ti r14c, T.int .u64 r14d]), (2002, oc 26 [T.nils, ti 0]), (2004, ov 26 [vo 10200 (List.length r12), vi r12b]), (10200, oc 3 (List.map (T.int .i64) r12))]⟩) (by kernel_rfl) trivial ?_
      exact ⟨(r14b, r14c, r14d, r12, r12b), h, rfl⟩
  · -- from there
    rintro ⟨o500, o500b, o500c, o10200, o4⟩ h0
    have h := (show J1 o500 o500b o500c o10200 o4 = some (y0, y1, y2, y3, y4, y5) from h0)
    rw [hJ1] at h
    refine WP.seq ?_
    refine WP.path tab_ok mixed [(21, An.id 2021)] [.keep [6, 5, 4, 3, 2, 0], .keepO [500, 2002, 2004, 2021, 10200]] (ps := [(True), (0 = 0 * 1), (True)]) (e := .normal) (σ' := ⟨[2021, 500, 2002, 2004, 10200], [(6, vi ((List.length o10200 : Nat) : Int)), (5, vo 2021 0), (4, V.ref 2004 0), (3, V.t (T.nils)), (2, V.ref 2002 0), (0, V.ref 500 0)], [(500, oc 90 [ty o500, ti o500b, T.int .u64 o500c]), (2002, oc 26 [T.nils, ti 0]), (2004, ov 26 [vo 10200 (List.length o10200), vi o4]), (2021, oc 3 []), (10200, oc 3 (List.map (T.int .i64) o10200))]⟩) (by kernel_rfl) ⟨trivial, by decide, trivial, trivial⟩ ?_
    obtain ⟨J1, hJ1, h⟩ := jn_some h
    refine WP.joinA (fun (zz : (List Int) × Int × Int × (List Int)) => ⟨[500, 2002, 2004, 2021, 10200], [(6, vi ((List.length o10200 : Nat) : Int)), (5, vo 2021 (List.length zz.2.2.2)), (4, V.ref 2004 0), (3, V.t (T.nils)), (2, V.ref 2002 0), (0, V.ref 500 0)], [(500, oc 90 [ty zz.1, ti zz.2.1, T.int .u64 zz.2.2.1]), (2002, oc 26 [T.nils, ti 0]), (2004, ov 26 [vo 10200 (List.length o10200), vi o4]), (2021, oc 3 (List.map (T.int .i64) zz.2.2.2)), (10200, oc 3 (List.map (T.int .i64) o10200))]⟩) (fun zz => J1 zz.1 zz.2.1 zz.2.2.1 zz.2.2.2 = some (y0, y1, y2, y3, y4, y5)) ?_ ?_
    · -- to where they meet
      refine WP.seq ?_
      obtain ⟨r27, r27b, r27c, r27d, c1, h⟩ := bnd4_some h
      refine WP.path tab_ok mixed [(26, An.fz), (27, An.callG [(500, 500)] [V.ref 500 0, vl [(3 : Int), (4 : Int), (2 : Int), (5 : Int), (1 : Int), (0 : Int), (6 : Int), (8 : Int)]] [(500, oc 90 [ty o500, ti o500b, T.int .u64 o500c])] (vi r27) [(500, oc 90 [ty r27b, ti r27c, T.int .u64 r27d])])] [.keep [7, 6, 5, 4, 3, 2, 0], .keepO [500, 2002, 2004, 2021, 10200]] (ps := [((1 = 1 ∧ 0 + 1 ≤ 8) ∧ (1 = 1 ∧ 1 + 1 ≤ 8) ∧ (1 = 1 ∧ 2 + 1 ≤ 8) ∧ (1 = 1 ∧ 3 + 1 ≤ 8) ∧ (1 = 1 ∧ 4 + 1 ≤ 8) ∧ (1 = 1 ∧ 5 + 1 ≤ 8) ∧ (1 = 1 ∧ 6 + 1 ≤ 8) ∧ (1 = 1 ∧ 7 + 1 ≤ 8) ∧ True), (8 = 8 * 1), (CG Try.prog 78 [V.ref 500 0, vl [(3 : Int), (4 : Int), (2 : Int), (5 : Int), (1 : Int), (0 : Int), (6 : Int), (8 : Int)]] [(500, oc 90 [ty o500, ti o500b, T.int .u64 o500c])] (vi r27) [(500, oc 90 [ty r27b, ti r27c, T.int .u64 r27d])]), ((V.ref 500 0).ren (renF [(500, 500)]) = V.ref 500 0), (WkT (T.list 8 1 [ti 3, ti 4, ti 2, ti 5, ti 1, ti 0, ti 6, ti 8]) (tl [(3 : Int), (4 : Int), (2 : Int), (5 : Int), (1 : Int), (0 : Int), (6 : Int), (8 : Int)])), ((oc 90 [ty o500, ti o500b, T.int .u64 o500c]) = (oc 90 [ty o500, ti o500b, T.int .u64 o500c]).ren (renF [(500, 500)]))]) (e := .normal) (σ' := ⟨[2021, 500, 2002, 2004, 10200], [(7, vi r27), (6, vi ((List.length o10200 : Nat) : Int)), (5, vo 2021 0), (4, V.ref 2004 0), (3, V.t (T.nils)), (2, V.ref 2002 0), (0, V.ref 500 0)], [(500, oc 90 [ty r27b, ti r27c, T.int .u64 r27d]), (2002, oc 26 [T.nils, ti 0]), (2004, ov 26 [vo 10200 (List.length o10200), vi o4]), (2021, oc 3 []), (10200, oc 3 (List.map (T.int .i64) o10200))]⟩) (by kernel_rfl) ⟨⟨⟨by first | rfl | (simp; done) | (simp []; done) | omega, by first | decide | (simp; done) | (simp []; done) | omega | (simp only [tlL]; omega) | (simp; omega)⟩, ⟨by first | rfl | (simp; done) | (simp []; done) | omega, by first | decide | (simp; done) | (simp []; done) | omega | (simp only [tlL]; omega) | (simp; omega)⟩, ⟨by first | rfl | (simp; done) | (simp []; done) | omega, by first | decide | (simp; done) | (simp []; done) | omega | (simp only [tlL]; omega) | (simp; omega)⟩, ⟨by first | rfl | (simp; done) | (simp []; done) | omega, by first | decide | (simp; done) | (simp []; done) | omega | (simp only [tlL]; omega) | (simp; omega)⟩, ⟨by first | rfl | (simp; done) | (simp []; done) | omega, by first | decide | (simp; done) | (simp []; done) | omega | (simp only [tlL]; omega) | (simp; omega)⟩, ⟨by first | rfl | (simp; done) | (simp []; done) | omega, by first | decide | (simp; done) | (simp []; done) | omega | (simp only [tlL]; omega) | (simp; omega)⟩, ⟨by first | rfl | (simp; done) | (simp []; done) | omega, by first | decide | (simp; done) | (simp []; done) | omega | (simp only [tlL]; omega) | (simp; omega)⟩, ⟨by first | rfl | (simp; done) | (simp []; done) | omega, by first | decide | (simp; done) | (simp []; done) | omega | (simp only [tlL]; omega) | (simp; omega)⟩, trivial⟩, by decide, (F_p_spec_l1Cur_among_W o500 o500b o500c [(3 : Int), (4 : Int), (2 : Int), (5 : Int), (1 : Int), (0 : Int), (6 : Int), (8 : Int)] r27 r27b r27c r27d c1), by first | rfl | (simp [V.ren, V.renL, renF, lk]; done) | (simp [V.ren, V.renL, renF, lk]; omega), WkT.eq (WkT.refl _) (by first | rfl | (simp only [tlS, tl, vl, vo, oc, ov, tbl, vbl, ty, vy] <;> rfl) | (simp <;> omega) | (simp []; done) | (rw [List.take_of_length_le (by simp [])] <;> rfl) | (simp [List.take_of_length_le]; done)), by first | rfl | (simp only [tlS]; rfl) | (simp [Tl.Obj.ren, V.ren, V.renL, renF, lk]; done), trivial⟩ ?_
      refine WP.block ?_
      refine WP.wk [.keep [7, 6, 5, 4, 3, 2, 0], .keepO [500, 2002, 2004, 2021, 10200], .names [(500, 500), (2002, 2002), (2004, 2004), (2021, 2021), (10200, 10200)]] (σ' := ⟨[500, 2002, 2004, 2021, 10200], [(7, vi r27), (6, vi ((List.length o10200 : Nat) : Int)), (5, vo 2021 0), (4, V.ref 2004 0), (3, V.t (T.nils)), (2, V.ref 2002 0), (0, V.ref 500 0)], [(500, oc 90 [ty r27b, ti r27c, T.int .u64 r27d]), (2002, oc 26 [T.nils, ti 0]), (2004, ov 26 [vo 10200 (List.length o10200), vi o4]), (2021, oc 3 []), (10200, oc 3 (List.map (T.int .i64) o10200))]⟩) (ps := []) (by kernel_rfl) trivial ?_
      refine WP.st (σ' := ⟨[500, 2002, 2004, 2021, 10200], [(7, vi r27), (6, vi ((List.length o10200 : Nat) : Int)), (5, vo 2021 (List.length ([] : List Int))), (4, V.ref 2004 0), (3, V.t (T.nils)), (2, V.ref 2002 0), (0, V.ref 500 0)], [(500, oc 90 [ty r27b, ti r27c, T.int .u64 r27d]), (2002, oc 26 [T.nils, ti 0]), (2004, ov 26 [vo 10200 (List.length o10200), vi o4]), (2021, oc 3 (List.map (T.int .i64) ([] : List Int))), (10200, oc 3 (List.map (T.int .i64) o10200))]⟩) (by first | rfl | (simp only [tlS, tl, vl, vo, oc, ov, tbl, vbl, ty, vy] <;> rfl) | (simp <;> omega) | (simp []; done) | (rw [List.take_of_length_le (by simp [])] <;> rfl) | (simp [List.take_of_length_le]; done)) ?_
      refine WP.loop (α := Nat × (List Int) × Int × Int × (List Int) × Int) (fun zz => ⟨[500, 2002, 2004, 2021, 10200], [(7, vi zz.2.2.2.2.2), (6, vi ((List.length o10200 : Nat) : Int)), (5, vo 2021 (List.length zz.2.2.2.2.1)), (4, V.ref 2004 0), (3, V.t (T.nils)), (2, V.ref 2002 0), (0, V.ref 500 0)], [(500, oc 90 [ty zz.2.1, ti zz.2.2.1, T.int .u64 zz.2.2.2.1]), (2002, oc 26 [T.nils, ti 0]), (2004, ov 26 [vo 10200 (List.length o10200), vi o4]), (2021, oc 3 (List.map (T.int .i64) zz.2.2.2.2.1)), (10200, oc 3 (List.map (T.int .i64) o10200))]⟩) (fun zz => F_p_spec_l1Cur_fixed_L1 o10200 J1 zz.1 zz.2.1 zz.2.2.1 zz.2.2.2.1 zz.2.2.2.2.1 zz.2.2.2.2.2 = some (y0, y1, y2, y3, y4, y5)) (fun zz => zz.1) (fuel, r27b, r27c, r27d, ([] : List Int), r27) h ?_
      rintro ⟨n, o500d, o500e, o500g, o21, v7⟩ h0
      have h := (show F_p_spec_l1Cur_fixed_L1 o10200 J1 n o500d o500e o500g o21 v7 = some (y0, y1, y2, y3, y4, y5) from h0)
      rcases n with _ | n
      · rw [F_p_spec_l1Cur_fixed_L1] at h; cases h
      · rw [F_p_spec_l1Cur_fixed_L1] at h
        refine WP.seq ?_
        refine WP.seq ?_
        refine WP.path tab_ok mixed [] [.keep [29, 7, 6, 5, 4, 3, 2, 0], .keepO [500, 2002, 2004, 2021, 10200]] (ps := [(True)]) (e := .normal) (σ' := ⟨[500, 2002, 2004, 2021, 10200], [(29, vb (decide (v7 > (0 : Int)))), (7, vi v7), (6, vi ((List.length o10200 : Nat) : Int)), (5, vo 2021 (List.length o21)), (4, V.ref 2004 0), (3, V.t (T.nils)), (2, V.ref 2002 0), (0, V.ref 500 0)], [(500, oc 90 [ty o500d, ti o500e, T.int .u64 o500g]), (2002, oc 26 [T.nils, ti 0]), (2004, ov 26 [vo 10200 (List.length o10200), vi o4]), (2021, oc 3 (List.map (T.int .i64) o21)), (10200, oc 3 (List.map (T.int .i64) o10200))]⟩) (by kernel_rfl) ⟨trivial, trivial⟩ ?_
        rcases ite_some h with ⟨h2, h⟩ | ⟨h2, h⟩
        · -- yes
          refine WP.cond (b := decide (v7 > (0 : Int))) rfl (fun _ => ?_) (fun hh => by rw [h2] at hh; cases hh)
          refine WP.path tab_ok mixed [] [.keep [7, 6, 5, 4, 3, 2, 0], .keepO [500, 2002, 2004, 2021, 10200]] (ps := []) (e := .normal) (σ' := ⟨[500, 2002, 2004, 2021, 10200], [(7, vi v7), (6, vi ((List.length o10200 : Nat) : Int)), (5, vo 2021 (List.length o21)), (4, V.ref 2004 0), (3, V.t (T.nils)), (2, V.ref 2002 0), (0, V.ref 500 0)], [(500, oc 90 [ty o500d, ti o500e, T.int .u64 o500g]), (2002, oc 26 [T.nils, ti 0]), (2004, ov 26 [vo 10200 (List.length o10200), vi o4]), (2021, oc 3 (List.map (T.int .i64) o21)), (10200, oc 3 (List.map (T.int .i64) o10200))]⟩) (by kernel_rfl) trivial ?_
          refine WP.seq ?_
          refine WP.block ?_
          obtain ⟨r35, r35b, r35c, r35d, c2, h⟩ := bnd4_some h
          obtain ⟨c3, h⟩ := chk_some h
          refine WP.path tab_ok mixed [(35, An.callG [(500, 500)] [V.ref 500 0, vi ((List.length o10200 : Nat) : Int)] [(500, oc 90 [ty o500d, ti o500e, T.int .u64 o500g])] (vi r35) [(500, oc 90 [ty r35b, ti r35c, T.int .u64 r35d])]), (36, An.fz), (37, An.id 2037)] [.keep [5, 7, 6, 4, 3, 2, 0], .keepO [500, 2002, 2004, 2037, 10200]] (ps := [(CG Try.prog 126 [V.ref 500 0, vi ((List.length o10200 : Nat) : Int)] [(500, oc 90 [ty o500d, ti o500e, T.int .u64 o500g])] (vi r35) [(500, oc 90 [ty r35b, ti r35c, T.int .u64 r35d])]), ((V.ref 500 0).ren (renF [(500, 500)]) = V.ref 500 0), (WkT (ti ((List.length o10200 : Nat) : Int)) (ti ((List.length o10200 : Nat) : Int))), ((oc 90 [ty o500d, ti o500e, T.int .u64 o500g]) = (oc 90 [ty o500d, ti o500e, T.int .u64 o500g]).ren (renF [(500, 500)])), ((1 = 1 ∧ 0 + 1 ≤ 1) ∧ True), (1 = 1 * 1), (True), (List.length (List.map (T.int .i64) o21) = (List.length o21) * 1), ((((List.length o21) + 1) * 8 ≤ 140737488355328 ∧ (List.length o21) + 1 ≤ maxLen))]) (e := .normal) (σ' := ⟨[2037, 500, 2002, 2004, 2021, 10200], [(5, vo 2037 ((List.length o21) + 1)), (7, vi v7), (6, vi ((List.length o10200 : Nat) : Int)), (4, V.ref 2004 0), (3, V.t (T.nils)), (2, V.ref 2002 0), (0, V.ref 500 0)], [(500, oc 90 [ty r35b, ti r35c, T.int .u64 r35d]), (2002, oc 26 [T.nils, ti 0]), (2004, ov 26 [vo 10200 (List.length o10200), vi o4]), (2037, oc 3 ((List.map (T.int .i64) o21) ++ [ti r35])), (10200, oc 3 (List.map (T.int .i64) o10200))]⟩) (by kernel_rfl) ⟨(F_p_spec_l1Cur_question_W o500d o500e o500g ((List.length o10200 : Nat) : Int) r35 r35b r35c r35d c2), by first | rfl | (simp [V.ren, V.renL, renF, lk]; done) | (simp [V.ren, V.renL, renF, lk]; omega), WkT.refl _, by first | rfl | (simp only [tlS]; rfl) | (simp [Tl.Obj.ren, V.ren, V.renL, renF, lk]; done), ⟨⟨by first | rfl | (simp; done) | (simp []; done) | omega, by first | decide | (simp; done) | (simp []; done) | omega | (simp only [tlL]; omega) | (simp; omega)⟩, trivial⟩, by decide, trivial, by first | rfl | omega | (simp only [tlL] <;> omega) | (simp <;> omega) | (simp [] <;> omega), c3, trivial⟩ ?_
          obtain ⟨c4, h⟩ := chk_some h
          refine WP.path tab_ok mixed [(31, An.v (T.int .i64 (v7 - (1 : Int))))] [.keep [7, 6, 5, 4, 3, 2, 0], .keepO [500, 2002, 2004, 2037, 10200], .names [(500, 500), (2002, 2002), (2004, 2004), (2037, 2021), (10200, 10200)]] (ps := [(True), (T.int .i64 (IntKind.wrap .i64 (v7 - (1 : Int))) = T.int .i64 (v7 - (1 : Int)))]) (e := .normal) (σ' := ⟨[500, 2002, 2004, 2021, 10200], [(7, vi (v7 - (1 : Int))), (6, vi ((List.length o10200 : Nat) : Int)), (5, vo 2021 ((List.length o21) + 1)), (4, V.ref 2004 0), (3, V.t (T.nils)), (2, V.ref 2002 0), (0, V.ref 500 0)], [(500, oc 90 [ty r35b, ti r35c, T.int .u64 r35d]), (2002, oc 26 [T.nils, ti 0]), (2004, ov 26 [vo 10200 (List.length o10200), vi o4]), (2021, oc 3 ((List.map (T.int .i64) o21) ++ [ti r35])), (10200, oc 3 (List.map (T.int .i64) o10200))]⟩) (by kernel_rfl) ⟨trivial, wrapI c4, trivial⟩ ?_
          exact ⟨(n, r35b, r35c, r35d, o21 ++ [r35], (v7 - (1 : Int))), h, Nat.lt_succ_self _, (by first | rfl | (simp only [tlS, tl, vl, vo, oc, ov, tbl, vbl, ty, vy] <;> rfl) | (simp <;> omega) | (simp []; done) | (rw [List.take_of_length_le (by simp [])] <;> rfl) | (simp [List.take_of_length_le]; done))⟩
        · -- no
          refine WP.cond (b := decide (v7 > (0 : Int))) rfl (fun hh => by rw [h2] at hh; cases hh) (fun _ => ?_)
          refine WP.path tab_ok mixed [] [.keep [6, 5, 4, 3, 2, 0], .keepO [500, 2002, 2004, 2021, 10200], .names [(500, 500), (2002, 2002), (2004, 2004), (2021, 2021), (10200, 10200)]] (ps := []) (e := (.exit 0)) (σ' := ⟨[500, 2002, 2004, 2021, 10200], [(6, vi ((List.length o10200 : Nat) : Int)), (5, vo 2021 (List.length o21)), (4, V.ref 2004 0), (3, V.t (T.nils)), (2, V.ref 2002 0), (0, V.ref 500 0)], [(500, oc 90 [ty o500d, ti o500e, T.int .u64 o500g]), (2002, oc 26 [T.nils, ti 0]), (2004, ov 26 [vo 10200 (List.length o10200), vi o4]), (2021, oc 3 (List.map (T.int .i64) o21)), (10200, oc 3 (List.map (T.int .i64) o10200))]⟩) (by kernel_rfl) trivial ?_
          exact ⟨(o500d, o500e, o500g, o21), h, rfl⟩
    · -- from there
      rintro ⟨o500d, o500e, o500g, o21⟩ h0
      have h := (show J1 o500d o500e o500g o21 = some (y0, y1, y2, y3, y4, y5) from h0)
      rw [hJ1] at h
      obtain ⟨J1, hJ1, h⟩ := jn_some h
      refine WP.joinA (fun (zz : (List Int) × Int × Int × (List Int)) => ⟨[500, 2002, 2004, 10200], [(5, vl zz.2.2.2), (4, V.ref 2004 0), (3, V.t (T.nils)), (2, V.ref 2002 0), (0, V.ref 500 0)], [(500, oc 90 [ty zz.1, ti zz.2.1, T.int .u64 zz.2.2.1]), (2002, oc 26 [T.nils, ti 0]), (2004, ov 26 [vo 10200 (List.length o10200), vi o4]), (10200, oc 3 (List.map (T.int .i64) o10200))]⟩) (fun zz => J1 zz.1 zz.2.1 zz.2.2.1 zz.2.2.2 = some (y0, y1, y2, y3, y4, y5)) ?_ ?_
      · -- to where they meet
        obtain ⟨J2, hJ2, h⟩ := jn_some h
        refine WP.joinA (fun (zz : (List Int) × Int × Int × Bool) => ⟨[500, 2002, 2004, 2021, 10200], [(43, vb zz.2.2.2), (6, vi ((List.length o10200 : Nat) : Int)), (5, vo 2021 (List.length o21)), (4, V.ref 2004 0), (3, V.t (T.nils)), (2, V.ref 2002 0), (0, V.ref 500 0)], [(500, oc 90 [ty zz.1, ti zz.2.1, T.int .u64 zz.2.2.1]), (2002, oc 26 [T.nils, ti 0]), (2004, ov 26 [vo 10200 (List.length o10200), vi o4]), (2021, oc 3 (List.map (T.int .i64) o21)), (10200, oc 3 (List.map (T.int .i64) o10200))]⟩) (fun zz => J2 zz.1 zz.2.1 zz.2.2.1 zz.2.2.2 = some (y0, y1, y2, y3, y4, y5)) ?_ ?_
        · -- to where they meet
          obtain ⟨r39, r39b, r39c, r39d, c1, h⟩ := bnd4_some h
          rcases ite_some h with ⟨h3, h⟩ | ⟨h3, h⟩
          · -- yes
            refine WP.path tab_ok mixed [(39, An.callG [(500, 500)] [V.ref 500 0, vi 3] [(500, oc 90 [ty o500d, ti o500e, T.int .u64 o500g])] (vb r39) [(500, oc 90 [ty r39b, ti r39c, T.int .u64 r39d])]), (40, An.b true), (42, An.call (tb (decide (((List.length o10200 : Nat) : Int) ≥ (1 : Int)) && decide (((List.length o10200 : Nat) : Int) ≤ (8 : Int)))))] [.keep [43, 6, 5, 4, 3, 2, 0], .keepO [500, 2002, 2004, 2021, 10200], .names [(500, 500), (2002, 2002), (2004, 2004), (2021, 2021), (10200, 10200)]] (ps := [(CG Try.prog 124 [V.ref 500 0, vi 3] [(500, oc 90 [ty o500d, ti o500e, T.int .u64 o500g])] (vb r39) [(500, oc 90 [ty r39b, ti r39c, T.int .u64 r39d])]), ((V.ref 500 0).ren (renF [(500, 500)]) = V.ref 500 0), (WkT (ti 3) (ti 3)), ((oc 90 [ty o500d, ti o500e, T.int .u64 o500g]) = (oc 90 [ty o500d, ti o500e, T.int .u64 o500g]).ren (renF [(500, 500)])), ((r39) = true), (C Try.prog 65 [ti ((List.length o10200 : Nat) : Int), ti 1, ti 8] (tb (decide (((List.length o10200 : Nat) : Int) ≥ (1 : Int)) && decide (((List.length o10200 : Nat) : Int) ≤ (8 : Int)))))]) (e := .normal) (σ' := ⟨[500, 2002, 2004, 2021, 10200], [(43, vb (decide (((List.length o10200 : Nat) : Int) ≥ (1 : Int)) && decide (((List.length o10200 : Nat) : Int) ≤ (8 : Int)))), (6, vi ((List.length o10200 : Nat) : Int)), (5, vo 2021 (List.length o21)), (4, V.ref 2004 0), (3, V.t (T.nils)), (2, V.ref 2002 0), (0, V.ref 500 0)], [(500, oc 90 [ty r39b, ti r39c, T.int .u64 r39d]), (2002, oc 26 [T.nils, ti 0]), (2004, ov 26 [vo 10200 (List.length o10200), vi o4]), (2021, oc 3 (List.map (T.int .i64) o21)), (10200, oc 3 (List.map (T.int .i64) o10200))]⟩) (by kernel_rfl) ⟨(F_p_spec_l1Cur_one_W o500d o500e o500g (3 : Int) r39 r39b r39c r39d c1), by first | rfl | (simp [V.ren, V.renL, renF, lk]; done) | (simp [V.ren, V.renL, renF, lk]; omega), WkT.refl _, by first | rfl | (simp only [tlS]; rfl) | (simp [Tl.Obj.ren, V.ren, V.renL, renF, lk]; done), h3, (by have hh := (l1In_C ((List.length o10200 : Nat) : Int) (1 : Int) (8 : Int)); first | exact hh | simpa using hh), trivial⟩ ?_
            exact ⟨(r39b, r39c, r39d, decide (((List.length o10200 : Nat) : Int) ≥ (1 : Int)) && decide (((List.length o10200 : Nat) : Int) ≤ (8 : Int))), h, rfl⟩
          · -- no
            refine WP.path tab_ok mixed [(39, An.callG [(500, 500)] [V.ref 500 0, vi 3] [(500, oc 90 [ty o500d, ti o500e, T.int .u64 o500g])] (vb r39) [(500, oc 90 [ty r39b, ti r39c, T.int .u64 r39d])]), (40, An.b false)] [.keep [43, 6, 5, 4, 3, 2, 0], .keepO [500, 2002, 2004, 2021, 10200], .names [(500, 500), (2002, 2002), (2004, 2004), (2021, 2021), (10200, 10200)]] (ps := [(CG Try.prog 124 [V.ref 500 0, vi 3] [(500, oc 90 [ty o500d, ti o500e, T.int .u64 o500g])] (vb r39) [(500, oc 90 [ty r39b, ti r39c, T.int .u64 r39d])]), ((V.ref 500 0).ren (renF [(500, 500)]) = V.ref 500 0), (WkT (ti 3) (ti 3)), ((oc 90 [ty o500d, ti o500e, T.int .u64 o500g]) = (oc 90 [ty o500d, ti o500e, T.int .u64 o500g]).ren (renF [(500, 500)])), ((r39) = false)]) (e := .normal) (σ' := ⟨[500, 2002, 2004, 2021, 10200], [(43, vb false), (6, vi ((List.length o10200 : Nat) : Int)), (5, vo 2021 (List.length o21)), (4, V.ref 2004 0), (3, V.t (T.nils)), (2, V.ref 2002 0), (0, V.ref 500 0)], [(500, oc 90 [ty r39b, ti r39c, T.int .u64 r39d]), (2002, oc 26 [T.nils, ti 0]), (2004, ov 26 [vo 10200 (List.length o10200), vi o4]), (2021, oc 3 (List.map (T.int .i64) o21)), (10200, oc 3 (List.map (T.int .i64) o10200))]⟩) (by kernel_rfl) ⟨(F_p_spec_l1Cur_one_W o500d o500e o500g (3 : Int) r39 r39b r39c r39d c1), by first | rfl | (simp [V.ren, V.renL, renF, lk]; done) | (simp [V.ren, V.renL, renF, lk]; omega), WkT.refl _, by first | rfl | (simp only [tlS]; rfl) | (simp [Tl.Obj.ren, V.ren, V.renL, renF, lk]; done), h3, trivial⟩ ?_
            exact ⟨(r39b, r39c, r39d, false), h, rfl⟩
        · -- from there
          rintro ⟨o500i, o500j, o500k, v43⟩ h0
          have h := (show J2 o500i o500j o500k v43 = some (y0, y1, y2, y3, y4, y5) from h0)
          rw [hJ2] at h
          rcases ite_some h with ⟨h4, h⟩ | ⟨h4, h⟩
          · -- yes
            refine WP.cond (b := v43) rfl (fun _ => ?_) (fun hh => by rw [h4] at hh; cases hh)
            refine WP.seq ?_
            refine WP.path tab_ok mixed [(44, An.id 2044)] [.keep [5, 6, 4, 3, 2, 0], .keepO [500, 2002, 2004, 2044, 10200]] (ps := [(True), (0 = 0 * 1)]) (e := .normal) (σ' := ⟨[2044, 500, 2002, 2004, 2021, 10200], [(5, vo 2044 0), (6, vi ((List.length o10200 : Nat) : Int)), (4, V.ref 2004 0), (3, V.t (T.nils)), (2, V.ref 2002 0), (0, V.ref 500 0)], [(500, oc 90 [ty o500i, ti o500j, T.int .u64 o500k]), (2002, oc 26 [T.nils, ti 0]), (2004, ov 26 [vo 10200 (List.length o10200), vi o4]), (2044, oc 3 []), (10200, oc 3 (List.map (T.int .i64) o10200))]⟩) (by kernel_rfl) ⟨trivial, by decide, trivial⟩ ?_
            obtain ⟨J2, hJ2, h⟩ := jn_some h
            refine WP.joinA (fun (zz : (List Int)) => ⟨[500, 2002, 2004, 2044, 10200], [(5, vo 2044 (List.length zz)), (4, V.ref 2004 0), (3, V.t (T.nils)), (2, V.ref 2002 0), (0, V.ref 500 0)], [(500, oc 90 [ty o500i, ti o500j, T.int .u64 o500k]), (2002, oc 26 [T.nils, ti 0]), (2004, ov 26 [vo 10200 (List.length o10200), vi o4]), (2044, oc 3 (List.map (T.int .i64) zz)), (10200, oc 3 (List.map (T.int .i64) o10200))]⟩) (fun zz => J2 zz = some (y0, y1, y2, y3, y4, y5)) ?_ ?_
            · -- to where they meet
              refine WP.seq ?_
              refine WP.path tab_ok mixed [] [.keep [8, 5, 6, 4, 3, 2, 0], .keepO [500, 2002, 2004, 2044, 10200]] (ps := []) (e := .normal) (σ' := ⟨[2044, 500, 2002, 2004, 2021, 10200], [(8, vi 0), (5, vo 2044 0), (6, vi ((List.length o10200 : Nat) : Int)), (4, V.ref 2004 0), (3, V.t (T.nils)), (2, V.ref 2002 0), (0, V.ref 500 0)], [(500, oc 90 [ty o500i, ti o500j, T.int .u64 o500k]), (2002, oc 26 [T.nils, ti 0]), (2004, ov 26 [vo 10200 (List.length o10200), vi o4]), (2044, oc 3 []), (10200, oc 3 (List.map (T.int .i64) o10200))]⟩) (by kernel_rfl) trivial ?_
              refine WP.block ?_
              refine WP.wk [.keep [8, 5, 6, 4, 3, 2, 0], .keepO [500, 2002, 2004, 2044, 10200], .names [(500, 500), (2002, 2002), (2004, 2004), (2044, 2044), (10200, 10200)]] (σ' := ⟨[500, 2002, 2004, 2044, 10200], [(8, vi 0), (5, vo 2044 0), (6, vi ((List.length o10200 : Nat) : Int)), (4, V.ref 2004 0), (3, V.t (T.nils)), (2, V.ref 2002 0), (0, V.ref 500 0)], [(500, oc 90 [ty o500i, ti o500j, T.int .u64 o500k]), (2002, oc 26 [T.nils, ti 0]), (2004, ov 26 [vo 10200 (List.length o10200), vi o4]), (2044, oc 3 []), (10200, oc 3 (List.map (T.int .i64) o10200))]⟩) (ps := []) (by kernel_rfl) trivial ?_
              refine WP.st (σ' := ⟨[500, 2002, 2004, 2044, 10200], [(8, vi (0 : Int)), (5, vo 2044 (List.length ([] : List Int))), (6, vi ((List.length o10200 : Nat) : Int)), (4, V.ref 2004 0), (3, V.t (T.nils)), (2, V.ref 2002 0), (0, V.ref 500 0)], [(500, oc 90 [ty o500i, ti o500j, T.int .u64 o500k]), (2002, oc 26 [T.nils, ti 0]), (2004, ov 26 [vo 10200 (List.length o10200), vi o4]), (2044, oc 3 (List.map (T.int .i64) ([] : List Int))), (10200, oc 3 (List.map (T.int .i64) o10200))]⟩) (by first | rfl | (simp only [tlS, tl, vl, vo, oc, ov, tbl, vbl, ty, vy] <;> rfl) | (simp <;> omega) | (simp []; done) | (rw [List.take_of_length_le (by simp [])] <;> rfl) | (simp [List.take_of_length_le]; done)) ?_
              refine WP.loop (α := Nat × (List Int) × Int) (fun zz => ⟨[500, 2002, 2004, 2044, 10200], [(8, vi zz.2.2), (5, vo 2044 (List.length zz.2.1)), (6, vi ((List.length o10200 : Nat) : Int)), (4, V.ref 2004 0), (3, V.t (T.nils)), (2, V.ref 2002 0), (0, V.ref 500 0)], [(500, oc 90 [ty o500i, ti o500j, T.int .u64 o500k]), (2002, oc 26 [T.nils, ti 0]), (2004, ov 26 [vo 10200 (List.length o10200), vi o4]), (2044, oc 3 (List.map (T.int .i64) zz.2.1)), (10200, oc 3 (List.map (T.int .i64) o10200))]⟩) (fun zz => F_p_spec_l1Cur_fixed_L2 o10200 J2 zz.1 zz.2.1 zz.2.2 = some (y0, y1, y2, y3, y4, y5)) (fun zz => zz.1) (fuel, ([] : List Int), (0 : Int)) h ?_
              rintro ⟨n, o44, v8⟩ h0
              have h := (show F_p_spec_l1Cur_fixed_L2 o10200 J2 n o44 v8 = some (y0, y1, y2, y3, y4, y5) from h0)
              rcases n with _ | n
              · rw [F_p_spec_l1Cur_fixed_L2] at h; cases h
              · rw [F_p_spec_l1Cur_fixed_L2] at h
                refine WP.seq ?_
                obtain ⟨J3, hJ3, h⟩ := jn_some h
                refine WP.joinA (fun (zz : Bool) => ⟨[500, 2002, 2004, 2044, 10200], [(51, vb zz), (8, vi v8), (5, vo 2044 (List.length o44)), (6, vi ((List.length o10200 : Nat) : Int)), (4, V.ref 2004 0), (3, V.t (T.nils)), (2, V.ref 2002 0), (0, V.ref 500 0)], [(500, oc 90 [ty o500i, ti o500j, T.int .u64 o500k]), (2002, oc 26 [T.nils, ti 0]), (2004, ov 26 [vo 10200 (List.length o10200), vi o4]), (2044, oc 3 (List.map (T.int .i64) o44)), (10200, oc 3 (List.map (T.int .i64) o10200))]⟩) (fun zz => J3 zz = some (y0, y1, y2, y3, y4, y5)) ?_ ?_
                · -- to where they meet
                  rcases ite_some h with ⟨h5, h⟩ | ⟨h5, h⟩
                  · -- yes
                    refine WP.path tab_ok mixed [(46, An.b true)] [.keep [51, 8, 5, 6, 4, 3, 2, 0], .keepO [500, 2002, 2004, 2044, 10200], .names [(500, 500), (2002, 2002), (2004, 2004), (2044, 2044), (10200, 10200)]] (ps := [(True), ((decide (v8 < (8 : Int))) = true), (True)]) (e := .normal) (σ' := ⟨[500, 2002, 2004, 2044, 10200], [(51, vb (decide (((List.length o44 : Nat) : Int) < (8 : Int)))), (8, vi v8), (5, vo 2044 (List.length o44)), (6, vi ((List.length o10200 : Nat) : Int)), (4, V.ref 2004 0), (3, V.t (T.nils)), (2, V.ref 2002 0), (0, V.ref 500 0)], [(500, oc 90 [ty o500i, ti o500j, T.int .u64 o500k]), (2002, oc 26 [T.nils, ti 0]), (2004, ov 26 [vo 10200 (List.length o10200), vi o4]), (2044, oc 3 (List.map (T.int .i64) o44)), (10200, oc 3 (List.map (T.int .i64) o10200))]⟩) (by kernel_rfl) ⟨trivial, h5, trivial, trivial⟩ ?_
                    exact ⟨(decide (((List.length o44 : Nat) : Int) < (8 : Int))), h, rfl⟩
                  · -- no
                    refine WP.path tab_ok mixed [(46, An.b false)] [.keep [51, 8, 5, 6, 4, 3, 2, 0], .keepO [500, 2002, 2004, 2044, 10200], .names [(500, 500), (2002, 2002), (2004, 2004), (2044, 2044), (10200, 10200)]] (ps := [(True), ((decide (v8 < (8 : Int))) = false)]) (e := .normal) (σ' := ⟨[500, 2002, 2004, 2044, 10200], [(51, vb false), (8, vi v8), (5, vo 2044 (List.length o44)), (6, vi ((List.length o10200 : Nat) : Int)), (4, V.ref 2004 0), (3, V.t (T.nils)), (2, V.ref 2002 0), (0, V.ref 500 0)], [(500, oc 90 [ty o500i, ti o500j, T.int .u64 o500k]), (2002, oc 26 [T.nils, ti 0]), (2004, ov 26 [vo 10200 (List.length o10200), vi o4]), (2044, oc 3 (List.map (T.int .i64) o44)), (10200, oc 3 (List.map (T.int .i64) o10200))]⟩) (by kernel_rfl) ⟨trivial, h5, trivial⟩ ?_
                    exact ⟨(false), h, rfl⟩
                · -- from there
                  intro v51 h0
                  have h := (show J3 v51 = some (y0, y1, y2, y3, y4, y5) from h0)
                  rw [hJ3] at h
                  rcases ite_some h with ⟨h6, h⟩ | ⟨h6, h⟩
                  · -- yes
                    refine WP.cond (b := v51) rfl (fun _ => ?_) (fun hh => by rw [h6] at hh; cases hh)
                    refine WP.path tab_ok mixed [] [.keep [8, 5, 6, 4, 3, 2, 0], .keepO [500, 2002, 2004, 2044, 10200]] (ps := []) (e := .normal) (σ' := ⟨[500, 2002, 2004, 2044, 10200], [(8, vi v8), (5, vo 2044 (List.length o44)), (6, vi ((List.length o10200 : Nat) : Int)), (4, V.ref 2004 0), (3, V.t (T.nils)), (2, V.ref 2002 0), (0, V.ref 500 0)], [(500, oc 90 [ty o500i, ti o500j, T.int .u64 o500k]), (2002, oc 26 [T.nils, ti 0]), (2004, ov 26 [vo 10200 (List.length o10200), vi o4]), (2044, oc 3 (List.map (T.int .i64) o44)), (10200, oc 3 (List.map (T.int .i64) o10200))]⟩) (by kernel_rfl) trivial ?_
                    obtain ⟨J3, hJ3, h⟩ := jn_some h
                    refine WP.joinA (fun (zz : (List Int)) => ⟨[500, 2002, 2004, 2071, 10200], [(5, vo 2071 (List.length zz)), (8, vi v8), (6, vi ((List.length o10200 : Nat) : Int)), (4, V.ref 2004 0), (3, V.t (T.nils)), (2, V.ref 2002 0), (0, V.ref 500 0)], [(500, oc 90 [ty o500i, ti o500j, T.int .u64 o500k]), (2002, oc 26 [T.nils, ti 0]), (2004, ov 26 [vo 10200 (List.length o10200), vi o4]), (2071, oc 3 (List.map (T.int .i64) zz)), (10200, oc 3 (List.map (T.int .i64) o10200))]⟩) (fun zz => J3 zz = some (y0, y1, y2, y3, y4, y5)) ?_ ?_
                    · -- to where they meet
                      refine WP.block ?_
                      refine WP.seq ?_
                      refine WP.path tab_ok mixed [] [.keep [9, 8, 5, 6, 4, 3, 2, 0], .keepO [500, 2002, 2004, 2044, 10200]] (ps := []) (e := .normal) (σ' := ⟨[500, 2002, 2004, 2044, 10200], [(9, vi 0), (8, vi v8), (5, vo 2044 (List.length o44)), (6, vi ((List.length o10200 : Nat) : Int)), (4, V.ref 2004 0), (3, V.t (T.nils)), (2, V.ref 2002 0), (0, V.ref 500 0)], [(500, oc 90 [ty o500i, ti o500j, T.int .u64 o500k]), (2002, oc 26 [T.nils, ti 0]), (2004, ov 26 [vo 10200 (List.length o10200), vi o4]), (2044, oc 3 (List.map (T.int .i64) o44)), (10200, oc 3 (List.map (T.int .i64) o10200))]⟩) (by kernel_rfl) trivial ?_
                      obtain ⟨J4, hJ4, h⟩ := jn_some h
                      refine WP.joinA (fun (zz : Int) => ⟨[500, 2002, 2004, 2044, 10200], [(9, vi zz), (8, vi v8), (5, vo 2044 (List.length o44)), (6, vi ((List.length o10200 : Nat) : Int)), (4, V.ref 2004 0), (3, V.t (T.nils)), (2, V.ref 2002 0), (0, V.ref 500 0)], [(500, oc 90 [ty o500i, ti o500j, T.int .u64 o500k]), (2002, oc 26 [T.nils, ti 0]), (2004, ov 26 [vo 10200 (List.length o10200), vi o4]), (2044, oc 3 (List.map (T.int .i64) o44)), (10200, oc 3 (List.map (T.int .i64) o10200))]⟩) (fun zz => J4 zz = some (y0, y1, y2, y3, y4, y5)) ?_ ?_
                      · -- to where they meet
                        refine WP.seq ?_
                        refine WP.path tab_ok mixed [] [.keep [10, 9, 8, 5, 6, 4, 3, 2, 0], .keepO [500, 2002, 2004, 2044, 10200]] (ps := []) (e := .normal) (σ' := ⟨[500, 2002, 2004, 2044, 10200], [(10, vi 0), (9, vi 0), (8, vi v8), (5, vo 2044 (List.length o44)), (6, vi ((List.length o10200 : Nat) : Int)), (4, V.ref 2004 0), (3, V.t (T.nils)), (2, V.ref 2002 0), (0, V.ref 500 0)], [(500, oc 90 [ty o500i, ti o500j, T.int .u64 o500k]), (2002, oc 26 [T.nils, ti 0]), (2004, ov 26 [vo 10200 (List.length o10200), vi o4]), (2044, oc 3 (List.map (T.int .i64) o44)), (10200, oc 3 (List.map (T.int .i64) o10200))]⟩) (by kernel_rfl) trivial ?_
                        refine WP.block ?_
                        refine WP.wk [.keep [10, 9, 8, 5, 6, 4, 3, 2, 0], .keepO [500, 2002, 2004, 2044, 10200], .names [(500, 500), (2002, 2002), (2004, 2004), (2044, 2044), (10200, 10200)]] (σ' := ⟨[500, 2002, 2004, 2044, 10200], [(10, vi 0), (9, vi 0), (8, vi v8), (5, vo 2044 (List.length o44)), (6, vi ((List.length o10200 : Nat) : Int)), (4, V.ref 2004 0), (3, V.t (T.nils)), (2, V.ref 2002 0), (0, V.ref 500 0)], [(500, oc 90 [ty o500i, ti o500j, T.int .u64 o500k]), (2002, oc 26 [T.nils, ti 0]), (2004, ov 26 [vo 10200 (List.length o10200), vi o4]), (2044, oc 3 (List.map (T.int .i64) o44)), (10200, oc 3 (List.map (T.int .i64) o10200))]⟩) (ps := []) (by kernel_rfl) trivial ?_
                        refine WP.st (σ' := ⟨[500, 2002, 2004, 2044, 10200], [(10, vi (0 : Int)), (9, vi (0 : Int)), (8, vi v8), (5, vo 2044 (List.length o44)), (6, vi ((List.length o10200 : Nat) : Int)), (4, V.ref 2004 0), (3, V.t (T.nils)), (2, V.ref 2002 0), (0, V.ref 500 0)], [(500, oc 90 [ty o500i, ti o500j, T.int .u64 o500k]), (2002, oc 26 [T.nils, ti 0]), (2004, ov 26 [vo 10200 (List.length o10200), vi o4]), (2044, oc 3 (List.map (T.int .i64) o44)), (10200, oc 3 (List.map (T.int .i64) o10200))]⟩) (by first | rfl | (simp only [tlS, tl, vl, vo, oc, ov, tbl, vbl, ty, vy] <;> rfl) | (simp <;> omega) | (simp []; done) | (rw [List.take_of_length_le (by simp [])] <;> rfl) | (simp [List.take_of_length_le]; done)) ?_
                        refine WP.loop (α := Nat × Int × Int) (fun zz => ⟨[500, 2002, 2004, 2044, 10200], [(10, vi zz.2.1), (9, vi zz.2.2), (8, vi v8), (5, vo 2044 (List.length o44)), (6, vi ((List.length o10200 : Nat) : Int)), (4, V.ref 2004 0), (3, V.t (T.nils)), (2, V.ref 2002 0), (0, V.ref 500 0)], [(500, oc 90 [ty o500i, ti o500j, T.int .u64 o500k]), (2002, oc 26 [T.nils, ti 0]), (2004, ov 26 [vo 10200 (List.length o10200), vi o4]), (2044, oc 3 (List.map (T.int .i64) o44)), (10200, oc 3 (List.map (T.int .i64) o10200))]⟩) (fun zz => F_p_spec_l1Cur_fixed_L3 o10200 v8 J4 zz.1 zz.2.1 zz.2.2 = some (y0, y1, y2, y3, y4, y5)) (fun zz => zz.1) (fuel, (0 : Int), (0 : Int)) h ?_
                        rintro ⟨n, v10, v9⟩ h0
                        have h := (show F_p_spec_l1Cur_fixed_L3 o10200 v8 J4 n v10 v9 = some (y0, y1, y2, y3, y4, y5) from h0)
                        rcases n with _ | n
                        · rw [F_p_spec_l1Cur_fixed_L3] at h; cases h
                        · rw [F_p_spec_l1Cur_fixed_L3] at h
                          refine WP.seq ?_
                          refine WP.seq ?_
                          refine WP.path tab_ok mixed [] [.keep [56, 10, 9, 8, 5, 6, 4, 3, 2, 0], .keepO [500, 2002, 2004, 2044, 10200]] (ps := [(True)]) (e := .normal) (σ' := ⟨[500, 2002, 2004, 2044, 10200], [(56, vb (decide (v10 < ((List.length o10200 : Nat) : Int)))), (10, vi v10), (9, vi v9), (8, vi v8), (5, vo 2044 (List.length o44)), (6, vi ((List.length o10200 : Nat) : Int)), (4, V.ref 2004 0), (3, V.t (T.nils)), (2, V.ref 2002 0), (0, V.ref 500 0)], [(500, oc 90 [ty o500i, ti o500j, T.int .u64 o500k]), (2002, oc 26 [T.nils, ti 0]), (2004, ov 26 [vo 10200 (List.length o10200), vi o4]), (2044, oc 3 (List.map (T.int .i64) o44)), (10200, oc 3 (List.map (T.int .i64) o10200))]⟩) (by kernel_rfl) ⟨trivial, trivial⟩ ?_
                          rcases ite_some h with ⟨h7, h⟩ | ⟨h7, h⟩
                          · -- yes
                            refine WP.cond (b := decide (v10 < ((List.length o10200 : Nat) : Int))) rfl (fun _ => ?_) (fun hh => by rw [h7] at hh; cases hh)
                            refine WP.path tab_ok mixed [] [.keep [10, 9, 8, 5, 6, 4, 3, 2, 0], .keepO [500, 2002, 2004, 2044, 10200]] (ps := []) (e := .normal) (σ' := ⟨[500, 2002, 2004, 2044, 10200], [(10, vi v10), (9, vi v9), (8, vi v8), (5, vo 2044 (List.length o44)), (6, vi ((List.length o10200 : Nat) : Int)), (4, V.ref 2004 0), (3, V.t (T.nils)), (2, V.ref 2002 0), (0, V.ref 500 0)], [(500, oc 90 [ty o500i, ti o500j, T.int .u64 o500k]), (2002, oc 26 [T.nils, ti 0]), (2004, ov 26 [vo 10200 (List.length o10200), vi o4]), (2044, oc 3 (List.map (T.int .i64) o44)), (10200, oc 3 (List.map (T.int .i64) o10200))]⟩) (by kernel_rfl) trivial ?_
                            refine WP.seq ?_
                            refine WP.block ?_
                            obtain ⟨c1, h⟩ := chk_some h
                            obtain ⟨n64, c2, h⟩ := nam_some h
                            obtain ⟨c3, h⟩ := chk_some h
                            obtain ⟨n67, c4, h⟩ := nam_some h
                            refine WP.path tab_ok mixed [(63, An.v (T.int .i64 (v10 / 2 ^ Int.toNat (Int.tmod v8 (3 : Int))))), (64, An.v (ti n64)), (66, An.v (T.int .i64 (n64 * 2 ^ Int.toNat v10))), (67, An.v (ti n67))] [.keep [9, 10, 8, 5, 6, 4, 3, 2, 0], .keepO [500, 2002, 2004, 2044, 10200]] (ps := [((3 : Int) ≠ 0), (0 ≤ (Int.tmod v8 (3 : Int))), (T.int .i64 (Int.fdiv v10 (2 ^ (min (Int.toNat (Int.tmod v8 (3 : Int))) 64))) = T.int .i64 (v10 / 2 ^ Int.toNat (Int.tmod v8 (3 : Int)))), (True), (ti (bits .and .i64 (v10 / 2 ^ Int.toNat (Int.tmod v8 (3 : Int))) (1 : Int)) = ti n64), (0 ≤ v10), (T.int .i64 (IntKind.wrap .i64 (n64 * 2 ^ (min (Int.toNat v10) 64))) = T.int .i64 (n64 * 2 ^ Int.toNat v10)), (True), (ti (bits .or .i64 v9 (n64 * 2 ^ Int.toNat v10)) = ti n67)]) (e := .normal) (σ' := ⟨[500, 2002, 2004, 2044, 10200], [(9, vi n67), (10, vi v10), (8, vi v8), (5, vo 2044 (List.length o44)), (6, vi ((List.length o10200 : Nat) : Int)), (4, V.ref 2004 0), (3, V.t (T.nils)), (2, V.ref 2002 0), (0, V.ref 500 0)], [(500, oc 90 [ty o500i, ti o500j, T.int .u64 o500k]), (2002, oc 26 [T.nils, ti 0]), (2004, ov 26 [vo 10200 (List.length o10200), vi o4]), (2044, oc 3 (List.map (T.int .i64) o44)), (10200, oc 3 (List.map (T.int .i64) o10200))]⟩) (by kernel_rfl) ⟨by decide, c1.1, shr_told c1, trivial, congrArg (ti) c2, c3.1, shl_told c3, trivial, congrArg (ti) c4, trivial⟩ ?_
                            obtain ⟨c5, h⟩ := chk_some h
                            refine WP.path tab_ok mixed [(58, An.v (T.int .i64 (v10 + (1 : Int))))] [.keep [10, 9, 8, 5, 6, 4, 3, 2, 0], .keepO [500, 2002, 2004, 2044, 10200], .names [(500, 500), (2002, 2002), (2004, 2004), (2044, 2044), (10200, 10200)]] (ps := [(True), (T.int .i64 (IntKind.wrap .i64 (v10 + (1 : Int))) = T.int .i64 (v10 + (1 : Int)))]) (e := .normal) (σ' := ⟨[500, 2002, 2004, 2044, 10200], [(10, vi (v10 + (1 : Int))), (9, vi n67), (8, vi v8), (5, vo 2044 (List.length o44)), (6, vi ((List.length o10200 : Nat) : Int)), (4, V.ref 2004 0), (3, V.t (T.nils)), (2, V.ref 2002 0), (0, V.ref 500 0)], [(500, oc 90 [ty o500i, ti o500j, T.int .u64 o500k]), (2002, oc 26 [T.nils, ti 0]), (2004, ov 26 [vo 10200 (List.length o10200), vi o4]), (2044, oc 3 (List.map (T.int .i64) o44)), (10200, oc 3 (List.map (T.int .i64) o10200))]⟩) (by kernel_rfl) ⟨trivial, wrapI c5, trivial⟩ ?_
                            exact ⟨(n, (v10 + (1 : Int)), n67), h, Nat.lt_succ_self _, rfl⟩
                          · -- no
                            refine WP.cond (b := decide (v10 < ((List.length o10200 : Nat) : Int))) rfl (fun hh => by rw [h7] at hh; cases hh) (fun _ => ?_)
                            refine WP.path tab_ok mixed [] [.keep [9, 8, 5, 6, 4, 3, 2, 0], .keepO [500, 2002, 2004, 2044, 10200], .names [(500, 500), (2002, 2002), (2004, 2004), (2044, 2044), (10200, 10200)]] (ps := []) (e := (.exit 4)) (σ' := ⟨[500, 2002, 2004, 2044, 10200], [(9, vi v9), (8, vi v8), (5, vo 2044 (List.length o44)), (6, vi ((List.length o10200 : Nat) : Int)), (4, V.ref 2004 0), (3, V.t (T.nils)), (2, V.ref 2002 0), (0, V.ref 500 0)], [(500, oc 90 [ty o500i, ti o500j, T.int .u64 o500k]), (2002, oc 26 [T.nils, ti 0]), (2004, ov 26 [vo 10200 (List.length o10200), vi o4]), (2044, oc 3 (List.map (T.int .i64) o44)), (10200, oc 3 (List.map (T.int .i64) o10200))]⟩) (by kernel_rfl) trivial ?_
                            exact ⟨(v9), h, rfl⟩
                      · -- from there
                        intro v9 h0
                        have h := (show J4 v9 = some (y0, y1, y2, y3, y4, y5) from h0)
                        rw [hJ4] at h
                        obtain ⟨c1, h⟩ := chk_some h
                        refine WP.path tab_ok mixed [(70, An.fz), (71, An.id 2071)] [.keep [5, 8, 6, 4, 3, 2, 0], .keepO [500, 2002, 2004, 2071, 10200], .names [(500, 500), (2002, 2002), (2004, 2004), (2071, 2071), (10200, 10200)]] (ps := [((1 = 1 ∧ 0 + 1 ≤ 1) ∧ True), (1 = 1 * 1), (True), (List.length (List.map (T.int .i64) o44) = (List.length o44) * 1), ((((List.length o44) + 1) * 8 ≤ 140737488355328 ∧ (List.length o44) + 1 ≤ maxLen))]) (e := .normal) (σ' := ⟨[500, 2002, 2004, 2071, 10200], [(5, vo 2071 ((List.length o44) + 1)), (8, vi v8), (6, vi ((List.length o10200 : Nat) : Int)), (4, V.ref 2004 0), (3, V.t (T.nils)), (2, V.ref 2002 0), (0, V.ref 500 0)], [(500, oc 90 [ty o500i, ti o500j, T.int .u64 o500k]), (2002, oc 26 [T.nils, ti 0]), (2004, ov 26 [vo 10200 (List.length o10200), vi o4]), (2071, oc 3 ((List.map (T.int .i64) o44) ++ [ti v9])), (10200, oc 3 (List.map (T.int .i64) o10200))]⟩) (by kernel_rfl) ⟨⟨⟨by first | rfl | (simp; done) | (simp []; done) | omega, by first | decide | (simp; done) | (simp []; done) | omega | (simp only [tlL]; omega) | (simp; omega)⟩, trivial⟩, by decide, trivial, by first | rfl | omega | (simp only [tlL] <;> omega) | (simp <;> omega) | (simp [] <;> omega), c1, trivial⟩ ?_
                        exact ⟨(o44 ++ [v9]), h, (by first | rfl | (simp only [tlS, tl, vl, vo, oc, ov, tbl, vbl, ty, vy] <;> rfl) | (simp <;> omega) | (simp []; done) | (rw [List.take_of_length_le (by simp [])] <;> rfl) | (simp [List.take_of_length_le]; done))⟩
                    · -- from there
                      intro o71 h0
                      have h := (show J3 o71 = some (y0, y1, y2, y3, y4, y5) from h0)
                      rw [hJ3] at h
                      obtain ⟨c1, h⟩ := chk_some h
                      refine WP.path tab_ok mixed [(53, An.v (T.int .i64 (v8 + (1 : Int))))] [.keep [8, 5, 6, 4, 3, 2, 0], .keepO [500, 2002, 2004, 2071, 10200], .names [(500, 500), (2002, 2002), (2004, 2004), (2071, 2044), (10200, 10200)]] (ps := [(True), (T.int .i64 (IntKind.wrap .i64 (v8 + (1 : Int))) = T.int .i64 (v8 + (1 : Int)))]) (e := .normal) (σ' := ⟨[500, 2002, 2004, 2044, 10200], [(8, vi (v8 + (1 : Int))), (5, vo 2044 (List.length o71)), (6, vi ((List.length o10200 : Nat) : Int)), (4, V.ref 2004 0), (3, V.t (T.nils)), (2, V.ref 2002 0), (0, V.ref 500 0)], [(500, oc 90 [ty o500i, ti o500j, T.int .u64 o500k]), (2002, oc 26 [T.nils, ti 0]), (2004, ov 26 [vo 10200 (List.length o10200), vi o4]), (2044, oc 3 (List.map (T.int .i64) o71)), (10200, oc 3 (List.map (T.int .i64) o10200))]⟩) (by kernel_rfl) ⟨trivial, wrapI c1, trivial⟩ ?_
                      exact ⟨(n, o71, (v8 + (1 : Int))), h, Nat.lt_succ_self _, rfl⟩
                  · -- no
                    refine WP.cond (b := v51) rfl (fun hh => by rw [h6] at hh; cases hh) (fun _ => ?_)
                    refine WP.path tab_ok mixed [] [.keep [5, 4, 3, 2, 0], .keepO [500, 2002, 2004, 2044, 10200], .names [(500, 500), (2002, 2002), (2004, 2004), (2044, 2044), (10200, 10200)]] (ps := []) (e := (.exit 2)) (σ' := ⟨[500, 2002, 2004, 2044, 10200], [(5, vo 2044 (List.length o44)), (4, V.ref 2004 0), (3, V.t (T.nils)), (2, V.ref 2002 0), (0, V.ref 500 0)], [(500, oc 90 [ty o500i, ti o500j, T.int .u64 o500k]), (2002, oc 26 [T.nils, ti 0]), (2004, ov 26 [vo 10200 (List.length o10200), vi o4]), (2044, oc 3 (List.map (T.int .i64) o44)), (10200, oc 3 (List.map (T.int .i64) o10200))]⟩) (by kernel_rfl) trivial ?_
                    exact ⟨(o44), h, rfl⟩
            · -- from there
              intro o44 h0
              have h := (show J2 o44 = some (y0, y1, y2, y3, y4, y5) from h0)
              rw [hJ2] at h
              obtain ⟨r74, r74b, r74c, r74d, c1, h⟩ := bnd4_some h
              obtain ⟨c2, h⟩ := chk_some h
              refine WP.path tab_ok mixed [(74, An.callG [(500, 500)] [V.ref 500 0, vi 9] [(500, oc 90 [ty o500i, ti o500j, T.int .u64 o500k])] (vi r74) [(500, oc 90 [ty r74b, ti r74c, T.int .u64 r74d])])] [.freeze 2044, .keep [5, 4, 3, 2, 0], .keepO [500, 2002, 2004, 10200], .names [(500, 500), (2002, 2002), (2004, 2004), (10200, 10200)]] (ps := [(CG Try.prog 119 [V.ref 500 0, vi 9] [(500, oc 90 [ty o500i, ti o500j, T.int .u64 o500k])] (vi r74) [(500, oc 90 [ty r74b, ti r74c, T.int .u64 r74d])]), ((V.ref 500 0).ren (renF [(500, 500)]) = V.ref 500 0), (WkT (ti 9) (ti 9)), ((oc 90 [ty o500i, ti o500j, T.int .u64 o500k]) = (oc 90 [ty o500i, ti o500j, T.int .u64 o500k]).ren (renF [(500, 500)])), ((0 ≤ (0 : Int) ∧ (0 : Int) ≤ r74 ∧ r74 ≤ ((List.length o44 : Nat) : Int))), (0 + ((Int.toNat r74) - 0) * 1 ≤ List.length (List.map (T.int .i64) o44)), (0 + ((Int.toNat r74) - 0) * 1 ≤ List.length (List.map (T.int .i64) o44)), (List.length (List.map (T.int .i64) o44) = (List.length o44) * 1)]) (e := .normal) (σ' := ⟨[500, 2002, 2004, 10200], [(5, V.t (T.list ((Int.toNat r74) - 0) 1 (List.take (((Int.toNat r74) - 0) * 1) (List.map (T.int .i64) o44)))), (4, V.ref 2004 0), (3, V.t (T.nils)), (2, V.ref 2002 0), (0, V.ref 500 0)], [(500, oc 90 [ty r74b, ti r74c, T.int .u64 r74d]), (2002, oc 26 [T.nils, ti 0]), (2004, ov 26 [vo 10200 (List.length o10200), vi o4]), (10200, oc 3 (List.map (T.int .i64) o10200))]⟩) (by kernel_rfl) ⟨(F_p_spec_l1Cur_pick_W o500i o500j o500k (9 : Int) r74 r74b r74c r74d c1), by first | rfl | (simp [V.ren, V.renL, renF, lk]; done) | (simp [V.ren, V.renL, renF, lk]; omega), WkT.refl _, by first | rfl | (simp only [tlS]; rfl) | (simp [Tl.Obj.ren, V.ren, V.renL, renF, lk]; done), c2, by first | decide | omega | (simp only [tlL] <;> omega) | (simp <;> omega) | (simp [] <;> omega), by first | decide | omega | (simp only [tlL] <;> omega) | (simp <;> omega) | (simp [] <;> omega), by first | rfl | omega | (simp only [tlL] <;> omega) | (simp <;> omega) | (simp [] <;> omega), trivial⟩ ?_
              exact ⟨(r74b, r74c, r74d, List.take ((Int.toNat r74) - 0) o44), h, (by first | rfl | (simp only [tlS, tl, vl, vo, oc, ov, tbl, vbl, ty, vy] <;> rfl) | (simp <;> omega) | (simp []; done) | (rw [List.take_of_length_le (by simp [])] <;> rfl) | (simp [List.take_of_length_le]; done))⟩
          · -- no
            refine WP.cond (b := v43) rfl (fun hh => by rw [h4] at hh; cases hh) (fun _ => ?_)
            refine WP.path tab_ok mixed [] [.freeze 2021, .keep [5, 4, 3, 2, 0], .keepO [500, 2002, 2004, 10200], .names [(500, 500), (2002, 2002), (2004, 2004), (10200, 10200)]] (ps := [(List.length (List.map (T.int .i64) o21) = (List.length o21) * 1)]) (e := .normal) (σ' := ⟨[500, 2002, 2004, 10200], [(5, vl o21), (4, V.ref 2004 0), (3, V.t (T.nils)), (2, V.ref 2002 0), (0, V.ref 500 0)], [(500, oc 90 [ty o500i, ti o500j, T.int .u64 o500k]), (2002, oc 26 [T.nils, ti 0]), (2004, ov 26 [vo 10200 (List.length o10200), vi o4]), (10200, oc 3 (List.map (T.int .i64) o10200))]⟩) (by kernel_rfl) ⟨by first | rfl | omega | (simp only [tlL] <;> omega) | (simp <;> omega) | (simp [] <;> omega), trivial⟩ ?_
            exact ⟨(o500i, o500j, o500k, o21), h, rfl⟩
      · -- from there
        rintro ⟨o500i, o500j, o500k, v5⟩ h0
        have h := (show J1 o500i o500j o500k v5 = some (y0, y1, y2, y3, y4, y5) from h0)
        rw [hJ1] at h
        obtain ⟨J1, hJ1, h⟩ := jn_some h
        refine WP.joinA (fun (zz : (List Int) × Int × Int × (List Int)) => ⟨[500, 2002, 2004, 10200], [(5, vl zz.2.2.2), (4, V.ref 2004 0), (3, V.t (T.nils)), (2, V.ref 2002 0)], [(500, oc 90 [ty zz.1, ti zz.2.1, T.int .u64 zz.2.2.1]), (2002, oc 26 [T.nils, ti 0]), (2004, ov 26 [vo 10200 (List.length o10200), vi o4]), (10200, oc 3 (List.map (T.int .i64) o10200))]⟩) (fun zz => J1 zz.1 zz.2.1 zz.2.2.1 zz.2.2.2 = some (y0, y1, y2, y3, y4, y5)) ?_ ?_
        · -- to where they meet
          refine WP.seq ?_
          obtain ⟨r77, r77b, r77c, r77d, c1, h⟩ := bnd4_some h
          refine WP.path tab_ok mixed [(77, An.callG [(500, 500)] [V.ref 500 0, vi 40] [(500, oc 90 [ty o500i, ti o500j, T.int .u64 o500k])] (vb r77) [(500, oc 90 [ty r77b, ti r77c, T.int .u64 r77d])])] [.keep [77, 5, 4, 3, 2], .keepO [500, 2002, 2004, 10200]] (ps := [(CG Try.prog 124 [V.ref 500 0, vi 40] [(500, oc 90 [ty o500i, ti o500j, T.int .u64 o500k])] (vb r77) [(500, oc 90 [ty r77b, ti r77c, T.int .u64 r77d])]), ((V.ref 500 0).ren (renF [(500, 500)]) = V.ref 500 0), (WkT (ti 40) (ti 40)), ((oc 90 [ty o500i, ti o500j, T.int .u64 o500k]) = (oc 90 [ty o500i, ti o500j, T.int .u64 o500k]).ren (renF [(500, 500)]))]) (e := .normal) (σ' := ⟨[500, 2002, 2004, 10200], [(77, vb r77), (5, vl v5), (4, V.ref 2004 0), (3, V.t (T.nils)), (2, V.ref 2002 0)], [(500, oc 90 [ty r77b, ti r77c, T.int .u64 r77d]), (2002, oc 26 [T.nils, ti 0]), (2004, ov 26 [vo 10200 (List.length o10200), vi o4]), (10200, oc 3 (List.map (T.int .i64) o10200))]⟩) (by kernel_rfl) ⟨(F_p_spec_l1Cur_one_W o500i o500j o500k (40 : Int) r77 r77b r77c r77d c1), by first | rfl | (simp [V.ren, V.renL, renF, lk]; done) | (simp [V.ren, V.renL, renF, lk]; omega), WkT.refl _, by first | rfl | (simp only [tlS]; rfl) | (simp [Tl.Obj.ren, V.ren, V.renL, renF, lk]; done), trivial⟩ ?_
          rcases ite_some h with ⟨h8, h⟩ | ⟨h8, h⟩
          · -- yes
            refine WP.cond (b := r77) rfl (fun _ => ?_) (fun hh => by rw [h8] at hh; cases hh)
            refine WP.path tab_ok mixed [(78, An.id 2078)] [.freeze 2078, .keep [5, 4, 3, 2], .keepO [500, 2002, 2004, 10200], .names [(500, 500), (2002, 2002), (2004, 2004), (10200, 10200)]] (ps := [((1 = 1 ∧ 0 + 1 ≤ 9) ∧ (1 = 1 ∧ 1 + 1 ≤ 9) ∧ (1 = 1 ∧ 2 + 1 ≤ 9) ∧ (1 = 1 ∧ 3 + 1 ≤ 9) ∧ (1 = 1 ∧ 4 + 1 ≤ 9) ∧ (1 = 1 ∧ 5 + 1 ≤ 9) ∧ (1 = 1 ∧ 6 + 1 ≤ 9) ∧ (1 = 1 ∧ 7 + 1 ≤ 9) ∧ (1 = 1 ∧ 8 + 1 ≤ 9) ∧ True), (9 = 9 * 1), (9 = 9 * 1), (9 = 9 * 1)]) (e := .normal) (σ' := ⟨[500, 2002, 2004, 10200], [(5, V.t (T.list 9 1 [ti 0, ti 0, ti 0, ti 0, ti 0, ti 0, ti 0, ti 0, ti 0])), (4, V.ref 2004 0), (3, V.t (T.nils)), (2, V.ref 2002 0)], [(500, oc 90 [ty r77b, ti r77c, T.int .u64 r77d]), (2002, oc 26 [T.nils, ti 0]), (2004, ov 26 [vo 10200 (List.length o10200), vi o4]), (10200, oc 3 (List.map (T.int .i64) o10200))]⟩) (by kernel_rfl) ⟨⟨⟨by first | rfl | (simp; done) | (simp []; done) | omega, by first | decide | (simp; done) | (simp []; done) | omega | (simp only [tlL]; omega) | (simp; omega)⟩, ⟨by first | rfl | (simp; done) | (simp []; done) | omega, by first | decide | (simp; done) | (simp []; done) | omega | (simp only [tlL]; omega) | (simp; omega)⟩, ⟨by first | rfl | (simp; done) | (simp []; done) | omega, by first | decide | (simp; done) | (simp []; done) | omega | (simp only [tlL]; omega) | (simp; omega)⟩, ⟨by first | rfl | (simp; done) | (simp []; done) | omega, by first | decide | (simp; done) | (simp []; done) | omega | (simp only [tlL]; omega) | (simp; omega)⟩, ⟨by first | rfl | (simp; done) | (simp []; done) | omega, by first | decide | (simp; done) | (simp []; done) | omega | (simp only [tlL]; omega) | (simp; omega)⟩, ⟨by first | rfl | (simp; done) | (simp []; done) | omega, by first | decide | (simp; done) | (simp []; done) | omega | (simp only [tlL]; omega) | (simp; omega)⟩, ⟨by first | rfl | (simp; done) | (simp []; done) | omega, by first | decide | (simp; done) | (simp []; done) | omega | (simp only [tlL]; omega) | (simp; omega)⟩, ⟨by first | rfl | (simp; done) | (simp []; done) | omega, by first | decide | (simp; done) | (simp []; done) | omega | (simp only [tlL]; omega) | (simp; omega)⟩, ⟨by first | rfl | (simp; done) | (simp []; done) | omega, by first | decide | (simp; done) | (simp []; done) | omega | (simp only [tlL]; omega) | (simp; omega)⟩, trivial⟩, by decide, by first | rfl | omega | (simp only [tlL] <;> omega) | (simp <;> omega) | (simp [] <;> omega), by first | rfl | omega | (simp only [tlL] <;> omega) | (simp <;> omega) | (simp [] <;> omega), trivial⟩ ?_
            exact ⟨(r77b, r77c, r77d, [(0 : Int), (0 : Int), (0 : Int), (0 : Int), (0 : Int), (0 : Int), (0 : Int), (0 : Int), (0 : Int)]), h, (by first | rfl | (simp only [tlS, tl, vl, vo, oc, ov, tbl, vbl, ty, vy] <;> rfl) | (simp <;> omega) | (simp []; done) | (rw [List.take_of_length_le (by simp [])] <;> rfl) | (simp [List.take_of_length_le]; done))⟩
          · -- no
            refine WP.cond (b := r77) rfl (fun hh => by rw [h8] at hh; cases hh) (fun _ => ?_)
            refine WP.path tab_ok mixed [] [.keep [5, 4, 3, 2], .keepO [500, 2002, 2004, 10200], .names [(500, 500), (2002, 2002), (2004, 2004), (10200, 10200)]] (ps := []) (e := .normal) (σ' := ⟨[500, 2002, 2004, 10200], [(5, vl v5), (4, V.ref 2004 0), (3, V.t (T.nils)), (2, V.ref 2002 0)], [(500, oc 90 [ty r77b, ti r77c, T.int .u64 r77d]), (2002, oc 26 [T.nils, ti 0]), (2004, ov 26 [vo 10200 (List.length o10200), vi o4]), (10200, oc 3 (List.map (T.int .i64) o10200))]⟩) (by kernel_rfl) trivial ?_
            exact ⟨(r77b, r77c, r77d, v5), h, rfl⟩
        · -- from there
          rintro ⟨o500l, o500m, o500n, v5b⟩ h0
          have h := (show J1 o500l o500m o500n v5b = some (y0, y1, y2, y3, y4, y5) from h0)
          rw [hJ1] at h
          simp only [Option.some.injEq, Prod.mk.injEq] at h
          obtain ⟨rfl, rfl, rfl, rfl, rfl, rfl⟩ := h
          exact WP.pathG tab_ok mixed [] [.keep [2, 3], .keepO [500, 2002, 10200], .freeze 10200, .names [(500, 500), (2002, 2002)]] [500] _ (r' := V.t (T.tup [T.agg [tl o10200, ti o4], tl v5b])) (ps := [(0 + 2 ≤ 2), ((0 + 2 ≤ 2 ∧ 2 = 2)), (List.length (List.map (T.int .i64) o10200) = (List.length o10200) * 1), (0 + 2 ≤ 2)]) (r := V.t (T.tup [T.agg [tl o10200, ti o4], tl v5b])) (N := [500, 2002]) (O := [(500, oc 90 [ty o500l, ti o500m, T.int .u64 o500n])]) [] (by kernel_rfl) ⟨by decide, by decide, by first | rfl | omega | (simp only [tlL] <;> omega) | (simp <;> omega) | (simp [] <;> omega), by decide, trivial⟩ ⟨(WkT.refl _), trivial⟩ rfl rfl (fun _ h => h)
theorem F_spec_DrawCountFair_W (x0 : List Int) (y0 : List Int) (y1 : Int) (y2 : List Int) (h : F_spec_DrawCountFair x0 = some (y0, y1, y2)) : CG Try.prog 39 [vy x0] [] (V.t (T.tup [T.agg [tl y0, ti y1], tl y2])) [] := by
  unfold F_spec_DrawCountFair at h
  refine CG.intro (tab := tab) tab_ok (fn := Try.f39) Try.func39 (by kernel_rfl) rfl (Nat.le_of_ble_eq_true rfl) (by kernel_rfl) ?_
  obtain ⟨r9, r9b, r9c, r9d, r9e, r9g, c0, h⟩ := bnd6_some h
  simp only [Option.some.injEq, Prod.mk.injEq] at h
  obtain ⟨rfl, rfl, rfl⟩ := h
  exact WP.pathG tab_ok mixed [(2, An.id 2002), (7, An.id 2007), (9, An.callG [(500, 2007)] [V.ref 500 0] [(500, oc 90 [ty x0, ti 0, T.int .u64 0])] (V.t (T.tup [T.agg [tl r9, ti r9b], tl r9c])) [(500, oc 90 [ty r9d, ti r9e, T.int .u64 r9g])])] [.keep [2, 3], .keepO [2002], .names [(2002, 2002)]] [] _ (r' := V.t (T.tup [T.agg [tl r9, ti r9b], tl r9c])) (ps := [((1 = 1 ∧ 0 + 1 ≤ 3) ∧ True), (CG Try.prog 87 [V.ref 500 0] [(500, oc 90 [ty x0, ti 0, T.int .u64 0])] (V.t (T.tup [T.agg [tl r9, ti r9b], tl r9c])) [(500, oc 90 [ty r9d, ti r9e, T.int .u64 r9g])]), ((V.ref 500 0).ren (renF [(500, 2007)]) = V.ref 2007 0), ((oc 90 [ty x0, ti 0, T.int .u64 0]) = (oc 90 [ty x0, ti 0, T.int .u64 0]).ren (renF [(500, 2007)])), ((0 + 2 ≤ 2 ∧ 2 = 2)), (0 + 2 ≤ 2)]) (r := V.t (T.tup [T.agg [tl r9, ti r9b], tl r9c])) (N := [2002]) (O := []) [] (by kernel_rfl) ⟨⟨⟨by first | rfl | (simp; done) | (simp []; done) | omega, by first | decide | (simp; done) | (simp []; done) | omega | (simp only [tlL]; omega) | (simp; omega)⟩, trivial⟩, (F_p_spec_l1Cur_fixed_W x0 (0 : Int) (0 : Int) r9 r9b r9c r9d r9e r9g c0), by first | rfl | (simp [V.ren, V.renL, renF, lk]; done) | (simp [V.ren, V.renL, renF, lk]; omega), by first | rfl | (simp only [tlS]; rfl) | (simp [Tl.Obj.ren, V.ren, V.renL, renF, lk]; done), by decide, by first | decide | omega | (simp only [tlL] <;> omega) | (simp <;> omega) | (simp [] <;> omega), trivial⟩ ⟨(WkT.refl _), trivial⟩ rfl rfl (fun _ h => h)
theorem F_spec_DrawCountFair_W_C (x0 : List Int) (y0 : List Int) (y1 : Int) (y2 : List Int) (h : F_spec_DrawCountFair x0 = some (y0, y1, y2)) : C Try.prog 39 [ty x0] (T.tup [T.agg [tl y0, ti y1], tl y2]) :=
  CG.toC (ps := []) (F_spec_DrawCountFair_W  x0 y0 y1 y2 h) (by rfl) trivial
theorem F_spec_DrawFirstHolding_W (x0 : List Int) (y0 : List Int) (y1 : Int) (y2 : List Int) (h : F_spec_DrawFirstHolding x0 = some (y0, y1, y2)) : CG Try.prog 6 [vy x0] [] (V.t (T.tup [T.agg [tl y0, ti y1], tl y2])) [] := by
  unfold F_spec_DrawFirstHolding at h
  refine CG.intro (tab := tab) tab_ok (fn := Try.f6) Try.func6 (by kernel_rfl) rfl (Nat.le_of_ble_eq_true rfl) (by kernel_rfl) ?_
  obtain ⟨r5, r5b, r5c, c0, h⟩ := bnd3_some h
  simp only [Option.some.injEq, Prod.mk.injEq] at h
  obtain ⟨rfl, rfl, rfl⟩ := h
  exact WP.pathG tab_ok mixed [(2, An.id 2002), (5, An.callG [] [vy x0] [] (V.t (T.tup [T.agg [tl r5, ti r5b], tl r5c])) [])] [.keep [2, 3], .keepO [2002], .names [(2002, 2002)]] [] _ (r' := V.t (T.tup [T.agg [tl r5, ti r5b], tl r5c])) (ps := [(CG Try.prog 39 [vy x0] [] (V.t (T.tup [T.agg [tl r5, ti r5b], tl r5c])) []), (WkT (ty x0) (ty x0)), ((0 + 2 ≤ 2 ∧ 2 = 2)), (0 + 2 ≤ 2)]) (r := V.t (T.tup [T.agg [tl r5, ti r5b], tl r5c])) (N := [2002]) (O := []) [] (by kernel_rfl) ⟨(F_spec_DrawCountFair_W x0 r5 r5b r5c c0), WkT.refl _, by decide, by first | decide | omega | (simp only [tlL] <;> omega) | (simp <;> omega) | (simp [] <;> omega), trivial⟩ ⟨(WkT.refl _), trivial⟩ rfl rfl (fun _ h => h)
theorem F_spec_DrawFirstHolding_W_C (x0 : List Int) (y0 : List Int) (y1 : Int) (y2 : List Int) (h : F_spec_DrawFirstHolding x0 = some (y0, y1, y2)) : C Try.prog 6 [ty x0] (T.tup [T.agg [tl y0, ti y1], tl y2]) :=
  CG.toC (ps := []) (F_spec_DrawFirstHolding_W  x0 y0 y1 y2 h) (by rfl) trivial
theorem F_impl_areListed_W (x0 : List Int) (x1 : Int) (x2 : List Int) (y0 : Bool) (h : F_impl_areListed x0 x1 x2 = some y0) : C Try.prog 40 [T.agg [tl x0, ti x1], tl x2] (tb y0) := by
  unfold F_impl_areListed at h
  refine C.intro (tab := tab) tab_ok (fn := Try.f40) Try.func40 (by kernel_rfl) rfl (Nat.le_of_ble_eq_true rfl) ?_
  obtain ⟨c0, h⟩ := chk_some h
  rcases ite_some h with ⟨h1, h⟩ | ⟨h1, h⟩
  · -- yes
    rcases ite_some h with ⟨h2, h⟩ | ⟨h2, h⟩
    · -- yes
      have h := Option.some.inj h
      subst h
      exact WP.pathW tab_ok mixed [(2, An.fz), (6, An.call (tb true)), (10, An.b true), (15, An.call (tb (List.any x2 (fun x => !(isQ ((List.length x0 : Nat) : Int) x)))))] _ (ps := [(2 ≤ 2), (C Try.prog 56 [T.agg [tl x0, ti x1]] (tb true)), (True), ((decide (((List.length x2 : Nat) : Int) ≤ (8 : Int))) = true), (C Try.prog 88 [tl x2, T.fn 89 [] [T.ptr [tl x0, ti x1]]] (tb (List.any x2 (fun x => !(isQ ((List.length x0 : Nat) : Int) x)))))]) (r := tb (!(List.any x2 (fun x => !(isQ ((List.length x0 : Nat) : Int) x))))) (by kernel_rfl) ⟨by decide, (C.toB h1 (isState_C x0 x1 c0)), trivial, h2, (containsFunc_C x2 _ _ _ (fun x => !(isQ ((List.length x0 : Nat) : Int) x)) (fun x => (areListed1_C x x0 x1)) (by first | omega | (simp only [List.length_take, List.length_drop, List.length_map, List.length_append]; omega) | (simp only [decide_eq_true_eq] at *; omega))), trivial⟩ (WkT.eq (y := tb (!(List.any x2 (fun x => !(isQ ((List.length x0 : Nat) : Int) x))))) (WkT.refl _) rfl) (fun _ h => h)
    · -- no
      have h := Option.some.inj h
      subst h
      exact WP.pathW tab_ok mixed [(2, An.fz), (6, An.call (tb true)), (10, An.b false)] _ (ps := [(2 ≤ 2), (C Try.prog 56 [T.agg [tl x0, ti x1]] (tb true)), (True), ((decide (((List.length x2 : Nat) : Int) ≤ (8 : Int))) = false)]) (r := tb false) (by kernel_rfl) ⟨by decide, (C.toB h1 (isState_C x0 x1 c0)), trivial, h2, trivial⟩ (WkT.eq (y := tb false) (WkT.refl _) rfl) (fun _ h => h)
  · -- no
    have h := Option.some.inj h
    subst h
    exact WP.pathW tab_ok mixed [(2, An.fz), (6, An.call (tb false))] _ (ps := [(2 ≤ 2), (C Try.prog 56 [T.agg [tl x0, ti x1]] (tb false))]) (r := tb false) (by kernel_rfl) ⟨by decide, (C.toB h1 (isState_C x0 x1 c0)), trivial⟩ (WkT.eq (y := tb false) (WkT.refl _) rfl) (fun _ h => h)
theorem F_impl_State_told_W (x0 : List Int) (x1 : Int) (x2 : List Int) (x3 : List Bool) (y0 : List Int) (y1 : Int) (h : F_impl_State_told x0 x1 x2 x3 = some (y0, y1)) : CG Try.prog 52 [V.t (T.agg [tl x0, ti x1]), vl x2, vbl x3] [] (V.t (T.agg [tl y0, ti y1])) [] := by
  unfold F_impl_State_told at h
  refine CG.intro (tab := tab) tab_ok (fn := Try.f52) Try.func52 (by kernel_rfl) rfl (Nat.le_of_ble_eq_true rfl) (by kernel_rfl) ?_
  refine WP.seq ?_
  refine WP.path tab_ok mixed [(3, An.id 2003), (6, An.id 2006)] [.keep [6, 3, 1, 2], .keepO [2003, 2006]] (ps := []) (e := .normal) (σ' := ⟨[2006, 2003], [(6, V.ref 2006 0), (3, V.ref 2003 0), (1, vl x2), (2, vbl x3)], [(2003, oc 26 [tl x0, ti x1]), (2006, oc 26 [T.nils, ti 0])]⟩) (by kernel_rfl) trivial ?_
  obtain ⟨J1, hJ1, h⟩ := jn_some h
  refine WP.joinA (fun (zz : (List Int)) => ⟨[2003, 2006], [(6, V.ref 2006 0), (3, V.ref 2003 0)], [(2003, oc 26 [tl zz, ti x1]), (2006, oc 26 [T.nils, ti 0])]⟩) (fun zz => J1 zz = some (y0, y1)) ?_ ?_
  · -- to where they meet
    refine WP.seq ?_
    refine WP.path tab_ok mixed [] [.keep [11, 10, 9, 6, 3, 2], .keepO [2003, 2006]] (ps := []) (e := .normal) (σ' := ⟨[2006, 2003], [(11, vi 0), (10, vi ((List.length x2 : Nat) : Int)), (9, vl x2), (6, V.ref 2006 0), (3, V.ref 2003 0), (2, vbl x3)], [(2003, oc 26 [tl x0, ti x1]), (2006, oc 26 [T.nils, ti 0])]⟩) (by kernel_rfl) trivial ?_
    refine WP.block ?_
    refine WP.wk [.keep [11, 10, 9, 6, 3, 2], .keepO [2003, 2006], .names [(2003, 2003), (2006, 2006)]] (σ' := ⟨[2003, 2006], [(11, vi 0), (10, vi ((List.length x2 : Nat) : Int)), (9, vl x2), (6, V.ref 2006 0), (3, V.ref 2003 0), (2, vbl x3)], [(2003, oc 26 [tl x0, ti x1]), (2006, oc 26 [T.nils, ti 0])]⟩) (ps := []) (by kernel_rfl) trivial ?_
    refine WP.st (σ' := ⟨[2003, 2006], [(11, vi (0 : Int)), (10, vi ((List.length x2 : Nat) : Int)), (9, vl x2), (6, V.ref 2006 0), (3, V.ref 2003 0), (2, vbl x3)], [(2003, oc 26 [tl x0, ti x1]), (2006, oc 26 [T.nils, ti 0])]⟩) (by first | rfl | (simp only [tlS, tl, vl, vo, oc, ov, tbl, vbl, ty, vy] <;> rfl) | (simp <;> omega) | (simp []; done) | (rw [List.take_of_length_le (by simp [])] <;> rfl) | (simp [List.take_of_length_le]; done)) ?_
    refine WP.loop (α := Nat × (List Int) × Int) (fun zz => ⟨[2003, 2006], [(11, vi zz.2.2), (10, vi ((List.length x2 : Nat) : Int)), (9, vl x2), (6, V.ref 2006 0), (3, V.ref 2003 0), (2, vbl x3)], [(2003, oc 26 [tl zz.2.1, ti x1]), (2006, oc 26 [T.nils, ti 0])]⟩) (fun zz => F_impl_State_told_L1 x1 x2 x3 J1 zz.1 zz.2.1 zz.2.2 = some (y0, y1)) (fun zz => zz.1) (fuel, x0, (0 : Int)) h ?_
    rintro ⟨n, o3, v11⟩ h0
    have h := (show F_impl_State_told_L1 x1 x2 x3 J1 n o3 v11 = some (y0, y1) from h0)
    rcases n with _ | n
    · rw [F_impl_State_told_L1] at h; cases h
    · rw [F_impl_State_told_L1] at h
      refine WP.seq ?_
      refine WP.path tab_ok mixed [] [.keep [12, 11, 10, 9, 6, 3, 2], .keepO [2003, 2006]] (ps := [(True)]) (e := .normal) (σ' := ⟨[2003, 2006], [(12, vb (decide (v11 < ((List.length x2 : Nat) : Int)))), (11, vi v11), (10, vi ((List.length x2 : Nat) : Int)), (9, vl x2), (6, V.ref 2006 0), (3, V.ref 2003 0), (2, vbl x3)], [(2003, oc 26 [tl o3, ti x1]), (2006, oc 26 [T.nils, ti 0])]⟩) (by kernel_rfl) ⟨trivial, trivial⟩ ?_
      refine WP.seq ?_
      rcases ite_some h with ⟨h1, h⟩ | ⟨h1, h⟩
      · -- yes
        refine WP.cond (b := decide (v11 < ((List.length x2 : Nat) : Int))) rfl (fun _ => ?_) (fun hh => by rw [h1] at hh; cases hh)
        refine WP.path tab_ok mixed [] [.keep [11, 10, 9, 6, 3, 2], .keepO [2003, 2006]] (ps := []) (e := .normal) (σ' := ⟨[2003, 2006], [(11, vi v11), (10, vi ((List.length x2 : Nat) : Int)), (9, vl x2), (6, V.ref 2006 0), (3, V.ref 2003 0), (2, vbl x3)], [(2003, oc 26 [tl o3, ti x1]), (2006, oc 26 [T.nils, ti 0])]⟩) (by kernel_rfl) trivial ?_
        refine WP.seq ?_
        refine WP.block ?_
        obtain ⟨c0, h⟩ := chk_some h
        obtain ⟨c1, h⟩ := chk_some h
        obtain ⟨c2, h⟩ := chk_some h
        refine WP.path tab_ok mixed [(15, An.v (ti (List.getD x2 (Int.toNat v11) 0))), (21, An.v (tb (List.getD x3 (Int.toNat v11) false))), (23, An.call (T.agg [tl (ansN x1 (List.getD x2 (Int.toNat v11) 0) (List.getD x3 (Int.toNat v11) false) o3), ti x1]))] [.keep [11, 10, 9, 6, 3, 2], .keepO [2003, 2006]] (ps := [((0 ≤ v11 ∧ v11 < ((List.length x2 : Nat) : Int))), ((List.drop ((Int.toNat v11) * 1) (List.map (T.int .i64) x2) : List T)[0]? = some (ti (List.getD x2 (Int.toNat v11) 0))), (ti (List.getD x2 (Int.toNat v11) 0) = ti (List.getD x2 (Int.toNat v11) 0)), (0 + 2 ≤ 2), ((0 ≤ v11 ∧ v11 < ((List.length x3 : Nat) : Int))), ((List.drop ((Int.toNat v11) * 1) (List.map T.bool x3) : List T)[0]? = some (tb (List.getD x3 (Int.toNat v11) false))), (tb (List.getD x3 (Int.toNat v11) false) = tb (List.getD x3 (Int.toNat v11) false)), ((1 = 1 ∧ 0 + 1 ≤ 2) ∧ (1 = 1 ∧ 1 + 1 ≤ 2) ∧ True), (C Try.prog 95 [T.agg [tl o3, ti x1], T.agg [ti (List.getD x2 (Int.toNat v11) 0), tb (List.getD x3 (Int.toNat v11) false)]] (T.agg [tl (ansN x1 (List.getD x2 (Int.toNat v11) 0) (List.getD x3 (Int.toNat v11) false) o3), ti x1])), ((0 + 2 ≤ 2 ∧ 2 = 2))]) (e := .normal) (σ' := ⟨[2003, 2006], [(11, vi v11), (10, vi ((List.length x2 : Nat) : Int)), (9, vl x2), (6, V.ref 2006 0), (3, V.ref 2003 0), (2, vbl x3)], [(2003, oc 26 [tl (ansN x1 (List.getD x2 (Int.toNat v11) 0) (List.getD x3 (Int.toNat v11) false) o3), ti x1]), (2006, oc 26 [T.nils, ti 0])]⟩) (by kernel_rfl) ⟨c0, at1 (by simp) (by omega), rfl, by decide, c1, at1 (by simp) (by omega), rfl, ⟨⟨by first | rfl | (simp; done) | (simp []; done) | omega, by first | decide | (simp; done) | (simp []; done) | omega | (simp only [tlL]; omega) | (simp; omega)⟩, ⟨by first | rfl | (simp; done) | (simp []; done) | omega, by first | decide | (simp; done) | (simp []; done) | omega | (simp only [tlL]; omega) | (simp; omega)⟩, trivial⟩, (answered_C o3 x1 (List.getD x2 (Int.toNat v11) 0) (List.getD x3 (Int.toNat v11) false) c2), by decide, trivial⟩ ?_
        obtain ⟨c3, h⟩ := chk_some h
        refine WP.path tab_ok mixed [(24, An.v (T.int .i64 (v11 + (1 : Int))))] [.keep [11, 10, 9, 6, 3, 2], .keepO [2003, 2006], .names [(2003, 2003), (2006, 2006)]] (ps := [(True), (T.int .i64 (IntKind.wrap .i64 (v11 + (1 : Int))) = T.int .i64 (v11 + (1 : Int)))]) (e := .normal) (σ' := ⟨[2003, 2006], [(11, vi (v11 + (1 : Int))), (10, vi ((List.length x2 : Nat) : Int)), (9, vl x2), (6, V.ref 2006 0), (3, V.ref 2003 0), (2, vbl x3)], [(2003, oc 26 [tl (ansN x1 (List.getD x2 (Int.toNat v11) 0) (List.getD x3 (Int.toNat v11) false) o3), ti x1]), (2006, oc 26 [T.nils, ti 0])]⟩) (by kernel_rfl) ⟨trivial, wrapI c3, trivial⟩ ?_
        exact ⟨(n, ansN x1 (List.getD x2 (Int.toNat v11) 0) (List.getD x3 (Int.toNat v11) false) o3, (v11 + (1 : Int))), h, Nat.lt_succ_self _, rfl⟩
      · -- no
        refine WP.cond (b := decide (v11 < ((List.length x2 : Nat) : Int))) rfl (fun hh => by rw [h1] at hh; cases hh) (fun _ => ?_)
        refine WP.path tab_ok mixed [] [.keep [6, 3], .keepO [2003, 2006], .names [(2003, 2003), (2006, 2006)]] (ps := []) (e := (.exit 0)) (σ' := ⟨[2003, 2006], [(6, V.ref 2006 0), (3, V.ref 2003 0)], [(2003, oc 26 [tl o3, ti x1]), (2006, oc 26 [T.nils, ti 0])]⟩) (by kernel_rfl) trivial ?_
        exact ⟨(o3), h, rfl⟩
  · -- from there
    intro o3 h0
    have h := (show J1 o3 = some (y0, y1) from h0)
    rw [hJ1] at h
    simp only [Option.some.injEq, Prod.mk.injEq] at h
    obtain ⟨rfl, rfl⟩ := h
    exact WP.pathG tab_ok mixed [] [.keep [6], .keepO [2006], .names [(2006, 2006)]] [] _ (r' := V.t (T.agg [tl o3, ti x1])) (ps := [(0 + 2 ≤ 2), ((0 + 2 ≤ 2 ∧ 2 = 2)), (0 + 2 ≤ 2)]) (r := V.t (T.agg [tl o3, ti x1])) (N := [2006]) (O := []) [] (by kernel_rfl) ⟨by decide, by decide, by first | decide | omega | (simp only [tlL] <;> omega) | (simp <;> omega) | (simp [] <;> omega), trivial⟩ ⟨(WkT.refl _), trivial⟩ rfl rfl (fun _ h => h)
theorem F_impl_State_told_W_C (x0 : List Int) (x1 : Int) (x2 : List Int) (x3 : List Bool) (y0 : List Int) (y1 : Int) (h : F_impl_State_told x0 x1 x2 x3 = some (y0, y1)) : C Try.prog 52 [T.agg [tl x0, ti x1], tl x2, tbl x3] (T.agg [tl y0, ti y1]) :=
  CG.toC (ps := []) (F_impl_State_told_W  x0 x1 x2 x3 y0 y1 h) (by rfl) trivial
theorem F_impl_FirstHolding_1_W (x0 : List Bool) (x1 : Int) (x2 : Bool) (x3 : List Bool) (y0 : Bool) (y1 : List Bool) (h : F_impl_FirstHolding_1 x0 x1 x2 x3 = some (y0, y1)) : CG Try.prog 42 [vbl x0, vi x1, V.ref 500 0, V.ref 501 0] [(500, oc 4 [tb x2]), (501, ov 29 [vbl x3])] (V.t (T.tup [])) [(500, oc 4 [tb y0]), (501, ov 29 [vbl y1])] := by
  unfold F_impl_FirstHolding_1 at h
  refine CG.intro (tab := tab) tab_ok (fn := Try.f42) Try.func42 (by kernel_rfl) rfl (Nat.le_of_ble_eq_true rfl) (by kernel_rfl) ?_
  obtain ⟨J1, hJ1, h⟩ := jn_some h
  refine WP.joinA (fun (zz : Bool) => ⟨[500, 501], [(11, vb zz), (0, vbl x0), (2, V.ref 500 0), (3, V.ref 501 0)], [(500, oc 4 [tb x2]), (501, ov 29 [vbl x3])]⟩) (fun zz => J1 zz = some (y0, y1)) ?_ ?_
  · -- to where they meet
    rcases ite_some h with ⟨h1, h⟩ | ⟨h1, h⟩
    · -- yes
      refine WP.path tab_ok mixed [(7, An.b true)] [.keep [11, 0, 2, 3], .keepO [500, 501], .names [(500, 500), (501, 501)]] (ps := [(True), ((decide (x1 ≥ (2 : Int))) = true), (True)]) (e := .normal) (σ' := ⟨[500, 501], [(11, vb (!x2)), (0, vbl x0), (2, V.ref 500 0), (3, V.ref 501 0)], [(500, oc 4 [tb x2]), (501, ov 29 [vbl x3])]⟩) (by kernel_rfl) ⟨trivial, h1, trivial, trivial⟩ ?_
      exact ⟨(!x2), h, rfl⟩
    · -- no
      refine WP.path tab_ok mixed [(7, An.b false)] [.keep [11, 0, 2, 3], .keepO [500, 501], .names [(500, 500), (501, 501)]] (ps := [(True), ((decide (x1 ≥ (2 : Int))) = false)]) (e := .normal) (σ' := ⟨[500, 501], [(11, vb false), (0, vbl x0), (2, V.ref 500 0), (3, V.ref 501 0)], [(500, oc 4 [tb x2]), (501, ov 29 [vbl x3])]⟩) (by kernel_rfl) ⟨trivial, h1, trivial⟩ ?_
      exact ⟨(false), h, rfl⟩
  · -- from there
    intro v11 h0
    have h := (show J1 v11 = some (y0, y1) from h0)
    rw [hJ1] at h
    rcases ite_some h with ⟨h2, h⟩ | ⟨h2, h⟩
    · -- yes
      refine WP.cond (b := v11) rfl (fun _ => ?_) (fun hh => by rw [h2] at hh; cases hh)
      simp only [Option.some.injEq, Prod.mk.injEq] at h
      obtain ⟨rfl, rfl⟩ := h
      exact WP.pathGn tab_ok mixed [] [.keep [], .keepO [500, 501], .names [(500, 500), (501, 501)]] [500, 501] _ (r' := V.t (T.tup [])) (ps := [(0 < 1), (0 < 1)]) (r := V.t (T.tup [])) (N := [500, 501]) (O := [(500, oc 4 [tb true]), (501, ov 29 [vbl x0])]) [] (by kernel_rfl) ⟨by decide, by decide, trivial⟩ ⟨(WkT.refl _), trivial⟩ rfl rfl (fun _ h => h)
    · -- no
      refine WP.cond (b := v11) rfl (fun hh => by rw [h2] at hh; cases hh) (fun _ => ?_)
      simp only [Option.some.injEq, Prod.mk.injEq] at h
      obtain ⟨rfl, rfl⟩ := h
      exact WP.pathGn tab_ok mixed [] [.keep [], .keepO [500, 501], .names [(500, 500), (501, 501)]] [500, 501] _ (r' := V.t (T.tup [])) (ps := []) (r := V.t (T.tup [])) (N := [500, 501]) (O := [(500, oc 4 [tb x2]), (501, ov 29 [vbl x3])]) [] (by kernel_rfl) trivial ⟨(WkT.refl _), trivial⟩ rfl rfl (fun _ h => h)
theorem F_impl_State_lists_42_W (x0 : List Int) (x1 : Int) (x2 : List Int) (x3 : Bool) (y0 : Bool) (y1 : List Bool) (h : F_impl_State_lists_42 x0 x1 x2 x3 = some (y0, y1)) : CG Try.prog 41 [V.t (T.agg [tl x0, ti x1]), vl x2, V.fn 42 [V.ref 500 0, V.ref 501 0]] [(500, oc 4 [tb x3]), (501, oc 29 [T.nils])] (V.t (T.tup [])) [(500, oc 4 [tb y0]), (501, ov 29 [vbl y1])] := by
  unfold F_impl_State_lists_42 at h
  refine CG.intro (tab := tab) tab_ok (fn := Try.f41) Try.func41 (by kernel_rfl) rfl (Nat.le_of_ble_eq_true rfl) (by kernel_rfl) ?_
  refine WP.seq ?_
  refine WP.path tab_ok mixed [(3, An.fz)] [.keep [3, 1, 2], .adoptO 501 [vbl ([] : List Bool)] [], .keepO [500, 501]] (ps := [((WkT (T.nils) (tbl ([] : List Bool))))]) (e := .normal) (σ' := ⟨[500, 501], [(3, V.t (T.ptr [tl x0, ti x1])), (1, vl x2), (2, V.fn 42 [V.ref 500 0, V.ref 501 0])], [(500, oc 4 [tb x3]), (501, ov 29 [vbl ([] : List Bool)])]⟩) (by kernel_rfl) ⟨WkT.nil _, trivial⟩ ?_
  refine WP.seq ?_
  refine WP.path tab_ok mixed [] [.keep [6, 3, 1, 2], .keepO [500, 501]] (ps := []) (e := .normal) (σ' := ⟨[500, 501], [(6, vi ((List.length x2 : Nat) : Int)), (3, V.t (T.ptr [tl x0, ti x1])), (1, vl x2), (2, V.fn 42 [V.ref 500 0, V.ref 501 0])], [(500, oc 4 [tb x3]), (501, ov 29 [vbl ([] : List Bool)])]⟩) (by kernel_rfl) trivial ?_
  refine WP.seq ?_
  obtain ⟨c0, h⟩ := chk_some h
  refine WP.path tab_ok mixed [(13, An.v (T.int .i64 ((1 : Int) * 2 ^ Int.toNat ((List.length x2 : Nat) : Int))))] [.keep [14, 13, 6, 3, 1, 2], .keepO [500, 501]] (ps := [(0 ≤ ((List.length x2 : Nat) : Int)), (T.int .i64 (IntKind.wrap .i64 ((1 : Int) * 2 ^ (min (Int.toNat ((List.length x2 : Nat) : Int)) 64))) = T.int .i64 ((1 : Int) * 2 ^ Int.toNat ((List.length x2 : Nat) : Int)))]) (e := .normal) (σ' := ⟨[500, 501], [(14, vi 0), (13, vi ((1 : Int) * 2 ^ Int.toNat ((List.length x2 : Nat) : Int))), (6, vi ((List.length x2 : Nat) : Int)), (3, V.t (T.ptr [tl x0, ti x1])), (1, vl x2), (2, V.fn 42 [V.ref 500 0, V.ref 501 0])], [(500, oc 4 [tb x3]), (501, ov 29 [vbl ([] : List Bool)])]⟩) (by kernel_rfl) ⟨c0.1, shl_told c0, trivial⟩ ?_
  refine WP.block ?_
  refine WP.wk [.keep [14, 13, 6, 3, 1, 2], .keepO [500, 501], .names [(500, 500), (501, 501)]] (σ' := ⟨[500, 501], [(14, vi 0), (13, vi ((1 : Int) * 2 ^ Int.toNat ((List.length x2 : Nat) : Int))), (6, vi ((List.length x2 : Nat) : Int)), (3, V.t (T.ptr [tl x0, ti x1])), (1, vl x2), (2, V.fn 42 [V.ref 500 0, V.ref 501 0])], [(500, oc 4 [tb x3]), (501, ov 29 [vbl ([] : List Bool)])]⟩) (ps := []) (by kernel_rfl) trivial ?_
  refine WP.st (σ' := ⟨[500, 501], [(14, vi (0 : Int)), (13, vi ((1 : Int) * 2 ^ Int.toNat ((List.length x2 : Nat) : Int))), (6, vi ((List.length x2 : Nat) : Int)), (3, V.t (T.ptr [tl x0, ti x1])), (1, vl x2), (2, V.fn 42 [V.ref 500 0, V.ref 501 0])], [(500, oc 4 [tb x3]), (501, ov 29 [vbl ([] : List Bool)])]⟩) (by first | rfl | (simp only [tlS, tl, vl, vo, oc, ov, tbl, vbl, ty, vy] <;> rfl) | (simp <;> omega) | (simp []; done) | (rw [List.take_of_length_le (by simp [])] <;> rfl) | (simp [List.take_of_length_le]; done)) ?_
  refine WP.loop (α := Nat × Bool × (List Bool) × Int) (fun zz => ⟨[500, 501], [(14, vi zz.2.2.2), (13, vi ((1 : Int) * 2 ^ Int.toNat ((List.length x2 : Nat) : Int))), (6, vi ((List.length x2 : Nat) : Int)), (3, V.t (T.ptr [tl x0, ti x1])), (1, vl x2), (2, V.fn 42 [V.ref 500 0, V.ref 501 0])], [(500, oc 4 [tb zz.2.1]), (501, ov 29 [vbl zz.2.2.1])]⟩) (fun zz => F_impl_State_lists_42_L1 x0 x1 x2 zz.1 zz.2.1 zz.2.2.1 zz.2.2.2 = some (y0, y1)) (fun zz => zz.1) (fuel, x3, ([] : List Bool), (0 : Int)) h ?_
  rintro ⟨n, o500, o501, v14⟩ h0
  have h := (show F_impl_State_lists_42_L1 x0 x1 x2 n o500 o501 v14 = some (y0, y1) from h0)
  rcases n with _ | n
  · rw [F_impl_State_lists_42_L1] at h; cases h
  · rw [F_impl_State_lists_42_L1] at h
    refine WP.seq ?_
    refine WP.path tab_ok mixed [] [.keep [15, 14, 13, 6, 3, 1, 2], .keepO [500, 501]] (ps := [(True)]) (e := .normal) (σ' := ⟨[500, 501], [(15, vb (decide (v14 < ((1 : Int) * 2 ^ Int.toNat ((List.length x2 : Nat) : Int))))), (14, vi v14), (13, vi ((1 : Int) * 2 ^ Int.toNat ((List.length x2 : Nat) : Int))), (6, vi ((List.length x2 : Nat) : Int)), (3, V.t (T.ptr [tl x0, ti x1])), (1, vl x2), (2, V.fn 42 [V.ref 500 0, V.ref 501 0])], [(500, oc 4 [tb o500]), (501, ov 29 [vbl o501])]⟩) (by kernel_rfl) ⟨trivial, trivial⟩ ?_
    refine WP.seq ?_
    rcases ite_some h with ⟨h1, h⟩ | ⟨h1, h⟩
    · -- yes
      refine WP.cond (b := decide (v14 < ((1 : Int) * 2 ^ Int.toNat ((List.length x2 : Nat) : Int)))) rfl (fun _ => ?_) (fun hh => by rw [h1] at hh; cases hh)
      refine WP.path tab_ok mixed [] [.keep [14, 13, 6, 3, 1, 2], .keepO [500, 501]] (ps := []) (e := .normal) (σ' := ⟨[500, 501], [(14, vi v14), (13, vi ((1 : Int) * 2 ^ Int.toNat ((List.length x2 : Nat) : Int))), (6, vi ((List.length x2 : Nat) : Int)), (3, V.t (T.ptr [tl x0, ti x1])), (1, vl x2), (2, V.fn 42 [V.ref 500 0, V.ref 501 0])], [(500, oc 4 [tb o500]), (501, ov 29 [vbl o501])]⟩) (by kernel_rfl) trivial ?_
      obtain ⟨J1, hJ1, h⟩ := jn_some h
      refine WP.joinA (fun (zz : Bool × (List Bool)) => ⟨[500, 501], [(14, vi v14), (13, vi ((1 : Int) * 2 ^ Int.toNat ((List.length x2 : Nat) : Int))), (6, vi ((List.length x2 : Nat) : Int)), (3, V.t (T.ptr [tl x0, ti x1])), (1, vl x2), (2, V.fn 42 [V.ref 500 0, V.ref 501 0])], [(500, oc 4 [tb zz.1]), (501, ov 29 [vbl zz.2])]⟩) (fun zz => J1 zz.1 zz.2 = some (y0, y1)) ?_ ?_
      · -- to where they meet
        refine WP.block ?_
        refine WP.seq ?_
        refine WP.path tab_ok mixed [] [.keep [7, 14, 13, 6, 3, 1, 2], .keepO [500, 501]] (ps := []) (e := .normal) (σ' := ⟨[500, 501], [(7, vi v14), (14, vi v14), (13, vi ((1 : Int) * 2 ^ Int.toNat ((List.length x2 : Nat) : Int))), (6, vi ((List.length x2 : Nat) : Int)), (3, V.t (T.ptr [tl x0, ti x1])), (1, vl x2), (2, V.fn 42 [V.ref 500 0, V.ref 501 0])], [(500, oc 4 [tb o500]), (501, ov 29 [vbl o501])]⟩) (by kernel_rfl) trivial ?_
        refine WP.seq ?_
        refine WP.path tab_ok mixed [(17, An.id 2017)] [.keep [8, 7, 14, 13, 6, 3, 1, 2], .keepO [500, 501, 2017]] (ps := [(True), (0 = 0 * 1)]) (e := .normal) (σ' := ⟨[2017, 500, 501], [(8, vo 2017 0), (7, vi v14), (14, vi v14), (13, vi ((1 : Int) * 2 ^ Int.toNat ((List.length x2 : Nat) : Int))), (6, vi ((List.length x2 : Nat) : Int)), (3, V.t (T.ptr [tl x0, ti x1])), (1, vl x2), (2, V.fn 42 [V.ref 500 0, V.ref 501 0])], [(500, oc 4 [tb o500]), (501, ov 29 [vbl o501]), (2017, oc 4 [])]⟩) (by kernel_rfl) ⟨trivial, by decide, trivial⟩ ?_
        obtain ⟨J2, hJ2, h⟩ := jn_some h
        refine WP.joinA (fun (zz : (List Bool)) => ⟨[500, 501, 2017], [(8, vo 2017 (List.length zz)), (14, vi v14), (13, vi ((1 : Int) * 2 ^ Int.toNat ((List.length x2 : Nat) : Int))), (6, vi ((List.length x2 : Nat) : Int)), (3, V.t (T.ptr [tl x0, ti x1])), (1, vl x2), (2, V.fn 42 [V.ref 500 0, V.ref 501 0])], [(500, oc 4 [tb o500]), (501, ov 29 [vbl o501]), (2017, oc 4 (List.map T.bool zz))]⟩) (fun zz => J2 zz = some (y0, y1)) ?_ ?_
        · -- to where they meet
          refine WP.seq ?_
          refine WP.path tab_ok mixed [] [.keep [19, 18, 8, 7, 14, 13, 6, 3, 1, 2], .keepO [500, 501, 2017]] (ps := []) (e := .normal) (σ' := ⟨[2017, 500, 501], [(19, vi 0), (18, vi ((List.length x2 : Nat) : Int)), (8, vo 2017 0), (7, vi v14), (14, vi v14), (13, vi ((1 : Int) * 2 ^ Int.toNat ((List.length x2 : Nat) : Int))), (6, vi ((List.length x2 : Nat) : Int)), (3, V.t (T.ptr [tl x0, ti x1])), (1, vl x2), (2, V.fn 42 [V.ref 500 0, V.ref 501 0])], [(500, oc 4 [tb o500]), (501, ov 29 [vbl o501]), (2017, oc 4 [])]⟩) (by kernel_rfl) trivial ?_
          refine WP.block ?_
          refine WP.wk [.keep [19, 18, 8, 7, 14, 13, 6, 3, 1, 2], .keepO [500, 501, 2017], .names [(500, 500), (501, 501), (2017, 2017)]] (σ' := ⟨[500, 501, 2017], [(19, vi 0), (18, vi ((List.length x2 : Nat) : Int)), (8, vo 2017 0), (7, vi v14), (14, vi v14), (13, vi ((1 : Int) * 2 ^ Int.toNat ((List.length x2 : Nat) : Int))), (6, vi ((List.length x2 : Nat) : Int)), (3, V.t (T.ptr [tl x0, ti x1])), (1, vl x2), (2, V.fn 42 [V.ref 500 0, V.ref 501 0])], [(500, oc 4 [tb o500]), (501, ov 29 [vbl o501]), (2017, oc 4 [])]⟩) (ps := []) (by kernel_rfl) trivial ?_
          refine WP.st (σ' := ⟨[500, 501, 2017], [(19, vi (0 : Int)), (18, vi ((List.length x2 : Nat) : Int)), (8, vo 2017 (List.length ([] : List Bool))), (7, vi v14), (14, vi v14), (13, vi ((1 : Int) * 2 ^ Int.toNat ((List.length x2 : Nat) : Int))), (6, vi ((List.length x2 : Nat) : Int)), (3, V.t (T.ptr [tl x0, ti x1])), (1, vl x2), (2, V.fn 42 [V.ref 500 0, V.ref 501 0])], [(500, oc 4 [tb o500]), (501, ov 29 [vbl o501]), (2017, oc 4 (List.map T.bool ([] : List Bool)))]⟩) (by first | rfl | (simp only [tlS, tl, vl, vo, oc, ov, tbl, vbl, ty, vy] <;> rfl) | (simp <;> omega) | (simp []; done) | (rw [List.take_of_length_le (by simp [])] <;> rfl) | (simp [List.take_of_length_le]; done)) ?_
          refine WP.loop (α := Nat × (List Bool) × Int) (fun zz => ⟨[500, 501, 2017], [(19, vi zz.2.2), (18, vi ((List.length x2 : Nat) : Int)), (8, vo 2017 (List.length zz.2.1)), (7, vi v14), (14, vi v14), (13, vi ((1 : Int) * 2 ^ Int.toNat ((List.length x2 : Nat) : Int))), (6, vi ((List.length x2 : Nat) : Int)), (3, V.t (T.ptr [tl x0, ti x1])), (1, vl x2), (2, V.fn 42 [V.ref 500 0, V.ref 501 0])], [(500, oc 4 [tb o500]), (501, ov 29 [vbl o501]), (2017, oc 4 (List.map T.bool zz.2.1))]⟩) (fun zz => F_impl_State_lists_42_L2 x2 v14 J2 zz.1 zz.2.1 zz.2.2 = some (y0, y1)) (fun zz => zz.1) (fuel, ([] : List Bool), (0 : Int)) h ?_
          rintro ⟨n, o17, v19⟩ h0
          have h := (show F_impl_State_lists_42_L2 x2 v14 J2 n o17 v19 = some (y0, y1) from h0)
          rcases n with _ | n
          · rw [F_impl_State_lists_42_L2] at h; cases h
          · rw [F_impl_State_lists_42_L2] at h
            refine WP.seq ?_
            refine WP.path tab_ok mixed [] [.keep [20, 19, 18, 8, 7, 14, 13, 6, 3, 1, 2], .keepO [500, 501, 2017]] (ps := [(True)]) (e := .normal) (σ' := ⟨[500, 501, 2017], [(20, vb (decide (v19 < ((List.length x2 : Nat) : Int)))), (19, vi v19), (18, vi ((List.length x2 : Nat) : Int)), (8, vo 2017 (List.length o17)), (7, vi v14), (14, vi v14), (13, vi ((1 : Int) * 2 ^ Int.toNat ((List.length x2 : Nat) : Int))), (6, vi ((List.length x2 : Nat) : Int)), (3, V.t (T.ptr [tl x0, ti x1])), (1, vl x2), (2, V.fn 42 [V.ref 500 0, V.ref 501 0])], [(500, oc 4 [tb o500]), (501, ov 29 [vbl o501]), (2017, oc 4 (List.map T.bool o17))]⟩) (by kernel_rfl) ⟨trivial, trivial⟩ ?_
            refine WP.seq ?_
            rcases ite_some h with ⟨h2, h⟩ | ⟨h2, h⟩
            · -- yes
              refine WP.cond (b := decide (v19 < ((List.length x2 : Nat) : Int))) rfl (fun _ => ?_) (fun hh => by rw [h2] at hh; cases hh)
              refine WP.path tab_ok mixed [] [.keep [19, 18, 8, 7, 14, 13, 6, 3, 1, 2], .keepO [500, 501, 2017]] (ps := []) (e := .normal) (σ' := ⟨[500, 501, 2017], [(19, vi v19), (18, vi ((List.length x2 : Nat) : Int)), (8, vo 2017 (List.length o17)), (7, vi v14), (14, vi v14), (13, vi ((1 : Int) * 2 ^ Int.toNat ((List.length x2 : Nat) : Int))), (6, vi ((List.length x2 : Nat) : Int)), (3, V.t (T.ptr [tl x0, ti x1])), (1, vl x2), (2, V.fn 42 [V.ref 500 0, V.ref 501 0])], [(500, oc 4 [tb o500]), (501, ov 29 [vbl o501]), (2017, oc 4 (List.map T.bool o17))]⟩) (by kernel_rfl) trivial ?_
              refine WP.seq ?_
              refine WP.block ?_
              obtain ⟨c1, h⟩ := chk_some h
              obtain ⟨n25, c2, h⟩ := nam_some h
              obtain ⟨c3, h⟩ := chk_some h
              obtain ⟨c4, h⟩ := chk_some h
              obtain ⟨c5, h⟩ := chk_some h
              refine WP.path tab_ok mixed [(25, An.v (ti n25)), (27, An.v (T.int .i64 (n25 - v19))), (28, An.call (tb (hasB v14 (n25 - v19)))), (29, An.fz), (30, An.id 2030)] [.keep [8, 19, 18, 7, 14, 13, 6, 3, 1, 2], .keepO [500, 501, 2030]] (ps := [(True), (T.int .i64 (IntKind.wrap .i64 (((List.length x2 : Nat) : Int) - (1 : Int))) = ti n25), (True), (T.int .i64 (IntKind.wrap .i64 (n25 - v19)) = T.int .i64 (n25 - v19)), (C Try.prog 90 [ti v14, ti (n25 - v19)] (tb (hasB v14 (n25 - v19)))), ((1 = 1 ∧ 0 + 1 ≤ 1) ∧ True), (1 = 1 * 1), (True), (List.length (List.map T.bool o17) = (List.length o17) * 1), ((((List.length o17) + 1) * 1 ≤ 140737488355328 ∧ (List.length o17) + 1 ≤ maxLen))]) (e := .normal) (σ' := ⟨[2030, 500, 501, 2017], [(8, vo 2030 ((List.length o17) + 1)), (19, vi v19), (18, vi ((List.length x2 : Nat) : Int)), (7, vi v14), (14, vi v14), (13, vi ((1 : Int) * 2 ^ Int.toNat ((List.length x2 : Nat) : Int))), (6, vi ((List.length x2 : Nat) : Int)), (3, V.t (T.ptr [tl x0, ti x1])), (1, vl x2), (2, V.fn 42 [V.ref 500 0, V.ref 501 0])], [(500, oc 4 [tb o500]), (501, ov 29 [vbl o501]), (2030, oc 4 ((List.map T.bool o17) ++ [tb (hasB v14 (n25 - v19))]))]⟩) (by kernel_rfl) ⟨trivial, Eq.trans (wrapI c1) (congrArg (ti) c2), trivial, wrapI c3, (has_C v14 (n25 - v19) c4), ⟨⟨by first | rfl | (simp; done) | (simp []; done) | omega, by first | decide | (simp; done) | (simp []; done) | omega | (simp only [tlL]; omega) | (simp; omega)⟩, trivial⟩, by decide, trivial, by first | rfl | omega | (simp only [tlL] <;> omega) | (simp <;> omega) | (simp [] <;> omega), c5, trivial⟩ ?_
              obtain ⟨c6, h⟩ := chk_some h
              refine WP.path tab_ok mixed [(31, An.v (T.int .i64 (v19 + (1 : Int))))] [.keep [19, 18, 8, 7, 14, 13, 6, 3, 1, 2], .keepO [500, 501, 2030], .names [(500, 500), (501, 501), (2030, 2017)]] (ps := [(True), (T.int .i64 (IntKind.wrap .i64 (v19 + (1 : Int))) = T.int .i64 (v19 + (1 : Int)))]) (e := .normal) (σ' := ⟨[500, 501, 2017], [(19, vi (v19 + (1 : Int))), (18, vi ((List.length x2 : Nat) : Int)), (8, vo 2017 ((List.length o17) + 1)), (7, vi v14), (14, vi v14), (13, vi ((1 : Int) * 2 ^ Int.toNat ((List.length x2 : Nat) : Int))), (6, vi ((List.length x2 : Nat) : Int)), (3, V.t (T.ptr [tl x0, ti x1])), (1, vl x2), (2, V.fn 42 [V.ref 500 0, V.ref 501 0])], [(500, oc 4 [tb o500]), (501, ov 29 [vbl o501]), (2017, oc 4 ((List.map T.bool o17) ++ [tb (hasB v14 (n25 - v19))]))]⟩) (by kernel_rfl) ⟨trivial, wrapI c6, trivial⟩ ?_
              exact ⟨(n, o17 ++ [hasB v14 (n25 - v19)], (v19 + (1 : Int))), h, Nat.lt_succ_self _, (by first | rfl | (simp only [tlS, tl, vl, vo, oc, ov, tbl, vbl, ty, vy] <;> rfl) | (simp <;> omega) | (simp []; done) | (rw [List.take_of_length_le (by simp [])] <;> rfl) | (simp [List.take_of_length_le]; done))⟩
            · -- no
              refine WP.cond (b := decide (v19 < ((List.length x2 : Nat) : Int))) rfl (fun hh => by rw [h2] at hh; cases hh) (fun _ => ?_)
              refine WP.path tab_ok mixed [] [.keep [8, 14, 13, 6, 3, 1, 2], .keepO [500, 501, 2017], .names [(500, 500), (501, 501), (2017, 2017)]] (ps := []) (e := (.exit 2)) (σ' := ⟨[500, 501, 2017], [(8, vo 2017 (List.length o17)), (14, vi v14), (13, vi ((1 : Int) * 2 ^ Int.toNat ((List.length x2 : Nat) : Int))), (6, vi ((List.length x2 : Nat) : Int)), (3, V.t (T.ptr [tl x0, ti x1])), (1, vl x2), (2, V.fn 42 [V.ref 500 0, V.ref 501 0])], [(500, oc 4 [tb o500]), (501, ov 29 [vbl o501]), (2017, oc 4 (List.map T.bool o17))]⟩) (by kernel_rfl) trivial ?_
              exact ⟨(o17), h, rfl⟩
        · -- from there
          intro o17 h0
          have h := (show J2 o17 = some (y0, y1) from h0)
          rw [hJ2] at h
          refine WP.wk [.freeze 2017] (ps := [List.length (List.map T.bool o17) = (List.length o17) * 1]) (σ' := ⟨[500, 501, 2017], [(8, vbl o17), (14, vi v14), (13, vi ((1 : Int) * 2 ^ Int.toNat ((List.length x2 : Nat) : Int))), (6, vi ((List.length x2 : Nat) : Int)), (3, V.t (T.ptr [tl x0, ti x1])), (1, vl x2), (2, V.fn 42 [V.ref 500 0, V.ref 501 0])], [(500, oc 4 [tb o500]), (501, ov 29 [vbl o501])]⟩) (by kernel_rfl) ⟨by first | rfl | omega | (simp <;> omega) | (simp [hl] <;> omega), trivial⟩ ?_
          obtain ⟨r37, r37b, c1, h⟩ := bnd2_some h
          obtain ⟨c2, h⟩ := chk_some h
          obtain ⟨r40, r40b, c3, h⟩ := bnd2_some h
          refine WP.path tab_ok mixed [(37, An.callG [] [V.t (T.agg [tl x0, ti x1]), vl x2, vbl o17] [] (V.t (T.agg [tl r37, ti r37b])) []), (38, An.callG [(9000, 10380)] [V.t (T.agg [tl r37, ti r37b])] [] (vo 9000 (List.length (openN r37))) [(9000, oc 3 (List.map (T.int .i64) (openN r37)))]), (40, An.callG [(500, 500), (501, 501)] [vbl o17, vi ((List.length (openN r37) : Nat) : Int), V.ref 500 0, V.ref 501 0] [(500, oc 4 [tb o500]), (501, ov 29 [vbl o501])] (V.t (T.tup [])) [(500, oc 4 [tb r40]), (501, ov 29 [vbl r40b])])] [.keep [14, 13, 6, 3, 1, 2], .keepO [500, 501], .names [(500, 500), (501, 501)]] (ps := [(2 ≤ 2), (CG Try.prog 52 [V.t (T.agg [tl x0, ti x1]), vl x2, vbl o17] [] (V.t (T.agg [tl r37, ti r37b])) []), (WkT (T.agg [tl x0, ti x1]) (T.agg [tl x0, ti x1])), (WkT (tl x2) (tl x2)), (WkT (tbl o17) (tbl o17)), (CG Try.prog 57 [V.t (T.agg [tl r37, ti r37b])] [] (vo 9000 (List.length (openN r37))) [(9000, oc 3 (List.map (T.int .i64) (openN r37)))]), (WkT (T.agg [tl r37, ti r37b]) (T.agg [tl r37, ti r37b])), (CG Try.prog 42 [vbl o17, vi ((List.length (openN r37) : Nat) : Int), V.ref 500 0, V.ref 501 0] [(500, oc 4 [tb o500]), (501, ov 29 [vbl o501])] (V.t (T.tup [])) [(500, oc 4 [tb r40]), (501, ov 29 [vbl r40b])]), (WkT (tbl o17) (tbl o17)), (WkT (ti ((List.length (openN r37) : Nat) : Int)) (ti ((List.length (openN r37) : Nat) : Int))), ((V.ref 500 0).ren (renF [(500, 500), (501, 501)]) = V.ref 500 0), ((V.ref 501 0).ren (renF [(500, 500), (501, 501)]) = V.ref 501 0), ((oc 4 [tb o500]) = (oc 4 [tb o500]).ren (renF [(500, 500), (501, 501)])), ((ov 29 [vbl o501]) = (ov 29 [vbl o501]).ren (renF [(500, 500), (501, 501)]))]) (e := .normal) (σ' := ⟨[500, 501], [(14, vi v14), (13, vi ((1 : Int) * 2 ^ Int.toNat ((List.length x2 : Nat) : Int))), (6, vi ((List.length x2 : Nat) : Int)), (3, V.t (T.ptr [tl x0, ti x1])), (1, vl x2), (2, V.fn 42 [V.ref 500 0, V.ref 501 0])], [(500, oc 4 [tb r40]), (501, ov 29 [vbl r40b])]⟩) (by kernel_rfl) ⟨by decide, (F_impl_State_told_W x0 x1 x2 o17 r37 r37b c1), WkT.refl _, WkT.refl _, WkT.refl _, (open_C_G r37 r37b c2), WkT.refl _, (F_impl_FirstHolding_1_W o17 ((List.length (openN r37) : Nat) : Int) o500 o501 r40 r40b c3), WkT.refl _, WkT.refl _, by first | rfl | (simp [V.ren, V.renL, renF, lk]; done) | (simp [V.ren, V.renL, renF, lk]; omega), by first | rfl | (simp [V.ren, V.renL, renF, lk]; done) | (simp [V.ren, V.renL, renF, lk]; omega), by first | rfl | (simp only [tlS]; rfl) | (simp [Tl.Obj.ren, V.ren, V.renL, renF, lk]; done), by first | rfl | (simp only [tlS]; rfl) | (simp [Tl.Obj.ren, V.ren, V.renL, renF, lk]; done), trivial⟩ ?_
          exact ⟨(r40, r40b), h, rfl⟩
      · -- from there
        rintro ⟨o500b, o501b⟩ h0
        have h := (show J1 o500b o501b = some (y0, y1) from h0)
        rw [hJ1] at h
        obtain ⟨c1, h⟩ := chk_some h
        refine WP.path tab_ok mixed [(41, An.v (T.int .i64 (v14 + (1 : Int))))] [.keep [14, 13, 6, 3, 1, 2], .keepO [500, 501], .names [(500, 500), (501, 501)]] (ps := [(True), (T.int .i64 (IntKind.wrap .i64 (v14 + (1 : Int))) = T.int .i64 (v14 + (1 : Int)))]) (e := .normal) (σ' := ⟨[500, 501], [(14, vi (v14 + (1 : Int))), (13, vi ((1 : Int) * 2 ^ Int.toNat ((List.length x2 : Nat) : Int))), (6, vi ((List.length x2 : Nat) : Int)), (3, V.t (T.ptr [tl x0, ti x1])), (1, vl x2), (2, V.fn 42 [V.ref 500 0, V.ref 501 0])], [(500, oc 4 [tb o500b]), (501, ov 29 [vbl o501b])]⟩) (by kernel_rfl) ⟨trivial, wrapI c1, trivial⟩ ?_
        exact ⟨(n, o500b, o501b, (v14 + (1 : Int))), h, Nat.lt_succ_self _, rfl⟩
    · -- no
      refine WP.cond (b := decide (v14 < ((1 : Int) * 2 ^ Int.toNat ((List.length x2 : Nat) : Int)))) rfl (fun hh => by rw [h1] at hh; cases hh) (fun _ => ?_)
      simp only [Option.some.injEq, Prod.mk.injEq] at h
      obtain ⟨rfl, rfl⟩ := h
      exact WP.pathGx 0 tab_ok mixed [] [.keep [], .keepO [500, 501], .names [(500, 500), (501, 501)]] [500, 501] _ (r' := V.t (T.tup [])) (ps := []) (r := V.t (T.tup [])) (N := [500, 501]) (O := [(500, oc 4 [tb o500]), (501, ov 29 [vbl o501])]) [] (by kernel_rfl) trivial ⟨(WkT.refl _), trivial⟩ rfl rfl (fun _ h => h)
theorem F_impl_FirstHolding_W (x0 : List Int) (x1 : Int) (x2 : List Int) (y0 : List Bool) (y1 : Bool) (h : F_impl_FirstHolding x0 x1 x2 = some (y0, y1)) : CG Try.prog 7 [V.t (T.agg [tl x0, ti x1]), vl x2] [] (V.t (T.tup [tbl y0, tb y1])) [] := by
  unfold F_impl_FirstHolding at h
  refine CG.intro (tab := tab) tab_ok (fn := Try.f7) Try.func7 (by kernel_rfl) rfl (Nat.le_of_ble_eq_true rfl) (by kernel_rfl) ?_
  refine WP.seq ?_
  refine WP.path tab_ok mixed [(2, An.fz)] [.keep [5, 4, 2, 1], .keepO []] (ps := []) (e := .normal) (σ' := ⟨[], [(5, vb false), (4, V.t (T.nils)), (2, V.t (T.ptr [tl x0, ti x1])), (1, vl x2)], []⟩) (by kernel_rfl) trivial ?_
  refine WP.seq ?_
  refine WP.seq ?_
  obtain ⟨r10, c0, h⟩ := bnd1_some h
  refine WP.path tab_ok mixed [(10, An.call (tb r10))] [.keep [11, 5, 4, 2, 1], .keepO []] (ps := [(2 ≤ 2), (C Try.prog 40 [T.agg [tl x0, ti x1], tl x2] (tb r10))]) (e := .normal) (σ' := ⟨[], [(11, vb (!r10)), (5, vb false), (4, V.t (T.nils)), (2, V.t (T.ptr [tl x0, ti x1])), (1, vl x2)], []⟩) (by kernel_rfl) ⟨by decide, (F_impl_areListed_W x0 x1 x2 r10 c0), trivial⟩ ?_
  rcases ite_some h with ⟨h1, h⟩ | ⟨h1, h⟩
  · -- yes
    refine WP.cond (b := !r10) rfl (fun _ => ?_) (fun hh => by rw [h1] at hh; cases hh)
    simp only [Option.some.injEq, Prod.mk.injEq] at h
    obtain ⟨rfl, rfl⟩ := h
    exact WP.pathG tab_ok mixed [] [.keep [4, 5], .keepO [], .names []] [] _ (r' := V.t (T.tup [tbl [], tb false])) (ps := []) (r := V.t (T.tup [T.nils, tb false])) (N := []) (O := []) [] (by kernel_rfl) trivial ⟨(WkT.tup (WkL.cons (WkT.nil _) (WkL.cons (WkT.refl _) WkL.nil))), trivial⟩ rfl rfl (fun _ h => h)
  · -- no
    refine WP.cond (b := !r10) rfl (fun hh => by rw [h1] at hh; cases hh) (fun _ => ?_)
    refine WP.path tab_ok mixed [] [.keep [5, 4, 2, 1], .keepO []] (ps := []) (e := .normal) (σ' := ⟨[], [(5, vb false), (4, V.t (T.nils)), (2, V.t (T.ptr [tl x0, ti x1])), (1, vl x2)], []⟩) (by kernel_rfl) trivial ?_
    obtain ⟨r15, r15b, c1, h⟩ := bnd2_some h
    simp only [Option.some.injEq, Prod.mk.injEq] at h
    obtain ⟨rfl, rfl⟩ := h
    exact WP.pathG tab_ok mixed [(6, An.id 2006), (7, An.id 2007), (15, An.callG [(500, 2007), (501, 2006)] [V.t (T.agg [tl x0, ti x1]), vl x2, V.fn 42 [V.ref 500 0, V.ref 501 0]] [(500, oc 4 [tb false]), (501, oc 29 [T.nils])] (V.t (T.tup [])) [(500, oc 4 [tb r15]), (501, ov 29 [vbl r15b])])] [.keep [4, 5], .keepO [], .names []] [] _ (r' := V.t (T.tup [tbl r15b, tb r15])) (ps := [(0 < 1), (0 < 1), (2 ≤ 2), (CG Try.prog 41 [V.t (T.agg [tl x0, ti x1]), vl x2, V.fn 42 [V.ref 500 0, V.ref 501 0]] [(500, oc 4 [tb false]), (501, oc 29 [T.nils])] (V.t (T.tup [])) [(500, oc 4 [tb r15]), (501, ov 29 [vbl r15b])]), (WkT (T.agg [tl x0, ti x1]) (T.agg [tl x0, ti x1])), (WkT (tl x2) (tl x2)), ((V.fn 42 [V.ref 500 0, V.ref 501 0]).ren (renF [(500, 2007), (501, 2006)]) = V.fn 42 [V.ref 2007 0, V.ref 2006 0]), ((oc 4 [tb false]) = (oc 4 [tb false]).ren (renF [(500, 2007), (501, 2006)])), ((oc 29 [T.nils]) = (oc 29 [T.nils]).ren (renF [(500, 2007), (501, 2006)])), (True), (True)]) (r := V.t (T.tup [tbl r15b, tb r15])) (N := []) (O := []) [] (by kernel_rfl) ⟨by decide, by decide, by decide, (F_impl_State_lists_42_W x0 x1 x2 false r15 r15b c1), WkT.refl _, WkT.refl _, by first | rfl | (simp [V.ren, V.renL, renF, lk]; done) | (simp [V.ren, V.renL, renF, lk]; omega), by first | rfl | (simp only [tlS]; rfl) | (simp [Tl.Obj.ren, V.ren, V.renL, renF, lk]; done), by first | rfl | (simp only [tlS]; rfl) | (simp [Tl.Obj.ren, V.ren, V.renL, renF, lk]; done), trivial, trivial, trivial⟩ ⟨(WkT.refl _), trivial⟩ rfl rfl (fun _ h => h)
theorem F_impl_FirstHolding_W_C (x0 : List Int) (x1 : Int) (x2 : List Int) (y0 : List Bool) (y1 : Bool) (h : F_impl_FirstHolding x0 x1 x2 = some (y0, y1)) : C Try.prog 7 [T.agg [tl x0, ti x1], tl x2] (T.tup [tbl y0, tb y1]) :=
  CG.toC (ps := []) (F_impl_FirstHolding_W  x0 x1 x2 y0 y1 h) (by rfl) trivial
theorem F_spec_l8Good_W (x0 : List Int) (x1 : Int) (x2 : List Int) (y0 : Bool) (h : F_spec_l8Good x0 x1 x2 = some y0) : C Try.prog 43 [T.agg [tl x0, ti x1], tl x2] (tb y0) := by
  unfold F_spec_l8Good at h
  refine C.intro (tab := tab) tab_ok (fn := Try.f43) Try.func43 (by kernel_rfl) rfl (Nat.le_of_ble_eq_true rfl) ?_
  refine WP.seq ?_
  refine WP.path tab_ok mixed [(2, An.fz)] [.keep [4, 2, 1], .keepO []] (ps := []) (e := .normal) (σ' := ⟨[], [(4, vb false), (2, V.t (T.ptr [tl x0, ti x1])), (1, vl x2)], []⟩) (by kernel_rfl) trivial ?_
  refine WP.seq ?_
  obtain ⟨J1, hJ1, h⟩ := jn_some h
  refine WP.joinA (fun (zz : Bool) => ⟨[], [(13, vb zz), (4, vb false), (2, V.t (T.ptr [tl x0, ti x1])), (1, vl x2)], []⟩) (fun zz => J1 zz = some y0) ?_ ?_
  · -- to where they meet
    obtain ⟨c0, h⟩ := chk_some h
    rcases ite_some h with ⟨h1, h⟩ | ⟨h1, h⟩
    · -- yes
      refine WP.path tab_ok mixed [(7, An.call (tb (isStateN x0 x1))), (9, An.b true)] [.keep [13, 4, 2, 1], .keepO [], .names []] (ps := [(2 ≤ 2), (C Try.prog 64 [T.agg [tl x0, ti x1]] (tb (isStateN x0 x1))), ((!(isStateN x0 x1)) = true)]) (e := .normal) (σ' := ⟨[], [(13, vb true), (4, vb false), (2, V.t (T.ptr [tl x0, ti x1])), (1, vl x2)], []⟩) (by kernel_rfl) ⟨by decide, (l2State_C x0 x1 c0), h1, trivial⟩ ?_
      exact ⟨(true), h, rfl⟩
    · -- no
      refine WP.path tab_ok mixed [(7, An.call (tb (isStateN x0 x1))), (9, An.b false)] [.keep [13, 4, 2, 1], .keepO [], .names []] (ps := [(2 ≤ 2), (C Try.prog 64 [T.agg [tl x0, ti x1]] (tb (isStateN x0 x1))), ((!(isStateN x0 x1)) = false), (True)]) (e := .normal) (σ' := ⟨[], [(13, vb (decide (((List.length x2 : Nat) : Int) > (8 : Int)))), (4, vb false), (2, V.t (T.ptr [tl x0, ti x1])), (1, vl x2)], []⟩) (by kernel_rfl) ⟨by decide, (l2State_C x0 x1 c0), h1, trivial, trivial⟩ ?_
      exact ⟨(decide (((List.length x2 : Nat) : Int) > (8 : Int))), h, rfl⟩
  · -- from there
    intro v13 h0
    have h := (show J1 v13 = some y0 from h0)
    rw [hJ1] at h
    rcases ite_some h with ⟨h2, h⟩ | ⟨h2, h⟩
    · -- yes
      refine WP.cond (b := v13) rfl (fun _ => ?_) (fun hh => by rw [h2] at hh; cases hh)
      have h := Option.some.inj h
      subst h
      exact WP.pathW tab_ok mixed [] _ (ps := []) (r := tb false) (by kernel_rfl) trivial (WkT.eq (y := tb false) (WkT.refl _) rfl) (fun _ h => h)
    · -- no
      refine WP.cond (b := v13) rfl (fun hh => by rw [h2] at hh; cases hh) (fun _ => ?_)
      refine WP.path tab_ok mixed [] [.keep [4, 2, 1], .keepO []] (ps := []) (e := .normal) (σ' := ⟨[], [(4, vb false), (2, V.t (T.ptr [tl x0, ti x1])), (1, vl x2)], []⟩) (by kernel_rfl) trivial ?_
      obtain ⟨J1, hJ1, h⟩ := jn_some h
      refine WP.joinA (fun (zz : Unit) => ⟨[], [(4, vb false)], []⟩) (fun zz => J1 () = some y0) ?_ ?_
      · -- to where they meet
        refine WP.seq ?_
        refine WP.path tab_ok mixed [] [.keep [5, 4, 2, 1], .keepO []] (ps := []) (e := .normal) (σ' := ⟨[], [(5, vi 0), (4, vb false), (2, V.t (T.ptr [tl x0, ti x1])), (1, vl x2)], []⟩) (by kernel_rfl) trivial ?_
        refine WP.block ?_
        refine WP.wk [.keep [5, 4, 2, 1], .keepO [], .names []] (σ' := ⟨[], [(5, vi 0), (4, vb false), (2, V.t (T.ptr [tl x0, ti x1])), (1, vl x2)], []⟩) (ps := []) (by kernel_rfl) trivial ?_
        refine WP.st (σ' := ⟨[], [(5, vi (0 : Int)), (4, vb false), (2, V.t (T.ptr [tl x0, ti x1])), (1, vl x2)], []⟩) (by first | rfl | (simp only [tlS, tl, vl, vo, oc, ov, tbl, vbl, ty, vy] <;> rfl) | (simp <;> omega) | (simp []; done) | (rw [List.take_of_length_le (by simp [])] <;> rfl) | (simp [List.take_of_length_le]; done)) ?_
        refine WP.loop (α := Nat × Int) (fun zz => ⟨[], [(5, vi zz.2), (4, vb false), (2, V.t (T.ptr [tl x0, ti x1])), (1, vl x2)], []⟩) (fun zz => F_spec_l8Good_L1 x0 x2 J1 zz.1 zz.2 = some y0) (fun zz => zz.1) (fuel, (0 : Int)) h ?_
        rintro ⟨n, v5⟩ h0
        have h := (show F_spec_l8Good_L1 x0 x2 J1 n v5 = some y0 from h0)
        rcases n with _ | n
        · rw [F_spec_l8Good_L1] at h; cases h
        · rw [F_spec_l8Good_L1] at h
          refine WP.seq ?_
          refine WP.seq ?_
          refine WP.path tab_ok mixed [] [.keep [17, 5, 4, 2, 1], .keepO []] (ps := [(True)]) (e := .normal) (σ' := ⟨[], [(17, vb (decide (v5 < ((List.length x2 : Nat) : Int)))), (5, vi v5), (4, vb false), (2, V.t (T.ptr [tl x0, ti x1])), (1, vl x2)], []⟩) (by kernel_rfl) ⟨trivial, trivial⟩ ?_
          rcases ite_some h with ⟨h3, h⟩ | ⟨h3, h⟩
          · -- yes
            refine WP.cond (b := decide (v5 < ((List.length x2 : Nat) : Int))) rfl (fun _ => ?_) (fun hh => by rw [h3] at hh; cases hh)
            refine WP.path tab_ok mixed [] [.keep [5, 4, 2, 1], .keepO []] (ps := []) (e := .normal) (σ' := ⟨[], [(5, vi v5), (4, vb false), (2, V.t (T.ptr [tl x0, ti x1])), (1, vl x2)], []⟩) (by kernel_rfl) trivial ?_
            refine WP.seq ?_
            refine WP.block ?_
            refine WP.seq ?_
            obtain ⟨c0, h⟩ := chk_some h
            obtain ⟨c1, h⟩ := chk_some h
            refine WP.path tab_ok mixed [(24, An.v (ti (List.getD x2 (Int.toNat v5) 0))), (25, An.call (tb (isQ ((List.length x0 : Nat) : Int) (List.getD x2 (Int.toNat v5) 0))))] [.keep [26, 5, 4, 2, 1], .keepO []] (ps := [(2 ≤ 2), ((0 ≤ v5 ∧ v5 < ((List.length x2 : Nat) : Int))), ((List.drop ((Int.toNat v5) * 1) (List.map (T.int .i64) x2) : List T)[0]? = some (ti (List.getD x2 (Int.toNat v5) 0))), (ti (List.getD x2 (Int.toNat v5) 0) = ti (List.getD x2 (Int.toNat v5) 0)), (C Try.prog 73 [T.agg [tl x0, ti x1], ti (List.getD x2 (Int.toNat v5) 0)] (tb (isQ ((List.length x0 : Nat) : Int) (List.getD x2 (Int.toNat v5) 0))))]) (e := .normal) (σ' := ⟨[], [(26, vb (!(isQ ((List.length x0 : Nat) : Int) (List.getD x2 (Int.toNat v5) 0)))), (5, vi v5), (4, vb false), (2, V.t (T.ptr [tl x0, ti x1])), (1, vl x2)], []⟩) (by kernel_rfl) ⟨by decide, c0, at1 (by simp) (by omega), rfl, (l2Question_C x0 x1 (List.getD x2 (Int.toNat v5) 0) c1), trivial⟩ ?_
            rcases ite_some h with ⟨h4, h⟩ | ⟨h4, h⟩
            · -- yes
              refine WP.cond (b := !(isQ ((List.length x0 : Nat) : Int) (List.getD x2 (Int.toNat v5) 0))) rfl (fun _ => ?_) (fun hh => by rw [h4] at hh; cases hh)
              have h := Option.some.inj h
              subst h
              exact WP.pathW tab_ok mixed [] _ (ps := []) (r := tb false) (by kernel_rfl) trivial (WkT.eq (y := tb false) (WkT.refl _) rfl) (fun _ h => h)
            · -- no
              refine WP.cond (b := !(isQ ((List.length x0 : Nat) : Int) (List.getD x2 (Int.toNat v5) 0))) rfl (fun hh => by rw [h4] at hh; cases hh) (fun _ => ?_)
              refine WP.path tab_ok mixed [] [.keep [5, 4, 2, 1], .keepO []] (ps := []) (e := .normal) (σ' := ⟨[], [(5, vi v5), (4, vb false), (2, V.t (T.ptr [tl x0, ti x1])), (1, vl x2)], []⟩) (by kernel_rfl) trivial ?_
              obtain ⟨c2, h⟩ := chk_some h
              refine WP.path tab_ok mixed [(19, An.v (T.int .i64 (v5 + (1 : Int))))] [.keep [5, 4, 2, 1], .keepO [], .names []] (ps := [(True), (T.int .i64 (IntKind.wrap .i64 (v5 + (1 : Int))) = T.int .i64 (v5 + (1 : Int)))]) (e := .normal) (σ' := ⟨[], [(5, vi (v5 + (1 : Int))), (4, vb false), (2, V.t (T.ptr [tl x0, ti x1])), (1, vl x2)], []⟩) (by kernel_rfl) ⟨trivial, wrapI c2, trivial⟩ ?_
              exact ⟨(n, (v5 + (1 : Int))), h, Nat.lt_succ_self _, rfl⟩
          · -- no
            refine WP.cond (b := decide (v5 < ((List.length x2 : Nat) : Int))) rfl (fun hh => by rw [h3] at hh; cases hh) (fun _ => ?_)
            refine WP.path tab_ok mixed [] [.keep [4], .keepO [], .names []] (ps := []) (e := (.exit 0)) (σ' := ⟨[], [(4, vb false)], []⟩) (by kernel_rfl) trivial ?_
            exact ⟨(), h, rfl⟩
      · -- from there
        intro _ h0
        have h := (show J1 () = some y0 from h0)
        rw [hJ1] at h
        have h := Option.some.inj h
        subst h
        exact WP.pathW tab_ok mixed [] _ (ps := []) (r := tb true) (by kernel_rfl) trivial (WkT.eq (y := tb true) (WkT.refl _) rfl) (fun _ h => h)
theorem F_spec_l8Answers_W (x0 : Int) (x1 : Int) (y0 : List Bool) (h : F_spec_l8Answers x0 x1 = some y0) : CG Try.prog 45 [vi x0, vi x1] [] (vo 9000 (List.length y0)) [(9000, oc 4 (List.map T.bool y0))] := by
  unfold F_spec_l8Answers at h
  refine CG.intro (tab := tab) tab_ok (fn := Try.f45) Try.func45 (by kernel_rfl) rfl (Nat.le_of_ble_eq_true rfl) (by kernel_rfl) ?_
  refine WP.seq ?_
  refine WP.path tab_ok mixed [] [.keep [4, 0, 1], .keepO []] (ps := []) (e := .normal) (σ' := ⟨[], [(4, V.t (T.nils)), (0, vi x0), (1, vi x1)], []⟩) (by kernel_rfl) trivial ?_
  refine WP.seq ?_
  refine WP.path tab_ok mixed [(7, An.id 2007)] [.keep [5, 4, 0, 1], .keepO [2007]] (ps := [(True), (0 = 0 * 1)]) (e := .normal) (σ' := ⟨[2007], [(5, vo 2007 0), (4, V.t (T.nils)), (0, vi x0), (1, vi x1)], [(2007, oc 4 [])]⟩) (by kernel_rfl) ⟨trivial, by decide, trivial⟩ ?_
  obtain ⟨J1, hJ1, h⟩ := jn_some h
  refine WP.joinA (fun (zz : (List Bool)) => ⟨[2007], [(5, vo 2007 (List.length zz)), (4, V.t (T.nils))], [(2007, oc 4 (List.map T.bool zz))]⟩) (fun zz => J1 zz = some y0) ?_ ?_
  · -- to where they meet
    refine WP.seq ?_
    obtain ⟨c0, h⟩ := chk_some h
    refine WP.path tab_ok mixed [(9, An.v (T.int .i64 (x1 - (1 : Int))))] [.keep [6, 5, 4, 0], .keepO [2007]] (ps := [(True), (T.int .i64 (IntKind.wrap .i64 (x1 - (1 : Int))) = T.int .i64 (x1 - (1 : Int)))]) (e := .normal) (σ' := ⟨[2007], [(6, vi (x1 - (1 : Int))), (5, vo 2007 0), (4, V.t (T.nils)), (0, vi x0)], [(2007, oc 4 [])]⟩) (by kernel_rfl) ⟨trivial, wrapI c0, trivial⟩ ?_
    refine WP.block ?_
    refine WP.wk [.keep [6, 5, 4, 0], .keepO [2007], .names [(2007, 2007)]] (σ' := ⟨[2007], [(6, vi (x1 - (1 : Int))), (5, vo 2007 0), (4, V.t (T.nils)), (0, vi x0)], [(2007, oc 4 [])]⟩) (ps := []) (by kernel_rfl) trivial ?_
    refine WP.st (σ' := ⟨[2007], [(6, vi (x1 - (1 : Int))), (5, vo 2007 (List.length ([] : List Bool))), (4, V.t (T.nils)), (0, vi x0)], [(2007, oc 4 (List.map T.bool ([] : List Bool)))]⟩) (by first | rfl | (simp only [tlS, tl, vl, vo, oc, ov, tbl, vbl, ty, vy] <;> rfl) | (simp <;> omega) | (simp []; done) | (rw [List.take_of_length_le (by simp [])] <;> rfl) | (simp [List.take_of_length_le]; done)) ?_
    refine WP.loop (α := Nat × (List Bool) × Int) (fun zz => ⟨[2007], [(6, vi zz.2.2), (5, vo 2007 (List.length zz.2.1)), (4, V.t (T.nils)), (0, vi x0)], [(2007, oc 4 (List.map T.bool zz.2.1))]⟩) (fun zz => F_spec_l8Answers_L1 x0 J1 zz.1 zz.2.1 zz.2.2 = some y0) (fun zz => zz.1) (fuel, ([] : List Bool), (x1 - (1 : Int))) h ?_
    rintro ⟨n, o7, v6⟩ h0
    have h := (show F_spec_l8Answers_L1 x0 J1 n o7 v6 = some y0 from h0)
    rcases n with _ | n
    · rw [F_spec_l8Answers_L1] at h; cases h
    · rw [F_spec_l8Answers_L1] at h
      refine WP.seq ?_
      refine WP.seq ?_
      refine WP.path tab_ok mixed [] [.keep [11, 6, 5, 4, 0], .keepO [2007]] (ps := [(True)]) (e := .normal) (σ' := ⟨[2007], [(11, vb (decide (v6 ≥ (0 : Int)))), (6, vi v6), (5, vo 2007 (List.length o7)), (4, V.t (T.nils)), (0, vi x0)], [(2007, oc 4 (List.map T.bool o7))]⟩) (by kernel_rfl) ⟨trivial, trivial⟩ ?_
      rcases ite_some h with ⟨h1, h⟩ | ⟨h1, h⟩
      · -- yes
        refine WP.cond (b := decide (v6 ≥ (0 : Int))) rfl (fun _ => ?_) (fun hh => by rw [h1] at hh; cases hh)
        refine WP.path tab_ok mixed [] [.keep [6, 5, 4, 0], .keepO [2007]] (ps := []) (e := .normal) (σ' := ⟨[2007], [(6, vi v6), (5, vo 2007 (List.length o7)), (4, V.t (T.nils)), (0, vi x0)], [(2007, oc 4 (List.map T.bool o7))]⟩) (by kernel_rfl) trivial ?_
        refine WP.seq ?_
        refine WP.block ?_
        obtain ⟨c1, h⟩ := chk_some h
        obtain ⟨n18, c2, h⟩ := nam_some h
        obtain ⟨c3, h⟩ := chk_some h
        refine WP.path tab_ok mixed [(17, An.v (T.int .i64 (x0 / 2 ^ Int.toNat v6))), (18, An.v (ti n18)), (20, An.fz), (21, An.id 2021)] [.keep [5, 6, 4, 0], .keepO [2021]] (ps := [(0 ≤ v6), (T.int .i64 (Int.fdiv x0 (2 ^ (min (Int.toNat v6) 64))) = T.int .i64 (x0 / 2 ^ Int.toNat v6)), (True), (ti (bits .and .i64 (x0 / 2 ^ Int.toNat v6) (1 : Int)) = ti n18), (True), ((1 = 1 ∧ 0 + 1 ≤ 1) ∧ True), (1 = 1 * 1), (True), (List.length (List.map T.bool o7) = (List.length o7) * 1), ((((List.length o7) + 1) * 1 ≤ 140737488355328 ∧ (List.length o7) + 1 ≤ maxLen))]) (e := .normal) (σ' := ⟨[2021, 2007], [(5, vo 2021 ((List.length o7) + 1)), (6, vi v6), (4, V.t (T.nils)), (0, vi x0)], [(2021, oc 4 ((List.map T.bool o7) ++ [tb (n18 == (1 : Int))]))]⟩) (by kernel_rfl) ⟨c1.1, shr_told c1, trivial, congrArg (ti) c2, trivial, ⟨⟨by first | rfl | (simp; done) | (simp []; done) | omega, by first | decide | (simp; done) | (simp []; done) | omega | (simp only [tlL]; omega) | (simp; omega)⟩, trivial⟩, by decide, trivial, by first | rfl | omega | (simp only [tlL] <;> omega) | (simp <;> omega) | (simp [] <;> omega), c3, trivial⟩ ?_
        obtain ⟨c4, h⟩ := chk_some h
        refine WP.path tab_ok mixed [(13, An.v (T.int .i64 (v6 - (1 : Int))))] [.keep [6, 5, 4, 0], .keepO [2021], .names [(2021, 2007)]] (ps := [(True), (T.int .i64 (IntKind.wrap .i64 (v6 - (1 : Int))) = T.int .i64 (v6 - (1 : Int)))]) (e := .normal) (σ' := ⟨[2007], [(6, vi (v6 - (1 : Int))), (5, vo 2007 ((List.length o7) + 1)), (4, V.t (T.nils)), (0, vi x0)], [(2007, oc 4 ((List.map T.bool o7) ++ [tb (n18 == (1 : Int))]))]⟩) (by kernel_rfl) ⟨trivial, wrapI c4, trivial⟩ ?_
        exact ⟨(n, o7 ++ [n18 == (1 : Int)], (v6 - (1 : Int))), h, Nat.lt_succ_self _, (by first | rfl | (simp only [tlS, tl, vl, vo, oc, ov, tbl, vbl, ty, vy] <;> rfl) | (simp <;> omega) | (simp []; done) | (rw [List.take_of_length_le (by simp [])] <;> rfl) | (simp [List.take_of_length_le]; done))⟩
      · -- no
        refine WP.cond (b := decide (v6 ≥ (0 : Int))) rfl (fun hh => by rw [h1] at hh; cases hh) (fun _ => ?_)
        refine WP.path tab_ok mixed [] [.keep [5, 4], .keepO [2007], .names [(2007, 2007)]] (ps := []) (e := (.exit 0)) (σ' := ⟨[2007], [(5, vo 2007 (List.length o7)), (4, V.t (T.nils))], [(2007, oc 4 (List.map T.bool o7))]⟩) (by kernel_rfl) trivial ?_
        exact ⟨(o7), h, rfl⟩
  · -- from there
    intro o7 h0
    have h := (show J1 o7 = some y0 from h0)
    rw [hJ1] at h
    have h := Option.some.inj h
    subst h
    exact WP.pathG tab_ok mixed [] [.keep [4], .keepO [2007], .names [(2007, 9000)]] [9000] _ (r' := vo 9000 (List.length o7)) (ps := []) (r := vo 9000 (List.length o7)) (N := [9000]) (O := [(9000, oc 4 (List.map T.bool o7))]) [] (by kernel_rfl) trivial ⟨rfl, trivial⟩ rfl rfl (fun _ h => h)
theorem F_spec_l8Answers_W_C (x0 : Int) (x1 : Int) (y0 : List Bool) (h : F_spec_l8Answers x0 x1 = some y0) : C Try.prog 45 [ti x0, ti x1] (tbl y0) :=
  CG.toC (ps := [(List.length (List.map T.bool y0) = (List.length y0) * 1)]) (F_spec_l8Answers_W  x0 x1 y0 h) (by rfl) ⟨by first | rfl | omega | (simp <;> omega) | (simp [hl] <;> omega), trivial⟩
theorem F_spec_l2Open_W (x0 : List Int) (x1 : Int) (y0 : List Int) (h : F_spec_l2Open x0 x1 = some y0) : CG Try.prog 66 [V.t (T.agg [tl x0, ti x1])] [] (vo 9000 (List.length y0)) [(9000, oc 3 (List.map (T.int .i64) y0))] := by
  unfold F_spec_l2Open at h
  refine CG.intro (tab := tab) tab_ok (fn := Try.f66) Try.func66 (by kernel_rfl) rfl (Nat.le_of_ble_eq_true rfl) (by kernel_rfl) ?_
  refine WP.seq ?_
  refine WP.path tab_ok mixed [(1, An.fz)] [.keep [2, 1], .keepO []] (ps := []) (e := .normal) (σ' := ⟨[], [(2, V.t (T.nils)), (1, V.t (T.ptr [tl x0, ti x1]))], []⟩) (by kernel_rfl) trivial ?_
  refine WP.seq ?_
  refine WP.path tab_ok mixed [(5, An.id 2005)] [.keep [3, 2, 1], .keepO [2005]] (ps := [(True), (0 = 0 * 1)]) (e := .normal) (σ' := ⟨[2005], [(3, vo 2005 0), (2, V.t (T.nils)), (1, V.t (T.ptr [tl x0, ti x1]))], [(2005, oc 3 [])]⟩) (by kernel_rfl) ⟨trivial, by decide, trivial⟩ ?_
  obtain ⟨J1, hJ1, h⟩ := jn_some h
  refine WP.joinA (fun (zz : (List Int)) => ⟨[2005], [(3, vo 2005 (List.length zz)), (2, V.t (T.nils))], [(2005, oc 3 (List.map (T.int .i64) zz))]⟩) (fun zz => J1 zz = some y0) ?_ ?_
  · -- to where they meet
    refine WP.seq ?_
    refine WP.path tab_ok mixed [] [.keep [4, 3, 2, 1], .keepO [2005]] (ps := []) (e := .normal) (σ' := ⟨[2005], [(4, vi 0), (3, vo 2005 0), (2, V.t (T.nils)), (1, V.t (T.ptr [tl x0, ti x1]))], [(2005, oc 3 [])]⟩) (by kernel_rfl) trivial ?_
    refine WP.block ?_
    refine WP.wk [.keep [4, 3, 2, 1], .keepO [2005], .names [(2005, 2005)]] (σ' := ⟨[2005], [(4, vi 0), (3, vo 2005 0), (2, V.t (T.nils)), (1, V.t (T.ptr [tl x0, ti x1]))], [(2005, oc 3 [])]⟩) (ps := []) (by kernel_rfl) trivial ?_
    refine WP.st (σ' := ⟨[2005], [(4, vi (0 : Int)), (3, vo 2005 (List.length ([] : List Int))), (2, V.t (T.nils)), (1, V.t (T.ptr [tl x0, ti x1]))], [(2005, oc 3 (List.map (T.int .i64) ([] : List Int)))]⟩) (by first | rfl | (simp only [tlS, tl, vl, vo, oc, ov, tbl, vbl, ty, vy] <;> rfl) | (simp <;> omega) | (simp []; done) | (rw [List.take_of_length_le (by simp [])] <;> rfl) | (simp [List.take_of_length_le]; done)) ?_
    refine WP.loop (α := Nat × (List Int) × Int) (fun zz => ⟨[2005], [(4, vi zz.2.2), (3, vo 2005 (List.length zz.2.1)), (2, V.t (T.nils)), (1, V.t (T.ptr [tl x0, ti x1]))], [(2005, oc 3 (List.map (T.int .i64) zz.2.1))]⟩) (fun zz => F_spec_l2Open_L1 x0 J1 zz.1 zz.2.1 zz.2.2 = some y0) (fun zz => zz.1) (fuel, ([] : List Int), (0 : Int)) h ?_
    rintro ⟨n, o5, v4⟩ h0
    have h := (show F_spec_l2Open_L1 x0 J1 n o5 v4 = some y0 from h0)
    rcases n with _ | n
    · rw [F_spec_l2Open_L1] at h; cases h
    · rw [F_spec_l2Open_L1] at h
      refine WP.seq ?_
      refine WP.seq ?_
      refine WP.path tab_ok mixed [] [.keep [10, 4, 3, 2, 1], .keepO [2005]] (ps := [(True), (True)]) (e := .normal) (σ' := ⟨[2005], [(10, vb (decide (v4 < ((List.length x0 : Nat) : Int)))), (4, vi v4), (3, vo 2005 (List.length o5)), (2, V.t (T.nils)), (1, V.t (T.ptr [tl x0, ti x1]))], [(2005, oc 3 (List.map (T.int .i64) o5))]⟩) (by kernel_rfl) ⟨trivial, trivial, trivial⟩ ?_
      rcases ite_some h with ⟨h1, h⟩ | ⟨h1, h⟩
      · -- yes
        refine WP.cond (b := decide (v4 < ((List.length x0 : Nat) : Int))) rfl (fun _ => ?_) (fun hh => by rw [h1] at hh; cases hh)
        refine WP.path tab_ok mixed [] [.keep [4, 3, 2, 1], .keepO [2005]] (ps := []) (e := .normal) (σ' := ⟨[2005], [(4, vi v4), (3, vo 2005 (List.length o5)), (2, V.t (T.nils)), (1, V.t (T.ptr [tl x0, ti x1]))], [(2005, oc 3 (List.map (T.int .i64) o5))]⟩) (by kernel_rfl) trivial ?_
        refine WP.seq ?_
        refine WP.block ?_
        refine WP.seq ?_
        obtain ⟨c0, h⟩ := chk_some h
        refine WP.path tab_ok mixed [(17, An.v (ti (List.getD x0 (Int.toNat v4) 0)))] [.keep [18, 4, 3, 2, 1], .keepO [2005]] (ps := [(True), ((0 ≤ v4 ∧ v4 < ((List.length x0 : Nat) : Int))), ((List.drop ((Int.toNat v4) * 1) (List.map (T.int .i64) x0) : List T)[0]? = some (ti (List.getD x0 (Int.toNat v4) 0))), (ti (List.getD x0 (Int.toNat v4) 0) = ti (List.getD x0 (Int.toNat v4) 0)), (True)]) (e := .normal) (σ' := ⟨[2005], [(18, vb (decide ((List.getD x0 (Int.toNat v4) 0) ≥ (0 : Int)))), (4, vi v4), (3, vo 2005 (List.length o5)), (2, V.t (T.nils)), (1, V.t (T.ptr [tl x0, ti x1]))], [(2005, oc 3 (List.map (T.int .i64) o5))]⟩) (by kernel_rfl) ⟨trivial, c0, at1 (by simp) (by omega), rfl, trivial, trivial⟩ ?_
        rcases ite_some h with ⟨h2, h⟩ | ⟨h2, h⟩
        · -- yes
          refine WP.cond (b := decide ((List.getD x0 (Int.toNat v4) 0) ≥ (0 : Int))) rfl (fun _ => ?_) (fun hh => by rw [h2] at hh; cases hh)
          obtain ⟨c1, h⟩ := chk_some h
          refine WP.path tab_ok mixed [(21, An.fz), (22, An.id 2022)] [.keep [3, 4, 2, 1], .keepO [2022]] (ps := [((1 = 1 ∧ 0 + 1 ≤ 1) ∧ True), (1 = 1 * 1), (True), (List.length (List.map (T.int .i64) o5) = (List.length o5) * 1), ((((List.length o5) + 1) * 8 ≤ 140737488355328 ∧ (List.length o5) + 1 ≤ maxLen))]) (e := .normal) (σ' := ⟨[2022, 2005], [(3, vo 2022 ((List.length o5) + 1)), (4, vi v4), (2, V.t (T.nils)), (1, V.t (T.ptr [tl x0, ti x1]))], [(2022, oc 3 ((List.map (T.int .i64) o5) ++ [ti v4]))]⟩) (by kernel_rfl) ⟨⟨⟨by first | rfl | (simp; done) | (simp []; done) | omega, by first | decide | (simp; done) | (simp []; done) | omega | (simp only [tlL]; omega) | (simp; omega)⟩, trivial⟩, by decide, trivial, by first | rfl | omega | (simp only [tlL] <;> omega) | (simp <;> omega) | (simp [] <;> omega), c1, trivial⟩ ?_
          obtain ⟨c2, h⟩ := chk_some h
          refine WP.path tab_ok mixed [(12, An.v (T.int .i64 (v4 + (1 : Int))))] [.keep [4, 3, 2, 1], .keepO [2022], .names [(2022, 2005)]] (ps := [(True), (T.int .i64 (IntKind.wrap .i64 (v4 + (1 : Int))) = T.int .i64 (v4 + (1 : Int)))]) (e := .normal) (σ' := ⟨[2005], [(4, vi (v4 + (1 : Int))), (3, vo 2005 ((List.length o5) + 1)), (2, V.t (T.nils)), (1, V.t (T.ptr [tl x0, ti x1]))], [(2005, oc 3 ((List.map (T.int .i64) o5) ++ [ti v4]))]⟩) (by kernel_rfl) ⟨trivial, wrapI c2, trivial⟩ ?_
          exact ⟨(n, o5 ++ [v4], (v4 + (1 : Int))), h, Nat.lt_succ_self _, (by first | rfl | (simp only [tlS, tl, vl, vo, oc, ov, tbl, vbl, ty, vy] <;> rfl) | (simp <;> omega) | (simp []; done) | (rw [List.take_of_length_le (by simp [])] <;> rfl) | (simp [List.take_of_length_le]; done))⟩
        · -- no
          refine WP.cond (b := decide ((List.getD x0 (Int.toNat v4) 0) ≥ (0 : Int))) rfl (fun hh => by rw [h2] at hh; cases hh) (fun _ => ?_)
          refine WP.path tab_ok mixed [] [.keep [4, 3, 2, 1], .keepO [2005]] (ps := []) (e := .normal) (σ' := ⟨[2005], [(4, vi v4), (3, vo 2005 (List.length o5)), (2, V.t (T.nils)), (1, V.t (T.ptr [tl x0, ti x1]))], [(2005, oc 3 (List.map (T.int .i64) o5))]⟩) (by kernel_rfl) trivial ?_
          obtain ⟨c1, h⟩ := chk_some h
          refine WP.path tab_ok mixed [(12, An.v (T.int .i64 (v4 + (1 : Int))))] [.keep [4, 3, 2, 1], .keepO [2005], .names [(2005, 2005)]] (ps := [(True), (T.int .i64 (IntKind.wrap .i64 (v4 + (1 : Int))) = T.int .i64 (v4 + (1 : Int)))]) (e := .normal) (σ' := ⟨[2005], [(4, vi (v4 + (1 : Int))), (3, vo 2005 (List.length o5)), (2, V.t (T.nils)), (1, V.t (T.ptr [tl x0, ti x1]))], [(2005, oc 3 (List.map (T.int .i64) o5))]⟩) (by kernel_rfl) ⟨trivial, wrapI c1, trivial⟩ ?_
          exact ⟨(n, o5, (v4 + (1 : Int))), h, Nat.lt_succ_self _, rfl⟩
      · -- no
        refine WP.cond (b := decide (v4 < ((List.length x0 : Nat) : Int))) rfl (fun hh => by rw [h1] at hh; cases hh) (fun _ => ?_)
        refine WP.path tab_ok mixed [] [.keep [3, 2], .keepO [2005], .names [(2005, 2005)]] (ps := []) (e := (.exit 0)) (σ' := ⟨[2005], [(3, vo 2005 (List.length o5)), (2, V.t (T.nils))], [(2005, oc 3 (List.map (T.int .i64) o5))]⟩) (by kernel_rfl) trivial ?_
        exact ⟨(o5), h, rfl⟩
  · -- from there
    intro o5 h0
    have h := (show J1 o5 = some y0 from h0)
    rw [hJ1] at h
    have h := Option.some.inj h
    subst h
    exact WP.pathG tab_ok mixed [] [.keep [2], .keepO [2005], .names [(2005, 9000)]] [9000] _ (r' := vo 9000 (List.length o5)) (ps := []) (r := vo 9000 (List.length o5)) (N := [9000]) (O := [(9000, oc 3 (List.map (T.int .i64) o5))]) [] (by kernel_rfl) trivial ⟨rfl, trivial⟩ rfl rfl (fun _ h => h)
theorem F_spec_l2Open_W_C (x0 : List Int) (x1 : Int) (y0 : List Int) (h : F_spec_l2Open x0 x1 = some y0) : C Try.prog 66 [T.agg [tl x0, ti x1]] (tl y0) :=
  CG.toC (ps := [(List.length (List.map (T.int .i64) y0) = (List.length y0) * 1)]) (F_spec_l2Open_W  x0 x1 y0 h) (by rfl) ⟨by first | rfl | omega | (simp <;> omega) | (simp [hl] <;> omega), trivial⟩
theorem F_spec_l8End_W (x0 : List Int) (x1 : Int) (x2 : List Int) (x3 : List Bool) (y0 : List Int) (y1 : Int) (h : F_spec_l8End x0 x1 x2 x3 = some (y0, y1)) : CG Try.prog 91 [V.t (T.agg [tl x0, ti x1]), vl x2, vbl x3] [] (V.t (T.agg [tl y0, ti y1])) [] := by
  unfold F_spec_l8End at h
  refine CG.intro (tab := tab) tab_ok (fn := Try.f91) Try.func91 (by kernel_rfl) rfl (Nat.le_of_ble_eq_true rfl) (by kernel_rfl) ?_
  refine WP.seq ?_
  refine WP.path tab_ok mixed [(3, An.id 2003), (6, An.id 2006)] [.keep [6, 3, 1, 2], .keepO [2003, 2006]] (ps := []) (e := .normal) (σ' := ⟨[2006, 2003], [(6, V.ref 2006 0), (3, V.ref 2003 0), (1, vl x2), (2, vbl x3)], [(2003, oc 26 [tl x0, ti x1]), (2006, oc 26 [T.nils, ti 0])]⟩) (by kernel_rfl) trivial ?_
  obtain ⟨J1, hJ1, h⟩ := jn_some h
  refine WP.joinA (fun (zz : (List Int)) => ⟨[2003, 2006], [(6, V.ref 2006 0), (3, V.ref 2003 0)], [(2003, oc 26 [tl zz, ti x1]), (2006, oc 26 [T.nils, ti 0])]⟩) (fun zz => J1 zz = some (y0, y1)) ?_ ?_
  · -- to where they meet
    refine WP.seq ?_
    refine WP.path tab_ok mixed [] [.keep [7, 6, 3, 1, 2], .keepO [2003, 2006]] (ps := []) (e := .normal) (σ' := ⟨[2006, 2003], [(7, vi 0), (6, V.ref 2006 0), (3, V.ref 2003 0), (1, vl x2), (2, vbl x3)], [(2003, oc 26 [tl x0, ti x1]), (2006, oc 26 [T.nils, ti 0])]⟩) (by kernel_rfl) trivial ?_
    refine WP.block ?_
    refine WP.wk [.keep [7, 6, 3, 1, 2], .keepO [2003, 2006], .names [(2003, 2003), (2006, 2006)]] (σ' := ⟨[2003, 2006], [(7, vi 0), (6, V.ref 2006 0), (3, V.ref 2003 0), (1, vl x2), (2, vbl x3)], [(2003, oc 26 [tl x0, ti x1]), (2006, oc 26 [T.nils, ti 0])]⟩) (ps := []) (by kernel_rfl) trivial ?_
    refine WP.st (σ' := ⟨[2003, 2006], [(7, vi (0 : Int)), (6, V.ref 2006 0), (3, V.ref 2003 0), (1, vl x2), (2, vbl x3)], [(2003, oc 26 [tl x0, ti x1]), (2006, oc 26 [T.nils, ti 0])]⟩) (by first | rfl | (simp only [tlS, tl, vl, vo, oc, ov, tbl, vbl, ty, vy] <;> rfl) | (simp <;> omega) | (simp []; done) | (rw [List.take_of_length_le (by simp [])] <;> rfl) | (simp [List.take_of_length_le]; done)) ?_
    refine WP.loop (α := Nat × (List Int) × Int) (fun zz => ⟨[2003, 2006], [(7, vi zz.2.2), (6, V.ref 2006 0), (3, V.ref 2003 0), (1, vl x2), (2, vbl x3)], [(2003, oc 26 [tl zz.2.1, ti x1]), (2006, oc 26 [T.nils, ti 0])]⟩) (fun zz => F_spec_l8End_L1 x1 x2 x3 J1 zz.1 zz.2.1 zz.2.2 = some (y0, y1)) (fun zz => zz.1) (fuel, x0, (0 : Int)) h ?_
    rintro ⟨n, o3, v7⟩ h0
    have h := (show F_spec_l8End_L1 x1 x2 x3 J1 n o3 v7 = some (y0, y1) from h0)
    rcases n with _ | n
    · rw [F_spec_l8End_L1] at h; cases h
    · rw [F_spec_l8End_L1] at h
      refine WP.seq ?_
      refine WP.seq ?_
      refine WP.path tab_ok mixed [] [.keep [11, 7, 6, 3, 1, 2], .keepO [2003, 2006]] (ps := [(True)]) (e := .normal) (σ' := ⟨[2003, 2006], [(11, vb (decide (v7 < ((List.length x2 : Nat) : Int)))), (7, vi v7), (6, V.ref 2006 0), (3, V.ref 2003 0), (1, vl x2), (2, vbl x3)], [(2003, oc 26 [tl o3, ti x1]), (2006, oc 26 [T.nils, ti 0])]⟩) (by kernel_rfl) ⟨trivial, trivial⟩ ?_
      rcases ite_some h with ⟨h1, h⟩ | ⟨h1, h⟩
      · -- yes
        refine WP.cond (b := decide (v7 < ((List.length x2 : Nat) : Int))) rfl (fun _ => ?_) (fun hh => by rw [h1] at hh; cases hh)
        refine WP.path tab_ok mixed [] [.keep [7, 6, 3, 1, 2], .keepO [2003, 2006]] (ps := []) (e := .normal) (σ' := ⟨[2003, 2006], [(7, vi v7), (6, V.ref 2006 0), (3, V.ref 2003 0), (1, vl x2), (2, vbl x3)], [(2003, oc 26 [tl o3, ti x1]), (2006, oc 26 [T.nils, ti 0])]⟩) (by kernel_rfl) trivial ?_
        refine WP.seq ?_
        refine WP.block ?_
        obtain ⟨c0, h⟩ := chk_some h
        obtain ⟨c1, h⟩ := chk_some h
        obtain ⟨c2, h⟩ := chk_some h
        refine WP.path tab_ok mixed [(18, An.v (ti (List.getD x2 (Int.toNat v7) 0))), (22, An.v (tb (List.getD x3 (Int.toNat v7) false))), (23, An.call (T.agg [tl (ansN x1 (List.getD x2 (Int.toNat v7) 0) (List.getD x3 (Int.toNat v7) false) o3), ti x1]))] [.keep [7, 6, 3, 1, 2], .keepO [2003, 2006]] (ps := [(0 + 2 ≤ 2), ((0 ≤ v7 ∧ v7 < ((List.length x2 : Nat) : Int))), ((List.drop ((Int.toNat v7) * 1) (List.map (T.int .i64) x2) : List T)[0]? = some (ti (List.getD x2 (Int.toNat v7) 0))), (ti (List.getD x2 (Int.toNat v7) 0) = ti (List.getD x2 (Int.toNat v7) 0)), ((0 ≤ v7 ∧ v7 < ((List.length x3 : Nat) : Int))), ((List.drop ((Int.toNat v7) * 1) (List.map T.bool x3) : List T)[0]? = some (tb (List.getD x3 (Int.toNat v7) false))), (tb (List.getD x3 (Int.toNat v7) false) = tb (List.getD x3 (Int.toNat v7) false)), (C Try.prog 128 [T.agg [tl o3, ti x1], ti (List.getD x2 (Int.toNat v7) 0), tb (List.getD x3 (Int.toNat v7) false)] (T.agg [tl (ansN x1 (List.getD x2 (Int.toNat v7) 0) (List.getD x3 (Int.toNat v7) false) o3), ti x1])), ((0 + 2 ≤ 2 ∧ 2 = 2))]) (e := .normal) (σ' := ⟨[2003, 2006], [(7, vi v7), (6, V.ref 2006 0), (3, V.ref 2003 0), (1, vl x2), (2, vbl x3)], [(2003, oc 26 [tl (ansN x1 (List.getD x2 (Int.toNat v7) 0) (List.getD x3 (Int.toNat v7) false) o3), ti x1]), (2006, oc 26 [T.nils, ti 0])]⟩) (by kernel_rfl) ⟨by decide, c0, at1 (by simp) (by omega), rfl, c1, at1 (by simp) (by omega), rfl, (l2After_C o3 x1 (List.getD x2 (Int.toNat v7) 0) (List.getD x3 (Int.toNat v7) false) c2), by decide, trivial⟩ ?_
        obtain ⟨c3, h⟩ := chk_some h
        refine WP.path tab_ok mixed [(13, An.v (T.int .i64 (v7 + (1 : Int))))] [.keep [7, 6, 3, 1, 2], .keepO [2003, 2006], .names [(2003, 2003), (2006, 2006)]] (ps := [(True), (T.int .i64 (IntKind.wrap .i64 (v7 + (1 : Int))) = T.int .i64 (v7 + (1 : Int)))]) (e := .normal) (σ' := ⟨[2003, 2006], [(7, vi (v7 + (1 : Int))), (6, V.ref 2006 0), (3, V.ref 2003 0), (1, vl x2), (2, vbl x3)], [(2003, oc 26 [tl (ansN x1 (List.getD x2 (Int.toNat v7) 0) (List.getD x3 (Int.toNat v7) false) o3), ti x1]), (2006, oc 26 [T.nils, ti 0])]⟩) (by kernel_rfl) ⟨trivial, wrapI c3, trivial⟩ ?_
        exact ⟨(n, ansN x1 (List.getD x2 (Int.toNat v7) 0) (List.getD x3 (Int.toNat v7) false) o3, (v7 + (1 : Int))), h, Nat.lt_succ_self _, rfl⟩
      · -- no
        refine WP.cond (b := decide (v7 < ((List.length x2 : Nat) : Int))) rfl (fun hh => by rw [h1] at hh; cases hh) (fun _ => ?_)
        refine WP.path tab_ok mixed [] [.keep [6, 3], .keepO [2003, 2006], .names [(2003, 2003), (2006, 2006)]] (ps := []) (e := (.exit 0)) (σ' := ⟨[2003, 2006], [(6, V.ref 2006 0), (3, V.ref 2003 0)], [(2003, oc 26 [tl o3, ti x1]), (2006, oc 26 [T.nils, ti 0])]⟩) (by kernel_rfl) trivial ?_
        exact ⟨(o3), h, rfl⟩
  · -- from there
    intro o3 h0
    have h := (show J1 o3 = some (y0, y1) from h0)
    rw [hJ1] at h
    simp only [Option.some.injEq, Prod.mk.injEq] at h
    obtain ⟨rfl, rfl⟩ := h
    exact WP.pathG tab_ok mixed [] [.keep [6], .keepO [2006], .names [(2006, 2006)]] [] _ (r' := V.t (T.agg [tl o3, ti x1])) (ps := [(0 + 2 ≤ 2), ((0 + 2 ≤ 2 ∧ 2 = 2)), (0 + 2 ≤ 2)]) (r := V.t (T.agg [tl o3, ti x1])) (N := [2006]) (O := []) [] (by kernel_rfl) ⟨by decide, by decide, by first | decide | omega | (simp only [tlL] <;> omega) | (simp <;> omega) | (simp [] <;> omega), trivial⟩ ⟨(WkT.refl _), trivial⟩ rfl rfl (fun _ h => h)
theorem F_spec_l8End_W_C (x0 : List Int) (x1 : Int) (x2 : List Int) (x3 : List Bool) (y0 : List Int) (y1 : Int) (h : F_spec_l8End x0 x1 x2 x3 = some (y0, y1)) : C Try.prog 91 [T.agg [tl x0, ti x1], tl x2, tbl x3] (T.agg [tl y0, ti y1]) :=
  CG.toC (ps := []) (F_spec_l8End_W  x0 x1 x2 x3 y0 y1 h) (by rfl) trivial
theorem F_spec_l8Left_W (x0 : List Int) (x1 : Int) (x2 : List Int) (x3 : Int) (y0 : Int) (h : F_spec_l8Left x0 x1 x2 x3 = some y0) : C Try.prog 44 [T.agg [tl x0, ti x1], tl x2, ti x3] (ti y0) := by
  unfold F_spec_l8Left at h
  refine C.intro (tab := tab) tab_ok (fn := Try.f44) Try.func44 (by kernel_rfl) rfl (Nat.le_of_ble_eq_true rfl) ?_
  obtain ⟨r12, c0, h⟩ := bnd1_some h
  obtain ⟨r13, r13b, c1, h⟩ := bnd2_some h
  obtain ⟨r14, c2, h⟩ := bnd1_some h
  have h := Option.some.inj h
  subst h
  exact WP.pathW tab_ok mixed [(3, An.fz), (12, An.call (tbl r12)), (13, An.callG [] [V.t (T.agg [tl x0, ti x1]), vl x2, vbl r12] [] (V.t (T.agg [tl r13, ti r13b])) []), (14, An.callG [(9000, 10140)] [V.t (T.agg [tl r13, ti r13b])] [] (vo 9000 (List.length r14)) [(9000, oc 3 (List.map (T.int .i64) r14))])] _ (ps := [(2 ≤ 2), (C Try.prog 45 [ti x3, ti ((List.length x2 : Nat) : Int)] (tbl r12)), (CG Try.prog 91 [V.t (T.agg [tl x0, ti x1]), vl x2, vbl r12] [] (V.t (T.agg [tl r13, ti r13b])) []), (WkT (T.agg [tl x0, ti x1]) (T.agg [tl x0, ti x1])), (WkT (tl x2) (tl x2)), (WkT (tbl r12) (tbl r12)), (CG Try.prog 66 [V.t (T.agg [tl r13, ti r13b])] [] (vo 9000 (List.length r14)) [(9000, oc 3 (List.map (T.int .i64) r14))]), (WkT (T.agg [tl r13, ti r13b]) (T.agg [tl r13, ti r13b]))]) (r := ti ((List.length r14 : Nat) : Int)) (by kernel_rfl) ⟨by decide, (F_spec_l8Answers_W_C x3 ((List.length x2 : Nat) : Int) r12 c0), (F_spec_l8End_W x0 x1 x2 r12 r13 r13b c1), WkT.refl _, WkT.refl _, WkT.refl _, (F_spec_l2Open_W r13 r13b r14 c2), WkT.refl _, trivial⟩ (WkT.eq (y := ti ((List.length r14 : Nat) : Int)) (WkT.refl _) rfl) (fun _ h => h)
theorem F_spec_FirstHolding_W (x0 : List Int) (x1 : Int) (x2 : List Int) (y0 : List Bool) (y1 : Bool) (h : F_spec_FirstHolding x0 x1 x2 = some (y0, y1)) : CG Try.prog 8 [V.t (T.agg [tl x0, ti x1]), vl x2] [] (V.tup [vo 9000 (List.length y0), vb y1]) [(9000, oc 4 (List.map T.bool y0))] := by
  unfold F_spec_FirstHolding at h
  refine CG.intro (tab := tab) tab_ok (fn := Try.f8) Try.func8 (by kernel_rfl) rfl (Nat.le_of_ble_eq_true rfl) (by kernel_rfl) ?_
  refine WP.seq ?_
  refine WP.path tab_ok mixed [(2, An.fz)] [.keep [5, 4, 2, 1], .keepO []] (ps := []) (e := .normal) (σ' := ⟨[], [(5, vb false), (4, V.t (T.nils)), (2, V.t (T.ptr [tl x0, ti x1])), (1, vl x2)], []⟩) (by kernel_rfl) trivial ?_
  refine WP.seq ?_
  refine WP.seq ?_
  obtain ⟨r9, c0, h⟩ := bnd1_some h
  refine WP.path tab_ok mixed [(9, An.call (tb r9))] [.keep [10, 5, 4, 2, 1], .keepO []] (ps := [(2 ≤ 2), (C Try.prog 43 [T.agg [tl x0, ti x1], tl x2] (tb r9))]) (e := .normal) (σ' := ⟨[], [(10, vb (!r9)), (5, vb false), (4, V.t (T.nils)), (2, V.t (T.ptr [tl x0, ti x1])), (1, vl x2)], []⟩) (by kernel_rfl) ⟨by decide, (F_spec_l8Good_W x0 x1 x2 r9 c0), trivial⟩ ?_
  rcases ite_some h with ⟨h1, h⟩ | ⟨h1, h⟩
  · -- yes
    refine WP.cond (b := !r9) rfl (fun _ => ?_) (fun hh => by rw [h1] at hh; cases hh)
    simp only [Option.some.injEq, Prod.mk.injEq] at h
    obtain ⟨rfl, rfl⟩ := h
    exact WP.pathG tab_ok mixed [(11, An.id 2011)] [.keep [4, 5], .keepO [2011], .names [(2011, 9000)]] [9000] _ (r' := V.tup [vo 9000 (List.length []), vb false]) (ps := [(True), (0 = 0 * 1)]) (r := V.tup [vo 9000 0, vb false]) (N := [9000]) (O := [(9000, oc 4 [])]) [] (by kernel_rfl) ⟨trivial, by decide, trivial⟩ ⟨(congrArg (V.own 9000 1) (by first | rfl | (simp only [tlS, tl, vl, vo, oc, ov, tbl, vbl, ty, vy] <;> rfl) | (simp <;> omega) | (simp []; done) | (rw [List.take_of_length_le (by simp [])] <;> rfl) | (simp [List.take_of_length_le]; done))), (WkT.refl _), trivial⟩ rfl (by first | rfl | (simp only [tlS, tl, vl, vo, oc, ov, tbl, vbl, ty, vy] <;> rfl) | (simp <;> omega) | (simp []; done) | (rw [List.take_of_length_le (by simp [])] <;> rfl) | (simp [List.take_of_length_le]; done)) (fun _ h => h)
  · -- no
    refine WP.cond (b := !r9) rfl (fun hh => by rw [h1] at hh; cases hh) (fun _ => ?_)
    refine WP.path tab_ok mixed [] [.keep [5, 4, 2, 1], .keepO []] (ps := []) (e := .normal) (σ' := ⟨[], [(5, vb false), (4, V.t (T.nils)), (2, V.t (T.ptr [tl x0, ti x1])), (1, vl x2)], []⟩) (by kernel_rfl) trivial ?_
    obtain ⟨J1, hJ1, h⟩ := jn_some h
    refine WP.joinA (fun (zz : Unit) => ⟨[], [(5, vb false), (4, V.t (T.nils))], []⟩) (fun zz => J1 () = some (y0, y1)) ?_ ?_
    · -- to where they meet
      refine WP.seq ?_
      refine WP.path tab_ok mixed [] [.keep [6, 5, 4, 2, 1], .keepO []] (ps := []) (e := .normal) (σ' := ⟨[], [(6, vi 0), (5, vb false), (4, V.t (T.nils)), (2, V.t (T.ptr [tl x0, ti x1])), (1, vl x2)], []⟩) (by kernel_rfl) trivial ?_
      refine WP.block ?_
      refine WP.wk [.keep [6, 5, 4, 2, 1], .keepO [], .names []] (σ' := ⟨[], [(6, vi 0), (5, vb false), (4, V.t (T.nils)), (2, V.t (T.ptr [tl x0, ti x1])), (1, vl x2)], []⟩) (ps := []) (by kernel_rfl) trivial ?_
      refine WP.st (σ' := ⟨[], [(6, vi (0 : Int)), (5, vb false), (4, V.t (T.nils)), (2, V.t (T.ptr [tl x0, ti x1])), (1, vl x2)], []⟩) (by first | rfl | (simp only [tlS, tl, vl, vo, oc, ov, tbl, vbl, ty, vy] <;> rfl) | (simp <;> omega) | (simp []; done) | (rw [List.take_of_length_le (by simp [])] <;> rfl) | (simp [List.take_of_length_le]; done)) ?_
      refine WP.loop (α := Nat × Int) (fun zz => ⟨[], [(6, vi zz.2), (5, vb false), (4, V.t (T.nils)), (2, V.t (T.ptr [tl x0, ti x1])), (1, vl x2)], []⟩) (fun zz => F_spec_FirstHolding_L1 x0 x1 x2 J1 zz.1 zz.2 = some (y0, y1)) (fun zz => zz.1) (fuel, (0 : Int)) h ?_
      rintro ⟨n, v6⟩ h0
      have h := (show F_spec_FirstHolding_L1 x0 x1 x2 J1 n v6 = some (y0, y1) from h0)
      rcases n with _ | n
      · rw [F_spec_FirstHolding_L1] at h; cases h
      · rw [F_spec_FirstHolding_L1] at h
        refine WP.seq ?_
        refine WP.seq ?_
        obtain ⟨c1, h⟩ := chk_some h
        refine WP.path tab_ok mixed [(15, An.v (T.int .i64 ((1 : Int) * 2 ^ Int.toNat ((List.length x2 : Nat) : Int))))] [.keep [16, 6, 5, 4, 2, 1], .keepO []] (ps := [(0 ≤ ((List.length x2 : Nat) : Int)), (T.int .i64 (IntKind.wrap .i64 ((1 : Int) * 2 ^ (min (Int.toNat ((List.length x2 : Nat) : Int)) 64))) = T.int .i64 ((1 : Int) * 2 ^ Int.toNat ((List.length x2 : Nat) : Int))), (True)]) (e := .normal) (σ' := ⟨[], [(16, vb (decide (v6 < ((1 : Int) * 2 ^ Int.toNat ((List.length x2 : Nat) : Int))))), (6, vi v6), (5, vb false), (4, V.t (T.nils)), (2, V.t (T.ptr [tl x0, ti x1])), (1, vl x2)], []⟩) (by kernel_rfl) ⟨c1.1, shl_told c1, trivial, trivial⟩ ?_
        rcases ite_some h with ⟨h2, h⟩ | ⟨h2, h⟩
        · -- yes
          refine WP.cond (b := decide (v6 < ((1 : Int) * 2 ^ Int.toNat ((List.length x2 : Nat) : Int)))) rfl (fun _ => ?_) (fun hh => by rw [h2] at hh; cases hh)
          refine WP.path tab_ok mixed [] [.keep [6, 5, 4, 2, 1], .keepO []] (ps := []) (e := .normal) (σ' := ⟨[], [(6, vi v6), (5, vb false), (4, V.t (T.nils)), (2, V.t (T.ptr [tl x0, ti x1])), (1, vl x2)], []⟩) (by kernel_rfl) trivial ?_
          refine WP.seq ?_
          refine WP.block ?_
          refine WP.seq ?_
          obtain ⟨r22, c2, h⟩ := bnd1_some h
          refine WP.path tab_ok mixed [(22, An.call (ti r22))] [.keep [23, 6, 5, 4, 2, 1], .keepO []] (ps := [(2 ≤ 2), (C Try.prog 44 [T.agg [tl x0, ti x1], tl x2, ti v6] (ti r22)), (True)]) (e := .normal) (σ' := ⟨[], [(23, vb (decide (r22 ≥ (2 : Int)))), (6, vi v6), (5, vb false), (4, V.t (T.nils)), (2, V.t (T.ptr [tl x0, ti x1])), (1, vl x2)], []⟩) (by kernel_rfl) ⟨by decide, (F_spec_l8Left_W x0 x1 x2 v6 r22 c2), trivial, trivial⟩ ?_
          rcases ite_some h with ⟨h3, h⟩ | ⟨h3, h⟩
          · -- yes
            refine WP.cond (b := decide (r22 ≥ (2 : Int))) rfl (fun _ => ?_) (fun hh => by rw [h3] at hh; cases hh)
            obtain ⟨r27, c3, h⟩ := bnd1_some h
            simp only [Option.some.injEq, Prod.mk.injEq] at h
            obtain ⟨rfl, rfl⟩ := h
            exact WP.pathG tab_ok mixed [(27, An.callG [(9000, 10270)] [vi v6, vi ((List.length x2 : Nat) : Int)] [] (vo 9000 (List.length r27)) [(9000, oc 4 (List.map T.bool r27))])] [.keep [4, 5], .keepO [10270], .names [(10270, 9000)]] [9000] _ (r' := V.tup [vo 9000 (List.length r27), vb true]) (ps := [(CG Try.prog 45 [vi v6, vi ((List.length x2 : Nat) : Int)] [] (vo 9000 (List.length r27)) [(9000, oc 4 (List.map T.bool r27))]), (WkT (ti v6) (ti v6)), (WkT (ti ((List.length x2 : Nat) : Int)) (ti ((List.length x2 : Nat) : Int)))]) (r := V.tup [vo 9000 (List.length r27), vb true]) (N := [9000]) (O := [(9000, oc 4 (List.map T.bool r27))]) [] (by kernel_rfl) ⟨(F_spec_l8Answers_W v6 ((List.length x2 : Nat) : Int) r27 c3), WkT.refl _, WkT.refl _, trivial⟩ ⟨rfl, (WkT.refl _), trivial⟩ rfl rfl (fun _ h => h)
          · -- no
            refine WP.cond (b := decide (r22 ≥ (2 : Int))) rfl (fun hh => by rw [h3] at hh; cases hh) (fun _ => ?_)
            refine WP.path tab_ok mixed [] [.keep [6, 5, 4, 2, 1], .keepO []] (ps := []) (e := .normal) (σ' := ⟨[], [(6, vi v6), (5, vb false), (4, V.t (T.nils)), (2, V.t (T.ptr [tl x0, ti x1])), (1, vl x2)], []⟩) (by kernel_rfl) trivial ?_
            obtain ⟨c3, h⟩ := chk_some h
            refine WP.path tab_ok mixed [(18, An.v (T.int .i64 (v6 + (1 : Int))))] [.keep [6, 5, 4, 2, 1], .keepO [], .names []] (ps := [(True), (T.int .i64 (IntKind.wrap .i64 (v6 + (1 : Int))) = T.int .i64 (v6 + (1 : Int)))]) (e := .normal) (σ' := ⟨[], [(6, vi (v6 + (1 : Int))), (5, vb false), (4, V.t (T.nils)), (2, V.t (T.ptr [tl x0, ti x1])), (1, vl x2)], []⟩) (by kernel_rfl) ⟨trivial, wrapI c3, trivial⟩ ?_
            exact ⟨(n, (v6 + (1 : Int))), h, Nat.lt_succ_self _, rfl⟩
        · -- no
          refine WP.cond (b := decide (v6 < ((1 : Int) * 2 ^ Int.toNat ((List.length x2 : Nat) : Int)))) rfl (fun hh => by rw [h2] at hh; cases hh) (fun _ => ?_)
          refine WP.path tab_ok mixed [] [.keep [5, 4], .keepO [], .names []] (ps := []) (e := (.exit 0)) (σ' := ⟨[], [(5, vb false), (4, V.t (T.nils))], []⟩) (by kernel_rfl) trivial ?_
          exact ⟨(), h, rfl⟩
    · -- from there
      intro _ h0
      have h := (show J1 () = some (y0, y1) from h0)
      rw [hJ1] at h
      simp only [Option.some.injEq, Prod.mk.injEq] at h
      obtain ⟨rfl, rfl⟩ := h
      exact WP.pathG tab_ok mixed [(28, An.id 2028)] [.keep [4, 5], .keepO [2028], .names [(2028, 9000)]] [9000] _ (r' := V.tup [vo 9000 (List.length []), vb false]) (ps := [(True), (0 = 0 * 1)]) (r := V.tup [vo 9000 0, vb false]) (N := [9000]) (O := [(9000, oc 4 [])]) [] (by kernel_rfl) ⟨trivial, by decide, trivial⟩ ⟨(congrArg (V.own 9000 1) (by first | rfl | (simp only [tlS, tl, vl, vo, oc, ov, tbl, vbl, ty, vy] <;> rfl) | (simp <;> omega) | (simp []; done) | (rw [List.take_of_length_le (by simp [])] <;> rfl) | (simp [List.take_of_length_le]; done))), (WkT.refl _), trivial⟩ rfl (by first | rfl | (simp only [tlS, tl, vl, vo, oc, ov, tbl, vbl, ty, vy] <;> rfl) | (simp <;> omega) | (simp []; done) | (rw [List.take_of_length_le (by simp [])] <;> rfl) | (simp [List.take_of_length_le]; done)) (fun _ h => h)
theorem F_spec_FirstHolding_W_C (x0 : List Int) (x1 : Int) (x2 : List Int) (y0 : List Bool) (y1 : Bool) (h : F_spec_FirstHolding x0 x1 x2 = some (y0, y1)) : C Try.prog 8 [T.agg [tl x0, ti x1], tl x2] (T.tup [tbl y0, tb y1]) :=
  CG.toC (ps := [(List.length (List.map T.bool y0) = (List.length y0) * 1)]) (F_spec_FirstHolding_W  x0 x1 x2 y0 y1 h) (by rfl) ⟨by first | rfl | omega | (simp <;> omega) | (simp [hl] <;> omega), trivial⟩
theorem F_laws_rBools_W (x0 : List Bool) (x1 : List Bool) (y0 : Bool) (h : F_laws_rBools x0 x1 = some y0) : C Try.prog 9 [tbl x0, tbl x1] (tb y0) := by
  unfold F_laws_rBools at h
  refine C.intro (tab := tab) tab_ok (fn := Try.f9) Try.func9 (by kernel_rfl) rfl (Nat.le_of_ble_eq_true rfl) ?_
  refine WP.seq ?_
  refine WP.path tab_ok mixed [] [.keep [4, 0, 1], .keepO []] (ps := []) (e := .normal) (σ' := ⟨[], [(4, vb false), (0, vbl x0), (1, vbl x1)], []⟩) (by kernel_rfl) trivial ?_
  refine WP.seq ?_
  refine WP.seq ?_
  refine WP.path tab_ok mixed [] [.keep [10, 4, 0, 1], .keepO []] (ps := [(True)]) (e := .normal) (σ' := ⟨[], [(10, vb (((List.length x0 : Nat) : Int) != ((List.length x1 : Nat) : Int))), (4, vb false), (0, vbl x0), (1, vbl x1)], []⟩) (by kernel_rfl) ⟨trivial, trivial⟩ ?_
  rcases ite_some h with ⟨h1, h⟩ | ⟨h1, h⟩
  · -- yes
    refine WP.cond (b := ((List.length x0 : Nat) : Int) != ((List.length x1 : Nat) : Int)) rfl (fun _ => ?_) (fun hh => by rw [h1] at hh; cases hh)
    have h := Option.some.inj h
    subst h
    exact WP.pathW tab_ok mixed [] _ (ps := []) (r := tb false) (by kernel_rfl) trivial (WkT.eq (y := tb false) (WkT.refl _) rfl) (fun _ h => h)
  · -- no
    refine WP.cond (b := ((List.length x0 : Nat) : Int) != ((List.length x1 : Nat) : Int)) rfl (fun hh => by rw [h1] at hh; cases hh) (fun _ => ?_)
    refine WP.path tab_ok mixed [] [.keep [4, 0, 1], .keepO []] (ps := []) (e := .normal) (σ' := ⟨[], [(4, vb false), (0, vbl x0), (1, vbl x1)], []⟩) (by kernel_rfl) trivial ?_
    obtain ⟨J1, hJ1, h⟩ := jn_some h
    refine WP.joinA (fun (zz : Unit) => ⟨[], [(4, vb false)], []⟩) (fun zz => J1 () = some y0) ?_ ?_
    · -- to where they meet
      refine WP.seq ?_
      refine WP.path tab_ok mixed [] [.keep [5, 4, 0, 1], .keepO []] (ps := []) (e := .normal) (σ' := ⟨[], [(5, vi 0), (4, vb false), (0, vbl x0), (1, vbl x1)], []⟩) (by kernel_rfl) trivial ?_
      refine WP.block ?_
      refine WP.wk [.keep [5, 4, 0, 1], .keepO [], .names []] (σ' := ⟨[], [(5, vi 0), (4, vb false), (0, vbl x0), (1, vbl x1)], []⟩) (ps := []) (by kernel_rfl) trivial ?_
      refine WP.st (σ' := ⟨[], [(5, vi (0 : Int)), (4, vb false), (0, vbl x0), (1, vbl x1)], []⟩) (by first | rfl | (simp only [tlS, tl, vl, vo, oc, ov, tbl, vbl, ty, vy] <;> rfl) | (simp <;> omega) | (simp []; done) | (rw [List.take_of_length_le (by simp [])] <;> rfl) | (simp [List.take_of_length_le]; done)) ?_
      refine WP.loop (α := Nat × Int) (fun zz => ⟨[], [(5, vi zz.2), (4, vb false), (0, vbl x0), (1, vbl x1)], []⟩) (fun zz => F_laws_rBools_L1 x0 x1 J1 zz.1 zz.2 = some y0) (fun zz => zz.1) (fuel, (0 : Int)) h ?_
      rintro ⟨n, v5⟩ h0
      have h := (show F_laws_rBools_L1 x0 x1 J1 n v5 = some y0 from h0)
      rcases n with _ | n
      · rw [F_laws_rBools_L1] at h; cases h
      · rw [F_laws_rBools_L1] at h
        refine WP.seq ?_
        refine WP.seq ?_
        refine WP.path tab_ok mixed [] [.keep [14, 5, 4, 0, 1], .keepO []] (ps := [(True)]) (e := .normal) (σ' := ⟨[], [(14, vb (decide (v5 < ((List.length x0 : Nat) : Int)))), (5, vi v5), (4, vb false), (0, vbl x0), (1, vbl x1)], []⟩) (by kernel_rfl) ⟨trivial, trivial⟩ ?_
        rcases ite_some h with ⟨h2, h⟩ | ⟨h2, h⟩
        · -- yes
          refine WP.cond (b := decide (v5 < ((List.length x0 : Nat) : Int))) rfl (fun _ => ?_) (fun hh => by rw [h2] at hh; cases hh)
          refine WP.path tab_ok mixed [] [.keep [5, 4, 0, 1], .keepO []] (ps := []) (e := .normal) (σ' := ⟨[], [(5, vi v5), (4, vb false), (0, vbl x0), (1, vbl x1)], []⟩) (by kernel_rfl) trivial ?_
          refine WP.seq ?_
          refine WP.block ?_
          refine WP.seq ?_
          obtain ⟨c0, h⟩ := chk_some h
          obtain ⟨c1, h⟩ := chk_some h
          refine WP.path tab_ok mixed [(20, An.v (tb (List.getD x0 (Int.toNat v5) false))), (24, An.v (tb (List.getD x1 (Int.toNat v5) false)))] [.keep [25, 5, 4, 0, 1], .keepO []] (ps := [((0 ≤ v5 ∧ v5 < ((List.length x0 : Nat) : Int))), ((List.drop ((Int.toNat v5) * 1) (List.map T.bool x0) : List T)[0]? = some (tb (List.getD x0 (Int.toNat v5) false))), (tb (List.getD x0 (Int.toNat v5) false) = tb (List.getD x0 (Int.toNat v5) false)), ((0 ≤ v5 ∧ v5 < ((List.length x1 : Nat) : Int))), ((List.drop ((Int.toNat v5) * 1) (List.map T.bool x1) : List T)[0]? = some (tb (List.getD x1 (Int.toNat v5) false))), (tb (List.getD x1 (Int.toNat v5) false) = tb (List.getD x1 (Int.toNat v5) false)), (True)]) (e := .normal) (σ' := ⟨[], [(25, vb (!((List.getD x0 (Int.toNat v5) false) == (List.getD x1 (Int.toNat v5) false)))), (5, vi v5), (4, vb false), (0, vbl x0), (1, vbl x1)], []⟩) (by kernel_rfl) ⟨c0, at1 (by simp) (by omega), rfl, c1, at1 (by simp) (by omega), rfl, trivial, trivial⟩ ?_
          rcases ite_some h with ⟨h3, h⟩ | ⟨h3, h⟩
          · -- yes
            refine WP.cond (b := !((List.getD x0 (Int.toNat v5) false) == (List.getD x1 (Int.toNat v5) false))) rfl (fun _ => ?_) (fun hh => by rw [h3] at hh; cases hh)
            have h := Option.some.inj h
            subst h
            exact WP.pathW tab_ok mixed [] _ (ps := []) (r := tb false) (by kernel_rfl) trivial (WkT.eq (y := tb false) (WkT.refl _) rfl) (fun _ h => h)
          · -- no
            refine WP.cond (b := !((List.getD x0 (Int.toNat v5) false) == (List.getD x1 (Int.toNat v5) false))) rfl (fun hh => by rw [h3] at hh; cases hh) (fun _ => ?_)
            refine WP.path tab_ok mixed [] [.keep [5, 4, 0, 1], .keepO []] (ps := []) (e := .normal) (σ' := ⟨[], [(5, vi v5), (4, vb false), (0, vbl x0), (1, vbl x1)], []⟩) (by kernel_rfl) trivial ?_
            obtain ⟨c2, h⟩ := chk_some h
            refine WP.path tab_ok mixed [(16, An.v (T.int .i64 (v5 + (1 : Int))))] [.keep [5, 4, 0, 1], .keepO [], .names []] (ps := [(True), (T.int .i64 (IntKind.wrap .i64 (v5 + (1 : Int))) = T.int .i64 (v5 + (1 : Int)))]) (e := .normal) (σ' := ⟨[], [(5, vi (v5 + (1 : Int))), (4, vb false), (0, vbl x0), (1, vbl x1)], []⟩) (by kernel_rfl) ⟨trivial, wrapI c2, trivial⟩ ?_
            exact ⟨(n, (v5 + (1 : Int))), h, Nat.lt_succ_self _, rfl⟩
        · -- no
          refine WP.cond (b := decide (v5 < ((List.length x0 : Nat) : Int))) rfl (fun hh => by rw [h2] at hh; cases hh) (fun _ => ?_)
          refine WP.path tab_ok mixed [] [.keep [4], .keepO [], .names []] (ps := []) (e := (.exit 0)) (σ' := ⟨[], [(4, vb false)], []⟩) (by kernel_rfl) trivial ?_
          exact ⟨(), h, rfl⟩
    · -- from there
      intro _ h0
      have h := (show J1 () = some y0 from h0)
      rw [hJ1] at h
      have h := Option.some.inj h
      subst h
      exact WP.pathW tab_ok mixed [] _ (ps := []) (r := tb true) (by kernel_rfl) trivial (WkT.eq (y := tb true) (WkT.refl _) rfl) (fun _ h => h)
theorem F_impl_State_count_1_W (x0 : List Bool) (x1 : Int) (x2 : Int) (x3 : Int) (y0 : Int) (h : F_impl_State_count_1 x0 x1 x2 x3 = some y0) : CG Try.prog 92 [vbl x0, vi x1, V.t (T.ptr [ti x2]), V.ref 500 0] [(500, oc 3 [ti x3])] (V.t (T.tup [])) [(500, oc 3 [ti y0])] := by
  unfold F_impl_State_count_1 at h
  refine CG.intro (tab := tab) tab_ok (fn := Try.f92) Try.func92 (by kernel_rfl) rfl (Nat.le_of_ble_eq_true rfl) (by kernel_rfl) ?_
  refine WP.seq ?_
  refine WP.path tab_ok mixed [] [.keep [8, 3], .keepO [500]] (ps := [(True), (True)]) (e := .normal) (σ' := ⟨[500], [(8, vb (decide (x1 ≥ x2))), (3, V.ref 500 0)], [(500, oc 3 [ti x3])]⟩) (by kernel_rfl) ⟨trivial, trivial, trivial⟩ ?_
  rcases ite_some h with ⟨h1, h⟩ | ⟨h1, h⟩
  · -- yes
    refine WP.cond (b := decide (x1 ≥ x2)) rfl (fun _ => ?_) (fun hh => by rw [h1] at hh; cases hh)
    obtain ⟨c0, h⟩ := chk_some h
    have h := Option.some.inj h
    subst h
    exact WP.pathGn tab_ok mixed [(10, An.v (T.int .i64 (x3 + (1 : Int))))] [.keep [], .keepO [500], .names [(500, 500)]] [500] _ (r' := V.t (T.tup [])) (ps := [(True), (True), (T.int .i64 (IntKind.wrap .i64 (x3 + (1 : Int))) = T.int .i64 (x3 + (1 : Int))), (0 < 1)]) (r := V.t (T.tup [])) (N := [500]) (O := [(500, oc 3 [ti (x3 + (1 : Int))])]) [] (by kernel_rfl) ⟨trivial, trivial, wrapI c0, by decide, trivial⟩ ⟨(WkT.refl _), trivial⟩ rfl rfl (fun _ h => h)
  · -- no
    refine WP.cond (b := decide (x1 ≥ x2)) rfl (fun hh => by rw [h1] at hh; cases hh) (fun _ => ?_)
    have h := Option.some.inj h
    subst h
    exact WP.pathGn tab_ok mixed [] [.keep [], .keepO [500], .names [(500, 500)]] [500] _ (r' := V.t (T.tup [])) (ps := []) (r := V.t (T.tup [])) (N := [500]) (O := [(500, oc 3 [ti x3])]) [] (by kernel_rfl) trivial ⟨(WkT.refl _), trivial⟩ rfl rfl (fun _ h => h)
theorem F_impl_State_lists_92_W (x0 : List Int) (x1 : Int) (x2 : List Int) (x3 : Int) (x4 : Int) (y0 : Int) (h : F_impl_State_lists_92 x0 x1 x2 x3 x4 = some y0) : CG Try.prog 41 [V.t (T.agg [tl x0, ti x1]), vl x2, V.fn 92 [V.t (T.ptr [ti x3]), V.ref 500 0]] [(500, oc 3 [ti x4])] (V.t (T.tup [])) [(500, oc 3 [ti y0])] := by
  unfold F_impl_State_lists_92 at h
  refine CG.intro (tab := tab) tab_ok (fn := Try.f41) Try.func41 (by kernel_rfl) rfl (Nat.le_of_ble_eq_true rfl) (by kernel_rfl) ?_
  refine WP.seq ?_
  refine WP.path tab_ok mixed [(3, An.fz)] [.keep [3, 1, 2], .keepO [500]] (ps := []) (e := .normal) (σ' := ⟨[500], [(3, V.t (T.ptr [tl x0, ti x1])), (1, vl x2), (2, V.fn 92 [V.t (T.ptr [ti x3]), V.ref 500 0])], [(500, oc 3 [ti x4])]⟩) (by kernel_rfl) trivial ?_
  refine WP.seq ?_
  refine WP.path tab_ok mixed [] [.keep [6, 3, 1, 2], .keepO [500]] (ps := []) (e := .normal) (σ' := ⟨[500], [(6, vi ((List.length x2 : Nat) : Int)), (3, V.t (T.ptr [tl x0, ti x1])), (1, vl x2), (2, V.fn 92 [V.t (T.ptr [ti x3]), V.ref 500 0])], [(500, oc 3 [ti x4])]⟩) (by kernel_rfl) trivial ?_
  refine WP.seq ?_
  obtain ⟨c0, h⟩ := chk_some h
  refine WP.path tab_ok mixed [(13, An.v (T.int .i64 ((1 : Int) * 2 ^ Int.toNat ((List.length x2 : Nat) : Int))))] [.keep [14, 13, 6, 3, 1, 2], .keepO [500]] (ps := [(0 ≤ ((List.length x2 : Nat) : Int)), (T.int .i64 (IntKind.wrap .i64 ((1 : Int) * 2 ^ (min (Int.toNat ((List.length x2 : Nat) : Int)) 64))) = T.int .i64 ((1 : Int) * 2 ^ Int.toNat ((List.length x2 : Nat) : Int)))]) (e := .normal) (σ' := ⟨[500], [(14, vi 0), (13, vi ((1 : Int) * 2 ^ Int.toNat ((List.length x2 : Nat) : Int))), (6, vi ((List.length x2 : Nat) : Int)), (3, V.t (T.ptr [tl x0, ti x1])), (1, vl x2), (2, V.fn 92 [V.t (T.ptr [ti x3]), V.ref 500 0])], [(500, oc 3 [ti x4])]⟩) (by kernel_rfl) ⟨c0.1, shl_told c0, trivial⟩ ?_
  refine WP.block ?_
  refine WP.wk [.keep [14, 13, 6, 3, 1, 2], .keepO [500], .names [(500, 500)]] (σ' := ⟨[500], [(14, vi 0), (13, vi ((1 : Int) * 2 ^ Int.toNat ((List.length x2 : Nat) : Int))), (6, vi ((List.length x2 : Nat) : Int)), (3, V.t (T.ptr [tl x0, ti x1])), (1, vl x2), (2, V.fn 92 [V.t (T.ptr [ti x3]), V.ref 500 0])], [(500, oc 3 [ti x4])]⟩) (ps := []) (by kernel_rfl) trivial ?_
  refine WP.st (σ' := ⟨[500], [(14, vi (0 : Int)), (13, vi ((1 : Int) * 2 ^ Int.toNat ((List.length x2 : Nat) : Int))), (6, vi ((List.length x2 : Nat) : Int)), (3, V.t (T.ptr [tl x0, ti x1])), (1, vl x2), (2, V.fn 92 [V.t (T.ptr [ti x3]), V.ref 500 0])], [(500, oc 3 [ti x4])]⟩) (by first | rfl | (simp only [tlS, tl, vl, vo, oc, ov, tbl, vbl, ty, vy] <;> rfl) | (simp <;> omega) | (simp []; done) | (rw [List.take_of_length_le (by simp [])] <;> rfl) | (simp [List.take_of_length_le]; done)) ?_
  refine WP.loop (α := Nat × Int × Int) (fun zz => ⟨[500], [(14, vi zz.2.2), (13, vi ((1 : Int) * 2 ^ Int.toNat ((List.length x2 : Nat) : Int))), (6, vi ((List.length x2 : Nat) : Int)), (3, V.t (T.ptr [tl x0, ti x1])), (1, vl x2), (2, V.fn 92 [V.t (T.ptr [ti x3]), V.ref 500 0])], [(500, oc 3 [ti zz.2.1])]⟩) (fun zz => F_impl_State_lists_92_L1 x0 x1 x2 x3 zz.1 zz.2.1 zz.2.2 = some y0) (fun zz => zz.1) (fuel, x4, (0 : Int)) h ?_
  rintro ⟨n, o500, v14⟩ h0
  have h := (show F_impl_State_lists_92_L1 x0 x1 x2 x3 n o500 v14 = some y0 from h0)
  rcases n with _ | n
  · rw [F_impl_State_lists_92_L1] at h; cases h
  · rw [F_impl_State_lists_92_L1] at h
    refine WP.seq ?_
    refine WP.path tab_ok mixed [] [.keep [15, 14, 13, 6, 3, 1, 2], .keepO [500]] (ps := [(True)]) (e := .normal) (σ' := ⟨[500], [(15, vb (decide (v14 < ((1 : Int) * 2 ^ Int.toNat ((List.length x2 : Nat) : Int))))), (14, vi v14), (13, vi ((1 : Int) * 2 ^ Int.toNat ((List.length x2 : Nat) : Int))), (6, vi ((List.length x2 : Nat) : Int)), (3, V.t (T.ptr [tl x0, ti x1])), (1, vl x2), (2, V.fn 92 [V.t (T.ptr [ti x3]), V.ref 500 0])], [(500, oc 3 [ti o500])]⟩) (by kernel_rfl) ⟨trivial, trivial⟩ ?_
    refine WP.seq ?_
    rcases ite_some h with ⟨h1, h⟩ | ⟨h1, h⟩
    · -- yes
      refine WP.cond (b := decide (v14 < ((1 : Int) * 2 ^ Int.toNat ((List.length x2 : Nat) : Int)))) rfl (fun _ => ?_) (fun hh => by rw [h1] at hh; cases hh)
      refine WP.path tab_ok mixed [] [.keep [14, 13, 6, 3, 1, 2], .keepO [500]] (ps := []) (e := .normal) (σ' := ⟨[500], [(14, vi v14), (13, vi ((1 : Int) * 2 ^ Int.toNat ((List.length x2 : Nat) : Int))), (6, vi ((List.length x2 : Nat) : Int)), (3, V.t (T.ptr [tl x0, ti x1])), (1, vl x2), (2, V.fn 92 [V.t (T.ptr [ti x3]), V.ref 500 0])], [(500, oc 3 [ti o500])]⟩) (by kernel_rfl) trivial ?_
      obtain ⟨J1, hJ1, h⟩ := jn_some h
      refine WP.joinA (fun (zz : Int) => ⟨[500], [(14, vi v14), (13, vi ((1 : Int) * 2 ^ Int.toNat ((List.length x2 : Nat) : Int))), (6, vi ((List.length x2 : Nat) : Int)), (3, V.t (T.ptr [tl x0, ti x1])), (1, vl x2), (2, V.fn 92 [V.t (T.ptr [ti x3]), V.ref 500 0])], [(500, oc 3 [ti zz])]⟩) (fun zz => J1 zz = some y0) ?_ ?_
      · -- to where they meet
        refine WP.block ?_
        refine WP.seq ?_
        refine WP.path tab_ok mixed [] [.keep [7, 14, 13, 6, 3, 1, 2], .keepO [500]] (ps := []) (e := .normal) (σ' := ⟨[500], [(7, vi v14), (14, vi v14), (13, vi ((1 : Int) * 2 ^ Int.toNat ((List.length x2 : Nat) : Int))), (6, vi ((List.length x2 : Nat) : Int)), (3, V.t (T.ptr [tl x0, ti x1])), (1, vl x2), (2, V.fn 92 [V.t (T.ptr [ti x3]), V.ref 500 0])], [(500, oc 3 [ti o500])]⟩) (by kernel_rfl) trivial ?_
        refine WP.seq ?_
        refine WP.path tab_ok mixed [(17, An.id 2017)] [.keep [8, 7, 14, 13, 6, 3, 1, 2], .keepO [500, 2017]] (ps := [(True), (0 = 0 * 1)]) (e := .normal) (σ' := ⟨[2017, 500], [(8, vo 2017 0), (7, vi v14), (14, vi v14), (13, vi ((1 : Int) * 2 ^ Int.toNat ((List.length x2 : Nat) : Int))), (6, vi ((List.length x2 : Nat) : Int)), (3, V.t (T.ptr [tl x0, ti x1])), (1, vl x2), (2, V.fn 92 [V.t (T.ptr [ti x3]), V.ref 500 0])], [(500, oc 3 [ti o500]), (2017, oc 4 [])]⟩) (by kernel_rfl) ⟨trivial, by decide, trivial⟩ ?_
        obtain ⟨J2, hJ2, h⟩ := jn_some h
        refine WP.joinA (fun (zz : (List Bool)) => ⟨[500, 2017], [(8, vo 2017 (List.length zz)), (14, vi v14), (13, vi ((1 : Int) * 2 ^ Int.toNat ((List.length x2 : Nat) : Int))), (6, vi ((List.length x2 : Nat) : Int)), (3, V.t (T.ptr [tl x0, ti x1])), (1, vl x2), (2, V.fn 92 [V.t (T.ptr [ti x3]), V.ref 500 0])], [(500, oc 3 [ti o500]), (2017, oc 4 (List.map T.bool zz))]⟩) (fun zz => J2 zz = some y0) ?_ ?_
        · -- to where they meet
          refine WP.seq ?_
          refine WP.path tab_ok mixed [] [.keep [19, 18, 8, 7, 14, 13, 6, 3, 1, 2], .keepO [500, 2017]] (ps := []) (e := .normal) (σ' := ⟨[2017, 500], [(19, vi 0), (18, vi ((List.length x2 : Nat) : Int)), (8, vo 2017 0), (7, vi v14), (14, vi v14), (13, vi ((1 : Int) * 2 ^ Int.toNat ((List.length x2 : Nat) : Int))), (6, vi ((List.length x2 : Nat) : Int)), (3, V.t (T.ptr [tl x0, ti x1])), (1, vl x2), (2, V.fn 92 [V.t (T.ptr [ti x3]), V.ref 500 0])], [(500, oc 3 [ti o500]), (2017, oc 4 [])]⟩) (by kernel_rfl) trivial ?_
          refine WP.block ?_
          refine WP.wk [.keep [19, 18, 8, 7, 14, 13, 6, 3, 1, 2], .keepO [500, 2017], .names [(500, 500), (2017, 2017)]] (σ' := ⟨[500, 2017], [(19, vi 0), (18, vi ((List.length x2 : Nat) : Int)), (8, vo 2017 0), (7, vi v14), (14, vi v14), (13, vi ((1 : Int) * 2 ^ Int.toNat ((List.length x2 : Nat) : Int))), (6, vi ((List.length x2 : Nat) : Int)), (3, V.t (T.ptr [tl x0, ti x1])), (1, vl x2), (2, V.fn 92 [V.t (T.ptr [ti x3]), V.ref 500 0])], [(500, oc 3 [ti o500]), (2017, oc 4 [])]⟩) (ps := []) (by kernel_rfl) trivial ?_
          refine WP.st (σ' := ⟨[500, 2017], [(19, vi (0 : Int)), (18, vi ((List.length x2 : Nat) : Int)), (8, vo 2017 (List.length ([] : List Bool))), (7, vi v14), (14, vi v14), (13, vi ((1 : Int) * 2 ^ Int.toNat ((List.length x2 : Nat) : Int))), (6, vi ((List.length x2 : Nat) : Int)), (3, V.t (T.ptr [tl x0, ti x1])), (1, vl x2), (2, V.fn 92 [V.t (T.ptr [ti x3]), V.ref 500 0])], [(500, oc 3 [ti o500]), (2017, oc 4 (List.map T.bool ([] : List Bool)))]⟩) (by first | rfl | (simp only [tlS, tl, vl, vo, oc, ov, tbl, vbl, ty, vy] <;> rfl) | (simp <;> omega) | (simp []; done) | (rw [List.take_of_length_le (by simp [])] <;> rfl) | (simp [List.take_of_length_le]; done)) ?_
          refine WP.loop (α := Nat × (List Bool) × Int) (fun zz => ⟨[500, 2017], [(19, vi zz.2.2), (18, vi ((List.length x2 : Nat) : Int)), (8, vo 2017 (List.length zz.2.1)), (7, vi v14), (14, vi v14), (13, vi ((1 : Int) * 2 ^ Int.toNat ((List.length x2 : Nat) : Int))), (6, vi ((List.length x2 : Nat) : Int)), (3, V.t (T.ptr [tl x0, ti x1])), (1, vl x2), (2, V.fn 92 [V.t (T.ptr [ti x3]), V.ref 500 0])], [(500, oc 3 [ti o500]), (2017, oc 4 (List.map T.bool zz.2.1))]⟩) (fun zz => F_impl_State_lists_92_L2 x2 v14 J2 zz.1 zz.2.1 zz.2.2 = some y0) (fun zz => zz.1) (fuel, ([] : List Bool), (0 : Int)) h ?_
          rintro ⟨n, o17, v19⟩ h0
          have h := (show F_impl_State_lists_92_L2 x2 v14 J2 n o17 v19 = some y0 from h0)
          rcases n with _ | n
          · rw [F_impl_State_lists_92_L2] at h; cases h
          · rw [F_impl_State_lists_92_L2] at h
            refine WP.seq ?_
            refine WP.path tab_ok mixed [] [.keep [20, 19, 18, 8, 7, 14, 13, 6, 3, 1, 2], .keepO [500, 2017]] (ps := [(True)]) (e := .normal) (σ' := ⟨[500, 2017], [(20, vb (decide (v19 < ((List.length x2 : Nat) : Int)))), (19, vi v19), (18, vi ((List.length x2 : Nat) : Int)), (8, vo 2017 (List.length o17)), (7, vi v14), (14, vi v14), (13, vi ((1 : Int) * 2 ^ Int.toNat ((List.length x2 : Nat) : Int))), (6, vi ((List.length x2 : Nat) : Int)), (3, V.t (T.ptr [tl x0, ti x1])), (1, vl x2), (2, V.fn 92 [V.t (T.ptr [ti x3]), V.ref 500 0])], [(500, oc 3 [ti o500]), (2017, oc 4 (List.map T.bool o17))]⟩) (by kernel_rfl) ⟨trivial, trivial⟩ ?_
            refine WP.seq ?_
            rcases ite_some h with ⟨h2, h⟩ | ⟨h2, h⟩
            · -- yes
              refine WP.cond (b := decide (v19 < ((List.length x2 : Nat) : Int))) rfl (fun _ => ?_) (fun hh => by rw [h2] at hh; cases hh)
              refine WP.path tab_ok mixed [] [.keep [19, 18, 8, 7, 14, 13, 6, 3, 1, 2], .keepO [500, 2017]] (ps := []) (e := .normal) (σ' := ⟨[500, 2017], [(19, vi v19), (18, vi ((List.length x2 : Nat) : Int)), (8, vo 2017 (List.length o17)), (7, vi v14), (14, vi v14), (13, vi ((1 : Int) * 2 ^ Int.toNat ((List.length x2 : Nat) : Int))), (6, vi ((List.length x2 : Nat) : Int)), (3, V.t (T.ptr [tl x0, ti x1])), (1, vl x2), (2, V.fn 92 [V.t (T.ptr [ti x3]), V.ref 500 0])], [(500, oc 3 [ti o500]), (2017, oc 4 (List.map T.bool o17))]⟩) (by kernel_rfl) trivial ?_
              refine WP.seq ?_
              refine WP.block ?_
              obtain ⟨c1, h⟩ := chk_some h
              obtain ⟨n25, c2, h⟩ := nam_some h
              obtain ⟨c3, h⟩ := chk_some h
              obtain ⟨c4, h⟩ := chk_some h
              obtain ⟨c5, h⟩ := chk_some h
              refine WP.path tab_ok mixed [(25, An.v (ti n25)), (27, An.v (T.int .i64 (n25 - v19))), (28, An.call (tb (hasB v14 (n25 - v19)))), (29, An.fz), (30, An.id 2030)] [.keep [8, 19, 18, 7, 14, 13, 6, 3, 1, 2], .keepO [500, 2030]] (ps := [(True), (T.int .i64 (IntKind.wrap .i64 (((List.length x2 : Nat) : Int) - (1 : Int))) = ti n25), (True), (T.int .i64 (IntKind.wrap .i64 (n25 - v19)) = T.int .i64 (n25 - v19)), (C Try.prog 90 [ti v14, ti (n25 - v19)] (tb (hasB v14 (n25 - v19)))), ((1 = 1 ∧ 0 + 1 ≤ 1) ∧ True), (1 = 1 * 1), (True), (List.length (List.map T.bool o17) = (List.length o17) * 1), ((((List.length o17) + 1) * 1 ≤ 140737488355328 ∧ (List.length o17) + 1 ≤ maxLen))]) (e := .normal) (σ' := ⟨[2030, 500, 2017], [(8, vo 2030 ((List.length o17) + 1)), (19, vi v19), (18, vi ((List.length x2 : Nat) : Int)), (7, vi v14), (14, vi v14), (13, vi ((1 : Int) * 2 ^ Int.toNat ((List.length x2 : Nat) : Int))), (6, vi ((List.length x2 : Nat) : Int)), (3, V.t (T.ptr [tl x0, ti x1])), (1, vl x2), (2, V.fn 92 [V.t (T.ptr [ti x3]), V.ref 500 0])], [(500, oc 3 [ti o500]), (2030, oc 4 ((List.map T.bool o17) ++ [tb (hasB v14 (n25 - v19))]))]⟩) (by kernel_rfl) ⟨trivial, Eq.trans (wrapI c1) (congrArg (ti) c2), trivial, wrapI c3, (has_C v14 (n25 - v19) c4), ⟨⟨by first | rfl | (simp; done) | (simp []; done) | omega, by first | decide | (simp; done) | (simp []; done) | omega | (simp only [tlL]; omega) | (simp; omega)⟩, trivial⟩, by decide, trivial, by first | rfl | omega | (simp only [tlL] <;> omega) | (simp <;> omega) | (simp [] <;> omega), c5, trivial⟩ ?_
              obtain ⟨c6, h⟩ := chk_some h
              refine WP.path tab_ok mixed [(31, An.v (T.int .i64 (v19 + (1 : Int))))] [.keep [19, 18, 8, 7, 14, 13, 6, 3, 1, 2], .keepO [500, 2030], .names [(500, 500), (2030, 2017)]] (ps := [(True), (T.int .i64 (IntKind.wrap .i64 (v19 + (1 : Int))) = T.int .i64 (v19 + (1 : Int)))]) (e := .normal) (σ' := ⟨[500, 2017], [(19, vi (v19 + (1 : Int))), (18, vi ((List.length x2 : Nat) : Int)), (8, vo 2017 ((List.length o17) + 1)), (7, vi v14), (14, vi v14), (13, vi ((1 : Int) * 2 ^ Int.toNat ((List.length x2 : Nat) : Int))), (6, vi ((List.length x2 : Nat) : Int)), (3, V.t (T.ptr [tl x0, ti x1])), (1, vl x2), (2, V.fn 92 [V.t (T.ptr [ti x3]), V.ref 500 0])], [(500, oc 3 [ti o500]), (2017, oc 4 ((List.map T.bool o17) ++ [tb (hasB v14 (n25 - v19))]))]⟩) (by kernel_rfl) ⟨trivial, wrapI c6, trivial⟩ ?_
              exact ⟨(n, o17 ++ [hasB v14 (n25 - v19)], (v19 + (1 : Int))), h, Nat.lt_succ_self _, (by first | rfl | (simp only [tlS, tl, vl, vo, oc, ov, tbl, vbl, ty, vy] <;> rfl) | (simp <;> omega) | (simp []; done) | (rw [List.take_of_length_le (by simp [])] <;> rfl) | (simp [List.take_of_length_le]; done))⟩
            · -- no
              refine WP.cond (b := decide (v19 < ((List.length x2 : Nat) : Int))) rfl (fun hh => by rw [h2] at hh; cases hh) (fun _ => ?_)
              refine WP.path tab_ok mixed [] [.keep [8, 14, 13, 6, 3, 1, 2], .keepO [500, 2017], .names [(500, 500), (2017, 2017)]] (ps := []) (e := (.exit 2)) (σ' := ⟨[500, 2017], [(8, vo 2017 (List.length o17)), (14, vi v14), (13, vi ((1 : Int) * 2 ^ Int.toNat ((List.length x2 : Nat) : Int))), (6, vi ((List.length x2 : Nat) : Int)), (3, V.t (T.ptr [tl x0, ti x1])), (1, vl x2), (2, V.fn 92 [V.t (T.ptr [ti x3]), V.ref 500 0])], [(500, oc 3 [ti o500]), (2017, oc 4 (List.map T.bool o17))]⟩) (by kernel_rfl) trivial ?_
              exact ⟨(o17), h, rfl⟩
        · -- from there
          intro o17 h0
          have h := (show J2 o17 = some y0 from h0)
          rw [hJ2] at h
          refine WP.wk [.freeze 2017] (ps := [List.length (List.map T.bool o17) = (List.length o17) * 1]) (σ' := ⟨[500, 2017], [(8, vbl o17), (14, vi v14), (13, vi ((1 : Int) * 2 ^ Int.toNat ((List.length x2 : Nat) : Int))), (6, vi ((List.length x2 : Nat) : Int)), (3, V.t (T.ptr [tl x0, ti x1])), (1, vl x2), (2, V.fn 92 [V.t (T.ptr [ti x3]), V.ref 500 0])], [(500, oc 3 [ti o500])]⟩) (by kernel_rfl) ⟨by first | rfl | omega | (simp <;> omega) | (simp [hl] <;> omega), trivial⟩ ?_
          obtain ⟨r37, r37b, c1, h⟩ := bnd2_some h
          obtain ⟨c2, h⟩ := chk_some h
          obtain ⟨r40, c3, h⟩ := bnd1_some h
          refine WP.path tab_ok mixed [(37, An.callG [] [V.t (T.agg [tl x0, ti x1]), vl x2, vbl o17] [] (V.t (T.agg [tl r37, ti r37b])) []), (38, An.callG [(9000, 10380)] [V.t (T.agg [tl r37, ti r37b])] [] (vo 9000 (List.length (openN r37))) [(9000, oc 3 (List.map (T.int .i64) (openN r37)))]), (40, An.callG [(500, 500)] [vbl o17, vi ((List.length (openN r37) : Nat) : Int), V.t (T.ptr [ti x3]), V.ref 500 0] [(500, oc 3 [ti o500])] (V.t (T.tup [])) [(500, oc 3 [ti r40])])] [.keep [14, 13, 6, 3, 1, 2], .keepO [500], .names [(500, 500)]] (ps := [(2 ≤ 2), (CG Try.prog 52 [V.t (T.agg [tl x0, ti x1]), vl x2, vbl o17] [] (V.t (T.agg [tl r37, ti r37b])) []), (WkT (T.agg [tl x0, ti x1]) (T.agg [tl x0, ti x1])), (WkT (tl x2) (tl x2)), (WkT (tbl o17) (tbl o17)), (CG Try.prog 57 [V.t (T.agg [tl r37, ti r37b])] [] (vo 9000 (List.length (openN r37))) [(9000, oc 3 (List.map (T.int .i64) (openN r37)))]), (WkT (T.agg [tl r37, ti r37b]) (T.agg [tl r37, ti r37b])), (CG Try.prog 92 [vbl o17, vi ((List.length (openN r37) : Nat) : Int), V.t (T.ptr [ti x3]), V.ref 500 0] [(500, oc 3 [ti o500])] (V.t (T.tup [])) [(500, oc 3 [ti r40])]), (WkT (tbl o17) (tbl o17)), (WkT (ti ((List.length (openN r37) : Nat) : Int)) (ti ((List.length (openN r37) : Nat) : Int))), (WkT (T.ptr [ti x3]) (T.ptr [ti x3])), ((V.ref 500 0).ren (renF [(500, 500)]) = V.ref 500 0), ((oc 3 [ti o500]) = (oc 3 [ti o500]).ren (renF [(500, 500)]))]) (e := .normal) (σ' := ⟨[500], [(14, vi v14), (13, vi ((1 : Int) * 2 ^ Int.toNat ((List.length x2 : Nat) : Int))), (6, vi ((List.length x2 : Nat) : Int)), (3, V.t (T.ptr [tl x0, ti x1])), (1, vl x2), (2, V.fn 92 [V.t (T.ptr [ti x3]), V.ref 500 0])], [(500, oc 3 [ti r40])]⟩) (by kernel_rfl) ⟨by decide, (F_impl_State_told_W x0 x1 x2 o17 r37 r37b c1), WkT.refl _, WkT.refl _, WkT.refl _, (open_C_G r37 r37b c2), WkT.refl _, (F_impl_State_count_1_W o17 ((List.length (openN r37) : Nat) : Int) x3 o500 r40 c3), WkT.refl _, WkT.refl _, WkT.refl _, by first | rfl | (simp [V.ren, V.renL, renF, lk]; done) | (simp [V.ren, V.renL, renF, lk]; omega), by first | rfl | (simp only [tlS]; rfl) | (simp [Tl.Obj.ren, V.ren, V.renL, renF, lk]; done), trivial⟩ ?_
          exact ⟨(r40), h, rfl⟩
      · -- from there
        intro o500b h0
        have h := (show J1 o500b = some y0 from h0)
        rw [hJ1] at h
        obtain ⟨c1, h⟩ := chk_some h
        refine WP.path tab_ok mixed [(41, An.v (T.int .i64 (v14 + (1 : Int))))] [.keep [14, 13, 6, 3, 1, 2], .keepO [500], .names [(500, 500)]] (ps := [(True), (T.int .i64 (IntKind.wrap .i64 (v14 + (1 : Int))) = T.int .i64 (v14 + (1 : Int)))]) (e := .normal) (σ' := ⟨[500], [(14, vi (v14 + (1 : Int))), (13, vi ((1 : Int) * 2 ^ Int.toNat ((List.length x2 : Nat) : Int))), (6, vi ((List.length x2 : Nat) : Int)), (3, V.t (T.ptr [tl x0, ti x1])), (1, vl x2), (2, V.fn 92 [V.t (T.ptr [ti x3]), V.ref 500 0])], [(500, oc 3 [ti o500b])]⟩) (by kernel_rfl) ⟨trivial, wrapI c1, trivial⟩ ?_
        exact ⟨(n, o500b, (v14 + (1 : Int))), h, Nat.lt_succ_self _, rfl⟩
    · -- no
      refine WP.cond (b := decide (v14 < ((1 : Int) * 2 ^ Int.toNat ((List.length x2 : Nat) : Int)))) rfl (fun hh => by rw [h1] at hh; cases hh) (fun _ => ?_)
      have h := Option.some.inj h
      subst h
      exact WP.pathGx 0 tab_ok mixed [] [.keep [], .keepO [500], .names [(500, 500)]] [500] _ (r' := V.t (T.tup [])) (ps := []) (r := V.t (T.tup [])) (N := [500]) (O := [(500, oc 3 [ti o500])]) [] (by kernel_rfl) trivial ⟨(WkT.refl _), trivial⟩ rfl rfl (fun _ h => h)
theorem F_impl_State_count_W (x0 : List Int) (x1 : Int) (x2 : List Int) (x3 : Int) (y0 : Int) (h : F_impl_State_count x0 x1 x2 x3 = some y0) : C Try.prog 46 [T.agg [tl x0, ti x1], tl x2, ti x3] (ti y0) := by
  unfold F_impl_State_count at h
  refine C.intro (tab := tab) tab_ok (fn := Try.f46) Try.func46 (by kernel_rfl) rfl (Nat.le_of_ble_eq_true rfl) ?_
  obtain ⟨r11, c0, h⟩ := bnd1_some h
  have h := Option.some.inj h
  subst h
  exact WP.pathW tab_ok mixed [(3, An.fz), (5, An.fz), (7, An.id 2007), (11, An.callG [(500, 2007)] [V.t (T.agg [tl x0, ti x1]), vl x2, V.fn 92 [V.t (T.ptr [ti x3]), V.ref 500 0]] [(500, oc 3 [ti 0])] (V.t (T.tup [])) [(500, oc 3 [ti r11])])] _ (ps := [(0 < 1), (2 ≤ 2), (CG Try.prog 41 [V.t (T.agg [tl x0, ti x1]), vl x2, V.fn 92 [V.t (T.ptr [ti x3]), V.ref 500 0]] [(500, oc 3 [ti 0])] (V.t (T.tup [])) [(500, oc 3 [ti r11])]), (WkT (T.agg [tl x0, ti x1]) (T.agg [tl x0, ti x1])), (WkT (tl x2) (tl x2)), ((V.fn 92 [V.t (T.ptr [ti x3]), V.ref 500 0]).ren (renF [(500, 2007)]) = V.fn 92 [V.t (T.ptr [ti x3]), V.ref 2007 0]), ((oc 3 [ti 0]) = (oc 3 [ti 0]).ren (renF [(500, 2007)])), (True)]) (r := ti r11) (by kernel_rfl) ⟨by decide, by decide, (F_impl_State_lists_92_W x0 x1 x2 x3 (0 : Int) r11 c0), WkT.refl _, WkT.refl _, by first | rfl | (simp [V.ren, V.renL, renF, lk]; done) | (simp [V.ren, V.renL, renF, lk]; omega), by first | rfl | (simp only [tlS]; rfl) | (simp [Tl.Obj.ren, V.ren, V.renL, renF, lk]; done), trivial, trivial⟩ (WkT.eq (y := ti r11) (WkT.refl _) rfl) (fun _ h => h)
theorem F_impl_CountFair_W (x0 : List Int) (x1 : Int) (x2 : List Int) (y0 : Int) (y1 : Bool) (h : F_impl_CountFair x0 x1 x2 = some (y0, y1)) : C Try.prog 10 [T.agg [tl x0, ti x1], tl x2] (T.tup [ti y0, tb y1]) := by
  unfold F_impl_CountFair at h
  refine C.intro (tab := tab) tab_ok (fn := Try.f10) Try.func10 (by kernel_rfl) rfl (Nat.le_of_ble_eq_true rfl) ?_
  refine WP.seq ?_
  refine WP.path tab_ok mixed [(2, An.fz)] [.keep [5, 4, 2, 1], .keepO []] (ps := []) (e := .normal) (σ' := ⟨[], [(5, vb false), (4, vi 0), (2, V.t (T.ptr [tl x0, ti x1])), (1, vl x2)], []⟩) (by kernel_rfl) trivial ?_
  refine WP.seq ?_
  refine WP.seq ?_
  obtain ⟨r8, c0, h⟩ := bnd1_some h
  refine WP.path tab_ok mixed [(8, An.call (tb r8))] [.keep [9, 5, 4, 2, 1], .keepO []] (ps := [(2 ≤ 2), (C Try.prog 40 [T.agg [tl x0, ti x1], tl x2] (tb r8))]) (e := .normal) (σ' := ⟨[], [(9, vb (!r8)), (5, vb false), (4, vi 0), (2, V.t (T.ptr [tl x0, ti x1])), (1, vl x2)], []⟩) (by kernel_rfl) ⟨by decide, (F_impl_areListed_W x0 x1 x2 r8 c0), trivial⟩ ?_
  rcases ite_some h with ⟨h1, h⟩ | ⟨h1, h⟩
  · -- yes
    refine WP.cond (b := !r8) rfl (fun _ => ?_) (fun hh => by rw [h1] at hh; cases hh)
    simp only [Option.some.injEq, Prod.mk.injEq] at h
    obtain ⟨rfl, rfl⟩ := h
    exact WP.pathW tab_ok mixed [] _ (ps := []) (r := T.tup [ti 0, tb false]) (by kernel_rfl) trivial (WkT.eq (y := T.tup [ti 0, tb false]) (WkT.refl _) (by first | rfl | (simp only [tlS, tl, vl, vo, oc, ov, tbl, vbl, ty, vy] <;> rfl) | (simp <;> omega) | (simp []; done) | (rw [List.take_of_length_le (by simp [])] <;> rfl) | (simp [List.take_of_length_le]; done))) (fun _ h => h)
  · -- no
    refine WP.cond (b := !r8) rfl (fun hh => by rw [h1] at hh; cases hh) (fun _ => ?_)
    refine WP.path tab_ok mixed [] [.keep [5, 4, 2, 1], .keepO []] (ps := []) (e := .normal) (σ' := ⟨[], [(5, vb false), (4, vi 0), (2, V.t (T.ptr [tl x0, ti x1])), (1, vl x2)], []⟩) (by kernel_rfl) trivial ?_
    obtain ⟨r12, c1, h⟩ := bnd1_some h
    simp only [Option.some.injEq, Prod.mk.injEq] at h
    obtain ⟨rfl, rfl⟩ := h
    exact WP.pathW tab_ok mixed [(12, An.call (ti r12))] _ (ps := [(2 ≤ 2), (C Try.prog 46 [T.agg [tl x0, ti x1], tl x2, ti 1] (ti r12))]) (r := T.tup [ti r12, tb true]) (by kernel_rfl) ⟨by decide, (F_impl_State_count_W x0 x1 x2 (1 : Int) r12 c1), trivial⟩ (WkT.eq (y := T.tup [ti r12, tb true]) (WkT.refl _) rfl) (fun _ h => h)
theorem F_spec_l8Count_W (x0 : List Int) (x1 : Int) (x2 : List Int) (x3 : Int) (y0 : Int) (h : F_spec_l8Count x0 x1 x2 x3 = some y0) : C Try.prog 47 [T.agg [tl x0, ti x1], tl x2, ti x3] (ti y0) := by
  unfold F_spec_l8Count at h
  refine C.intro (tab := tab) tab_ok (fn := Try.f47) Try.func47 (by kernel_rfl) rfl (Nat.le_of_ble_eq_true rfl) ?_
  refine WP.seq ?_
  refine WP.path tab_ok mixed [(3, An.fz)] [.keep [6, 3, 1, 2], .keepO []] (ps := []) (e := .normal) (σ' := ⟨[], [(6, vi 0), (3, V.t (T.ptr [tl x0, ti x1])), (1, vl x2), (2, vi x3)], []⟩) (by kernel_rfl) trivial ?_
  refine WP.seq ?_
  refine WP.path tab_ok mixed [] [.keep [7, 6, 3, 1, 2], .keepO []] (ps := []) (e := .normal) (σ' := ⟨[], [(7, vi 0), (6, vi 0), (3, V.t (T.ptr [tl x0, ti x1])), (1, vl x2), (2, vi x3)], []⟩) (by kernel_rfl) trivial ?_
  obtain ⟨J1, hJ1, h⟩ := jn_some h
  refine WP.joinA (fun (zz : Int) => ⟨[], [(7, vi zz), (6, vi 0)], []⟩) (fun zz => J1 zz = some y0) ?_ ?_
  · -- to where they meet
    refine WP.seq ?_
    refine WP.path tab_ok mixed [] [.keep [8, 7, 6, 3, 1, 2], .keepO []] (ps := []) (e := .normal) (σ' := ⟨[], [(8, vi 0), (7, vi 0), (6, vi 0), (3, V.t (T.ptr [tl x0, ti x1])), (1, vl x2), (2, vi x3)], []⟩) (by kernel_rfl) trivial ?_
    refine WP.block ?_
    refine WP.wk [.keep [8, 7, 6, 3, 1, 2], .keepO [], .names []] (σ' := ⟨[], [(8, vi 0), (7, vi 0), (6, vi 0), (3, V.t (T.ptr [tl x0, ti x1])), (1, vl x2), (2, vi x3)], []⟩) (ps := []) (by kernel_rfl) trivial ?_
    refine WP.st (σ' := ⟨[], [(8, vi (0 : Int)), (7, vi (0 : Int)), (6, vi 0), (3, V.t (T.ptr [tl x0, ti x1])), (1, vl x2), (2, vi x3)], []⟩) (by first | rfl | (simp only [tlS, tl, vl, vo, oc, ov, tbl, vbl, ty, vy] <;> rfl) | (simp <;> omega) | (simp []; done) | (rw [List.take_of_length_le (by simp [])] <;> rfl) | (simp [List.take_of_length_le]; done)) ?_
    refine WP.loop (α := Nat × Int × Int) (fun zz => ⟨[], [(8, vi zz.2.1), (7, vi zz.2.2), (6, vi 0), (3, V.t (T.ptr [tl x0, ti x1])), (1, vl x2), (2, vi x3)], []⟩) (fun zz => F_spec_l8Count_L1 x0 x1 x2 x3 J1 zz.1 zz.2.1 zz.2.2 = some y0) (fun zz => zz.1) (fuel, (0 : Int), (0 : Int)) h ?_
    rintro ⟨n, v8, v7⟩ h0
    have h := (show F_spec_l8Count_L1 x0 x1 x2 x3 J1 n v8 v7 = some y0 from h0)
    rcases n with _ | n
    · rw [F_spec_l8Count_L1] at h; cases h
    · rw [F_spec_l8Count_L1] at h
      refine WP.seq ?_
      refine WP.seq ?_
      obtain ⟨c0, h⟩ := chk_some h
      refine WP.path tab_ok mixed [(12, An.v (T.int .i64 ((1 : Int) * 2 ^ Int.toNat ((List.length x2 : Nat) : Int))))] [.keep [13, 8, 7, 6, 3, 1, 2], .keepO []] (ps := [(0 ≤ ((List.length x2 : Nat) : Int)), (T.int .i64 (IntKind.wrap .i64 ((1 : Int) * 2 ^ (min (Int.toNat ((List.length x2 : Nat) : Int)) 64))) = T.int .i64 ((1 : Int) * 2 ^ Int.toNat ((List.length x2 : Nat) : Int))), (True)]) (e := .normal) (σ' := ⟨[], [(13, vb (decide (v8 < ((1 : Int) * 2 ^ Int.toNat ((List.length x2 : Nat) : Int))))), (8, vi v8), (7, vi v7), (6, vi 0), (3, V.t (T.ptr [tl x0, ti x1])), (1, vl x2), (2, vi x3)], []⟩) (by kernel_rfl) ⟨c0.1, shl_told c0, trivial, trivial⟩ ?_
      rcases ite_some h with ⟨h1, h⟩ | ⟨h1, h⟩
      · -- yes
        refine WP.cond (b := decide (v8 < ((1 : Int) * 2 ^ Int.toNat ((List.length x2 : Nat) : Int)))) rfl (fun _ => ?_) (fun hh => by rw [h1] at hh; cases hh)
        refine WP.path tab_ok mixed [] [.keep [8, 7, 6, 3, 1, 2], .keepO []] (ps := []) (e := .normal) (σ' := ⟨[], [(8, vi v8), (7, vi v7), (6, vi 0), (3, V.t (T.ptr [tl x0, ti x1])), (1, vl x2), (2, vi x3)], []⟩) (by kernel_rfl) trivial ?_
        refine WP.seq ?_
        refine WP.block ?_
        refine WP.seq ?_
        obtain ⟨r19, c1, h⟩ := bnd1_some h
        refine WP.path tab_ok mixed [(19, An.call (ti r19))] [.keep [21, 8, 7, 6, 3, 1, 2], .keepO []] (ps := [(2 ≤ 2), (C Try.prog 44 [T.agg [tl x0, ti x1], tl x2, ti v8] (ti r19)), (True)]) (e := .normal) (σ' := ⟨[], [(21, vb (decide (r19 ≥ x3))), (8, vi v8), (7, vi v7), (6, vi 0), (3, V.t (T.ptr [tl x0, ti x1])), (1, vl x2), (2, vi x3)], []⟩) (by kernel_rfl) ⟨by decide, (F_spec_l8Left_W x0 x1 x2 v8 r19 c1), trivial, trivial⟩ ?_
        rcases ite_some h with ⟨h2, h⟩ | ⟨h2, h⟩
        · -- yes
          refine WP.cond (b := decide (r19 ≥ x3)) rfl (fun _ => ?_) (fun hh => by rw [h2] at hh; cases hh)
          obtain ⟨c2, h⟩ := chk_some h
          refine WP.path tab_ok mixed [(23, An.v (T.int .i64 (v7 + (1 : Int))))] [.keep [7, 8, 6, 3, 1, 2], .keepO []] (ps := [(True), (T.int .i64 (IntKind.wrap .i64 (v7 + (1 : Int))) = T.int .i64 (v7 + (1 : Int)))]) (e := .normal) (σ' := ⟨[], [(7, vi (v7 + (1 : Int))), (8, vi v8), (6, vi 0), (3, V.t (T.ptr [tl x0, ti x1])), (1, vl x2), (2, vi x3)], []⟩) (by kernel_rfl) ⟨trivial, wrapI c2, trivial⟩ ?_
          obtain ⟨c3, h⟩ := chk_some h
          refine WP.path tab_ok mixed [(15, An.v (T.int .i64 (v8 + (1 : Int))))] [.keep [8, 7, 6, 3, 1, 2], .keepO [], .names []] (ps := [(True), (T.int .i64 (IntKind.wrap .i64 (v8 + (1 : Int))) = T.int .i64 (v8 + (1 : Int)))]) (e := .normal) (σ' := ⟨[], [(8, vi (v8 + (1 : Int))), (7, vi (v7 + (1 : Int))), (6, vi 0), (3, V.t (T.ptr [tl x0, ti x1])), (1, vl x2), (2, vi x3)], []⟩) (by kernel_rfl) ⟨trivial, wrapI c3, trivial⟩ ?_
          exact ⟨(n, (v8 + (1 : Int)), (v7 + (1 : Int))), h, Nat.lt_succ_self _, rfl⟩
        · -- no
          refine WP.cond (b := decide (r19 ≥ x3)) rfl (fun hh => by rw [h2] at hh; cases hh) (fun _ => ?_)
          refine WP.path tab_ok mixed [] [.keep [8, 7, 6, 3, 1, 2], .keepO []] (ps := []) (e := .normal) (σ' := ⟨[], [(8, vi v8), (7, vi v7), (6, vi 0), (3, V.t (T.ptr [tl x0, ti x1])), (1, vl x2), (2, vi x3)], []⟩) (by kernel_rfl) trivial ?_
          obtain ⟨c2, h⟩ := chk_some h
          refine WP.path tab_ok mixed [(15, An.v (T.int .i64 (v8 + (1 : Int))))] [.keep [8, 7, 6, 3, 1, 2], .keepO [], .names []] (ps := [(True), (T.int .i64 (IntKind.wrap .i64 (v8 + (1 : Int))) = T.int .i64 (v8 + (1 : Int)))]) (e := .normal) (σ' := ⟨[], [(8, vi (v8 + (1 : Int))), (7, vi v7), (6, vi 0), (3, V.t (T.ptr [tl x0, ti x1])), (1, vl x2), (2, vi x3)], []⟩) (by kernel_rfl) ⟨trivial, wrapI c2, trivial⟩ ?_
          exact ⟨(n, (v8 + (1 : Int)), v7), h, Nat.lt_succ_self _, rfl⟩
      · -- no
        refine WP.cond (b := decide (v8 < ((1 : Int) * 2 ^ Int.toNat ((List.length x2 : Nat) : Int)))) rfl (fun hh => by rw [h1] at hh; cases hh) (fun _ => ?_)
        refine WP.path tab_ok mixed [] [.keep [7, 6], .keepO [], .names []] (ps := []) (e := (.exit 0)) (σ' := ⟨[], [(7, vi v7), (6, vi 0)], []⟩) (by kernel_rfl) trivial ?_
        exact ⟨(v7), h, rfl⟩
  · -- from there
    intro v7 h0
    have h := (show J1 v7 = some y0 from h0)
    rw [hJ1] at h
    have h := Option.some.inj h
    subst h
    exact WP.pathW tab_ok mixed [] _ (ps := []) (r := ti v7) (by kernel_rfl) trivial (WkT.eq (y := ti v7) (WkT.refl _) rfl) (fun _ h => h)
theorem F_spec_CountFair_W (x0 : List Int) (x1 : Int) (x2 : List Int) (y0 : Int) (y1 : Bool) (h : F_spec_CountFair x0 x1 x2 = some (y0, y1)) : C Try.prog 11 [T.agg [tl x0, ti x1], tl x2] (T.tup [ti y0, tb y1]) := by
  unfold F_spec_CountFair at h
  refine C.intro (tab := tab) tab_ok (fn := Try.f11) Try.func11 (by kernel_rfl) rfl (Nat.le_of_ble_eq_true rfl) ?_
  refine WP.seq ?_
  refine WP.path tab_ok mixed [(2, An.fz)] [.keep [5, 4, 2, 1], .keepO []] (ps := []) (e := .normal) (σ' := ⟨[], [(5, vb false), (4, vi 0), (2, V.t (T.ptr [tl x0, ti x1])), (1, vl x2)], []⟩) (by kernel_rfl) trivial ?_
  refine WP.seq ?_
  refine WP.seq ?_
  obtain ⟨r8, c0, h⟩ := bnd1_some h
  refine WP.path tab_ok mixed [(8, An.call (tb r8))] [.keep [9, 5, 4, 2, 1], .keepO []] (ps := [(2 ≤ 2), (C Try.prog 43 [T.agg [tl x0, ti x1], tl x2] (tb r8))]) (e := .normal) (σ' := ⟨[], [(9, vb (!r8)), (5, vb false), (4, vi 0), (2, V.t (T.ptr [tl x0, ti x1])), (1, vl x2)], []⟩) (by kernel_rfl) ⟨by decide, (F_spec_l8Good_W x0 x1 x2 r8 c0), trivial⟩ ?_
  rcases ite_some h with ⟨h1, h⟩ | ⟨h1, h⟩
  · -- yes
    refine WP.cond (b := !r8) rfl (fun _ => ?_) (fun hh => by rw [h1] at hh; cases hh)
    simp only [Option.some.injEq, Prod.mk.injEq] at h
    obtain ⟨rfl, rfl⟩ := h
    exact WP.pathW tab_ok mixed [] _ (ps := []) (r := T.tup [ti 0, tb false]) (by kernel_rfl) trivial (WkT.eq (y := T.tup [ti 0, tb false]) (WkT.refl _) (by first | rfl | (simp only [tlS, tl, vl, vo, oc, ov, tbl, vbl, ty, vy] <;> rfl) | (simp <;> omega) | (simp []; done) | (rw [List.take_of_length_le (by simp [])] <;> rfl) | (simp [List.take_of_length_le]; done))) (fun _ h => h)
  · -- no
    refine WP.cond (b := !r8) rfl (fun hh => by rw [h1] at hh; cases hh) (fun _ => ?_)
    refine WP.path tab_ok mixed [] [.keep [5, 4, 2, 1], .keepO []] (ps := []) (e := .normal) (σ' := ⟨[], [(5, vb false), (4, vi 0), (2, V.t (T.ptr [tl x0, ti x1])), (1, vl x2)], []⟩) (by kernel_rfl) trivial ?_
    obtain ⟨r12, c1, h⟩ := bnd1_some h
    simp only [Option.some.injEq, Prod.mk.injEq] at h
    obtain ⟨rfl, rfl⟩ := h
    exact WP.pathW tab_ok mixed [(12, An.call (ti r12))] _ (ps := [(2 ≤ 2), (C Try.prog 47 [T.agg [tl x0, ti x1], tl x2, ti 1] (ti r12))]) (r := T.tup [ti r12, tb true]) (by kernel_rfl) ⟨by decide, (F_spec_l8Count_W x0 x1 x2 (1 : Int) r12 c1), trivial⟩ (WkT.eq (y := T.tup [ti r12, tb true]) (WkT.refl _) rfl) (fun _ h => h)
theorem F_impl_CountHolding_W (x0 : List Int) (x1 : Int) (x2 : List Int) (y0 : Int) (y1 : Bool) (h : F_impl_CountHolding x0 x1 x2 = some (y0, y1)) : C Try.prog 12 [T.agg [tl x0, ti x1], tl x2] (T.tup [ti y0, tb y1]) := by
  unfold F_impl_CountHolding at h
  refine C.intro (tab := tab) tab_ok (fn := Try.f12) Try.func12 (by kernel_rfl) rfl (Nat.le_of_ble_eq_true rfl) ?_
  refine WP.seq ?_
  refine WP.path tab_ok mixed [(2, An.fz)] [.keep [5, 4, 2, 1], .keepO []] (ps := []) (e := .normal) (σ' := ⟨[], [(5, vb false), (4, vi 0), (2, V.t (T.ptr [tl x0, ti x1])), (1, vl x2)], []⟩) (by kernel_rfl) trivial ?_
  refine WP.seq ?_
  refine WP.seq ?_
  obtain ⟨r8, c0, h⟩ := bnd1_some h
  refine WP.path tab_ok mixed [(8, An.call (tb r8))] [.keep [9, 5, 4, 2, 1], .keepO []] (ps := [(2 ≤ 2), (C Try.prog 40 [T.agg [tl x0, ti x1], tl x2] (tb r8))]) (e := .normal) (σ' := ⟨[], [(9, vb (!r8)), (5, vb false), (4, vi 0), (2, V.t (T.ptr [tl x0, ti x1])), (1, vl x2)], []⟩) (by kernel_rfl) ⟨by decide, (F_impl_areListed_W x0 x1 x2 r8 c0), trivial⟩ ?_
  rcases ite_some h with ⟨h1, h⟩ | ⟨h1, h⟩
  · -- yes
    refine WP.cond (b := !r8) rfl (fun _ => ?_) (fun hh => by rw [h1] at hh; cases hh)
    simp only [Option.some.injEq, Prod.mk.injEq] at h
    obtain ⟨rfl, rfl⟩ := h
    exact WP.pathW tab_ok mixed [] _ (ps := []) (r := T.tup [ti 0, tb false]) (by kernel_rfl) trivial (WkT.eq (y := T.tup [ti 0, tb false]) (WkT.refl _) (by first | rfl | (simp only [tlS, tl, vl, vo, oc, ov, tbl, vbl, ty, vy] <;> rfl) | (simp <;> omega) | (simp []; done) | (rw [List.take_of_length_le (by simp [])] <;> rfl) | (simp [List.take_of_length_le]; done))) (fun _ h => h)
  · -- no
    refine WP.cond (b := !r8) rfl (fun hh => by rw [h1] at hh; cases hh) (fun _ => ?_)
    refine WP.path tab_ok mixed [] [.keep [5, 4, 2, 1], .keepO []] (ps := []) (e := .normal) (σ' := ⟨[], [(5, vb false), (4, vi 0), (2, V.t (T.ptr [tl x0, ti x1])), (1, vl x2)], []⟩) (by kernel_rfl) trivial ?_
    obtain ⟨r12, c1, h⟩ := bnd1_some h
    simp only [Option.some.injEq, Prod.mk.injEq] at h
    obtain ⟨rfl, rfl⟩ := h
    exact WP.pathW tab_ok mixed [(12, An.call (ti r12))] _ (ps := [(2 ≤ 2), (C Try.prog 46 [T.agg [tl x0, ti x1], tl x2, ti 2] (ti r12))]) (r := T.tup [ti r12, tb true]) (by kernel_rfl) ⟨by decide, (F_impl_State_count_W x0 x1 x2 (2 : Int) r12 c1), trivial⟩ (WkT.eq (y := T.tup [ti r12, tb true]) (WkT.refl _) rfl) (fun _ h => h)
theorem F_spec_CountHolding_W (x0 : List Int) (x1 : Int) (x2 : List Int) (y0 : Int) (y1 : Bool) (h : F_spec_CountHolding x0 x1 x2 = some (y0, y1)) : C Try.prog 13 [T.agg [tl x0, ti x1], tl x2] (T.tup [ti y0, tb y1]) := by
  unfold F_spec_CountHolding at h
  refine C.intro (tab := tab) tab_ok (fn := Try.f13) Try.func13 (by kernel_rfl) rfl (Nat.le_of_ble_eq_true rfl) ?_
  refine WP.seq ?_
  refine WP.path tab_ok mixed [(2, An.fz)] [.keep [5, 4, 2, 1], .keepO []] (ps := []) (e := .normal) (σ' := ⟨[], [(5, vb false), (4, vi 0), (2, V.t (T.ptr [tl x0, ti x1])), (1, vl x2)], []⟩) (by kernel_rfl) trivial ?_
  refine WP.seq ?_
  refine WP.seq ?_
  obtain ⟨r8, c0, h⟩ := bnd1_some h
  refine WP.path tab_ok mixed [(8, An.call (tb r8))] [.keep [9, 5, 4, 2, 1], .keepO []] (ps := [(2 ≤ 2), (C Try.prog 43 [T.agg [tl x0, ti x1], tl x2] (tb r8))]) (e := .normal) (σ' := ⟨[], [(9, vb (!r8)), (5, vb false), (4, vi 0), (2, V.t (T.ptr [tl x0, ti x1])), (1, vl x2)], []⟩) (by kernel_rfl) ⟨by decide, (F_spec_l8Good_W x0 x1 x2 r8 c0), trivial⟩ ?_
  rcases ite_some h with ⟨h1, h⟩ | ⟨h1, h⟩
  · -- yes
    refine WP.cond (b := !r8) rfl (fun _ => ?_) (fun hh => by rw [h1] at hh; cases hh)
    simp only [Option.some.injEq, Prod.mk.injEq] at h
    obtain ⟨rfl, rfl⟩ := h
    exact WP.pathW tab_ok mixed [] _ (ps := []) (r := T.tup [ti 0, tb false]) (by kernel_rfl) trivial (WkT.eq (y := T.tup [ti 0, tb false]) (WkT.refl _) (by first | rfl | (simp only [tlS, tl, vl, vo, oc, ov, tbl, vbl, ty, vy] <;> rfl) | (simp <;> omega) | (simp []; done) | (rw [List.take_of_length_le (by simp [])] <;> rfl) | (simp [List.take_of_length_le]; done))) (fun _ h => h)
  · -- no
    refine WP.cond (b := !r8) rfl (fun hh => by rw [h1] at hh; cases hh) (fun _ => ?_)
    refine WP.path tab_ok mixed [] [.keep [5, 4, 2, 1], .keepO []] (ps := []) (e := .normal) (σ' := ⟨[], [(5, vb false), (4, vi 0), (2, V.t (T.ptr [tl x0, ti x1])), (1, vl x2)], []⟩) (by kernel_rfl) trivial ?_
    obtain ⟨r12, c1, h⟩ := bnd1_some h
    simp only [Option.some.injEq, Prod.mk.injEq] at h
    obtain ⟨rfl, rfl⟩ := h
    exact WP.pathW tab_ok mixed [(12, An.call (ti r12))] _ (ps := [(2 ≤ 2), (C Try.prog 47 [T.agg [tl x0, ti x1], tl x2, ti 2] (ti r12))]) (r := T.tup [ti r12, tb true]) (by kernel_rfl) ⟨by decide, (F_spec_l8Count_W x0 x1 x2 (2 : Int) r12 c1), trivial⟩ (WkT.eq (y := T.tup [ti r12, tb true]) (WkT.refl _) rfl) (fun _ h => h)
theorem F_impl_DoTell_W (x0 : List Int) (x1 : Int) (x2 : List Int) (y0 : Bool) (y1 : Bool) (h : F_impl_DoTell x0 x1 x2 = some (y0, y1)) : C Try.prog 14 [T.agg [tl x0, ti x1], tl x2] (T.tup [tb y0, tb y1]) := by
  unfold F_impl_DoTell at h
  refine C.intro (tab := tab) tab_ok (fn := Try.f14) Try.func14 (by kernel_rfl) rfl (Nat.le_of_ble_eq_true rfl) ?_
  refine WP.seq ?_
  refine WP.path tab_ok mixed [(2, An.fz)] [.keep [5, 4, 2, 1], .keepO []] (ps := []) (e := .normal) (σ' := ⟨[], [(5, vb false), (4, vb false), (2, V.t (T.ptr [tl x0, ti x1])), (1, vl x2)], []⟩) (by kernel_rfl) trivial ?_
  refine WP.seq ?_
  refine WP.seq ?_
  obtain ⟨r8, c0, h⟩ := bnd1_some h
  refine WP.path tab_ok mixed [(8, An.call (tb r8))] [.keep [9, 5, 4, 2, 1], .keepO []] (ps := [(2 ≤ 2), (C Try.prog 40 [T.agg [tl x0, ti x1], tl x2] (tb r8))]) (e := .normal) (σ' := ⟨[], [(9, vb (!r8)), (5, vb false), (4, vb false), (2, V.t (T.ptr [tl x0, ti x1])), (1, vl x2)], []⟩) (by kernel_rfl) ⟨by decide, (F_impl_areListed_W x0 x1 x2 r8 c0), trivial⟩ ?_
  rcases ite_some h with ⟨h1, h⟩ | ⟨h1, h⟩
  · -- yes
    refine WP.cond (b := !r8) rfl (fun _ => ?_) (fun hh => by rw [h1] at hh; cases hh)
    simp only [Option.some.injEq, Prod.mk.injEq] at h
    obtain ⟨rfl, rfl⟩ := h
    exact WP.pathW tab_ok mixed [] _ (ps := []) (r := T.tup [tb false, tb false]) (by kernel_rfl) trivial (WkT.eq (y := T.tup [tb false, tb false]) (WkT.refl _) rfl) (fun _ h => h)
  · -- no
    refine WP.cond (b := !r8) rfl (fun hh => by rw [h1] at hh; cases hh) (fun _ => ?_)
    refine WP.path tab_ok mixed [] [.keep [5, 4, 2, 1], .keepO []] (ps := []) (e := .normal) (σ' := ⟨[], [(5, vb false), (4, vb false), (2, V.t (T.ptr [tl x0, ti x1])), (1, vl x2)], []⟩) (by kernel_rfl) trivial ?_
    obtain ⟨r12, c1, h⟩ := bnd1_some h
    simp only [Option.some.injEq, Prod.mk.injEq] at h
    obtain ⟨rfl, rfl⟩ := h
    exact WP.pathW tab_ok mixed [(12, An.call (ti r12))] _ (ps := [(2 ≤ 2), (C Try.prog 46 [T.agg [tl x0, ti x1], tl x2, ti 2] (ti r12)), (True)]) (r := T.tup [tb (r12 == (0 : Int)), tb true]) (by kernel_rfl) ⟨by decide, (F_impl_State_count_W x0 x1 x2 (2 : Int) r12 c1), trivial, trivial⟩ (WkT.eq (y := T.tup [tb (r12 == (0 : Int)), tb true]) (WkT.refl _) rfl) (fun _ h => h)
theorem F_spec_l8Tell_W (x0 : List Int) (x1 : Int) (x2 : List Int) (y0 : Bool) (h : F_spec_l8Tell x0 x1 x2 = some y0) : C Try.prog 48 [T.agg [tl x0, ti x1], tl x2] (tb y0) := by
  unfold F_spec_l8Tell at h
  refine C.intro (tab := tab) tab_ok (fn := Try.f48) Try.func48 (by kernel_rfl) rfl (Nat.le_of_ble_eq_true rfl) ?_
  obtain ⟨r7, c0, h⟩ := bnd1_some h
  have h := Option.some.inj h
  subst h
  exact WP.pathW tab_ok mixed [(2, An.fz), (7, An.call (ti r7))] _ (ps := [(2 ≤ 2), (C Try.prog 47 [T.agg [tl x0, ti x1], tl x2, ti 2] (ti r7)), (True)]) (r := tb (r7 == (0 : Int))) (by kernel_rfl) ⟨by decide, (F_spec_l8Count_W x0 x1 x2 (2 : Int) r7 c0), trivial, trivial⟩ (WkT.eq (y := tb (r7 == (0 : Int))) (WkT.refl _) rfl) (fun _ h => h)
theorem F_spec_DoTell_W (x0 : List Int) (x1 : Int) (x2 : List Int) (y0 : Bool) (y1 : Bool) (h : F_spec_DoTell x0 x1 x2 = some (y0, y1)) : C Try.prog 15 [T.agg [tl x0, ti x1], tl x2] (T.tup [tb y0, tb y1]) := by
  unfold F_spec_DoTell at h
  refine C.intro (tab := tab) tab_ok (fn := Try.f15) Try.func15 (by kernel_rfl) rfl (Nat.le_of_ble_eq_true rfl) ?_
  refine WP.seq ?_
  refine WP.path tab_ok mixed [(2, An.fz)] [.keep [5, 4, 2, 1], .keepO []] (ps := []) (e := .normal) (σ' := ⟨[], [(5, vb false), (4, vb false), (2, V.t (T.ptr [tl x0, ti x1])), (1, vl x2)], []⟩) (by kernel_rfl) trivial ?_
  refine WP.seq ?_
  refine WP.seq ?_
  obtain ⟨r8, c0, h⟩ := bnd1_some h
  refine WP.path tab_ok mixed [(8, An.call (tb r8))] [.keep [9, 5, 4, 2, 1], .keepO []] (ps := [(2 ≤ 2), (C Try.prog 43 [T.agg [tl x0, ti x1], tl x2] (tb r8))]) (e := .normal) (σ' := ⟨[], [(9, vb (!r8)), (5, vb false), (4, vb false), (2, V.t (T.ptr [tl x0, ti x1])), (1, vl x2)], []⟩) (by kernel_rfl) ⟨by decide, (F_spec_l8Good_W x0 x1 x2 r8 c0), trivial⟩ ?_
  rcases ite_some h with ⟨h1, h⟩ | ⟨h1, h⟩
  · -- yes
    refine WP.cond (b := !r8) rfl (fun _ => ?_) (fun hh => by rw [h1] at hh; cases hh)
    simp only [Option.some.injEq, Prod.mk.injEq] at h
    obtain ⟨rfl, rfl⟩ := h
    exact WP.pathW tab_ok mixed [] _ (ps := []) (r := T.tup [tb false, tb false]) (by kernel_rfl) trivial (WkT.eq (y := T.tup [tb false, tb false]) (WkT.refl _) rfl) (fun _ h => h)
  · -- no
    refine WP.cond (b := !r8) rfl (fun hh => by rw [h1] at hh; cases hh) (fun _ => ?_)
    refine WP.path tab_ok mixed [] [.keep [5, 4, 2, 1], .keepO []] (ps := []) (e := .normal) (σ' := ⟨[], [(5, vb false), (4, vb false), (2, V.t (T.ptr [tl x0, ti x1])), (1, vl x2)], []⟩) (by kernel_rfl) trivial ?_
    obtain ⟨r12, c1, h⟩ := bnd1_some h
    simp only [Option.some.injEq, Prod.mk.injEq] at h
    obtain ⟨rfl, rfl⟩ := h
    exact WP.pathW tab_ok mixed [(12, An.call (tb r12))] _ (ps := [(2 ≤ 2), (C Try.prog 48 [T.agg [tl x0, ti x1], tl x2] (tb r12))]) (r := T.tup [tb r12, tb true]) (by kernel_rfl) ⟨by decide, (F_spec_l8Tell_W x0 x1 x2 r12 c1), trivial⟩ (WkT.eq (y := T.tup [tb r12, tb true]) (WkT.refl _) rfl) (fun _ h => h)
theorem F_impl_LongestHold_W (x0 : List Int) (x1 : Int) (x2 : List Int) (y0 : Int) (y1 : Bool) (h : F_impl_LongestHold x0 x1 x2 = some (y0, y1)) : C Try.prog 16 [T.agg [tl x0, ti x1], tl x2] (T.tup [ti y0, tb y1]) := by
  unfold F_impl_LongestHold at h
  refine C.intro (tab := tab) tab_ok (fn := Try.f16) Try.func16 (by kernel_rfl) rfl (Nat.le_of_ble_eq_true rfl) ?_
  refine WP.seq ?_
  refine WP.path tab_ok mixed [(2, An.fz)] [.keep [5, 4, 2, 1], .keepO []] (ps := []) (e := .normal) (σ' := ⟨[], [(5, vb false), (4, vi 0), (2, V.t (T.ptr [tl x0, ti x1])), (1, vl x2)], []⟩) (by kernel_rfl) trivial ?_
  refine WP.seq ?_
  refine WP.seq ?_
  obtain ⟨r10, c0, h⟩ := bnd1_some h
  refine WP.path tab_ok mixed [(10, An.call (tb r10))] [.keep [11, 5, 4, 2, 1], .keepO []] (ps := [(2 ≤ 2), (C Try.prog 40 [T.agg [tl x0, ti x1], tl x2] (tb r10))]) (e := .normal) (σ' := ⟨[], [(11, vb (!r10)), (5, vb false), (4, vi 0), (2, V.t (T.ptr [tl x0, ti x1])), (1, vl x2)], []⟩) (by kernel_rfl) ⟨by decide, (F_impl_areListed_W x0 x1 x2 r10 c0), trivial⟩ ?_
  rcases ite_some h with ⟨h1, h⟩ | ⟨h1, h⟩
  · -- yes
    refine WP.cond (b := !r10) rfl (fun _ => ?_) (fun hh => by rw [h1] at hh; cases hh)
    simp only [Option.some.injEq, Prod.mk.injEq] at h
    obtain ⟨rfl, rfl⟩ := h
    exact WP.pathW tab_ok mixed [] _ (ps := []) (r := T.tup [ti 0, tb false]) (by kernel_rfl) trivial (WkT.eq (y := T.tup [ti 0, tb false]) (WkT.refl _) (by first | rfl | (simp only [tlS, tl, vl, vo, oc, ov, tbl, vbl, ty, vy] <;> rfl) | (simp <;> omega) | (simp []; done) | (rw [List.take_of_length_le (by simp [])] <;> rfl) | (simp [List.take_of_length_le]; done))) (fun _ h => h)
  · -- no
    refine WP.cond (b := !r10) rfl (fun hh => by rw [h1] at hh; cases hh) (fun _ => ?_)
    refine WP.path tab_ok mixed [] [.keep [5, 4, 2, 1], .keepO []] (ps := []) (e := .normal) (σ' := ⟨[], [(5, vb false), (4, vi 0), (2, V.t (T.ptr [tl x0, ti x1])), (1, vl x2)], []⟩) (by kernel_rfl) trivial ?_
    refine WP.seq ?_
    refine WP.path tab_ok mixed [] [.keep [6, 5, 4, 2, 1], .keepO []] (ps := []) (e := .normal) (σ' := ⟨[], [(6, vi (-1)), (5, vb false), (4, vi 0), (2, V.t (T.ptr [tl x0, ti x1])), (1, vl x2)], []⟩) (by kernel_rfl) trivial ?_
    obtain ⟨J1, hJ1, h⟩ := jn_some h
    refine WP.joinA (fun (zz : Int) => ⟨[], [(6, vi zz), (5, vb false), (4, vi 0)], []⟩) (fun zz => J1 zz = some (y0, y1)) ?_ ?_
    · -- to where they meet
      refine WP.seq ?_
      obtain ⟨c1, h⟩ := chk_some h
      obtain ⟨n14, c2, h⟩ := nam_some h
      refine WP.path tab_ok mixed [(14, An.v (ti n14))] [.keep [15, 14, 6, 5, 4, 2, 1], .keepO []] (ps := [(True), (T.int .i64 (IntKind.wrap .i64 (((List.length x2 : Nat) : Int) + (1 : Int))) = ti n14)]) (e := .normal) (σ' := ⟨[], [(15, vi 0), (14, vi n14), (6, vi (-1)), (5, vb false), (4, vi 0), (2, V.t (T.ptr [tl x0, ti x1])), (1, vl x2)], []⟩) (by kernel_rfl) ⟨trivial, Eq.trans (wrapI c1) (congrArg (ti) c2), trivial⟩ ?_
      refine WP.block ?_
      refine WP.wk [.keep [15, 14, 6, 5, 4, 2, 1], .keepO [], .names []] (σ' := ⟨[], [(15, vi 0), (14, vi n14), (6, vi (-1)), (5, vb false), (4, vi 0), (2, V.t (T.ptr [tl x0, ti x1])), (1, vl x2)], []⟩) (ps := []) (by kernel_rfl) trivial ?_
      refine WP.st (σ' := ⟨[], [(15, vi (0 : Int)), (14, vi n14), (6, vi (-1 : Int)), (5, vb false), (4, vi 0), (2, V.t (T.ptr [tl x0, ti x1])), (1, vl x2)], []⟩) (by first | rfl | (simp only [tlS, tl, vl, vo, oc, ov, tbl, vbl, ty, vy] <;> rfl) | (simp <;> omega) | (simp []; done) | (rw [List.take_of_length_le (by simp [])] <;> rfl) | (simp [List.take_of_length_le]; done)) ?_
      refine WP.loop (α := Nat × Int × Int) (fun zz => ⟨[], [(15, vi zz.2.1), (14, vi n14), (6, vi zz.2.2), (5, vb false), (4, vi 0), (2, V.t (T.ptr [tl x0, ti x1])), (1, vl x2)], []⟩) (fun zz => F_impl_LongestHold_L1 x0 x1 x2 J1 n14 zz.1 zz.2.1 zz.2.2 = some (y0, y1)) (fun zz => zz.1) (fuel, (0 : Int), (-1 : Int)) h ?_
      rintro ⟨n, v15, v6⟩ h0
      have h := (show F_impl_LongestHold_L1 x0 x1 x2 J1 n14 n v15 v6 = some (y0, y1) from h0)
      rcases n with _ | n
      · rw [F_impl_LongestHold_L1] at h; cases h
      · rw [F_impl_LongestHold_L1] at h
        refine WP.seq ?_
        refine WP.path tab_ok mixed [] [.keep [16, 15, 14, 6, 5, 4, 2, 1], .keepO []] (ps := [(True)]) (e := .normal) (σ' := ⟨[], [(16, vb (decide (v15 < n14))), (15, vi v15), (14, vi n14), (6, vi v6), (5, vb false), (4, vi 0), (2, V.t (T.ptr [tl x0, ti x1])), (1, vl x2)], []⟩) (by kernel_rfl) ⟨trivial, trivial⟩ ?_
        refine WP.seq ?_
        rcases ite_some h with ⟨h2, h⟩ | ⟨h2, h⟩
        · -- yes
          refine WP.cond (b := decide (v15 < n14)) rfl (fun _ => ?_) (fun hh => by rw [h2] at hh; cases hh)
          refine WP.path tab_ok mixed [] [.keep [15, 14, 6, 5, 4, 2, 1], .keepO []] (ps := []) (e := .normal) (σ' := ⟨[], [(15, vi v15), (14, vi n14), (6, vi v6), (5, vb false), (4, vi 0), (2, V.t (T.ptr [tl x0, ti x1])), (1, vl x2)], []⟩) (by kernel_rfl) trivial ?_
          refine WP.seq ?_
          refine WP.block ?_
          refine WP.seq ?_
          refine WP.path tab_ok mixed [] [.keep [7, 15, 14, 6, 5, 4, 2, 1], .keepO []] (ps := []) (e := .normal) (σ' := ⟨[], [(7, vi v15), (15, vi v15), (14, vi n14), (6, vi v6), (5, vb false), (4, vi 0), (2, V.t (T.ptr [tl x0, ti x1])), (1, vl x2)], []⟩) (by kernel_rfl) trivial ?_
          refine WP.seq ?_
          obtain ⟨c3, h⟩ := chk_some h
          obtain ⟨r22, c4, h⟩ := bnd1_some h
          refine WP.path tab_ok mixed [(21, An.v (tl (List.take (Int.toNat v15 - Int.toNat (0 : Int)) (List.drop (Int.toNat (0 : Int)) x2)))), (22, An.call (ti r22))] [.keep [23, 7, 15, 14, 6, 5, 4, 2, 1], .keepO []] (ps := [(2 ≤ 2), ((0 ≤ (0 : Int) ∧ (0 : Int) ≤ v15 ∧ v15 ≤ ((List.length x2 : Nat) : Int))), (T.list ((Int.toNat v15) - 0) 1 (List.take (((Int.toNat v15) - 0) * 1) (List.map (T.int .i64) x2)) = tl (List.take (Int.toNat v15 - Int.toNat (0 : Int)) (List.drop (Int.toNat (0 : Int)) x2))), (C Try.prog 46 [T.agg [tl x0, ti x1], tl (List.take (Int.toNat v15 - Int.toNat (0 : Int)) (List.drop (Int.toNat (0 : Int)) x2)), ti 2] (ti r22)), (True)]) (e := .normal) (σ' := ⟨[], [(23, vb (decide (r22 > (0 : Int)))), (7, vi v15), (15, vi v15), (14, vi n14), (6, vi v6), (5, vb false), (4, vi 0), (2, V.t (T.ptr [tl x0, ti x1])), (1, vl x2)], []⟩) (by kernel_rfl) ⟨by decide, c3, sl1z (l := (0 : Int)) (h := v15) c3 (by first | rfl | (simp; done) | omega) (by first | rfl | omega | (simp; done)) (by first | rfl | omega | (simp; done)), (F_impl_State_count_W x0 x1 (List.take (Int.toNat v15 - Int.toNat (0 : Int)) (List.drop (Int.toNat (0 : Int)) x2)) (2 : Int) r22 c4), trivial, trivial⟩ ?_
          rcases ite_some h with ⟨h3, h⟩ | ⟨h3, h⟩
          · -- yes
            refine WP.cond (b := decide (r22 > (0 : Int))) rfl (fun _ => ?_) (fun hh => by rw [h3] at hh; cases hh)
            refine WP.path tab_ok mixed [] [.keep [6, 15, 14, 5, 4, 2, 1], .keepO []] (ps := []) (e := .normal) (σ' := ⟨[], [(6, vi v15), (15, vi v15), (14, vi n14), (5, vb false), (4, vi 0), (2, V.t (T.ptr [tl x0, ti x1])), (1, vl x2)], []⟩) (by kernel_rfl) trivial ?_
            obtain ⟨c5, h⟩ := chk_some h
            refine WP.path tab_ok mixed [(25, An.v (T.int .i64 (v15 + (1 : Int))))] [.keep [15, 14, 6, 5, 4, 2, 1], .keepO [], .names []] (ps := [(True), (T.int .i64 (IntKind.wrap .i64 (v15 + (1 : Int))) = T.int .i64 (v15 + (1 : Int)))]) (e := .normal) (σ' := ⟨[], [(15, vi (v15 + (1 : Int))), (14, vi n14), (6, vi v15), (5, vb false), (4, vi 0), (2, V.t (T.ptr [tl x0, ti x1])), (1, vl x2)], []⟩) (by kernel_rfl) ⟨trivial, wrapI c5, trivial⟩ ?_
            exact ⟨(n, (v15 + (1 : Int)), v15), h, Nat.lt_succ_self _, rfl⟩
          · -- no
            refine WP.cond (b := decide (r22 > (0 : Int))) rfl (fun hh => by rw [h3] at hh; cases hh) (fun _ => ?_)
            refine WP.path tab_ok mixed [] [.keep [15, 14, 6, 5, 4, 2, 1], .keepO []] (ps := []) (e := .normal) (σ' := ⟨[], [(15, vi v15), (14, vi n14), (6, vi v6), (5, vb false), (4, vi 0), (2, V.t (T.ptr [tl x0, ti x1])), (1, vl x2)], []⟩) (by kernel_rfl) trivial ?_
            obtain ⟨c5, h⟩ := chk_some h
            refine WP.path tab_ok mixed [(25, An.v (T.int .i64 (v15 + (1 : Int))))] [.keep [15, 14, 6, 5, 4, 2, 1], .keepO [], .names []] (ps := [(True), (T.int .i64 (IntKind.wrap .i64 (v15 + (1 : Int))) = T.int .i64 (v15 + (1 : Int)))]) (e := .normal) (σ' := ⟨[], [(15, vi (v15 + (1 : Int))), (14, vi n14), (6, vi v6), (5, vb false), (4, vi 0), (2, V.t (T.ptr [tl x0, ti x1])), (1, vl x2)], []⟩) (by kernel_rfl) ⟨trivial, wrapI c5, trivial⟩ ?_
            exact ⟨(n, (v15 + (1 : Int)), v6), h, Nat.lt_succ_self _, rfl⟩
        · -- no
          refine WP.cond (b := decide (v15 < n14)) rfl (fun hh => by rw [h2] at hh; cases hh) (fun _ => ?_)
          refine WP.path tab_ok mixed [] [.keep [6, 5, 4], .keepO [], .names []] (ps := []) (e := (.exit 0)) (σ' := ⟨[], [(6, vi v6), (5, vb false), (4, vi 0)], []⟩) (by kernel_rfl) trivial ?_
          exact ⟨(v6), h, rfl⟩
    · -- from there
      intro v6 h0
      have h := (show J1 v6 = some (y0, y1) from h0)
      rw [hJ1] at h
      simp only [Option.some.injEq, Prod.mk.injEq] at h
      obtain ⟨rfl, rfl⟩ := h
      exact WP.pathW tab_ok mixed [] _ (ps := []) (r := T.tup [ti v6, tb true]) (by kernel_rfl) trivial (WkT.eq (y := T.tup [ti v6, tb true]) (WkT.refl _) rfl) (fun _ h => h)

end Go.Proofs.Ytopodonemnnjdaa.AuHoa
