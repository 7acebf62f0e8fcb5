/-
  The walks: each function of the program returns what the plain function beside it returns. No statement is proved here.
-/
import Derived.Test.YtofiecpgfjofdaaTlV
import Derived.Test.YtofiecpgfjofdaaTlCI
import Derived.Test.YtofiecpgfjofdaaAuAxF
import Derived.Test.YtofiecpgfjofdaaProg
import Derived.Test.YtofiecpgfjofdaaAuAxO
namespace Go.Proofs.Ytofiecpgfjofdaa.AuAxa
open Go Go.Tl Go.Proofs
open Go.Proofs.Ytofiecpgfjofdaa.AuAxO hiding tab tab_ok mixed
set_option linter.unusedVariables false
set_option linter.unusedSimpArgs false
set_option maxRecDepth 100000
def tab : Tab := [(3, ⟨.int .i64, 1, 8, [.int .i64 0]⟩), (4, ⟨.bool, 1, 1, [.bool false]⟩), (5, ⟨.int .u8, 1, 1, [.int .u8 0]⟩), (26, ⟨.slice 3 1 8, 1, 24, [.nils]⟩), (40, ⟨.slice 5 1 1, 1, 24, [.nils]⟩), (49, ⟨.array 2 3 1 false, 2, 16, [.int .i64 0, .int .i64 0]⟩), (65, ⟨.slice 85 2 16, 1, 24, [.nils]⟩), (85, ⟨.struct [(0, 1, false), (1, 1, false)], 2, 16, [.int .i64 0, .bool false]⟩), (113, ⟨.struct [(0, 1, false), (1, 1, false)], 2, 16, [.int .i64 0, .int .i64 0]⟩), (116, ⟨.slice 49 2 16, 1, 24, [.nils]⟩), (148, ⟨.pointer 151, 1, 8, [.nilp]⟩), (149, ⟨.int .u64, 1, 8, [.int .u64 0]⟩), (151, ⟨.struct [(0, 1, false), (1, 1, false), (2, 1, false)], 3, 40, [.nils, .int .i64 0, .int .u64 0]⟩), (213, ⟨.func, 1, 8, [.nilf]⟩)]
theorem tab_ok : chkTab Try.prog tab = true := by kernel_rfl
theorem mixed : Try.prog.follows .mixedOrders = true := by kernel_rfl
theorem F_p_spec_l1Cur_next_W (x0 : List Int) (x1 : Int) (x2 : Int) (y0 : Int) (y1 : List Int) (y2 : Int) (y3 : Int) (h : F_p_spec_l1Cur_next x0 x1 x2 = some (y0, y1, y2, y3)) : CG Try.prog 245 [V.ref 500 0] [(500, oc 151 [ty x0, ti x1, T.int .u64 x2])] (vi y0) [(500, oc 151 [ty y1, ti y2, T.int .u64 y3])] := by
  unfold F_p_spec_l1Cur_next at h
  refine CG.intro (tab := tab) tab_ok (fn := Try.f245) Try.func245 (by kernel_rfl) rfl (Nat.le_of_ble_eq_true rfl) (by kernel_rfl) ?_
  refine WP.seq ?_
  refine WP.path tab_ok mixed [] [.keep [2, 0], .keepO [500]] (ps := []) (e := .normal) (σ' := ⟨[500], [(2, vi 0), (0, V.ref 500 0)], [(500, oc 151 [ty x0, ti x1, T.int .u64 x2])]⟩) (by kernel_rfl) trivial ?_
  refine WP.seq ?_
  refine WP.path tab_ok mixed [] [.keep [3, 2, 0], .keepO [500]] (ps := []) (e := .normal) (σ' := ⟨[500], [(3, vi 0), (2, vi 0), (0, V.ref 500 0)], [(500, oc 151 [ty x0, ti x1, T.int .u64 x2])]⟩) (by kernel_rfl) trivial ?_
  obtain ⟨J1, hJ1, h⟩ := jn_some h
  refine WP.joinA (fun (zz : Int) => ⟨[500], [(3, vi zz), (2, vi 0), (0, V.ref 500 0)], [(500, oc 151 [ty x0, ti x1, T.int .u64 x2])]⟩) (fun zz => J1 zz = some (y0, y1, y2, y3)) ?_ ?_
  · -- to where they meet
    refine WP.seq ?_
    refine WP.path tab_ok mixed [] [.keep [13, 3, 2, 0], .keepO [500]] (ps := [(True), (True), (True)]) (e := .normal) (σ' := ⟨[500], [(13, vb (decide (x1 < ((List.length x0 : Nat) : Int)))), (3, vi 0), (2, vi 0), (0, V.ref 500 0)], [(500, oc 151 [ty x0, ti x1, T.int .u64 x2])]⟩) (by kernel_rfl) ⟨trivial, trivial, trivial, trivial⟩ ?_
    rcases ite_some h with ⟨h1, h⟩ | ⟨h1, h⟩
    · -- yes
      refine WP.cond (b := decide (x1 < ((List.length x0 : Nat) : Int))) rfl (fun _ => ?_) (fun hh => by rw [h1] at hh; cases hh)
      obtain ⟨c0, h⟩ := chk_some h
      obtain ⟨c1, h⟩ := chk_some h
      refine WP.path tab_ok mixed [(23, An.v (T.int .u8 (List.getD x0 (Int.toNat x1) 0))), (24, An.v (T.int .i64 (List.getD x0 (Int.toNat x1) 0)))] [.keep [3, 2, 0], .keepO [500], .names [(500, 500)]] (ps := [(True), (True), ((0 ≤ x1 ∧ x1 < ((List.length x0 : Nat) : Int))), ((List.drop ((Int.toNat x1) * 1) (List.map (T.int .u8) x0) : List T)[0]? = some (T.int .u8 (List.getD x0 (Int.toNat x1) 0))), (T.int .u8 (List.getD x0 (Int.toNat x1) 0) = T.int .u8 (List.getD x0 (Int.toNat x1) 0)), (T.int .i64 (IntKind.wrap .i64 (List.getD x0 (Int.toNat x1) 0)) = T.int .i64 (List.getD x0 (Int.toNat x1) 0))]) (e := .normal) (σ' := ⟨[500], [(3, vi (List.getD x0 (Int.toNat x1) 0)), (2, vi 0), (0, V.ref 500 0)], [(500, oc 151 [ty x0, ti x1, T.int .u64 x2])]⟩) (by kernel_rfl) ⟨trivial, trivial, c0, at1 (by simp) (by omega), rfl, wrapI c1, trivial⟩ ?_
      exact ⟨((List.getD x0 (Int.toNat x1) 0)), h, rfl⟩
    · -- no
      refine WP.cond (b := decide (x1 < ((List.length x0 : Nat) : Int))) rfl (fun hh => by rw [h1] at hh; cases hh) (fun _ => ?_)
      refine WP.path tab_ok mixed [] [.keep [3, 2, 0], .keepO [500], .names [(500, 500)]] (ps := []) (e := .normal) (σ' := ⟨[500], [(3, vi 0), (2, vi 0), (0, V.ref 500 0)], [(500, oc 151 [ty x0, ti x1, T.int .u64 x2])]⟩) (by kernel_rfl) trivial ?_
      exact ⟨((0 : Int)), h, (by first | rfl | (simp only [tlS, tl, vl, vo, oc, ov, tbl, vbl, ty, vy]; done) | (simp only [tlS, tl, vl, vo, oc, ov, tbl, vbl, ty, vy]; rfl) | (simp; done) | (simp []; done) | (rw [List.take_of_length_le (by simp [])]; done) | (rw [List.take_of_length_le (by simp [])]; rfl) | (simp only [tlL]; omega) | (simp; omega))⟩
  · -- from there
    intro v3 h0
    have h := (show J1 v3 = some (y0, y1, y2, y3) from h0)
    rw [hJ1] at h
    refine WP.seq ?_
    obtain ⟨c0, h⟩ := chk_some h
    refine WP.path tab_ok mixed [(29, An.v (T.int .i64 (x1 + (1 : Int))))] [.keep [3, 2, 0], .keepO [500]] (ps := [(True), (True), (T.int .i64 (IntKind.wrap .i64 (x1 + (1 : Int))) = T.int .i64 (x1 + (1 : Int))), (1 < 3)]) (e := .normal) (σ' := ⟨[500], [(3, vi v3), (2, vi 0), (0, V.ref 500 0)], [(500, oc 151 [ty x0, ti (x1 + (1 : Int)), T.int .u64 x2])]⟩) (by kernel_rfl) ⟨trivial, trivial, wrapI c0, by decide, trivial⟩ ?_
    refine WP.seq ?_
    obtain ⟨n37, c1, h⟩ := nam_some h
    obtain ⟨n40, c2, h⟩ := nam_some h
    refine WP.path tab_ok mixed [(37, An.v (T.int .u64 n37)), (40, An.v (T.int .u64 n40))] [.keep [3, 2, 0], .keepO [500]] (ps := [(True), (True), (T.int .u64 (IntKind.wrap .u64 (x2 * (6364136223846793005 : Int))) = T.int .u64 n37), (True), (T.int .u64 (IntKind.wrap .u64 (n37 + (IntKind.wrap .u64 v3))) = T.int .u64 n40), (True), (2 < 3)]) (e := .normal) (σ' := ⟨[500], [(3, vi v3), (2, vi 0), (0, V.ref 500 0)], [(500, oc 151 [ty x0, ti (x1 + (1 : Int)), T.int .u64 (IntKind.wrap .u64 (n40 + (462197 : Int)))])]⟩) (by kernel_rfl) ⟨trivial, trivial, congrArg (T.int .u64) c1, trivial, congrArg (T.int .u64) c2, trivial, by decide, trivial⟩ ?_
    refine WP.seq ?_
    refine WP.seq ?_
    refine WP.path tab_ok mixed [] [.keep [53, 3, 2, 0], .keepO [500]] (ps := [(True), (True), (True)]) (e := .normal) (σ' := ⟨[500], [(53, vb (decide ((x1 + (1 : Int)) ≤ ((List.length x0 : Nat) : Int)))), (3, vi v3), (2, vi 0), (0, V.ref 500 0)], [(500, oc 151 [ty x0, ti (x1 + (1 : Int)), T.int .u64 (IntKind.wrap .u64 (n40 + (462197 : Int)))])]⟩) (by kernel_rfl) ⟨trivial, trivial, trivial, trivial⟩ ?_
    rcases ite_some h with ⟨h2, h⟩ | ⟨h2, h⟩
    · -- yes
      refine WP.cond (b := decide ((x1 + (1 : Int)) ≤ ((List.length x0 : Nat) : Int))) rfl (fun _ => ?_) (fun hh => by rw [h2] at hh; cases hh)
      simp only [Option.some.injEq, Prod.mk.injEq] at h
      obtain ⟨rfl, rfl, rfl, rfl⟩ := h
      exact WP.pathG tab_ok mixed [] [.keep [2], .keepO [500], .names [(500, 500)]] [500] _ (r' := vi v3) (ps := []) (r := vi v3) (N := [500]) (O := [(500, oc 151 [ty x0, ti (x1 + (1 : Int)), T.int .u64 (IntKind.wrap .u64 (n40 + (462197 : Int)))])]) [] (by kernel_rfl) trivial ⟨(WkT.refl _), trivial⟩ rfl rfl (fun _ h => h)
    · -- no
      refine WP.cond (b := decide ((x1 + (1 : Int)) ≤ ((List.length x0 : Nat) : Int))) rfl (fun hh => by rw [h2] at hh; cases hh) (fun _ => ?_)
      refine WP.path tab_ok mixed [] [.keep [2, 0], .keepO [500]] (ps := []) (e := .normal) (σ' := ⟨[500], [(2, vi 0), (0, V.ref 500 0)], [(500, oc 151 [ty x0, ti (x1 + (1 : Int)), T.int .u64 (IntKind.wrap .u64 (n40 + (462197 : Int)))])]⟩) (by kernel_rfl) trivial ?_
      obtain ⟨n60, c3, h⟩ := nam_some h
      obtain ⟨c4, h⟩ := chk_some h
      simp only [Option.some.injEq, Prod.mk.injEq] at h
      obtain ⟨rfl, rfl, rfl, rfl⟩ := h
      exact WP.pathG tab_ok mixed [(59, An.v (T.int .u64 ((IntKind.wrap .u64 (n40 + (462197 : Int))) / 2 ^ Int.toNat (40 : Int)))), (60, An.v (T.int .u64 n60)), (61, An.v (T.int .i64 n60))] [.keep [2], .keepO [500], .names [(500, 500)]] [500] _ (r' := vi n60) (ps := [(True), (0 ≤ (40 : Int)), (T.int .u64 (Int.fdiv (IntKind.wrap .u64 (n40 + (462197 : Int))) (2 ^ (min (Int.toNat (40 : Int)) 64))) = T.int .u64 ((IntKind.wrap .u64 (n40 + (462197 : Int))) / 2 ^ Int.toNat (40 : Int))), (True), (T.int .u64 (bits .and .u64 ((IntKind.wrap .u64 (n40 + (462197 : Int))) / 2 ^ Int.toNat (40 : Int)) (255 : Int)) = T.int .u64 n60), (T.int .i64 (IntKind.wrap .i64 n60) = T.int .i64 n60)]) (r := vi n60) (N := [500]) (O := [(500, oc 151 [ty x0, ti (x1 + (1 : Int)), T.int .u64 (IntKind.wrap .u64 (n40 + (462197 : Int)))])]) [] (by kernel_rfl) ⟨trivial, (show (0 ≤ (40 : Int) ∧ (40 : Int) < 64) by first | decide | (simp only [maxLen]; omega) | (unfold I64; omega) | (unfold I64; decide)).1, shr_told (show (0 ≤ (40 : Int) ∧ (40 : Int) < 64) by first | decide | (simp only [maxLen]; omega) | (unfold I64; omega) | (unfold I64; decide)), trivial, congrArg (T.int .u64) c3, wrapI c4, trivial⟩ ⟨(WkT.refl _), trivial⟩ rfl rfl (fun _ h => h)
theorem F_p_spec_l1Cur_pick_W (x0 : List Int) (x1 : Int) (x2 : Int) (x3 : Int) (y0 : Int) (y1 : List Int) (y2 : Int) (y3 : Int) (h : F_p_spec_l1Cur_pick x0 x1 x2 x3 = some (y0, y1, y2, y3)) : CG Try.prog 154 [V.ref 500 0, vi x3] [(500, oc 151 [ty x0, ti x1, T.int .u64 x2])] (vi y0) [(500, oc 151 [ty y1, ti y2, T.int .u64 y3])] := by
  unfold F_p_spec_l1Cur_pick at h
  refine CG.intro (tab := tab) tab_ok (fn := Try.f154) Try.func154 (by kernel_rfl) rfl (Nat.le_of_ble_eq_true rfl) (by kernel_rfl) ?_
  refine WP.seq ?_
  refine WP.path tab_ok mixed [] [.keep [4, 0, 1], .keepO [500]] (ps := []) (e := .normal) (σ' := ⟨[500], [(4, vi 0), (0, V.ref 500 0), (1, vi x3)], [(500, oc 151 [ty x0, ti x1, T.int .u64 x2])]⟩) (by kernel_rfl) trivial ?_
  refine WP.seq ?_
  refine WP.seq ?_
  refine WP.path tab_ok mixed [] [.keep [7, 4, 0, 1], .keepO [500]] (ps := [(True)]) (e := .normal) (σ' := ⟨[500], [(7, vb (decide (x3 ≤ (1 : Int)))), (4, vi 0), (0, V.ref 500 0), (1, vi x3)], [(500, oc 151 [ty x0, ti x1, T.int .u64 x2])]⟩) (by kernel_rfl) ⟨trivial, trivial⟩ ?_
  rcases ite_some h with ⟨h1, h⟩ | ⟨h1, h⟩
  · -- yes
    refine WP.cond (b := decide (x3 ≤ (1 : Int))) rfl (fun _ => ?_) (fun hh => by rw [h1] at hh; cases hh)
    simp only [Option.some.injEq, Prod.mk.injEq] at h
    obtain ⟨rfl, rfl, rfl, rfl⟩ := h
    exact WP.pathG tab_ok mixed [] [.keep [4], .keepO [500], .names [(500, 500)]] [500] _ (r' := vi (0 : Int)) (ps := []) (r := vi 0) (N := [500]) (O := [(500, oc 151 [ty x0, ti x1, T.int .u64 x2])]) [] (by kernel_rfl) trivial ⟨(WkT.eq (WkT.refl _) (by first | rfl | (simp only [tlS, tl, vl, vo, oc, ov, tbl, vbl, ty, vy]; done) | (simp only [tlS, tl, vl, vo, oc, ov, tbl, vbl, ty, vy]; rfl) | (simp; done) | (simp []; done) | (rw [List.take_of_length_le (by simp [])]; done) | (rw [List.take_of_length_le (by simp [])]; rfl) | (simp only [tlL]; omega) | (simp; omega))), trivial⟩ rfl rfl (fun _ h => h)
  · -- no
    refine WP.cond (b := decide (x3 ≤ (1 : Int))) rfl (fun hh => by rw [h1] at hh; cases hh) (fun _ => ?_)
    refine WP.path tab_ok mixed [] [.keep [4, 0, 1], .keepO [500]] (ps := []) (e := .normal) (σ' := ⟨[500], [(4, vi 0), (0, V.ref 500 0), (1, vi x3)], [(500, oc 151 [ty x0, ti x1, T.int .u64 x2])]⟩) (by kernel_rfl) trivial ?_
    refine WP.seq ?_
    obtain ⟨r9, r9b, r9c, r9d, c0, h⟩ := bnd4_some h
    refine WP.path tab_ok mixed [(9, An.callG [(500, 500)] [V.ref 500 0] [(500, oc 151 [ty x0, ti x1, T.int .u64 x2])] (vi r9) [(500, oc 151 [ty r9b, ti r9c, T.int .u64 r9d])])] [.keep [5, 4, 0, 1], .keepO [500]] (ps := [(CG Try.prog 245 [V.ref 500 0] [(500, oc 151 [ty x0, ti x1, T.int .u64 x2])] (vi r9) [(500, oc 151 [ty r9b, ti r9c, T.int .u64 r9d])]), ((V.ref 500 0).ren (renF [(500, 500)]) = V.ref 500 0), ((oc 151 [ty x0, ti x1, T.int .u64 x2]) = (oc 151 [ty x0, ti x1, T.int .u64 x2]).ren (renF [(500, 500)]))]) (e := .normal) (σ' := ⟨[500], [(5, vi r9), (4, vi 0), (0, V.ref 500 0), (1, vi x3)], [(500, oc 151 [ty r9b, ti r9c, T.int .u64 r9d])]⟩) (by kernel_rfl) ⟨(F_p_spec_l1Cur_next_W x0 x1 x2 r9 r9b r9c r9d c0), by first | rfl | (simp [V.ren, V.renL, renF, lk]; done) | (simp [V.ren, V.renL, renF, lk]; omega), by first | rfl | (simp only [tlS]; rfl) | (simp [Tl.Obj.ren, V.ren, V.renL, renF, lk]; done), trivial⟩ ?_
    obtain ⟨J1, hJ1, h⟩ := jn_some h
    refine WP.joinA (fun (zz : (List Int) × Int × Int × Int) => ⟨[500], [(5, vi zz.2.2.2), (4, vi 0), (1, vi x3)], [(500, oc 151 [ty zz.1, ti zz.2.1, T.int .u64 zz.2.2.1])]⟩) (fun zz => J1 zz.1 zz.2.1 zz.2.2.1 zz.2.2.2 = some (y0, y1, y2, y3)) ?_ ?_
    · -- to where they meet
      refine WP.seq ?_
      refine WP.path tab_ok mixed [] [.keep [11, 5, 4, 0, 1], .keepO [500]] (ps := [(True)]) (e := .normal) (σ' := ⟨[500], [(11, vb (decide (x3 > (200 : Int)))), (5, vi r9), (4, vi 0), (0, V.ref 500 0), (1, vi x3)], [(500, oc 151 [ty r9b, ti r9c, T.int .u64 r9d])]⟩) (by kernel_rfl) ⟨trivial, trivial⟩ ?_
      rcases ite_some h with ⟨h2, h⟩ | ⟨h2, h⟩
      · -- yes
        refine WP.cond (b := decide (x3 > (200 : Int))) rfl (fun _ => ?_) (fun hh => by rw [h2] at hh; cases hh)
        obtain ⟨c1, h⟩ := chk_some h
        obtain ⟨r15, r15b, r15c, r15d, c2, h⟩ := bnd4_some h
        obtain ⟨c3, h⟩ := chk_some h
        refine WP.path tab_ok mixed [(13, An.v (T.int .i64 (r9 * (256 : Int)))), (15, An.callG [(500, 500)] [V.ref 500 0] [(500, oc 151 [ty r9b, ti r9c, T.int .u64 r9d])] (vi r15) [(500, oc 151 [ty r15b, ti r15c, T.int .u64 r15d])]), (16, An.v (T.int .i64 ((r9 * (256 : Int)) + r15)))] [.keep [5, 4, 1], .keepO [500], .names [(500, 500)]] (ps := [(True), (T.int .i64 (IntKind.wrap .i64 (r9 * (256 : Int))) = T.int .i64 (r9 * (256 : Int))), (CG Try.prog 245 [V.ref 500 0] [(500, oc 151 [ty r9b, ti r9c, T.int .u64 r9d])] (vi r15) [(500, oc 151 [ty r15b, ti r15c, T.int .u64 r15d])]), ((V.ref 500 0).ren (renF [(500, 500)]) = V.ref 500 0), ((oc 151 [ty r9b, ti r9c, T.int .u64 r9d]) = (oc 151 [ty r9b, ti r9c, T.int .u64 r9d]).ren (renF [(500, 500)])), (True), (T.int .i64 (IntKind.wrap .i64 ((r9 * (256 : Int)) + r15)) = T.int .i64 ((r9 * (256 : Int)) + r15))]) (e := .normal) (σ' := ⟨[500], [(5, vi ((r9 * (256 : Int)) + r15)), (4, vi 0), (1, vi x3)], [(500, oc 151 [ty r15b, ti r15c, T.int .u64 r15d])]⟩) (by kernel_rfl) ⟨trivial, wrapI c1, (F_p_spec_l1Cur_next_W r9b r9c r9d r15 r15b r15c r15d c2), by first | rfl | (simp [V.ren, V.renL, renF, lk]; done) | (simp [V.ren, V.renL, renF, lk]; omega), by first | rfl | (simp only [tlS]; rfl) | (simp [Tl.Obj.ren, V.ren, V.renL, renF, lk]; done), trivial, wrapI c3, trivial⟩ ?_
        exact ⟨(r15b, r15c, r15d, ((r9 * (256 : Int)) + r15)), h, rfl⟩
      · -- no
        refine WP.cond (b := decide (x3 > (200 : Int))) rfl (fun hh => by rw [h2] at hh; cases hh) (fun _ => ?_)
        refine WP.path tab_ok mixed [] [.keep [5, 4, 1], .keepO [500], .names [(500, 500)]] (ps := []) (e := .normal) (σ' := ⟨[500], [(5, vi r9), (4, vi 0), (1, vi x3)], [(500, oc 151 [ty r9b, ti r9c, T.int .u64 r9d])]⟩) (by kernel_rfl) trivial ?_
        exact ⟨(r9b, r9c, r9d, r9), h, rfl⟩
    · -- from there
      rintro ⟨o500, o500b, o500c, v5⟩ h0
      have h := (show J1 o500 o500b o500c v5 = some (y0, y1, y2, y3) from h0)
      rw [hJ1] at h
      obtain ⟨c1, h⟩ := chk_some h
      simp only [Option.some.injEq, Prod.mk.injEq] at h
      obtain ⟨rfl, rfl, rfl, rfl⟩ := h
      exact WP.pathG tab_ok mixed [] [.keep [4], .keepO [500], .names [(500, 500)]] [500] _ (r' := vi (Int.tmod v5 x3)) (ps := [(x3 ≠ 0)]) (r := vi (Int.tmod v5 x3)) (N := [500]) (O := [(500, oc 151 [ty o500, ti o500b, T.int .u64 o500c])]) [] (by kernel_rfl) ⟨c1, trivial⟩ ⟨(WkT.refl _), trivial⟩ rfl rfl (fun _ h => h)
theorem F_p_spec_l1Cur_among_W (x0 : List Int) (x1 : Int) (x2 : Int) (x3 : List Int) (y0 : Int) (y1 : List Int) (y2 : Int) (y3 : Int) (h : F_p_spec_l1Cur_among x0 x1 x2 x3 = some (y0, y1, y2, y3)) : CG Try.prog 172 [V.ref 500 0, vl x3] [(500, oc 151 [ty x0, ti x1, T.int .u64 x2])] (vi y0) [(500, oc 151 [ty y1, ti y2, T.int .u64 y3])] := by
  unfold F_p_spec_l1Cur_among at h
  refine CG.intro (tab := tab) tab_ok (fn := Try.f172) Try.func172 (by kernel_rfl) rfl (Nat.le_of_ble_eq_true rfl) (by kernel_rfl) ?_
  obtain ⟨r9, r9b, r9c, r9d, c0, h⟩ := bnd4_some h
  obtain ⟨c1, h⟩ := chk_some h
  simp only [Option.some.injEq, Prod.mk.injEq] at h
  obtain ⟨rfl, rfl, rfl, rfl⟩ := h
  exact WP.pathG tab_ok mixed [(9, An.callG [(500, 500)] [V.ref 500 0, vi ((List.length x3 : Nat) : Int)] [(500, oc 151 [ty x0, ti x1, T.int .u64 x2])] (vi r9) [(500, oc 151 [ty r9b, ti r9c, T.int .u64 r9d])]), (11, An.v (ti (List.getD x3 (Int.toNat r9) 0)))] [.keep [4], .keepO [500], .names [(500, 500)]] [500] _ (r' := vi (List.getD x3 (Int.toNat r9) 0)) (ps := [(CG Try.prog 154 [V.ref 500 0, vi ((List.length x3 : Nat) : Int)] [(500, oc 151 [ty x0, ti x1, T.int .u64 x2])] (vi r9) [(500, oc 151 [ty r9b, ti r9c, T.int .u64 r9d])]), ((V.ref 500 0).ren (renF [(500, 500)]) = V.ref 500 0), (WkT (ti ((List.length x3 : Nat) : Int)) (ti ((List.length x3 : Nat) : Int))), ((oc 151 [ty x0, ti x1, T.int .u64 x2]) = (oc 151 [ty x0, ti x1, T.int .u64 x2]).ren (renF [(500, 500)])), ((0 ≤ r9 ∧ r9 < ((List.length x3 : Nat) : Int))), ((List.drop ((Int.toNat r9) * 1) (List.map (T.int .i64) x3) : List T)[0]? = some (ti (List.getD x3 (Int.toNat r9) 0))), (ti (List.getD x3 (Int.toNat r9) 0) = ti (List.getD x3 (Int.toNat r9) 0))]) (r := vi (List.getD x3 (Int.toNat r9) 0)) (N := [500]) (O := [(500, oc 151 [ty r9b, ti r9c, T.int .u64 r9d])]) [] (by kernel_rfl) ⟨(F_p_spec_l1Cur_pick_W x0 x1 x2 ((List.length x3 : Nat) : Int) r9 r9b r9c r9d c0), by first | rfl | (simp [V.ren, V.renL, renF, lk]; done) | (simp [V.ren, V.renL, renF, lk]; omega), WkT.refl _, by first | rfl | (simp only [tlS]; rfl) | (simp [Tl.Obj.ren, V.ren, V.renL, renF, lk]; done), c1, at1 (by simp) (by omega), rfl, trivial⟩ ⟨(WkT.refl _), trivial⟩ rfl rfl (fun _ h => h)
theorem F_p_spec_l1Cur_many_W (x0 : List Int) (x1 : Int) (x2 : Int) (y0 : Int) (y1 : List Int) (y2 : Int) (y3 : Int) (h : F_p_spec_l1Cur_many x0 x1 x2 = some (y0, y1, y2, y3)) : CG Try.prog 147 [V.ref 500 0] [(500, oc 151 [ty x0, ti x1, T.int .u64 x2])] (vi y0) [(500, oc 151 [ty y1, ti y2, T.int .u64 y3])] := by
  unfold F_p_spec_l1Cur_many at h
  refine CG.intro (tab := tab) tab_ok (fn := Try.f147) Try.func147 (by kernel_rfl) rfl (Nat.le_of_ble_eq_true rfl) (by kernel_rfl) ?_
  obtain ⟨r5, r5b, r5c, r5d, c0, h⟩ := bnd4_some h
  simp only [Option.some.injEq, Prod.mk.injEq] at h
  obtain ⟨rfl, rfl, rfl, rfl⟩ := h
  exact WP.pathG tab_ok mixed [(4, An.fz), (5, An.callG [(500, 500)] [V.ref 500 0, vl [(4 : Int), (6 : Int), (8 : Int), (3 : Int), (5 : Int), (2 : Int), (7 : Int), (12 : Int), (1 : Int), (0 : Int), (13 : Int), (4 : Int), (6 : Int), (8 : Int), (3 : Int), (5 : Int)]] [(500, oc 151 [ty x0, ti x1, T.int .u64 x2])] (vi r5) [(500, oc 151 [ty r5b, ti r5c, T.int .u64 r5d])])] [.keep [2], .keepO [500], .names [(500, 500)]] [500] _ (r' := vi r5) (ps := [((1 = 1 ∧ 0 + 1 ≤ 16) ∧ (1 = 1 ∧ 1 + 1 ≤ 16) ∧ (1 = 1 ∧ 2 + 1 ≤ 16) ∧ (1 = 1 ∧ 3 + 1 ≤ 16) ∧ (1 = 1 ∧ 4 + 1 ≤ 16) ∧ (1 = 1 ∧ 5 + 1 ≤ 16) ∧ (1 = 1 ∧ 6 + 1 ≤ 16) ∧ (1 = 1 ∧ 7 + 1 ≤ 16) ∧ (1 = 1 ∧ 8 + 1 ≤ 16) ∧ (1 = 1 ∧ 9 + 1 ≤ 16) ∧ (1 = 1 ∧ 10 + 1 ≤ 16) ∧ (1 = 1 ∧ 11 + 1 ≤ 16) ∧ (1 = 1 ∧ 12 + 1 ≤ 16) ∧ (1 = 1 ∧ 13 + 1 ≤ 16) ∧ (1 = 1 ∧ 14 + 1 ≤ 16) ∧ (1 = 1 ∧ 15 + 1 ≤ 16) ∧ True), (16 = 16 * 1), (CG Try.prog 172 [V.ref 500 0, vl [(4 : Int), (6 : Int), (8 : Int), (3 : Int), (5 : Int), (2 : Int), (7 : Int), (12 : Int), (1 : Int), (0 : Int), (13 : Int), (4 : Int), (6 : Int), (8 : Int), (3 : Int), (5 : Int)]] [(500, oc 151 [ty x0, ti x1, T.int .u64 x2])] (vi r5) [(500, oc 151 [ty r5b, ti r5c, T.int .u64 r5d])]), ((V.ref 500 0).ren (renF [(500, 500)]) = V.ref 500 0), (WkT (T.list 16 1 [ti 4, ti 6, ti 8, ti 3, ti 5, ti 2, ti 7, ti 12, ti 1, ti 0, ti 13, ti 4, ti 6, ti 8, ti 3, ti 5]) (tl [(4 : Int), (6 : Int), (8 : Int), (3 : Int), (5 : Int), (2 : Int), (7 : Int), (12 : Int), (1 : Int), (0 : Int), (13 : Int), (4 : Int), (6 : Int), (8 : Int), (3 : Int), (5 : Int)])), ((oc 151 [ty x0, ti x1, T.int .u64 x2]) = (oc 151 [ty x0, ti x1, T.int .u64 x2]).ren (renF [(500, 500)]))]) (r := vi r5) (N := [500]) (O := [(500, oc 151 [ty r5b, ti r5c, T.int .u64 r5d])]) [] (by kernel_rfl) ⟨⟨⟨by first | rfl | (simp; done) | (simp []; done) | omega, by first | decide | (simp; done) | (simp []; done) | omega | (simp only [tlL]; omega) | (simp; omega)⟩, ⟨by first | rfl | (simp; done) | (simp []; done) | omega, by first | decide | (simp; done) | (simp []; done) | omega | (simp only [tlL]; omega) | (simp; omega)⟩, ⟨by first | rfl | (simp; done) | (simp []; done) | omega, by first | decide | (simp; done) | (simp []; done) | omega | (simp only [tlL]; omega) | (simp; omega)⟩, ⟨by first | rfl | (simp; done) | (simp []; done) | omega, by first | decide | (simp; done) | (simp []; done) | omega | (simp only [tlL]; omega) | (simp; omega)⟩, ⟨by first | rfl | (simp; done) | (simp []; done) | omega, by first | decide | (simp; done) | (simp []; done) | omega | (simp only [tlL]; omega) | (simp; omega)⟩, ⟨by first | rfl | (simp; done) | (simp []; done) | omega, by first | decide | (simp; done) | (simp []; done) | omega | (simp only [tlL]; omega) | (simp; omega)⟩, ⟨by first | rfl | (simp; done) | (simp []; done) | omega, by first | decide | (simp; done) | (simp []; done) | omega | (simp only [tlL]; omega) | (simp; omega)⟩, ⟨by first | rfl | (simp; done) | (simp []; done) | omega, by first | decide | (simp; done) | (simp []; done) | omega | (simp only [tlL]; omega) | (simp; omega)⟩, ⟨by first | rfl | (simp; done) | (simp []; done) | omega, by first | decide | (simp; done) | (simp []; done) | omega | (simp only [tlL]; omega) | (simp; omega)⟩, ⟨by first | rfl | (simp; done) | (simp []; done) | omega, by first | decide | (simp; done) | (simp []; done) | omega | (simp only [tlL]; omega) | (simp; omega)⟩, ⟨by first | rfl | (simp; done) | (simp []; done) | omega, by first | decide | (simp; done) | (simp []; done) | omega | (simp only [tlL]; omega) | (simp; omega)⟩, ⟨by first | rfl | (simp; done) | (simp []; done) | omega, by first | decide | (simp; done) | (simp []; done) | omega | (simp only [tlL]; omega) | (simp; omega)⟩, ⟨by first | rfl | (simp; done) | (simp []; done) | omega, by first | decide | (simp; done) | (simp []; done) | omega | (simp only [tlL]; omega) | (simp; omega)⟩, ⟨by first | rfl | (simp; done) | (simp []; done) | omega, by first | decide | (simp; done) | (simp []; done) | omega | (simp only [tlL]; omega) | (simp; omega)⟩, ⟨by first | rfl | (simp; done) | (simp []; done) | omega, by first | decide | (simp; done) | (simp []; done) | omega | (simp only [tlL]; omega) | (simp; omega)⟩, ⟨by first | rfl | (simp; done) | (simp []; done) | omega, by first | decide | (simp; done) | (simp []; done) | omega | (simp only [tlL]; omega) | (simp; omega)⟩, trivial⟩, by decide, (F_p_spec_l1Cur_among_W x0 x1 x2 [(4 : Int), (6 : Int), (8 : Int), (3 : Int), (5 : Int), (2 : Int), (7 : Int), (12 : Int), (1 : Int), (0 : Int), (13 : Int), (4 : Int), (6 : Int), (8 : Int), (3 : Int), (5 : Int)] r5 r5b r5c r5d c0), by first | rfl | (simp [V.ren, V.renL, renF, lk]; done) | (simp [V.ren, V.renL, renF, lk]; omega), WkT.eq (WkT.refl _) (by first | rfl | (simp only [tlS, tl, vl, vo, oc, ov, tbl, vbl, ty, vy]; done) | (simp only [tlS, tl, vl, vo, oc, ov, tbl, vbl, ty, vy]; rfl) | (simp; done) | (simp []; done) | (rw [List.take_of_length_le (by simp [])]; done) | (rw [List.take_of_length_le (by simp [])]; rfl) | (simp only [tlL]; omega) | (simp; omega)), by first | rfl | (simp only [tlS]; rfl) | (simp [Tl.Obj.ren, V.ren, V.renL, renF, lk]; done), trivial⟩ ⟨(WkT.refl _), trivial⟩ rfl rfl (fun _ h => h)
theorem F_p_spec_l1Cur_one_W (x0 : List Int) (x1 : Int) (x2 : Int) (x3 : Int) (y0 : Bool) (y1 : List Int) (y2 : Int) (y3 : Int) (h : F_p_spec_l1Cur_one x0 x1 x2 x3 = some (y0, y1, y2, y3)) : CG Try.prog 205 [V.ref 500 0, vi x3] [(500, oc 151 [ty x0, ti x1, T.int .u64 x2])] (vb y0) [(500, oc 151 [ty y1, ti y2, T.int .u64 y3])] := by
  unfold F_p_spec_l1Cur_one at h
  refine CG.intro (tab := tab) tab_ok (fn := Try.f205) Try.func205 (by kernel_rfl) rfl (Nat.le_of_ble_eq_true rfl) (by kernel_rfl) ?_
  obtain ⟨r7, r7b, r7c, r7d, c0, h⟩ := bnd4_some h
  simp only [Option.some.injEq, Prod.mk.injEq] at h
  obtain ⟨rfl, rfl, rfl, rfl⟩ := h
  exact WP.pathG tab_ok mixed [(7, An.callG [(500, 500)] [V.ref 500 0, vi x3] [(500, oc 151 [ty x0, ti x1, T.int .u64 x2])] (vi r7) [(500, oc 151 [ty r7b, ti r7c, T.int .u64 r7d])])] [.keep [4], .keepO [500], .names [(500, 500)]] [500] _ (r' := vb (r7 == (0 : Int))) (ps := [(CG Try.prog 154 [V.ref 500 0, vi x3] [(500, oc 151 [ty x0, ti x1, T.int .u64 x2])] (vi r7) [(500, oc 151 [ty r7b, ti r7c, T.int .u64 r7d])]), ((V.ref 500 0).ren (renF [(500, 500)]) = V.ref 500 0), (WkT (ti x3) (ti x3)), ((oc 151 [ty x0, ti x1, T.int .u64 x2]) = (oc 151 [ty x0, ti x1, T.int .u64 x2]).ren (renF [(500, 500)])), (True)]) (r := vb (r7 == (0 : Int))) (N := [500]) (O := [(500, oc 151 [ty r7b, ti r7c, T.int .u64 r7d])]) [] (by kernel_rfl) ⟨(F_p_spec_l1Cur_pick_W x0 x1 x2 x3 r7 r7b r7c r7d c0), by first | rfl | (simp [V.ren, V.renL, renF, lk]; done) | (simp [V.ren, V.renL, renF, lk]; omega), WkT.refl _, by first | rfl | (simp only [tlS]; rfl) | (simp [Tl.Obj.ren, V.ren, V.renL, renF, lk]; done), trivial, trivial⟩ ⟨(WkT.refl _), trivial⟩ rfl rfl (fun _ h => h)
theorem F_p_spec_l1Cur_question_W (x0 : List Int) (x1 : Int) (x2 : Int) (x3 : Int) (y0 : Int) (y1 : List Int) (y2 : Int) (y3 : Int) (h : F_p_spec_l1Cur_question x0 x1 x2 x3 = some (y0, y1, y2, y3)) : CG Try.prog 171 [V.ref 500 0, vi x3] [(500, oc 151 [ty x0, ti x1, T.int .u64 x2])] (vi y0) [(500, oc 151 [ty y1, ti y2, T.int .u64 y3])] := by
  unfold F_p_spec_l1Cur_question at h
  refine CG.intro (tab := tab) tab_ok (fn := Try.f171) Try.func171 (by kernel_rfl) rfl (Nat.le_of_ble_eq_true rfl) (by kernel_rfl) ?_
  refine WP.seq ?_
  refine WP.path tab_ok mixed [] [.keep [4, 0, 1], .keepO [500]] (ps := []) (e := .normal) (σ' := ⟨[500], [(4, vi 0), (0, V.ref 500 0), (1, vi x3)], [(500, oc 151 [ty x0, ti x1, T.int .u64 x2])]⟩) (by kernel_rfl) trivial ?_
  refine WP.seq ?_
  refine WP.seq ?_
  obtain ⟨r6, r6b, r6c, r6d, c0, h⟩ := bnd4_some h
  refine WP.path tab_ok mixed [(6, An.callG [(500, 500)] [V.ref 500 0, vi 24] [(500, oc 151 [ty x0, ti x1, T.int .u64 x2])] (vb r6) [(500, oc 151 [ty r6b, ti r6c, T.int .u64 r6d])])] [.keep [6, 4, 0, 1], .keepO [500]] (ps := [(CG Try.prog 205 [V.ref 500 0, vi 24] [(500, oc 151 [ty x0, ti x1, T.int .u64 x2])] (vb r6) [(500, oc 151 [ty r6b, ti r6c, T.int .u64 r6d])]), ((V.ref 500 0).ren (renF [(500, 500)]) = V.ref 500 0), (WkT (ti 24) (ti 24)), ((oc 151 [ty x0, ti x1, T.int .u64 x2]) = (oc 151 [ty x0, ti x1, T.int .u64 x2]).ren (renF [(500, 500)]))]) (e := .normal) (σ' := ⟨[500], [(6, vb r6), (4, vi 0), (0, V.ref 500 0), (1, vi x3)], [(500, oc 151 [ty r6b, ti r6c, T.int .u64 r6d])]⟩) (by kernel_rfl) ⟨(F_p_spec_l1Cur_one_W x0 x1 x2 (24 : Int) r6 r6b r6c r6d c0), by first | rfl | (simp [V.ren, V.renL, renF, lk]; done) | (simp [V.ren, V.renL, renF, lk]; omega), WkT.refl _, by first | rfl | (simp only [tlS]; rfl) | (simp [Tl.Obj.ren, V.ren, V.renL, renF, lk]; done), trivial⟩ ?_
  rcases ite_some h with ⟨h1, h⟩ | ⟨h1, h⟩
  · -- yes
    refine WP.cond (b := r6) rfl (fun _ => ?_) (fun hh => by rw [h1] at hh; cases hh)
    obtain ⟨c1, h⟩ := chk_some h
    obtain ⟨r13, r13b, r13c, r13d, c2, h⟩ := bnd4_some h
    simp only [Option.some.injEq, Prod.mk.injEq] at h
    obtain ⟨rfl, rfl, rfl, rfl⟩ := h
    exact WP.pathG tab_ok mixed [(9, An.call (ti (minN x3 (13 : Int)))), (10, An.call (ti (maxN (0 : Int) (minN x3 (13 : Int))))), (11, An.v (T.int .i64 ((1 : Int) * 2 ^ Int.toNat (maxN (0 : Int) (minN x3 (13 : Int)))))), (12, An.fz), (13, An.callG [(500, 500)] [V.ref 500 0, vl [(-1 : Int), ((1 : Int) * 2 ^ Int.toNat (maxN (0 : Int) (minN x3 (13 : Int)))), (4611686018427387904 : Int)]] [(500, oc 151 [ty r6b, ti r6c, T.int .u64 r6d])] (vi r13) [(500, oc 151 [ty r13b, ti r13c, T.int .u64 r13d])])] [.keep [4], .keepO [500], .names [(500, 500)]] [500] _ (r' := vi r13) (ps := [(C Try.prog 196 [ti x3, ti 13] (ti (minN x3 (13 : Int)))), (C Try.prog 155 [ti 0, ti (minN x3 (13 : Int))] (ti (maxN (0 : Int) (minN x3 (13 : Int))))), (0 ≤ (maxN (0 : Int) (minN x3 (13 : Int)))), (T.int .i64 (IntKind.wrap .i64 ((1 : Int) * 2 ^ (min (Int.toNat (maxN (0 : Int) (minN x3 (13 : Int)))) 64))) = T.int .i64 ((1 : Int) * 2 ^ Int.toNat (maxN (0 : Int) (minN x3 (13 : Int))))), ((1 = 1 ∧ 0 + 1 ≤ 3) ∧ (1 = 1 ∧ 1 + 1 ≤ 3) ∧ (1 = 1 ∧ 2 + 1 ≤ 3) ∧ True), (3 = 3 * 1), (CG Try.prog 172 [V.ref 500 0, vl [(-1 : Int), ((1 : Int) * 2 ^ Int.toNat (maxN (0 : Int) (minN x3 (13 : Int)))), (4611686018427387904 : Int)]] [(500, oc 151 [ty r6b, ti r6c, T.int .u64 r6d])] (vi r13) [(500, oc 151 [ty r13b, ti r13c, T.int .u64 r13d])]), ((V.ref 500 0).ren (renF [(500, 500)]) = V.ref 500 0), (WkT (T.list 3 1 [ti (-1), ti ((1 : Int) * 2 ^ Int.toNat (maxN (0 : Int) (minN x3 (13 : Int)))), ti 4611686018427387904]) (tl [(-1 : Int), ((1 : Int) * 2 ^ Int.toNat (maxN (0 : Int) (minN x3 (13 : Int)))), (4611686018427387904 : Int)])), ((oc 151 [ty r6b, ti r6c, T.int .u64 r6d]) = (oc 151 [ty r6b, ti r6c, T.int .u64 r6d]).ren (renF [(500, 500)]))]) (r := vi r13) (N := [500]) (O := [(500, oc 151 [ty r13b, ti r13c, T.int .u64 r13d])]) [] (by kernel_rfl) ⟨(by have hh := (l1Least_C x3 (13 : Int)); simpa using hh), (by have hh := (l1Most_C (0 : Int) (minN x3 (13 : Int))); simpa using hh), c1.1, shl_told c1, ⟨⟨by first | rfl | (simp; done) | (simp []; done) | omega, by first | decide | (simp; done) | (simp []; done) | omega | (simp only [tlL]; omega) | (simp; omega)⟩, ⟨by first | rfl | (simp; done) | (simp []; done) | omega, by first | decide | (simp; done) | (simp []; done) | omega | (simp only [tlL]; omega) | (simp; omega)⟩, ⟨by first | rfl | (simp; done) | (simp []; done) | omega, by first | decide | (simp; done) | (simp []; done) | omega | (simp only [tlL]; omega) | (simp; omega)⟩, trivial⟩, by decide, (F_p_spec_l1Cur_among_W r6b r6c r6d [(-1 : Int), ((1 : Int) * 2 ^ Int.toNat (maxN (0 : Int) (minN x3 (13 : Int)))), (4611686018427387904 : Int)] r13 r13b r13c r13d c2), by first | rfl | (simp [V.ren, V.renL, renF, lk]; done) | (simp [V.ren, V.renL, renF, lk]; omega), WkT.eq (WkT.refl _) (by first | rfl | (simp only [tlS, tl, vl, vo, oc, ov, tbl, vbl, ty, vy]; done) | (simp only [tlS, tl, vl, vo, oc, ov, tbl, vbl, ty, vy]; rfl) | (simp; done) | (simp []; done) | (rw [List.take_of_length_le (by simp [])]; done) | (rw [List.take_of_length_le (by simp [])]; rfl) | (simp only [tlL]; omega) | (simp; omega)), by first | rfl | (simp only [tlS]; rfl) | (simp [Tl.Obj.ren, V.ren, V.renL, renF, lk]; done), trivial⟩ ⟨(WkT.refl _), trivial⟩ rfl rfl (fun _ h => h)
  · -- no
    refine WP.cond (b := r6) rfl (fun hh => by rw [h1] at hh; cases hh) (fun _ => ?_)
    refine WP.path tab_ok mixed [] [.keep [4, 0, 1], .keepO [500]] (ps := []) (e := .normal) (σ' := ⟨[500], [(4, vi 0), (0, V.ref 500 0), (1, vi x3)], [(500, oc 151 [ty r6b, ti r6c, T.int .u64 r6d])]⟩) (by kernel_rfl) trivial ?_
    obtain ⟨c1, h⟩ := chk_some h
    obtain ⟨r19, r19b, r19c, r19d, c2, h⟩ := bnd4_some h
    simp only [Option.some.injEq, Prod.mk.injEq] at h
    obtain ⟨rfl, rfl, rfl, rfl⟩ := h
    exact WP.pathG tab_ok mixed [(16, An.call (ti (minN x3 (12 : Int)))), (17, An.call (ti (maxN (0 : Int) (minN x3 (12 : Int))))), (18, An.v (T.int .i64 ((1 : Int) * 2 ^ Int.toNat (maxN (0 : Int) (minN x3 (12 : Int)))))), (19, An.callG [(500, 500)] [V.ref 500 0, vi ((1 : Int) * 2 ^ Int.toNat (maxN (0 : Int) (minN x3 (12 : Int))))] [(500, oc 151 [ty r6b, ti r6c, T.int .u64 r6d])] (vi r19) [(500, oc 151 [ty r19b, ti r19c, T.int .u64 r19d])])] [.keep [4], .keepO [500], .names [(500, 500)]] [500] _ (r' := vi r19) (ps := [(C Try.prog 196 [ti x3, ti 12] (ti (minN x3 (12 : Int)))), (C Try.prog 155 [ti 0, ti (minN x3 (12 : Int))] (ti (maxN (0 : Int) (minN x3 (12 : Int))))), (0 ≤ (maxN (0 : Int) (minN x3 (12 : Int)))), (T.int .i64 (IntKind.wrap .i64 ((1 : Int) * 2 ^ (min (Int.toNat (maxN (0 : Int) (minN x3 (12 : Int)))) 64))) = T.int .i64 ((1 : Int) * 2 ^ Int.toNat (maxN (0 : Int) (minN x3 (12 : Int))))), (CG Try.prog 154 [V.ref 500 0, vi ((1 : Int) * 2 ^ Int.toNat (maxN (0 : Int) (minN x3 (12 : Int))))] [(500, oc 151 [ty r6b, ti r6c, T.int .u64 r6d])] (vi r19) [(500, oc 151 [ty r19b, ti r19c, T.int .u64 r19d])]), ((V.ref 500 0).ren (renF [(500, 500)]) = V.ref 500 0), (WkT (ti ((1 : Int) * 2 ^ Int.toNat (maxN (0 : Int) (minN x3 (12 : Int))))) (ti ((1 : Int) * 2 ^ Int.toNat (maxN (0 : Int) (minN x3 (12 : Int)))))), ((oc 151 [ty r6b, ti r6c, T.int .u64 r6d]) = (oc 151 [ty r6b, ti r6c, T.int .u64 r6d]).ren (renF [(500, 500)]))]) (r := vi r19) (N := [500]) (O := [(500, oc 151 [ty r19b, ti r19c, T.int .u64 r19d])]) [] (by kernel_rfl) ⟨(by have hh := (l1Least_C x3 (12 : Int)); simpa using hh), (by have hh := (l1Most_C (0 : Int) (minN x3 (12 : Int))); simpa using hh), c1.1, shl_told c1, (F_p_spec_l1Cur_pick_W r6b r6c r6d ((1 : Int) * 2 ^ Int.toNat (maxN (0 : Int) (minN x3 (12 : Int)))) r19 r19b r19c r19d c2), by first | rfl | (simp [V.ren, V.renL, renF, lk]; done) | (simp [V.ren, V.renL, renF, lk]; omega), WkT.refl _, by first | rfl | (simp only [tlS]; rfl) | (simp [Tl.Obj.ren, V.ren, V.renL, renF, lk]; done), trivial⟩ ⟨(WkT.refl _), trivial⟩ rfl rfl (fun _ h => h)
theorem F_p_spec_l1Cur_asked_W (x0 : List Int) (x1 : Int) (x2 : Int) (x3 : Int) (y0 : List (Int × Bool)) (y1 : List Int) (y2 : Int) (y3 : Int) (h : F_p_spec_l1Cur_asked x0 x1 x2 x3 = some (y0, y1, y2, y3)) : CG Try.prog 204 [V.ref 500 0, vi x3] [(500, oc 151 [ty x0, ti x1, T.int .u64 x2])] (V.own 9000 2 (List.length y0)) [(500, oc 151 [ty y1, ti y2, T.int .u64 y3]), (9000, oc 85 (List.flatMap askedC y0))] := by
  unfold F_p_spec_l1Cur_asked at h
  refine CG.intro (tab := tab) tab_ok (fn := Try.f204) Try.func204 (by kernel_rfl) rfl (Nat.le_of_ble_eq_true rfl) (by kernel_rfl) ?_
  refine WP.seq ?_
  refine WP.path tab_ok mixed [] [.keep [4, 0, 1], .keepO [500]] (ps := []) (e := .normal) (σ' := ⟨[500], [(4, V.t (T.nils)), (0, V.ref 500 0), (1, vi x3)], [(500, oc 151 [ty x0, ti x1, T.int .u64 x2])]⟩) (by kernel_rfl) trivial ?_
  refine WP.seq ?_
  obtain ⟨r14, r14b, r14c, r14d, c0, h⟩ := bnd4_some h
  refine WP.path tab_ok mixed [(10, An.id 2010), (13, An.call (ti (maxN (1 : Int) x3))), (14, An.callG [(500, 500)] [V.ref 500 0, vi (maxN (1 : Int) x3)] [(500, oc 151 [ty x0, ti x1, T.int .u64 x2])] (vi r14) [(500, oc 151 [ty r14b, ti r14c, T.int .u64 r14d])])] [.keep [6, 5, 4, 0, 1], .keepO [500, 2010]] (ps := [(True), (0 = 0 * 2), (C Try.prog 155 [ti 1, ti x3] (ti (maxN (1 : Int) x3))), (CG Try.prog 154 [V.ref 500 0, vi (maxN (1 : Int) x3)] [(500, oc 151 [ty x0, ti x1, T.int .u64 x2])] (vi r14) [(500, oc 151 [ty r14b, ti r14c, T.int .u64 r14d])]), ((V.ref 500 0).ren (renF [(500, 500)]) = V.ref 500 0), (WkT (ti (maxN (1 : Int) x3)) (ti (maxN (1 : Int) x3))), ((oc 151 [ty x0, ti x1, T.int .u64 x2]) = (oc 151 [ty x0, ti x1, T.int .u64 x2]).ren (renF [(500, 500)]))]) (e := .normal) (σ' := ⟨[2010, 500], [(6, vi r14), (5, V.own 2010 2 0), (4, V.t (T.nils)), (0, V.ref 500 0), (1, vi x3)], [(500, oc 151 [ty r14b, ti r14c, T.int .u64 r14d]), (2010, oc 85 [])]⟩) (by kernel_rfl) ⟨trivial, by decide, (by have hh := (l1Most_C (1 : Int) x3); simpa using hh), (F_p_spec_l1Cur_pick_W x0 x1 x2 (maxN (1 : Int) x3) r14 r14b r14c r14d c0), by first | rfl | (simp [V.ren, V.renL, renF, lk]; done) | (simp [V.ren, V.renL, renF, lk]; omega), WkT.refl _, by first | rfl | (simp only [tlS]; rfl) | (simp [Tl.Obj.ren, V.ren, V.renL, renF, lk]; done), trivial⟩ ?_
  obtain ⟨J1, hJ1, h⟩ := jn_some h
  refine WP.joinA (fun (zz : (List Int) × Int × Int × (List (Int × Bool))) => ⟨[500, 2010], [(5, V.own 2010 2 (List.length zz.2.2.2)), (4, V.t (T.nils)), (0, V.ref 500 0)], [(500, oc 151 [ty zz.1, ti zz.2.1, T.int .u64 zz.2.2.1]), (2010, oc 85 (List.flatMap askedC zz.2.2.2))]⟩) (fun zz => J1 zz.1 zz.2.1 zz.2.2.1 zz.2.2.2 = some (y0, y1, y2, y3)) ?_ ?_
  · -- to where they meet
    refine WP.seq ?_
    obtain ⟨r17, r17b, r17c, r17d, c1, h⟩ := bnd4_some h
    refine WP.path tab_ok mixed [(16, An.fz), (17, An.callG [(500, 500)] [V.ref 500 0, vl [(3 : Int), (4 : Int), (2 : Int), (5 : Int), (1 : Int), (0 : Int), (7 : Int), (10 : Int)]] [(500, oc 151 [ty r14b, ti r14c, T.int .u64 r14d])] (vi r17) [(500, oc 151 [ty r17b, ti r17c, T.int .u64 r17d])])] [.keep [7, 6, 5, 4, 0, 1], .keepO [500, 2010]] (ps := [((1 = 1 ∧ 0 + 1 ≤ 8) ∧ (1 = 1 ∧ 1 + 1 ≤ 8) ∧ (1 = 1 ∧ 2 + 1 ≤ 8) ∧ (1 = 1 ∧ 3 + 1 ≤ 8) ∧ (1 = 1 ∧ 4 + 1 ≤ 8) ∧ (1 = 1 ∧ 5 + 1 ≤ 8) ∧ (1 = 1 ∧ 6 + 1 ≤ 8) ∧ (1 = 1 ∧ 7 + 1 ≤ 8) ∧ True), (8 = 8 * 1), (CG Try.prog 172 [V.ref 500 0, vl [(3 : Int), (4 : Int), (2 : Int), (5 : Int), (1 : Int), (0 : Int), (7 : Int), (10 : Int)]] [(500, oc 151 [ty r14b, ti r14c, T.int .u64 r14d])] (vi r17) [(500, oc 151 [ty r17b, ti r17c, T.int .u64 r17d])]), ((V.ref 500 0).ren (renF [(500, 500)]) = V.ref 500 0), (WkT (T.list 8 1 [ti 3, ti 4, ti 2, ti 5, ti 1, ti 0, ti 7, ti 10]) (tl [(3 : Int), (4 : Int), (2 : Int), (5 : Int), (1 : Int), (0 : Int), (7 : Int), (10 : Int)])), ((oc 151 [ty r14b, ti r14c, T.int .u64 r14d]) = (oc 151 [ty r14b, ti r14c, T.int .u64 r14d]).ren (renF [(500, 500)]))]) (e := .normal) (σ' := ⟨[2010, 500], [(7, vi r17), (6, vi r14), (5, V.own 2010 2 0), (4, V.t (T.nils)), (0, V.ref 500 0), (1, vi x3)], [(500, oc 151 [ty r17b, ti r17c, T.int .u64 r17d]), (2010, oc 85 [])]⟩) (by kernel_rfl) ⟨⟨⟨by first | rfl | (simp; done) | (simp []; done) | omega, by first | decide | (simp; done) | (simp []; done) | omega | (simp only [tlL]; omega) | (simp; omega)⟩, ⟨by first | rfl | (simp; done) | (simp []; done) | omega, by first | decide | (simp; done) | (simp []; done) | omega | (simp only [tlL]; omega) | (simp; omega)⟩, ⟨by first | rfl | (simp; done) | (simp []; done) | omega, by first | decide | (simp; done) | (simp []; done) | omega | (simp only [tlL]; omega) | (simp; omega)⟩, ⟨by first | rfl | (simp; done) | (simp []; done) | omega, by first | decide | (simp; done) | (simp []; done) | omega | (simp only [tlL]; omega) | (simp; omega)⟩, ⟨by first | rfl | (simp; done) | (simp []; done) | omega, by first | decide | (simp; done) | (simp []; done) | omega | (simp only [tlL]; omega) | (simp; omega)⟩, ⟨by first | rfl | (simp; done) | (simp []; done) | omega, by first | decide | (simp; done) | (simp []; done) | omega | (simp only [tlL]; omega) | (simp; omega)⟩, ⟨by first | rfl | (simp; done) | (simp []; done) | omega, by first | decide | (simp; done) | (simp []; done) | omega | (simp only [tlL]; omega) | (simp; omega)⟩, ⟨by first | rfl | (simp; done) | (simp []; done) | omega, by first | decide | (simp; done) | (simp []; done) | omega | (simp only [tlL]; omega) | (simp; omega)⟩, trivial⟩, by decide, (F_p_spec_l1Cur_among_W r14b r14c r14d [(3 : Int), (4 : Int), (2 : Int), (5 : Int), (1 : Int), (0 : Int), (7 : Int), (10 : Int)] r17 r17b r17c r17d c1), by first | rfl | (simp [V.ren, V.renL, renF, lk]; done) | (simp [V.ren, V.renL, renF, lk]; omega), WkT.eq (WkT.refl _) (by first | rfl | (simp only [tlS, tl, vl, vo, oc, ov, tbl, vbl, ty, vy]; done) | (simp only [tlS, tl, vl, vo, oc, ov, tbl, vbl, ty, vy]; rfl) | (simp; done) | (simp []; done) | (rw [List.take_of_length_le (by simp [])]; done) | (rw [List.take_of_length_le (by simp [])]; rfl) | (simp only [tlL]; omega) | (simp; omega)), by first | rfl | (simp only [tlS]; rfl) | (simp [Tl.Obj.ren, V.ren, V.renL, renF, lk]; done), trivial⟩ ?_
    refine WP.block ?_
    refine WP.wk [.keep [7, 6, 5, 4, 0, 1], .keepO [500, 2010], .names [(500, 500), (2010, 2010)]] (σ' := ⟨[500, 2010], [(7, vi r17), (6, vi r14), (5, V.own 2010 2 0), (4, V.t (T.nils)), (0, V.ref 500 0), (1, vi x3)], [(500, oc 151 [ty r17b, ti r17c, T.int .u64 r17d]), (2010, oc 85 [])]⟩) (ps := []) (by kernel_rfl) trivial ?_
    refine WP.st (σ' := ⟨[500, 2010], [(7, vi r17), (6, vi r14), (5, V.own 2010 2 (List.length ([] : List (Int × Bool)))), (4, V.t (T.nils)), (0, V.ref 500 0), (1, vi x3)], [(500, oc 151 [ty r17b, ti r17c, T.int .u64 r17d]), (2010, oc 85 (List.flatMap askedC ([] : List (Int × Bool))))]⟩) (by first | rfl | (simp only [tlS, tl, vl, vo, oc, ov, tbl, vbl, ty, vy]; done) | (simp only [tlS, tl, vl, vo, oc, ov, tbl, vbl, ty, vy]; rfl) | (simp; done) | (simp []; done) | (rw [List.take_of_length_le (by simp [])]; done) | (rw [List.take_of_length_le (by simp [])]; rfl) | (simp only [tlL]; omega) | (simp; omega)) ?_
    refine WP.loop (α := Nat × (List Int) × Int × Int × (List (Int × Bool)) × Int) (fun zz => ⟨[500, 2010], [(7, vi zz.2.2.2.2.2), (6, vi r14), (5, V.own 2010 2 (List.length zz.2.2.2.2.1)), (4, V.t (T.nils)), (0, V.ref 500 0), (1, vi x3)], [(500, oc 151 [ty zz.2.1, ti zz.2.2.1, T.int .u64 zz.2.2.2.1]), (2010, oc 85 (List.flatMap askedC zz.2.2.2.2.1))]⟩) (fun zz => F_p_spec_l1Cur_asked_L1 x3 r14 J1 zz.1 zz.2.1 zz.2.2.1 zz.2.2.2.1 zz.2.2.2.2.1 zz.2.2.2.2.2 = some (y0, y1, y2, y3)) (fun zz => zz.1) (fuel, r17b, r17c, r17d, ([] : List (Int × Bool)), r17) h ?_
    rintro ⟨n, o500, o500b, o500c, o10, v7⟩ h0
    have h := (show F_p_spec_l1Cur_asked_L1 x3 r14 J1 n o500 o500b o500c o10 v7 = some (y0, y1, y2, y3) from h0)
    rcases n with _ | n
    · rw [F_p_spec_l1Cur_asked_L1] at h; cases h
    · rw [F_p_spec_l1Cur_asked_L1] at h
      refine WP.seq ?_
      refine WP.seq ?_
      refine WP.path tab_ok mixed [] [.keep [19, 7, 6, 5, 4, 0, 1], .keepO [500, 2010]] (ps := [(True)]) (e := .normal) (σ' := ⟨[500, 2010], [(19, vb (decide (v7 > (0 : Int)))), (7, vi v7), (6, vi r14), (5, V.own 2010 2 (List.length o10)), (4, V.t (T.nils)), (0, V.ref 500 0), (1, vi x3)], [(500, oc 151 [ty o500, ti o500b, T.int .u64 o500c]), (2010, oc 85 (List.flatMap askedC o10))]⟩) (by kernel_rfl) ⟨trivial, trivial⟩ ?_
      rcases ite_some h with ⟨h1, h⟩ | ⟨h1, h⟩
      · -- yes
        refine WP.cond (b := decide (v7 > (0 : Int))) rfl (fun _ => ?_) (fun hh => by rw [h1] at hh; cases hh)
        refine WP.path tab_ok mixed [] [.keep [7, 6, 5, 4, 0, 1], .keepO [500, 2010]] (ps := []) (e := .normal) (σ' := ⟨[500, 2010], [(7, vi v7), (6, vi r14), (5, V.own 2010 2 (List.length o10)), (4, V.t (T.nils)), (0, V.ref 500 0), (1, vi x3)], [(500, oc 151 [ty o500, ti o500b, T.int .u64 o500c]), (2010, oc 85 (List.flatMap askedC o10))]⟩) (by kernel_rfl) trivial ?_
        refine WP.seq ?_
        refine WP.block ?_
        refine WP.seq ?_
        obtain ⟨r24, r24b, r24c, r24d, c2, h⟩ := bnd4_some h
        refine WP.path tab_ok mixed [(24, An.callG [(500, 500)] [V.ref 500 0, vi x3] [(500, oc 151 [ty o500, ti o500b, T.int .u64 o500c])] (vi r24) [(500, oc 151 [ty r24b, ti r24c, T.int .u64 r24d])])] [.keep [8, 7, 6, 5, 4, 0, 1], .keepO [500, 2010]] (ps := [(CG Try.prog 171 [V.ref 500 0, vi x3] [(500, oc 151 [ty o500, ti o500b, T.int .u64 o500c])] (vi r24) [(500, oc 151 [ty r24b, ti r24c, T.int .u64 r24d])]), ((V.ref 500 0).ren (renF [(500, 500)]) = V.ref 500 0), (WkT (ti x3) (ti x3)), ((oc 151 [ty o500, ti o500b, T.int .u64 o500c]) = (oc 151 [ty o500, ti o500b, T.int .u64 o500c]).ren (renF [(500, 500)]))]) (e := .normal) (σ' := ⟨[500, 2010], [(8, vi r24), (7, vi v7), (6, vi r14), (5, V.own 2010 2 (List.length o10)), (4, V.t (T.nils)), (0, V.ref 500 0), (1, vi x3)], [(500, oc 151 [ty r24b, ti r24c, T.int .u64 r24d]), (2010, oc 85 (List.flatMap askedC o10))]⟩) (by kernel_rfl) ⟨(F_p_spec_l1Cur_question_W o500 o500b o500c x3 r24 r24b r24c r24d c2), by first | rfl | (simp [V.ren, V.renL, renF, lk]; done) | (simp [V.ren, V.renL, renF, lk]; omega), WkT.refl _, by first | rfl | (simp only [tlS]; rfl) | (simp [Tl.Obj.ren, V.ren, V.renL, renF, lk]; done), trivial⟩ ?_
        obtain ⟨J2, hJ2, h⟩ := jn_some h
        refine WP.joinA (fun (zz : Bool) => ⟨[500, 2009, 2010], [(9, V.ref 2009 0), (7, vi v7), (6, vi r14), (5, V.own 2010 2 (List.length o10)), (4, V.t (T.nils)), (0, V.ref 500 0), (1, vi x3)], [(500, oc 151 [ty r24b, ti r24c, T.int .u64 r24d]), (2009, oc 85 [ti r24, tb zz]), (2010, oc 85 (List.flatMap askedC o10))]⟩) (fun zz => J2 zz = some (y0, y1, y2, y3)) ?_ ?_
        · -- to where they meet
          rcases ite_some h with ⟨h2, h⟩ | ⟨h2, h⟩
          · -- yes
            obtain ⟨c3, h⟩ := chk_some h
            obtain ⟨n32, c4, h⟩ := nam_some h
            refine WP.path tab_ok mixed [(27, An.call (tb true)), (31, An.v (T.int .i64 (r24 / 2 ^ Int.toNat r14))), (32, An.v (ti n32)), (9, An.id 2009)] [.keep [9, 7, 6, 5, 4, 0, 1], .keepO [500, 2009, 2010], .names [(500, 500), (2009, 2009), (2010, 2010)]] (ps := [(C Try.prog 135 [ti r24, ti 0, ti 4095] (tb true)), (0 ≤ r14), (T.int .i64 (Int.fdiv r24 (2 ^ (min (Int.toNat r14) 64))) = T.int .i64 (r24 / 2 ^ Int.toNat r14)), (True), (ti (bits .and .i64 (r24 / 2 ^ Int.toNat r14) (1 : Int)) = ti n32), (True), ((1 = 1 ∧ 0 + 1 ≤ 2) ∧ (1 = 1 ∧ 1 + 1 ≤ 2) ∧ True), ((0 + 2 ≤ 2 ∧ 2 = 2))]) (e := .normal) (σ' := ⟨[500, 2009, 2010], [(9, V.ref 2009 0), (7, vi v7), (6, vi r14), (5, V.own 2010 2 (List.length o10)), (4, V.t (T.nils)), (0, V.ref 500 0), (1, vi x3)], [(500, oc 151 [ty r24b, ti r24c, T.int .u64 r24d]), (2009, oc 85 [ti r24, tb (n32 == (1 : Int))]), (2010, oc 85 (List.flatMap askedC o10))]⟩) (by kernel_rfl) ⟨(C.toB h2 (by have hh := (l1In_C r24 (0 : Int) (4095 : Int)); simpa using hh)), c3.1, shr_told c3, trivial, congrArg (ti) c4, trivial, ⟨⟨by first | rfl | (simp; done) | (simp []; done) | omega, by first | decide | (simp; done) | (simp []; done) | omega | (simp only [tlL]; omega) | (simp; omega)⟩, ⟨by first | rfl | (simp; done) | (simp []; done) | omega, by first | decide | (simp; done) | (simp []; done) | omega | (simp only [tlL]; omega) | (simp; omega)⟩, trivial⟩, by decide, trivial⟩ ?_
            exact ⟨(n32 == (1 : Int)), h, rfl⟩
          · -- no
            refine WP.path tab_ok mixed [(27, An.call (tb false)), (9, An.id 2009)] [.keep [9, 7, 6, 5, 4, 0, 1], .keepO [500, 2009, 2010], .names [(500, 500), (2009, 2009), (2010, 2010)]] (ps := [(C Try.prog 135 [ti r24, ti 0, ti 4095] (tb false)), ((1 = 1 ∧ 0 + 1 ≤ 2) ∧ (1 = 1 ∧ 1 + 1 ≤ 2) ∧ True), ((0 + 2 ≤ 2 ∧ 2 = 2))]) (e := .normal) (σ' := ⟨[500, 2009, 2010], [(9, V.ref 2009 0), (7, vi v7), (6, vi r14), (5, V.own 2010 2 (List.length o10)), (4, V.t (T.nils)), (0, V.ref 500 0), (1, vi x3)], [(500, oc 151 [ty r24b, ti r24c, T.int .u64 r24d]), (2009, oc 85 [ti r24, tb false]), (2010, oc 85 (List.flatMap askedC o10))]⟩) (by kernel_rfl) ⟨(C.toB h2 (by have hh := (l1In_C r24 (0 : Int) (4095 : Int)); simpa using hh)), ⟨⟨by first | rfl | (simp; done) | (simp []; done) | omega, by first | decide | (simp; done) | (simp []; done) | omega | (simp only [tlL]; omega) | (simp; omega)⟩, ⟨by first | rfl | (simp; done) | (simp []; done) | omega, by first | decide | (simp; done) | (simp []; done) | omega | (simp only [tlL]; omega) | (simp; omega)⟩, trivial⟩, by decide, trivial⟩ ?_
            exact ⟨(false), h, rfl⟩
        · -- from there
          intro o9 h0
          have h := (show J2 o9 = some (y0, y1, y2, y3) from h0)
          rw [hJ2] at h
          obtain ⟨J2, hJ2, h⟩ := jn_some h
          refine WP.joinA (fun (zz : (List Int) × Int × Int × Bool) => ⟨[500, 2009, 2010], [(9, V.ref 2009 0), (7, vi v7), (6, vi r14), (5, V.own 2010 2 (List.length o10)), (4, V.t (T.nils)), (0, V.ref 500 0), (1, vi x3)], [(500, oc 151 [ty zz.1, ti zz.2.1, T.int .u64 zz.2.2.1]), (2009, oc 85 [ti r24, tb zz.2.2.2]), (2010, oc 85 (List.flatMap askedC o10))]⟩) (fun zz => J2 zz.1 zz.2.1 zz.2.2.1 zz.2.2.2 = some (y0, y1, y2, y3)) ?_ ?_
          · -- to where they meet
            refine WP.seq ?_
            obtain ⟨r37, r37b, r37c, r37d, c3, h⟩ := bnd4_some h
            refine WP.path tab_ok mixed [(37, An.callG [(500, 500)] [V.ref 500 0, vi 4] [(500, oc 151 [ty r24b, ti r24c, T.int .u64 r24d])] (vb r37) [(500, oc 151 [ty r37b, ti r37c, T.int .u64 r37d])])] [.keep [37, 9, 7, 6, 5, 4, 0, 1], .keepO [500, 2009, 2010]] (ps := [(CG Try.prog 205 [V.ref 500 0, vi 4] [(500, oc 151 [ty r24b, ti r24c, T.int .u64 r24d])] (vb r37) [(500, oc 151 [ty r37b, ti r37c, T.int .u64 r37d])]), ((V.ref 500 0).ren (renF [(500, 500)]) = V.ref 500 0), (WkT (ti 4) (ti 4)), ((oc 151 [ty r24b, ti r24c, T.int .u64 r24d]) = (oc 151 [ty r24b, ti r24c, T.int .u64 r24d]).ren (renF [(500, 500)]))]) (e := .normal) (σ' := ⟨[500, 2009, 2010], [(37, vb r37), (9, V.ref 2009 0), (7, vi v7), (6, vi r14), (5, V.own 2010 2 (List.length o10)), (4, V.t (T.nils)), (0, V.ref 500 0), (1, vi x3)], [(500, oc 151 [ty r37b, ti r37c, T.int .u64 r37d]), (2009, oc 85 [ti r24, tb o9]), (2010, oc 85 (List.flatMap askedC o10))]⟩) (by kernel_rfl) ⟨(F_p_spec_l1Cur_one_W r24b r24c r24d (4 : Int) r37 r37b r37c r37d c3), by first | rfl | (simp [V.ren, V.renL, renF, lk]; done) | (simp [V.ren, V.renL, renF, lk]; omega), WkT.refl _, by first | rfl | (simp only [tlS]; rfl) | (simp [Tl.Obj.ren, V.ren, V.renL, renF, lk]; done), trivial⟩ ?_
            rcases ite_some h with ⟨h3, h⟩ | ⟨h3, h⟩
            · -- yes
              refine WP.cond (b := r37) rfl (fun _ => ?_) (fun hh => by rw [h3] at hh; cases hh)
              refine WP.path tab_ok mixed [] [.keep [9, 7, 6, 5, 4, 0, 1], .keepO [500, 2009, 2010], .names [(500, 500), (2009, 2009), (2010, 2010)]] (ps := [(True), (1 < 2)]) (e := .normal) (σ' := ⟨[500, 2009, 2010], [(9, V.ref 2009 0), (7, vi v7), (6, vi r14), (5, V.own 2010 2 (List.length o10)), (4, V.t (T.nils)), (0, V.ref 500 0), (1, vi x3)], [(500, oc 151 [ty r37b, ti r37c, T.int .u64 r37d]), (2009, oc 85 [ti r24, tb !o9]), (2010, oc 85 (List.flatMap askedC o10))]⟩) (by kernel_rfl) ⟨trivial, by decide, trivial⟩ ?_
              exact ⟨(r37b, r37c, r37d, !o9), h, rfl⟩
            · -- no
              refine WP.cond (b := r37) rfl (fun hh => by rw [h3] at hh; cases hh) (fun _ => ?_)
              refine WP.path tab_ok mixed [] [.keep [9, 7, 6, 5, 4, 0, 1], .keepO [500, 2009, 2010], .names [(500, 500), (2009, 2009), (2010, 2010)]] (ps := []) (e := .normal) (σ' := ⟨[500, 2009, 2010], [(9, V.ref 2009 0), (7, vi v7), (6, vi r14), (5, V.own 2010 2 (List.length o10)), (4, V.t (T.nils)), (0, V.ref 500 0), (1, vi x3)], [(500, oc 151 [ty r37b, ti r37c, T.int .u64 r37d]), (2009, oc 85 [ti r24, tb o9]), (2010, oc 85 (List.flatMap askedC o10))]⟩) (by kernel_rfl) trivial ?_
              exact ⟨(r37b, r37c, r37d, o9), h, rfl⟩
          · -- from there
            rintro ⟨o500d, o500e, o500g, o9b⟩ h0
            have h := (show J2 o500d o500e o500g o9b = some (y0, y1, y2, y3) from h0)
            rw [hJ2] at h
            obtain ⟨c3, h⟩ := chk_some h
            refine WP.path tab_ok mixed [(44, An.fz), (45, An.id 2045)] [.keep [5, 7, 6, 4, 0, 1], .keepO [500, 2045]] (ps := [(0 + 2 ≤ 2), ((2 = 2 ∧ 0 + 2 ≤ 2) ∧ True), (2 = 1 * 2), (True), (List.length (List.flatMap askedC o10) = (List.length o10) * 2), ((((List.length o10) + 1) * 16 ≤ 140737488355328 ∧ (List.length o10) + 1 ≤ maxLen))]) (e := .normal) (σ' := ⟨[2045, 500, 2009, 2010], [(5, V.own 2045 2 ((List.length o10) + 1)), (7, vi v7), (6, vi r14), (4, V.t (T.nils)), (0, V.ref 500 0), (1, vi x3)], [(500, oc 151 [ty o500d, ti o500e, T.int .u64 o500g]), (2045, oc 85 ((List.flatMap askedC o10) ++ [ti r24, tb o9b]))]⟩) (by kernel_rfl) ⟨by decide, ⟨⟨by first | rfl | (simp; done) | (simp []; done) | omega, by first | decide | (simp; done) | (simp []; done) | omega | (simp only [tlL]; omega) | (simp; omega)⟩, trivial⟩, by decide, trivial, by first | exact len_asked _ | (rw [len_asked]; first | done | omega | (simp; done) | (simp only [tlL]; omega) | (simp; omega)), c3, trivial⟩ ?_
            obtain ⟨c4, h⟩ := chk_some h
            refine WP.path tab_ok mixed [(21, An.v (T.int .i64 (v7 - (1 : Int))))] [.keep [7, 6, 5, 4, 0, 1], .keepO [500, 2045], .names [(500, 500), (2045, 2010)]] (ps := [(True), (T.int .i64 (IntKind.wrap .i64 (v7 - (1 : Int))) = T.int .i64 (v7 - (1 : Int)))]) (e := .normal) (σ' := ⟨[500, 2010], [(7, vi (v7 - (1 : Int))), (6, vi r14), (5, V.own 2010 2 ((List.length o10) + 1)), (4, V.t (T.nils)), (0, V.ref 500 0), (1, vi x3)], [(500, oc 151 [ty o500d, ti o500e, T.int .u64 o500g]), (2010, oc 85 ((List.flatMap askedC o10) ++ [ti r24, tb o9b]))]⟩) (by kernel_rfl) ⟨trivial, wrapI c4, trivial⟩ ?_
            exact ⟨(n, o500d, o500e, o500g, o10 ++ [(r24, o9b)], (v7 - (1 : Int))), h, Nat.lt_succ_self _, (by first | rfl | (simp only [tlS, tl, vl, vo, oc, ov, tbl, vbl, ty, vy]; done) | (simp only [tlS, tl, vl, vo, oc, ov, tbl, vbl, ty, vy]; rfl) | (simp; done) | (simp []; done) | (rw [List.take_of_length_le (by simp [])]; done) | (rw [List.take_of_length_le (by simp [])]; rfl) | (simp only [tlL]; omega) | (simp; omega))⟩
      · -- no
        refine WP.cond (b := decide (v7 > (0 : Int))) rfl (fun hh => by rw [h1] at hh; cases hh) (fun _ => ?_)
        refine WP.path tab_ok mixed [] [.keep [5, 4, 0], .keepO [500, 2010], .names [(500, 500), (2010, 2010)]] (ps := []) (e := (.exit 0)) (σ' := ⟨[500, 2010], [(5, V.own 2010 2 (List.length o10)), (4, V.t (T.nils)), (0, V.ref 500 0)], [(500, oc 151 [ty o500, ti o500b, T.int .u64 o500c]), (2010, oc 85 (List.flatMap askedC o10))]⟩) (by kernel_rfl) trivial ?_
        exact ⟨(o500, o500b, o500c, o10), h, rfl⟩
  · -- from there
    rintro ⟨o500, o500b, o500c, o10⟩ h0
    have h := (show J1 o500 o500b o500c o10 = some (y0, y1, y2, y3) from h0)
    rw [hJ1] at h
    obtain ⟨J1, hJ1, h⟩ := jn_some h
    refine WP.joinA (fun (zz : (List Int) × Int × Int × (List (Int × Bool))) => ⟨[500, 2010], [(5, V.own 2010 2 (List.length zz.2.2.2)), (4, V.t (T.nils))], [(500, oc 151 [ty zz.1, ti zz.2.1, T.int .u64 zz.2.2.1]), (2010, oc 85 (List.flatMap askedC zz.2.2.2))]⟩) (fun zz => J1 zz.1 zz.2.1 zz.2.2.1 zz.2.2.2 = some (y0, y1, y2, y3)) ?_ ?_
    · -- to where they meet
      refine WP.seq ?_
      obtain ⟨r47, r47b, r47c, r47d, c1, h⟩ := bnd4_some h
      refine WP.path tab_ok mixed [(47, An.callG [(500, 500)] [V.ref 500 0, vi 40] [(500, oc 151 [ty o500, ti o500b, T.int .u64 o500c])] (vb r47) [(500, oc 151 [ty r47b, ti r47c, T.int .u64 r47d])])] [.keep [47, 5, 4], .keepO [500, 2010]] (ps := [(CG Try.prog 205 [V.ref 500 0, vi 40] [(500, oc 151 [ty o500, ti o500b, T.int .u64 o500c])] (vb r47) [(500, oc 151 [ty r47b, ti r47c, T.int .u64 r47d])]), ((V.ref 500 0).ren (renF [(500, 500)]) = V.ref 500 0), (WkT (ti 40) (ti 40)), ((oc 151 [ty o500, ti o500b, T.int .u64 o500c]) = (oc 151 [ty o500, ti o500b, T.int .u64 o500c]).ren (renF [(500, 500)]))]) (e := .normal) (σ' := ⟨[500, 2010], [(47, vb r47), (5, V.own 2010 2 (List.length o10)), (4, V.t (T.nils))], [(500, oc 151 [ty r47b, ti r47c, T.int .u64 r47d]), (2010, oc 85 (List.flatMap askedC o10))]⟩) (by kernel_rfl) ⟨(F_p_spec_l1Cur_one_W o500 o500b o500c (40 : Int) r47 r47b r47c r47d c1), by first | rfl | (simp [V.ren, V.renL, renF, lk]; done) | (simp [V.ren, V.renL, renF, lk]; omega), WkT.refl _, by first | rfl | (simp only [tlS]; rfl) | (simp [Tl.Obj.ren, V.ren, V.renL, renF, lk]; done), trivial⟩ ?_
      rcases ite_some h with ⟨h4, h⟩ | ⟨h4, h⟩
      · -- yes
        refine WP.cond (b := r47) rfl (fun _ => ?_) (fun hh => by rw [h4] at hh; cases hh)
        refine WP.block ?_
        refine WP.wk [.keep [5, 4], .keepO [500, 2010], .names [(500, 500), (2010, 2010)]] (σ' := ⟨[500, 2010], [(5, V.own 2010 2 (List.length o10)), (4, V.t (T.nils))], [(500, oc 151 [ty r47b, ti r47c, T.int .u64 r47d]), (2010, oc 85 (List.flatMap askedC o10))]⟩) (ps := []) (by kernel_rfl) trivial ?_
        refine WP.loop (α := Nat × (List (Int × Bool))) (fun zz => ⟨[500, 2010], [(5, V.own 2010 2 (List.length zz.2)), (4, V.t (T.nils))], [(500, oc 151 [ty r47b, ti r47c, T.int .u64 r47d]), (2010, oc 85 (List.flatMap askedC zz.2))]⟩) (fun zz => F_p_spec_l1Cur_asked_L2 J1 r47b r47c r47d zz.1 zz.2 = some (y0, y1, y2, y3)) (fun zz => zz.1) (fuel, o10) h ?_
        rintro ⟨n, o10b⟩ h0
        have h := (show F_p_spec_l1Cur_asked_L2 J1 r47b r47c r47d n o10b = some (y0, y1, y2, y3) from h0)
        rcases n with _ | n
        · rw [F_p_spec_l1Cur_asked_L2] at h; cases h
        · rw [F_p_spec_l1Cur_asked_L2] at h
          refine WP.seq ?_
          refine WP.seq ?_
          refine WP.path tab_ok mixed [] [.keep [50, 5, 4], .keepO [500, 2010]] (ps := [(True)]) (e := .normal) (σ' := ⟨[500, 2010], [(50, vb (decide (((List.length o10b : Nat) : Int) < (21 : Int)))), (5, V.own 2010 2 (List.length o10b)), (4, V.t (T.nils))], [(500, oc 151 [ty r47b, ti r47c, T.int .u64 r47d]), (2010, oc 85 (List.flatMap askedC o10b))]⟩) (by kernel_rfl) ⟨trivial, trivial⟩ ?_
          rcases ite_some h with ⟨h5, h⟩ | ⟨h5, h⟩
          · -- yes
            refine WP.cond (b := decide (((List.length o10b : Nat) : Int) < (21 : Int))) rfl (fun _ => ?_) (fun hh => by rw [h5] at hh; cases hh)
            refine WP.path tab_ok mixed [] [.keep [5, 4], .keepO [500, 2010]] (ps := []) (e := .normal) (σ' := ⟨[500, 2010], [(5, V.own 2010 2 (List.length o10b)), (4, V.t (T.nils))], [(500, oc 151 [ty r47b, ti r47c, T.int .u64 r47d]), (2010, oc 85 (List.flatMap askedC o10b))]⟩) (by kernel_rfl) trivial ?_
            refine WP.block ?_
            obtain ⟨c2, h⟩ := chk_some h
            refine WP.path tab_ok mixed [(53, An.fz), (54, An.id 2054)] [.keep [5, 4], .keepO [500, 2054], .names [(500, 500), (2054, 2010)]] (ps := [((1 = 1 ∧ 0 + 1 ≤ 2) ∧ True), ((2 = 2 ∧ 0 + 2 ≤ 2) ∧ True), (2 = 1 * 2), (True), (List.length (List.flatMap askedC o10b) = (List.length o10b) * 2), ((((List.length o10b) + 1) * 16 ≤ 140737488355328 ∧ (List.length o10b) + 1 ≤ maxLen))]) (e := .normal) (σ' := ⟨[500, 2010], [(5, V.own 2010 2 ((List.length o10b) + 1)), (4, V.t (T.nils))], [(500, oc 151 [ty r47b, ti r47c, T.int .u64 r47d]), (2010, oc 85 ((List.flatMap askedC o10b) ++ [ti 1, tb false]))]⟩) (by kernel_rfl) ⟨⟨⟨by first | rfl | (simp; done) | (simp []; done) | omega, by first | decide | (simp; done) | (simp []; done) | omega | (simp only [tlL]; omega) | (simp; omega)⟩, trivial⟩, ⟨⟨by first | rfl | (simp; done) | (simp []; done) | omega, by first | decide | (simp; done) | (simp []; done) | omega | (simp only [tlL]; omega) | (simp; omega)⟩, trivial⟩, by decide, trivial, by first | exact len_asked _ | (rw [len_asked]; first | done | omega | (simp; done) | (simp only [tlL]; omega) | (simp; omega)), c2, trivial⟩ ?_
            exact ⟨(n, o10b ++ [((1 : Int), false)]), h, Nat.lt_succ_self _, (by first | rfl | (simp only [tlS, tl, vl, vo, oc, ov, tbl, vbl, ty, vy]; done) | (simp only [tlS, tl, vl, vo, oc, ov, tbl, vbl, ty, vy]; rfl) | (simp; done) | (simp []; done) | (rw [List.take_of_length_le (by simp [])]; done) | (rw [List.take_of_length_le (by simp [])]; rfl) | (simp only [tlL]; omega) | (simp; omega))⟩
          · -- no
            refine WP.cond (b := decide (((List.length o10b : Nat) : Int) < (21 : Int))) rfl (fun hh => by rw [h5] at hh; cases hh) (fun _ => ?_)
            refine WP.path tab_ok mixed [] [.keep [5, 4], .keepO [500, 2010], .names [(500, 500), (2010, 2010)]] (ps := []) (e := (.exit 2)) (σ' := ⟨[500, 2010], [(5, V.own 2010 2 (List.length o10b)), (4, V.t (T.nils))], [(500, oc 151 [ty r47b, ti r47c, T.int .u64 r47d]), (2010, oc 85 (List.flatMap askedC o10b))]⟩) (by kernel_rfl) trivial ?_
            exact ⟨(r47b, r47c, r47d, o10b), h, rfl⟩
      · -- no
        refine WP.cond (b := r47) rfl (fun hh => by rw [h4] at hh; cases hh) (fun _ => ?_)
        refine WP.path tab_ok mixed [] [.keep [5, 4], .keepO [500, 2010], .names [(500, 500), (2010, 2010)]] (ps := []) (e := .normal) (σ' := ⟨[500, 2010], [(5, V.own 2010 2 (List.length o10)), (4, V.t (T.nils))], [(500, oc 151 [ty r47b, ti r47c, T.int .u64 r47d]), (2010, oc 85 (List.flatMap askedC o10))]⟩) (by kernel_rfl) trivial ?_
        exact ⟨(r47b, r47c, r47d, o10), h, rfl⟩
    · -- from there
      rintro ⟨o500d, o500e, o500g, o10b⟩ h0
      have h := (show J1 o500d o500e o500g o10b = some (y0, y1, y2, y3) from h0)
      rw [hJ1] at h
      simp only [Option.some.injEq, Prod.mk.injEq] at h
      obtain ⟨rfl, rfl, rfl, rfl⟩ := h
      exact WP.pathG tab_ok mixed [] [.keep [4], .keepO [500, 2010], .names [(500, 500), (2010, 9000)]] [500, 9000] _ (r' := V.own 9000 2 (List.length o10b)) (ps := []) (r := V.own 9000 2 (List.length o10b)) (N := [500, 9000]) (O := [(500, oc 151 [ty o500d, ti o500e, T.int .u64 o500g]), (9000, oc 85 (List.flatMap askedC o10b))]) [] (by kernel_rfl) trivial ⟨rfl, trivial⟩ rfl rfl (fun _ h => h)
theorem F_p_spec_l1Cur_doubt7_W (x0 : List Int) (x1 : Int) (x2 : Int) (y0 : Int) (y1 : Int) (y2 : List Int) (y3 : Int) (y4 : Int) (h : F_p_spec_l1Cur_doubt7 x0 x1 x2 = some (y0, y1, y2, y3, y4)) : CG Try.prog 224 [V.ref 500 0] [(500, oc 151 [ty x0, ti x1, T.int .u64 x2])] (V.t (T.agg [ti y0, ti y1])) [(500, oc 151 [ty y2, ti y3, T.int .u64 y4])] := by
  unfold F_p_spec_l1Cur_doubt7 at h
  refine CG.intro (tab := tab) tab_ok (fn := Try.f224) Try.func224 (by kernel_rfl) rfl (Nat.le_of_ble_eq_true rfl) (by kernel_rfl) ?_
  refine WP.seq ?_
  refine WP.path tab_ok mixed [(2, An.id 2002)] [.keep [2, 0], .keepO [500, 2002]] (ps := []) (e := .normal) (σ' := ⟨[2002, 500], [(2, V.ref 2002 0), (0, V.ref 500 0)], [(500, oc 151 [ty x0, ti x1, T.int .u64 x2]), (2002, oc 113 [ti 0, ti 0])]⟩) (by kernel_rfl) trivial ?_
  refine WP.seq ?_
  obtain ⟨r6, r6b, r6c, r6d, c0, h⟩ := bnd4_some h
  refine WP.path tab_ok mixed [(5, An.fz), (6, An.callG [(500, 500)] [V.ref 500 0, vl [(10 : Int), (4 : Int), (3 : Int), (2 : Int), (1 : Int), (7 : Int), (5 : Int)]] [(500, oc 151 [ty x0, ti x1, T.int .u64 x2])] (vi r6) [(500, oc 151 [ty r6b, ti r6c, T.int .u64 r6d])]), (3, An.id 2003)] [.keep [3, 2, 0], .keepO [500, 2002, 2003]] (ps := [((1 = 1 ∧ 0 + 1 ≤ 7) ∧ (1 = 1 ∧ 1 + 1 ≤ 7) ∧ (1 = 1 ∧ 2 + 1 ≤ 7) ∧ (1 = 1 ∧ 3 + 1 ≤ 7) ∧ (1 = 1 ∧ 4 + 1 ≤ 7) ∧ (1 = 1 ∧ 5 + 1 ≤ 7) ∧ (1 = 1 ∧ 6 + 1 ≤ 7) ∧ True), (7 = 7 * 1), (CG Try.prog 172 [V.ref 500 0, vl [(10 : Int), (4 : Int), (3 : Int), (2 : Int), (1 : Int), (7 : Int), (5 : Int)]] [(500, oc 151 [ty x0, ti x1, T.int .u64 x2])] (vi r6) [(500, oc 151 [ty r6b, ti r6c, T.int .u64 r6d])]), ((V.ref 500 0).ren (renF [(500, 500)]) = V.ref 500 0), (WkT (T.list 7 1 [ti 10, ti 4, ti 3, ti 2, ti 1, ti 7, ti 5]) (tl [(10 : Int), (4 : Int), (3 : Int), (2 : Int), (1 : Int), (7 : Int), (5 : Int)])), ((oc 151 [ty x0, ti x1, T.int .u64 x2]) = (oc 151 [ty x0, ti x1, T.int .u64 x2]).ren (renF [(500, 500)])), ((1 = 1 ∧ 1 + 1 ≤ 2) ∧ True), ((0 + 2 ≤ 2 ∧ 2 = 2))]) (e := .normal) (σ' := ⟨[2003, 2002, 500], [(3, V.ref 2003 0), (2, V.ref 2002 0), (0, V.ref 500 0)], [(500, oc 151 [ty r6b, ti r6c, T.int .u64 r6d]), (2002, oc 113 [ti 0, ti 0]), (2003, oc 113 [ti 0, ti r6])]⟩) (by kernel_rfl) ⟨⟨⟨by first | rfl | (simp; done) | (simp []; done) | omega, by first | decide | (simp; done) | (simp []; done) | omega | (simp only [tlL]; omega) | (simp; omega)⟩, ⟨by first | rfl | (simp; done) | (simp []; done) | omega, by first | decide | (simp; done) | (simp []; done) | omega | (simp only [tlL]; omega) | (simp; omega)⟩, ⟨by first | rfl | (simp; done) | (simp []; done) | omega, by first | decide | (simp; done) | (simp []; done) | omega | (simp only [tlL]; omega) | (simp; omega)⟩, ⟨by first | rfl | (simp; done) | (simp []; done) | omega, by first | decide | (simp; done) | (simp []; done) | omega | (simp only [tlL]; omega) | (simp; omega)⟩, ⟨by first | rfl | (simp; done) | (simp []; done) | omega, by first | decide | (simp; done) | (simp []; done) | omega | (simp only [tlL]; omega) | (simp; omega)⟩, ⟨by first | rfl | (simp; done) | (simp []; done) | omega, by first | decide | (simp; done) | (simp []; done) | omega | (simp only [tlL]; omega) | (simp; omega)⟩, ⟨by first | rfl | (simp; done) | (simp []; done) | omega, by first | decide | (simp; done) | (simp []; done) | omega | (simp only [tlL]; omega) | (simp; omega)⟩, trivial⟩, by decide, (F_p_spec_l1Cur_among_W x0 x1 x2 [(10 : Int), (4 : Int), (3 : Int), (2 : Int), (1 : Int), (7 : Int), (5 : Int)] r6 r6b r6c r6d c0), by first | rfl | (simp [V.ren, V.renL, renF, lk]; done) | (simp [V.ren, V.renL, renF, lk]; omega), WkT.eq (WkT.refl _) (by first | rfl | (simp only [tlS, tl, vl, vo, oc, ov, tbl, vbl, ty, vy]; done) | (simp only [tlS, tl, vl, vo, oc, ov, tbl, vbl, ty, vy]; rfl) | (simp; done) | (simp []; done) | (rw [List.take_of_length_le (by simp [])]; done) | (rw [List.take_of_length_le (by simp [])]; rfl) | (simp only [tlL]; omega) | (simp; omega)), by first | rfl | (simp only [tlS]; rfl) | (simp [Tl.Obj.ren, V.ren, V.renL, renF, lk]; done), ⟨⟨by first | rfl | (simp; done) | (simp []; done) | omega, by first | decide | (simp; done) | (simp []; done) | omega | (simp only [tlL]; omega) | (simp; omega)⟩, trivial⟩, by decide, trivial⟩ ?_
  refine WP.seq ?_
  obtain ⟨c1, h⟩ := chk_some h
  obtain ⟨c2, h⟩ := chk_some h
  obtain ⟨r18, r18b, r18c, r18d, c3, h⟩ := bnd4_some h
  obtain ⟨r20, r20b, r20c, r20d, c4, h⟩ := bnd4_some h
  refine WP.path tab_ok mixed [(13, An.v (T.int .i64 (Int.tdiv r6 (2 : Int)))), (17, An.v (T.int .i64 (r6 + (1 : Int)))), (18, An.callG [(500, 500)] [V.ref 500 0, vi (r6 + (1 : Int))] [(500, oc 151 [ty r6b, ti r6c, T.int .u64 r6d])] (vi r18) [(500, oc 151 [ty r18b, ti r18c, T.int .u64 r18d])]), (19, An.fz), (20, An.callG [(500, 500)] [V.ref 500 0, vl [(1 : Int), (1 : Int), (0 : Int), r6, (Int.tdiv r6 (2 : Int)), r18]] [(500, oc 151 [ty r18b, ti r18c, T.int .u64 r18d])] (vi r20) [(500, oc 151 [ty r20b, ti r20c, T.int .u64 r20d])])] [.keep [3, 2, 0], .keepO [500, 2002, 2003]] (ps := [(True), (True), ((2 : Int) ≠ 0), (T.int .i64 (IntKind.wrap .i64 (Int.tdiv r6 (2 : Int))) = T.int .i64 (Int.tdiv r6 (2 : Int))), (True), (True), (T.int .i64 (IntKind.wrap .i64 (r6 + (1 : Int))) = T.int .i64 (r6 + (1 : Int))), (CG Try.prog 154 [V.ref 500 0, vi (r6 + (1 : Int))] [(500, oc 151 [ty r6b, ti r6c, T.int .u64 r6d])] (vi r18) [(500, oc 151 [ty r18b, ti r18c, T.int .u64 r18d])]), ((V.ref 500 0).ren (renF [(500, 500)]) = V.ref 500 0), (WkT (ti (r6 + (1 : Int))) (ti (r6 + (1 : Int)))), ((oc 151 [ty r6b, ti r6c, T.int .u64 r6d]) = (oc 151 [ty r6b, ti r6c, T.int .u64 r6d]).ren (renF [(500, 500)])), ((1 = 1 ∧ 0 + 1 ≤ 6) ∧ (1 = 1 ∧ 1 + 1 ≤ 6) ∧ (1 = 1 ∧ 2 + 1 ≤ 6) ∧ (1 = 1 ∧ 3 + 1 ≤ 6) ∧ (1 = 1 ∧ 4 + 1 ≤ 6) ∧ (1 = 1 ∧ 5 + 1 ≤ 6) ∧ True), (6 = 6 * 1), (CG Try.prog 172 [V.ref 500 0, vl [(1 : Int), (1 : Int), (0 : Int), r6, (Int.tdiv r6 (2 : Int)), r18]] [(500, oc 151 [ty r18b, ti r18c, T.int .u64 r18d])] (vi r20) [(500, oc 151 [ty r20b, ti r20c, T.int .u64 r20d])]), ((V.ref 500 0).ren (renF [(500, 500)]) = V.ref 500 0), (WkT (T.list 6 1 [ti 1, ti 1, ti 0, ti r6, ti (Int.tdiv r6 (2 : Int)), ti r18]) (tl [(1 : Int), (1 : Int), (0 : Int), r6, (Int.tdiv r6 (2 : Int)), r18])), ((oc 151 [ty r18b, ti r18c, T.int .u64 r18d]) = (oc 151 [ty r18b, ti r18c, T.int .u64 r18d]).ren (renF [(500, 500)])), (0 < 2)]) (e := .normal) (σ' := ⟨[2003, 2002, 500], [(3, V.ref 2003 0), (2, V.ref 2002 0), (0, V.ref 500 0)], [(500, oc 151 [ty r20b, ti r20c, T.int .u64 r20d]), (2002, oc 113 [ti 0, ti 0]), (2003, oc 113 [ti r20, ti r6])]⟩) (by kernel_rfl) ⟨trivial, trivial, (show (2 : Int) ≠ 0 by first | decide | (simp only [maxLen]; omega) | (unfold I64; omega) | (unfold I64; decide)), quo_told c1, trivial, trivial, wrapI c2, (F_p_spec_l1Cur_pick_W r6b r6c r6d (r6 + (1 : Int)) r18 r18b r18c r18d c3), by first | rfl | (simp [V.ren, V.renL, renF, lk]; done) | (simp [V.ren, V.renL, renF, lk]; omega), WkT.refl _, by first | rfl | (simp only [tlS]; rfl) | (simp [Tl.Obj.ren, V.ren, V.renL, renF, lk]; done), ⟨⟨by first | rfl | (simp; done) | (simp []; done) | omega, by first | decide | (simp; done) | (simp []; done) | omega | (simp only [tlL]; omega) | (simp; omega)⟩, ⟨by first | rfl | (simp; done) | (simp []; done) | omega, by first | decide | (simp; done) | (simp []; done) | omega | (simp only [tlL]; omega) | (simp; omega)⟩, ⟨by first | rfl | (simp; done) | (simp []; done) | omega, by first | decide | (simp; done) | (simp []; done) | omega | (simp only [tlL]; omega) | (simp; omega)⟩, ⟨by first | rfl | (simp; done) | (simp []; done) | omega, by first | decide | (simp; done) | (simp []; done) | omega | (simp only [tlL]; omega) | (simp; omega)⟩, ⟨by first | rfl | (simp; done) | (simp []; done) | omega, by first | decide | (simp; done) | (simp []; done) | omega | (simp only [tlL]; omega) | (simp; omega)⟩, ⟨by first | rfl | (simp; done) | (simp []; done) | omega, by first | decide | (simp; done) | (simp []; done) | omega | (simp only [tlL]; omega) | (simp; omega)⟩, trivial⟩, by decide, (F_p_spec_l1Cur_among_W r18b r18c r18d [(1 : Int), (1 : Int), (0 : Int), r6, (Int.tdiv r6 (2 : Int)), r18] r20 r20b r20c r20d c4), by first | rfl | (simp [V.ren, V.renL, renF, lk]; done) | (simp [V.ren, V.renL, renF, lk]; omega), WkT.eq (WkT.refl _) (by first | rfl | (simp only [tlS, tl, vl, vo, oc, ov, tbl, vbl, ty, vy]; done) | (simp only [tlS, tl, vl, vo, oc, ov, tbl, vbl, ty, vy]; rfl) | (simp; done) | (simp []; done) | (rw [List.take_of_length_le (by simp [])]; done) | (rw [List.take_of_length_le (by simp [])]; rfl) | (simp only [tlL]; omega) | (simp; omega)), by first | rfl | (simp only [tlS]; rfl) | (simp [Tl.Obj.ren, V.ren, V.renL, renF, lk]; done), by decide, trivial⟩ ?_
  obtain ⟨J1, hJ1, h⟩ := jn_some h
  refine WP.joinA (fun (zz : (List Int) × Int × Int × Int × Int) => ⟨[500, 2002, 2003], [(3, V.ref 2003 0), (2, V.ref 2002 0)], [(500, oc 151 [ty zz.1, ti zz.2.1, T.int .u64 zz.2.2.1]), (2002, oc 113 [ti 0, ti 0]), (2003, oc 113 [ti zz.2.2.2.1, ti zz.2.2.2.2])]⟩) (fun zz => J1 zz.1 zz.2.1 zz.2.2.1 zz.2.2.2.1 zz.2.2.2.2 = some (y0, y1, y2, y3, y4)) ?_ ?_
  · -- to where they meet
    refine WP.seq ?_
    obtain ⟨r23, r23b, r23c, r23d, c5, h⟩ := bnd4_some h
    refine WP.path tab_ok mixed [(23, An.callG [(500, 500)] [V.ref 500 0, vi 40] [(500, oc 151 [ty r20b, ti r20c, T.int .u64 r20d])] (vi r23) [(500, oc 151 [ty r23b, ti r23c, T.int .u64 r23d])])] [.keep [23, 3, 2, 0], .keepO [500, 2002, 2003]] (ps := [(CG Try.prog 154 [V.ref 500 0, vi 40] [(500, oc 151 [ty r20b, ti r20c, T.int .u64 r20d])] (vi r23) [(500, oc 151 [ty r23b, ti r23c, T.int .u64 r23d])]), ((V.ref 500 0).ren (renF [(500, 500)]) = V.ref 500 0), (WkT (ti 40) (ti 40)), ((oc 151 [ty r20b, ti r20c, T.int .u64 r20d]) = (oc 151 [ty r20b, ti r20c, T.int .u64 r20d]).ren (renF [(500, 500)]))]) (e := .normal) (σ' := ⟨[2003, 2002, 500], [(23, vi r23), (3, V.ref 2003 0), (2, V.ref 2002 0), (0, V.ref 500 0)], [(500, oc 151 [ty r23b, ti r23c, T.int .u64 r23d]), (2002, oc 113 [ti 0, ti 0]), (2003, oc 113 [ti r20, ti r6])]⟩) (by kernel_rfl) ⟨(F_p_spec_l1Cur_pick_W r20b r20c r20d (40 : Int) r23 r23b r23c r23d c5), by first | rfl | (simp [V.ren, V.renL, renF, lk]; done) | (simp [V.ren, V.renL, renF, lk]; omega), WkT.refl _, by first | rfl | (simp only [tlS]; rfl) | (simp [Tl.Obj.ren, V.ren, V.renL, renF, lk]; done), trivial⟩ ?_
    refine WP.block ?_
    refine WP.seq ?_
    refine WP.path tab_ok mixed [] [.keep [24, 23, 3, 2, 0], .keepO [500, 2002, 2003]] (ps := [(True)]) (e := .normal) (σ' := ⟨[2003, 2002, 500], [(24, vb (r23 == (0 : Int))), (23, vi r23), (3, V.ref 2003 0), (2, V.ref 2002 0), (0, V.ref 500 0)], [(500, oc 151 [ty r23b, ti r23c, T.int .u64 r23d]), (2002, oc 113 [ti 0, ti 0]), (2003, oc 113 [ti r20, ti r6])]⟩) (by kernel_rfl) ⟨trivial, trivial⟩ ?_
    rcases ite_some h with ⟨h1, h⟩ | ⟨h1, h⟩
    · -- yes
      refine WP.cond (b := r23 == (0 : Int)) rfl (fun _ => ?_) (fun hh => by rw [h1] at hh; cases hh)
      obtain ⟨r28, r28b, r28c, r28d, c6, h⟩ := bnd4_some h
      refine WP.path tab_ok mixed [(27, An.fz), (28, An.callG [(500, 500)] [V.ref 500 0, vl [(0 : Int), (11 : Int), (-1 : Int)]] [(500, oc 151 [ty r23b, ti r23c, T.int .u64 r23d])] (vi r28) [(500, oc 151 [ty r28b, ti r28c, T.int .u64 r28d])])] [.keep [3, 2], .keepO [500, 2002, 2003], .names [(500, 500), (2002, 2002), (2003, 2003)]] (ps := [((1 = 1 ∧ 0 + 1 ≤ 3) ∧ (1 = 1 ∧ 1 + 1 ≤ 3) ∧ (1 = 1 ∧ 2 + 1 ≤ 3) ∧ True), (3 = 3 * 1), (CG Try.prog 172 [V.ref 500 0, vl [(0 : Int), (11 : Int), (-1 : Int)]] [(500, oc 151 [ty r23b, ti r23c, T.int .u64 r23d])] (vi r28) [(500, oc 151 [ty r28b, ti r28c, T.int .u64 r28d])]), ((V.ref 500 0).ren (renF [(500, 500)]) = V.ref 500 0), (WkT (T.list 3 1 [ti 0, ti 11, ti (-1)]) (tl [(0 : Int), (11 : Int), (-1 : Int)])), ((oc 151 [ty r23b, ti r23c, T.int .u64 r23d]) = (oc 151 [ty r23b, ti r23c, T.int .u64 r23d]).ren (renF [(500, 500)])), (1 < 2)]) (e := .normal) (σ' := ⟨[500, 2002, 2003], [(3, V.ref 2003 0), (2, V.ref 2002 0)], [(500, oc 151 [ty r28b, ti r28c, T.int .u64 r28d]), (2002, oc 113 [ti 0, ti 0]), (2003, oc 113 [ti r20, ti r28])]⟩) (by kernel_rfl) ⟨⟨⟨by first | rfl | (simp; done) | (simp []; done) | omega, by first | decide | (simp; done) | (simp []; done) | omega | (simp only [tlL]; omega) | (simp; omega)⟩, ⟨by first | rfl | (simp; done) | (simp []; done) | omega, by first | decide | (simp; done) | (simp []; done) | omega | (simp only [tlL]; omega) | (simp; omega)⟩, ⟨by first | rfl | (simp; done) | (simp []; done) | omega, by first | decide | (simp; done) | (simp []; done) | omega | (simp only [tlL]; omega) | (simp; omega)⟩, trivial⟩, by decide, (F_p_spec_l1Cur_among_W r23b r23c r23d [(0 : Int), (11 : Int), (-1 : Int)] r28 r28b r28c r28d c6), by first | rfl | (simp [V.ren, V.renL, renF, lk]; done) | (simp [V.ren, V.renL, renF, lk]; omega), WkT.eq (WkT.refl _) (by first | rfl | (simp only [tlS, tl, vl, vo, oc, ov, tbl, vbl, ty, vy]; done) | (simp only [tlS, tl, vl, vo, oc, ov, tbl, vbl, ty, vy]; rfl) | (simp; done) | (simp []; done) | (rw [List.take_of_length_le (by simp [])]; done) | (rw [List.take_of_length_le (by simp [])]; rfl) | (simp only [tlL]; omega) | (simp; omega)), by first | rfl | (simp only [tlS]; rfl) | (simp [Tl.Obj.ren, V.ren, V.renL, renF, lk]; done), by decide, trivial⟩ ?_
      exact ⟨(r28b, r28c, r28d, r20, r28), h, rfl⟩
    · -- no
      refine WP.cond (b := r23 == (0 : Int)) rfl (fun hh => by rw [h1] at hh; cases hh) (fun _ => ?_)
      refine WP.seq ?_
      refine WP.path tab_ok mixed [] [.keep [30, 3, 2, 0], .keepO [500, 2002, 2003]] (ps := [(True)]) (e := .normal) (σ' := ⟨[2003, 2002, 500], [(30, vb (r23 == (1 : Int))), (3, V.ref 2003 0), (2, V.ref 2002 0), (0, V.ref 500 0)], [(500, oc 151 [ty r23b, ti r23c, T.int .u64 r23d]), (2002, oc 113 [ti 0, ti 0]), (2003, oc 113 [ti r20, ti r6])]⟩) (by kernel_rfl) ⟨trivial, trivial⟩ ?_
      rcases ite_some h with ⟨h2, h⟩ | ⟨h2, h⟩
      · -- yes
        refine WP.cond (b := r23 == (1 : Int)) rfl (fun _ => ?_) (fun hh => by rw [h2] at hh; cases hh)
        obtain ⟨r37, r37b, r37c, r37d, c6, h⟩ := bnd4_some h
        refine WP.path tab_ok mixed [(35, An.v (T.int .i64 (r6 + (1 : Int)))), (36, An.fz), (37, An.callG [(500, 500)] [V.ref 500 0, vl [(-1 : Int), (r6 + (1 : Int))]] [(500, oc 151 [ty r23b, ti r23c, T.int .u64 r23d])] (vi r37) [(500, oc 151 [ty r37b, ti r37c, T.int .u64 r37d])])] [.keep [3, 2], .keepO [500, 2002, 2003], .names [(500, 500), (2002, 2002), (2003, 2003)]] (ps := [(True), (True), (T.int .i64 (IntKind.wrap .i64 (r6 + (1 : Int))) = T.int .i64 (r6 + (1 : Int))), ((1 = 1 ∧ 0 + 1 ≤ 2) ∧ (1 = 1 ∧ 1 + 1 ≤ 2) ∧ True), (2 = 2 * 1), (CG Try.prog 172 [V.ref 500 0, vl [(-1 : Int), (r6 + (1 : Int))]] [(500, oc 151 [ty r23b, ti r23c, T.int .u64 r23d])] (vi r37) [(500, oc 151 [ty r37b, ti r37c, T.int .u64 r37d])]), ((V.ref 500 0).ren (renF [(500, 500)]) = V.ref 500 0), (WkT (T.list 2 1 [ti (-1), ti (r6 + (1 : Int))]) (tl [(-1 : Int), (r6 + (1 : Int))])), ((oc 151 [ty r23b, ti r23c, T.int .u64 r23d]) = (oc 151 [ty r23b, ti r23c, T.int .u64 r23d]).ren (renF [(500, 500)])), (0 < 2)]) (e := .normal) (σ' := ⟨[500, 2002, 2003], [(3, V.ref 2003 0), (2, V.ref 2002 0)], [(500, oc 151 [ty r37b, ti r37c, T.int .u64 r37d]), (2002, oc 113 [ti 0, ti 0]), (2003, oc 113 [ti r37, ti r6])]⟩) (by kernel_rfl) ⟨trivial, trivial, wrapI c2, ⟨⟨by first | rfl | (simp; done) | (simp []; done) | omega, by first | decide | (simp; done) | (simp []; done) | omega | (simp only [tlL]; omega) | (simp; omega)⟩, ⟨by first | rfl | (simp; done) | (simp []; done) | omega, by first | decide | (simp; done) | (simp []; done) | omega | (simp only [tlL]; omega) | (simp; omega)⟩, trivial⟩, by decide, (F_p_spec_l1Cur_among_W r23b r23c r23d [(-1 : Int), (r6 + (1 : Int))] r37 r37b r37c r37d c6), by first | rfl | (simp [V.ren, V.renL, renF, lk]; done) | (simp [V.ren, V.renL, renF, lk]; omega), WkT.eq (WkT.refl _) (by first | rfl | (simp only [tlS, tl, vl, vo, oc, ov, tbl, vbl, ty, vy]; done) | (simp only [tlS, tl, vl, vo, oc, ov, tbl, vbl, ty, vy]; rfl) | (simp; done) | (simp []; done) | (rw [List.take_of_length_le (by simp [])]; done) | (rw [List.take_of_length_le (by simp [])]; rfl) | (simp only [tlL]; omega) | (simp; omega)), by first | rfl | (simp only [tlS]; rfl) | (simp [Tl.Obj.ren, V.ren, V.renL, renF, lk]; done), by decide, trivial⟩ ?_
        exact ⟨(r37b, r37c, r37d, r37, r6), h, rfl⟩
      · -- no
        refine WP.cond (b := r23 == (1 : Int)) rfl (fun hh => by rw [h2] at hh; cases hh) (fun _ => ?_)
        refine WP.path tab_ok mixed [] [.keep [3, 2], .keepO [500, 2002, 2003], .names [(500, 500), (2002, 2002), (2003, 2003)]] (ps := []) (e := .normal) (σ' := ⟨[500, 2002, 2003], [(3, V.ref 2003 0), (2, V.ref 2002 0)], [(500, oc 151 [ty r23b, ti r23c, T.int .u64 r23d]), (2002, oc 113 [ti 0, ti 0]), (2003, oc 113 [ti r20, ti r6])]⟩) (by kernel_rfl) trivial ?_
        exact ⟨(r23b, r23c, r23d, r20, r6), h, rfl⟩
  · -- from there
    rintro ⟨o500, o500b, o500c, o3, o3b⟩ h0
    have h := (show J1 o500 o500b o500c o3 o3b = some (y0, y1, y2, y3, y4) from h0)
    rw [hJ1] at h
    simp only [Option.some.injEq, Prod.mk.injEq] at h
    obtain ⟨rfl, rfl, rfl, rfl, rfl⟩ := h
    exact WP.pathG tab_ok mixed [] [.keep [2], .keepO [500, 2002], .names [(500, 500), (2002, 2002)]] [500] _ (r' := V.t (T.agg [ti o3, ti o3b])) (ps := [(0 + 2 ≤ 2), ((0 + 2 ≤ 2 ∧ 2 = 2)), (0 + 2 ≤ 2)]) (r := V.t (T.agg [ti o3, ti o3b])) (N := [500, 2002]) (O := [(500, oc 151 [ty o500, ti o500b, T.int .u64 o500c])]) [] (by kernel_rfl) ⟨by decide, by decide, by first | decide | omega | (simp only [tlL]; omega) | (simp; omega) | (simp []; done) | (simp []; omega), trivial⟩ ⟨(WkT.refl _), trivial⟩ rfl rfl (fun _ h => h)
theorem F_spec_DrawChancesAfter_W (x0 : List Int) (y0 : Int) (y1 : List (Int × Bool)) (y2 : Int) (y3 : Int) (h : F_spec_DrawChancesAfter x0 = some (y0, y1, y2, y3)) : CG Try.prog 109 [vy x0] [] (V.tup [vi y0, V.own 9000 2 (List.length y1), V.t (T.agg [ti y2, ti y3])]) [(9000, oc 85 (List.flatMap askedC y1))] := by
  unfold F_spec_DrawChancesAfter at h
  refine CG.intro (tab := tab) tab_ok (fn := Try.f109) Try.func109 (by kernel_rfl) rfl (Nat.le_of_ble_eq_true rfl) (by kernel_rfl) ?_
  obtain ⟨r11, r11b, r11c, r11d, c0, h⟩ := bnd4_some h
  obtain ⟨r15, r15b, r15c, r15d, c1, h⟩ := bnd4_some h
  obtain ⟨r17, r17b, r17c, r17d, r17e, c2, h⟩ := bnd5_some h
  simp only [Option.some.injEq, Prod.mk.injEq] at h
  obtain ⟨rfl, rfl, rfl, rfl⟩ := h
  exact WP.pathG tab_ok mixed [(4, An.id 2004), (9, An.id 2009), (11, An.callG [(500, 2009)] [V.ref 500 0] [(500, oc 151 [ty x0, ti 0, T.int .u64 0])] (vi r11) [(500, oc 151 [ty r11b, ti r11c, T.int .u64 r11d])]), (15, An.callG [(500, 2009), (9000, 10150)] [V.ref 500 0, vi r11] [(500, oc 151 [ty r11b, ti r11c, T.int .u64 r11d])] (V.own 9000 2 (List.length r15)) [(500, oc 151 [ty r15b, ti r15c, T.int .u64 r15d]), (9000, oc 85 (List.flatMap askedC r15))]), (17, An.callG [(500, 2009)] [V.ref 500 0] [(500, oc 151 [ty r15b, ti r15c, T.int .u64 r15d])] (V.t (T.agg [ti r17, ti r17b])) [(500, oc 151 [ty r17c, ti r17d, T.int .u64 r17e])])] [.keep [2, 3, 4], .keepO [10150, 2004], .names [(10150, 9000), (2004, 2004)]] [9000] _ (r' := V.tup [vi r11, V.own 9000 2 (List.length r15), V.t (T.agg [ti r17, ti r17b])]) (ps := [((1 = 1 ∧ 0 + 1 ≤ 3) ∧ True), (CG Try.prog 147 [V.ref 500 0] [(500, oc 151 [ty x0, ti 0, T.int .u64 0])] (vi r11) [(500, oc 151 [ty r11b, ti r11c, T.int .u64 r11d])]), ((V.ref 500 0).ren (renF [(500, 2009)]) = V.ref 2009 0), ((oc 151 [ty x0, ti 0, T.int .u64 0]) = (oc 151 [ty x0, ti 0, T.int .u64 0]).ren (renF [(500, 2009)])), (CG Try.prog 204 [V.ref 500 0, vi r11] [(500, oc 151 [ty r11b, ti r11c, T.int .u64 r11d])] (V.own 9000 2 (List.length r15)) [(500, oc 151 [ty r15b, ti r15c, T.int .u64 r15d]), (9000, oc 85 (List.flatMap askedC r15))]), ((V.ref 500 0).ren (renF [(500, 2009), (9000, 10150)]) = V.ref 2009 0), (WkT (ti r11) (ti r11)), ((oc 151 [ty r11b, ti r11c, T.int .u64 r11d]) = (oc 151 [ty r11b, ti r11c, T.int .u64 r11d]).ren (renF [(500, 2009), (9000, 10150)])), (CG Try.prog 224 [V.ref 500 0] [(500, oc 151 [ty r15b, ti r15c, T.int .u64 r15d])] (V.t (T.agg [ti r17, ti r17b])) [(500, oc 151 [ty r17c, ti r17d, T.int .u64 r17e])]), ((V.ref 500 0).ren (renF [(500, 2009)]) = V.ref 2009 0), ((oc 151 [ty r15b, ti r15c, T.int .u64 r15d]) = (oc 151 [ty r15b, ti r15c, T.int .u64 r15d]).ren (renF [(500, 2009)])), ((0 + 2 ≤ 2 ∧ 2 = 2)), (0 + 2 ≤ 2)]) (r := V.tup [vi r11, V.own 9000 2 (List.length r15), V.t (T.agg [ti r17, ti r17b])]) (N := [9000, 2004]) (O := [(9000, oc 85 (List.flatMap askedC r15))]) [] (by kernel_rfl) ⟨⟨⟨by first | rfl | (simp; done) | (simp []; done) | omega, by first | decide | (simp; done) | (simp []; done) | omega | (simp only [tlL]; omega) | (simp; omega)⟩, trivial⟩, (F_p_spec_l1Cur_many_W x0 (0 : Int) (0 : Int) r11 r11b r11c r11d c0), by first | rfl | (simp [V.ren, V.renL, renF, lk]; done) | (simp [V.ren, V.renL, renF, lk]; omega), by first | rfl | (simp only [tlS]; rfl) | (simp [Tl.Obj.ren, V.ren, V.renL, renF, lk]; done), (F_p_spec_l1Cur_asked_W r11b r11c r11d r11 r15 r15b r15c r15d c1), by first | rfl | (simp [V.ren, V.renL, renF, lk]; done) | (simp [V.ren, V.renL, renF, lk]; omega), WkT.refl _, by first | rfl | (simp only [tlS]; rfl) | (simp [Tl.Obj.ren, V.ren, V.renL, renF, lk]; done), (F_p_spec_l1Cur_doubt7_W r15b r15c r15d r17 r17b r17c r17d r17e c2), by first | rfl | (simp [V.ren, V.renL, renF, lk]; done) | (simp [V.ren, V.renL, renF, lk]; omega), by first | rfl | (simp only [tlS]; rfl) | (simp [Tl.Obj.ren, V.ren, V.renL, renF, lk]; done), by decide, by first | decide | omega | (simp only [tlL]; omega) | (simp; omega) | (simp []; done) | (simp []; omega), trivial⟩ ⟨(WkT.refl _), rfl, (WkT.refl _), trivial⟩ rfl rfl (fun _ h => h)
theorem F_spec_DrawChancesAfter_W_C (x0 : List Int) (y0 : Int) (y1 : List (Int × Bool)) (y2 : Int) (y3 : Int) (h : F_spec_DrawChancesAfter x0 = some (y0, y1, y2, y3)) : C Try.prog 109 [ty x0] (T.tup [ti y0, T.list (List.length y1) 2 (List.flatMap askedC y1), T.agg [ti y2, ti y3]]) :=
  CG.toC (ps := [(List.length (List.flatMap askedC y1) = (List.length y1) * 2)]) (F_spec_DrawChancesAfter_W  x0 y0 y1 y2 y3 h) (by rfl) ⟨by first | exact len_asked _ | (rw [len_asked]; first | done | omega | (simp; done) | (simp; omega)), trivial⟩
theorem F_slices_IndexFunc___impl_Asked_impl_Asked__W (x0 : List (Int × Bool)) (g1 : FuncId) (pre1 caps1 : List T) (p1 : Int → Bool → Option (Bool)) (hp1 : ∀ (a1_0 : Int) (a1_1 : Bool) (b1_2 : Bool), p1 a1_0 a1_1 = some b1_2 → C Try.prog g1 (pre1 ++ ([T.agg [ti a1_0, tb a1_1]] ++ caps1)) (tb b1_2)) (y0 : Int) (h : F_slices_IndexFunc___impl_Asked_impl_Asked_ x0 p1 = some y0) : C Try.prog 265 [T.list (List.length x0) 2 (List.flatMap askedC x0), T.fn g1 pre1 caps1] (ti y0) := by
  unfold F_slices_IndexFunc___impl_Asked_impl_Asked_ at h
  refine C.intro (tab := tab) tab_ok (fn := Try.f265) Try.func265 (by kernel_rfl) rfl (Nat.le_of_ble_eq_true rfl) ?_
  refine WP.seq ?_
  refine WP.path tab_ok mixed [] [.keep [4, 0, 1], .keepO []] (ps := []) (e := .normal) (σ' := ⟨[], [(4, vi 0), (0, V.t (T.list (List.length x0) 2 (List.flatMap askedC x0))), (1, V.t (T.fn g1 pre1 caps1))], []⟩) (by kernel_rfl) trivial ?_
  obtain ⟨J1, hJ1, h⟩ := jn_some h
  refine WP.joinA (fun (zz : Unit) => ⟨[], [(4, vi 0)], []⟩) (fun zz => J1 () = some y0) ?_ ?_
  · -- to where they meet
    refine WP.seq ?_
    refine WP.path tab_ok mixed [] [.keep [8, 7, 4, 0, 1], .keepO []] (ps := []) (e := .normal) (σ' := ⟨[], [(8, vi 0), (7, vi ((List.length x0 : Nat) : Int)), (4, vi 0), (0, V.t (T.list (List.length x0) 2 (List.flatMap askedC x0))), (1, V.t (T.fn g1 pre1 caps1))], []⟩) (by kernel_rfl) trivial ?_
    refine WP.block ?_
    refine WP.wk [.keep [8, 7, 4, 0, 1], .keepO [], .names []] (σ' := ⟨[], [(8, vi 0), (7, vi ((List.length x0 : Nat) : Int)), (4, vi 0), (0, V.t (T.list (List.length x0) 2 (List.flatMap askedC x0))), (1, V.t (T.fn g1 pre1 caps1))], []⟩) (ps := []) (by kernel_rfl) trivial ?_
    refine WP.st (σ' := ⟨[], [(8, vi (0 : Int)), (7, vi ((List.length x0 : Nat) : Int)), (4, vi 0), (0, V.t (T.list (List.length x0) 2 (List.flatMap askedC x0))), (1, V.t (T.fn g1 pre1 caps1))], []⟩) (by first | rfl | (simp only [tlS, tl, vl, vo, oc, ov, tbl, vbl, ty, vy]; done) | (simp only [tlS, tl, vl, vo, oc, ov, tbl, vbl, ty, vy]; rfl) | (simp; done) | (simp []; done) | (rw [List.take_of_length_le (by simp [])]; done) | (rw [List.take_of_length_le (by simp [])]; rfl) | (simp only [tlL]; omega) | (simp; omega)) ?_
    refine WP.loop (α := Nat × Int) (fun zz => ⟨[], [(8, vi zz.2), (7, vi ((List.length x0 : Nat) : Int)), (4, vi 0), (0, V.t (T.list (List.length x0) 2 (List.flatMap askedC x0))), (1, V.t (T.fn g1 pre1 caps1))], []⟩) (fun zz => F_slices_IndexFunc___impl_Asked_impl_Asked__L1 x0 p1 J1 zz.1 zz.2 = some y0) (fun zz => zz.1) (fuel, (0 : Int)) h ?_
    rintro ⟨n, v8⟩ h0
    have h := (show F_slices_IndexFunc___impl_Asked_impl_Asked__L1 x0 p1 J1 n v8 = some y0 from h0)
    rcases n with _ | n
    · rw [F_slices_IndexFunc___impl_Asked_impl_Asked__L1] at h; cases h
    · rw [F_slices_IndexFunc___impl_Asked_impl_Asked__L1] at h
      refine WP.seq ?_
      refine WP.path tab_ok mixed [] [.keep [9, 8, 7, 4, 0, 1], .keepO []] (ps := [(True)]) (e := .normal) (σ' := ⟨[], [(9, vb (decide (v8 < ((List.length x0 : Nat) : Int)))), (8, vi v8), (7, vi ((List.length x0 : Nat) : Int)), (4, vi 0), (0, V.t (T.list (List.length x0) 2 (List.flatMap askedC x0))), (1, V.t (T.fn g1 pre1 caps1))], []⟩) (by kernel_rfl) ⟨trivial, trivial⟩ ?_
      refine WP.seq ?_
      rcases ite_some h with ⟨h1, h⟩ | ⟨h1, h⟩
      · -- yes
        refine WP.cond (b := decide (v8 < ((List.length x0 : Nat) : Int))) rfl (fun _ => ?_) (fun hh => by rw [h1] at hh; cases hh)
        refine WP.path tab_ok mixed [] [.keep [8, 7, 4, 0, 1], .keepO []] (ps := []) (e := .normal) (σ' := ⟨[], [(8, vi v8), (7, vi ((List.length x0 : Nat) : Int)), (4, vi 0), (0, V.t (T.list (List.length x0) 2 (List.flatMap askedC x0))), (1, V.t (T.fn g1 pre1 caps1))], []⟩) (by kernel_rfl) trivial ?_
        refine WP.seq ?_
        refine WP.block ?_
        refine WP.seq ?_
        refine WP.path tab_ok mixed [] [.keep [5, 8, 7, 4, 0, 1], .keepO []] (ps := []) (e := .normal) (σ' := ⟨[], [(5, vi v8), (8, vi v8), (7, vi ((List.length x0 : Nat) : Int)), (4, vi 0), (0, V.t (T.list (List.length x0) 2 (List.flatMap askedC x0))), (1, V.t (T.fn g1 pre1 caps1))], []⟩) (by kernel_rfl) trivial ?_
        refine WP.seq ?_
        obtain ⟨c0, h⟩ := chk_some h
        obtain ⟨r16, c1, h⟩ := bnd1_some h
        refine WP.path tab_ok mixed [(15, An.v (T.agg [ti ((List.getD x0 (Int.toNat v8) (0, false)).1), tb ((List.getD x0 (Int.toNat v8) (0, false)).2)])), (16, An.call (tb r16))] [.keep [16, 5, 8, 7, 4, 0, 1], .keepO []] (ps := [((0 ≤ v8 ∧ v8 < ((List.length x0 : Nat) : Int))), (2 ≤ List.length (List.drop ((Int.toNat v8) * 2) (List.flatMap askedC x0))), (T.agg (List.take 2 (List.drop ((Int.toNat v8) * 2) (List.flatMap askedC x0))) = T.agg [ti ((List.getD x0 (Int.toNat v8) (0, false)).1), tb ((List.getD x0 (Int.toNat v8) (0, false)).2)]), (C Try.prog g1 (pre1 ++ ([T.agg [ti ((List.getD x0 (Int.toNat v8) (0, false)).1), tb ((List.getD x0 (Int.toNat v8) (0, false)).2)]] ++ caps1)) (tb r16))]) (e := .normal) (σ' := ⟨[], [(16, vb r16), (5, vi v8), (8, vi v8), (7, vi ((List.length x0 : Nat) : Int)), (4, vi 0), (0, V.t (T.list (List.length x0) 2 (List.flatMap askedC x0))), (1, V.t (T.fn g1 pre1 caps1))], []⟩) (by kernel_rfl) ⟨c0, fit_asked (i := Int.toNat v8) (by simp) (by omega), at_asked (by simp) (by omega), (hp1 ((List.getD x0 (Int.toNat v8) (0, false)).1) ((List.getD x0 (Int.toNat v8) (0, false)).2) r16 c1), trivial⟩ ?_
        rcases ite_some h with ⟨h2, h⟩ | ⟨h2, h⟩
        · -- yes
          refine WP.cond (b := r16) rfl (fun _ => ?_) (fun hh => by rw [h2] at hh; cases hh)
          have h := Option.some.inj h
          subst h
          exact WP.pathW tab_ok mixed [] _ (ps := []) (r := ti v8) (by kernel_rfl) trivial (WkT.eq (y := ti v8) (WkT.refl _) rfl) (fun _ h => h)
        · -- no
          refine WP.cond (b := r16) rfl (fun hh => by rw [h2] at hh; cases hh) (fun _ => ?_)
          refine WP.path tab_ok mixed [] [.keep [8, 7, 4, 0, 1], .keepO []] (ps := []) (e := .normal) (σ' := ⟨[], [(8, vi v8), (7, vi ((List.length x0 : Nat) : Int)), (4, vi 0), (0, V.t (T.list (List.length x0) 2 (List.flatMap askedC x0))), (1, V.t (T.fn g1 pre1 caps1))], []⟩) (by kernel_rfl) trivial ?_
          obtain ⟨c2, h⟩ := chk_some h
          refine WP.path tab_ok mixed [(18, An.v (T.int .i64 (v8 + (1 : Int))))] [.keep [8, 7, 4, 0, 1], .keepO [], .names []] (ps := [(True), (T.int .i64 (IntKind.wrap .i64 (v8 + (1 : Int))) = T.int .i64 (v8 + (1 : Int)))]) (e := .normal) (σ' := ⟨[], [(8, vi (v8 + (1 : Int))), (7, vi ((List.length x0 : Nat) : Int)), (4, vi 0), (0, V.t (T.list (List.length x0) 2 (List.flatMap askedC x0))), (1, V.t (T.fn g1 pre1 caps1))], []⟩) (by kernel_rfl) ⟨trivial, wrapI c2, trivial⟩ ?_
          exact ⟨(n, (v8 + (1 : Int))), h, Nat.lt_succ_self _, rfl⟩
      · -- no
        refine WP.cond (b := decide (v8 < ((List.length x0 : Nat) : Int))) rfl (fun hh => by rw [h1] at hh; cases hh) (fun _ => ?_)
        refine WP.path tab_ok mixed [] [.keep [4], .keepO [], .names []] (ps := []) (e := (.exit 0)) (σ' := ⟨[], [(4, vi 0)], []⟩) (by kernel_rfl) trivial ?_
        exact ⟨(), h, rfl⟩
  · -- from there
    intro _ h0
    have h := (show J1 () = some y0 from h0)
    rw [hJ1] at h
    have h := Option.some.inj h
    subst h
    exact WP.pathW tab_ok mixed [] _ (ps := []) (r := ti (-1)) (by kernel_rfl) trivial (WkT.eq (y := ti (-1)) (WkT.refl _) (by first | rfl | (simp only [tlS, tl, vl, vo, oc, ov, tbl, vbl, ty, vy]; done) | (simp only [tlS, tl, vl, vo, oc, ov, tbl, vbl, ty, vy]; rfl) | (simp; done) | (simp []; done) | (rw [List.take_of_length_le (by simp [])]; done) | (rw [List.take_of_length_le (by simp [])]; rfl) | (simp only [tlL]; omega) | (simp; omega))) (fun _ h => h)
theorem F_slices_ContainsFunc___impl_Asked_impl_Asked__W (x0 : List (Int × Bool)) (g1 : FuncId) (pre1 caps1 : List T) (p1 : Int → Bool → Option (Bool)) (hp1 : ∀ (a1_0 : Int) (a1_1 : Bool) (b1_2 : Bool), p1 a1_0 a1_1 = some b1_2 → C Try.prog g1 (pre1 ++ ([T.agg [ti a1_0, tb a1_1]] ++ caps1)) (tb b1_2)) (y0 : Bool) (h : F_slices_ContainsFunc___impl_Asked_impl_Asked_ x0 p1 = some y0) : C Try.prog 248 [T.list (List.length x0) 2 (List.flatMap askedC x0), T.fn g1 pre1 caps1] (tb y0) := by
  unfold F_slices_ContainsFunc___impl_Asked_impl_Asked_ at h
  refine C.intro (tab := tab) tab_ok (fn := Try.f248) Try.func248 (by kernel_rfl) rfl (Nat.le_of_ble_eq_true rfl) ?_
  obtain ⟨r7, c0, h⟩ := bnd1_some h
  have h := Option.some.inj h
  subst h
  exact WP.pathW tab_ok mixed [(7, An.call (ti r7))] _ (ps := [(C Try.prog 265 [T.list (List.length x0) 2 (List.flatMap askedC x0), T.fn g1 pre1 caps1] (ti r7)), (True)]) (r := tb (decide (r7 ≥ (0 : Int)))) (by kernel_rfl) ⟨(F_slices_IndexFunc___impl_Asked_impl_Asked__W x0 g1 pre1 caps1 p1 hp1 r7 c0), trivial, trivial⟩ (WkT.eq (y := tb (decide (r7 ≥ (0 : Int)))) (WkT.refl _) rfl) (fun _ h => h)
theorem F_impl_areAsked_1_W (x0 : Int) (x1 : Bool) (x2 : Int) (y0 : Bool) (h : F_impl_areAsked_1 x0 x1 x2 = some y0) : C Try.prog 249 [T.agg [ti x0, tb x1], T.ptr [ti x2]] (tb y0) := by
  unfold F_impl_areAsked_1 at h
  refine C.intro (tab := tab) tab_ok (fn := Try.f249) Try.func249 (by kernel_rfl) rfl (Nat.le_of_ble_eq_true rfl) ?_
  have h := Option.some.inj h
  subst h
  exact WP.pathW tab_ok mixed [(2, An.fz), (7, An.call (tb (isQ x2 x0)))] _ (ps := [(True), (True), (C Try.prog 173 [ti x2, ti x0] (tb (isQ x2 x0)))]) (r := tb (!(isQ x2 x0))) (by kernel_rfl) ⟨trivial, trivial, (isQuestion_C x2 x0), trivial⟩ (WkT.eq (y := tb (!(isQ x2 x0))) (WkT.refl _) rfl) (fun _ h => h)
theorem F_impl_areAsked_W (x0 : Int) (x1 : List (Int × Bool)) (x2 : Int) (y0 : Bool) (h : F_impl_areAsked x0 x1 x2 = some y0) : C Try.prog 180 [ti x0, T.list (List.length x1) 2 (List.flatMap askedC x1), ti x2] (tb y0) := by
  unfold F_impl_areAsked at h
  refine C.intro (tab := tab) tab_ok (fn := Try.f180) Try.func180 (by kernel_rfl) rfl (Nat.le_of_ble_eq_true rfl) ?_
  rcases ite_some h with ⟨h1, h⟩ | ⟨h1, h⟩
  · -- yes
    rcases ite_some h with ⟨h2, h⟩ | ⟨h2, h⟩
    · -- yes
      obtain ⟨r18, c0, h⟩ := bnd1_some h
      have h := Option.some.inj h
      subst h
      exact WP.pathW tab_ok mixed [(3, An.fz), (8, An.call (tb true)), (13, An.b true), (18, An.call (tb r18))] _ (ps := [(True), (C Try.prog 163 [ti x0] (tb true)), (True), ((decide (((List.length x1 : Nat) : Int) ≤ x2)) = true), (C Try.prog 248 [T.list (List.length x1) 2 (List.flatMap askedC x1), T.fn 249 [] [T.ptr [ti x0]]] (tb r18))]) (r := tb !r18) (by kernel_rfl) ⟨trivial, (C.toB h1 (isCount_C x0)), trivial, h2, (F_slices_ContainsFunc___impl_Asked_impl_Asked__W x1 249 [] [T.ptr [ti x0]] (fun u0 u1 => F_impl_areAsked_1 u0 u1 x0) (fun u0 u1 w0 hh => F_impl_areAsked_1_W u0 u1 x0 w0 hh) r18 c0), trivial⟩ (WkT.eq (y := tb !r18) (WkT.refl _) rfl) (fun _ h => h)
    · -- no
      have h := Option.some.inj h
      subst h
      exact WP.pathW tab_ok mixed [(3, An.fz), (8, An.call (tb true)), (13, An.b false)] _ (ps := [(True), (C Try.prog 163 [ti x0] (tb true)), (True), ((decide (((List.length x1 : Nat) : Int) ≤ x2)) = false)]) (r := tb false) (by kernel_rfl) ⟨trivial, (C.toB h1 (isCount_C x0)), trivial, h2, trivial⟩ (WkT.eq (y := tb false) (WkT.refl _) rfl) (fun _ h => h)
  · -- no
    have h := Option.some.inj h
    subst h
    exact WP.pathW tab_ok mixed [(3, An.fz), (8, An.call (tb false))] _ (ps := [(True), (C Try.prog 163 [ti x0] (tb false))]) (r := tb false) (by kernel_rfl) ⟨trivial, (C.toB h1 (isCount_C x0)), trivial⟩ (WkT.eq (y := tb false) (WkT.refl _) rfl) (fun _ h => h)
theorem F_impl_IsDoubt_W (x0 : Int) (x1 : Int) (y0 : Bool) (h : F_impl_IsDoubt x0 x1 = some y0) : C Try.prog 257 [T.agg [ti x0, ti x1]] (tb y0) := by
  unfold F_impl_IsDoubt at h
  refine C.intro (tab := tab) tab_ok (fn := Try.f257) Try.func257 (by kernel_rfl) rfl (Nat.le_of_ble_eq_true rfl) ?_
  rcases ite_some h with ⟨h1, h⟩ | ⟨h1, h⟩
  · -- yes
    have h := Option.some.inj h
    subst h
    exact WP.pathW tab_ok mixed [(1, An.fz), (5, An.call (tb true)), (11, An.call (tb (decide ((0 : Int) ≤ x0) && decide (x0 ≤ x1))))] _ (ps := [(True), (C Try.prog 174 [ti x1, ti 1, ti 10] (tb true)), (True), (True), (C Try.prog 174 [ti x0, ti 0, ti x1] (tb (decide ((0 : Int) ≤ x0) && decide (x0 ≤ x1))))]) (r := tb (decide ((0 : Int) ≤ x0) && decide (x0 ≤ x1))) (by kernel_rfl) ⟨trivial, (C.toB h1 (by have hh := (in_C x1 (1 : Int) (10 : Int)); simpa using hh)), trivial, trivial, (by have hh := (in_C x0 (0 : Int) x1); simpa using hh), trivial⟩ (WkT.eq (y := tb (decide ((0 : Int) ≤ x0) && decide (x0 ≤ x1))) (WkT.refl _) rfl) (fun _ h => h)
  · -- no
    have h := Option.some.inj h
    subst h
    exact WP.pathW tab_ok mixed [(1, An.fz), (5, An.call (tb false))] _ (ps := [(True), (C Try.prog 174 [ti x1, ti 1, ti 10] (tb false))]) (r := tb false) (by kernel_rfl) ⟨trivial, (C.toB h1 (by have hh := (in_C x1 (1 : Int) (10 : Int)); simpa using hh)), trivial⟩ (WkT.eq (y := tb false) (WkT.refl _) rfl) (fun _ h => h)
theorem F_impl_power_W (x0 : Int) (x1 : Int) (y0 : Int) (h : F_impl_power x0 x1 = some y0) : C Try.prog 272 [ti x0, ti x1] (ti y0) := by
  unfold F_impl_power at h
  refine C.intro (tab := tab) tab_ok (fn := Try.f272) Try.func272 (by kernel_rfl) rfl (Nat.le_of_ble_eq_true rfl) ?_
  refine WP.seq ?_
  refine WP.path tab_ok mixed [] [.keep [4, 0, 1], .keepO []] (ps := []) (e := .normal) (σ' := ⟨[], [(4, vi 0), (0, vi x0), (1, vi x1)], []⟩) (by kernel_rfl) trivial ?_
  refine WP.seq ?_
  refine WP.path tab_ok mixed [] [.keep [5, 4, 0, 1], .keepO []] (ps := []) (e := .normal) (σ' := ⟨[], [(5, vi 1), (4, vi 0), (0, vi x0), (1, vi x1)], []⟩) (by kernel_rfl) trivial ?_
  obtain ⟨J1, hJ1, h⟩ := jn_some h
  refine WP.joinA (fun (zz : Int) => ⟨[], [(5, vi zz), (4, vi 0)], []⟩) (fun zz => J1 zz = some y0) ?_ ?_
  · -- to where they meet
    refine WP.seq ?_
    refine WP.path tab_ok mixed [] [.keep [7, 6, 5, 4, 0], .keepO []] (ps := []) (e := .normal) (σ' := ⟨[], [(7, vi 0), (6, vi x1), (5, vi 1), (4, vi 0), (0, vi x0)], []⟩) (by kernel_rfl) trivial ?_
    refine WP.block ?_
    refine WP.wk [.keep [7, 6, 5, 4, 0], .keepO [], .names []] (σ' := ⟨[], [(7, vi 0), (6, vi x1), (5, vi 1), (4, vi 0), (0, vi x0)], []⟩) (ps := []) (by kernel_rfl) trivial ?_
    refine WP.st (σ' := ⟨[], [(7, vi (0 : Int)), (6, vi x1), (5, vi (1 : Int)), (4, vi 0), (0, vi x0)], []⟩) (by first | rfl | (simp only [tlS, tl, vl, vo, oc, ov, tbl, vbl, ty, vy]; done) | (simp only [tlS, tl, vl, vo, oc, ov, tbl, vbl, ty, vy]; rfl) | (simp; done) | (simp []; done) | (rw [List.take_of_length_le (by simp [])]; done) | (rw [List.take_of_length_le (by simp [])]; rfl) | (simp only [tlL]; omega) | (simp; omega)) ?_
    refine WP.loop (α := Nat × Int × Int) (fun zz => ⟨[], [(7, vi zz.2.1), (6, vi x1), (5, vi zz.2.2), (4, vi 0), (0, vi x0)], []⟩) (fun zz => F_impl_power_L1 x0 x1 J1 zz.1 zz.2.1 zz.2.2 = some y0) (fun zz => zz.1) (fuel, (0 : Int), (1 : Int)) h ?_
    rintro ⟨n, v7, v5⟩ h0
    have h := (show F_impl_power_L1 x0 x1 J1 n v7 v5 = some y0 from h0)
    rcases n with _ | n
    · rw [F_impl_power_L1] at h; cases h
    · rw [F_impl_power_L1] at h
      refine WP.seq ?_
      refine WP.path tab_ok mixed [] [.keep [8, 7, 6, 5, 4, 0], .keepO []] (ps := [(True)]) (e := .normal) (σ' := ⟨[], [(8, vb (decide (v7 < x1))), (7, vi v7), (6, vi x1), (5, vi v5), (4, vi 0), (0, vi x0)], []⟩) (by kernel_rfl) ⟨trivial, trivial⟩ ?_
      refine WP.seq ?_
      rcases ite_some h with ⟨h1, h⟩ | ⟨h1, h⟩
      · -- yes
        refine WP.cond (b := decide (v7 < x1)) rfl (fun _ => ?_) (fun hh => by rw [h1] at hh; cases hh)
        refine WP.path tab_ok mixed [] [.keep [7, 6, 5, 4, 0], .keepO []] (ps := []) (e := .normal) (σ' := ⟨[], [(7, vi v7), (6, vi x1), (5, vi v5), (4, vi 0), (0, vi x0)], []⟩) (by kernel_rfl) trivial ?_
        refine WP.seq ?_
        refine WP.block ?_
        obtain ⟨c0, h⟩ := chk_some h
        refine WP.path tab_ok mixed [(11, An.v (T.int .i64 (v5 * x0)))] [.keep [5, 7, 6, 4, 0], .keepO []] (ps := [(True), (T.int .i64 (IntKind.wrap .i64 (v5 * x0)) = T.int .i64 (v5 * x0))]) (e := .normal) (σ' := ⟨[], [(5, vi (v5 * x0)), (7, vi v7), (6, vi x1), (4, vi 0), (0, vi x0)], []⟩) (by kernel_rfl) ⟨trivial, wrapI c0, trivial⟩ ?_
        obtain ⟨c1, h⟩ := chk_some h
        refine WP.path tab_ok mixed [(12, An.v (T.int .i64 (v7 + (1 : Int))))] [.keep [7, 6, 5, 4, 0], .keepO [], .names []] (ps := [(True), (T.int .i64 (IntKind.wrap .i64 (v7 + (1 : Int))) = T.int .i64 (v7 + (1 : Int)))]) (e := .normal) (σ' := ⟨[], [(7, vi (v7 + (1 : Int))), (6, vi x1), (5, vi (v5 * x0)), (4, vi 0), (0, vi x0)], []⟩) (by kernel_rfl) ⟨trivial, wrapI c1, trivial⟩ ?_
        exact ⟨(n, (v7 + (1 : Int)), (v5 * x0)), h, Nat.lt_succ_self _, rfl⟩
      · -- no
        refine WP.cond (b := decide (v7 < x1)) rfl (fun hh => by rw [h1] at hh; cases hh) (fun _ => ?_)
        refine WP.path tab_ok mixed [] [.keep [5, 4], .keepO [], .names []] (ps := []) (e := (.exit 0)) (σ' := ⟨[], [(5, vi v5), (4, vi 0)], []⟩) (by kernel_rfl) trivial ?_
        exact ⟨(v5), h, rfl⟩
  · -- from there
    intro v5 h0
    have h := (show J1 v5 = some y0 from h0)
    rw [hJ1] at h
    have h := Option.some.inj h
    subst h
    exact WP.pathW tab_ok mixed [] _ (ps := []) (r := ti v5) (by kernel_rfl) trivial (WkT.eq (y := ti v5) (WkT.refl _) rfl) (fun _ h => h)
theorem F_impl_Doubt_ofThese_W (x0 : Int) (x1 : Int) (x2 : Int) (x3 : Int) (y0 : Int) (h : F_impl_Doubt_ofThese x0 x1 x2 x3 = some y0) : C Try.prog 268 [T.agg [ti x0, ti x1], ti x2, ti x3] (ti y0) := by
  unfold F_impl_Doubt_ofThese at h
  refine C.intro (tab := tab) tab_ok (fn := Try.f268) Try.func268 (by kernel_rfl) rfl (Nat.le_of_ble_eq_true rfl) ?_
  obtain ⟨r10, c0, h⟩ := bnd1_some h
  obtain ⟨c1, h⟩ := chk_some h
  obtain ⟨c2, h⟩ := chk_some h
  obtain ⟨r19, c3, h⟩ := bnd1_some h
  obtain ⟨c4, h⟩ := chk_some h
  have h := Option.some.inj h
  subst h
  exact WP.pathW tab_ok mixed [(3, An.fz), (10, An.call (ti r10)), (15, An.v (T.int .i64 (x1 - x0))), (18, An.v (T.int .i64 (x2 - x3))), (19, An.call (ti r19)), (20, An.v (T.int .i64 (r10 * r19)))] _ (ps := [(True), (C Try.prog 272 [ti x0, ti x3] (ti r10)), (True), (True), (True), (T.int .i64 (IntKind.wrap .i64 (x1 - x0)) = T.int .i64 (x1 - x0)), (True), (T.int .i64 (IntKind.wrap .i64 (x2 - x3)) = T.int .i64 (x2 - x3)), (C Try.prog 272 [ti (x1 - x0), ti (x2 - x3)] (ti r19)), (True), (T.int .i64 (IntKind.wrap .i64 (r10 * r19)) = T.int .i64 (r10 * r19))]) (r := ti (r10 * r19)) (by kernel_rfl) ⟨trivial, (F_impl_power_W x0 x3 r10 c0), trivial, trivial, trivial, wrapI c1, trivial, wrapI c2, (F_impl_power_W (x1 - x0) (x2 - x3) r19 c3), trivial, wrapI c4, trivial⟩ (WkT.eq (y := ti (r10 * r19)) (WkT.refl _) rfl) (fun _ h => h)
theorem F_impl_falseFor_W (x0 : List (Int × Bool)) (x1 : Int) (y0 : Int) (h : F_impl_falseFor x0 x1 = some y0) : C Try.prog 269 [T.list (List.length x0) 2 (List.flatMap askedC x0), ti x1] (ti y0) := by
  unfold F_impl_falseFor at h
  refine C.intro (tab := tab) tab_ok (fn := Try.f269) Try.func269 (by kernel_rfl) rfl (Nat.le_of_ble_eq_true rfl) ?_
  refine WP.seq ?_
  refine WP.path tab_ok mixed [] [.keep [4, 0, 1], .keepO []] (ps := []) (e := .normal) (σ' := ⟨[], [(4, vi 0), (0, V.t (T.list (List.length x0) 2 (List.flatMap askedC x0))), (1, vi x1)], []⟩) (by kernel_rfl) trivial ?_
  refine WP.seq ?_
  refine WP.path tab_ok mixed [] [.keep [5, 4, 0, 1], .keepO []] (ps := []) (e := .normal) (σ' := ⟨[], [(5, vi 0), (4, vi 0), (0, V.t (T.list (List.length x0) 2 (List.flatMap askedC x0))), (1, vi x1)], []⟩) (by kernel_rfl) trivial ?_
  obtain ⟨J1, hJ1, h⟩ := jn_some h
  refine WP.joinA (fun (zz : Int) => ⟨[], [(5, vi zz), (4, vi 0)], []⟩) (fun zz => J1 zz = some y0) ?_ ?_
  · -- to where they meet
    refine WP.seq ?_
    refine WP.path tab_ok mixed [] [.keep [10, 9, 8, 5, 4, 1], .keepO []] (ps := []) (e := .normal) (σ' := ⟨[], [(10, vi 0), (9, vi ((List.length x0 : Nat) : Int)), (8, V.t (T.list (List.length x0) 2 (List.flatMap askedC x0))), (5, vi 0), (4, vi 0), (1, vi x1)], []⟩) (by kernel_rfl) trivial ?_
    refine WP.block ?_
    refine WP.wk [.keep [10, 9, 8, 5, 4, 1], .keepO [], .names []] (σ' := ⟨[], [(10, vi 0), (9, vi ((List.length x0 : Nat) : Int)), (8, V.t (T.list (List.length x0) 2 (List.flatMap askedC x0))), (5, vi 0), (4, vi 0), (1, vi x1)], []⟩) (ps := []) (by kernel_rfl) trivial ?_
    refine WP.st (σ' := ⟨[], [(10, vi (0 : Int)), (9, vi ((List.length x0 : Nat) : Int)), (8, V.t (T.list (List.length x0) 2 (List.flatMap askedC x0))), (5, vi (0 : Int)), (4, vi 0), (1, vi x1)], []⟩) (by first | rfl | (simp only [tlS, tl, vl, vo, oc, ov, tbl, vbl, ty, vy]; done) | (simp only [tlS, tl, vl, vo, oc, ov, tbl, vbl, ty, vy]; rfl) | (simp; done) | (simp []; done) | (rw [List.take_of_length_le (by simp [])]; done) | (rw [List.take_of_length_le (by simp [])]; rfl) | (simp only [tlL]; omega) | (simp; omega)) ?_
    refine WP.loop (α := Nat × Int × Int) (fun zz => ⟨[], [(10, vi zz.2.1), (9, vi ((List.length x0 : Nat) : Int)), (8, V.t (T.list (List.length x0) 2 (List.flatMap askedC x0))), (5, vi zz.2.2), (4, vi 0), (1, vi x1)], []⟩) (fun zz => F_impl_falseFor_L1 x0 x1 J1 zz.1 zz.2.1 zz.2.2 = some y0) (fun zz => zz.1) (fuel, (0 : Int), (0 : Int)) h ?_
    rintro ⟨n, v10, v5⟩ h0
    have h := (show F_impl_falseFor_L1 x0 x1 J1 n v10 v5 = some y0 from h0)
    rcases n with _ | n
    · rw [F_impl_falseFor_L1] at h; cases h
    · rw [F_impl_falseFor_L1] at h
      refine WP.seq ?_
      refine WP.path tab_ok mixed [] [.keep [11, 10, 9, 8, 5, 4, 1], .keepO []] (ps := [(True)]) (e := .normal) (σ' := ⟨[], [(11, vb (decide (v10 < ((List.length x0 : Nat) : Int)))), (10, vi v10), (9, vi ((List.length x0 : Nat) : Int)), (8, V.t (T.list (List.length x0) 2 (List.flatMap askedC x0))), (5, vi v5), (4, vi 0), (1, vi x1)], []⟩) (by kernel_rfl) ⟨trivial, trivial⟩ ?_
      refine WP.seq ?_
      rcases ite_some h with ⟨h1, h⟩ | ⟨h1, h⟩
      · -- yes
        refine WP.cond (b := decide (v10 < ((List.length x0 : Nat) : Int))) rfl (fun _ => ?_) (fun hh => by rw [h1] at hh; cases hh)
        refine WP.path tab_ok mixed [] [.keep [10, 9, 8, 5, 4, 1], .keepO []] (ps := []) (e := .normal) (σ' := ⟨[], [(10, vi v10), (9, vi ((List.length x0 : Nat) : Int)), (8, V.t (T.list (List.length x0) 2 (List.flatMap askedC x0))), (5, vi v5), (4, vi 0), (1, vi x1)], []⟩) (by kernel_rfl) trivial ?_
        refine WP.seq ?_
        refine WP.block ?_
        refine WP.seq ?_
        obtain ⟨c0, h⟩ := chk_some h
        refine WP.path tab_ok mixed [(13, An.v (T.agg [ti ((List.getD x0 (Int.toNat v10) (0, false)).1), tb ((List.getD x0 (Int.toNat v10) (0, false)).2)])), (7, An.id 2007)] [.keep [7, 10, 9, 8, 5, 4, 1], .keepO [2007]] (ps := [((0 ≤ v10 ∧ v10 < ((List.length x0 : Nat) : Int))), (2 ≤ List.length (List.drop ((Int.toNat v10) * 2) (List.flatMap askedC x0))), (T.agg (List.take 2 (List.drop ((Int.toNat v10) * 2) (List.flatMap askedC x0))) = T.agg [ti ((List.getD x0 (Int.toNat v10) (0, false)).1), tb ((List.getD x0 (Int.toNat v10) (0, false)).2)]), ((0 + 2 ≤ 2 ∧ 2 = 2))]) (e := .normal) (σ' := ⟨[2007], [(7, V.ref 2007 0), (10, vi v10), (9, vi ((List.length x0 : Nat) : Int)), (8, V.t (T.list (List.length x0) 2 (List.flatMap askedC x0))), (5, vi v5), (4, vi 0), (1, vi x1)], [(2007, oc 85 [ti ((List.getD x0 (Int.toNat v10) (0, false)).1), tb ((List.getD x0 (Int.toNat v10) (0, false)).2)])]⟩) (by kernel_rfl) ⟨c0, fit_asked (i := Int.toNat v10) (by simp) (by omega), at_asked (by simp) (by omega), by decide, trivial⟩ ?_
        refine WP.seq ?_
        obtain ⟨c1, h⟩ := chk_some h
        refine WP.path tab_ok mixed [(16, An.call (tb (falseB ((List.getD x0 (Int.toNat v10) (0, false)).1) ((List.getD x0 (Int.toNat v10) (0, false)).2) x1)))] [.keep [16, 10, 9, 8, 5, 4, 1], .keepO []] (ps := [(0 + 2 ≤ 2), (C Try.prog 251 [T.agg [ti ((List.getD x0 (Int.toNat v10) (0, false)).1), tb ((List.getD x0 (Int.toNat v10) (0, false)).2)], ti x1] (tb (falseB ((List.getD x0 (Int.toNat v10) (0, false)).1) ((List.getD x0 (Int.toNat v10) (0, false)).2) x1)))]) (e := .normal) (σ' := ⟨[2007], [(16, vb (falseB ((List.getD x0 (Int.toNat v10) (0, false)).1) ((List.getD x0 (Int.toNat v10) (0, false)).2) x1)), (10, vi v10), (9, vi ((List.length x0 : Nat) : Int)), (8, V.t (T.list (List.length x0) 2 (List.flatMap askedC x0))), (5, vi v5), (4, vi 0), (1, vi x1)], []⟩) (by kernel_rfl) ⟨by decide, (isFalse_C ((List.getD x0 (Int.toNat v10) (0, false)).1) ((List.getD x0 (Int.toNat v10) (0, false)).2) x1 c1), trivial⟩ ?_
        rcases ite_some h with ⟨h2, h⟩ | ⟨h2, h⟩
        · -- yes
          refine WP.cond (b := falseB ((List.getD x0 (Int.toNat v10) (0, false)).1) ((List.getD x0 (Int.toNat v10) (0, false)).2) x1) rfl (fun _ => ?_) (fun hh => by rw [h2] at hh; cases hh)
          obtain ⟨c2, h⟩ := chk_some h
          refine WP.path tab_ok mixed [(18, An.v (T.int .i64 (v5 + (1 : Int))))] [.keep [5, 10, 9, 8, 4, 1], .keepO []] (ps := [(True), (T.int .i64 (IntKind.wrap .i64 (v5 + (1 : Int))) = T.int .i64 (v5 + (1 : Int)))]) (e := .normal) (σ' := ⟨[2007], [(5, vi (v5 + (1 : Int))), (10, vi v10), (9, vi ((List.length x0 : Nat) : Int)), (8, V.t (T.list (List.length x0) 2 (List.flatMap askedC x0))), (4, vi 0), (1, vi x1)], []⟩) (by kernel_rfl) ⟨trivial, wrapI c2, trivial⟩ ?_
          obtain ⟨c3, h⟩ := chk_some h
          refine WP.path tab_ok mixed [(19, An.v (T.int .i64 (v10 + (1 : Int))))] [.keep [10, 9, 8, 5, 4, 1], .keepO [], .names []] (ps := [(True), (T.int .i64 (IntKind.wrap .i64 (v10 + (1 : Int))) = T.int .i64 (v10 + (1 : Int)))]) (e := .normal) (σ' := ⟨[], [(10, vi (v10 + (1 : Int))), (9, vi ((List.length x0 : Nat) : Int)), (8, V.t (T.list (List.length x0) 2 (List.flatMap askedC x0))), (5, vi (v5 + (1 : Int))), (4, vi 0), (1, vi x1)], []⟩) (by kernel_rfl) ⟨trivial, wrapI c3, trivial⟩ ?_
          exact ⟨(n, (v10 + (1 : Int)), (v5 + (1 : Int))), h, Nat.lt_succ_self _, rfl⟩
        · -- no
          refine WP.cond (b := falseB ((List.getD x0 (Int.toNat v10) (0, false)).1) ((List.getD x0 (Int.toNat v10) (0, false)).2) x1) rfl (fun hh => by rw [h2] at hh; cases hh) (fun _ => ?_)
          refine WP.path tab_ok mixed [] [.keep [10, 9, 8, 5, 4, 1], .keepO []] (ps := []) (e := .normal) (σ' := ⟨[2007], [(10, vi v10), (9, vi ((List.length x0 : Nat) : Int)), (8, V.t (T.list (List.length x0) 2 (List.flatMap askedC x0))), (5, vi v5), (4, vi 0), (1, vi x1)], []⟩) (by kernel_rfl) trivial ?_
          obtain ⟨c2, h⟩ := chk_some h
          refine WP.path tab_ok mixed [(19, An.v (T.int .i64 (v10 + (1 : Int))))] [.keep [10, 9, 8, 5, 4, 1], .keepO [], .names []] (ps := [(True), (T.int .i64 (IntKind.wrap .i64 (v10 + (1 : Int))) = T.int .i64 (v10 + (1 : Int)))]) (e := .normal) (σ' := ⟨[], [(10, vi (v10 + (1 : Int))), (9, vi ((List.length x0 : Nat) : Int)), (8, V.t (T.list (List.length x0) 2 (List.flatMap askedC x0))), (5, vi v5), (4, vi 0), (1, vi x1)], []⟩) (by kernel_rfl) ⟨trivial, wrapI c2, trivial⟩ ?_
          exact ⟨(n, (v10 + (1 : Int)), v5), h, Nat.lt_succ_self _, rfl⟩
      · -- no
        refine WP.cond (b := decide (v10 < ((List.length x0 : Nat) : Int))) rfl (fun hh => by rw [h1] at hh; cases hh) (fun _ => ?_)
        refine WP.path tab_ok mixed [] [.keep [5, 4], .keepO [], .names []] (ps := []) (e := (.exit 0)) (σ' := ⟨[], [(5, vi v5), (4, vi 0)], []⟩) (by kernel_rfl) trivial ?_
        exact ⟨(v5), h, rfl⟩
  · -- from there
    intro v5 h0
    have h := (show J1 v5 = some y0 from h0)
    rw [hJ1] at h
    have h := Option.some.inj h
    subst h
    exact WP.pathW tab_ok mixed [] _ (ps := []) (r := ti v5) (by kernel_rfl) trivial (WkT.eq (y := ti v5) (WkT.refl _) rfl) (fun _ h => h)
theorem F_impl_sum_W (x0 : List Int) (y0 : Int) (h : F_impl_sum x0 = some y0) : C Try.prog 270 [tl x0] (ti y0) := by
  unfold F_impl_sum at h
  refine C.intro (tab := tab) tab_ok (fn := Try.f270) Try.func270 (by kernel_rfl) rfl (Nat.le_of_ble_eq_true rfl) ?_
  refine WP.seq ?_
  refine WP.path tab_ok mixed [] [.keep [2, 0], .keepO []] (ps := []) (e := .normal) (σ' := ⟨[], [(2, vi 0), (0, vl x0)], []⟩) (by kernel_rfl) trivial ?_
  refine WP.seq ?_
  refine WP.path tab_ok mixed [] [.keep [3, 2, 0], .keepO []] (ps := []) (e := .normal) (σ' := ⟨[], [(3, vi 0), (2, vi 0), (0, vl x0)], []⟩) (by kernel_rfl) trivial ?_
  obtain ⟨J1, hJ1, h⟩ := jn_some h
  refine WP.joinA (fun (zz : Int) => ⟨[], [(3, vi zz), (2, vi 0)], []⟩) (fun zz => J1 zz = some y0) ?_ ?_
  · -- to where they meet
    refine WP.seq ?_
    refine WP.path tab_ok mixed [] [.keep [8, 7, 6, 3, 2], .keepO []] (ps := []) (e := .normal) (σ' := ⟨[], [(8, vi 0), (7, vi ((List.length x0 : Nat) : Int)), (6, vl x0), (3, vi 0), (2, vi 0)], []⟩) (by kernel_rfl) trivial ?_
    refine WP.block ?_
    refine WP.wk [.keep [8, 7, 6, 3, 2], .keepO [], .names []] (σ' := ⟨[], [(8, vi 0), (7, vi ((List.length x0 : Nat) : Int)), (6, vl x0), (3, vi 0), (2, vi 0)], []⟩) (ps := []) (by kernel_rfl) trivial ?_
    refine WP.st (σ' := ⟨[], [(8, vi (0 : Int)), (7, vi ((List.length x0 : Nat) : Int)), (6, vl x0), (3, vi (0 : Int)), (2, vi 0)], []⟩) (by first | rfl | (simp only [tlS, tl, vl, vo, oc, ov, tbl, vbl, ty, vy]; done) | (simp only [tlS, tl, vl, vo, oc, ov, tbl, vbl, ty, vy]; rfl) | (simp; done) | (simp []; done) | (rw [List.take_of_length_le (by simp [])]; done) | (rw [List.take_of_length_le (by simp [])]; rfl) | (simp only [tlL]; omega) | (simp; omega)) ?_
    refine WP.loop (α := Nat × Int × Int) (fun zz => ⟨[], [(8, vi zz.2.1), (7, vi ((List.length x0 : Nat) : Int)), (6, vl x0), (3, vi zz.2.2), (2, vi 0)], []⟩) (fun zz => F_impl_sum_L1 x0 J1 zz.1 zz.2.1 zz.2.2 = some y0) (fun zz => zz.1) (fuel, (0 : Int), (0 : Int)) h ?_
    rintro ⟨n, v8, v3⟩ h0
    have h := (show F_impl_sum_L1 x0 J1 n v8 v3 = some y0 from h0)
    rcases n with _ | n
    · rw [F_impl_sum_L1] at h; cases h
    · rw [F_impl_sum_L1] at h
      refine WP.seq ?_
      refine WP.path tab_ok mixed [] [.keep [9, 8, 7, 6, 3, 2], .keepO []] (ps := [(True)]) (e := .normal) (σ' := ⟨[], [(9, vb (decide (v8 < ((List.length x0 : Nat) : Int)))), (8, vi v8), (7, vi ((List.length x0 : Nat) : Int)), (6, vl x0), (3, vi v3), (2, vi 0)], []⟩) (by kernel_rfl) ⟨trivial, trivial⟩ ?_
      refine WP.seq ?_
      rcases ite_some h with ⟨h1, h⟩ | ⟨h1, h⟩
      · -- yes
        refine WP.cond (b := decide (v8 < ((List.length x0 : Nat) : Int))) rfl (fun _ => ?_) (fun hh => by rw [h1] at hh; cases hh)
        refine WP.path tab_ok mixed [] [.keep [8, 7, 6, 3, 2], .keepO []] (ps := []) (e := .normal) (σ' := ⟨[], [(8, vi v8), (7, vi ((List.length x0 : Nat) : Int)), (6, vl x0), (3, vi v3), (2, vi 0)], []⟩) (by kernel_rfl) trivial ?_
        refine WP.seq ?_
        refine WP.block ?_
        obtain ⟨c0, h⟩ := chk_some h
        obtain ⟨c1, h⟩ := chk_some h
        refine WP.path tab_ok mixed [(11, An.v (ti (List.getD x0 (Int.toNat v8) 0))), (14, An.v (T.int .i64 (v3 + (List.getD x0 (Int.toNat v8) 0))))] [.keep [3, 8, 7, 6, 2], .keepO []] (ps := [((0 ≤ v8 ∧ v8 < ((List.length x0 : Nat) : Int))), ((List.drop ((Int.toNat v8) * 1) (List.map (T.int .i64) x0) : List T)[0]? = some (ti (List.getD x0 (Int.toNat v8) 0))), (ti (List.getD x0 (Int.toNat v8) 0) = ti (List.getD x0 (Int.toNat v8) 0)), (True), (T.int .i64 (IntKind.wrap .i64 (v3 + (List.getD x0 (Int.toNat v8) 0))) = T.int .i64 (v3 + (List.getD x0 (Int.toNat v8) 0)))]) (e := .normal) (σ' := ⟨[], [(3, vi (v3 + (List.getD x0 (Int.toNat v8) 0))), (8, vi v8), (7, vi ((List.length x0 : Nat) : Int)), (6, vl x0), (2, vi 0)], []⟩) (by kernel_rfl) ⟨c0, at1 (by simp) (by omega), rfl, trivial, wrapI c1, trivial⟩ ?_
        obtain ⟨c2, h⟩ := chk_some h
        refine WP.path tab_ok mixed [(15, An.v (T.int .i64 (v8 + (1 : Int))))] [.keep [8, 7, 6, 3, 2], .keepO [], .names []] (ps := [(True), (T.int .i64 (IntKind.wrap .i64 (v8 + (1 : Int))) = T.int .i64 (v8 + (1 : Int)))]) (e := .normal) (σ' := ⟨[], [(8, vi (v8 + (1 : Int))), (7, vi ((List.length x0 : Nat) : Int)), (6, vl x0), (3, vi (v3 + (List.getD x0 (Int.toNat v8) 0))), (2, vi 0)], []⟩) (by kernel_rfl) ⟨trivial, wrapI c2, trivial⟩ ?_
        exact ⟨(n, (v8 + (1 : Int)), (v3 + (List.getD x0 (Int.toNat v8) 0))), h, Nat.lt_succ_self _, rfl⟩
      · -- no
        refine WP.cond (b := decide (v8 < ((List.length x0 : Nat) : Int))) rfl (fun hh => by rw [h1] at hh; cases hh) (fun _ => ?_)
        refine WP.path tab_ok mixed [] [.keep [3, 2], .keepO [], .names []] (ps := []) (e := (.exit 0)) (σ' := ⟨[], [(3, vi v3), (2, vi 0)], []⟩) (by kernel_rfl) trivial ?_
        exact ⟨(v3), h, rfl⟩
  · -- from there
    intro v3 h0
    have h := (show J1 v3 = some y0 from h0)
    rw [hJ1] at h
    have h := Option.some.inj h
    subst h
    exact WP.pathW tab_ok mixed [] _ (ps := []) (r := ti v3) (by kernel_rfl) trivial (WkT.eq (y := ti v3) (WkT.refl _) rfl) (fun _ h => h)
theorem F_impl_shares_W (x0 : Int) (x1 : List (Int × Bool)) (x2 : Int) (x3 : Int) (y0 : List Int) (y1 : Int) (h : F_impl_shares x0 x1 x2 x3 = some (y0, y1)) : CG Try.prog 258 [vi x0, V.t (T.list (List.length x1) 2 (List.flatMap askedC x1)), V.t (T.agg [ti x2, ti x3])] [] (V.tup [vo 9000 (List.length y0), vi y1]) [(9000, oc 3 (List.map (T.int .i64) y0))] := by
  unfold F_impl_shares at h
  refine CG.intro (tab := tab) tab_ok (fn := Try.f258) Try.func258 (by kernel_rfl) rfl (Nat.le_of_ble_eq_true rfl) (by kernel_rfl) ?_
  refine WP.seq ?_
  refine WP.path tab_ok mixed [(5, An.fz)] [.keep [7, 6, 5, 0, 1], .keepO []] (ps := []) (e := .normal) (σ' := ⟨[], [(7, vi 0), (6, V.t (T.nils)), (5, V.t (T.ptr [ti x2, ti x3])), (0, vi x0), (1, V.t (T.list (List.length x1) 2 (List.flatMap askedC x1)))], []⟩) (by kernel_rfl) trivial ?_
  refine WP.seq ?_
  refine WP.path tab_ok mixed [(10, An.id 2010)] [.keep [8, 7, 6, 5, 0, 1], .keepO [2010]] (ps := [(True), (0 = 0 * 1)]) (e := .normal) (σ' := ⟨[2010], [(8, vo 2010 0), (7, vi 0), (6, V.t (T.nils)), (5, V.t (T.ptr [ti x2, ti x3])), (0, vi x0), (1, V.t (T.list (List.length x1) 2 (List.flatMap askedC x1)))], [(2010, oc 3 [])]⟩) (by kernel_rfl) ⟨trivial, by decide, trivial⟩ ?_
  obtain ⟨J1, hJ1, h⟩ := jn_some h
  refine WP.joinA (fun (zz : (List Int)) => ⟨[2010], [(8, vo 2010 (List.length zz)), (7, vi 0), (6, V.t (T.nils))], [(2010, oc 3 (List.map (T.int .i64) zz))]⟩) (fun zz => J1 zz = some (y0, y1)) ?_ ?_
  · -- to where they meet
    refine WP.seq ?_
    refine WP.path tab_ok mixed [] [.keep [12, 11, 8, 7, 6, 5, 1], .keepO [2010]] (ps := []) (e := .normal) (σ' := ⟨[2010], [(12, vi 0), (11, vi x0), (8, vo 2010 0), (7, vi 0), (6, V.t (T.nils)), (5, V.t (T.ptr [ti x2, ti x3])), (1, V.t (T.list (List.length x1) 2 (List.flatMap askedC x1)))], [(2010, oc 3 [])]⟩) (by kernel_rfl) trivial ?_
    refine WP.block ?_
    refine WP.wk [.keep [12, 11, 8, 7, 6, 5, 1], .keepO [2010], .names [(2010, 2010)]] (σ' := ⟨[2010], [(12, vi 0), (11, vi x0), (8, vo 2010 0), (7, vi 0), (6, V.t (T.nils)), (5, V.t (T.ptr [ti x2, ti x3])), (1, V.t (T.list (List.length x1) 2 (List.flatMap askedC x1)))], [(2010, oc 3 [])]⟩) (ps := []) (by kernel_rfl) trivial ?_
    refine WP.st (σ' := ⟨[2010], [(12, vi (0 : Int)), (11, vi x0), (8, vo 2010 (List.length ([] : List Int))), (7, vi 0), (6, V.t (T.nils)), (5, V.t (T.ptr [ti x2, ti x3])), (1, V.t (T.list (List.length x1) 2 (List.flatMap askedC x1)))], [(2010, oc 3 (List.map (T.int .i64) ([] : List Int)))]⟩) (by first | rfl | (simp only [tlS, tl, vl, vo, oc, ov, tbl, vbl, ty, vy]; done) | (simp only [tlS, tl, vl, vo, oc, ov, tbl, vbl, ty, vy]; rfl) | (simp; done) | (simp []; done) | (rw [List.take_of_length_le (by simp [])]; done) | (rw [List.take_of_length_le (by simp [])]; rfl) | (simp only [tlL]; omega) | (simp; omega)) ?_
    refine WP.loop (α := Nat × (List Int) × Int) (fun zz => ⟨[2010], [(12, vi zz.2.2), (11, vi x0), (8, vo 2010 (List.length zz.2.1)), (7, vi 0), (6, V.t (T.nils)), (5, V.t (T.ptr [ti x2, ti x3])), (1, V.t (T.list (List.length x1) 2 (List.flatMap askedC x1)))], [(2010, oc 3 (List.map (T.int .i64) zz.2.1))]⟩) (fun zz => F_impl_shares_L1 x0 x1 x2 x3 J1 zz.1 zz.2.1 zz.2.2 = some (y0, y1)) (fun zz => zz.1) (fuel, ([] : List Int), (0 : Int)) h ?_
    rintro ⟨n, o10, v12⟩ h0
    have h := (show F_impl_shares_L1 x0 x1 x2 x3 J1 n o10 v12 = some (y0, y1) from h0)
    rcases n with _ | n
    · rw [F_impl_shares_L1] at h; cases h
    · rw [F_impl_shares_L1] at h
      refine WP.seq ?_
      refine WP.path tab_ok mixed [] [.keep [13, 12, 11, 8, 7, 6, 5, 1], .keepO [2010]] (ps := [(True)]) (e := .normal) (σ' := ⟨[2010], [(13, vb (decide (v12 < x0))), (12, vi v12), (11, vi x0), (8, vo 2010 (List.length o10)), (7, vi 0), (6, V.t (T.nils)), (5, V.t (T.ptr [ti x2, ti x3])), (1, V.t (T.list (List.length x1) 2 (List.flatMap askedC x1)))], [(2010, oc 3 (List.map (T.int .i64) o10))]⟩) (by kernel_rfl) ⟨trivial, trivial⟩ ?_
      refine WP.seq ?_
      rcases ite_some h with ⟨h1, h⟩ | ⟨h1, h⟩
      · -- yes
        refine WP.cond (b := decide (v12 < x0)) rfl (fun _ => ?_) (fun hh => by rw [h1] at hh; cases hh)
        refine WP.path tab_ok mixed [] [.keep [12, 11, 8, 7, 6, 5, 1], .keepO [2010]] (ps := []) (e := .normal) (σ' := ⟨[2010], [(12, vi v12), (11, vi x0), (8, vo 2010 (List.length o10)), (7, vi 0), (6, V.t (T.nils)), (5, V.t (T.ptr [ti x2, ti x3])), (1, V.t (T.list (List.length x1) 2 (List.flatMap askedC x1)))], [(2010, oc 3 (List.map (T.int .i64) o10))]⟩) (by kernel_rfl) trivial ?_
        refine WP.seq ?_
        refine WP.block ?_
        obtain ⟨r21, c0, h⟩ := bnd1_some h
        obtain ⟨r22, c1, h⟩ := bnd1_some h
        obtain ⟨c2, h⟩ := chk_some h
        refine WP.path tab_ok mixed [(21, An.call (ti r21)), (22, An.call (ti r22)), (23, An.fz), (24, An.id 2024)] [.keep [8, 12, 11, 7, 6, 5, 1], .keepO [2024]] (ps := [(2 ≤ 2), (C Try.prog 269 [T.list (List.length x1) 2 (List.flatMap askedC x1), ti v12] (ti r21)), (C Try.prog 268 [T.agg [ti x2, ti x3], ti ((List.length x1 : Nat) : Int), ti r21] (ti r22)), ((1 = 1 ∧ 0 + 1 ≤ 1) ∧ True), (1 = 1 * 1), (True), (List.length (List.map (T.int .i64) o10) = (List.length o10) * 1), ((((List.length o10) + 1) * 8 ≤ 140737488355328 ∧ (List.length o10) + 1 ≤ maxLen))]) (e := .normal) (σ' := ⟨[2024, 2010], [(8, vo 2024 ((List.length o10) + 1)), (12, vi v12), (11, vi x0), (7, vi 0), (6, V.t (T.nils)), (5, V.t (T.ptr [ti x2, ti x3])), (1, V.t (T.list (List.length x1) 2 (List.flatMap askedC x1)))], [(2024, oc 3 ((List.map (T.int .i64) o10) ++ [ti r22]))]⟩) (by kernel_rfl) ⟨by decide, (F_impl_falseFor_W x1 v12 r21 c0), (F_impl_Doubt_ofThese_W x2 x3 ((List.length x1 : Nat) : Int) r21 r22 c1), ⟨⟨by first | rfl | (simp; done) | (simp []; done) | omega, by first | decide | (simp; done) | (simp []; done) | omega | (simp only [tlL]; omega) | (simp; omega)⟩, trivial⟩, by decide, trivial, by first | rfl | (simp; done) | omega | (simp only [tlL]; omega) | (simp; omega) | (simp []; done) | (simp []; omega), c2, trivial⟩ ?_
        obtain ⟨c3, h⟩ := chk_some h
        refine WP.path tab_ok mixed [(25, An.v (T.int .i64 (v12 + (1 : Int))))] [.keep [12, 11, 8, 7, 6, 5, 1], .keepO [2024], .names [(2024, 2010)]] (ps := [(True), (T.int .i64 (IntKind.wrap .i64 (v12 + (1 : Int))) = T.int .i64 (v12 + (1 : Int)))]) (e := .normal) (σ' := ⟨[2010], [(12, vi (v12 + (1 : Int))), (11, vi x0), (8, vo 2010 ((List.length o10) + 1)), (7, vi 0), (6, V.t (T.nils)), (5, V.t (T.ptr [ti x2, ti x3])), (1, V.t (T.list (List.length x1) 2 (List.flatMap askedC x1)))], [(2010, oc 3 ((List.map (T.int .i64) o10) ++ [ti r22]))]⟩) (by kernel_rfl) ⟨trivial, wrapI c3, trivial⟩ ?_
        exact ⟨(n, o10 ++ [r22], (v12 + (1 : Int))), h, Nat.lt_succ_self _, (by first | rfl | (simp only [tlS, tl, vl, vo, oc, ov, tbl, vbl, ty, vy]; done) | (simp only [tlS, tl, vl, vo, oc, ov, tbl, vbl, ty, vy]; rfl) | (simp; done) | (simp []; done) | (rw [List.take_of_length_le (by simp [])]; done) | (rw [List.take_of_length_le (by simp [])]; rfl) | (simp only [tlL]; omega) | (simp; omega))⟩
      · -- no
        refine WP.cond (b := decide (v12 < x0)) rfl (fun hh => by rw [h1] at hh; cases hh) (fun _ => ?_)
        refine WP.path tab_ok mixed [] [.keep [8, 7, 6], .keepO [2010], .names [(2010, 2010)]] (ps := []) (e := (.exit 0)) (σ' := ⟨[2010], [(8, vo 2010 (List.length o10)), (7, vi 0), (6, V.t (T.nils))], [(2010, oc 3 (List.map (T.int .i64) o10))]⟩) (by kernel_rfl) trivial ?_
        exact ⟨(o10), h, rfl⟩
  · -- from there
    intro o10 h0
    have h := (show J1 o10 = some (y0, y1) from h0)
    rw [hJ1] at h
    obtain ⟨r28, c0, h⟩ := bnd1_some h
    simp only [Option.some.injEq, Prod.mk.injEq] at h
    obtain ⟨rfl, rfl⟩ := h
    exact WP.pathG tab_ok mixed [(28, An.call (ti r28))] [.keep [6, 7], .keepO [2010], .names [(2010, 9000)]] [9000] _ (r' := V.tup [vo 9000 (List.length o10), vi r28]) (ps := [(C Try.prog 270 [tl o10] (ti r28)), (List.length (List.map (T.int .i64) o10) = (List.length o10) * 1)]) (r := V.tup [vo 9000 (List.length o10), vi r28]) (N := [9000]) (O := [(9000, oc 3 (List.map (T.int .i64) o10))]) [] (by kernel_rfl) ⟨(F_impl_sum_W o10 r28 c0), by first | rfl | (simp; done) | omega | (simp only [tlL]; omega) | (simp; omega) | (simp []; done) | (simp []; omega), trivial⟩ ⟨rfl, (WkT.refl _), trivial⟩ rfl rfl (fun _ h => h)
theorem F_impl_shares_W_C (x0 : Int) (x1 : List (Int × Bool)) (x2 : Int) (x3 : Int) (y0 : List Int) (y1 : Int) (h : F_impl_shares x0 x1 x2 x3 = some (y0, y1)) : C Try.prog 258 [ti x0, T.list (List.length x1) 2 (List.flatMap askedC x1), T.agg [ti x2, ti x3]] (T.tup [tl y0, ti y1]) :=
  CG.toC (ps := [(List.length (List.map (T.int .i64) y0) = (List.length y0) * 1)]) (F_impl_shares_W  x0 x1 x2 x3 y0 y1 h) (by rfl) ⟨by first | rfl | (simp; done) | omega | (simp; omega) | (simp [hl]; done) | (simp [hl]; omega), trivial⟩
theorem F_impl_sharesAfter_W (x0 : Int) (x1 : List (Int × Bool)) (x2 : Int) (x3 : Int) (x4 : Int) (y0 : List Int) (y1 : Int) (y2 : Bool) (h : F_impl_sharesAfter x0 x1 x2 x3 x4 = some (y0, y1, y2)) : CG Try.prog 225 [vi x0, V.t (T.list (List.length x1) 2 (List.flatMap askedC x1)), V.t (T.agg [ti x2, ti x3]), vi x4] [] (V.tup [vo 9000 (List.length y0), vi y1, vb y2]) [(9000, oc 3 (List.map (T.int .i64) y0))] := by
  unfold F_impl_sharesAfter at h
  refine CG.intro (tab := tab) tab_ok (fn := Try.f225) Try.func225 (by kernel_rfl) rfl (Nat.le_of_ble_eq_true rfl) (by kernel_rfl) ?_
  refine WP.seq ?_
  refine WP.path tab_ok mixed [(6, An.fz)] [.keep [10, 9, 8, 6, 0, 1, 3], .keepO []] (ps := []) (e := .normal) (σ' := ⟨[], [(10, vb false), (9, vi 0), (8, V.t (T.nils)), (6, V.t (T.ptr [ti x2, ti x3])), (0, vi x0), (1, V.t (T.list (List.length x1) 2 (List.flatMap askedC x1))), (3, vi x4)], []⟩) (by kernel_rfl) trivial ?_
  refine WP.seq ?_
  obtain ⟨J1, hJ1, h⟩ := jn_some h
  refine WP.joinA (fun (zz : Bool) => ⟨[], [(22, vb zz), (10, vb false), (9, vi 0), (8, V.t (T.nils)), (6, V.t (T.ptr [ti x2, ti x3])), (0, vi x0), (1, V.t (T.list (List.length x1) 2 (List.flatMap askedC x1)))], []⟩) (fun zz => J1 zz = some (y0, y1, y2)) ?_ ?_
  · -- to where they meet
    obtain ⟨r16, c0, h⟩ := bnd1_some h
    rcases ite_some h with ⟨h1, h⟩ | ⟨h1, h⟩
    · -- yes
      refine WP.path tab_ok mixed [(16, An.call (tb r16)), (18, An.b true)] [.keep [22, 10, 9, 8, 6, 0, 1], .keepO [], .names []] (ps := [(C Try.prog 180 [ti x0, T.list (List.length x1) 2 (List.flatMap askedC x1), ti x4] (tb r16)), ((!r16) = true)]) (e := .normal) (σ' := ⟨[], [(22, vb true), (10, vb false), (9, vi 0), (8, V.t (T.nils)), (6, V.t (T.ptr [ti x2, ti x3])), (0, vi x0), (1, V.t (T.list (List.length x1) 2 (List.flatMap askedC x1)))], []⟩) (by kernel_rfl) ⟨(F_impl_areAsked_W x0 x1 x4 r16 c0), h1, trivial⟩ ?_
      exact ⟨(true), h, rfl⟩
    · -- no
      obtain ⟨r20, c1, h⟩ := bnd1_some h
      refine WP.path tab_ok mixed [(16, An.call (tb r16)), (18, An.b false), (20, An.call (tb r20))] [.keep [22, 10, 9, 8, 6, 0, 1], .keepO [], .names []] (ps := [(C Try.prog 180 [ti x0, T.list (List.length x1) 2 (List.flatMap askedC x1), ti x4] (tb r16)), ((!r16) = false), (2 ≤ 2), (C Try.prog 257 [T.agg [ti x2, ti x3]] (tb r20))]) (e := .normal) (σ' := ⟨[], [(22, vb !r20), (10, vb false), (9, vi 0), (8, V.t (T.nils)), (6, V.t (T.ptr [ti x2, ti x3])), (0, vi x0), (1, V.t (T.list (List.length x1) 2 (List.flatMap askedC x1)))], []⟩) (by kernel_rfl) ⟨(F_impl_areAsked_W x0 x1 x4 r16 c0), h1, by decide, (F_impl_IsDoubt_W x2 x3 r20 c1), trivial⟩ ?_
      exact ⟨(!r20), h, rfl⟩
  · -- from there
    intro v22 h0
    have h := (show J1 v22 = some (y0, y1, y2) from h0)
    rw [hJ1] at h
    rcases ite_some h with ⟨h2, h⟩ | ⟨h2, h⟩
    · -- yes
      refine WP.cond (b := v22) rfl (fun _ => ?_) (fun hh => by rw [h2] at hh; cases hh)
      simp only [Option.some.injEq, Prod.mk.injEq] at h
      obtain ⟨rfl, rfl, rfl⟩ := h
      exact WP.pathG tab_ok mixed [] [.keep [8, 9, 10], .keepO [], .names []] [] _ (r' := V.tup [vo 9000 (List.length ([] : List Int)), vi (0 : Int), vb false]) (ps := []) (r := V.t (T.tup [T.nils, ti 0, tb false])) (N := []) (O := []) [(9000, 3)] (by kernel_rfl) trivial ⟨(by first | rfl | (simp; done)), (WkT.eq (WkT.refl _) (by first | rfl | (simp only [tlS, tl, vl, vo, oc, ov, tbl, vbl, ty, vy]; done) | (simp only [tlS, tl, vl, vo, oc, ov, tbl, vbl, ty, vy]; rfl) | (simp; done) | (simp []; done) | (rw [List.take_of_length_le (by simp [])]; done) | (rw [List.take_of_length_le (by simp [])]; rfl) | (simp only [tlL]; omega) | (simp; omega))), (WkT.refl _), trivial⟩ rfl rfl (fun _ h => h)
    · -- no
      refine WP.cond (b := v22) rfl (fun hh => by rw [h2] at hh; cases hh) (fun _ => ?_)
      refine WP.path tab_ok mixed [] [.keep [10, 9, 8, 6, 0, 1], .keepO []] (ps := []) (e := .normal) (σ' := ⟨[], [(10, vb false), (9, vi 0), (8, V.t (T.nils)), (6, V.t (T.ptr [ti x2, ti x3])), (0, vi x0), (1, V.t (T.list (List.length x1) 2 (List.flatMap askedC x1)))], []⟩) (by kernel_rfl) trivial ?_
      obtain ⟨r27, r27b, c0, h⟩ := bnd2_some h
      simp only [Option.some.injEq, Prod.mk.injEq] at h
      obtain ⟨rfl, rfl, rfl⟩ := h
      exact WP.pathG tab_ok mixed [(27, An.callG [(9000, 10270)] [vi x0, V.t (T.list (List.length x1) 2 (List.flatMap askedC x1)), V.t (T.agg [ti x2, ti x3])] [] (V.tup [vo 9000 (List.length r27), vi r27b]) [(9000, oc 3 (List.map (T.int .i64) r27))])] [.keep [8, 9, 10], .keepO [10270], .names [(10270, 9000)]] [9000] _ (r' := V.tup [vo 9000 (List.length r27), vi r27b, vb (decide (r27b > (0 : Int)))]) (ps := [(2 ≤ 2), (CG Try.prog 258 [vi x0, V.t (T.list (List.length x1) 2 (List.flatMap askedC x1)), V.t (T.agg [ti x2, ti x3])] [] (V.tup [vo 9000 (List.length r27), vi r27b]) [(9000, oc 3 (List.map (T.int .i64) r27))]), (WkT (ti x0) (ti x0)), (WkT (T.list (List.length x1) 2 (List.flatMap askedC x1)) (T.list (List.length x1) 2 (List.flatMap askedC x1))), (WkT (T.agg [ti x2, ti x3]) (T.agg [ti x2, ti x3])), (True)]) (r := V.tup [vo 9000 (List.length r27), vi r27b, vb (decide (r27b > (0 : Int)))]) (N := [9000]) (O := [(9000, oc 3 (List.map (T.int .i64) r27))]) [] (by kernel_rfl) ⟨by decide, (F_impl_shares_W x0 x1 x2 x3 r27 r27b c0), WkT.refl _, WkT.refl _, WkT.refl _, trivial, trivial⟩ ⟨rfl, (WkT.refl _), (WkT.refl _), trivial⟩ rfl rfl (fun _ h => h)
theorem F_impl_sharesAfter_W_C (x0 : Int) (x1 : List (Int × Bool)) (x2 : Int) (x3 : Int) (x4 : Int) (y0 : List Int) (y1 : Int) (y2 : Bool) (h : F_impl_sharesAfter x0 x1 x2 x3 x4 = some (y0, y1, y2)) : C Try.prog 225 [ti x0, T.list (List.length x1) 2 (List.flatMap askedC x1), T.agg [ti x2, ti x3], ti x4] (T.tup [tl y0, ti y1, tb y2]) :=
  CG.toC (ps := [(List.length (List.map (T.int .i64) y0) = (List.length y0) * 1)]) (F_impl_sharesAfter_W  x0 x1 x2 x3 x4 y0 y1 y2 h) (by rfl) ⟨by first | rfl | (simp; done) | omega | (simp; omega) | (simp [hl]; done) | (simp [hl]; omega), trivial⟩
theorem F_impl_ChancesAfter_W (x0 : Int) (x1 : List (Int × Bool)) (x2 : Int) (x3 : Int) (y0 : List (Int × Int)) (y1 : Bool) (h : F_impl_ChancesAfter x0 x1 x2 x3 = some (y0, y1)) : CG Try.prog 110 [vi x0, V.t (T.list (List.length x1) 2 (List.flatMap askedC x1)), V.t (T.agg [ti x2, ti x3])] [] (V.tup [V.own 9000 2 (List.length y0), vb y1]) [(9000, oc 49 (List.flatMap pairC y0))] := by
  unfold F_impl_ChancesAfter at h
  refine CG.intro (tab := tab) tab_ok (fn := Try.f110) Try.func110 (by kernel_rfl) rfl (Nat.le_of_ble_eq_true rfl) (by kernel_rfl) ?_
  refine WP.seq ?_
  refine WP.path tab_ok mixed [(5, An.fz)] [.keep [7, 6, 5, 0, 1], .keepO []] (ps := []) (e := .normal) (σ' := ⟨[], [(7, vb false), (6, V.t (T.nils)), (5, V.t (T.ptr [ti x2, ti x3])), (0, vi x0), (1, V.t (T.list (List.length x1) 2 (List.flatMap askedC x1)))], []⟩) (by kernel_rfl) trivial ?_
  refine WP.seq ?_
  obtain ⟨r18, r18b, r18c, c0, h⟩ := bnd3_some h
  refine WP.path tab_ok mixed [(18, An.callG [(9000, 10180)] [vi x0, V.t (T.list (List.length x1) 2 (List.flatMap askedC x1)), V.t (T.agg [ti x2, ti x3]), vi 12] [] (V.tup [vo 9000 (List.length r18), vi r18b, vb r18c]) [(9000, oc 3 (List.map (T.int .i64) r18))])] [.keep [10, 9, 8, 7, 6], .keepO [10180]] (ps := [(2 ≤ 2), (CG Try.prog 225 [vi x0, V.t (T.list (List.length x1) 2 (List.flatMap askedC x1)), V.t (T.agg [ti x2, ti x3]), vi 12] [] (V.tup [vo 9000 (List.length r18), vi r18b, vb r18c]) [(9000, oc 3 (List.map (T.int .i64) r18))]), (WkT (ti x0) (ti x0)), (WkT (T.list (List.length x1) 2 (List.flatMap askedC x1)) (T.list (List.length x1) 2 (List.flatMap askedC x1))), (WkT (T.agg [ti x2, ti x3]) (T.agg [ti x2, ti x3])), (WkT (ti 12) (ti 12))]) (e := .normal) (σ' := ⟨[10180], [(10, vb r18c), (9, vi r18b), (8, vo 10180 (List.length r18)), (7, vb false), (6, V.t (T.nils))], [(10180, oc 3 (List.map (T.int .i64) r18))]⟩) (by kernel_rfl) ⟨by decide, (F_impl_sharesAfter_W x0 x1 x2 x3 (12 : Int) r18 r18b r18c c0), WkT.refl _, WkT.refl _, WkT.refl _, WkT.refl _, trivial⟩ ?_
  refine WP.seq ?_
  refine WP.seq ?_
  refine WP.path tab_ok mixed [] [.keep [23, 9, 8, 7, 6], .keepO [10180]] (ps := []) (e := .normal) (σ' := ⟨[10180], [(23, vb !r18c), (9, vi r18b), (8, vo 10180 (List.length r18)), (7, vb false), (6, V.t (T.nils))], [(10180, oc 3 (List.map (T.int .i64) r18))]⟩) (by kernel_rfl) trivial ?_
  rcases ite_some h with ⟨h1, h⟩ | ⟨h1, h⟩
  · -- yes
    refine WP.cond (b := !r18c) rfl (fun _ => ?_) (fun hh => by rw [h1] at hh; cases hh)
    simp only [Option.some.injEq, Prod.mk.injEq] at h
    obtain ⟨rfl, rfl⟩ := h
    exact WP.pathG tab_ok mixed [] [.keep [6, 7], .keepO [], .names []] [] _ (r' := V.tup [V.own 9000 2 (List.length ([] : List (Int × Int))), vb false]) (ps := []) (r := V.t (T.tup [T.nils, tb false])) (N := []) (O := []) [(9000, 49)] (by kernel_rfl) trivial ⟨(by first | rfl | (simp; done)), (WkT.refl _), trivial⟩ rfl rfl (fun _ h => h)
  · -- no
    refine WP.cond (b := !r18c) rfl (fun hh => by rw [h1] at hh; cases hh) (fun _ => ?_)
    refine WP.path tab_ok mixed [] [.keep [9, 8, 7, 6], .keepO [10180]] (ps := []) (e := .normal) (σ' := ⟨[10180], [(9, vi r18b), (8, vo 10180 (List.length r18)), (7, vb false), (6, V.t (T.nils))], [(10180, oc 3 (List.map (T.int .i64) r18))]⟩) (by kernel_rfl) trivial ?_
    refine WP.seq ?_
    refine WP.path tab_ok mixed [(24, An.id 2024)] [.keep [11, 9, 8, 7, 6], .keepO [2024, 10180]] (ps := [(True), (0 = 0 * 2)]) (e := .normal) (σ' := ⟨[2024, 10180], [(11, V.own 2024 2 0), (9, vi r18b), (8, vo 10180 (List.length r18)), (7, vb false), (6, V.t (T.nils))], [(2024, oc 49 []), (10180, oc 3 (List.map (T.int .i64) r18))]⟩) (by kernel_rfl) ⟨trivial, by decide, trivial⟩ ?_
    obtain ⟨J1, hJ1, h⟩ := jn_some h
    refine WP.joinA (fun (zz : (List (Int × Int))) => ⟨[2024], [(11, V.own 2024 2 (List.length zz)), (7, vb false), (6, V.t (T.nils))], [(2024, oc 49 (List.flatMap pairC zz))]⟩) (fun zz => J1 zz = some (y0, y1)) ?_ ?_
    · -- to where they meet
      refine WP.seq ?_
      refine WP.path tab_ok mixed [] [.keep [27, 26, 25, 11, 9, 7, 6], .keepO [2024, 10180]] (ps := []) (e := .normal) (σ' := ⟨[2024, 10180], [(27, vi 0), (26, vi ((List.length r18 : Nat) : Int)), (25, vo 10180 (List.length r18)), (11, V.own 2024 2 0), (9, vi r18b), (7, vb false), (6, V.t (T.nils))], [(2024, oc 49 []), (10180, oc 3 (List.map (T.int .i64) r18))]⟩) (by kernel_rfl) trivial ?_
      refine WP.block ?_
      refine WP.wk [.keep [27, 26, 25, 11, 9, 7, 6], .keepO [2024, 10180], .names [(2024, 2024), (10180, 10180)]] (σ' := ⟨[2024, 10180], [(27, vi 0), (26, vi ((List.length r18 : Nat) : Int)), (25, vo 10180 (List.length r18)), (11, V.own 2024 2 0), (9, vi r18b), (7, vb false), (6, V.t (T.nils))], [(2024, oc 49 []), (10180, oc 3 (List.map (T.int .i64) r18))]⟩) (ps := []) (by kernel_rfl) trivial ?_
      refine WP.st (σ' := ⟨[2024, 10180], [(27, vi (0 : Int)), (26, vi ((List.length r18 : Nat) : Int)), (25, vo 10180 (List.length r18)), (11, V.own 2024 2 (List.length ([] : List (Int × Int)))), (9, vi r18b), (7, vb false), (6, V.t (T.nils))], [(2024, oc 49 (List.flatMap pairC ([] : List (Int × Int)))), (10180, oc 3 (List.map (T.int .i64) r18))]⟩) (by first | rfl | (simp only [tlS, tl, vl, vo, oc, ov, tbl, vbl, ty, vy]; done) | (simp only [tlS, tl, vl, vo, oc, ov, tbl, vbl, ty, vy]; rfl) | (simp; done) | (simp []; done) | (rw [List.take_of_length_le (by simp [])]; done) | (rw [List.take_of_length_le (by simp [])]; rfl) | (simp only [tlL]; omega) | (simp; omega)) ?_
      refine WP.loop (α := Nat × (List (Int × Int)) × Int) (fun zz => ⟨[2024, 10180], [(27, vi zz.2.2), (26, vi ((List.length r18 : Nat) : Int)), (25, vo 10180 (List.length r18)), (11, V.own 2024 2 (List.length zz.2.1)), (9, vi r18b), (7, vb false), (6, V.t (T.nils))], [(2024, oc 49 (List.flatMap pairC zz.2.1)), (10180, oc 3 (List.map (T.int .i64) r18))]⟩) (fun zz => F_impl_ChancesAfter_L1 r18 r18b J1 zz.1 zz.2.1 zz.2.2 = some (y0, y1)) (fun zz => zz.1) (fuel, ([] : List (Int × Int)), (0 : Int)) h ?_
      rintro ⟨n, o24, v27⟩ h0
      have h := (show F_impl_ChancesAfter_L1 r18 r18b J1 n o24 v27 = some (y0, y1) from h0)
      rcases n with _ | n
      · rw [F_impl_ChancesAfter_L1] at h; cases h
      · rw [F_impl_ChancesAfter_L1] at h
        refine WP.seq ?_
        refine WP.path tab_ok mixed [] [.keep [28, 27, 26, 25, 11, 9, 7, 6], .keepO [2024, 10180]] (ps := [(True)]) (e := .normal) (σ' := ⟨[2024, 10180], [(28, vb (decide (v27 < ((List.length r18 : Nat) : Int)))), (27, vi v27), (26, vi ((List.length r18 : Nat) : Int)), (25, vo 10180 (List.length r18)), (11, V.own 2024 2 (List.length o24)), (9, vi r18b), (7, vb false), (6, V.t (T.nils))], [(2024, oc 49 (List.flatMap pairC o24)), (10180, oc 3 (List.map (T.int .i64) r18))]⟩) (by kernel_rfl) ⟨trivial, trivial⟩ ?_
        refine WP.seq ?_
        rcases ite_some h with ⟨h2, h⟩ | ⟨h2, h⟩
        · -- yes
          refine WP.cond (b := decide (v27 < ((List.length r18 : Nat) : Int))) rfl (fun _ => ?_) (fun hh => by rw [h2] at hh; cases hh)
          refine WP.path tab_ok mixed [] [.keep [27, 26, 25, 11, 9, 7, 6], .keepO [2024, 10180]] (ps := []) (e := .normal) (σ' := ⟨[2024, 10180], [(27, vi v27), (26, vi ((List.length r18 : Nat) : Int)), (25, vo 10180 (List.length r18)), (11, V.own 2024 2 (List.length o24)), (9, vi r18b), (7, vb false), (6, V.t (T.nils))], [(2024, oc 49 (List.flatMap pairC o24)), (10180, oc 3 (List.map (T.int .i64) r18))]⟩) (by kernel_rfl) trivial ?_
          refine WP.seq ?_
          refine WP.block ?_
          obtain ⟨c1, h⟩ := chk_some h
          obtain ⟨c2, h⟩ := chk_some h
          obtain ⟨c3, h⟩ := chk_some h
          obtain ⟨c4, h⟩ := chk_some h
          refine WP.path tab_ok mixed [(30, An.v (ti (List.getD r18 (Int.toNat v27) 0))), (34, An.call (T.agg [ti (IntKind.wrap .i64 (Int.tdiv (List.getD r18 (Int.toNat v27) 0) ((Int.gcd (List.getD r18 (Int.toNat v27) 0) r18b : Nat) : Int))), ti (IntKind.wrap .i64 (Int.tdiv r18b ((Int.gcd (List.getD r18 (Int.toNat v27) 0) r18b : Nat) : Int)))])), (35, An.fz), (36, An.id 2036)] [.keep [11, 27, 26, 25, 9, 7, 6], .keepO [2036, 10180]] (ps := [((0 ≤ v27 ∧ v27 < ((List.length r18 : Nat) : Int))), ((List.map (T.int .i64) r18 : List T)[(Int.toNat v27) * 1]? = some (ti (List.getD r18 (Int.toNat v27) 0))), (ti (List.getD r18 (Int.toNat v27) 0) = ti (List.getD r18 (Int.toNat v27) 0)), (C Try.prog 159 [ti (List.getD r18 (Int.toNat v27) 0), ti r18b] (T.agg [ti (IntKind.wrap .i64 (Int.tdiv (List.getD r18 (Int.toNat v27) 0) ((Int.gcd (List.getD r18 (Int.toNat v27) 0) r18b : Nat) : Int))), ti (IntKind.wrap .i64 (Int.tdiv r18b ((Int.gcd (List.getD r18 (Int.toNat v27) 0) r18b : Nat) : Int)))])), ((2 = 2 ∧ 0 + 2 ≤ 2) ∧ True), (2 = 1 * 2), (True), (List.length (List.flatMap pairC o24) = (List.length o24) * 2), ((((List.length o24) + 1) * 16 ≤ 140737488355328 ∧ (List.length o24) + 1 ≤ maxLen))]) (e := .normal) (σ' := ⟨[2036, 2024, 10180], [(11, V.own 2036 2 ((List.length o24) + 1)), (27, vi v27), (26, vi ((List.length r18 : Nat) : Int)), (25, vo 10180 (List.length r18)), (9, vi r18b), (7, vb false), (6, V.t (T.nils))], [(2036, oc 49 ((List.flatMap pairC o24) ++ [ti (IntKind.wrap .i64 (Int.tdiv (List.getD r18 (Int.toNat v27) 0) ((Int.gcd (List.getD r18 (Int.toNat v27) 0) r18b : Nat) : Int))), ti (IntKind.wrap .i64 (Int.tdiv r18b ((Int.gcd (List.getD r18 (Int.toNat v27) 0) r18b : Nat) : Int)))])), (10180, oc 3 (List.map (T.int .i64) r18))]⟩) (by kernel_rfl) ⟨c1, atM (by simp) (by first | omega | (simp only [tlL]; omega) | (simp; omega)), rfl, (fraction_C (List.getD r18 (Int.toNat v27) 0) r18b c2 c3), ⟨⟨by first | rfl | (simp; done) | (simp []; done) | omega, by first | decide | (simp; done) | (simp []; done) | omega | (simp only [tlL]; omega) | (simp; omega)⟩, trivial⟩, by decide, trivial, by first | exact len_pair _ | (rw [len_pair]; first | done | omega | (simp; done) | (simp only [tlL]; omega) | (simp; omega)), c4, trivial⟩ ?_
          obtain ⟨c5, h⟩ := chk_some h
          refine WP.path tab_ok mixed [(37, An.v (T.int .i64 (v27 + (1 : Int))))] [.keep [27, 26, 25, 11, 9, 7, 6], .keepO [2036, 10180], .names [(2036, 2024), (10180, 10180)]] (ps := [(True), (T.int .i64 (IntKind.wrap .i64 (v27 + (1 : Int))) = T.int .i64 (v27 + (1 : Int)))]) (e := .normal) (σ' := ⟨[2024, 10180], [(27, vi (v27 + (1 : Int))), (26, vi ((List.length r18 : Nat) : Int)), (25, vo 10180 (List.length r18)), (11, V.own 2024 2 ((List.length o24) + 1)), (9, vi r18b), (7, vb false), (6, V.t (T.nils))], [(2024, oc 49 ((List.flatMap pairC o24) ++ [ti (IntKind.wrap .i64 (Int.tdiv (List.getD r18 (Int.toNat v27) 0) ((Int.gcd (List.getD r18 (Int.toNat v27) 0) r18b : Nat) : Int))), ti (IntKind.wrap .i64 (Int.tdiv r18b ((Int.gcd (List.getD r18 (Int.toNat v27) 0) r18b : Nat) : Int)))])), (10180, oc 3 (List.map (T.int .i64) r18))]⟩) (by kernel_rfl) ⟨trivial, wrapI c5, trivial⟩ ?_
          exact ⟨(n, o24 ++ [((IntKind.wrap .i64 (Int.tdiv (List.getD r18 (Int.toNat v27) 0) ((Int.gcd (List.getD r18 (Int.toNat v27) 0) r18b : Nat) : Int))), (IntKind.wrap .i64 (Int.tdiv r18b ((Int.gcd (List.getD r18 (Int.toNat v27) 0) r18b : Nat) : Int))))], (v27 + (1 : Int))), h, Nat.lt_succ_self _, (by first | rfl | (simp only [tlS, tl, vl, vo, oc, ov, tbl, vbl, ty, vy]; done) | (simp only [tlS, tl, vl, vo, oc, ov, tbl, vbl, ty, vy]; rfl) | (simp; done) | (simp []; done) | (rw [List.take_of_length_le (by simp [])]; done) | (rw [List.take_of_length_le (by simp [])]; rfl) | (simp only [tlL]; omega) | (simp; omega))⟩
        · -- no
          refine WP.cond (b := decide (v27 < ((List.length r18 : Nat) : Int))) rfl (fun hh => by rw [h2] at hh; cases hh) (fun _ => ?_)
          refine WP.path tab_ok mixed [] [.keep [11, 7, 6], .keepO [2024], .names [(2024, 2024)]] (ps := []) (e := (.exit 0)) (σ' := ⟨[2024], [(11, V.own 2024 2 (List.length o24)), (7, vb false), (6, V.t (T.nils))], [(2024, oc 49 (List.flatMap pairC o24))]⟩) (by kernel_rfl) trivial ?_
          exact ⟨(o24), h, rfl⟩
    · -- from there
      intro o24 h0
      have h := (show J1 o24 = some (y0, y1) from h0)
      rw [hJ1] at h
      simp only [Option.some.injEq, Prod.mk.injEq] at h
      obtain ⟨rfl, rfl⟩ := h
      exact WP.pathG tab_ok mixed [] [.keep [6, 7], .keepO [2024], .names [(2024, 9000)]] [9000] _ (r' := V.tup [V.own 9000 2 (List.length o24), vb true]) (ps := []) (r := V.tup [V.own 9000 2 (List.length o24), vb true]) (N := [9000]) (O := [(9000, oc 49 (List.flatMap pairC o24))]) [] (by kernel_rfl) trivial ⟨rfl, (WkT.refl _), trivial⟩ rfl rfl (fun _ h => h)
theorem F_impl_ChancesAfter_W_C (x0 : Int) (x1 : List (Int × Bool)) (x2 : Int) (x3 : Int) (y0 : List (Int × Int)) (y1 : Bool) (h : F_impl_ChancesAfter x0 x1 x2 x3 = some (y0, y1)) : C Try.prog 110 [ti x0, T.list (List.length x1) 2 (List.flatMap askedC x1), T.agg [ti x2, ti x3]] (T.tup [T.list (List.length y0) 2 (List.flatMap pairC y0), tb y1]) :=
  CG.toC (ps := [(List.length (List.flatMap pairC y0) = (List.length y0) * 2)]) (F_impl_ChancesAfter_W  x0 x1 x2 x3 y0 y1 h) (by rfl) ⟨by first | exact len_pair _ | (rw [len_pair]; first | done | omega | (simp; done) | (simp; omega)), trivial⟩
theorem F_spec_l2Answers_W (x0 : Int) (x1 : List (Int × Bool)) (y0 : Bool) (h : F_spec_l2Answers x0 x1 = some y0) : C Try.prog 199 [ti x0, T.list (List.length x1) 2 (List.flatMap askedC x1)] (tb y0) := by
  unfold F_spec_l2Answers at h
  refine C.intro (tab := tab) tab_ok (fn := Try.f199) Try.func199 (by kernel_rfl) rfl (Nat.le_of_ble_eq_true rfl) ?_
  refine WP.seq ?_
  refine WP.path tab_ok mixed [] [.keep [4, 0, 1], .keepO []] (ps := []) (e := .normal) (σ' := ⟨[], [(4, vb false), (0, vi x0), (1, V.t (T.list (List.length x1) 2 (List.flatMap askedC x1)))], []⟩) (by kernel_rfl) trivial ?_
  obtain ⟨J1, hJ1, h⟩ := jn_some h
  refine WP.joinA (fun (zz : Unit) => ⟨[], [(4, vb false), (0, vi x0), (1, V.t (T.list (List.length x1) 2 (List.flatMap askedC x1)))], []⟩) (fun zz => J1 () = some y0) ?_ ?_
  · -- to where they meet
    refine WP.seq ?_
    refine WP.path tab_ok mixed [] [.keep [5, 4, 0, 1], .keepO []] (ps := []) (e := .normal) (σ' := ⟨[], [(5, vi 0), (4, vb false), (0, vi x0), (1, V.t (T.list (List.length x1) 2 (List.flatMap askedC x1)))], []⟩) (by kernel_rfl) trivial ?_
    refine WP.block ?_
    refine WP.wk [.keep [5, 4, 0, 1], .keepO [], .names []] (σ' := ⟨[], [(5, vi 0), (4, vb false), (0, vi x0), (1, V.t (T.list (List.length x1) 2 (List.flatMap askedC x1)))], []⟩) (ps := []) (by kernel_rfl) trivial ?_
    refine WP.st (σ' := ⟨[], [(5, vi (0 : Int)), (4, vb false), (0, vi x0), (1, V.t (T.list (List.length x1) 2 (List.flatMap askedC x1)))], []⟩) (by first | rfl | (simp only [tlS, tl, vl, vo, oc, ov, tbl, vbl, ty, vy]; done) | (simp only [tlS, tl, vl, vo, oc, ov, tbl, vbl, ty, vy]; rfl) | (simp; done) | (simp []; done) | (rw [List.take_of_length_le (by simp [])]; done) | (rw [List.take_of_length_le (by simp [])]; rfl) | (simp only [tlL]; omega) | (simp; omega)) ?_
    refine WP.loop (α := Nat × Int) (fun zz => ⟨[], [(5, vi zz.2), (4, vb false), (0, vi x0), (1, V.t (T.list (List.length x1) 2 (List.flatMap askedC x1)))], []⟩) (fun zz => F_spec_l2Answers_L1 x0 x1 J1 zz.1 zz.2 = some y0) (fun zz => zz.1) (fuel, (0 : Int)) h ?_
    rintro ⟨n, v5⟩ h0
    have h := (show F_spec_l2Answers_L1 x0 x1 J1 n v5 = some y0 from h0)
    rcases n with _ | n
    · rw [F_spec_l2Answers_L1] at h; cases h
    · rw [F_spec_l2Answers_L1] at h
      refine WP.seq ?_
      obtain ⟨J2, hJ2, h⟩ := jn_some h
      refine WP.joinA (fun (zz : Bool) => ⟨[], [(13, vb zz), (5, vi v5), (4, vb false), (0, vi x0), (1, V.t (T.list (List.length x1) 2 (List.flatMap askedC x1)))], []⟩) (fun zz => J2 zz = some y0) ?_ ?_
      · -- to where they meet
        rcases ite_some h with ⟨h1, h⟩ | ⟨h1, h⟩
        · -- yes
          refine WP.path tab_ok mixed [(9, An.b true)] [.keep [13, 5, 4, 0, 1], .keepO [], .names []] (ps := [(True), ((decide (v5 < ((List.length x1 : Nat) : Int))) = true), (True)]) (e := .normal) (σ' := ⟨[], [(13, vb (decide (v5 ≤ (20 : Int)))), (5, vi v5), (4, vb false), (0, vi x0), (1, V.t (T.list (List.length x1) 2 (List.flatMap askedC x1)))], []⟩) (by kernel_rfl) ⟨trivial, h1, trivial, trivial⟩ ?_
          exact ⟨(decide (v5 ≤ (20 : Int))), h, rfl⟩
        · -- no
          refine WP.path tab_ok mixed [(9, An.b false)] [.keep [13, 5, 4, 0, 1], .keepO [], .names []] (ps := [(True), ((decide (v5 < ((List.length x1 : Nat) : Int))) = false)]) (e := .normal) (σ' := ⟨[], [(13, vb false), (5, vi v5), (4, vb false), (0, vi x0), (1, V.t (T.list (List.length x1) 2 (List.flatMap askedC x1)))], []⟩) (by kernel_rfl) ⟨trivial, h1, trivial⟩ ?_
          exact ⟨(false), h, rfl⟩
      · -- from there
        intro v13 h0
        have h := (show J2 v13 = some y0 from h0)
        rw [hJ2] at h
        rcases ite_some h with ⟨h2, h⟩ | ⟨h2, h⟩
        · -- yes
          refine WP.cond (b := v13) rfl (fun _ => ?_) (fun hh => by rw [h2] at hh; cases hh)
          refine WP.path tab_ok mixed [] [.keep [5, 4, 0, 1], .keepO []] (ps := []) (e := .normal) (σ' := ⟨[], [(5, vi v5), (4, vb false), (0, vi x0), (1, V.t (T.list (List.length x1) 2 (List.flatMap askedC x1)))], []⟩) (by kernel_rfl) trivial ?_
          refine WP.seq ?_
          refine WP.block ?_
          refine WP.seq ?_
          obtain ⟨c0, h⟩ := chk_some h
          refine WP.path tab_ok mixed [(21, An.v (ti ((List.getD x1 (Int.toNat v5) (0, false)).1))), (22, An.call (tb (isQ x0 ((List.getD x1 (Int.toNat v5) (0, false)).1))))] [.keep [23, 5, 4, 0, 1], .keepO []] (ps := [((0 ≤ v5 ∧ v5 < ((List.length x1 : Nat) : Int))), ((List.drop ((Int.toNat v5) * 2) (List.flatMap askedC x1) : List T)[0]? = some (ti ((List.getD x1 (Int.toNat v5) (0, false)).1))), (ti ((List.getD x1 (Int.toNat v5) (0, false)).1) = ti ((List.getD x1 (Int.toNat v5) (0, false)).1)), (C Try.prog 176 [ti x0, ti ((List.getD x1 (Int.toNat v5) (0, false)).1)] (tb (isQ x0 ((List.getD x1 (Int.toNat v5) (0, false)).1))))]) (e := .normal) (σ' := ⟨[], [(23, vb (!(isQ x0 ((List.getD x1 (Int.toNat v5) (0, false)).1)))), (5, vi v5), (4, vb false), (0, vi x0), (1, V.t (T.list (List.length x1) 2 (List.flatMap askedC x1)))], []⟩) (by kernel_rfl) ⟨c0, fld0_asked (by simp) (by omega) rfl, rfl, (l2Asks_C x0 ((List.getD x1 (Int.toNat v5) (0, false)).1)), trivial⟩ ?_
          rcases ite_some h with ⟨h3, h⟩ | ⟨h3, h⟩
          · -- yes
            refine WP.cond (b := !(isQ x0 ((List.getD x1 (Int.toNat v5) (0, false)).1))) rfl (fun _ => ?_) (fun hh => by rw [h3] at hh; cases hh)
            have h := Option.some.inj h
            subst h
            exact WP.pathW tab_ok mixed [] _ (ps := []) (r := tb false) (by kernel_rfl) trivial (WkT.eq (y := tb false) (WkT.refl _) rfl) (fun _ h => h)
          · -- no
            refine WP.cond (b := !(isQ x0 ((List.getD x1 (Int.toNat v5) (0, false)).1))) rfl (fun hh => by rw [h3] at hh; cases hh) (fun _ => ?_)
            refine WP.path tab_ok mixed [] [.keep [5, 4, 0, 1], .keepO []] (ps := []) (e := .normal) (σ' := ⟨[], [(5, vi v5), (4, vb false), (0, vi x0), (1, V.t (T.list (List.length x1) 2 (List.flatMap askedC x1)))], []⟩) (by kernel_rfl) trivial ?_
            obtain ⟨c1, h⟩ := chk_some h
            refine WP.path tab_ok mixed [(15, An.v (T.int .i64 (v5 + (1 : Int))))] [.keep [5, 4, 0, 1], .keepO [], .names []] (ps := [(True), (T.int .i64 (IntKind.wrap .i64 (v5 + (1 : Int))) = T.int .i64 (v5 + (1 : Int)))]) (e := .normal) (σ' := ⟨[], [(5, vi (v5 + (1 : Int))), (4, vb false), (0, vi x0), (1, V.t (T.list (List.length x1) 2 (List.flatMap askedC x1)))], []⟩) (by kernel_rfl) ⟨trivial, wrapI c1, trivial⟩ ?_
            exact ⟨(n, (v5 + (1 : Int))), h, Nat.lt_succ_self _, rfl⟩
        · -- no
          refine WP.cond (b := v13) rfl (fun hh => by rw [h2] at hh; cases hh) (fun _ => ?_)
          refine WP.path tab_ok mixed [] [.keep [4, 0, 1], .keepO [], .names []] (ps := []) (e := (.exit 0)) (σ' := ⟨[], [(4, vb false), (0, vi x0), (1, V.t (T.list (List.length x1) 2 (List.flatMap askedC x1)))], []⟩) (by kernel_rfl) trivial ?_
          exact ⟨(), h, rfl⟩
  · -- from there
    intro _ h0
    have h := (show J1 () = some y0 from h0)
    rw [hJ1] at h
    rcases ite_some h with ⟨h4, h⟩ | ⟨h4, h⟩
    · -- yes
      have h := Option.some.inj h
      subst h
      exact WP.pathW tab_ok mixed [(25, An.call (tb true))] _ (ps := [(C Try.prog 167 [ti x0] (tb true)), (True)]) (r := tb (decide (((List.length x1 : Nat) : Int) ≤ (20 : Int)))) (by kernel_rfl) ⟨(C.toB h4 (l2Numbers_C x0)), trivial, trivial⟩ (WkT.eq (y := tb (decide (((List.length x1 : Nat) : Int) ≤ (20 : Int)))) (WkT.refl _) rfl) (fun _ h => h)
    · -- no
      have h := Option.some.inj h
      subst h
      exact WP.pathW tab_ok mixed [(25, An.call (tb false))] _ (ps := [(C Try.prog 167 [ti x0] (tb false))]) (r := tb false) (by kernel_rfl) ⟨(C.toB h4 (l2Numbers_C x0)), trivial⟩ (WkT.eq (y := tb false) (WkT.refl _) rfl) (fun _ h => h)
theorem F_spec_l7Good_W (x0 : Int) (x1 : Int) (y0 : Bool) (h : F_spec_l7Good x0 x1 = some y0) : C Try.prog 259 [T.agg [ti x0, ti x1]] (tb y0) := by
  unfold F_spec_l7Good at h
  refine C.intro (tab := tab) tab_ok (fn := Try.f259) Try.func259 (by kernel_rfl) rfl (Nat.le_of_ble_eq_true rfl) ?_
  rcases ite_some h with ⟨h1, h⟩ | ⟨h1, h⟩
  · -- yes
    have h := Option.some.inj h
    subst h
    exact WP.pathW tab_ok mixed [(1, An.fz), (5, An.call (tb true)), (11, An.call (tb (decide (x0 ≥ (0 : Int)) && decide (x0 ≤ x1))))] _ (ps := [(True), (C Try.prog 135 [ti x1, ti 1, ti 10] (tb true)), (True), (True), (C Try.prog 135 [ti x0, ti 0, ti x1] (tb (decide (x0 ≥ (0 : Int)) && decide (x0 ≤ x1))))]) (r := tb (decide (x0 ≥ (0 : Int)) && decide (x0 ≤ x1))) (by kernel_rfl) ⟨trivial, (C.toB h1 (by have hh := (l1In_C x1 (1 : Int) (10 : Int)); simpa using hh)), trivial, trivial, (by have hh := (l1In_C x0 (0 : Int) x1); simpa using hh), trivial⟩ (WkT.eq (y := tb (decide (x0 ≥ (0 : Int)) && decide (x0 ≤ x1))) (WkT.refl _) rfl) (fun _ h => h)
  · -- no
    have h := Option.some.inj h
    subst h
    exact WP.pathW tab_ok mixed [(1, An.fz), (5, An.call (tb false))] _ (ps := [(True), (C Try.prog 135 [ti x1, ti 1, ti 10] (tb false))]) (r := tb false) (by kernel_rfl) ⟨trivial, (C.toB h1 (by have hh := (l1In_C x1 (1 : Int) (10 : Int)); simpa using hh)), trivial⟩ (WkT.eq (y := tb false) (WkT.refl _) rfl) (fun _ h => h)
theorem F_spec_l7Answers_W (x0 : Int) (x1 : List (Int × Bool)) (x2 : Int) (x3 : Int) (y0 : Bool) (h : F_spec_l7Answers x0 x1 x2 x3 = some y0) : C Try.prog 226 [ti x0, T.list (List.length x1) 2 (List.flatMap askedC x1), T.agg [ti x2, ti x3]] (tb y0) := by
  unfold F_spec_l7Answers at h
  refine C.intro (tab := tab) tab_ok (fn := Try.f226) Try.func226 (by kernel_rfl) rfl (Nat.le_of_ble_eq_true rfl) ?_
  obtain ⟨r9, c0, h⟩ := bnd1_some h
  rcases ite_some h with ⟨h1, h⟩ | ⟨h1, h⟩
  · -- yes
    rcases ite_some h with ⟨h2, h⟩ | ⟨h2, h⟩
    · -- yes
      obtain ⟨r17, c1, h⟩ := bnd1_some h
      have h := Option.some.inj h
      subst h
      exact WP.pathW tab_ok mixed [(5, An.fz), (9, An.call (tb r9)), (10, An.b true), (13, An.b true), (17, An.call (tb r17))] _ (ps := [(C Try.prog 199 [ti x0, T.list (List.length x1) 2 (List.flatMap askedC x1)] (tb r9)), ((r9) = true), (True), ((decide (((List.length x1 : Nat) : Int) ≤ (12 : Int))) = true), (2 ≤ 2), (C Try.prog 259 [T.agg [ti x2, ti x3]] (tb r17))]) (r := tb r17) (by kernel_rfl) ⟨(F_spec_l2Answers_W x0 x1 r9 c0), h1, trivial, h2, by decide, (F_spec_l7Good_W x2 x3 r17 c1), trivial⟩ (WkT.eq (y := tb r17) (WkT.refl _) rfl) (fun _ h => h)
    · -- no
      have h := Option.some.inj h
      subst h
      exact WP.pathW tab_ok mixed [(5, An.fz), (9, An.call (tb r9)), (10, An.b true), (13, An.b false)] _ (ps := [(C Try.prog 199 [ti x0, T.list (List.length x1) 2 (List.flatMap askedC x1)] (tb r9)), ((r9) = true), (True), ((decide (((List.length x1 : Nat) : Int) ≤ (12 : Int))) = false)]) (r := tb false) (by kernel_rfl) ⟨(F_spec_l2Answers_W x0 x1 r9 c0), h1, trivial, h2, trivial⟩ (WkT.eq (y := tb false) (WkT.refl _) rfl) (fun _ h => h)
  · -- no
    have h := Option.some.inj h
    subst h
    exact WP.pathW tab_ok mixed [(5, An.fz), (9, An.call (tb r9)), (10, An.b false)] _ (ps := [(C Try.prog 199 [ti x0, T.list (List.length x1) 2 (List.flatMap askedC x1)] (tb r9)), ((r9) = false)]) (r := tb false) (by kernel_rfl) ⟨(F_spec_l2Answers_W x0 x1 r9 c0), h1, trivial⟩ (WkT.eq (y := tb false) (WkT.refl _) rfl) (fun _ h => h)
theorem F_spec_l7Power_W (x0 : Int) (x1 : Int) (y0 : Int) (h : F_spec_l7Power x0 x1 = some y0) : C Try.prog 271 [ti x0, ti x1] (ti y0) := by
  unfold F_spec_l7Power at h
  refine C.intro (tab := tab) tab_ok (fn := Try.f271) Try.func271 (by kernel_rfl) rfl (Nat.le_of_ble_eq_true rfl) ?_
  refine WP.seq ?_
  refine WP.path tab_ok mixed [] [.keep [4, 0, 1], .keepO []] (ps := []) (e := .normal) (σ' := ⟨[], [(4, vi 0), (0, vi x0), (1, vi x1)], []⟩) (by kernel_rfl) trivial ?_
  refine WP.seq ?_
  refine WP.path tab_ok mixed [] [.keep [5, 4, 0, 1], .keepO []] (ps := []) (e := .normal) (σ' := ⟨[], [(5, vi 1), (4, vi 0), (0, vi x0), (1, vi x1)], []⟩) (by kernel_rfl) trivial ?_
  obtain ⟨J1, hJ1, h⟩ := jn_some h
  refine WP.joinA (fun (zz : Int) => ⟨[], [(5, vi zz), (4, vi 0)], []⟩) (fun zz => J1 zz = some y0) ?_ ?_
  · -- to where they meet
    refine WP.seq ?_
    refine WP.path tab_ok mixed [] [.keep [6, 5, 4, 0, 1], .keepO []] (ps := []) (e := .normal) (σ' := ⟨[], [(6, vi 0), (5, vi 1), (4, vi 0), (0, vi x0), (1, vi x1)], []⟩) (by kernel_rfl) trivial ?_
    refine WP.block ?_
    refine WP.wk [.keep [6, 5, 4, 0, 1], .keepO [], .names []] (σ' := ⟨[], [(6, vi 0), (5, vi 1), (4, vi 0), (0, vi x0), (1, vi x1)], []⟩) (ps := []) (by kernel_rfl) trivial ?_
    refine WP.st (σ' := ⟨[], [(6, vi (0 : Int)), (5, vi (1 : Int)), (4, vi 0), (0, vi x0), (1, vi x1)], []⟩) (by first | rfl | (simp only [tlS, tl, vl, vo, oc, ov, tbl, vbl, ty, vy]; done) | (simp only [tlS, tl, vl, vo, oc, ov, tbl, vbl, ty, vy]; rfl) | (simp; done) | (simp []; done) | (rw [List.take_of_length_le (by simp [])]; done) | (rw [List.take_of_length_le (by simp [])]; rfl) | (simp only [tlL]; omega) | (simp; omega)) ?_
    refine WP.loop (α := Nat × Int × Int) (fun zz => ⟨[], [(6, vi zz.2.1), (5, vi zz.2.2), (4, vi 0), (0, vi x0), (1, vi x1)], []⟩) (fun zz => F_spec_l7Power_L1 x0 x1 J1 zz.1 zz.2.1 zz.2.2 = some y0) (fun zz => zz.1) (fuel, (0 : Int), (1 : Int)) h ?_
    rintro ⟨n, v6, v5⟩ h0
    have h := (show F_spec_l7Power_L1 x0 x1 J1 n v6 v5 = some y0 from h0)
    rcases n with _ | n
    · rw [F_spec_l7Power_L1] at h; cases h
    · rw [F_spec_l7Power_L1] at h
      refine WP.seq ?_
      refine WP.seq ?_
      refine WP.path tab_ok mixed [] [.keep [9, 6, 5, 4, 0, 1], .keepO []] (ps := [(True)]) (e := .normal) (σ' := ⟨[], [(9, vb (decide (v6 < x1))), (6, vi v6), (5, vi v5), (4, vi 0), (0, vi x0), (1, vi x1)], []⟩) (by kernel_rfl) ⟨trivial, trivial⟩ ?_
      rcases ite_some h with ⟨h1, h⟩ | ⟨h1, h⟩
      · -- yes
        refine WP.cond (b := decide (v6 < x1)) rfl (fun _ => ?_) (fun hh => by rw [h1] at hh; cases hh)
        refine WP.path tab_ok mixed [] [.keep [6, 5, 4, 0, 1], .keepO []] (ps := []) (e := .normal) (σ' := ⟨[], [(6, vi v6), (5, vi v5), (4, vi 0), (0, vi x0), (1, vi x1)], []⟩) (by kernel_rfl) trivial ?_
        refine WP.seq ?_
        refine WP.block ?_
        obtain ⟨c0, h⟩ := chk_some h
        refine WP.path tab_ok mixed [(14, An.v (T.int .i64 (v5 * x0)))] [.keep [5, 6, 4, 0, 1], .keepO []] (ps := [(True), (T.int .i64 (IntKind.wrap .i64 (v5 * x0)) = T.int .i64 (v5 * x0))]) (e := .normal) (σ' := ⟨[], [(5, vi (v5 * x0)), (6, vi v6), (4, vi 0), (0, vi x0), (1, vi x1)], []⟩) (by kernel_rfl) ⟨trivial, wrapI c0, trivial⟩ ?_
        obtain ⟨c1, h⟩ := chk_some h
        refine WP.path tab_ok mixed [(11, An.v (T.int .i64 (v6 + (1 : Int))))] [.keep [6, 5, 4, 0, 1], .keepO [], .names []] (ps := [(True), (T.int .i64 (IntKind.wrap .i64 (v6 + (1 : Int))) = T.int .i64 (v6 + (1 : Int)))]) (e := .normal) (σ' := ⟨[], [(6, vi (v6 + (1 : Int))), (5, vi (v5 * x0)), (4, vi 0), (0, vi x0), (1, vi x1)], []⟩) (by kernel_rfl) ⟨trivial, wrapI c1, trivial⟩ ?_
        exact ⟨(n, (v6 + (1 : Int)), (v5 * x0)), h, Nat.lt_succ_self _, rfl⟩
      · -- no
        refine WP.cond (b := decide (v6 < x1)) rfl (fun hh => by rw [h1] at hh; cases hh) (fun _ => ?_)
        refine WP.path tab_ok mixed [] [.keep [5, 4], .keepO [], .names []] (ps := []) (e := (.exit 0)) (σ' := ⟨[], [(5, vi v5), (4, vi 0)], []⟩) (by kernel_rfl) trivial ?_
        exact ⟨(v5), h, rfl⟩
  · -- from there
    intro v5 h0
    have h := (show J1 v5 = some y0 from h0)
    rw [hJ1] at h
    have h := Option.some.inj h
    subst h
    exact WP.pathW tab_ok mixed [] _ (ps := []) (r := ti v5) (by kernel_rfl) trivial (WkT.eq (y := ti v5) (WkT.refl _) rfl) (fun _ h => h)
theorem F_spec_l7Parts_W (x0 : Int) (x1 : Int) (x2 : Int) (x3 : Int) (y0 : Int) (h : F_spec_l7Parts x0 x1 x2 x3 = some y0) : C Try.prog 260 [ti x0, ti x1, T.agg [ti x2, ti x3]] (ti y0) := by
  unfold F_spec_l7Parts at h
  refine C.intro (tab := tab) tab_ok (fn := Try.f260) Try.func260 (by kernel_rfl) rfl (Nat.le_of_ble_eq_true rfl) ?_
  obtain ⟨r10, c0, h⟩ := bnd1_some h
  obtain ⟨c1, h⟩ := chk_some h
  obtain ⟨c2, h⟩ := chk_some h
  obtain ⟨r19, c3, h⟩ := bnd1_some h
  obtain ⟨c4, h⟩ := chk_some h
  have h := Option.some.inj h
  subst h
  exact WP.pathW tab_ok mixed [(5, An.fz), (10, An.call (ti r10)), (15, An.v (T.int .i64 (x3 - x2))), (18, An.v (T.int .i64 (x0 - x1))), (19, An.call (ti r19)), (20, An.v (T.int .i64 (r10 * r19)))] _ (ps := [(True), (C Try.prog 271 [ti x2, ti x1] (ti r10)), (True), (True), (True), (T.int .i64 (IntKind.wrap .i64 (x3 - x2)) = T.int .i64 (x3 - x2)), (True), (T.int .i64 (IntKind.wrap .i64 (x0 - x1)) = T.int .i64 (x0 - x1)), (C Try.prog 271 [ti (x3 - x2), ti (x0 - x1)] (ti r19)), (True), (T.int .i64 (IntKind.wrap .i64 (r10 * r19)) = T.int .i64 (r10 * r19))]) (r := ti (r10 * r19)) (by kernel_rfl) ⟨trivial, (F_spec_l7Power_W x2 x1 r10 c0), trivial, trivial, trivial, wrapI c1, trivial, wrapI c2, (F_spec_l7Power_W (x3 - x2) (x0 - x1) r19 c3), trivial, wrapI c4, trivial⟩ (WkT.eq (y := ti (r10 * r19)) (WkT.refl _) rfl) (fun _ h => h)
theorem F_spec_l2Many_W (x0 : List (Int × Bool)) (x1 : Int) (y0 : Int) (h : F_spec_l2Many x0 x1 = some y0) : C Try.prog 261 [T.list (List.length x0) 2 (List.flatMap askedC x0), ti x1] (ti y0) := by
  unfold F_spec_l2Many at h
  refine C.intro (tab := tab) tab_ok (fn := Try.f261) Try.func261 (by kernel_rfl) rfl (Nat.le_of_ble_eq_true rfl) ?_
  refine WP.seq ?_
  refine WP.path tab_ok mixed [] [.keep [4, 0, 1], .keepO []] (ps := []) (e := .normal) (σ' := ⟨[], [(4, vi 0), (0, V.t (T.list (List.length x0) 2 (List.flatMap askedC x0))), (1, vi x1)], []⟩) (by kernel_rfl) trivial ?_
  refine WP.seq ?_
  refine WP.path tab_ok mixed [] [.keep [5, 4, 0, 1], .keepO []] (ps := []) (e := .normal) (σ' := ⟨[], [(5, vi 0), (4, vi 0), (0, V.t (T.list (List.length x0) 2 (List.flatMap askedC x0))), (1, vi x1)], []⟩) (by kernel_rfl) trivial ?_
  obtain ⟨J1, hJ1, h⟩ := jn_some h
  refine WP.joinA (fun (zz : Int) => ⟨[], [(5, vi zz), (4, vi 0)], []⟩) (fun zz => J1 zz = some y0) ?_ ?_
  · -- to where they meet
    refine WP.seq ?_
    refine WP.path tab_ok mixed [] [.keep [6, 5, 4, 0, 1], .keepO []] (ps := []) (e := .normal) (σ' := ⟨[], [(6, vi 0), (5, vi 0), (4, vi 0), (0, V.t (T.list (List.length x0) 2 (List.flatMap askedC x0))), (1, vi x1)], []⟩) (by kernel_rfl) trivial ?_
    refine WP.block ?_
    refine WP.wk [.keep [6, 5, 4, 0, 1], .keepO [], .names []] (σ' := ⟨[], [(6, vi 0), (5, vi 0), (4, vi 0), (0, V.t (T.list (List.length x0) 2 (List.flatMap askedC x0))), (1, vi x1)], []⟩) (ps := []) (by kernel_rfl) trivial ?_
    refine WP.st (σ' := ⟨[], [(6, vi (0 : Int)), (5, vi (0 : Int)), (4, vi 0), (0, V.t (T.list (List.length x0) 2 (List.flatMap askedC x0))), (1, vi x1)], []⟩) (by first | rfl | (simp only [tlS, tl, vl, vo, oc, ov, tbl, vbl, ty, vy]; done) | (simp only [tlS, tl, vl, vo, oc, ov, tbl, vbl, ty, vy]; rfl) | (simp; done) | (simp []; done) | (rw [List.take_of_length_le (by simp [])]; done) | (rw [List.take_of_length_le (by simp [])]; rfl) | (simp only [tlL]; omega) | (simp; omega)) ?_
    refine WP.loop (α := Nat × Int × Int) (fun zz => ⟨[], [(6, vi zz.2.1), (5, vi zz.2.2), (4, vi 0), (0, V.t (T.list (List.length x0) 2 (List.flatMap askedC x0))), (1, vi x1)], []⟩) (fun zz => F_spec_l2Many_L1 x0 x1 J1 zz.1 zz.2.1 zz.2.2 = some y0) (fun zz => zz.1) (fuel, (0 : Int), (0 : Int)) h ?_
    rintro ⟨n, v6, v5⟩ h0
    have h := (show F_spec_l2Many_L1 x0 x1 J1 n v6 v5 = some y0 from h0)
    rcases n with _ | n
    · rw [F_spec_l2Many_L1] at h; cases h
    · rw [F_spec_l2Many_L1] at h
      refine WP.seq ?_
      refine WP.seq ?_
      refine WP.path tab_ok mixed [] [.keep [10, 6, 5, 4, 0, 1], .keepO []] (ps := [(True)]) (e := .normal) (σ' := ⟨[], [(10, vb (decide (v6 < ((List.length x0 : Nat) : Int)))), (6, vi v6), (5, vi v5), (4, vi 0), (0, V.t (T.list (List.length x0) 2 (List.flatMap askedC x0))), (1, vi x1)], []⟩) (by kernel_rfl) ⟨trivial, trivial⟩ ?_
      rcases ite_some h with ⟨h1, h⟩ | ⟨h1, h⟩
      · -- yes
        refine WP.cond (b := decide (v6 < ((List.length x0 : Nat) : Int))) rfl (fun _ => ?_) (fun hh => by rw [h1] at hh; cases hh)
        refine WP.path tab_ok mixed [] [.keep [6, 5, 4, 0, 1], .keepO []] (ps := []) (e := .normal) (σ' := ⟨[], [(6, vi v6), (5, vi v5), (4, vi 0), (0, V.t (T.list (List.length x0) 2 (List.flatMap askedC x0))), (1, vi x1)], []⟩) (by kernel_rfl) trivial ?_
        refine WP.seq ?_
        refine WP.block ?_
        refine WP.seq ?_
        obtain ⟨c0, h⟩ := chk_some h
        obtain ⟨c1, h⟩ := chk_some h
        refine WP.path tab_ok mixed [(17, An.v (ti ((List.getD x0 (Int.toNat v6) (0, false)).1))), (22, An.v (tb ((List.getD x0 (Int.toNat v6) (0, false)).2))), (24, An.call (tb (falseB ((List.getD x0 (Int.toNat v6) (0, false)).1) ((List.getD x0 (Int.toNat v6) (0, false)).2) x1)))] [.keep [24, 6, 5, 4, 0, 1], .keepO []] (ps := [((0 ≤ v6 ∧ v6 < ((List.length x0 : Nat) : Int))), ((List.drop ((Int.toNat v6) * 2) (List.flatMap askedC x0) : List T)[0]? = some (ti ((List.getD x0 (Int.toNat v6) (0, false)).1))), (ti ((List.getD x0 (Int.toNat v6) (0, false)).1) = ti ((List.getD x0 (Int.toNat v6) (0, false)).1)), ((0 ≤ v6 ∧ v6 < ((List.length x0 : Nat) : Int))), ((List.drop 1 (List.drop ((Int.toNat v6) * 2) (List.flatMap askedC x0)) : List T)[0]? = some (tb ((List.getD x0 (Int.toNat v6) (0, false)).2))), (tb ((List.getD x0 (Int.toNat v6) (0, false)).2) = tb ((List.getD x0 (Int.toNat v6) (0, false)).2)), (C Try.prog 264 [ti ((List.getD x0 (Int.toNat v6) (0, false)).1), tb ((List.getD x0 (Int.toNat v6) (0, false)).2), ti x1] (tb (falseB ((List.getD x0 (Int.toNat v6) (0, false)).1) ((List.getD x0 (Int.toNat v6) (0, false)).2) x1)))]) (e := .normal) (σ' := ⟨[], [(24, vb (falseB ((List.getD x0 (Int.toNat v6) (0, false)).1) ((List.getD x0 (Int.toNat v6) (0, false)).2) x1)), (6, vi v6), (5, vi v5), (4, vi 0), (0, V.t (T.list (List.length x0) 2 (List.flatMap askedC x0))), (1, vi x1)], []⟩) (by kernel_rfl) ⟨c0, fld0_asked (by simp) (by omega) rfl, rfl, c0, fld_asked (by simp) (by omega) rfl, rfl, (l2False_C ((List.getD x0 (Int.toNat v6) (0, false)).1) ((List.getD x0 (Int.toNat v6) (0, false)).2) x1 c1), trivial⟩ ?_
        rcases ite_some h with ⟨h2, h⟩ | ⟨h2, h⟩
        · -- yes
          refine WP.cond (b := falseB ((List.getD x0 (Int.toNat v6) (0, false)).1) ((List.getD x0 (Int.toNat v6) (0, false)).2) x1) rfl (fun _ => ?_) (fun hh => by rw [h2] at hh; cases hh)
          obtain ⟨c2, h⟩ := chk_some h
          refine WP.path tab_ok mixed [(26, An.v (T.int .i64 (v5 + (1 : Int))))] [.keep [5, 6, 4, 0, 1], .keepO []] (ps := [(True), (T.int .i64 (IntKind.wrap .i64 (v5 + (1 : Int))) = T.int .i64 (v5 + (1 : Int)))]) (e := .normal) (σ' := ⟨[], [(5, vi (v5 + (1 : Int))), (6, vi v6), (4, vi 0), (0, V.t (T.list (List.length x0) 2 (List.flatMap askedC x0))), (1, vi x1)], []⟩) (by kernel_rfl) ⟨trivial, wrapI c2, trivial⟩ ?_
          obtain ⟨c3, h⟩ := chk_some h
          refine WP.path tab_ok mixed [(12, An.v (T.int .i64 (v6 + (1 : Int))))] [.keep [6, 5, 4, 0, 1], .keepO [], .names []] (ps := [(True), (T.int .i64 (IntKind.wrap .i64 (v6 + (1 : Int))) = T.int .i64 (v6 + (1 : Int)))]) (e := .normal) (σ' := ⟨[], [(6, vi (v6 + (1 : Int))), (5, vi (v5 + (1 : Int))), (4, vi 0), (0, V.t (T.list (List.length x0) 2 (List.flatMap askedC x0))), (1, vi x1)], []⟩) (by kernel_rfl) ⟨trivial, wrapI c3, trivial⟩ ?_
          exact ⟨(n, (v6 + (1 : Int)), (v5 + (1 : Int))), h, Nat.lt_succ_self _, rfl⟩
        · -- no
          refine WP.cond (b := falseB ((List.getD x0 (Int.toNat v6) (0, false)).1) ((List.getD x0 (Int.toNat v6) (0, false)).2) x1) rfl (fun hh => by rw [h2] at hh; cases hh) (fun _ => ?_)
          refine WP.path tab_ok mixed [] [.keep [6, 5, 4, 0, 1], .keepO []] (ps := []) (e := .normal) (σ' := ⟨[], [(6, vi v6), (5, vi v5), (4, vi 0), (0, V.t (T.list (List.length x0) 2 (List.flatMap askedC x0))), (1, vi x1)], []⟩) (by kernel_rfl) trivial ?_
          obtain ⟨c2, h⟩ := chk_some h
          refine WP.path tab_ok mixed [(12, An.v (T.int .i64 (v6 + (1 : Int))))] [.keep [6, 5, 4, 0, 1], .keepO [], .names []] (ps := [(True), (T.int .i64 (IntKind.wrap .i64 (v6 + (1 : Int))) = T.int .i64 (v6 + (1 : Int)))]) (e := .normal) (σ' := ⟨[], [(6, vi (v6 + (1 : Int))), (5, vi v5), (4, vi 0), (0, V.t (T.list (List.length x0) 2 (List.flatMap askedC x0))), (1, vi x1)], []⟩) (by kernel_rfl) ⟨trivial, wrapI c2, trivial⟩ ?_
          exact ⟨(n, (v6 + (1 : Int)), v5), h, Nat.lt_succ_self _, rfl⟩
      · -- no
        refine WP.cond (b := decide (v6 < ((List.length x0 : Nat) : Int))) rfl (fun hh => by rw [h1] at hh; cases hh) (fun _ => ?_)
        refine WP.path tab_ok mixed [] [.keep [5, 4], .keepO [], .names []] (ps := []) (e := (.exit 0)) (σ' := ⟨[], [(5, vi v5), (4, vi 0)], []⟩) (by kernel_rfl) trivial ?_
        exact ⟨(v5), h, rfl⟩
  · -- from there
    intro v5 h0
    have h := (show J1 v5 = some y0 from h0)
    rw [hJ1] at h
    have h := Option.some.inj h
    subst h
    exact WP.pathW tab_ok mixed [] _ (ps := []) (r := ti v5) (by kernel_rfl) trivial (WkT.eq (y := ti v5) (WkT.refl _) rfl) (fun _ h => h)
theorem F_spec_l7After_W (x0 : Int) (x1 : List (Int × Bool)) (x2 : Int) (x3 : Int) (y0 : List Int) (y1 : Int) (h : F_spec_l7After x0 x1 x2 x3 = some (y0, y1)) : CG Try.prog 227 [vi x0, V.t (T.list (List.length x1) 2 (List.flatMap askedC x1)), V.t (T.agg [ti x2, ti x3])] [] (V.tup [vo 9000 (List.length y0), vi y1]) [(9000, oc 3 (List.map (T.int .i64) y0))] := by
  unfold F_spec_l7After at h
  refine CG.intro (tab := tab) tab_ok (fn := Try.f227) Try.func227 (by kernel_rfl) rfl (Nat.le_of_ble_eq_true rfl) (by kernel_rfl) ?_
  refine WP.seq ?_
  refine WP.path tab_ok mixed [(5, An.fz)] [.keep [7, 6, 5, 0, 1], .keepO []] (ps := []) (e := .normal) (σ' := ⟨[], [(7, vi 0), (6, V.t (T.nils)), (5, V.t (T.ptr [ti x2, ti x3])), (0, vi x0), (1, V.t (T.list (List.length x1) 2 (List.flatMap askedC x1)))], []⟩) (by kernel_rfl) trivial ?_
  refine WP.seq ?_
  refine WP.path tab_ok mixed [(12, An.id 2012)] [.keep [9, 8, 7, 6, 5, 0, 1], .keepO [2012]] (ps := [(True), (0 = 0 * 1)]) (e := .normal) (σ' := ⟨[2012], [(9, vi 0), (8, vo 2012 0), (7, vi 0), (6, V.t (T.nils)), (5, V.t (T.ptr [ti x2, ti x3])), (0, vi x0), (1, V.t (T.list (List.length x1) 2 (List.flatMap askedC x1)))], [(2012, oc 3 [])]⟩) (by kernel_rfl) ⟨trivial, by decide, trivial⟩ ?_
  obtain ⟨J1, hJ1, h⟩ := jn_some h
  refine WP.joinA (fun (zz : (List Int) × Int) => ⟨[2012], [(9, vi zz.2), (8, vo 2012 (List.length zz.1)), (7, vi 0), (6, V.t (T.nils))], [(2012, oc 3 (List.map (T.int .i64) zz.1))]⟩) (fun zz => J1 zz.1 zz.2 = some (y0, y1)) ?_ ?_
  · -- to where they meet
    refine WP.seq ?_
    refine WP.path tab_ok mixed [] [.keep [10, 9, 8, 7, 6, 5, 0, 1], .keepO [2012]] (ps := []) (e := .normal) (σ' := ⟨[2012], [(10, vi 0), (9, vi 0), (8, vo 2012 0), (7, vi 0), (6, V.t (T.nils)), (5, V.t (T.ptr [ti x2, ti x3])), (0, vi x0), (1, V.t (T.list (List.length x1) 2 (List.flatMap askedC x1)))], [(2012, oc 3 [])]⟩) (by kernel_rfl) trivial ?_
    refine WP.block ?_
    refine WP.wk [.keep [10, 9, 8, 7, 6, 5, 0, 1], .keepO [2012], .names [(2012, 2012)]] (σ' := ⟨[2012], [(10, vi 0), (9, vi 0), (8, vo 2012 0), (7, vi 0), (6, V.t (T.nils)), (5, V.t (T.ptr [ti x2, ti x3])), (0, vi x0), (1, V.t (T.list (List.length x1) 2 (List.flatMap askedC x1)))], [(2012, oc 3 [])]⟩) (ps := []) (by kernel_rfl) trivial ?_
    refine WP.st (σ' := ⟨[2012], [(10, vi (0 : Int)), (9, vi (0 : Int)), (8, vo 2012 (List.length ([] : List Int))), (7, vi 0), (6, V.t (T.nils)), (5, V.t (T.ptr [ti x2, ti x3])), (0, vi x0), (1, V.t (T.list (List.length x1) 2 (List.flatMap askedC x1)))], [(2012, oc 3 (List.map (T.int .i64) ([] : List Int)))]⟩) (by first | rfl | (simp only [tlS, tl, vl, vo, oc, ov, tbl, vbl, ty, vy]; done) | (simp only [tlS, tl, vl, vo, oc, ov, tbl, vbl, ty, vy]; rfl) | (simp; done) | (simp []; done) | (rw [List.take_of_length_le (by simp [])]; done) | (rw [List.take_of_length_le (by simp [])]; rfl) | (simp only [tlL]; omega) | (simp; omega)) ?_
    refine WP.loop (α := Nat × (List Int) × Int × Int) (fun zz => ⟨[2012], [(10, vi zz.2.2.1), (9, vi zz.2.2.2), (8, vo 2012 (List.length zz.2.1)), (7, vi 0), (6, V.t (T.nils)), (5, V.t (T.ptr [ti x2, ti x3])), (0, vi x0), (1, V.t (T.list (List.length x1) 2 (List.flatMap askedC x1)))], [(2012, oc 3 (List.map (T.int .i64) zz.2.1))]⟩) (fun zz => F_spec_l7After_L1 x0 x1 x2 x3 J1 zz.1 zz.2.1 zz.2.2.1 zz.2.2.2 = some (y0, y1)) (fun zz => zz.1) (fuel, ([] : List Int), (0 : Int), (0 : Int)) h ?_
    rintro ⟨n, o12, v10, v9⟩ h0
    have h := (show F_spec_l7After_L1 x0 x1 x2 x3 J1 n o12 v10 v9 = some (y0, y1) from h0)
    rcases n with _ | n
    · rw [F_spec_l7After_L1] at h; cases h
    · rw [F_spec_l7After_L1] at h
      refine WP.seq ?_
      refine WP.seq ?_
      refine WP.path tab_ok mixed [] [.keep [15, 10, 9, 8, 7, 6, 5, 0, 1], .keepO [2012]] (ps := [(True)]) (e := .normal) (σ' := ⟨[2012], [(15, vb (decide (v10 < x0))), (10, vi v10), (9, vi v9), (8, vo 2012 (List.length o12)), (7, vi 0), (6, V.t (T.nils)), (5, V.t (T.ptr [ti x2, ti x3])), (0, vi x0), (1, V.t (T.list (List.length x1) 2 (List.flatMap askedC x1)))], [(2012, oc 3 (List.map (T.int .i64) o12))]⟩) (by kernel_rfl) ⟨trivial, trivial⟩ ?_
      rcases ite_some h with ⟨h1, h⟩ | ⟨h1, h⟩
      · -- yes
        refine WP.cond (b := decide (v10 < x0)) rfl (fun _ => ?_) (fun hh => by rw [h1] at hh; cases hh)
        refine WP.path tab_ok mixed [] [.keep [10, 9, 8, 7, 6, 5, 0, 1], .keepO [2012]] (ps := []) (e := .normal) (σ' := ⟨[2012], [(10, vi v10), (9, vi v9), (8, vo 2012 (List.length o12)), (7, vi 0), (6, V.t (T.nils)), (5, V.t (T.ptr [ti x2, ti x3])), (0, vi x0), (1, V.t (T.list (List.length x1) 2 (List.flatMap askedC x1)))], [(2012, oc 3 (List.map (T.int .i64) o12))]⟩) (by kernel_rfl) trivial ?_
        refine WP.seq ?_
        refine WP.block ?_
        obtain ⟨r22, c0, h⟩ := bnd1_some h
        obtain ⟨r24, c1, h⟩ := bnd1_some h
        obtain ⟨c2, h⟩ := chk_some h
        obtain ⟨c3, h⟩ := chk_some h
        refine WP.path tab_ok mixed [(22, An.call (ti r22)), (24, An.call (ti r24)), (27, An.fz), (28, An.id 2028), (31, An.v (T.int .i64 (v9 + r24)))] [.keep [9, 8, 10, 7, 6, 5, 0, 1], .keepO [2028]] (ps := [(C Try.prog 261 [T.list (List.length x1) 2 (List.flatMap askedC x1), ti v10] (ti r22)), (2 ≤ 2), (C Try.prog 260 [ti ((List.length x1 : Nat) : Int), ti r22, T.agg [ti x2, ti x3]] (ti r24)), ((1 = 1 ∧ 0 + 1 ≤ 1) ∧ True), (1 = 1 * 1), (True), (List.length (List.map (T.int .i64) o12) = (List.length o12) * 1), ((((List.length o12) + 1) * 8 ≤ 140737488355328 ∧ (List.length o12) + 1 ≤ maxLen)), (True), (T.int .i64 (IntKind.wrap .i64 (v9 + r24)) = T.int .i64 (v9 + r24))]) (e := .normal) (σ' := ⟨[2028, 2012], [(9, vi (v9 + r24)), (8, vo 2028 ((List.length o12) + 1)), (10, vi v10), (7, vi 0), (6, V.t (T.nils)), (5, V.t (T.ptr [ti x2, ti x3])), (0, vi x0), (1, V.t (T.list (List.length x1) 2 (List.flatMap askedC x1)))], [(2028, oc 3 ((List.map (T.int .i64) o12) ++ [ti r24]))]⟩) (by kernel_rfl) ⟨(F_spec_l2Many_W x1 v10 r22 c0), by decide, (F_spec_l7Parts_W ((List.length x1 : Nat) : Int) r22 x2 x3 r24 c1), ⟨⟨by first | rfl | (simp; done) | (simp []; done) | omega, by first | decide | (simp; done) | (simp []; done) | omega | (simp only [tlL]; omega) | (simp; omega)⟩, trivial⟩, by decide, trivial, by first | rfl | (simp; done) | omega | (simp only [tlL]; omega) | (simp; omega) | (simp []; done) | (simp []; omega), c2, trivial, wrapI c3, trivial⟩ ?_
        obtain ⟨c4, h⟩ := chk_some h
        refine WP.path tab_ok mixed [(17, An.v (T.int .i64 (v10 + (1 : Int))))] [.keep [10, 9, 8, 7, 6, 5, 0, 1], .keepO [2028], .names [(2028, 2012)]] (ps := [(True), (T.int .i64 (IntKind.wrap .i64 (v10 + (1 : Int))) = T.int .i64 (v10 + (1 : Int)))]) (e := .normal) (σ' := ⟨[2012], [(10, vi (v10 + (1 : Int))), (9, vi (v9 + r24)), (8, vo 2012 ((List.length o12) + 1)), (7, vi 0), (6, V.t (T.nils)), (5, V.t (T.ptr [ti x2, ti x3])), (0, vi x0), (1, V.t (T.list (List.length x1) 2 (List.flatMap askedC x1)))], [(2012, oc 3 ((List.map (T.int .i64) o12) ++ [ti r24]))]⟩) (by kernel_rfl) ⟨trivial, wrapI c4, trivial⟩ ?_
        exact ⟨(n, o12 ++ [r24], (v10 + (1 : Int)), (v9 + r24)), h, Nat.lt_succ_self _, (by first | rfl | (simp only [tlS, tl, vl, vo, oc, ov, tbl, vbl, ty, vy]; done) | (simp only [tlS, tl, vl, vo, oc, ov, tbl, vbl, ty, vy]; rfl) | (simp; done) | (simp []; done) | (rw [List.take_of_length_le (by simp [])]; done) | (rw [List.take_of_length_le (by simp [])]; rfl) | (simp only [tlL]; omega) | (simp; omega))⟩
      · -- no
        refine WP.cond (b := decide (v10 < x0)) rfl (fun hh => by rw [h1] at hh; cases hh) (fun _ => ?_)
        refine WP.path tab_ok mixed [] [.keep [9, 8, 7, 6], .keepO [2012], .names [(2012, 2012)]] (ps := []) (e := (.exit 0)) (σ' := ⟨[2012], [(9, vi v9), (8, vo 2012 (List.length o12)), (7, vi 0), (6, V.t (T.nils))], [(2012, oc 3 (List.map (T.int .i64) o12))]⟩) (by kernel_rfl) trivial ?_
        exact ⟨(o12, v9), h, rfl⟩
  · -- from there
    rintro ⟨o12, v9⟩ h0
    have h := (show J1 o12 v9 = some (y0, y1) from h0)
    rw [hJ1] at h
    simp only [Option.some.injEq, Prod.mk.injEq] at h
    obtain ⟨rfl, rfl⟩ := h
    exact WP.pathG tab_ok mixed [] [.keep [6, 7], .keepO [2012], .names [(2012, 9000)]] [9000] _ (r' := V.tup [vo 9000 (List.length o12), vi v9]) (ps := []) (r := V.tup [vo 9000 (List.length o12), vi v9]) (N := [9000]) (O := [(9000, oc 3 (List.map (T.int .i64) o12))]) [] (by kernel_rfl) trivial ⟨rfl, (WkT.refl _), trivial⟩ rfl rfl (fun _ h => h)
theorem F_spec_l7After_W_C (x0 : Int) (x1 : List (Int × Bool)) (x2 : Int) (x3 : Int) (y0 : List Int) (y1 : Int) (h : F_spec_l7After x0 x1 x2 x3 = some (y0, y1)) : C Try.prog 227 [ti x0, T.list (List.length x1) 2 (List.flatMap askedC x1), T.agg [ti x2, ti x3]] (T.tup [tl y0, ti y1]) :=
  CG.toC (ps := [(List.length (List.map (T.int .i64) y0) = (List.length y0) * 1)]) (F_spec_l7After_W  x0 x1 x2 x3 y0 y1 h) (by rfl) ⟨by first | rfl | (simp; done) | omega | (simp; omega) | (simp [hl]; done) | (simp [hl]; omega), trivial⟩
theorem F_spec_ChancesAfter_W (x0 : Int) (x1 : List (Int × Bool)) (x2 : Int) (x3 : Int) (y0 : List (Int × Int)) (y1 : Bool) (h : F_spec_ChancesAfter x0 x1 x2 x3 = some (y0, y1)) : CG Try.prog 111 [vi x0, V.t (T.list (List.length x1) 2 (List.flatMap askedC x1)), V.t (T.agg [ti x2, ti x3])] [] (V.tup [V.own 9000 2 (List.length y0), vb y1]) [(9000, oc 49 (List.flatMap pairC y0))] := by
  unfold F_spec_ChancesAfter at h
  refine CG.intro (tab := tab) tab_ok (fn := Try.f111) Try.func111 (by kernel_rfl) rfl (Nat.le_of_ble_eq_true rfl) (by kernel_rfl) ?_
  refine WP.seq ?_
  refine WP.path tab_ok mixed [(5, An.fz)] [.keep [7, 6, 5, 0, 1], .keepO []] (ps := []) (e := .normal) (σ' := ⟨[], [(7, vb false), (6, V.t (T.nils)), (5, V.t (T.ptr [ti x2, ti x3])), (0, vi x0), (1, V.t (T.list (List.length x1) 2 (List.flatMap askedC x1)))], []⟩) (by kernel_rfl) trivial ?_
  refine WP.seq ?_
  refine WP.path tab_ok mixed [(12, An.id 2012)] [.keep [8, 7, 6, 5, 0, 1], .keepO [2012]] (ps := [(True), (0 = 0 * 2)]) (e := .normal) (σ' := ⟨[2012], [(8, V.own 2012 2 0), (7, vb false), (6, V.t (T.nils)), (5, V.t (T.ptr [ti x2, ti x3])), (0, vi x0), (1, V.t (T.list (List.length x1) 2 (List.flatMap askedC x1)))], [(2012, oc 49 [])]⟩) (by kernel_rfl) ⟨trivial, by decide, trivial⟩ ?_
  refine WP.seq ?_
  refine WP.seq ?_
  obtain ⟨r16, c0, h⟩ := bnd1_some h
  refine WP.path tab_ok mixed [(16, An.call (tb r16))] [.keep [17, 8, 7, 6, 5, 0, 1], .keepO [2012]] (ps := [(2 ≤ 2), (C Try.prog 226 [ti x0, T.list (List.length x1) 2 (List.flatMap askedC x1), T.agg [ti x2, ti x3]] (tb r16))]) (e := .normal) (σ' := ⟨[2012], [(17, vb !r16), (8, V.own 2012 2 0), (7, vb false), (6, V.t (T.nils)), (5, V.t (T.ptr [ti x2, ti x3])), (0, vi x0), (1, V.t (T.list (List.length x1) 2 (List.flatMap askedC x1)))], [(2012, oc 49 [])]⟩) (by kernel_rfl) ⟨by decide, (F_spec_l7Answers_W x0 x1 x2 x3 r16 c0), trivial⟩ ?_
  rcases ite_some h with ⟨h1, h⟩ | ⟨h1, h⟩
  · -- yes
    refine WP.cond (b := !r16) rfl (fun _ => ?_) (fun hh => by rw [h1] at hh; cases hh)
    simp only [Option.some.injEq, Prod.mk.injEq] at h
    obtain ⟨rfl, rfl⟩ := h
    exact WP.pathG tab_ok mixed [] [.keep [6, 7], .keepO [2012], .names [(2012, 9000)]] [9000] _ (r' := V.tup [V.own 9000 2 (List.length []), vb false]) (ps := []) (r := V.tup [V.own 9000 2 0, vb false]) (N := [9000]) (O := [(9000, oc 49 [])]) [] (by kernel_rfl) trivial ⟨(congrArg (V.own 9000 2) (by first | rfl | (simp only [tlS, tl, vl, vo, oc, ov, tbl, vbl, ty, vy]; done) | (simp only [tlS, tl, vl, vo, oc, ov, tbl, vbl, ty, vy]; rfl) | (simp; done) | (simp []; done) | (rw [List.take_of_length_le (by simp [])]; done) | (rw [List.take_of_length_le (by simp [])]; rfl) | (simp only [tlL]; omega) | (simp only [tlL]; omega) | (simp; omega))), (WkT.refl _), trivial⟩ rfl (by first | rfl | (simp only [tlS, tl, vl, vo, oc, ov, tbl, vbl, ty, vy]; done) | (simp only [tlS, tl, vl, vo, oc, ov, tbl, vbl, ty, vy]; rfl) | (simp; done) | (simp []; done) | (rw [List.take_of_length_le (by simp [])]; done) | (rw [List.take_of_length_le (by simp [])]; rfl) | (simp only [tlL]; omega) | (simp; omega)) (fun _ h => h)
  · -- no
    refine WP.cond (b := !r16) rfl (fun hh => by rw [h1] at hh; cases hh) (fun _ => ?_)
    refine WP.path tab_ok mixed [] [.keep [8, 7, 6, 5, 0, 1], .keepO [2012]] (ps := []) (e := .normal) (σ' := ⟨[2012], [(8, V.own 2012 2 0), (7, vb false), (6, V.t (T.nils)), (5, V.t (T.ptr [ti x2, ti x3])), (0, vi x0), (1, V.t (T.list (List.length x1) 2 (List.flatMap askedC x1)))], [(2012, oc 49 [])]⟩) (by kernel_rfl) trivial ?_
    refine WP.seq ?_
    obtain ⟨r23, r23b, c1, h⟩ := bnd2_some h
    refine WP.path tab_ok mixed [(23, An.callG [(9000, 10230)] [vi x0, V.t (T.list (List.length x1) 2 (List.flatMap askedC x1)), V.t (T.agg [ti x2, ti x3])] [] (V.tup [vo 9000 (List.length r23), vi r23b]) [(9000, oc 3 (List.map (T.int .i64) r23))])] [.keep [10, 9, 8, 7, 6, 0], .keepO [2012, 10230]] (ps := [(2 ≤ 2), (CG Try.prog 227 [vi x0, V.t (T.list (List.length x1) 2 (List.flatMap askedC x1)), V.t (T.agg [ti x2, ti x3])] [] (V.tup [vo 9000 (List.length r23), vi r23b]) [(9000, oc 3 (List.map (T.int .i64) r23))]), (WkT (ti x0) (ti x0)), (WkT (T.list (List.length x1) 2 (List.flatMap askedC x1)) (T.list (List.length x1) 2 (List.flatMap askedC x1))), (WkT (T.agg [ti x2, ti x3]) (T.agg [ti x2, ti x3]))]) (e := .normal) (σ' := ⟨[10230, 2012], [(10, vi r23b), (9, vo 10230 (List.length r23)), (8, V.own 2012 2 0), (7, vb false), (6, V.t (T.nils)), (0, vi x0)], [(2012, oc 49 []), (10230, oc 3 (List.map (T.int .i64) r23))]⟩) (by kernel_rfl) ⟨by decide, (F_spec_l7After_W x0 x1 x2 x3 r23 r23b c1), WkT.refl _, WkT.refl _, WkT.refl _, trivial⟩ ?_
    obtain ⟨J1, hJ1, h⟩ := jn_some h
    refine WP.joinA (fun (zz : (List (Int × Int))) => ⟨[2012], [(10, vi r23b), (8, V.own 2012 2 (List.length zz)), (7, vb false), (6, V.t (T.nils))], [(2012, oc 49 (List.flatMap pairC zz))]⟩) (fun zz => J1 zz = some (y0, y1)) ?_ ?_
    · -- to where they meet
      refine WP.seq ?_
      refine WP.path tab_ok mixed [] [.keep [11, 10, 9, 8, 7, 6, 0], .keepO [2012, 10230]] (ps := []) (e := .normal) (σ' := ⟨[10230, 2012], [(11, vi 0), (10, vi r23b), (9, vo 10230 (List.length r23)), (8, V.own 2012 2 0), (7, vb false), (6, V.t (T.nils)), (0, vi x0)], [(2012, oc 49 []), (10230, oc 3 (List.map (T.int .i64) r23))]⟩) (by kernel_rfl) trivial ?_
      refine WP.block ?_
      refine WP.wk [.keep [11, 10, 9, 8, 7, 6, 0], .keepO [2012, 10230], .names [(2012, 2012), (10230, 10230)]] (σ' := ⟨[2012, 10230], [(11, vi 0), (10, vi r23b), (9, vo 10230 (List.length r23)), (8, V.own 2012 2 0), (7, vb false), (6, V.t (T.nils)), (0, vi x0)], [(2012, oc 49 []), (10230, oc 3 (List.map (T.int .i64) r23))]⟩) (ps := []) (by kernel_rfl) trivial ?_
      refine WP.st (σ' := ⟨[2012, 10230], [(11, vi (0 : Int)), (10, vi r23b), (9, vo 10230 (List.length r23)), (8, V.own 2012 2 (List.length ([] : List (Int × Int)))), (7, vb false), (6, V.t (T.nils)), (0, vi x0)], [(2012, oc 49 (List.flatMap pairC ([] : List (Int × Int)))), (10230, oc 3 (List.map (T.int .i64) r23))]⟩) (by first | rfl | (simp only [tlS, tl, vl, vo, oc, ov, tbl, vbl, ty, vy]; done) | (simp only [tlS, tl, vl, vo, oc, ov, tbl, vbl, ty, vy]; rfl) | (simp; done) | (simp []; done) | (rw [List.take_of_length_le (by simp [])]; done) | (rw [List.take_of_length_le (by simp [])]; rfl) | (simp only [tlL]; omega) | (simp; omega)) ?_
      refine WP.loop (α := Nat × (List (Int × Int)) × Int) (fun zz => ⟨[2012, 10230], [(11, vi zz.2.2), (10, vi r23b), (9, vo 10230 (List.length r23)), (8, V.own 2012 2 (List.length zz.2.1)), (7, vb false), (6, V.t (T.nils)), (0, vi x0)], [(2012, oc 49 (List.flatMap pairC zz.2.1)), (10230, oc 3 (List.map (T.int .i64) r23))]⟩) (fun zz => F_spec_ChancesAfter_L1 x0 r23 r23b J1 zz.1 zz.2.1 zz.2.2 = some (y0, y1)) (fun zz => zz.1) (fuel, ([] : List (Int × Int)), (0 : Int)) h ?_
      rintro ⟨n, o12, v11⟩ h0
      have h := (show F_spec_ChancesAfter_L1 x0 r23 r23b J1 n o12 v11 = some (y0, y1) from h0)
      rcases n with _ | n
      · rw [F_spec_ChancesAfter_L1] at h; cases h
      · rw [F_spec_ChancesAfter_L1] at h
        refine WP.seq ?_
        obtain ⟨J2, hJ2, h⟩ := jn_some h
        refine WP.joinA (fun (zz : Bool) => ⟨[2012, 10230], [(32, vb zz), (11, vi v11), (10, vi r23b), (9, vo 10230 (List.length r23)), (8, V.own 2012 2 (List.length o12)), (7, vb false), (6, V.t (T.nils)), (0, vi x0)], [(2012, oc 49 (List.flatMap pairC o12)), (10230, oc 3 (List.map (T.int .i64) r23))]⟩) (fun zz => J2 zz = some (y0, y1)) ?_ ?_
        · -- to where they meet
          rcases ite_some h with ⟨h2, h⟩ | ⟨h2, h⟩
          · -- yes
            refine WP.path tab_ok mixed [(28, An.b true)] [.keep [32, 11, 10, 9, 8, 7, 6, 0], .keepO [2012, 10230], .names [(2012, 2012), (10230, 10230)]] (ps := [(True), ((decide (v11 < x0)) = true), (True)]) (e := .normal) (σ' := ⟨[2012, 10230], [(32, vb (decide (r23b > (0 : Int)))), (11, vi v11), (10, vi r23b), (9, vo 10230 (List.length r23)), (8, V.own 2012 2 (List.length o12)), (7, vb false), (6, V.t (T.nils)), (0, vi x0)], [(2012, oc 49 (List.flatMap pairC o12)), (10230, oc 3 (List.map (T.int .i64) r23))]⟩) (by kernel_rfl) ⟨trivial, h2, trivial, trivial⟩ ?_
            exact ⟨(decide (r23b > (0 : Int))), h, rfl⟩
          · -- no
            refine WP.path tab_ok mixed [(28, An.b false)] [.keep [32, 11, 10, 9, 8, 7, 6, 0], .keepO [2012, 10230], .names [(2012, 2012), (10230, 10230)]] (ps := [(True), ((decide (v11 < x0)) = false)]) (e := .normal) (σ' := ⟨[2012, 10230], [(32, vb false), (11, vi v11), (10, vi r23b), (9, vo 10230 (List.length r23)), (8, V.own 2012 2 (List.length o12)), (7, vb false), (6, V.t (T.nils)), (0, vi x0)], [(2012, oc 49 (List.flatMap pairC o12)), (10230, oc 3 (List.map (T.int .i64) r23))]⟩) (by kernel_rfl) ⟨trivial, h2, trivial⟩ ?_
            exact ⟨(false), h, rfl⟩
        · -- from there
          intro v32 h0
          have h := (show J2 v32 = some (y0, y1) from h0)
          rw [hJ2] at h
          rcases ite_some h with ⟨h3, h⟩ | ⟨h3, h⟩
          · -- yes
            refine WP.cond (b := v32) rfl (fun _ => ?_) (fun hh => by rw [h3] at hh; cases hh)
            refine WP.path tab_ok mixed [] [.keep [11, 10, 9, 8, 7, 6, 0], .keepO [2012, 10230]] (ps := []) (e := .normal) (σ' := ⟨[2012, 10230], [(11, vi v11), (10, vi r23b), (9, vo 10230 (List.length r23)), (8, V.own 2012 2 (List.length o12)), (7, vb false), (6, V.t (T.nils)), (0, vi x0)], [(2012, oc 49 (List.flatMap pairC o12)), (10230, oc 3 (List.map (T.int .i64) r23))]⟩) (by kernel_rfl) trivial ?_
            refine WP.seq ?_
            refine WP.block ?_
            obtain ⟨c2, h⟩ := chk_some h
            obtain ⟨c3, h⟩ := chk_some h
            obtain ⟨c4, h⟩ := chk_some h
            obtain ⟨c5, h⟩ := chk_some h
            refine WP.path tab_ok mixed [(39, An.v (ti (List.getD r23 (Int.toNat v11) 0))), (41, An.call (T.agg [ti (IntKind.wrap .i64 (Int.tdiv (List.getD r23 (Int.toNat v11) 0) ((Int.gcd (List.getD r23 (Int.toNat v11) 0) r23b : Nat) : Int))), ti (IntKind.wrap .i64 (Int.tdiv r23b ((Int.gcd (List.getD r23 (Int.toNat v11) 0) r23b : Nat) : Int)))])), (42, An.fz), (43, An.id 2043)] [.keep [8, 11, 10, 9, 7, 6, 0], .keepO [2043, 10230]] (ps := [((0 ≤ v11 ∧ v11 < ((List.length r23 : Nat) : Int))), ((List.map (T.int .i64) r23 : List T)[(Int.toNat v11) * 1]? = some (ti (List.getD r23 (Int.toNat v11) 0))), (ti (List.getD r23 (Int.toNat v11) 0) = ti (List.getD r23 (Int.toNat v11) 0)), (C Try.prog 160 [ti (List.getD r23 (Int.toNat v11) 0), ti r23b] (T.agg [ti (IntKind.wrap .i64 (Int.tdiv (List.getD r23 (Int.toNat v11) 0) ((Int.gcd (List.getD r23 (Int.toNat v11) 0) r23b : Nat) : Int))), ti (IntKind.wrap .i64 (Int.tdiv r23b ((Int.gcd (List.getD r23 (Int.toNat v11) 0) r23b : Nat) : Int)))])), ((2 = 2 ∧ 0 + 2 ≤ 2) ∧ True), (2 = 1 * 2), (True), (List.length (List.flatMap pairC o12) = (List.length o12) * 2), ((((List.length o12) + 1) * 16 ≤ 140737488355328 ∧ (List.length o12) + 1 ≤ maxLen))]) (e := .normal) (σ' := ⟨[2043, 2012, 10230], [(8, V.own 2043 2 ((List.length o12) + 1)), (11, vi v11), (10, vi r23b), (9, vo 10230 (List.length r23)), (7, vb false), (6, V.t (T.nils)), (0, vi x0)], [(2043, oc 49 ((List.flatMap pairC o12) ++ [ti (IntKind.wrap .i64 (Int.tdiv (List.getD r23 (Int.toNat v11) 0) ((Int.gcd (List.getD r23 (Int.toNat v11) 0) r23b : Nat) : Int))), ti (IntKind.wrap .i64 (Int.tdiv r23b ((Int.gcd (List.getD r23 (Int.toNat v11) 0) r23b : Nat) : Int)))])), (10230, oc 3 (List.map (T.int .i64) r23))]⟩) (by kernel_rfl) ⟨c2, atM (by simp) (by first | omega | (simp only [tlL]; omega) | (simp; omega)), rfl, (l7Cut_C (List.getD r23 (Int.toNat v11) 0) r23b c3 c4), ⟨⟨by first | rfl | (simp; done) | (simp []; done) | omega, by first | decide | (simp; done) | (simp []; done) | omega | (simp only [tlL]; omega) | (simp; omega)⟩, trivial⟩, by decide, trivial, by first | exact len_pair _ | (rw [len_pair]; first | done | omega | (simp; done) | (simp only [tlL]; omega) | (simp; omega)), c5, trivial⟩ ?_
            obtain ⟨c6, h⟩ := chk_some h
            refine WP.path tab_ok mixed [(34, An.v (T.int .i64 (v11 + (1 : Int))))] [.keep [11, 10, 9, 8, 7, 6, 0], .keepO [2043, 10230], .names [(2043, 2012), (10230, 10230)]] (ps := [(True), (T.int .i64 (IntKind.wrap .i64 (v11 + (1 : Int))) = T.int .i64 (v11 + (1 : Int)))]) (e := .normal) (σ' := ⟨[2012, 10230], [(11, vi (v11 + (1 : Int))), (10, vi r23b), (9, vo 10230 (List.length r23)), (8, V.own 2012 2 ((List.length o12) + 1)), (7, vb false), (6, V.t (T.nils)), (0, vi x0)], [(2012, oc 49 ((List.flatMap pairC o12) ++ [ti (IntKind.wrap .i64 (Int.tdiv (List.getD r23 (Int.toNat v11) 0) ((Int.gcd (List.getD r23 (Int.toNat v11) 0) r23b : Nat) : Int))), ti (IntKind.wrap .i64 (Int.tdiv r23b ((Int.gcd (List.getD r23 (Int.toNat v11) 0) r23b : Nat) : Int)))])), (10230, oc 3 (List.map (T.int .i64) r23))]⟩) (by kernel_rfl) ⟨trivial, wrapI c6, trivial⟩ ?_
            exact ⟨(n, o12 ++ [((IntKind.wrap .i64 (Int.tdiv (List.getD r23 (Int.toNat v11) 0) ((Int.gcd (List.getD r23 (Int.toNat v11) 0) r23b : Nat) : Int))), (IntKind.wrap .i64 (Int.tdiv r23b ((Int.gcd (List.getD r23 (Int.toNat v11) 0) r23b : Nat) : Int))))], (v11 + (1 : Int))), h, Nat.lt_succ_self _, (by first | rfl | (simp only [tlS, tl, vl, vo, oc, ov, tbl, vbl, ty, vy]; done) | (simp only [tlS, tl, vl, vo, oc, ov, tbl, vbl, ty, vy]; rfl) | (simp; done) | (simp []; done) | (rw [List.take_of_length_le (by simp [])]; done) | (rw [List.take_of_length_le (by simp [])]; rfl) | (simp only [tlL]; omega) | (simp; omega))⟩
          · -- no
            refine WP.cond (b := v32) rfl (fun hh => by rw [h3] at hh; cases hh) (fun _ => ?_)
            refine WP.path tab_ok mixed [] [.keep [10, 8, 7, 6], .keepO [2012], .names [(2012, 2012)]] (ps := []) (e := (.exit 0)) (σ' := ⟨[2012], [(10, vi r23b), (8, V.own 2012 2 (List.length o12)), (7, vb false), (6, V.t (T.nils))], [(2012, oc 49 (List.flatMap pairC o12))]⟩) (by kernel_rfl) trivial ?_
            exact ⟨(o12), h, rfl⟩
    · -- from there
      intro o12 h0
      have h := (show J1 o12 = some (y0, y1) from h0)
      rw [hJ1] at h
      simp only [Option.some.injEq, Prod.mk.injEq] at h
      obtain ⟨rfl, rfl⟩ := h
      exact WP.pathG tab_ok mixed [] [.keep [6, 7], .keepO [2012], .names [(2012, 9000)]] [9000] _ (r' := V.tup [V.own 9000 2 (List.length o12), vb (decide (r23b > (0 : Int)))]) (ps := [(True)]) (r := V.tup [V.own 9000 2 (List.length o12), vb (decide (r23b > (0 : Int)))]) (N := [9000]) (O := [(9000, oc 49 (List.flatMap pairC o12))]) [] (by kernel_rfl) ⟨trivial, trivial⟩ ⟨rfl, (WkT.refl _), trivial⟩ rfl rfl (fun _ h => h)
theorem F_spec_ChancesAfter_W_C (x0 : Int) (x1 : List (Int × Bool)) (x2 : Int) (x3 : Int) (y0 : List (Int × Int)) (y1 : Bool) (h : F_spec_ChancesAfter x0 x1 x2 x3 = some (y0, y1)) : C Try.prog 111 [ti x0, T.list (List.length x1) 2 (List.flatMap askedC x1), T.agg [ti x2, ti x3]] (T.tup [T.list (List.length y0) 2 (List.flatMap pairC y0), tb y1]) :=
  CG.toC (ps := [(List.length (List.flatMap pairC y0) = (List.length y0) * 2)]) (F_spec_ChancesAfter_W  x0 x1 x2 x3 y0 y1 h) (by rfl) ⟨by first | exact len_pair _ | (rw [len_pair]; first | done | omega | (simp; done) | (simp; omega)), trivial⟩
theorem F_impl_LikeliestAfter_W (x0 : Int) (x1 : List (Int × Bool)) (x2 : Int) (x3 : Int) (y0 : Int) (y1 : Bool) (h : F_impl_LikeliestAfter x0 x1 x2 x3 = some (y0, y1)) : C Try.prog 112 [ti x0, T.list (List.length x1) 2 (List.flatMap askedC x1), T.agg [ti x2, ti x3]] (T.tup [ti y0, tb y1]) := by
  unfold F_impl_LikeliestAfter at h
  refine C.intro (tab := tab) tab_ok (fn := Try.f112) Try.func112 (by kernel_rfl) rfl (Nat.le_of_ble_eq_true rfl) ?_
  refine WP.seq ?_
  refine WP.path tab_ok mixed [(5, An.fz)] [.keep [7, 6, 5, 0, 1], .keepO []] (ps := []) (e := .normal) (σ' := ⟨[], [(7, vb false), (6, vi 0), (5, V.t (T.ptr [ti x2, ti x3])), (0, vi x0), (1, V.t (T.list (List.length x1) 2 (List.flatMap askedC x1)))], []⟩) (by kernel_rfl) trivial ?_
  refine WP.seq ?_
  obtain ⟨r18, r18b, r18c, c0, h⟩ := bnd3_some h
  refine WP.path tab_ok mixed [(18, An.callG [(9000, 10180)] [vi x0, V.t (T.list (List.length x1) 2 (List.flatMap askedC x1)), V.t (T.agg [ti x2, ti x3]), vi 12] [] (V.tup [vo 9000 (List.length r18), vi r18b, vb r18c]) [(9000, oc 3 (List.map (T.int .i64) r18))])] [.keep [10, 8, 7, 6], .keepO [10180]] (ps := [(2 ≤ 2), (CG Try.prog 225 [vi x0, V.t (T.list (List.length x1) 2 (List.flatMap askedC x1)), V.t (T.agg [ti x2, ti x3]), vi 12] [] (V.tup [vo 9000 (List.length r18), vi r18b, vb r18c]) [(9000, oc 3 (List.map (T.int .i64) r18))]), (WkT (ti x0) (ti x0)), (WkT (T.list (List.length x1) 2 (List.flatMap askedC x1)) (T.list (List.length x1) 2 (List.flatMap askedC x1))), (WkT (T.agg [ti x2, ti x3]) (T.agg [ti x2, ti x3])), (WkT (ti 12) (ti 12))]) (e := .normal) (σ' := ⟨[10180], [(10, vb r18c), (8, vo 10180 (List.length r18)), (7, vb false), (6, vi 0)], [(10180, oc 3 (List.map (T.int .i64) r18))]⟩) (by kernel_rfl) ⟨by decide, (F_impl_sharesAfter_W x0 x1 x2 x3 (12 : Int) r18 r18b r18c c0), WkT.refl _, WkT.refl _, WkT.refl _, WkT.refl _, trivial⟩ ?_
  refine WP.seq ?_
  refine WP.seq ?_
  refine WP.path tab_ok mixed [] [.keep [23, 8, 7, 6], .keepO [10180]] (ps := []) (e := .normal) (σ' := ⟨[10180], [(23, vb !r18c), (8, vo 10180 (List.length r18)), (7, vb false), (6, vi 0)], [(10180, oc 3 (List.map (T.int .i64) r18))]⟩) (by kernel_rfl) trivial ?_
  rcases ite_some h with ⟨h1, h⟩ | ⟨h1, h⟩
  · -- yes
    refine WP.cond (b := !r18c) rfl (fun _ => ?_) (fun hh => by rw [h1] at hh; cases hh)
    simp only [Option.some.injEq, Prod.mk.injEq] at h
    obtain ⟨rfl, rfl⟩ := h
    exact WP.pathW tab_ok mixed [] _ (ps := []) (r := T.tup [ti 0, tb false]) (by kernel_rfl) trivial (WkT.eq (y := T.tup [ti 0, tb false]) (WkT.refl _) (by first | rfl | (simp only [tlS, tl, vl, vo, oc, ov, tbl, vbl, ty, vy]; done) | (simp only [tlS, tl, vl, vo, oc, ov, tbl, vbl, ty, vy]; rfl) | (simp; done) | (simp []; done) | (rw [List.take_of_length_le (by simp [])]; done) | (rw [List.take_of_length_le (by simp [])]; rfl) | (simp only [tlL]; omega) | (simp; omega))) (fun _ h => h)
  · -- no
    refine WP.cond (b := !r18c) rfl (fun hh => by rw [h1] at hh; cases hh) (fun _ => ?_)
    refine WP.path tab_ok mixed [] [.keep [8, 7, 6], .keepO [10180]] (ps := []) (e := .normal) (σ' := ⟨[10180], [(8, vo 10180 (List.length r18)), (7, vb false), (6, vi 0)], [(10180, oc 3 (List.map (T.int .i64) r18))]⟩) (by kernel_rfl) trivial ?_
    refine WP.seq ?_
    refine WP.path tab_ok mixed [] [.keep [11, 8, 7, 6], .keepO [10180]] (ps := []) (e := .normal) (σ' := ⟨[10180], [(11, vi 0), (8, vo 10180 (List.length r18)), (7, vb false), (6, vi 0)], [(10180, oc 3 (List.map (T.int .i64) r18))]⟩) (by kernel_rfl) trivial ?_
    obtain ⟨J1, hJ1, h⟩ := jn_some h
    refine WP.joinA (fun (zz : Int) => ⟨[], [(11, vi zz), (7, vb false), (6, vi 0)], []⟩) (fun zz => J1 zz = some (y0, y1)) ?_ ?_
    · -- to where they meet
      refine WP.seq ?_
      refine WP.path tab_ok mixed [] [.keep [26, 25, 24, 11, 8, 7, 6], .keepO [10180]] (ps := []) (e := .normal) (σ' := ⟨[10180], [(26, vi 0), (25, vi ((List.length r18 : Nat) : Int)), (24, vo 10180 (List.length r18)), (11, vi 0), (8, vo 10180 (List.length r18)), (7, vb false), (6, vi 0)], [(10180, oc 3 (List.map (T.int .i64) r18))]⟩) (by kernel_rfl) trivial ?_
      refine WP.block ?_
      refine WP.wk [.keep [26, 25, 24, 11, 8, 7, 6], .keepO [10180], .names [(10180, 10180)]] (σ' := ⟨[10180], [(26, vi 0), (25, vi ((List.length r18 : Nat) : Int)), (24, vo 10180 (List.length r18)), (11, vi 0), (8, vo 10180 (List.length r18)), (7, vb false), (6, vi 0)], [(10180, oc 3 (List.map (T.int .i64) r18))]⟩) (ps := []) (by kernel_rfl) trivial ?_
      refine WP.st (σ' := ⟨[10180], [(26, vi (0 : Int)), (25, vi ((List.length r18 : Nat) : Int)), (24, vo 10180 (List.length r18)), (11, vi (0 : Int)), (8, vo 10180 (List.length r18)), (7, vb false), (6, vi 0)], [(10180, oc 3 (List.map (T.int .i64) r18))]⟩) (by first | rfl | (simp only [tlS, tl, vl, vo, oc, ov, tbl, vbl, ty, vy]; done) | (simp only [tlS, tl, vl, vo, oc, ov, tbl, vbl, ty, vy]; rfl) | (simp; done) | (simp []; done) | (rw [List.take_of_length_le (by simp [])]; done) | (rw [List.take_of_length_le (by simp [])]; rfl) | (simp only [tlL]; omega) | (simp; omega)) ?_
      refine WP.loop (α := Nat × Int × Int) (fun zz => ⟨[10180], [(26, vi zz.2.1), (25, vi ((List.length r18 : Nat) : Int)), (24, vo 10180 (List.length r18)), (11, vi zz.2.2), (8, vo 10180 (List.length r18)), (7, vb false), (6, vi 0)], [(10180, oc 3 (List.map (T.int .i64) r18))]⟩) (fun zz => F_impl_LikeliestAfter_L1 r18 J1 zz.1 zz.2.1 zz.2.2 = some (y0, y1)) (fun zz => zz.1) (fuel, (0 : Int), (0 : Int)) h ?_
      rintro ⟨n, v26, v11⟩ h0
      have h := (show F_impl_LikeliestAfter_L1 r18 J1 n v26 v11 = some (y0, y1) from h0)
      rcases n with _ | n
      · rw [F_impl_LikeliestAfter_L1] at h; cases h
      · rw [F_impl_LikeliestAfter_L1] at h
        refine WP.seq ?_
        refine WP.path tab_ok mixed [] [.keep [27, 26, 25, 24, 11, 8, 7, 6], .keepO [10180]] (ps := [(True)]) (e := .normal) (σ' := ⟨[10180], [(27, vb (decide (v26 < ((List.length r18 : Nat) : Int)))), (26, vi v26), (25, vi ((List.length r18 : Nat) : Int)), (24, vo 10180 (List.length r18)), (11, vi v11), (8, vo 10180 (List.length r18)), (7, vb false), (6, vi 0)], [(10180, oc 3 (List.map (T.int .i64) r18))]⟩) (by kernel_rfl) ⟨trivial, trivial⟩ ?_
        refine WP.seq ?_
        rcases ite_some h with ⟨h2, h⟩ | ⟨h2, h⟩
        · -- yes
          refine WP.cond (b := decide (v26 < ((List.length r18 : Nat) : Int))) rfl (fun _ => ?_) (fun hh => by rw [h2] at hh; cases hh)
          refine WP.path tab_ok mixed [] [.keep [26, 25, 24, 11, 8, 7, 6], .keepO [10180]] (ps := []) (e := .normal) (σ' := ⟨[10180], [(26, vi v26), (25, vi ((List.length r18 : Nat) : Int)), (24, vo 10180 (List.length r18)), (11, vi v11), (8, vo 10180 (List.length r18)), (7, vb false), (6, vi 0)], [(10180, oc 3 (List.map (T.int .i64) r18))]⟩) (by kernel_rfl) trivial ?_
          refine WP.seq ?_
          refine WP.block ?_
          refine WP.seq ?_
          obtain ⟨c1, h⟩ := chk_some h
          refine WP.path tab_ok mixed [(30, An.v (ti (List.getD r18 (Int.toNat v26) 0)))] [.keep [13, 12, 26, 25, 24, 11, 8, 7, 6], .keepO [10180]] (ps := [((0 ≤ v26 ∧ v26 < ((List.length r18 : Nat) : Int))), ((List.map (T.int .i64) r18 : List T)[(Int.toNat v26) * 1]? = some (ti (List.getD r18 (Int.toNat v26) 0))), (ti (List.getD r18 (Int.toNat v26) 0) = ti (List.getD r18 (Int.toNat v26) 0))]) (e := .normal) (σ' := ⟨[10180], [(13, vi (List.getD r18 (Int.toNat v26) 0)), (12, vi v26), (26, vi v26), (25, vi ((List.length r18 : Nat) : Int)), (24, vo 10180 (List.length r18)), (11, vi v11), (8, vo 10180 (List.length r18)), (7, vb false), (6, vi 0)], [(10180, oc 3 (List.map (T.int .i64) r18))]⟩) (by kernel_rfl) ⟨c1, atM (by simp) (by first | omega | (simp only [tlL]; omega) | (simp; omega)), rfl, trivial⟩ ?_
          refine WP.seq ?_
          obtain ⟨c2, h⟩ := chk_some h
          refine WP.path tab_ok mixed [(35, An.v (ti (List.getD r18 (Int.toNat v11) 0)))] [.keep [36, 12, 26, 25, 24, 11, 8, 7, 6], .keepO [10180]] (ps := [((0 ≤ v11 ∧ v11 < ((List.length r18 : Nat) : Int))), ((List.map (T.int .i64) r18 : List T)[(Int.toNat v11) * 1]? = some (ti (List.getD r18 (Int.toNat v11) 0))), (ti (List.getD r18 (Int.toNat v11) 0) = ti (List.getD r18 (Int.toNat v11) 0)), (True)]) (e := .normal) (σ' := ⟨[10180], [(36, vb (decide ((List.getD r18 (Int.toNat v26) 0) > (List.getD r18 (Int.toNat v11) 0)))), (12, vi v26), (26, vi v26), (25, vi ((List.length r18 : Nat) : Int)), (24, vo 10180 (List.length r18)), (11, vi v11), (8, vo 10180 (List.length r18)), (7, vb false), (6, vi 0)], [(10180, oc 3 (List.map (T.int .i64) r18))]⟩) (by kernel_rfl) ⟨c2, atM (by simp) (by first | omega | (simp only [tlL]; omega) | (simp; omega)), rfl, trivial, trivial⟩ ?_
          rcases ite_some h with ⟨h3, h⟩ | ⟨h3, h⟩
          · -- yes
            refine WP.cond (b := decide ((List.getD r18 (Int.toNat v26) 0) > (List.getD r18 (Int.toNat v11) 0))) rfl (fun _ => ?_) (fun hh => by rw [h3] at hh; cases hh)
            refine WP.path tab_ok mixed [] [.keep [11, 26, 25, 24, 8, 7, 6], .keepO [10180]] (ps := []) (e := .normal) (σ' := ⟨[10180], [(11, vi v26), (26, vi v26), (25, vi ((List.length r18 : Nat) : Int)), (24, vo 10180 (List.length r18)), (8, vo 10180 (List.length r18)), (7, vb false), (6, vi 0)], [(10180, oc 3 (List.map (T.int .i64) r18))]⟩) (by kernel_rfl) trivial ?_
            obtain ⟨c3, h⟩ := chk_some h
            refine WP.path tab_ok mixed [(38, An.v (T.int .i64 (v26 + (1 : Int))))] [.keep [26, 25, 24, 11, 8, 7, 6], .keepO [10180], .names [(10180, 10180)]] (ps := [(True), (T.int .i64 (IntKind.wrap .i64 (v26 + (1 : Int))) = T.int .i64 (v26 + (1 : Int)))]) (e := .normal) (σ' := ⟨[10180], [(26, vi (v26 + (1 : Int))), (25, vi ((List.length r18 : Nat) : Int)), (24, vo 10180 (List.length r18)), (11, vi v26), (8, vo 10180 (List.length r18)), (7, vb false), (6, vi 0)], [(10180, oc 3 (List.map (T.int .i64) r18))]⟩) (by kernel_rfl) ⟨trivial, wrapI c3, trivial⟩ ?_
            exact ⟨(n, (v26 + (1 : Int)), v26), h, Nat.lt_succ_self _, rfl⟩
          · -- no
            refine WP.cond (b := decide ((List.getD r18 (Int.toNat v26) 0) > (List.getD r18 (Int.toNat v11) 0))) rfl (fun hh => by rw [h3] at hh; cases hh) (fun _ => ?_)
            refine WP.path tab_ok mixed [] [.keep [26, 25, 24, 11, 8, 7, 6], .keepO [10180]] (ps := []) (e := .normal) (σ' := ⟨[10180], [(26, vi v26), (25, vi ((List.length r18 : Nat) : Int)), (24, vo 10180 (List.length r18)), (11, vi v11), (8, vo 10180 (List.length r18)), (7, vb false), (6, vi 0)], [(10180, oc 3 (List.map (T.int .i64) r18))]⟩) (by kernel_rfl) trivial ?_
            obtain ⟨c3, h⟩ := chk_some h
            refine WP.path tab_ok mixed [(38, An.v (T.int .i64 (v26 + (1 : Int))))] [.keep [26, 25, 24, 11, 8, 7, 6], .keepO [10180], .names [(10180, 10180)]] (ps := [(True), (T.int .i64 (IntKind.wrap .i64 (v26 + (1 : Int))) = T.int .i64 (v26 + (1 : Int)))]) (e := .normal) (σ' := ⟨[10180], [(26, vi (v26 + (1 : Int))), (25, vi ((List.length r18 : Nat) : Int)), (24, vo 10180 (List.length r18)), (11, vi v11), (8, vo 10180 (List.length r18)), (7, vb false), (6, vi 0)], [(10180, oc 3 (List.map (T.int .i64) r18))]⟩) (by kernel_rfl) ⟨trivial, wrapI c3, trivial⟩ ?_
            exact ⟨(n, (v26 + (1 : Int)), v11), h, Nat.lt_succ_self _, rfl⟩
        · -- no
          refine WP.cond (b := decide (v26 < ((List.length r18 : Nat) : Int))) rfl (fun hh => by rw [h2] at hh; cases hh) (fun _ => ?_)
          refine WP.path tab_ok mixed [] [.keep [11, 7, 6], .keepO [], .names []] (ps := []) (e := (.exit 0)) (σ' := ⟨[], [(11, vi v11), (7, vb false), (6, vi 0)], []⟩) (by kernel_rfl) trivial ?_
          exact ⟨(v11), h, rfl⟩
    · -- from there
      intro v11 h0
      have h := (show J1 v11 = some (y0, y1) from h0)
      rw [hJ1] at h
      simp only [Option.some.injEq, Prod.mk.injEq] at h
      obtain ⟨rfl, rfl⟩ := h
      exact WP.pathW tab_ok mixed [] _ (ps := []) (r := T.tup [ti v11, tb true]) (by kernel_rfl) trivial (WkT.eq (y := T.tup [ti v11, tb true]) (WkT.refl _) rfl) (fun _ h => h)
theorem F_spec_LikeliestAfter_W (x0 : Int) (x1 : List (Int × Bool)) (x2 : Int) (x3 : Int) (y0 : Int) (y1 : Bool) (h : F_spec_LikeliestAfter x0 x1 x2 x3 = some (y0, y1)) : C Try.prog 113 [ti x0, T.list (List.length x1) 2 (List.flatMap askedC x1), T.agg [ti x2, ti x3]] (T.tup [ti y0, tb y1]) := by
  unfold F_spec_LikeliestAfter at h
  refine C.intro (tab := tab) tab_ok (fn := Try.f113) Try.func113 (by kernel_rfl) rfl (Nat.le_of_ble_eq_true rfl) ?_
  refine WP.seq ?_
  refine WP.path tab_ok mixed [(5, An.fz)] [.keep [7, 6, 5, 0, 1], .keepO []] (ps := []) (e := .normal) (σ' := ⟨[], [(7, vb false), (6, vi 0), (5, V.t (T.ptr [ti x2, ti x3])), (0, vi x0), (1, V.t (T.list (List.length x1) 2 (List.flatMap askedC x1)))], []⟩) (by kernel_rfl) trivial ?_
  refine WP.seq ?_
  refine WP.seq ?_
  obtain ⟨r15, c0, h⟩ := bnd1_some h
  refine WP.path tab_ok mixed [(15, An.call (tb r15))] [.keep [16, 7, 6, 5, 0, 1], .keepO []] (ps := [(2 ≤ 2), (C Try.prog 226 [ti x0, T.list (List.length x1) 2 (List.flatMap askedC x1), T.agg [ti x2, ti x3]] (tb r15))]) (e := .normal) (σ' := ⟨[], [(16, vb !r15), (7, vb false), (6, vi 0), (5, V.t (T.ptr [ti x2, ti x3])), (0, vi x0), (1, V.t (T.list (List.length x1) 2 (List.flatMap askedC x1)))], []⟩) (by kernel_rfl) ⟨by decide, (F_spec_l7Answers_W x0 x1 x2 x3 r15 c0), trivial⟩ ?_
  rcases ite_some h with ⟨h1, h⟩ | ⟨h1, h⟩
  · -- yes
    refine WP.cond (b := !r15) rfl (fun _ => ?_) (fun hh => by rw [h1] at hh; cases hh)
    simp only [Option.some.injEq, Prod.mk.injEq] at h
    obtain ⟨rfl, rfl⟩ := h
    exact WP.pathW tab_ok mixed [] _ (ps := []) (r := T.tup [ti 0, tb false]) (by kernel_rfl) trivial (WkT.eq (y := T.tup [ti 0, tb false]) (WkT.refl _) (by first | rfl | (simp only [tlS, tl, vl, vo, oc, ov, tbl, vbl, ty, vy]; done) | (simp only [tlS, tl, vl, vo, oc, ov, tbl, vbl, ty, vy]; rfl) | (simp; done) | (simp []; done) | (rw [List.take_of_length_le (by simp [])]; done) | (rw [List.take_of_length_le (by simp [])]; rfl) | (simp only [tlL]; omega) | (simp; omega))) (fun _ h => h)
  · -- no
    refine WP.cond (b := !r15) rfl (fun hh => by rw [h1] at hh; cases hh) (fun _ => ?_)
    refine WP.path tab_ok mixed [] [.keep [7, 6, 5, 0, 1], .keepO []] (ps := []) (e := .normal) (σ' := ⟨[], [(7, vb false), (6, vi 0), (5, V.t (T.ptr [ti x2, ti x3])), (0, vi x0), (1, V.t (T.list (List.length x1) 2 (List.flatMap askedC x1)))], []⟩) (by kernel_rfl) trivial ?_
    refine WP.seq ?_
    obtain ⟨r21, r21b, c1, h⟩ := bnd2_some h
    refine WP.path tab_ok mixed [(21, An.callG [(9000, 10210)] [vi x0, V.t (T.list (List.length x1) 2 (List.flatMap askedC x1)), V.t (T.agg [ti x2, ti x3])] [] (V.tup [vo 9000 (List.length r21), vi r21b]) [(9000, oc 3 (List.map (T.int .i64) r21))])] [.keep [9, 8, 7, 6, 0], .keepO [10210]] (ps := [(2 ≤ 2), (CG Try.prog 227 [vi x0, V.t (T.list (List.length x1) 2 (List.flatMap askedC x1)), V.t (T.agg [ti x2, ti x3])] [] (V.tup [vo 9000 (List.length r21), vi r21b]) [(9000, oc 3 (List.map (T.int .i64) r21))]), (WkT (ti x0) (ti x0)), (WkT (T.list (List.length x1) 2 (List.flatMap askedC x1)) (T.list (List.length x1) 2 (List.flatMap askedC x1))), (WkT (T.agg [ti x2, ti x3]) (T.agg [ti x2, ti x3]))]) (e := .normal) (σ' := ⟨[10210], [(9, vi r21b), (8, vo 10210 (List.length r21)), (7, vb false), (6, vi 0), (0, vi x0)], [(10210, oc 3 (List.map (T.int .i64) r21))]⟩) (by kernel_rfl) ⟨by decide, (F_spec_l7After_W x0 x1 x2 x3 r21 r21b c1), WkT.refl _, WkT.refl _, WkT.refl _, trivial⟩ ?_
    refine WP.seq ?_
    refine WP.path tab_ok mixed [] [.keep [10, 9, 8, 7, 6, 0], .keepO [10210]] (ps := []) (e := .normal) (σ' := ⟨[10210], [(10, vi 0), (9, vi r21b), (8, vo 10210 (List.length r21)), (7, vb false), (6, vi 0), (0, vi x0)], [(10210, oc 3 (List.map (T.int .i64) r21))]⟩) (by kernel_rfl) trivial ?_
    obtain ⟨J1, hJ1, h⟩ := jn_some h
    refine WP.joinA (fun (zz : Int) => ⟨[], [(10, vi zz), (9, vi r21b), (7, vb false), (6, vi 0)], []⟩) (fun zz => J1 zz = some (y0, y1)) ?_ ?_
    · -- to where they meet
      refine WP.seq ?_
      refine WP.path tab_ok mixed [] [.keep [11, 10, 9, 8, 7, 6, 0], .keepO [10210]] (ps := []) (e := .normal) (σ' := ⟨[10210], [(11, vi 1), (10, vi 0), (9, vi r21b), (8, vo 10210 (List.length r21)), (7, vb false), (6, vi 0), (0, vi x0)], [(10210, oc 3 (List.map (T.int .i64) r21))]⟩) (by kernel_rfl) trivial ?_
      refine WP.block ?_
      refine WP.wk [.keep [11, 10, 9, 8, 7, 6, 0], .keepO [10210], .names [(10210, 10210)]] (σ' := ⟨[10210], [(11, vi 1), (10, vi 0), (9, vi r21b), (8, vo 10210 (List.length r21)), (7, vb false), (6, vi 0), (0, vi x0)], [(10210, oc 3 (List.map (T.int .i64) r21))]⟩) (ps := []) (by kernel_rfl) trivial ?_
      refine WP.st (σ' := ⟨[10210], [(11, vi (1 : Int)), (10, vi (0 : Int)), (9, vi r21b), (8, vo 10210 (List.length r21)), (7, vb false), (6, vi 0), (0, vi x0)], [(10210, oc 3 (List.map (T.int .i64) r21))]⟩) (by first | rfl | (simp only [tlS, tl, vl, vo, oc, ov, tbl, vbl, ty, vy]; done) | (simp only [tlS, tl, vl, vo, oc, ov, tbl, vbl, ty, vy]; rfl) | (simp; done) | (simp []; done) | (rw [List.take_of_length_le (by simp [])]; done) | (rw [List.take_of_length_le (by simp [])]; rfl) | (simp only [tlL]; omega) | (simp; omega)) ?_
      refine WP.loop (α := Nat × Int × Int) (fun zz => ⟨[10210], [(11, vi zz.2.1), (10, vi zz.2.2), (9, vi r21b), (8, vo 10210 (List.length r21)), (7, vb false), (6, vi 0), (0, vi x0)], [(10210, oc 3 (List.map (T.int .i64) r21))]⟩) (fun zz => F_spec_LikeliestAfter_L1 x0 r21 J1 zz.1 zz.2.1 zz.2.2 = some (y0, y1)) (fun zz => zz.1) (fuel, (1 : Int), (0 : Int)) h ?_
      rintro ⟨n, v11, v10⟩ h0
      have h := (show F_spec_LikeliestAfter_L1 x0 r21 J1 n v11 v10 = some (y0, y1) from h0)
      rcases n with _ | n
      · rw [F_spec_LikeliestAfter_L1] at h; cases h
      · rw [F_spec_LikeliestAfter_L1] at h
        refine WP.seq ?_
        refine WP.seq ?_
        refine WP.path tab_ok mixed [] [.keep [26, 11, 10, 9, 8, 7, 6, 0], .keepO [10210]] (ps := [(True)]) (e := .normal) (σ' := ⟨[10210], [(26, vb (decide (v11 < x0))), (11, vi v11), (10, vi v10), (9, vi r21b), (8, vo 10210 (List.length r21)), (7, vb false), (6, vi 0), (0, vi x0)], [(10210, oc 3 (List.map (T.int .i64) r21))]⟩) (by kernel_rfl) ⟨trivial, trivial⟩ ?_
        rcases ite_some h with ⟨h2, h⟩ | ⟨h2, h⟩
        · -- yes
          refine WP.cond (b := decide (v11 < x0)) rfl (fun _ => ?_) (fun hh => by rw [h2] at hh; cases hh)
          refine WP.path tab_ok mixed [] [.keep [11, 10, 9, 8, 7, 6, 0], .keepO [10210]] (ps := []) (e := .normal) (σ' := ⟨[10210], [(11, vi v11), (10, vi v10), (9, vi r21b), (8, vo 10210 (List.length r21)), (7, vb false), (6, vi 0), (0, vi x0)], [(10210, oc 3 (List.map (T.int .i64) r21))]⟩) (by kernel_rfl) trivial ?_
          refine WP.seq ?_
          refine WP.block ?_
          refine WP.seq ?_
          obtain ⟨c2, h⟩ := chk_some h
          obtain ⟨c3, h⟩ := chk_some h
          refine WP.path tab_ok mixed [(32, An.v (ti (List.getD r21 (Int.toNat v11) 0))), (36, An.v (ti (List.getD r21 (Int.toNat v10) 0)))] [.keep [37, 11, 10, 9, 8, 7, 6, 0], .keepO [10210]] (ps := [((0 ≤ v11 ∧ v11 < ((List.length r21 : Nat) : Int))), ((List.map (T.int .i64) r21 : List T)[(Int.toNat v11) * 1]? = some (ti (List.getD r21 (Int.toNat v11) 0))), (ti (List.getD r21 (Int.toNat v11) 0) = ti (List.getD r21 (Int.toNat v11) 0)), ((0 ≤ v10 ∧ v10 < ((List.length r21 : Nat) : Int))), ((List.map (T.int .i64) r21 : List T)[(Int.toNat v10) * 1]? = some (ti (List.getD r21 (Int.toNat v10) 0))), (ti (List.getD r21 (Int.toNat v10) 0) = ti (List.getD r21 (Int.toNat v10) 0)), (True)]) (e := .normal) (σ' := ⟨[10210], [(37, vb (decide ((List.getD r21 (Int.toNat v11) 0) > (List.getD r21 (Int.toNat v10) 0)))), (11, vi v11), (10, vi v10), (9, vi r21b), (8, vo 10210 (List.length r21)), (7, vb false), (6, vi 0), (0, vi x0)], [(10210, oc 3 (List.map (T.int .i64) r21))]⟩) (by kernel_rfl) ⟨c2, atM (by simp) (by first | omega | (simp only [tlL]; omega) | (simp; omega)), rfl, c3, atM (by simp) (by first | omega | (simp only [tlL]; omega) | (simp; omega)), rfl, trivial, trivial⟩ ?_
          rcases ite_some h with ⟨h3, h⟩ | ⟨h3, h⟩
          · -- yes
            refine WP.cond (b := decide ((List.getD r21 (Int.toNat v11) 0) > (List.getD r21 (Int.toNat v10) 0))) rfl (fun _ => ?_) (fun hh => by rw [h3] at hh; cases hh)
            refine WP.path tab_ok mixed [] [.keep [10, 11, 9, 8, 7, 6, 0], .keepO [10210]] (ps := []) (e := .normal) (σ' := ⟨[10210], [(10, vi v11), (11, vi v11), (9, vi r21b), (8, vo 10210 (List.length r21)), (7, vb false), (6, vi 0), (0, vi x0)], [(10210, oc 3 (List.map (T.int .i64) r21))]⟩) (by kernel_rfl) trivial ?_
            obtain ⟨c4, h⟩ := chk_some h
            refine WP.path tab_ok mixed [(28, An.v (T.int .i64 (v11 + (1 : Int))))] [.keep [11, 10, 9, 8, 7, 6, 0], .keepO [10210], .names [(10210, 10210)]] (ps := [(True), (T.int .i64 (IntKind.wrap .i64 (v11 + (1 : Int))) = T.int .i64 (v11 + (1 : Int)))]) (e := .normal) (σ' := ⟨[10210], [(11, vi (v11 + (1 : Int))), (10, vi v11), (9, vi r21b), (8, vo 10210 (List.length r21)), (7, vb false), (6, vi 0), (0, vi x0)], [(10210, oc 3 (List.map (T.int .i64) r21))]⟩) (by kernel_rfl) ⟨trivial, wrapI c4, trivial⟩ ?_
            exact ⟨(n, (v11 + (1 : Int)), v11), h, Nat.lt_succ_self _, rfl⟩
          · -- no
            refine WP.cond (b := decide ((List.getD r21 (Int.toNat v11) 0) > (List.getD r21 (Int.toNat v10) 0))) rfl (fun hh => by rw [h3] at hh; cases hh) (fun _ => ?_)
            refine WP.path tab_ok mixed [] [.keep [11, 10, 9, 8, 7, 6, 0], .keepO [10210]] (ps := []) (e := .normal) (σ' := ⟨[10210], [(11, vi v11), (10, vi v10), (9, vi r21b), (8, vo 10210 (List.length r21)), (7, vb false), (6, vi 0), (0, vi x0)], [(10210, oc 3 (List.map (T.int .i64) r21))]⟩) (by kernel_rfl) trivial ?_
            obtain ⟨c4, h⟩ := chk_some h
            refine WP.path tab_ok mixed [(28, An.v (T.int .i64 (v11 + (1 : Int))))] [.keep [11, 10, 9, 8, 7, 6, 0], .keepO [10210], .names [(10210, 10210)]] (ps := [(True), (T.int .i64 (IntKind.wrap .i64 (v11 + (1 : Int))) = T.int .i64 (v11 + (1 : Int)))]) (e := .normal) (σ' := ⟨[10210], [(11, vi (v11 + (1 : Int))), (10, vi v10), (9, vi r21b), (8, vo 10210 (List.length r21)), (7, vb false), (6, vi 0), (0, vi x0)], [(10210, oc 3 (List.map (T.int .i64) r21))]⟩) (by kernel_rfl) ⟨trivial, wrapI c4, trivial⟩ ?_
            exact ⟨(n, (v11 + (1 : Int)), v10), h, Nat.lt_succ_self _, rfl⟩
        · -- no
          refine WP.cond (b := decide (v11 < x0)) rfl (fun hh => by rw [h2] at hh; cases hh) (fun _ => ?_)
          refine WP.path tab_ok mixed [] [.keep [10, 9, 7, 6], .keepO [], .names []] (ps := []) (e := (.exit 0)) (σ' := ⟨[], [(10, vi v10), (9, vi r21b), (7, vb false), (6, vi 0)], []⟩) (by kernel_rfl) trivial ?_
          exact ⟨(v10), h, rfl⟩
    · -- from there
      intro v10 h0
      have h := (show J1 v10 = some (y0, y1) from h0)
      rw [hJ1] at h
      simp only [Option.some.injEq, Prod.mk.injEq] at h
      obtain ⟨rfl, rfl⟩ := h
      exact WP.pathW tab_ok mixed [] _ (ps := [(True)]) (r := T.tup [ti v10, tb (decide (r21b > (0 : Int)))]) (by kernel_rfl) ⟨trivial, trivial⟩ (WkT.eq (y := T.tup [ti v10, tb (decide (r21b > (0 : Int)))]) (WkT.refl _) rfl) (fun _ h => h)
theorem F_impl_within_W (x0 : List Int) (x1 : Int) (y0 : Int) (h : F_impl_within x0 x1 = some y0) : C Try.prog 228 [tl x0, ti x1] (ti y0) := by
  unfold F_impl_within at h
  refine C.intro (tab := tab) tab_ok (fn := Try.f228) Try.func228 (by kernel_rfl) rfl (Nat.le_of_ble_eq_true rfl) ?_
  refine WP.seq ?_
  refine WP.path tab_ok mixed [] [.keep [4, 0, 1], .keepO []] (ps := []) (e := .normal) (σ' := ⟨[], [(4, vi 0), (0, vl x0), (1, vi x1)], []⟩) (by kernel_rfl) trivial ?_
  refine WP.seq ?_
  refine WP.path tab_ok mixed [] [.keep [5, 4, 0, 1], .keepO []] (ps := []) (e := .normal) (σ' := ⟨[], [(5, vi 0), (4, vi 0), (0, vl x0), (1, vi x1)], []⟩) (by kernel_rfl) trivial ?_
  obtain ⟨J1, hJ1, h⟩ := jn_some h
  refine WP.joinA (fun (zz : Int) => ⟨[], [(5, vi zz), (4, vi 0)], []⟩) (fun zz => J1 zz = some y0) ?_ ?_
  · -- to where they meet
    refine WP.seq ?_
    refine WP.path tab_ok mixed [] [.keep [10, 9, 8, 5, 4, 1], .keepO []] (ps := []) (e := .normal) (σ' := ⟨[], [(10, vi 0), (9, vi ((List.length x0 : Nat) : Int)), (8, vl x0), (5, vi 0), (4, vi 0), (1, vi x1)], []⟩) (by kernel_rfl) trivial ?_
    refine WP.block ?_
    refine WP.wk [.keep [10, 9, 8, 5, 4, 1], .keepO [], .names []] (σ' := ⟨[], [(10, vi 0), (9, vi ((List.length x0 : Nat) : Int)), (8, vl x0), (5, vi 0), (4, vi 0), (1, vi x1)], []⟩) (ps := []) (by kernel_rfl) trivial ?_
    refine WP.st (σ' := ⟨[], [(10, vi (0 : Int)), (9, vi ((List.length x0 : Nat) : Int)), (8, vl x0), (5, vi (0 : Int)), (4, vi 0), (1, vi x1)], []⟩) (by first | rfl | (simp only [tlS, tl, vl, vo, oc, ov, tbl, vbl, ty, vy]; done) | (simp only [tlS, tl, vl, vo, oc, ov, tbl, vbl, ty, vy]; rfl) | (simp; done) | (simp []; done) | (rw [List.take_of_length_le (by simp [])]; done) | (rw [List.take_of_length_le (by simp [])]; rfl) | (simp only [tlL]; omega) | (simp; omega)) ?_
    refine WP.loop (α := Nat × Int × Int) (fun zz => ⟨[], [(10, vi zz.2.1), (9, vi ((List.length x0 : Nat) : Int)), (8, vl x0), (5, vi zz.2.2), (4, vi 0), (1, vi x1)], []⟩) (fun zz => F_impl_within_L1 x0 x1 J1 zz.1 zz.2.1 zz.2.2 = some y0) (fun zz => zz.1) (fuel, (0 : Int), (0 : Int)) h ?_
    rintro ⟨n, v10, v5⟩ h0
    have h := (show F_impl_within_L1 x0 x1 J1 n v10 v5 = some y0 from h0)
    rcases n with _ | n
    · rw [F_impl_within_L1] at h; cases h
    · rw [F_impl_within_L1] at h
      refine WP.seq ?_
      refine WP.path tab_ok mixed [] [.keep [11, 10, 9, 8, 5, 4, 1], .keepO []] (ps := [(True)]) (e := .normal) (σ' := ⟨[], [(11, vb (decide (v10 < ((List.length x0 : Nat) : Int)))), (10, vi v10), (9, vi ((List.length x0 : Nat) : Int)), (8, vl x0), (5, vi v5), (4, vi 0), (1, vi x1)], []⟩) (by kernel_rfl) ⟨trivial, trivial⟩ ?_
      refine WP.seq ?_
      rcases ite_some h with ⟨h1, h⟩ | ⟨h1, h⟩
      · -- yes
        refine WP.cond (b := decide (v10 < ((List.length x0 : Nat) : Int))) rfl (fun _ => ?_) (fun hh => by rw [h1] at hh; cases hh)
        refine WP.path tab_ok mixed [] [.keep [10, 9, 8, 5, 4, 1], .keepO []] (ps := []) (e := .normal) (σ' := ⟨[], [(10, vi v10), (9, vi ((List.length x0 : Nat) : Int)), (8, vl x0), (5, vi v5), (4, vi 0), (1, vi x1)], []⟩) (by kernel_rfl) trivial ?_
        refine WP.seq ?_
        refine WP.block ?_
        refine WP.seq ?_
        obtain ⟨c0, h⟩ := chk_some h
        refine WP.path tab_ok mixed [(14, An.v (ti (List.getD x0 (Int.toNat v10) 0)))] [.keep [7, 6, 10, 9, 8, 5, 4, 1], .keepO []] (ps := [((0 ≤ v10 ∧ v10 < ((List.length x0 : Nat) : Int))), ((List.drop ((Int.toNat v10) * 1) (List.map (T.int .i64) x0) : List T)[0]? = some (ti (List.getD x0 (Int.toNat v10) 0))), (ti (List.getD x0 (Int.toNat v10) 0) = ti (List.getD x0 (Int.toNat v10) 0))]) (e := .normal) (σ' := ⟨[], [(7, vi (List.getD x0 (Int.toNat v10) 0)), (6, vi v10), (10, vi v10), (9, vi ((List.length x0 : Nat) : Int)), (8, vl x0), (5, vi v5), (4, vi 0), (1, vi x1)], []⟩) (by kernel_rfl) ⟨c0, at1 (by simp) (by omega), rfl, trivial⟩ ?_
        refine WP.seq ?_
        obtain ⟨c1, h⟩ := chk_some h
        refine WP.path tab_ok mixed [(17, An.call (tb (hasB x1 v10)))] [.keep [17, 7, 10, 9, 8, 5, 4, 1], .keepO []] (ps := [(C Try.prog 214 [ti x1, ti v10] (tb (hasB x1 v10)))]) (e := .normal) (σ' := ⟨[], [(17, vb (hasB x1 v10)), (7, vi (List.getD x0 (Int.toNat v10) 0)), (10, vi v10), (9, vi ((List.length x0 : Nat) : Int)), (8, vl x0), (5, vi v5), (4, vi 0), (1, vi x1)], []⟩) (by kernel_rfl) ⟨(has_C x1 v10 c1), trivial⟩ ?_
        rcases ite_some h with ⟨h2, h⟩ | ⟨h2, h⟩
        · -- yes
          refine WP.cond (b := hasB x1 v10) rfl (fun _ => ?_) (fun hh => by rw [h2] at hh; cases hh)
          obtain ⟨c2, h⟩ := chk_some h
          refine WP.path tab_ok mixed [(20, An.v (T.int .i64 (v5 + (List.getD x0 (Int.toNat v10) 0))))] [.keep [5, 10, 9, 8, 4, 1], .keepO []] (ps := [(True), (T.int .i64 (IntKind.wrap .i64 (v5 + (List.getD x0 (Int.toNat v10) 0))) = T.int .i64 (v5 + (List.getD x0 (Int.toNat v10) 0)))]) (e := .normal) (σ' := ⟨[], [(5, vi (v5 + (List.getD x0 (Int.toNat v10) 0))), (10, vi v10), (9, vi ((List.length x0 : Nat) : Int)), (8, vl x0), (4, vi 0), (1, vi x1)], []⟩) (by kernel_rfl) ⟨trivial, wrapI c2, trivial⟩ ?_
          obtain ⟨c3, h⟩ := chk_some h
          refine WP.path tab_ok mixed [(21, An.v (T.int .i64 (v10 + (1 : Int))))] [.keep [10, 9, 8, 5, 4, 1], .keepO [], .names []] (ps := [(True), (T.int .i64 (IntKind.wrap .i64 (v10 + (1 : Int))) = T.int .i64 (v10 + (1 : Int)))]) (e := .normal) (σ' := ⟨[], [(10, vi (v10 + (1 : Int))), (9, vi ((List.length x0 : Nat) : Int)), (8, vl x0), (5, vi (v5 + (List.getD x0 (Int.toNat v10) 0))), (4, vi 0), (1, vi x1)], []⟩) (by kernel_rfl) ⟨trivial, wrapI c3, trivial⟩ ?_
          exact ⟨(n, (v10 + (1 : Int)), (v5 + (List.getD x0 (Int.toNat v10) 0))), h, Nat.lt_succ_self _, rfl⟩
        · -- no
          refine WP.cond (b := hasB x1 v10) rfl (fun hh => by rw [h2] at hh; cases hh) (fun _ => ?_)
          refine WP.path tab_ok mixed [] [.keep [10, 9, 8, 5, 4, 1], .keepO []] (ps := []) (e := .normal) (σ' := ⟨[], [(10, vi v10), (9, vi ((List.length x0 : Nat) : Int)), (8, vl x0), (5, vi v5), (4, vi 0), (1, vi x1)], []⟩) (by kernel_rfl) trivial ?_
          obtain ⟨c2, h⟩ := chk_some h
          refine WP.path tab_ok mixed [(21, An.v (T.int .i64 (v10 + (1 : Int))))] [.keep [10, 9, 8, 5, 4, 1], .keepO [], .names []] (ps := [(True), (T.int .i64 (IntKind.wrap .i64 (v10 + (1 : Int))) = T.int .i64 (v10 + (1 : Int)))]) (e := .normal) (σ' := ⟨[], [(10, vi (v10 + (1 : Int))), (9, vi ((List.length x0 : Nat) : Int)), (8, vl x0), (5, vi v5), (4, vi 0), (1, vi x1)], []⟩) (by kernel_rfl) ⟨trivial, wrapI c2, trivial⟩ ?_
          exact ⟨(n, (v10 + (1 : Int)), v5), h, Nat.lt_succ_self _, rfl⟩
      · -- no
        refine WP.cond (b := decide (v10 < ((List.length x0 : Nat) : Int))) rfl (fun hh => by rw [h1] at hh; cases hh) (fun _ => ?_)
        refine WP.path tab_ok mixed [] [.keep [5, 4], .keepO [], .names []] (ps := []) (e := (.exit 0)) (σ' := ⟨[], [(5, vi v5), (4, vi 0)], []⟩) (by kernel_rfl) trivial ?_
        exact ⟨(v5), h, rfl⟩
  · -- from there
    intro v5 h0
    have h := (show J1 v5 = some y0 from h0)
    rw [hJ1] at h
    have h := Option.some.inj h
    subst h
    exact WP.pathW tab_ok mixed [] _ (ps := []) (r := ti v5) (by kernel_rfl) trivial (WkT.eq (y := ti v5) (WkT.refl _) rfl) (fun _ h => h)
theorem F_impl_EvenAfter_W (x0 : Int) (x1 : List (Int × Bool)) (x2 : Int) (x3 : Int) (y0 : Int) (y1 : Bool) (h : F_impl_EvenAfter x0 x1 x2 x3 = some (y0, y1)) : C Try.prog 114 [ti x0, T.list (List.length x1) 2 (List.flatMap askedC x1), T.agg [ti x2, ti x3]] (T.tup [ti y0, tb y1]) := by
  unfold F_impl_EvenAfter at h
  refine C.intro (tab := tab) tab_ok (fn := Try.f114) Try.func114 (by kernel_rfl) rfl (Nat.le_of_ble_eq_true rfl) ?_
  refine WP.seq ?_
  refine WP.path tab_ok mixed [(5, An.fz)] [.keep [7, 6, 5, 0, 1], .keepO []] (ps := []) (e := .normal) (σ' := ⟨[], [(7, vb false), (6, vi 0), (5, V.t (T.ptr [ti x2, ti x3])), (0, vi x0), (1, V.t (T.list (List.length x1) 2 (List.flatMap askedC x1)))], []⟩) (by kernel_rfl) trivial ?_
  refine WP.seq ?_
  obtain ⟨r19, r19b, r19c, c0, h⟩ := bnd3_some h
  refine WP.path tab_ok mixed [(19, An.callG [(9000, 10190)] [vi x0, V.t (T.list (List.length x1) 2 (List.flatMap askedC x1)), V.t (T.agg [ti x2, ti x3]), vi 12] [] (V.tup [vo 9000 (List.length r19), vi r19b, vb r19c]) [(9000, oc 3 (List.map (T.int .i64) r19))])] [.keep [10, 9, 8, 7, 6, 0], .keepO [10190]] (ps := [(2 ≤ 2), (CG Try.prog 225 [vi x0, V.t (T.list (List.length x1) 2 (List.flatMap askedC x1)), V.t (T.agg [ti x2, ti x3]), vi 12] [] (V.tup [vo 9000 (List.length r19), vi r19b, vb r19c]) [(9000, oc 3 (List.map (T.int .i64) r19))]), (WkT (ti x0) (ti x0)), (WkT (T.list (List.length x1) 2 (List.flatMap askedC x1)) (T.list (List.length x1) 2 (List.flatMap askedC x1))), (WkT (T.agg [ti x2, ti x3]) (T.agg [ti x2, ti x3])), (WkT (ti 12) (ti 12))]) (e := .normal) (σ' := ⟨[10190], [(10, vb r19c), (9, vi r19b), (8, vo 10190 (List.length r19)), (7, vb false), (6, vi 0), (0, vi x0)], [(10190, oc 3 (List.map (T.int .i64) r19))]⟩) (by kernel_rfl) ⟨by decide, (F_impl_sharesAfter_W x0 x1 x2 x3 (12 : Int) r19 r19b r19c c0), WkT.refl _, WkT.refl _, WkT.refl _, WkT.refl _, trivial⟩ ?_
  refine WP.seq ?_
  refine WP.seq ?_
  refine WP.path tab_ok mixed [] [.keep [24, 9, 8, 7, 6, 0], .keepO [10190]] (ps := []) (e := .normal) (σ' := ⟨[10190], [(24, vb !r19c), (9, vi r19b), (8, vo 10190 (List.length r19)), (7, vb false), (6, vi 0), (0, vi x0)], [(10190, oc 3 (List.map (T.int .i64) r19))]⟩) (by kernel_rfl) trivial ?_
  rcases ite_some h with ⟨h1, h⟩ | ⟨h1, h⟩
  · -- yes
    refine WP.cond (b := !r19c) rfl (fun _ => ?_) (fun hh => by rw [h1] at hh; cases hh)
    simp only [Option.some.injEq, Prod.mk.injEq] at h
    obtain ⟨rfl, rfl⟩ := h
    exact WP.pathW tab_ok mixed [] _ (ps := []) (r := T.tup [ti 0, tb false]) (by kernel_rfl) trivial (WkT.eq (y := T.tup [ti 0, tb false]) (WkT.refl _) (by first | rfl | (simp only [tlS, tl, vl, vo, oc, ov, tbl, vbl, ty, vy]; done) | (simp only [tlS, tl, vl, vo, oc, ov, tbl, vbl, ty, vy]; rfl) | (simp; done) | (simp []; done) | (rw [List.take_of_length_le (by simp [])]; done) | (rw [List.take_of_length_le (by simp [])]; rfl) | (simp only [tlL]; omega) | (simp; omega))) (fun _ h => h)
  · -- no
    refine WP.cond (b := !r19c) rfl (fun hh => by rw [h1] at hh; cases hh) (fun _ => ?_)
    refine WP.path tab_ok mixed [] [.keep [9, 8, 7, 6, 0], .keepO [10190]] (ps := []) (e := .normal) (σ' := ⟨[10190], [(9, vi r19b), (8, vo 10190 (List.length r19)), (7, vb false), (6, vi 0), (0, vi x0)], [(10190, oc 3 (List.map (T.int .i64) r19))]⟩) (by kernel_rfl) trivial ?_
    refine WP.seq ?_
    refine WP.path tab_ok mixed [] [.keep [12, 11, 9, 8, 7, 6, 0], .keepO [10190]] (ps := []) (e := .normal) (σ' := ⟨[10190], [(12, vi r19b), (11, vi 0), (9, vi r19b), (8, vo 10190 (List.length r19)), (7, vb false), (6, vi 0), (0, vi x0)], [(10190, oc 3 (List.map (T.int .i64) r19))]⟩) (by kernel_rfl) trivial ?_
    obtain ⟨J1, hJ1, h⟩ := jn_some h
    refine WP.joinA (fun (zz : Int) => ⟨[], [(11, vi zz), (7, vb false), (6, vi 0)], []⟩) (fun zz => J1 zz = some (y0, y1)) ?_ ?_
    · -- to where they meet
      refine WP.seq ?_
      obtain ⟨c1, h⟩ := chk_some h
      refine WP.path tab_ok mixed [(27, An.v (T.int .i64 ((1 : Int) * 2 ^ Int.toNat x0)))] [.keep [28, 27, 12, 11, 9, 8, 7, 6], .keepO [10190]] (ps := [(0 ≤ x0), (T.int .i64 (IntKind.wrap .i64 ((1 : Int) * 2 ^ (min (Int.toNat x0) 64))) = T.int .i64 ((1 : Int) * 2 ^ Int.toNat x0))]) (e := .normal) (σ' := ⟨[10190], [(28, vi 0), (27, vi ((1 : Int) * 2 ^ Int.toNat x0)), (12, vi r19b), (11, vi 0), (9, vi r19b), (8, vo 10190 (List.length r19)), (7, vb false), (6, vi 0)], [(10190, oc 3 (List.map (T.int .i64) r19))]⟩) (by kernel_rfl) ⟨c1.1, shl_told c1, trivial⟩ ?_
      refine WP.block ?_
      refine WP.wk [.keep [28, 27, 12, 11, 9, 8, 7, 6], .keepO [10190], .names [(10190, 10190)]] (σ' := ⟨[10190], [(28, vi 0), (27, vi ((1 : Int) * 2 ^ Int.toNat x0)), (12, vi r19b), (11, vi 0), (9, vi r19b), (8, vo 10190 (List.length r19)), (7, vb false), (6, vi 0)], [(10190, oc 3 (List.map (T.int .i64) r19))]⟩) (ps := []) (by kernel_rfl) trivial ?_
      refine WP.st (σ' := ⟨[10190], [(28, vi (0 : Int)), (27, vi ((1 : Int) * 2 ^ Int.toNat x0)), (12, vi r19b), (11, vi (0 : Int)), (9, vi r19b), (8, vo 10190 (List.length r19)), (7, vb false), (6, vi 0)], [(10190, oc 3 (List.map (T.int .i64) r19))]⟩) (by first | rfl | (simp only [tlS, tl, vl, vo, oc, ov, tbl, vbl, ty, vy]; done) | (simp only [tlS, tl, vl, vo, oc, ov, tbl, vbl, ty, vy]; rfl) | (simp; done) | (simp []; done) | (rw [List.take_of_length_le (by simp [])]; done) | (rw [List.take_of_length_le (by simp [])]; rfl) | (simp only [tlL]; omega) | (simp; omega)) ?_
      refine WP.loop (α := Nat × Int × Int × Int) (fun zz => ⟨[10190], [(28, vi zz.2.1), (27, vi ((1 : Int) * 2 ^ Int.toNat x0)), (12, vi zz.2.2.1), (11, vi zz.2.2.2), (9, vi r19b), (8, vo 10190 (List.length r19)), (7, vb false), (6, vi 0)], [(10190, oc 3 (List.map (T.int .i64) r19))]⟩) (fun zz => F_impl_EvenAfter_L1 x0 r19 r19b J1 zz.1 zz.2.1 zz.2.2.1 zz.2.2.2 = some (y0, y1)) (fun zz => zz.1) (fuel, (0 : Int), r19b, (0 : Int)) h ?_
      rintro ⟨n, v28, v12, v11⟩ h0
      have h := (show F_impl_EvenAfter_L1 x0 r19 r19b J1 n v28 v12 v11 = some (y0, y1) from h0)
      rcases n with _ | n
      · rw [F_impl_EvenAfter_L1] at h; cases h
      · rw [F_impl_EvenAfter_L1] at h
        refine WP.seq ?_
        refine WP.path tab_ok mixed [] [.keep [29, 28, 27, 12, 11, 9, 8, 7, 6], .keepO [10190]] (ps := [(True)]) (e := .normal) (σ' := ⟨[10190], [(29, vb (decide (v28 < ((1 : Int) * 2 ^ Int.toNat x0)))), (28, vi v28), (27, vi ((1 : Int) * 2 ^ Int.toNat x0)), (12, vi v12), (11, vi v11), (9, vi r19b), (8, vo 10190 (List.length r19)), (7, vb false), (6, vi 0)], [(10190, oc 3 (List.map (T.int .i64) r19))]⟩) (by kernel_rfl) ⟨trivial, trivial⟩ ?_
        refine WP.seq ?_
        rcases ite_some h with ⟨h2, h⟩ | ⟨h2, h⟩
        · -- yes
          refine WP.cond (b := decide (v28 < ((1 : Int) * 2 ^ Int.toNat x0))) rfl (fun _ => ?_) (fun hh => by rw [h2] at hh; cases hh)
          refine WP.path tab_ok mixed [] [.keep [28, 27, 12, 11, 9, 8, 7, 6], .keepO [10190]] (ps := []) (e := .normal) (σ' := ⟨[10190], [(28, vi v28), (27, vi ((1 : Int) * 2 ^ Int.toNat x0)), (12, vi v12), (11, vi v11), (9, vi r19b), (8, vo 10190 (List.length r19)), (7, vb false), (6, vi 0)], [(10190, oc 3 (List.map (T.int .i64) r19))]⟩) (by kernel_rfl) trivial ?_
          refine WP.seq ?_
          refine WP.block ?_
          refine WP.seq ?_
          refine WP.path tab_ok mixed [] [.keep [13, 28, 27, 12, 11, 9, 8, 7, 6], .keepO [10190]] (ps := []) (e := .normal) (σ' := ⟨[10190], [(13, vi v28), (28, vi v28), (27, vi ((1 : Int) * 2 ^ Int.toNat x0)), (12, vi v12), (11, vi v11), (9, vi r19b), (8, vo 10190 (List.length r19)), (7, vb false), (6, vi 0)], [(10190, oc 3 (List.map (T.int .i64) r19))]⟩) (by kernel_rfl) trivial ?_
          refine WP.seq ?_
          obtain ⟨r33, c2, h⟩ := bnd1_some h
          obtain ⟨c3, h⟩ := chk_some h
          obtain ⟨c4, h⟩ := chk_some h
          refine WP.path tab_ok mixed [(33, An.call (ti r33)), (34, An.v (T.int .i64 ((2 : Int) * r33))), (36, An.v (T.int .i64 (((2 : Int) * r33) - r19b)))] [.keep [14, 13, 28, 27, 12, 11, 9, 8, 7, 6], .keepO [10190]] (ps := [(C Try.prog 228 [tl r19, ti v28] (ti r33)), (List.length (List.map (T.int .i64) r19) = (List.length r19) * 1), (True), (T.int .i64 (IntKind.wrap .i64 ((2 : Int) * r33)) = T.int .i64 ((2 : Int) * r33)), (True), (T.int .i64 (IntKind.wrap .i64 (((2 : Int) * r33) - r19b)) = T.int .i64 (((2 : Int) * r33) - r19b))]) (e := .normal) (σ' := ⟨[10190], [(14, vi (((2 : Int) * r33) - r19b)), (13, vi v28), (28, vi v28), (27, vi ((1 : Int) * 2 ^ Int.toNat x0)), (12, vi v12), (11, vi v11), (9, vi r19b), (8, vo 10190 (List.length r19)), (7, vb false), (6, vi 0)], [(10190, oc 3 (List.map (T.int .i64) r19))]⟩) (by kernel_rfl) ⟨(F_impl_within_W r19 v28 r33 c2), by first | rfl | (simp; done) | omega | (simp only [tlL]; omega) | (simp; omega) | (simp []; done) | (simp []; omega), trivial, wrapI c3, trivial, wrapI c4, trivial⟩ ?_
          refine WP.seq ?_
          obtain ⟨c5, h⟩ := chk_some h
          refine WP.path tab_ok mixed [(39, An.v (T.int .i64 (0 - (((2 : Int) * r33) - r19b))))] [.keep [14, 13, 28, 27, 12, 11, 9, 8, 7, 6], .keepO [10190]] (ps := [(T.int .i64 (IntKind.wrap .i64 (0 - (((2 : Int) * r33) - r19b))) = T.int .i64 (0 - (((2 : Int) * r33) - r19b)))]) (e := .normal) (σ' := ⟨[10190], [(14, vi (max (((2 : Int) * r33) - r19b) (0 - (((2 : Int) * r33) - r19b)))), (13, vi v28), (28, vi v28), (27, vi ((1 : Int) * 2 ^ Int.toNat x0)), (12, vi v12), (11, vi v11), (9, vi r19b), (8, vo 10190 (List.length r19)), (7, vb false), (6, vi 0)], [(10190, oc 3 (List.map (T.int .i64) r19))]⟩) (by kernel_rfl) ⟨wrapI c5, trivial⟩ ?_
          refine WP.seq ?_
          refine WP.path tab_ok mixed [] [.keep [43, 14, 13, 28, 27, 12, 11, 9, 8, 7, 6], .keepO [10190]] (ps := [(True)]) (e := .normal) (σ' := ⟨[10190], [(43, vb (decide ((max (((2 : Int) * r33) - r19b) (0 - (((2 : Int) * r33) - r19b))) < v12))), (14, vi (max (((2 : Int) * r33) - r19b) (0 - (((2 : Int) * r33) - r19b)))), (13, vi v28), (28, vi v28), (27, vi ((1 : Int) * 2 ^ Int.toNat x0)), (12, vi v12), (11, vi v11), (9, vi r19b), (8, vo 10190 (List.length r19)), (7, vb false), (6, vi 0)], [(10190, oc 3 (List.map (T.int .i64) r19))]⟩) (by kernel_rfl) ⟨trivial, trivial⟩ ?_
          rcases ite_some h with ⟨h3, h⟩ | ⟨h3, h⟩
          · -- yes
            refine WP.cond (b := decide ((max (((2 : Int) * r33) - r19b) (0 - (((2 : Int) * r33) - r19b))) < v12)) rfl (fun _ => ?_) (fun hh => by rw [h3] at hh; cases hh)
            refine WP.path tab_ok mixed [] [.keep [12, 11, 28, 27, 9, 8, 7, 6], .keepO [10190]] (ps := []) (e := .normal) (σ' := ⟨[10190], [(12, vi (max (((2 : Int) * r33) - r19b) (0 - (((2 : Int) * r33) - r19b)))), (11, vi v28), (28, vi v28), (27, vi ((1 : Int) * 2 ^ Int.toNat x0)), (9, vi r19b), (8, vo 10190 (List.length r19)), (7, vb false), (6, vi 0)], [(10190, oc 3 (List.map (T.int .i64) r19))]⟩) (by kernel_rfl) trivial ?_
            obtain ⟨c6, h⟩ := chk_some h
            refine WP.path tab_ok mixed [(46, An.v (T.int .i64 (v28 + (1 : Int))))] [.keep [28, 27, 12, 11, 9, 8, 7, 6], .keepO [10190], .names [(10190, 10190)]] (ps := [(True), (T.int .i64 (IntKind.wrap .i64 (v28 + (1 : Int))) = T.int .i64 (v28 + (1 : Int)))]) (e := .normal) (σ' := ⟨[10190], [(28, vi (v28 + (1 : Int))), (27, vi ((1 : Int) * 2 ^ Int.toNat x0)), (12, vi (max (((2 : Int) * r33) - r19b) (0 - (((2 : Int) * r33) - r19b)))), (11, vi v28), (9, vi r19b), (8, vo 10190 (List.length r19)), (7, vb false), (6, vi 0)], [(10190, oc 3 (List.map (T.int .i64) r19))]⟩) (by kernel_rfl) ⟨trivial, wrapI c6, trivial⟩ ?_
            exact ⟨(n, (v28 + (1 : Int)), (max (((2 : Int) * r33) - r19b) (0 - (((2 : Int) * r33) - r19b))), v28), h, Nat.lt_succ_self _, rfl⟩
          · -- no
            refine WP.cond (b := decide ((max (((2 : Int) * r33) - r19b) (0 - (((2 : Int) * r33) - r19b))) < v12)) rfl (fun hh => by rw [h3] at hh; cases hh) (fun _ => ?_)
            refine WP.path tab_ok mixed [] [.keep [28, 27, 12, 11, 9, 8, 7, 6], .keepO [10190]] (ps := []) (e := .normal) (σ' := ⟨[10190], [(28, vi v28), (27, vi ((1 : Int) * 2 ^ Int.toNat x0)), (12, vi v12), (11, vi v11), (9, vi r19b), (8, vo 10190 (List.length r19)), (7, vb false), (6, vi 0)], [(10190, oc 3 (List.map (T.int .i64) r19))]⟩) (by kernel_rfl) trivial ?_
            obtain ⟨c6, h⟩ := chk_some h
            refine WP.path tab_ok mixed [(46, An.v (T.int .i64 (v28 + (1 : Int))))] [.keep [28, 27, 12, 11, 9, 8, 7, 6], .keepO [10190], .names [(10190, 10190)]] (ps := [(True), (T.int .i64 (IntKind.wrap .i64 (v28 + (1 : Int))) = T.int .i64 (v28 + (1 : Int)))]) (e := .normal) (σ' := ⟨[10190], [(28, vi (v28 + (1 : Int))), (27, vi ((1 : Int) * 2 ^ Int.toNat x0)), (12, vi v12), (11, vi v11), (9, vi r19b), (8, vo 10190 (List.length r19)), (7, vb false), (6, vi 0)], [(10190, oc 3 (List.map (T.int .i64) r19))]⟩) (by kernel_rfl) ⟨trivial, wrapI c6, trivial⟩ ?_
            exact ⟨(n, (v28 + (1 : Int)), v12, v11), h, Nat.lt_succ_self _, rfl⟩
        · -- no
          refine WP.cond (b := decide (v28 < ((1 : Int) * 2 ^ Int.toNat x0))) rfl (fun hh => by rw [h2] at hh; cases hh) (fun _ => ?_)
          refine WP.path tab_ok mixed [] [.keep [11, 7, 6], .keepO [], .names []] (ps := []) (e := (.exit 0)) (σ' := ⟨[], [(11, vi v11), (7, vb false), (6, vi 0)], []⟩) (by kernel_rfl) trivial ?_
          exact ⟨(v11), h, rfl⟩
    · -- from there
      intro v11 h0
      have h := (show J1 v11 = some (y0, y1) from h0)
      rw [hJ1] at h
      simp only [Option.some.injEq, Prod.mk.injEq] at h
      obtain ⟨rfl, rfl⟩ := h
      exact WP.pathW tab_ok mixed [] _ (ps := []) (r := T.tup [ti v11, tb true]) (by kernel_rfl) trivial (WkT.eq (y := T.tup [ti v11, tb true]) (WkT.refl _) rfl) (fun _ h => h)
theorem F_spec_l7In_W (x0 : List Int) (x1 : Int) (y0 : Int) (h : F_spec_l7In x0 x1 = some y0) : C Try.prog 229 [tl x0, ti x1] (ti y0) := by
  unfold F_spec_l7In at h
  refine C.intro (tab := tab) tab_ok (fn := Try.f229) Try.func229 (by kernel_rfl) rfl (Nat.le_of_ble_eq_true rfl) ?_
  refine WP.seq ?_
  refine WP.path tab_ok mixed [] [.keep [4, 0, 1], .keepO []] (ps := []) (e := .normal) (σ' := ⟨[], [(4, vi 0), (0, vl x0), (1, vi x1)], []⟩) (by kernel_rfl) trivial ?_
  refine WP.seq ?_
  refine WP.path tab_ok mixed [] [.keep [5, 4, 0, 1], .keepO []] (ps := []) (e := .normal) (σ' := ⟨[], [(5, vi 0), (4, vi 0), (0, vl x0), (1, vi x1)], []⟩) (by kernel_rfl) trivial ?_
  obtain ⟨J1, hJ1, h⟩ := jn_some h
  refine WP.joinA (fun (zz : Int) => ⟨[], [(5, vi zz), (4, vi 0)], []⟩) (fun zz => J1 zz = some y0) ?_ ?_
  · -- to where they meet
    refine WP.seq ?_
    refine WP.path tab_ok mixed [] [.keep [6, 5, 4, 0, 1], .keepO []] (ps := []) (e := .normal) (σ' := ⟨[], [(6, vi 0), (5, vi 0), (4, vi 0), (0, vl x0), (1, vi x1)], []⟩) (by kernel_rfl) trivial ?_
    refine WP.block ?_
    refine WP.wk [.keep [6, 5, 4, 0, 1], .keepO [], .names []] (σ' := ⟨[], [(6, vi 0), (5, vi 0), (4, vi 0), (0, vl x0), (1, vi x1)], []⟩) (ps := []) (by kernel_rfl) trivial ?_
    refine WP.st (σ' := ⟨[], [(6, vi (0 : Int)), (5, vi (0 : Int)), (4, vi 0), (0, vl x0), (1, vi x1)], []⟩) (by first | rfl | (simp only [tlS, tl, vl, vo, oc, ov, tbl, vbl, ty, vy]; done) | (simp only [tlS, tl, vl, vo, oc, ov, tbl, vbl, ty, vy]; rfl) | (simp; done) | (simp []; done) | (rw [List.take_of_length_le (by simp [])]; done) | (rw [List.take_of_length_le (by simp [])]; rfl) | (simp only [tlL]; omega) | (simp; omega)) ?_
    refine WP.loop (α := Nat × Int × Int) (fun zz => ⟨[], [(6, vi zz.2.1), (5, vi zz.2.2), (4, vi 0), (0, vl x0), (1, vi x1)], []⟩) (fun zz => F_spec_l7In_L1 x0 x1 J1 zz.1 zz.2.1 zz.2.2 = some y0) (fun zz => zz.1) (fuel, (0 : Int), (0 : Int)) h ?_
    rintro ⟨n, v6, v5⟩ h0
    have h := (show F_spec_l7In_L1 x0 x1 J1 n v6 v5 = some y0 from h0)
    rcases n with _ | n
    · rw [F_spec_l7In_L1] at h; cases h
    · rw [F_spec_l7In_L1] at h
      refine WP.seq ?_
      refine WP.seq ?_
      refine WP.path tab_ok mixed [] [.keep [10, 6, 5, 4, 0, 1], .keepO []] (ps := [(True)]) (e := .normal) (σ' := ⟨[], [(10, vb (decide (v6 < ((List.length x0 : Nat) : Int)))), (6, vi v6), (5, vi v5), (4, vi 0), (0, vl x0), (1, vi x1)], []⟩) (by kernel_rfl) ⟨trivial, trivial⟩ ?_
      rcases ite_some h with ⟨h1, h⟩ | ⟨h1, h⟩
      · -- yes
        refine WP.cond (b := decide (v6 < ((List.length x0 : Nat) : Int))) rfl (fun _ => ?_) (fun hh => by rw [h1] at hh; cases hh)
        refine WP.path tab_ok mixed [] [.keep [6, 5, 4, 0, 1], .keepO []] (ps := []) (e := .normal) (σ' := ⟨[], [(6, vi v6), (5, vi v5), (4, vi 0), (0, vl x0), (1, vi x1)], []⟩) (by kernel_rfl) trivial ?_
        refine WP.seq ?_
        refine WP.block ?_
        refine WP.seq ?_
        obtain ⟨c0, h⟩ := chk_some h
        obtain ⟨n16, c1, h⟩ := nam_some h
        refine WP.path tab_ok mixed [(15, An.v (T.int .i64 (x1 / 2 ^ Int.toNat v6))), (16, An.v (ti n16))] [.keep [17, 6, 5, 4, 0, 1], .keepO []] (ps := [(0 ≤ v6), (T.int .i64 (Int.fdiv x1 (2 ^ (min (Int.toNat v6) 64))) = T.int .i64 (x1 / 2 ^ Int.toNat v6)), (True), (ti (bits .and .i64 (x1 / 2 ^ Int.toNat v6) (1 : Int)) = ti n16), (True)]) (e := .normal) (σ' := ⟨[], [(17, vb (n16 == (1 : Int))), (6, vi v6), (5, vi v5), (4, vi 0), (0, vl x0), (1, vi x1)], []⟩) (by kernel_rfl) ⟨c0.1, shr_told c0, trivial, congrArg (ti) c1, trivial, trivial⟩ ?_
        rcases ite_some h with ⟨h2, h⟩ | ⟨h2, h⟩
        · -- yes
          refine WP.cond (b := n16 == (1 : Int)) rfl (fun _ => ?_) (fun hh => by rw [h2] at hh; cases hh)
          obtain ⟨c2, h⟩ := chk_some h
          obtain ⟨c3, h⟩ := chk_some h
          refine WP.path tab_ok mixed [(22, An.v (ti (List.getD x0 (Int.toNat v6) 0))), (23, An.v (T.int .i64 (v5 + (List.getD x0 (Int.toNat v6) 0))))] [.keep [5, 6, 4, 0, 1], .keepO []] (ps := [((0 ≤ v6 ∧ v6 < ((List.length x0 : Nat) : Int))), ((List.drop ((Int.toNat v6) * 1) (List.map (T.int .i64) x0) : List T)[0]? = some (ti (List.getD x0 (Int.toNat v6) 0))), (ti (List.getD x0 (Int.toNat v6) 0) = ti (List.getD x0 (Int.toNat v6) 0)), (True), (T.int .i64 (IntKind.wrap .i64 (v5 + (List.getD x0 (Int.toNat v6) 0))) = T.int .i64 (v5 + (List.getD x0 (Int.toNat v6) 0)))]) (e := .normal) (σ' := ⟨[], [(5, vi (v5 + (List.getD x0 (Int.toNat v6) 0))), (6, vi v6), (4, vi 0), (0, vl x0), (1, vi x1)], []⟩) (by kernel_rfl) ⟨c2, at1 (by simp) (by omega), rfl, trivial, wrapI c3, trivial⟩ ?_
          obtain ⟨c4, h⟩ := chk_some h
          refine WP.path tab_ok mixed [(12, An.v (T.int .i64 (v6 + (1 : Int))))] [.keep [6, 5, 4, 0, 1], .keepO [], .names []] (ps := [(True), (T.int .i64 (IntKind.wrap .i64 (v6 + (1 : Int))) = T.int .i64 (v6 + (1 : Int)))]) (e := .normal) (σ' := ⟨[], [(6, vi (v6 + (1 : Int))), (5, vi (v5 + (List.getD x0 (Int.toNat v6) 0))), (4, vi 0), (0, vl x0), (1, vi x1)], []⟩) (by kernel_rfl) ⟨trivial, wrapI c4, trivial⟩ ?_
          exact ⟨(n, (v6 + (1 : Int)), (v5 + (List.getD x0 (Int.toNat v6) 0))), h, Nat.lt_succ_self _, rfl⟩
        · -- no
          refine WP.cond (b := n16 == (1 : Int)) rfl (fun hh => by rw [h2] at hh; cases hh) (fun _ => ?_)
          refine WP.path tab_ok mixed [] [.keep [6, 5, 4, 0, 1], .keepO []] (ps := []) (e := .normal) (σ' := ⟨[], [(6, vi v6), (5, vi v5), (4, vi 0), (0, vl x0), (1, vi x1)], []⟩) (by kernel_rfl) trivial ?_
          obtain ⟨c2, h⟩ := chk_some h
          refine WP.path tab_ok mixed [(12, An.v (T.int .i64 (v6 + (1 : Int))))] [.keep [6, 5, 4, 0, 1], .keepO [], .names []] (ps := [(True), (T.int .i64 (IntKind.wrap .i64 (v6 + (1 : Int))) = T.int .i64 (v6 + (1 : Int)))]) (e := .normal) (σ' := ⟨[], [(6, vi (v6 + (1 : Int))), (5, vi v5), (4, vi 0), (0, vl x0), (1, vi x1)], []⟩) (by kernel_rfl) ⟨trivial, wrapI c2, trivial⟩ ?_
          exact ⟨(n, (v6 + (1 : Int)), v5), h, Nat.lt_succ_self _, rfl⟩
      · -- no
        refine WP.cond (b := decide (v6 < ((List.length x0 : Nat) : Int))) rfl (fun hh => by rw [h1] at hh; cases hh) (fun _ => ?_)
        refine WP.path tab_ok mixed [] [.keep [5, 4], .keepO [], .names []] (ps := []) (e := (.exit 0)) (σ' := ⟨[], [(5, vi v5), (4, vi 0)], []⟩) (by kernel_rfl) trivial ?_
        exact ⟨(v5), h, rfl⟩
  · -- from there
    intro v5 h0
    have h := (show J1 v5 = some y0 from h0)
    rw [hJ1] at h
    have h := Option.some.inj h
    subst h
    exact WP.pathW tab_ok mixed [] _ (ps := []) (r := ti v5) (by kernel_rfl) trivial (WkT.eq (y := ti v5) (WkT.refl _) rfl) (fun _ h => h)
theorem F_spec_EvenAfter_W (x0 : Int) (x1 : List (Int × Bool)) (x2 : Int) (x3 : Int) (y0 : Int) (y1 : Bool) (h : F_spec_EvenAfter x0 x1 x2 x3 = some (y0, y1)) : C Try.prog 115 [ti x0, T.list (List.length x1) 2 (List.flatMap askedC x1), T.agg [ti x2, ti x3]] (T.tup [ti y0, tb y1]) := by
  unfold F_spec_EvenAfter at h
  refine C.intro (tab := tab) tab_ok (fn := Try.f115) Try.func115 (by kernel_rfl) rfl (Nat.le_of_ble_eq_true rfl) ?_
  refine WP.seq ?_
  refine WP.path tab_ok mixed [(5, An.fz)] [.keep [7, 6, 5, 0, 1], .keepO []] (ps := []) (e := .normal) (σ' := ⟨[], [(7, vb false), (6, vi 0), (5, V.t (T.ptr [ti x2, ti x3])), (0, vi x0), (1, V.t (T.list (List.length x1) 2 (List.flatMap askedC x1)))], []⟩) (by kernel_rfl) trivial ?_
  refine WP.seq ?_
  refine WP.seq ?_
  obtain ⟨r17, c0, h⟩ := bnd1_some h
  refine WP.path tab_ok mixed [(17, An.call (tb r17))] [.keep [18, 7, 6, 5, 0, 1], .keepO []] (ps := [(2 ≤ 2), (C Try.prog 226 [ti x0, T.list (List.length x1) 2 (List.flatMap askedC x1), T.agg [ti x2, ti x3]] (tb r17))]) (e := .normal) (σ' := ⟨[], [(18, vb !r17), (7, vb false), (6, vi 0), (5, V.t (T.ptr [ti x2, ti x3])), (0, vi x0), (1, V.t (T.list (List.length x1) 2 (List.flatMap askedC x1)))], []⟩) (by kernel_rfl) ⟨by decide, (F_spec_l7Answers_W x0 x1 x2 x3 r17 c0), trivial⟩ ?_
  rcases ite_some h with ⟨h1, h⟩ | ⟨h1, h⟩
  · -- yes
    refine WP.cond (b := !r17) rfl (fun _ => ?_) (fun hh => by rw [h1] at hh; cases hh)
    simp only [Option.some.injEq, Prod.mk.injEq] at h
    obtain ⟨rfl, rfl⟩ := h
    exact WP.pathW tab_ok mixed [] _ (ps := []) (r := T.tup [ti 0, tb false]) (by kernel_rfl) trivial (WkT.eq (y := T.tup [ti 0, tb false]) (WkT.refl _) (by first | rfl | (simp only [tlS, tl, vl, vo, oc, ov, tbl, vbl, ty, vy]; done) | (simp only [tlS, tl, vl, vo, oc, ov, tbl, vbl, ty, vy]; rfl) | (simp; done) | (simp []; done) | (rw [List.take_of_length_le (by simp [])]; done) | (rw [List.take_of_length_le (by simp [])]; rfl) | (simp only [tlL]; omega) | (simp; omega))) (fun _ h => h)
  · -- no
    refine WP.cond (b := !r17) rfl (fun hh => by rw [h1] at hh; cases hh) (fun _ => ?_)
    refine WP.path tab_ok mixed [] [.keep [7, 6, 5, 0, 1], .keepO []] (ps := []) (e := .normal) (σ' := ⟨[], [(7, vb false), (6, vi 0), (5, V.t (T.ptr [ti x2, ti x3])), (0, vi x0), (1, V.t (T.list (List.length x1) 2 (List.flatMap askedC x1)))], []⟩) (by kernel_rfl) trivial ?_
    refine WP.seq ?_
    obtain ⟨r23, r23b, c1, h⟩ := bnd2_some h
    refine WP.path tab_ok mixed [(23, An.callG [(9000, 10230)] [vi x0, V.t (T.list (List.length x1) 2 (List.flatMap askedC x1)), V.t (T.agg [ti x2, ti x3])] [] (V.tup [vo 9000 (List.length r23), vi r23b]) [(9000, oc 3 (List.map (T.int .i64) r23))])] [.keep [9, 8, 7, 6, 0], .keepO [10230]] (ps := [(2 ≤ 2), (CG Try.prog 227 [vi x0, V.t (T.list (List.length x1) 2 (List.flatMap askedC x1)), V.t (T.agg [ti x2, ti x3])] [] (V.tup [vo 9000 (List.length r23), vi r23b]) [(9000, oc 3 (List.map (T.int .i64) r23))]), (WkT (ti x0) (ti x0)), (WkT (T.list (List.length x1) 2 (List.flatMap askedC x1)) (T.list (List.length x1) 2 (List.flatMap askedC x1))), (WkT (T.agg [ti x2, ti x3]) (T.agg [ti x2, ti x3]))]) (e := .normal) (σ' := ⟨[10230], [(9, vi r23b), (8, vo 10230 (List.length r23)), (7, vb false), (6, vi 0), (0, vi x0)], [(10230, oc 3 (List.map (T.int .i64) r23))]⟩) (by kernel_rfl) ⟨by decide, (F_spec_l7After_W x0 x1 x2 x3 r23 r23b c1), WkT.refl _, WkT.refl _, WkT.refl _, trivial⟩ ?_
    refine WP.seq ?_
    refine WP.seq ?_
    refine WP.path tab_ok mixed [] [.keep [27, 9, 8, 7, 6, 0], .keepO [10230]] (ps := [(True)]) (e := .normal) (σ' := ⟨[10230], [(27, vb (r23b == (0 : Int))), (9, vi r23b), (8, vo 10230 (List.length r23)), (7, vb false), (6, vi 0), (0, vi x0)], [(10230, oc 3 (List.map (T.int .i64) r23))]⟩) (by kernel_rfl) ⟨trivial, trivial⟩ ?_
    rcases ite_some h with ⟨h2, h⟩ | ⟨h2, h⟩
    · -- yes
      refine WP.cond (b := r23b == (0 : Int)) rfl (fun _ => ?_) (fun hh => by rw [h2] at hh; cases hh)
      simp only [Option.some.injEq, Prod.mk.injEq] at h
      obtain ⟨rfl, rfl⟩ := h
      exact WP.pathW tab_ok mixed [] _ (ps := []) (r := T.tup [ti 0, tb false]) (by kernel_rfl) trivial (WkT.eq (y := T.tup [ti 0, tb false]) (WkT.refl _) (by first | rfl | (simp only [tlS, tl, vl, vo, oc, ov, tbl, vbl, ty, vy]; done) | (simp only [tlS, tl, vl, vo, oc, ov, tbl, vbl, ty, vy]; rfl) | (simp; done) | (simp []; done) | (rw [List.take_of_length_le (by simp [])]; done) | (rw [List.take_of_length_le (by simp [])]; rfl) | (simp only [tlL]; omega) | (simp; omega))) (fun _ h => h)
    · -- no
      refine WP.cond (b := r23b == (0 : Int)) rfl (fun hh => by rw [h2] at hh; cases hh) (fun _ => ?_)
      refine WP.path tab_ok mixed [] [.keep [9, 8, 7, 6, 0], .keepO [10230]] (ps := []) (e := .normal) (σ' := ⟨[10230], [(9, vi r23b), (8, vo 10230 (List.length r23)), (7, vb false), (6, vi 0), (0, vi x0)], [(10230, oc 3 (List.map (T.int .i64) r23))]⟩) (by kernel_rfl) trivial ?_
      refine WP.seq ?_
      refine WP.path tab_ok mixed [] [.keep [11, 10, 9, 8, 7, 6, 0], .keepO [10230]] (ps := []) (e := .normal) (σ' := ⟨[10230], [(11, vi r23b), (10, vi 0), (9, vi r23b), (8, vo 10230 (List.length r23)), (7, vb false), (6, vi 0), (0, vi x0)], [(10230, oc 3 (List.map (T.int .i64) r23))]⟩) (by kernel_rfl) trivial ?_
      obtain ⟨J1, hJ1, h⟩ := jn_some h
      refine WP.joinA (fun (zz : Int) => ⟨[], [(10, vi zz), (7, vb false), (6, vi 0)], []⟩) (fun zz => J1 zz = some (y0, y1)) ?_ ?_
      · -- to where they meet
        refine WP.seq ?_
        refine WP.path tab_ok mixed [] [.keep [12, 11, 10, 9, 8, 7, 6, 0], .keepO [10230]] (ps := []) (e := .normal) (σ' := ⟨[10230], [(12, vi 1), (11, vi r23b), (10, vi 0), (9, vi r23b), (8, vo 10230 (List.length r23)), (7, vb false), (6, vi 0), (0, vi x0)], [(10230, oc 3 (List.map (T.int .i64) r23))]⟩) (by kernel_rfl) trivial ?_
        refine WP.block ?_
        refine WP.wk [.keep [12, 11, 10, 9, 8, 7, 6, 0], .keepO [10230], .names [(10230, 10230)]] (σ' := ⟨[10230], [(12, vi 1), (11, vi r23b), (10, vi 0), (9, vi r23b), (8, vo 10230 (List.length r23)), (7, vb false), (6, vi 0), (0, vi x0)], [(10230, oc 3 (List.map (T.int .i64) r23))]⟩) (ps := []) (by kernel_rfl) trivial ?_
        refine WP.st (σ' := ⟨[10230], [(12, vi (1 : Int)), (11, vi r23b), (10, vi (0 : Int)), (9, vi r23b), (8, vo 10230 (List.length r23)), (7, vb false), (6, vi 0), (0, vi x0)], [(10230, oc 3 (List.map (T.int .i64) r23))]⟩) (by first | rfl | (simp only [tlS, tl, vl, vo, oc, ov, tbl, vbl, ty, vy]; done) | (simp only [tlS, tl, vl, vo, oc, ov, tbl, vbl, ty, vy]; rfl) | (simp; done) | (simp []; done) | (rw [List.take_of_length_le (by simp [])]; done) | (rw [List.take_of_length_le (by simp [])]; rfl) | (simp only [tlL]; omega) | (simp; omega)) ?_
        refine WP.loop (α := Nat × Int × Int × Int) (fun zz => ⟨[10230], [(12, vi zz.2.1), (11, vi zz.2.2.1), (10, vi zz.2.2.2), (9, vi r23b), (8, vo 10230 (List.length r23)), (7, vb false), (6, vi 0), (0, vi x0)], [(10230, oc 3 (List.map (T.int .i64) r23))]⟩) (fun zz => F_spec_EvenAfter_L1 x0 r23 r23b J1 zz.1 zz.2.1 zz.2.2.1 zz.2.2.2 = some (y0, y1)) (fun zz => zz.1) (fuel, (1 : Int), r23b, (0 : Int)) h ?_
        rintro ⟨n, v12, v11, v10⟩ h0
        have h := (show F_spec_EvenAfter_L1 x0 r23 r23b J1 n v12 v11 v10 = some (y0, y1) from h0)
        rcases n with _ | n
        · rw [F_spec_EvenAfter_L1] at h; cases h
        · rw [F_spec_EvenAfter_L1] at h
          refine WP.seq ?_
          refine WP.seq ?_
          obtain ⟨c2, h⟩ := chk_some h
          refine WP.path tab_ok mixed [(31, An.v (T.int .i64 ((1 : Int) * 2 ^ Int.toNat x0)))] [.keep [32, 12, 11, 10, 9, 8, 7, 6, 0], .keepO [10230]] (ps := [(0 ≤ x0), (T.int .i64 (IntKind.wrap .i64 ((1 : Int) * 2 ^ (min (Int.toNat x0) 64))) = T.int .i64 ((1 : Int) * 2 ^ Int.toNat x0)), (True)]) (e := .normal) (σ' := ⟨[10230], [(32, vb (decide (v12 < ((1 : Int) * 2 ^ Int.toNat x0)))), (12, vi v12), (11, vi v11), (10, vi v10), (9, vi r23b), (8, vo 10230 (List.length r23)), (7, vb false), (6, vi 0), (0, vi x0)], [(10230, oc 3 (List.map (T.int .i64) r23))]⟩) (by kernel_rfl) ⟨c2.1, shl_told c2, trivial, trivial⟩ ?_
          rcases ite_some h with ⟨h3, h⟩ | ⟨h3, h⟩
          · -- yes
            refine WP.cond (b := decide (v12 < ((1 : Int) * 2 ^ Int.toNat x0))) rfl (fun _ => ?_) (fun hh => by rw [h3] at hh; cases hh)
            refine WP.path tab_ok mixed [] [.keep [12, 11, 10, 9, 8, 7, 6, 0], .keepO [10230]] (ps := []) (e := .normal) (σ' := ⟨[10230], [(12, vi v12), (11, vi v11), (10, vi v10), (9, vi r23b), (8, vo 10230 (List.length r23)), (7, vb false), (6, vi 0), (0, vi x0)], [(10230, oc 3 (List.map (T.int .i64) r23))]⟩) (by kernel_rfl) trivial ?_
            refine WP.seq ?_
            refine WP.block ?_
            refine WP.seq ?_
            obtain ⟨r37, c3, h⟩ := bnd1_some h
            obtain ⟨c4, h⟩ := chk_some h
            obtain ⟨c5, h⟩ := chk_some h
            refine WP.path tab_ok mixed [(37, An.call (ti r37)), (38, An.v (T.int .i64 ((2 : Int) * r37))), (40, An.v (T.int .i64 (((2 : Int) * r37) - r23b)))] [.keep [13, 12, 11, 10, 9, 8, 7, 6, 0], .keepO [10230]] (ps := [(C Try.prog 229 [tl r23, ti v12] (ti r37)), (List.length (List.map (T.int .i64) r23) = (List.length r23) * 1), (True), (T.int .i64 (IntKind.wrap .i64 ((2 : Int) * r37)) = T.int .i64 ((2 : Int) * r37)), (True), (T.int .i64 (IntKind.wrap .i64 (((2 : Int) * r37) - r23b)) = T.int .i64 (((2 : Int) * r37) - r23b))]) (e := .normal) (σ' := ⟨[10230], [(13, vi (((2 : Int) * r37) - r23b)), (12, vi v12), (11, vi v11), (10, vi v10), (9, vi r23b), (8, vo 10230 (List.length r23)), (7, vb false), (6, vi 0), (0, vi x0)], [(10230, oc 3 (List.map (T.int .i64) r23))]⟩) (by kernel_rfl) ⟨(F_spec_l7In_W r23 v12 r37 c3), by first | rfl | (simp; done) | omega | (simp only [tlL]; omega) | (simp; omega) | (simp []; done) | (simp []; omega), trivial, wrapI c4, trivial, wrapI c5, trivial⟩ ?_
            refine WP.seq ?_
            obtain ⟨c6, h⟩ := chk_some h
            refine WP.path tab_ok mixed [(43, An.v (T.int .i64 (0 - (((2 : Int) * r37) - r23b)))), (44, An.call (ti (maxN (((2 : Int) * r37) - r23b) (0 - (((2 : Int) * r37) - r23b)))))] [.keep [13, 12, 11, 10, 9, 8, 7, 6, 0], .keepO [10230]] (ps := [(T.int .i64 (IntKind.wrap .i64 (0 - (((2 : Int) * r37) - r23b))) = T.int .i64 (0 - (((2 : Int) * r37) - r23b))), (C Try.prog 155 [ti (((2 : Int) * r37) - r23b), ti (0 - (((2 : Int) * r37) - r23b))] (ti (maxN (((2 : Int) * r37) - r23b) (0 - (((2 : Int) * r37) - r23b)))))]) (e := .normal) (σ' := ⟨[10230], [(13, vi (maxN (((2 : Int) * r37) - r23b) (0 - (((2 : Int) * r37) - r23b)))), (12, vi v12), (11, vi v11), (10, vi v10), (9, vi r23b), (8, vo 10230 (List.length r23)), (7, vb false), (6, vi 0), (0, vi x0)], [(10230, oc 3 (List.map (T.int .i64) r23))]⟩) (by kernel_rfl) ⟨wrapI c6, (l1Most_C (((2 : Int) * r37) - r23b) (0 - (((2 : Int) * r37) - r23b))), trivial⟩ ?_
            refine WP.seq ?_
            refine WP.path tab_ok mixed [] [.keep [47, 13, 12, 11, 10, 9, 8, 7, 6, 0], .keepO [10230]] (ps := [(True)]) (e := .normal) (σ' := ⟨[10230], [(47, vb (decide ((maxN (((2 : Int) * r37) - r23b) (0 - (((2 : Int) * r37) - r23b))) < v11))), (13, vi (maxN (((2 : Int) * r37) - r23b) (0 - (((2 : Int) * r37) - r23b)))), (12, vi v12), (11, vi v11), (10, vi v10), (9, vi r23b), (8, vo 10230 (List.length r23)), (7, vb false), (6, vi 0), (0, vi x0)], [(10230, oc 3 (List.map (T.int .i64) r23))]⟩) (by kernel_rfl) ⟨trivial, trivial⟩ ?_
            rcases ite_some h with ⟨h4, h⟩ | ⟨h4, h⟩
            · -- yes
              refine WP.cond (b := decide ((maxN (((2 : Int) * r37) - r23b) (0 - (((2 : Int) * r37) - r23b))) < v11)) rfl (fun _ => ?_) (fun hh => by rw [h4] at hh; cases hh)
              refine WP.path tab_ok mixed [] [.keep [11, 10, 12, 9, 8, 7, 6, 0], .keepO [10230]] (ps := []) (e := .normal) (σ' := ⟨[10230], [(11, vi (maxN (((2 : Int) * r37) - r23b) (0 - (((2 : Int) * r37) - r23b)))), (10, vi v12), (12, vi v12), (9, vi r23b), (8, vo 10230 (List.length r23)), (7, vb false), (6, vi 0), (0, vi x0)], [(10230, oc 3 (List.map (T.int .i64) r23))]⟩) (by kernel_rfl) trivial ?_
              obtain ⟨c7, h⟩ := chk_some h
              refine WP.path tab_ok mixed [(34, An.v (T.int .i64 (v12 + (1 : Int))))] [.keep [12, 11, 10, 9, 8, 7, 6, 0], .keepO [10230], .names [(10230, 10230)]] (ps := [(True), (T.int .i64 (IntKind.wrap .i64 (v12 + (1 : Int))) = T.int .i64 (v12 + (1 : Int)))]) (e := .normal) (σ' := ⟨[10230], [(12, vi (v12 + (1 : Int))), (11, vi (maxN (((2 : Int) * r37) - r23b) (0 - (((2 : Int) * r37) - r23b)))), (10, vi v12), (9, vi r23b), (8, vo 10230 (List.length r23)), (7, vb false), (6, vi 0), (0, vi x0)], [(10230, oc 3 (List.map (T.int .i64) r23))]⟩) (by kernel_rfl) ⟨trivial, wrapI c7, trivial⟩ ?_
              exact ⟨(n, (v12 + (1 : Int)), (maxN (((2 : Int) * r37) - r23b) (0 - (((2 : Int) * r37) - r23b))), v12), h, Nat.lt_succ_self _, rfl⟩
            · -- no
              refine WP.cond (b := decide ((maxN (((2 : Int) * r37) - r23b) (0 - (((2 : Int) * r37) - r23b))) < v11)) rfl (fun hh => by rw [h4] at hh; cases hh) (fun _ => ?_)
              refine WP.path tab_ok mixed [] [.keep [12, 11, 10, 9, 8, 7, 6, 0], .keepO [10230]] (ps := []) (e := .normal) (σ' := ⟨[10230], [(12, vi v12), (11, vi v11), (10, vi v10), (9, vi r23b), (8, vo 10230 (List.length r23)), (7, vb false), (6, vi 0), (0, vi x0)], [(10230, oc 3 (List.map (T.int .i64) r23))]⟩) (by kernel_rfl) trivial ?_
              obtain ⟨c7, h⟩ := chk_some h
              refine WP.path tab_ok mixed [(34, An.v (T.int .i64 (v12 + (1 : Int))))] [.keep [12, 11, 10, 9, 8, 7, 6, 0], .keepO [10230], .names [(10230, 10230)]] (ps := [(True), (T.int .i64 (IntKind.wrap .i64 (v12 + (1 : Int))) = T.int .i64 (v12 + (1 : Int)))]) (e := .normal) (σ' := ⟨[10230], [(12, vi (v12 + (1 : Int))), (11, vi v11), (10, vi v10), (9, vi r23b), (8, vo 10230 (List.length r23)), (7, vb false), (6, vi 0), (0, vi x0)], [(10230, oc 3 (List.map (T.int .i64) r23))]⟩) (by kernel_rfl) ⟨trivial, wrapI c7, trivial⟩ ?_
              exact ⟨(n, (v12 + (1 : Int)), v11, v10), h, Nat.lt_succ_self _, rfl⟩
          · -- no
            refine WP.cond (b := decide (v12 < ((1 : Int) * 2 ^ Int.toNat x0))) rfl (fun hh => by rw [h3] at hh; cases hh) (fun _ => ?_)
            refine WP.path tab_ok mixed [] [.keep [10, 7, 6], .keepO [], .names []] (ps := []) (e := (.exit 0)) (σ' := ⟨[], [(10, vi v10), (7, vb false), (6, vi 0)], []⟩) (by kernel_rfl) trivial ?_
            exact ⟨(v10), h, rfl⟩
      · -- from there
        intro v10 h0
        have h := (show J1 v10 = some (y0, y1) from h0)
        rw [hJ1] at h
        simp only [Option.some.injEq, Prod.mk.injEq] at h
        obtain ⟨rfl, rfl⟩ := h
        exact WP.pathW tab_ok mixed [] _ (ps := []) (r := T.tup [ti v10, tb true]) (by kernel_rfl) trivial (WkT.eq (y := T.tup [ti v10, tb true]) (WkT.refl _) rfl) (fun _ h => h)
theorem F_spec_DrawChanceYes_W (x0 : List Int) (y0 : Int) (y1 : List (Int × Bool)) (y2 : Int) (y3 : Int) (y4 : Int) (h : F_spec_DrawChanceYes x0 = some (y0, y1, y2, y3, y4)) : CG Try.prog 116 [vy x0] [] (V.tup [vi y0, V.own 9000 2 (List.length y1), vi y2, V.t (T.agg [ti y3, ti y4])]) [(9000, oc 85 (List.flatMap askedC y1))] := by
  unfold F_spec_DrawChanceYes at h
  refine CG.intro (tab := tab) tab_ok (fn := Try.f116) Try.func116 (by kernel_rfl) rfl (Nat.le_of_ble_eq_true rfl) (by kernel_rfl) ?_
  obtain ⟨r12, r12b, r12c, r12d, c0, h⟩ := bnd4_some h
  obtain ⟨r16, r16b, r16c, r16d, c1, h⟩ := bnd4_some h
  obtain ⟨r19, r19b, r19c, r19d, c2, h⟩ := bnd4_some h
  obtain ⟨r21, r21b, r21c, r21d, r21e, c3, h⟩ := bnd5_some h
  simp only [Option.some.injEq, Prod.mk.injEq] at h
  obtain ⟨rfl, rfl, rfl, rfl, rfl⟩ := h
  exact WP.pathG tab_ok mixed [(5, An.id 2005), (10, An.id 2010), (12, An.callG [(500, 2010)] [V.ref 500 0] [(500, oc 151 [ty x0, ti 0, T.int .u64 0])] (vi r12) [(500, oc 151 [ty r12b, ti r12c, T.int .u64 r12d])]), (16, An.callG [(500, 2010), (9000, 10160)] [V.ref 500 0, vi r12] [(500, oc 151 [ty r12b, ti r12c, T.int .u64 r12d])] (V.own 9000 2 (List.length r16)) [(500, oc 151 [ty r16b, ti r16c, T.int .u64 r16d]), (9000, oc 85 (List.flatMap askedC r16))]), (19, An.callG [(500, 2010)] [V.ref 500 0, vi r12] [(500, oc 151 [ty r16b, ti r16c, T.int .u64 r16d])] (vi r19) [(500, oc 151 [ty r19b, ti r19c, T.int .u64 r19d])]), (21, An.callG [(500, 2010)] [V.ref 500 0] [(500, oc 151 [ty r19b, ti r19c, T.int .u64 r19d])] (V.t (T.agg [ti r21, ti r21b])) [(500, oc 151 [ty r21c, ti r21d, T.int .u64 r21e])])] [.keep [2, 3, 4, 5], .keepO [10160, 2005], .names [(10160, 9000), (2005, 2005)]] [9000] _ (r' := V.tup [vi r12, V.own 9000 2 (List.length r16), vi r19, V.t (T.agg [ti r21, ti r21b])]) (ps := [((1 = 1 ∧ 0 + 1 ≤ 3) ∧ True), (CG Try.prog 147 [V.ref 500 0] [(500, oc 151 [ty x0, ti 0, T.int .u64 0])] (vi r12) [(500, oc 151 [ty r12b, ti r12c, T.int .u64 r12d])]), ((V.ref 500 0).ren (renF [(500, 2010)]) = V.ref 2010 0), ((oc 151 [ty x0, ti 0, T.int .u64 0]) = (oc 151 [ty x0, ti 0, T.int .u64 0]).ren (renF [(500, 2010)])), (CG Try.prog 204 [V.ref 500 0, vi r12] [(500, oc 151 [ty r12b, ti r12c, T.int .u64 r12d])] (V.own 9000 2 (List.length r16)) [(500, oc 151 [ty r16b, ti r16c, T.int .u64 r16d]), (9000, oc 85 (List.flatMap askedC r16))]), ((V.ref 500 0).ren (renF [(500, 2010), (9000, 10160)]) = V.ref 2010 0), (WkT (ti r12) (ti r12)), ((oc 151 [ty r12b, ti r12c, T.int .u64 r12d]) = (oc 151 [ty r12b, ti r12c, T.int .u64 r12d]).ren (renF [(500, 2010), (9000, 10160)])), (CG Try.prog 171 [V.ref 500 0, vi r12] [(500, oc 151 [ty r16b, ti r16c, T.int .u64 r16d])] (vi r19) [(500, oc 151 [ty r19b, ti r19c, T.int .u64 r19d])]), ((V.ref 500 0).ren (renF [(500, 2010)]) = V.ref 2010 0), (WkT (ti r12) (ti r12)), ((oc 151 [ty r16b, ti r16c, T.int .u64 r16d]) = (oc 151 [ty r16b, ti r16c, T.int .u64 r16d]).ren (renF [(500, 2010)])), (CG Try.prog 224 [V.ref 500 0] [(500, oc 151 [ty r19b, ti r19c, T.int .u64 r19d])] (V.t (T.agg [ti r21, ti r21b])) [(500, oc 151 [ty r21c, ti r21d, T.int .u64 r21e])]), ((V.ref 500 0).ren (renF [(500, 2010)]) = V.ref 2010 0), ((oc 151 [ty r19b, ti r19c, T.int .u64 r19d]) = (oc 151 [ty r19b, ti r19c, T.int .u64 r19d]).ren (renF [(500, 2010)])), ((0 + 2 ≤ 2 ∧ 2 = 2)), (0 + 2 ≤ 2)]) (r := V.tup [vi r12, V.own 9000 2 (List.length r16), vi r19, V.t (T.agg [ti r21, ti r21b])]) (N := [9000, 2005]) (O := [(9000, oc 85 (List.flatMap askedC r16))]) [] (by kernel_rfl) ⟨⟨⟨by first | rfl | (simp; done) | (simp []; done) | omega, by first | decide | (simp; done) | (simp []; done) | omega | (simp only [tlL]; omega) | (simp; omega)⟩, trivial⟩, (F_p_spec_l1Cur_many_W x0 (0 : Int) (0 : Int) r12 r12b r12c r12d c0), by first | rfl | (simp [V.ren, V.renL, renF, lk]; done) | (simp [V.ren, V.renL, renF, lk]; omega), by first | rfl | (simp only [tlS]; rfl) | (simp [Tl.Obj.ren, V.ren, V.renL, renF, lk]; done), (F_p_spec_l1Cur_asked_W r12b r12c r12d r12 r16 r16b r16c r16d c1), by first | rfl | (simp [V.ren, V.renL, renF, lk]; done) | (simp [V.ren, V.renL, renF, lk]; omega), WkT.refl _, by first | rfl | (simp only [tlS]; rfl) | (simp [Tl.Obj.ren, V.ren, V.renL, renF, lk]; done), (F_p_spec_l1Cur_question_W r16b r16c r16d r12 r19 r19b r19c r19d c2), by first | rfl | (simp [V.ren, V.renL, renF, lk]; done) | (simp [V.ren, V.renL, renF, lk]; omega), WkT.refl _, by first | rfl | (simp only [tlS]; rfl) | (simp [Tl.Obj.ren, V.ren, V.renL, renF, lk]; done), (F_p_spec_l1Cur_doubt7_W r19b r19c r19d r21 r21b r21c r21d r21e c3), by first | rfl | (simp [V.ren, V.renL, renF, lk]; done) | (simp [V.ren, V.renL, renF, lk]; omega), by first | rfl | (simp only [tlS]; rfl) | (simp [Tl.Obj.ren, V.ren, V.renL, renF, lk]; done), by decide, by first | decide | omega | (simp only [tlL]; omega) | (simp; omega) | (simp []; done) | (simp []; omega), trivial⟩ ⟨(WkT.refl _), rfl, (WkT.refl _), (WkT.refl _), trivial⟩ rfl rfl (fun _ h => h)
theorem F_spec_DrawChanceYes_W_C (x0 : List Int) (y0 : Int) (y1 : List (Int × Bool)) (y2 : Int) (y3 : Int) (y4 : Int) (h : F_spec_DrawChanceYes x0 = some (y0, y1, y2, y3, y4)) : C Try.prog 116 [ty x0] (T.tup [ti y0, T.list (List.length y1) 2 (List.flatMap askedC y1), ti y2, T.agg [ti y3, ti y4]]) :=
  CG.toC (ps := [(List.length (List.flatMap askedC y1) = (List.length y1) * 2)]) (F_spec_DrawChanceYes_W  x0 y0 y1 y2 y3 y4 h) (by rfl) ⟨by first | exact len_asked _ | (rw [len_asked]; first | done | omega | (simp; done) | (simp; omega)), trivial⟩

end Go.Proofs.Ytofiecpgfjofdaa.AuAxa
