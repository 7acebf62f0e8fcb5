/-
  The walks: each function of the program returns what the plain function beside it returns. No statement is proved here.
-/
import Derived.Test.YtofiecpgfjofdaaTlV
import Derived.Test.YtofiecpgfjofdaaTlCI
import Derived.Test.YtofiecpgfjofdaaAuWF
import Derived.Test.YtofiecpgfjofdaaProg
import Derived.Test.YtofiecpgfjofdaaAuWO
namespace Go.Proofs.Ytofiecpgfjofdaa.AuWa
open Go Go.Tl Go.Proofs
open Go.Proofs.Ytofiecpgfjofdaa.AuWO hiding tab tab_ok mixed
set_option linter.unusedVariables false
set_option linter.unusedSimpArgs false
set_option maxRecDepth 100000
def tab : Tab := [(3, ⟨.int .i64, 1, 8, [.int .i64 0]⟩), (4, ⟨.bool, 1, 1, [.bool false]⟩), (5, ⟨.int .u8, 1, 1, [.int .u8 0]⟩), (26, ⟨.slice 3 1 8, 1, 24, [.nils]⟩), (28, ⟨.struct [(0, 1, false), (1, 1, false)], 2, 32, [.nils, .int .i64 0]⟩), (40, ⟨.slice 5 1 1, 1, 24, [.nils]⟩), (148, ⟨.pointer 151, 1, 8, [.nilp]⟩), (149, ⟨.int .u64, 1, 8, [.int .u64 0]⟩), (151, ⟨.struct [(0, 1, false), (1, 1, false), (2, 1, false)], 3, 40, [.nils, .int .i64 0, .int .u64 0]⟩)]
theorem tab_ok : chkTab Try.prog tab = true := by kernel_rfl
theorem mixed : Try.prog.follows .mixedOrders = true := by kernel_rfl
theorem F_p_spec_l1Cur_next_W (x0 : List Int) (x1 : Int) (x2 : Int) (y0 : Int) (y1 : List Int) (y2 : Int) (y3 : Int) (h : F_p_spec_l1Cur_next x0 x1 x2 = some (y0, y1, y2, y3)) : CG Try.prog 245 [V.ref 500 0] [(500, oc 151 [ty x0, ti x1, T.int .u64 x2])] (vi y0) [(500, oc 151 [ty y1, ti y2, T.int .u64 y3])] := by
  unfold F_p_spec_l1Cur_next at h
  refine CG.intro (tab := tab) tab_ok (fn := Try.f245) Try.func245 (by kernel_rfl) rfl (Nat.le_of_ble_eq_true rfl) (by kernel_rfl) ?_
  refine WP.seq ?_
  refine WP.path tab_ok mixed [] [.keep [2, 0], .keepO [500]] (ps := []) (e := .normal) (σ' := ⟨[500], [(2, vi 0), (0, V.ref 500 0)], [(500, oc 151 [ty x0, ti x1, T.int .u64 x2])]⟩) (by kernel_rfl) trivial ?_
  refine WP.seq ?_
  refine WP.path tab_ok mixed [] [.keep [3, 2, 0], .keepO [500]] (ps := []) (e := .normal) (σ' := ⟨[500], [(3, vi 0), (2, vi 0), (0, V.ref 500 0)], [(500, oc 151 [ty x0, ti x1, T.int .u64 x2])]⟩) (by kernel_rfl) trivial ?_
  obtain ⟨J1, hJ1, h⟩ := jn_some h
  refine WP.joinA (fun (zz : Int) => ⟨[500], [(3, vi zz), (2, vi 0), (0, V.ref 500 0)], [(500, oc 151 [ty x0, ti x1, T.int .u64 x2])]⟩) (fun zz => J1 zz = some (y0, y1, y2, y3)) ?_ ?_
  · -- to where they meet
    refine WP.seq ?_
    refine WP.path tab_ok mixed [] [.keep [13, 3, 2, 0], .keepO [500]] (ps := [(True), (True), (True)]) (e := .normal) (σ' := ⟨[500], [(13, vb (decide (x1 < ((List.length x0 : Nat) : Int)))), (3, vi 0), (2, vi 0), (0, V.ref 500 0)], [(500, oc 151 [ty x0, ti x1, T.int .u64 x2])]⟩) (by kernel_rfl) ⟨trivial, trivial, trivial, trivial⟩ ?_
    rcases ite_some h with ⟨h1, h⟩ | ⟨h1, h⟩
    · -- yes
      refine WP.cond (b := decide (x1 < ((List.length x0 : Nat) : Int))) rfl (fun _ => ?_) (fun hh => by rw [h1] at hh; cases hh)
      obtain ⟨c0, h⟩ := chk_some h
      obtain ⟨c1, h⟩ := chk_some h
      refine WP.path tab_ok mixed [(23, An.v (T.int .u8 (List.getD x0 (Int.toNat x1) 0))), (24, An.v (T.int .i64 (List.getD x0 (Int.toNat x1) 0)))] [.keep [3, 2, 0], .keepO [500], .names [(500, 500)]] (ps := [(True), (True), ((0 ≤ x1 ∧ x1 < ((List.length x0 : Nat) : Int))), ((List.drop ((Int.toNat x1) * 1) (List.map (T.int .u8) x0) : List T)[0]? = some (T.int .u8 (List.getD x0 (Int.toNat x1) 0))), (T.int .u8 (List.getD x0 (Int.toNat x1) 0) = T.int .u8 (List.getD x0 (Int.toNat x1) 0)), (T.int .i64 (IntKind.wrap .i64 (List.getD x0 (Int.toNat x1) 0)) = T.int .i64 (List.getD x0 (Int.toNat x1) 0))]) (e := .normal) (σ' := ⟨[500], [(3, vi (List.getD x0 (Int.toNat x1) 0)), (2, vi 0), (0, V.ref 500 0)], [(500, oc 151 [ty x0, ti x1, T.int .u64 x2])]⟩) (by kernel_rfl) ⟨trivial, trivial, c0, at1 (by simp) (by omega), rfl, wrapI c1, trivial⟩ ?_
      exact ⟨((List.getD x0 (Int.toNat x1) 0)), h, rfl⟩
    · -- no
      refine WP.cond (b := decide (x1 < ((List.length x0 : Nat) : Int))) rfl (fun hh => by rw [h1] at hh; cases hh) (fun _ => ?_)
      refine WP.path tab_ok mixed [] [.keep [3, 2, 0], .keepO [500], .names [(500, 500)]] (ps := []) (e := .normal) (σ' := ⟨[500], [(3, vi 0), (2, vi 0), (0, V.ref 500 0)], [(500, oc 151 [ty x0, ti x1, T.int .u64 x2])]⟩) (by kernel_rfl) trivial ?_
      exact ⟨((0 : Int)), h, (by first | rfl | (simp only [tlS, tl, vl, vo, oc, ov, tbl, vbl, ty, vy]; done) | (simp only [tlS, tl, vl, vo, oc, ov, tbl, vbl, ty, vy]; rfl) | (simp; done) | (simp []; done) | (rw [List.take_of_length_le (by simp [])]; done) | (rw [List.take_of_length_le (by simp [])]; rfl) | (simp only [tlL]; omega) | (simp; omega))⟩
  · -- from there
    intro v3 h0
    have h := (show J1 v3 = some (y0, y1, y2, y3) from h0)
    rw [hJ1] at h
    refine WP.seq ?_
    obtain ⟨c0, h⟩ := chk_some h
    refine WP.path tab_ok mixed [(29, An.v (T.int .i64 (x1 + (1 : Int))))] [.keep [3, 2, 0], .keepO [500]] (ps := [(True), (True), (T.int .i64 (IntKind.wrap .i64 (x1 + (1 : Int))) = T.int .i64 (x1 + (1 : Int))), (1 < 3)]) (e := .normal) (σ' := ⟨[500], [(3, vi v3), (2, vi 0), (0, V.ref 500 0)], [(500, oc 151 [ty x0, ti (x1 + (1 : Int)), T.int .u64 x2])]⟩) (by kernel_rfl) ⟨trivial, trivial, wrapI c0, by decide, trivial⟩ ?_
    refine WP.seq ?_
    obtain ⟨n37, c1, h⟩ := nam_some h
    obtain ⟨n40, c2, h⟩ := nam_some h
    refine WP.path tab_ok mixed [(37, An.v (T.int .u64 n37)), (40, An.v (T.int .u64 n40))] [.keep [3, 2, 0], .keepO [500]] (ps := [(True), (True), (T.int .u64 (IntKind.wrap .u64 (x2 * (6364136223846793005 : Int))) = T.int .u64 n37), (True), (T.int .u64 (IntKind.wrap .u64 (n37 + (IntKind.wrap .u64 v3))) = T.int .u64 n40), (True), (2 < 3)]) (e := .normal) (σ' := ⟨[500], [(3, vi v3), (2, vi 0), (0, V.ref 500 0)], [(500, oc 151 [ty x0, ti (x1 + (1 : Int)), T.int .u64 (IntKind.wrap .u64 (n40 + (462197 : Int)))])]⟩) (by kernel_rfl) ⟨trivial, trivial, congrArg (T.int .u64) c1, trivial, congrArg (T.int .u64) c2, trivial, by decide, trivial⟩ ?_
    refine WP.seq ?_
    refine WP.seq ?_
    refine WP.path tab_ok mixed [] [.keep [53, 3, 2, 0], .keepO [500]] (ps := [(True), (True), (True)]) (e := .normal) (σ' := ⟨[500], [(53, vb (decide ((x1 + (1 : Int)) ≤ ((List.length x0 : Nat) : Int)))), (3, vi v3), (2, vi 0), (0, V.ref 500 0)], [(500, oc 151 [ty x0, ti (x1 + (1 : Int)), T.int .u64 (IntKind.wrap .u64 (n40 + (462197 : Int)))])]⟩) (by kernel_rfl) ⟨trivial, trivial, trivial, trivial⟩ ?_
    rcases ite_some h with ⟨h2, h⟩ | ⟨h2, h⟩
    · -- yes
      refine WP.cond (b := decide ((x1 + (1 : Int)) ≤ ((List.length x0 : Nat) : Int))) rfl (fun _ => ?_) (fun hh => by rw [h2] at hh; cases hh)
      simp only [Option.some.injEq, Prod.mk.injEq] at h
      obtain ⟨rfl, rfl, rfl, rfl⟩ := h
      exact WP.pathG tab_ok mixed [] [.keep [2], .keepO [500], .names [(500, 500)]] [500] _ (r' := vi v3) (ps := []) (r := vi v3) (N := [500]) (O := [(500, oc 151 [ty x0, ti (x1 + (1 : Int)), T.int .u64 (IntKind.wrap .u64 (n40 + (462197 : Int)))])]) [] (by kernel_rfl) trivial ⟨(WkT.refl _), trivial⟩ rfl rfl (fun _ h => h)
    · -- no
      refine WP.cond (b := decide ((x1 + (1 : Int)) ≤ ((List.length x0 : Nat) : Int))) rfl (fun hh => by rw [h2] at hh; cases hh) (fun _ => ?_)
      refine WP.path tab_ok mixed [] [.keep [2, 0], .keepO [500]] (ps := []) (e := .normal) (σ' := ⟨[500], [(2, vi 0), (0, V.ref 500 0)], [(500, oc 151 [ty x0, ti (x1 + (1 : Int)), T.int .u64 (IntKind.wrap .u64 (n40 + (462197 : Int)))])]⟩) (by kernel_rfl) trivial ?_
      obtain ⟨n60, c3, h⟩ := nam_some h
      obtain ⟨c4, h⟩ := chk_some h
      simp only [Option.some.injEq, Prod.mk.injEq] at h
      obtain ⟨rfl, rfl, rfl, rfl⟩ := h
      exact WP.pathG tab_ok mixed [(59, An.v (T.int .u64 ((IntKind.wrap .u64 (n40 + (462197 : Int))) / 2 ^ Int.toNat (40 : Int)))), (60, An.v (T.int .u64 n60)), (61, An.v (T.int .i64 n60))] [.keep [2], .keepO [500], .names [(500, 500)]] [500] _ (r' := vi n60) (ps := [(True), (0 ≤ (40 : Int)), (T.int .u64 (Int.fdiv (IntKind.wrap .u64 (n40 + (462197 : Int))) (2 ^ (min (Int.toNat (40 : Int)) 64))) = T.int .u64 ((IntKind.wrap .u64 (n40 + (462197 : Int))) / 2 ^ Int.toNat (40 : Int))), (True), (T.int .u64 (bits .and .u64 ((IntKind.wrap .u64 (n40 + (462197 : Int))) / 2 ^ Int.toNat (40 : Int)) (255 : Int)) = T.int .u64 n60), (T.int .i64 (IntKind.wrap .i64 n60) = T.int .i64 n60)]) (r := vi n60) (N := [500]) (O := [(500, oc 151 [ty x0, ti (x1 + (1 : Int)), T.int .u64 (IntKind.wrap .u64 (n40 + (462197 : Int)))])]) [] (by kernel_rfl) ⟨trivial, (show (0 ≤ (40 : Int) ∧ (40 : Int) < 64) by first | decide | (simp only [maxLen]; omega) | (unfold I64; omega) | (unfold I64; decide)).1, shr_told (show (0 ≤ (40 : Int) ∧ (40 : Int) < 64) by first | decide | (simp only [maxLen]; omega) | (unfold I64; omega) | (unfold I64; decide)), trivial, congrArg (T.int .u64) c3, wrapI c4, trivial⟩ ⟨(WkT.refl _), trivial⟩ rfl rfl (fun _ h => h)
theorem F_p_spec_l1Cur_pick_W (x0 : List Int) (x1 : Int) (x2 : Int) (x3 : Int) (y0 : Int) (y1 : List Int) (y2 : Int) (y3 : Int) (h : F_p_spec_l1Cur_pick x0 x1 x2 x3 = some (y0, y1, y2, y3)) : CG Try.prog 154 [V.ref 500 0, vi x3] [(500, oc 151 [ty x0, ti x1, T.int .u64 x2])] (vi y0) [(500, oc 151 [ty y1, ti y2, T.int .u64 y3])] := by
  unfold F_p_spec_l1Cur_pick at h
  refine CG.intro (tab := tab) tab_ok (fn := Try.f154) Try.func154 (by kernel_rfl) rfl (Nat.le_of_ble_eq_true rfl) (by kernel_rfl) ?_
  refine WP.seq ?_
  refine WP.path tab_ok mixed [] [.keep [4, 0, 1], .keepO [500]] (ps := []) (e := .normal) (σ' := ⟨[500], [(4, vi 0), (0, V.ref 500 0), (1, vi x3)], [(500, oc 151 [ty x0, ti x1, T.int .u64 x2])]⟩) (by kernel_rfl) trivial ?_
  refine WP.seq ?_
  refine WP.seq ?_
  refine WP.path tab_ok mixed [] [.keep [7, 4, 0, 1], .keepO [500]] (ps := [(True)]) (e := .normal) (σ' := ⟨[500], [(7, vb (decide (x3 ≤ (1 : Int)))), (4, vi 0), (0, V.ref 500 0), (1, vi x3)], [(500, oc 151 [ty x0, ti x1, T.int .u64 x2])]⟩) (by kernel_rfl) ⟨trivial, trivial⟩ ?_
  rcases ite_some h with ⟨h1, h⟩ | ⟨h1, h⟩
  · -- yes
    refine WP.cond (b := decide (x3 ≤ (1 : Int))) rfl (fun _ => ?_) (fun hh => by rw [h1] at hh; cases hh)
    simp only [Option.some.injEq, Prod.mk.injEq] at h
    obtain ⟨rfl, rfl, rfl, rfl⟩ := h
    exact WP.pathG tab_ok mixed [] [.keep [4], .keepO [500], .names [(500, 500)]] [500] _ (r' := vi (0 : Int)) (ps := []) (r := vi 0) (N := [500]) (O := [(500, oc 151 [ty x0, ti x1, T.int .u64 x2])]) [] (by kernel_rfl) trivial ⟨(WkT.eq (WkT.refl _) (by first | rfl | (simp only [tlS, tl, vl, vo, oc, ov, tbl, vbl, ty, vy]; done) | (simp only [tlS, tl, vl, vo, oc, ov, tbl, vbl, ty, vy]; rfl) | (simp; done) | (simp []; done) | (rw [List.take_of_length_le (by simp [])]; done) | (rw [List.take_of_length_le (by simp [])]; rfl) | (simp only [tlL]; omega) | (simp; omega))), trivial⟩ rfl rfl (fun _ h => h)
  · -- no
    refine WP.cond (b := decide (x3 ≤ (1 : Int))) rfl (fun hh => by rw [h1] at hh; cases hh) (fun _ => ?_)
    refine WP.path tab_ok mixed [] [.keep [4, 0, 1], .keepO [500]] (ps := []) (e := .normal) (σ' := ⟨[500], [(4, vi 0), (0, V.ref 500 0), (1, vi x3)], [(500, oc 151 [ty x0, ti x1, T.int .u64 x2])]⟩) (by kernel_rfl) trivial ?_
    refine WP.seq ?_
    obtain ⟨r9, r9b, r9c, r9d, c0, h⟩ := bnd4_some h
    refine WP.path tab_ok mixed [(9, An.callG [(500, 500)] [V.ref 500 0] [(500, oc 151 [ty x0, ti x1, T.int .u64 x2])] (vi r9) [(500, oc 151 [ty r9b, ti r9c, T.int .u64 r9d])])] [.keep [5, 4, 0, 1], .keepO [500]] (ps := [(CG Try.prog 245 [V.ref 500 0] [(500, oc 151 [ty x0, ti x1, T.int .u64 x2])] (vi r9) [(500, oc 151 [ty r9b, ti r9c, T.int .u64 r9d])]), ((V.ref 500 0).ren (renF [(500, 500)]) = V.ref 500 0), ((oc 151 [ty x0, ti x1, T.int .u64 x2]) = (oc 151 [ty x0, ti x1, T.int .u64 x2]).ren (renF [(500, 500)]))]) (e := .normal) (σ' := ⟨[500], [(5, vi r9), (4, vi 0), (0, V.ref 500 0), (1, vi x3)], [(500, oc 151 [ty r9b, ti r9c, T.int .u64 r9d])]⟩) (by kernel_rfl) ⟨(F_p_spec_l1Cur_next_W x0 x1 x2 r9 r9b r9c r9d c0), by first | rfl | (simp [V.ren, V.renL, renF, lk]; done) | (simp [V.ren, V.renL, renF, lk]; omega), by first | rfl | (simp only [tlS]; rfl) | (simp [Tl.Obj.ren, V.ren, V.renL, renF, lk]; done), trivial⟩ ?_
    obtain ⟨J1, hJ1, h⟩ := jn_some h
    refine WP.joinA (fun (zz : (List Int) × Int × Int × Int) => ⟨[500], [(5, vi zz.2.2.2), (4, vi 0), (1, vi x3)], [(500, oc 151 [ty zz.1, ti zz.2.1, T.int .u64 zz.2.2.1])]⟩) (fun zz => J1 zz.1 zz.2.1 zz.2.2.1 zz.2.2.2 = some (y0, y1, y2, y3)) ?_ ?_
    · -- to where they meet
      refine WP.seq ?_
      refine WP.path tab_ok mixed [] [.keep [11, 5, 4, 0, 1], .keepO [500]] (ps := [(True)]) (e := .normal) (σ' := ⟨[500], [(11, vb (decide (x3 > (200 : Int)))), (5, vi r9), (4, vi 0), (0, V.ref 500 0), (1, vi x3)], [(500, oc 151 [ty r9b, ti r9c, T.int .u64 r9d])]⟩) (by kernel_rfl) ⟨trivial, trivial⟩ ?_
      rcases ite_some h with ⟨h2, h⟩ | ⟨h2, h⟩
      · -- yes
        refine WP.cond (b := decide (x3 > (200 : Int))) rfl (fun _ => ?_) (fun hh => by rw [h2] at hh; cases hh)
        obtain ⟨c1, h⟩ := chk_some h
        obtain ⟨r15, r15b, r15c, r15d, c2, h⟩ := bnd4_some h
        obtain ⟨c3, h⟩ := chk_some h
        refine WP.path tab_ok mixed [(13, An.v (T.int .i64 (r9 * (256 : Int)))), (15, An.callG [(500, 500)] [V.ref 500 0] [(500, oc 151 [ty r9b, ti r9c, T.int .u64 r9d])] (vi r15) [(500, oc 151 [ty r15b, ti r15c, T.int .u64 r15d])]), (16, An.v (T.int .i64 ((r9 * (256 : Int)) + r15)))] [.keep [5, 4, 1], .keepO [500], .names [(500, 500)]] (ps := [(True), (T.int .i64 (IntKind.wrap .i64 (r9 * (256 : Int))) = T.int .i64 (r9 * (256 : Int))), (CG Try.prog 245 [V.ref 500 0] [(500, oc 151 [ty r9b, ti r9c, T.int .u64 r9d])] (vi r15) [(500, oc 151 [ty r15b, ti r15c, T.int .u64 r15d])]), ((V.ref 500 0).ren (renF [(500, 500)]) = V.ref 500 0), ((oc 151 [ty r9b, ti r9c, T.int .u64 r9d]) = (oc 151 [ty r9b, ti r9c, T.int .u64 r9d]).ren (renF [(500, 500)])), (True), (T.int .i64 (IntKind.wrap .i64 ((r9 * (256 : Int)) + r15)) = T.int .i64 ((r9 * (256 : Int)) + r15))]) (e := .normal) (σ' := ⟨[500], [(5, vi ((r9 * (256 : Int)) + r15)), (4, vi 0), (1, vi x3)], [(500, oc 151 [ty r15b, ti r15c, T.int .u64 r15d])]⟩) (by kernel_rfl) ⟨trivial, wrapI c1, (F_p_spec_l1Cur_next_W r9b r9c r9d r15 r15b r15c r15d c2), by first | rfl | (simp [V.ren, V.renL, renF, lk]; done) | (simp [V.ren, V.renL, renF, lk]; omega), by first | rfl | (simp only [tlS]; rfl) | (simp [Tl.Obj.ren, V.ren, V.renL, renF, lk]; done), trivial, wrapI c3, trivial⟩ ?_
        exact ⟨(r15b, r15c, r15d, ((r9 * (256 : Int)) + r15)), h, rfl⟩
      · -- no
        refine WP.cond (b := decide (x3 > (200 : Int))) rfl (fun hh => by rw [h2] at hh; cases hh) (fun _ => ?_)
        refine WP.path tab_ok mixed [] [.keep [5, 4, 1], .keepO [500], .names [(500, 500)]] (ps := []) (e := .normal) (σ' := ⟨[500], [(5, vi r9), (4, vi 0), (1, vi x3)], [(500, oc 151 [ty r9b, ti r9c, T.int .u64 r9d])]⟩) (by kernel_rfl) trivial ?_
        exact ⟨(r9b, r9c, r9d, r9), h, rfl⟩
    · -- from there
      rintro ⟨o500, o500b, o500c, v5⟩ h0
      have h := (show J1 o500 o500b o500c v5 = some (y0, y1, y2, y3) from h0)
      rw [hJ1] at h
      obtain ⟨c1, h⟩ := chk_some h
      simp only [Option.some.injEq, Prod.mk.injEq] at h
      obtain ⟨rfl, rfl, rfl, rfl⟩ := h
      exact WP.pathG tab_ok mixed [] [.keep [4], .keepO [500], .names [(500, 500)]] [500] _ (r' := vi (Int.tmod v5 x3)) (ps := [(x3 ≠ 0)]) (r := vi (Int.tmod v5 x3)) (N := [500]) (O := [(500, oc 151 [ty o500, ti o500b, T.int .u64 o500c])]) [] (by kernel_rfl) ⟨c1, trivial⟩ ⟨(WkT.refl _), trivial⟩ rfl rfl (fun _ h => h)
theorem F_p_spec_l1Cur_among_W (x0 : List Int) (x1 : Int) (x2 : Int) (x3 : List Int) (y0 : Int) (y1 : List Int) (y2 : Int) (y3 : Int) (h : F_p_spec_l1Cur_among x0 x1 x2 x3 = some (y0, y1, y2, y3)) : CG Try.prog 172 [V.ref 500 0, vl x3] [(500, oc 151 [ty x0, ti x1, T.int .u64 x2])] (vi y0) [(500, oc 151 [ty y1, ti y2, T.int .u64 y3])] := by
  unfold F_p_spec_l1Cur_among at h
  refine CG.intro (tab := tab) tab_ok (fn := Try.f172) Try.func172 (by kernel_rfl) rfl (Nat.le_of_ble_eq_true rfl) (by kernel_rfl) ?_
  obtain ⟨r9, r9b, r9c, r9d, c0, h⟩ := bnd4_some h
  obtain ⟨c1, h⟩ := chk_some h
  simp only [Option.some.injEq, Prod.mk.injEq] at h
  obtain ⟨rfl, rfl, rfl, rfl⟩ := h
  exact WP.pathG tab_ok mixed [(9, An.callG [(500, 500)] [V.ref 500 0, vi ((List.length x3 : Nat) : Int)] [(500, oc 151 [ty x0, ti x1, T.int .u64 x2])] (vi r9) [(500, oc 151 [ty r9b, ti r9c, T.int .u64 r9d])]), (11, An.v (ti (List.getD x3 (Int.toNat r9) 0)))] [.keep [4], .keepO [500], .names [(500, 500)]] [500] _ (r' := vi (List.getD x3 (Int.toNat r9) 0)) (ps := [(CG Try.prog 154 [V.ref 500 0, vi ((List.length x3 : Nat) : Int)] [(500, oc 151 [ty x0, ti x1, T.int .u64 x2])] (vi r9) [(500, oc 151 [ty r9b, ti r9c, T.int .u64 r9d])]), ((V.ref 500 0).ren (renF [(500, 500)]) = V.ref 500 0), (WkT (ti ((List.length x3 : Nat) : Int)) (ti ((List.length x3 : Nat) : Int))), ((oc 151 [ty x0, ti x1, T.int .u64 x2]) = (oc 151 [ty x0, ti x1, T.int .u64 x2]).ren (renF [(500, 500)])), ((0 ≤ r9 ∧ r9 < ((List.length x3 : Nat) : Int))), ((List.drop ((Int.toNat r9) * 1) (List.map (T.int .i64) x3) : List T)[0]? = some (ti (List.getD x3 (Int.toNat r9) 0))), (ti (List.getD x3 (Int.toNat r9) 0) = ti (List.getD x3 (Int.toNat r9) 0))]) (r := vi (List.getD x3 (Int.toNat r9) 0)) (N := [500]) (O := [(500, oc 151 [ty r9b, ti r9c, T.int .u64 r9d])]) [] (by kernel_rfl) ⟨(F_p_spec_l1Cur_pick_W x0 x1 x2 ((List.length x3 : Nat) : Int) r9 r9b r9c r9d c0), by first | rfl | (simp [V.ren, V.renL, renF, lk]; done) | (simp [V.ren, V.renL, renF, lk]; omega), WkT.refl _, by first | rfl | (simp only [tlS]; rfl) | (simp [Tl.Obj.ren, V.ren, V.renL, renF, lk]; done), c1, at1 (by simp) (by omega), rfl, trivial⟩ ⟨(WkT.refl _), trivial⟩ rfl rfl (fun _ h => h)
theorem F_p_spec_l1Cur_many_W (x0 : List Int) (x1 : Int) (x2 : Int) (y0 : Int) (y1 : List Int) (y2 : Int) (y3 : Int) (h : F_p_spec_l1Cur_many x0 x1 x2 = some (y0, y1, y2, y3)) : CG Try.prog 147 [V.ref 500 0] [(500, oc 151 [ty x0, ti x1, T.int .u64 x2])] (vi y0) [(500, oc 151 [ty y1, ti y2, T.int .u64 y3])] := by
  unfold F_p_spec_l1Cur_many at h
  refine CG.intro (tab := tab) tab_ok (fn := Try.f147) Try.func147 (by kernel_rfl) rfl (Nat.le_of_ble_eq_true rfl) (by kernel_rfl) ?_
  obtain ⟨r5, r5b, r5c, r5d, c0, h⟩ := bnd4_some h
  simp only [Option.some.injEq, Prod.mk.injEq] at h
  obtain ⟨rfl, rfl, rfl, rfl⟩ := h
  exact WP.pathG tab_ok mixed [(4, An.fz), (5, An.callG [(500, 500)] [V.ref 500 0, vl [(4 : Int), (6 : Int), (8 : Int), (3 : Int), (5 : Int), (2 : Int), (7 : Int), (12 : Int), (1 : Int), (0 : Int), (13 : Int), (4 : Int), (6 : Int), (8 : Int), (3 : Int), (5 : Int)]] [(500, oc 151 [ty x0, ti x1, T.int .u64 x2])] (vi r5) [(500, oc 151 [ty r5b, ti r5c, T.int .u64 r5d])])] [.keep [2], .keepO [500], .names [(500, 500)]] [500] _ (r' := vi r5) (ps := [((1 = 1 ∧ 0 + 1 ≤ 16) ∧ (1 = 1 ∧ 1 + 1 ≤ 16) ∧ (1 = 1 ∧ 2 + 1 ≤ 16) ∧ (1 = 1 ∧ 3 + 1 ≤ 16) ∧ (1 = 1 ∧ 4 + 1 ≤ 16) ∧ (1 = 1 ∧ 5 + 1 ≤ 16) ∧ (1 = 1 ∧ 6 + 1 ≤ 16) ∧ (1 = 1 ∧ 7 + 1 ≤ 16) ∧ (1 = 1 ∧ 8 + 1 ≤ 16) ∧ (1 = 1 ∧ 9 + 1 ≤ 16) ∧ (1 = 1 ∧ 10 + 1 ≤ 16) ∧ (1 = 1 ∧ 11 + 1 ≤ 16) ∧ (1 = 1 ∧ 12 + 1 ≤ 16) ∧ (1 = 1 ∧ 13 + 1 ≤ 16) ∧ (1 = 1 ∧ 14 + 1 ≤ 16) ∧ (1 = 1 ∧ 15 + 1 ≤ 16) ∧ True), (16 = 16 * 1), (CG Try.prog 172 [V.ref 500 0, vl [(4 : Int), (6 : Int), (8 : Int), (3 : Int), (5 : Int), (2 : Int), (7 : Int), (12 : Int), (1 : Int), (0 : Int), (13 : Int), (4 : Int), (6 : Int), (8 : Int), (3 : Int), (5 : Int)]] [(500, oc 151 [ty x0, ti x1, T.int .u64 x2])] (vi r5) [(500, oc 151 [ty r5b, ti r5c, T.int .u64 r5d])]), ((V.ref 500 0).ren (renF [(500, 500)]) = V.ref 500 0), (WkT (T.list 16 1 [ti 4, ti 6, ti 8, ti 3, ti 5, ti 2, ti 7, ti 12, ti 1, ti 0, ti 13, ti 4, ti 6, ti 8, ti 3, ti 5]) (tl [(4 : Int), (6 : Int), (8 : Int), (3 : Int), (5 : Int), (2 : Int), (7 : Int), (12 : Int), (1 : Int), (0 : Int), (13 : Int), (4 : Int), (6 : Int), (8 : Int), (3 : Int), (5 : Int)])), ((oc 151 [ty x0, ti x1, T.int .u64 x2]) = (oc 151 [ty x0, ti x1, T.int .u64 x2]).ren (renF [(500, 500)]))]) (r := vi r5) (N := [500]) (O := [(500, oc 151 [ty r5b, ti r5c, T.int .u64 r5d])]) [] (by kernel_rfl) ⟨⟨⟨by first | rfl | (simp; done) | (simp []; done) | omega, by first | decide | (simp; done) | (simp []; done) | omega | (simp only [tlL]; omega) | (simp; omega)⟩, ⟨by first | rfl | (simp; done) | (simp []; done) | omega, by first | decide | (simp; done) | (simp []; done) | omega | (simp only [tlL]; omega) | (simp; omega)⟩, ⟨by first | rfl | (simp; done) | (simp []; done) | omega, by first | decide | (simp; done) | (simp []; done) | omega | (simp only [tlL]; omega) | (simp; omega)⟩, ⟨by first | rfl | (simp; done) | (simp []; done) | omega, by first | decide | (simp; done) | (simp []; done) | omega | (simp only [tlL]; omega) | (simp; omega)⟩, ⟨by first | rfl | (simp; done) | (simp []; done) | omega, by first | decide | (simp; done) | (simp []; done) | omega | (simp only [tlL]; omega) | (simp; omega)⟩, ⟨by first | rfl | (simp; done) | (simp []; done) | omega, by first | decide | (simp; done) | (simp []; done) | omega | (simp only [tlL]; omega) | (simp; omega)⟩, ⟨by first | rfl | (simp; done) | (simp []; done) | omega, by first | decide | (simp; done) | (simp []; done) | omega | (simp only [tlL]; omega) | (simp; omega)⟩, ⟨by first | rfl | (simp; done) | (simp []; done) | omega, by first | decide | (simp; done) | (simp []; done) | omega | (simp only [tlL]; omega) | (simp; omega)⟩, ⟨by first | rfl | (simp; done) | (simp []; done) | omega, by first | decide | (simp; done) | (simp []; done) | omega | (simp only [tlL]; omega) | (simp; omega)⟩, ⟨by first | rfl | (simp; done) | (simp []; done) | omega, by first | decide | (simp; done) | (simp []; done) | omega | (simp only [tlL]; omega) | (simp; omega)⟩, ⟨by first | rfl | (simp; done) | (simp []; done) | omega, by first | decide | (simp; done) | (simp []; done) | omega | (simp only [tlL]; omega) | (simp; omega)⟩, ⟨by first | rfl | (simp; done) | (simp []; done) | omega, by first | decide | (simp; done) | (simp []; done) | omega | (simp only [tlL]; omega) | (simp; omega)⟩, ⟨by first | rfl | (simp; done) | (simp []; done) | omega, by first | decide | (simp; done) | (simp []; done) | omega | (simp only [tlL]; omega) | (simp; omega)⟩, ⟨by first | rfl | (simp; done) | (simp []; done) | omega, by first | decide | (simp; done) | (simp []; done) | omega | (simp only [tlL]; omega) | (simp; omega)⟩, ⟨by first | rfl | (simp; done) | (simp []; done) | omega, by first | decide | (simp; done) | (simp []; done) | omega | (simp only [tlL]; omega) | (simp; omega)⟩, ⟨by first | rfl | (simp; done) | (simp []; done) | omega, by first | decide | (simp; done) | (simp []; done) | omega | (simp only [tlL]; omega) | (simp; omega)⟩, trivial⟩, by decide, (F_p_spec_l1Cur_among_W x0 x1 x2 [(4 : Int), (6 : Int), (8 : Int), (3 : Int), (5 : Int), (2 : Int), (7 : Int), (12 : Int), (1 : Int), (0 : Int), (13 : Int), (4 : Int), (6 : Int), (8 : Int), (3 : Int), (5 : Int)] r5 r5b r5c r5d c0), by first | rfl | (simp [V.ren, V.renL, renF, lk]; done) | (simp [V.ren, V.renL, renF, lk]; omega), WkT.eq (WkT.refl _) (by first | rfl | (simp only [tlS, tl, vl, vo, oc, ov, tbl, vbl, ty, vy]; done) | (simp only [tlS, tl, vl, vo, oc, ov, tbl, vbl, ty, vy]; rfl) | (simp; done) | (simp []; done) | (rw [List.take_of_length_le (by simp [])]; done) | (rw [List.take_of_length_le (by simp [])]; rfl) | (simp only [tlL]; omega) | (simp; omega)), by first | rfl | (simp only [tlS]; rfl) | (simp [Tl.Obj.ren, V.ren, V.renL, renF, lk]; done), trivial⟩ ⟨(WkT.refl _), trivial⟩ rfl rfl (fun _ h => h)
theorem F_p_spec_l1Cur_lies_W (x0 : List Int) (x1 : Int) (x2 : Int) (y0 : Int) (y1 : List Int) (y2 : Int) (y3 : Int) (h : F_p_spec_l1Cur_lies x0 x1 x2 = some (y0, y1, y2, y3)) : CG Try.prog 149 [V.ref 500 0] [(500, oc 151 [ty x0, ti x1, T.int .u64 x2])] (vi y0) [(500, oc 151 [ty y1, ti y2, T.int .u64 y3])] := by
  unfold F_p_spec_l1Cur_lies at h
  refine CG.intro (tab := tab) tab_ok (fn := Try.f149) Try.func149 (by kernel_rfl) rfl (Nat.le_of_ble_eq_true rfl) (by kernel_rfl) ?_
  obtain ⟨r5, r5b, r5c, r5d, c0, h⟩ := bnd4_some h
  simp only [Option.some.injEq, Prod.mk.injEq] at h
  obtain ⟨rfl, rfl, rfl, rfl⟩ := h
  exact WP.pathG tab_ok mixed [(4, An.fz), (5, An.callG [(500, 500)] [V.ref 500 0, vl [(1 : Int), (1 : Int), (2 : Int), (0 : Int), (1 : Int), (2 : Int), (1 : Int), (3 : Int), (-1 : Int), (1 : Int), (2 : Int), (0 : Int)]] [(500, oc 151 [ty x0, ti x1, T.int .u64 x2])] (vi r5) [(500, oc 151 [ty r5b, ti r5c, T.int .u64 r5d])])] [.keep [2], .keepO [500], .names [(500, 500)]] [500] _ (r' := vi r5) (ps := [((1 = 1 ∧ 0 + 1 ≤ 12) ∧ (1 = 1 ∧ 1 + 1 ≤ 12) ∧ (1 = 1 ∧ 2 + 1 ≤ 12) ∧ (1 = 1 ∧ 3 + 1 ≤ 12) ∧ (1 = 1 ∧ 4 + 1 ≤ 12) ∧ (1 = 1 ∧ 5 + 1 ≤ 12) ∧ (1 = 1 ∧ 6 + 1 ≤ 12) ∧ (1 = 1 ∧ 7 + 1 ≤ 12) ∧ (1 = 1 ∧ 8 + 1 ≤ 12) ∧ (1 = 1 ∧ 9 + 1 ≤ 12) ∧ (1 = 1 ∧ 10 + 1 ≤ 12) ∧ (1 = 1 ∧ 11 + 1 ≤ 12) ∧ True), (12 = 12 * 1), (CG Try.prog 172 [V.ref 500 0, vl [(1 : Int), (1 : Int), (2 : Int), (0 : Int), (1 : Int), (2 : Int), (1 : Int), (3 : Int), (-1 : Int), (1 : Int), (2 : Int), (0 : Int)]] [(500, oc 151 [ty x0, ti x1, T.int .u64 x2])] (vi r5) [(500, oc 151 [ty r5b, ti r5c, T.int .u64 r5d])]), ((V.ref 500 0).ren (renF [(500, 500)]) = V.ref 500 0), (WkT (T.list 12 1 [ti 1, ti 1, ti 2, ti 0, ti 1, ti 2, ti 1, ti 3, ti (-1), ti 1, ti 2, ti 0]) (tl [(1 : Int), (1 : Int), (2 : Int), (0 : Int), (1 : Int), (2 : Int), (1 : Int), (3 : Int), (-1 : Int), (1 : Int), (2 : Int), (0 : Int)])), ((oc 151 [ty x0, ti x1, T.int .u64 x2]) = (oc 151 [ty x0, ti x1, T.int .u64 x2]).ren (renF [(500, 500)]))]) (r := vi r5) (N := [500]) (O := [(500, oc 151 [ty r5b, ti r5c, T.int .u64 r5d])]) [] (by kernel_rfl) ⟨⟨⟨by first | rfl | (simp; done) | (simp []; done) | omega, by first | decide | (simp; done) | (simp []; done) | omega | (simp only [tlL]; omega) | (simp; omega)⟩, ⟨by first | rfl | (simp; done) | (simp []; done) | omega, by first | decide | (simp; done) | (simp []; done) | omega | (simp only [tlL]; omega) | (simp; omega)⟩, ⟨by first | rfl | (simp; done) | (simp []; done) | omega, by first | decide | (simp; done) | (simp []; done) | omega | (simp only [tlL]; omega) | (simp; omega)⟩, ⟨by first | rfl | (simp; done) | (simp []; done) | omega, by first | decide | (simp; done) | (simp []; done) | omega | (simp only [tlL]; omega) | (simp; omega)⟩, ⟨by first | rfl | (simp; done) | (simp []; done) | omega, by first | decide | (simp; done) | (simp []; done) | omega | (simp only [tlL]; omega) | (simp; omega)⟩, ⟨by first | rfl | (simp; done) | (simp []; done) | omega, by first | decide | (simp; done) | (simp []; done) | omega | (simp only [tlL]; omega) | (simp; omega)⟩, ⟨by first | rfl | (simp; done) | (simp []; done) | omega, by first | decide | (simp; done) | (simp []; done) | omega | (simp only [tlL]; omega) | (simp; omega)⟩, ⟨by first | rfl | (simp; done) | (simp []; done) | omega, by first | decide | (simp; done) | (simp []; done) | omega | (simp only [tlL]; omega) | (simp; omega)⟩, ⟨by first | rfl | (simp; done) | (simp []; done) | omega, by first | decide | (simp; done) | (simp []; done) | omega | (simp only [tlL]; omega) | (simp; omega)⟩, ⟨by first | rfl | (simp; done) | (simp []; done) | omega, by first | decide | (simp; done) | (simp []; done) | omega | (simp only [tlL]; omega) | (simp; omega)⟩, ⟨by first | rfl | (simp; done) | (simp []; done) | omega, by first | decide | (simp; done) | (simp []; done) | omega | (simp only [tlL]; omega) | (simp; omega)⟩, ⟨by first | rfl | (simp; done) | (simp []; done) | omega, by first | decide | (simp; done) | (simp []; done) | omega | (simp only [tlL]; omega) | (simp; omega)⟩, trivial⟩, by decide, (F_p_spec_l1Cur_among_W x0 x1 x2 [(1 : Int), (1 : Int), (2 : Int), (0 : Int), (1 : Int), (2 : Int), (1 : Int), (3 : Int), (-1 : Int), (1 : Int), (2 : Int), (0 : Int)] r5 r5b r5c r5d c0), by first | rfl | (simp [V.ren, V.renL, renF, lk]; done) | (simp [V.ren, V.renL, renF, lk]; omega), WkT.eq (WkT.refl _) (by first | rfl | (simp only [tlS, tl, vl, vo, oc, ov, tbl, vbl, ty, vy]; done) | (simp only [tlS, tl, vl, vo, oc, ov, tbl, vbl, ty, vy]; rfl) | (simp; done) | (simp []; done) | (rw [List.take_of_length_le (by simp [])]; done) | (rw [List.take_of_length_le (by simp [])]; rfl) | (simp only [tlL]; omega) | (simp; omega)), by first | rfl | (simp only [tlS]; rfl) | (simp [Tl.Obj.ren, V.ren, V.renL, renF, lk]; done), trivial⟩ ⟨(WkT.refl _), trivial⟩ rfl rfl (fun _ h => h)
theorem F_p_spec_l1Cur_one_W (x0 : List Int) (x1 : Int) (x2 : Int) (x3 : Int) (y0 : Bool) (y1 : List Int) (y2 : Int) (y3 : Int) (h : F_p_spec_l1Cur_one x0 x1 x2 x3 = some (y0, y1, y2, y3)) : CG Try.prog 205 [V.ref 500 0, vi x3] [(500, oc 151 [ty x0, ti x1, T.int .u64 x2])] (vb y0) [(500, oc 151 [ty y1, ti y2, T.int .u64 y3])] := by
  unfold F_p_spec_l1Cur_one at h
  refine CG.intro (tab := tab) tab_ok (fn := Try.f205) Try.func205 (by kernel_rfl) rfl (Nat.le_of_ble_eq_true rfl) (by kernel_rfl) ?_
  obtain ⟨r7, r7b, r7c, r7d, c0, h⟩ := bnd4_some h
  simp only [Option.some.injEq, Prod.mk.injEq] at h
  obtain ⟨rfl, rfl, rfl, rfl⟩ := h
  exact WP.pathG tab_ok mixed [(7, An.callG [(500, 500)] [V.ref 500 0, vi x3] [(500, oc 151 [ty x0, ti x1, T.int .u64 x2])] (vi r7) [(500, oc 151 [ty r7b, ti r7c, T.int .u64 r7d])])] [.keep [4], .keepO [500], .names [(500, 500)]] [500] _ (r' := vb (r7 == (0 : Int))) (ps := [(CG Try.prog 154 [V.ref 500 0, vi x3] [(500, oc 151 [ty x0, ti x1, T.int .u64 x2])] (vi r7) [(500, oc 151 [ty r7b, ti r7c, T.int .u64 r7d])]), ((V.ref 500 0).ren (renF [(500, 500)]) = V.ref 500 0), (WkT (ti x3) (ti x3)), ((oc 151 [ty x0, ti x1, T.int .u64 x2]) = (oc 151 [ty x0, ti x1, T.int .u64 x2]).ren (renF [(500, 500)])), (True)]) (r := vb (r7 == (0 : Int))) (N := [500]) (O := [(500, oc 151 [ty r7b, ti r7c, T.int .u64 r7d])]) [] (by kernel_rfl) ⟨(F_p_spec_l1Cur_pick_W x0 x1 x2 x3 r7 r7b r7c r7d c0), by first | rfl | (simp [V.ren, V.renL, renF, lk]; done) | (simp [V.ren, V.renL, renF, lk]; omega), WkT.refl _, by first | rfl | (simp only [tlS]; rfl) | (simp [Tl.Obj.ren, V.ren, V.renL, renF, lk]; done), trivial, trivial⟩ ⟨(WkT.refl _), trivial⟩ rfl rfl (fun _ h => h)
theorem F_p_spec_l1Cur_state_W (x0 : List Int) (x1 : Int) (x2 : Int) (y0 : List Int) (y1 : Int) (y2 : List Int) (y3 : Int) (y4 : Int) (h : F_p_spec_l1Cur_state x0 x1 x2 = some (y0, y1, y2, y3, y4)) : CG Try.prog 183 [V.ref 500 0] [(500, oc 151 [ty x0, ti x1, T.int .u64 x2])] (V.agg [vo 9000 (List.length y0), vi y1]) [(500, oc 151 [ty y2, ti y3, T.int .u64 y4]), (9000, oc 3 (List.map (T.int .i64) y0))] := by
  unfold F_p_spec_l1Cur_state at h
  refine CG.intro (tab := tab) tab_ok (fn := Try.f183) Try.func183 (by kernel_rfl) rfl (Nat.le_of_ble_eq_true rfl) (by kernel_rfl) ?_
  refine WP.seq ?_
  refine WP.path tab_ok mixed [(2, An.id 2002)] [.keep [2, 0], .keepO [500, 2002]] (ps := []) (e := .normal) (σ' := ⟨[2002, 500], [(2, V.ref 2002 0), (0, V.ref 500 0)], [(500, oc 151 [ty x0, ti x1, T.int .u64 x2]), (2002, oc 28 [T.nils, ti 0])]⟩) (by kernel_rfl) trivial ?_
  refine WP.seq ?_
  obtain ⟨r9, r9b, r9c, r9d, c0, h⟩ := bnd4_some h
  obtain ⟨r11, r11b, r11c, r11d, c1, h⟩ := bnd4_some h
  refine WP.path tab_ok mixed [(9, An.callG [(500, 500)] [V.ref 500 0] [(500, oc 151 [ty x0, ti x1, T.int .u64 x2])] (vi r9) [(500, oc 151 [ty r9b, ti r9c, T.int .u64 r9d])]), (11, An.callG [(500, 500)] [V.ref 500 0] [(500, oc 151 [ty r9b, ti r9c, T.int .u64 r9d])] (vi r11) [(500, oc 151 [ty r11b, ti r11c, T.int .u64 r11d])])] [.keep [4, 3, 2, 0], .keepO [500, 2002]] (ps := [(CG Try.prog 149 [V.ref 500 0] [(500, oc 151 [ty x0, ti x1, T.int .u64 x2])] (vi r9) [(500, oc 151 [ty r9b, ti r9c, T.int .u64 r9d])]), ((V.ref 500 0).ren (renF [(500, 500)]) = V.ref 500 0), ((oc 151 [ty x0, ti x1, T.int .u64 x2]) = (oc 151 [ty x0, ti x1, T.int .u64 x2]).ren (renF [(500, 500)])), (CG Try.prog 147 [V.ref 500 0] [(500, oc 151 [ty r9b, ti r9c, T.int .u64 r9d])] (vi r11) [(500, oc 151 [ty r11b, ti r11c, T.int .u64 r11d])]), ((V.ref 500 0).ren (renF [(500, 500)]) = V.ref 500 0), ((oc 151 [ty r9b, ti r9c, T.int .u64 r9d]) = (oc 151 [ty r9b, ti r9c, T.int .u64 r9d]).ren (renF [(500, 500)]))]) (e := .normal) (σ' := ⟨[2002, 500], [(4, vi r11), (3, vi r9), (2, V.ref 2002 0), (0, V.ref 500 0)], [(500, oc 151 [ty r11b, ti r11c, T.int .u64 r11d]), (2002, oc 28 [T.nils, ti 0])]⟩) (by kernel_rfl) ⟨(F_p_spec_l1Cur_lies_W x0 x1 x2 r9 r9b r9c r9d c0), by first | rfl | (simp [V.ren, V.renL, renF, lk]; done) | (simp [V.ren, V.renL, renF, lk]; omega), by first | rfl | (simp only [tlS]; rfl) | (simp [Tl.Obj.ren, V.ren, V.renL, renF, lk]; done), (F_p_spec_l1Cur_many_W r9b r9c r9d r11 r11b r11c r11d c1), by first | rfl | (simp [V.ren, V.renL, renF, lk]; done) | (simp [V.ren, V.renL, renF, lk]; omega), by first | rfl | (simp only [tlS]; rfl) | (simp [Tl.Obj.ren, V.ren, V.renL, renF, lk]; done), trivial⟩ ?_
  refine WP.seq ?_
  refine WP.path tab_ok mixed [(12, An.id 2012), (5, An.id 2005)] [.keep [5, 4, 3, 2, 0], .keepO [500, 2002, 2005, 2012]] (ps := [(True), (0 = 0 * 1), ((1 = 1 ∧ 0 + 1 ≤ 2) ∧ (1 = 1 ∧ 1 + 1 ≤ 2) ∧ True), ((0 + 2 ≤ 2 ∧ 2 = 2))]) (e := .normal) (σ' := ⟨[2005, 2012, 2002, 500], [(5, V.ref 2005 0), (4, vi r11), (3, vi r9), (2, V.ref 2002 0), (0, V.ref 500 0)], [(500, oc 151 [ty r11b, ti r11c, T.int .u64 r11d]), (2002, oc 28 [T.nils, ti 0]), (2005, ov 28 [vo 2012 0, vi r9]), (2012, oc 3 [])]⟩) (by kernel_rfl) ⟨trivial, by decide, ⟨⟨by decide, by decide⟩, ⟨by decide, by decide⟩, trivial⟩, by decide, trivial⟩ ?_
  obtain ⟨J1, hJ1, h⟩ := jn_some h
  refine WP.joinA (fun (zz : (List Int) × Int × Int × (List Int)) => ⟨[500, 2002, 2005, 2012], [(5, V.ref 2005 0), (4, vi r11), (3, vi r9), (2, V.ref 2002 0), (0, V.ref 500 0)], [(500, oc 151 [ty zz.1, ti zz.2.1, T.int .u64 zz.2.2.1]), (2002, oc 28 [T.nils, ti 0]), (2005, ov 28 [vo 2012 (List.length zz.2.2.2), vi r9]), (2012, oc 3 (List.map (T.int .i64) zz.2.2.2))]⟩) (fun zz => J1 zz.1 zz.2.1 zz.2.2.1 zz.2.2.2 = some (y0, y1, y2, y3, y4)) ?_ ?_
  · -- to where they meet
    refine WP.seq ?_
    refine WP.path tab_ok mixed [] [.keep [6, 5, 4, 3, 2, 0], .keepO [500, 2002, 2005, 2012]] (ps := []) (e := .normal) (σ' := ⟨[2005, 2012, 2002, 500], [(6, vi 0), (5, V.ref 2005 0), (4, vi r11), (3, vi r9), (2, V.ref 2002 0), (0, V.ref 500 0)], [(500, oc 151 [ty r11b, ti r11c, T.int .u64 r11d]), (2002, oc 28 [T.nils, ti 0]), (2005, ov 28 [vo 2012 0, vi r9]), (2012, oc 3 [])]⟩) (by kernel_rfl) trivial ?_
    refine WP.block ?_
    refine WP.wk [.keep [6, 5, 4, 3, 2, 0], .keepO [500, 2002, 2005, 2012], .names [(500, 500), (2002, 2002), (2005, 2005), (2012, 2012)]] (σ' := ⟨[500, 2002, 2005, 2012], [(6, vi 0), (5, V.ref 2005 0), (4, vi r11), (3, vi r9), (2, V.ref 2002 0), (0, V.ref 500 0)], [(500, oc 151 [ty r11b, ti r11c, T.int .u64 r11d]), (2002, oc 28 [T.nils, ti 0]), (2005, ov 28 [vo 2012 0, vi r9]), (2012, oc 3 [])]⟩) (ps := []) (by kernel_rfl) trivial ?_
    refine WP.st (σ' := ⟨[500, 2002, 2005, 2012], [(6, vi (0 : Int)), (5, V.ref 2005 0), (4, vi r11), (3, vi r9), (2, V.ref 2002 0), (0, V.ref 500 0)], [(500, oc 151 [ty r11b, ti r11c, T.int .u64 r11d]), (2002, oc 28 [T.nils, ti 0]), (2005, ov 28 [vo 2012 (List.length ([] : List Int)), vi r9]), (2012, oc 3 (List.map (T.int .i64) ([] : List Int)))]⟩) (by first | rfl | (simp only [tlS, tl, vl, vo, oc, ov, tbl, vbl, ty, vy]; done) | (simp only [tlS, tl, vl, vo, oc, ov, tbl, vbl, ty, vy]; rfl) | (simp; done) | (simp []; done) | (rw [List.take_of_length_le (by simp [])]; done) | (rw [List.take_of_length_le (by simp [])]; rfl) | (simp only [tlL]; omega) | (simp; omega)) ?_
    refine WP.loop (α := Nat × (List Int) × Int × Int × (List Int) × Int) (fun zz => ⟨[500, 2002, 2005, 2012], [(6, vi zz.2.2.2.2.2), (5, V.ref 2005 0), (4, vi r11), (3, vi r9), (2, V.ref 2002 0), (0, V.ref 500 0)], [(500, oc 151 [ty zz.2.1, ti zz.2.2.1, T.int .u64 zz.2.2.2.1]), (2002, oc 28 [T.nils, ti 0]), (2005, ov 28 [vo 2012 (List.length zz.2.2.2.2.1), vi r9]), (2012, oc 3 (List.map (T.int .i64) zz.2.2.2.2.1))]⟩) (fun zz => F_p_spec_l1Cur_state_L1 r9 r11 J1 zz.1 zz.2.1 zz.2.2.1 zz.2.2.2.1 zz.2.2.2.2.1 zz.2.2.2.2.2 = some (y0, y1, y2, y3, y4)) (fun zz => zz.1) (fuel, r11b, r11c, r11d, ([] : List Int), (0 : Int)) h ?_
    rintro ⟨n, o500, o500b, o500c, o12, v6⟩ h0
    have h := (show F_p_spec_l1Cur_state_L1 r9 r11 J1 n o500 o500b o500c o12 v6 = some (y0, y1, y2, y3, y4) from h0)
    rcases n with _ | n
    · rw [F_p_spec_l1Cur_state_L1] at h; cases h
    · rw [F_p_spec_l1Cur_state_L1] at h
      refine WP.seq ?_
      refine WP.seq ?_
      refine WP.path tab_ok mixed [] [.keep [17, 6, 5, 4, 3, 2, 0], .keepO [500, 2002, 2005, 2012]] (ps := [(True)]) (e := .normal) (σ' := ⟨[500, 2002, 2005, 2012], [(17, vb (decide (v6 < r11))), (6, vi v6), (5, V.ref 2005 0), (4, vi r11), (3, vi r9), (2, V.ref 2002 0), (0, V.ref 500 0)], [(500, oc 151 [ty o500, ti o500b, T.int .u64 o500c]), (2002, oc 28 [T.nils, ti 0]), (2005, ov 28 [vo 2012 (List.length o12), vi r9]), (2012, oc 3 (List.map (T.int .i64) o12))]⟩) (by kernel_rfl) ⟨trivial, trivial⟩ ?_
      rcases ite_some h with ⟨h1, h⟩ | ⟨h1, h⟩
      · -- yes
        refine WP.cond (b := decide (v6 < r11)) rfl (fun _ => ?_) (fun hh => by rw [h1] at hh; cases hh)
        refine WP.path tab_ok mixed [] [.keep [6, 5, 4, 3, 2, 0], .keepO [500, 2002, 2005, 2012]] (ps := []) (e := .normal) (σ' := ⟨[500, 2002, 2005, 2012], [(6, vi v6), (5, V.ref 2005 0), (4, vi r11), (3, vi r9), (2, V.ref 2002 0), (0, V.ref 500 0)], [(500, oc 151 [ty o500, ti o500b, T.int .u64 o500c]), (2002, oc 28 [T.nils, ti 0]), (2005, ov 28 [vo 2012 (List.length o12), vi r9]), (2012, oc 3 (List.map (T.int .i64) o12))]⟩) (by kernel_rfl) trivial ?_
        refine WP.seq ?_
        refine WP.block ?_
        obtain ⟨c2, h⟩ := chk_some h
        obtain ⟨r26, r26b, r26c, r26d, c3, h⟩ := bnd4_some h
        obtain ⟨r28, r28b, r28c, r28d, c4, h⟩ := bnd4_some h
        obtain ⟨c5, h⟩ := chk_some h
        obtain ⟨c6, h⟩ := chk_some h
        obtain ⟨c7, h⟩ := chk_some h
        refine WP.path tab_ok mixed [(24, An.v (T.int .i64 (r9 + (2 : Int)))), (25, An.call (ti (maxN (1 : Int) (r9 + (2 : Int))))), (26, An.callG [(500, 500)] [V.ref 500 0, vi (maxN (1 : Int) (r9 + (2 : Int)))] [(500, oc 151 [ty o500, ti o500b, T.int .u64 o500c])] (vi r26) [(500, oc 151 [ty r26b, ti r26c, T.int .u64 r26d])]), (28, An.callG [(500, 500)] [V.ref 500 0, vi 6] [(500, oc 151 [ty r26b, ti r26c, T.int .u64 r26d])] (vi r28) [(500, oc 151 [ty r28b, ti r28c, T.int .u64 r28d])]), (29, An.v (T.int .i64 (Int.tdiv r28 (5 : Int)))), (30, An.v (T.int .i64 (r26 - (Int.tdiv r28 (5 : Int))))), (31, An.fz), (32, An.id 2032)] [.keep [6, 5, 4, 3, 2, 0], .keepO [500, 2002, 2005, 2032]] (ps := [(True), (True), (T.int .i64 (IntKind.wrap .i64 (r9 + (2 : Int))) = T.int .i64 (r9 + (2 : Int))), (C Try.prog 155 [ti 1, ti (r9 + (2 : Int))] (ti (maxN (1 : Int) (r9 + (2 : Int))))), (CG Try.prog 154 [V.ref 500 0, vi (maxN (1 : Int) (r9 + (2 : Int)))] [(500, oc 151 [ty o500, ti o500b, T.int .u64 o500c])] (vi r26) [(500, oc 151 [ty r26b, ti r26c, T.int .u64 r26d])]), ((V.ref 500 0).ren (renF [(500, 500)]) = V.ref 500 0), (WkT (ti (maxN (1 : Int) (r9 + (2 : Int)))) (ti (maxN (1 : Int) (r9 + (2 : Int))))), ((oc 151 [ty o500, ti o500b, T.int .u64 o500c]) = (oc 151 [ty o500, ti o500b, T.int .u64 o500c]).ren (renF [(500, 500)])), (CG Try.prog 154 [V.ref 500 0, vi 6] [(500, oc 151 [ty r26b, ti r26c, T.int .u64 r26d])] (vi r28) [(500, oc 151 [ty r28b, ti r28c, T.int .u64 r28d])]), ((V.ref 500 0).ren (renF [(500, 500)]) = V.ref 500 0), (WkT (ti 6) (ti 6)), ((oc 151 [ty r26b, ti r26c, T.int .u64 r26d]) = (oc 151 [ty r26b, ti r26c, T.int .u64 r26d]).ren (renF [(500, 500)])), ((5 : Int) ≠ 0), (T.int .i64 (IntKind.wrap .i64 (Int.tdiv r28 (5 : Int))) = T.int .i64 (Int.tdiv r28 (5 : Int))), (True), (T.int .i64 (IntKind.wrap .i64 (r26 - (Int.tdiv r28 (5 : Int)))) = T.int .i64 (r26 - (Int.tdiv r28 (5 : Int)))), ((1 = 1 ∧ 0 + 1 ≤ 1) ∧ True), (1 = 1 * 1), (True), (List.length (List.map (T.int .i64) o12) = (List.length o12) * 1), ((((List.length o12) + 1) * 8 ≤ 140737488355328 ∧ (List.length o12) + 1 ≤ maxLen)), (0 < 2)]) (e := .normal) (σ' := ⟨[2032, 500, 2002, 2005, 2012], [(6, vi v6), (5, V.ref 2005 0), (4, vi r11), (3, vi r9), (2, V.ref 2002 0), (0, V.ref 500 0)], [(500, oc 151 [ty r28b, ti r28c, T.int .u64 r28d]), (2002, oc 28 [T.nils, ti 0]), (2005, ov 28 [vo 2032 ((List.length o12) + 1), vi r9]), (2032, oc 3 ((List.map (T.int .i64) o12) ++ [ti (r26 - (Int.tdiv r28 (5 : Int)))]))]⟩) (by kernel_rfl) ⟨trivial, trivial, wrapI c2, (by have hh := (l1Most_C (1 : Int) (r9 + (2 : Int))); simpa using hh), (F_p_spec_l1Cur_pick_W o500 o500b o500c (maxN (1 : Int) (r9 + (2 : Int))) r26 r26b r26c r26d c3), by first | rfl | (simp [V.ren, V.renL, renF, lk]; done) | (simp [V.ren, V.renL, renF, lk]; omega), WkT.refl _, by first | rfl | (simp only [tlS]; rfl) | (simp [Tl.Obj.ren, V.ren, V.renL, renF, lk]; done), (F_p_spec_l1Cur_pick_W r26b r26c r26d (6 : Int) r28 r28b r28c r28d c4), by first | rfl | (simp [V.ren, V.renL, renF, lk]; done) | (simp [V.ren, V.renL, renF, lk]; omega), WkT.refl _, by first | rfl | (simp only [tlS]; rfl) | (simp [Tl.Obj.ren, V.ren, V.renL, renF, lk]; done), (show (5 : Int) ≠ 0 by first | decide | (simp only [maxLen]; omega) | (unfold I64; omega) | (unfold I64; decide)), quo_told c5, trivial, wrapI c6, ⟨⟨by first | rfl | (simp; done) | (simp []; done) | omega, by first | decide | (simp; done) | (simp []; done) | omega | (simp only [tlL]; omega) | (simp; omega)⟩, trivial⟩, by decide, trivial, by first | rfl | (simp; done) | omega | (simp only [tlL]; omega) | (simp; omega) | (simp []; done) | (simp []; omega), c7, by decide, trivial⟩ ?_
        obtain ⟨c8, h⟩ := chk_some h
        refine WP.path tab_ok mixed [(19, An.v (T.int .i64 (v6 + (1 : Int))))] [.keep [6, 5, 4, 3, 2, 0], .keepO [500, 2002, 2005, 2032], .names [(500, 500), (2002, 2002), (2005, 2005), (2032, 2012)]] (ps := [(True), (T.int .i64 (IntKind.wrap .i64 (v6 + (1 : Int))) = T.int .i64 (v6 + (1 : Int)))]) (e := .normal) (σ' := ⟨[500, 2002, 2005, 2012], [(6, vi (v6 + (1 : Int))), (5, V.ref 2005 0), (4, vi r11), (3, vi r9), (2, V.ref 2002 0), (0, V.ref 500 0)], [(500, oc 151 [ty r28b, ti r28c, T.int .u64 r28d]), (2002, oc 28 [T.nils, ti 0]), (2005, ov 28 [vo 2012 ((List.length o12) + 1), vi r9]), (2012, oc 3 ((List.map (T.int .i64) o12) ++ [ti (r26 - (Int.tdiv r28 (5 : Int)))]))]⟩) (by kernel_rfl) ⟨trivial, wrapI c8, trivial⟩ ?_
        exact ⟨(n, r28b, r28c, r28d, o12 ++ [(r26 - (Int.tdiv r28 (5 : Int)))], (v6 + (1 : Int))), h, Nat.lt_succ_self _, (by first | rfl | (simp only [tlS, tl, vl, vo, oc, ov, tbl, vbl, ty, vy]; done) | (simp only [tlS, tl, vl, vo, oc, ov, tbl, vbl, ty, vy]; rfl) | (simp; done) | (simp []; done) | (rw [List.take_of_length_le (by simp [])]; done) | (rw [List.take_of_length_le (by simp [])]; rfl) | (simp only [tlL]; omega) | (simp; omega))⟩
      · -- no
        refine WP.cond (b := decide (v6 < r11)) rfl (fun hh => by rw [h1] at hh; cases hh) (fun _ => ?_)
        refine WP.path tab_ok mixed [] [.keep [5, 4, 3, 2, 0], .keepO [500, 2002, 2005, 2012], .names [(500, 500), (2002, 2002), (2005, 2005), (2012, 2012)]] (ps := []) (e := (.exit 0)) (σ' := ⟨[500, 2002, 2005, 2012], [(5, V.ref 2005 0), (4, vi r11), (3, vi r9), (2, V.ref 2002 0), (0, V.ref 500 0)], [(500, oc 151 [ty o500, ti o500b, T.int .u64 o500c]), (2002, oc 28 [T.nils, ti 0]), (2005, ov 28 [vo 2012 (List.length o12), vi r9]), (2012, oc 3 (List.map (T.int .i64) o12))]⟩) (by kernel_rfl) trivial ?_
        exact ⟨(o500, o500b, o500c, o12), h, rfl⟩
  · -- from there
    rintro ⟨o500, o500b, o500c, o12⟩ h0
    have h := (show J1 o500 o500b o500c o12 = some (y0, y1, y2, y3, y4) from h0)
    rw [hJ1] at h
    obtain ⟨J1, hJ1, h⟩ := jn_some h
    refine WP.joinA (fun (zz : (List Int) × Int × Int × (List Int)) => ⟨[500, 2002, 2005, 2012], [(5, V.ref 2005 0), (2, V.ref 2002 0)], [(500, oc 151 [ty zz.1, ti zz.2.1, T.int .u64 zz.2.2.1]), (2002, oc 28 [T.nils, ti 0]), (2005, ov 28 [vo 2012 (List.length zz.2.2.2), vi r9]), (2012, oc 3 (List.map (T.int .i64) zz.2.2.2))]⟩) (fun zz => J1 zz.1 zz.2.1 zz.2.2.1 zz.2.2.2 = some (y0, y1, y2, y3, y4)) ?_ ?_
    · -- to where they meet
      refine WP.seq ?_
      refine WP.path tab_ok mixed [] [.keep [7, 5, 4, 3, 2, 0], .keepO [500, 2002, 2005, 2012]] (ps := []) (e := .normal) (σ' := ⟨[500, 2002, 2005, 2012], [(7, vi 0), (5, V.ref 2005 0), (4, vi r11), (3, vi r9), (2, V.ref 2002 0), (0, V.ref 500 0)], [(500, oc 151 [ty o500, ti o500b, T.int .u64 o500c]), (2002, oc 28 [T.nils, ti 0]), (2005, ov 28 [vo 2012 (List.length o12), vi r9]), (2012, oc 3 (List.map (T.int .i64) o12))]⟩) (by kernel_rfl) trivial ?_
      refine WP.block ?_
      refine WP.wk [.keep [7, 5, 4, 3, 2, 0], .keepO [500, 2002, 2005, 2012], .names [(500, 500), (2002, 2002), (2005, 2005), (2012, 2012)]] (σ' := ⟨[500, 2002, 2005, 2012], [(7, vi 0), (5, V.ref 2005 0), (4, vi r11), (3, vi r9), (2, V.ref 2002 0), (0, V.ref 500 0)], [(500, oc 151 [ty o500, ti o500b, T.int .u64 o500c]), (2002, oc 28 [T.nils, ti 0]), (2005, ov 28 [vo 2012 (List.length o12), vi r9]), (2012, oc 3 (List.map (T.int .i64) o12))]⟩) (ps := []) (by kernel_rfl) trivial ?_
      refine WP.st (σ' := ⟨[500, 2002, 2005, 2012], [(7, vi (0 : Int)), (5, V.ref 2005 0), (4, vi r11), (3, vi r9), (2, V.ref 2002 0), (0, V.ref 500 0)], [(500, oc 151 [ty o500, ti o500b, T.int .u64 o500c]), (2002, oc 28 [T.nils, ti 0]), (2005, ov 28 [vo 2012 (List.length o12), vi r9]), (2012, oc 3 (List.map (T.int .i64) o12))]⟩) (by first | rfl | (simp only [tlS, tl, vl, vo, oc, ov, tbl, vbl, ty, vy]; done) | (simp only [tlS, tl, vl, vo, oc, ov, tbl, vbl, ty, vy]; rfl) | (simp; done) | (simp []; done) | (rw [List.take_of_length_le (by simp [])]; done) | (rw [List.take_of_length_le (by simp [])]; rfl) | (simp only [tlL]; omega) | (simp; omega)) ?_
      refine WP.loop (α := Nat × (List Int) × Int × Int × (List Int) × Int) (fun zz => ⟨[500, 2002, 2005, 2012], [(7, vi zz.2.2.2.2.2), (5, V.ref 2005 0), (4, vi r11), (3, vi r9), (2, V.ref 2002 0), (0, V.ref 500 0)], [(500, oc 151 [ty zz.2.1, ti zz.2.2.1, T.int .u64 zz.2.2.2.1]), (2002, oc 28 [T.nils, ti 0]), (2005, ov 28 [vo 2012 (List.length zz.2.2.2.2.1), vi r9]), (2012, oc 3 (List.map (T.int .i64) zz.2.2.2.2.1))]⟩) (fun zz => F_p_spec_l1Cur_state_L2 r9 r11 J1 zz.1 zz.2.1 zz.2.2.1 zz.2.2.2.1 zz.2.2.2.2.1 zz.2.2.2.2.2 = some (y0, y1, y2, y3, y4)) (fun zz => zz.1) (fuel, o500, o500b, o500c, o12, (0 : Int)) h ?_
      rintro ⟨n, o500d, o500e, o500g, o12b, v7⟩ h0
      have h := (show F_p_spec_l1Cur_state_L2 r9 r11 J1 n o500d o500e o500g o12b v7 = some (y0, y1, y2, y3, y4) from h0)
      rcases n with _ | n
      · rw [F_p_spec_l1Cur_state_L2] at h; cases h
      · rw [F_p_spec_l1Cur_state_L2] at h
        refine WP.seq ?_
        refine WP.seq ?_
        refine WP.path tab_ok mixed [] [.keep [36, 7, 5, 4, 3, 2, 0], .keepO [500, 2002, 2005, 2012]] (ps := [(True)]) (e := .normal) (σ' := ⟨[500, 2002, 2005, 2012], [(36, vb (decide (v7 < r11))), (7, vi v7), (5, V.ref 2005 0), (4, vi r11), (3, vi r9), (2, V.ref 2002 0), (0, V.ref 500 0)], [(500, oc 151 [ty o500d, ti o500e, T.int .u64 o500g]), (2002, oc 28 [T.nils, ti 0]), (2005, ov 28 [vo 2012 (List.length o12b), vi r9]), (2012, oc 3 (List.map (T.int .i64) o12b))]⟩) (by kernel_rfl) ⟨trivial, trivial⟩ ?_
        rcases ite_some h with ⟨h2, h⟩ | ⟨h2, h⟩
        · -- yes
          refine WP.cond (b := decide (v7 < r11)) rfl (fun _ => ?_) (fun hh => by rw [h2] at hh; cases hh)
          refine WP.path tab_ok mixed [] [.keep [7, 5, 4, 3, 2, 0], .keepO [500, 2002, 2005, 2012]] (ps := []) (e := .normal) (σ' := ⟨[500, 2002, 2005, 2012], [(7, vi v7), (5, V.ref 2005 0), (4, vi r11), (3, vi r9), (2, V.ref 2002 0), (0, V.ref 500 0)], [(500, oc 151 [ty o500d, ti o500e, T.int .u64 o500g]), (2002, oc 28 [T.nils, ti 0]), (2005, ov 28 [vo 2012 (List.length o12b), vi r9]), (2012, oc 3 (List.map (T.int .i64) o12b))]⟩) (by kernel_rfl) trivial ?_
          refine WP.seq ?_
          refine WP.block ?_
          obtain ⟨J2, hJ2, h⟩ := jn_some h
          refine WP.joinA (fun (zz : (List Int) × Int × Int × Bool) => ⟨[500, 2002, 2005, 2012], [(50, vb zz.2.2.2), (7, vi v7), (5, V.ref 2005 0), (4, vi r11), (3, vi r9), (2, V.ref 2002 0), (0, V.ref 500 0)], [(500, oc 151 [ty zz.1, ti zz.2.1, T.int .u64 zz.2.2.1]), (2002, oc 28 [T.nils, ti 0]), (2005, ov 28 [vo 2012 (List.length o12b), vi r9]), (2012, oc 3 (List.map (T.int .i64) o12b))]⟩) (fun zz => J2 zz.1 zz.2.1 zz.2.2.1 zz.2.2.2 = some (y0, y1, y2, y3, y4)) ?_ ?_
          · -- to where they meet
            obtain ⟨c2, h⟩ := chk_some h
            rcases ite_some h with ⟨h3, h⟩ | ⟨h3, h⟩
            · -- yes
              obtain ⟨r48, r48b, r48c, r48d, c3, h⟩ := bnd4_some h
              refine WP.path tab_ok mixed [(43, An.v (ti (List.getD o12b (Int.toNat v7) 0))), (45, An.b true), (48, An.callG [(500, 500)] [V.ref 500 0, vi 30] [(500, oc 151 [ty o500d, ti o500e, T.int .u64 o500g])] (vb r48) [(500, oc 151 [ty r48b, ti r48c, T.int .u64 r48d])])] [.keep [50, 7, 5, 4, 3, 2, 0], .keepO [500, 2002, 2005, 2012], .names [(500, 500), (2002, 2002), (2005, 2005), (2012, 2012)]] (ps := [(True), ((0 ≤ v7 ∧ v7 < ((List.length o12b : Nat) : Int))), ((List.map (T.int .i64) o12b : List T)[(Int.toNat v7) * 1]? = some (ti (List.getD o12b (Int.toNat v7) 0))), (ti (List.getD o12b (Int.toNat v7) 0) = ti (List.getD o12b (Int.toNat v7) 0)), (True), ((decide ((List.getD o12b (Int.toNat v7) 0) > r9)) = true), (CG Try.prog 205 [V.ref 500 0, vi 30] [(500, oc 151 [ty o500d, ti o500e, T.int .u64 o500g])] (vb r48) [(500, oc 151 [ty r48b, ti r48c, T.int .u64 r48d])]), ((V.ref 500 0).ren (renF [(500, 500)]) = V.ref 500 0), (WkT (ti 30) (ti 30)), ((oc 151 [ty o500d, ti o500e, T.int .u64 o500g]) = (oc 151 [ty o500d, ti o500e, T.int .u64 o500g]).ren (renF [(500, 500)]))]) (e := .normal) (σ' := ⟨[500, 2002, 2005, 2012], [(50, vb !r48), (7, vi v7), (5, V.ref 2005 0), (4, vi r11), (3, vi r9), (2, V.ref 2002 0), (0, V.ref 500 0)], [(500, oc 151 [ty r48b, ti r48c, T.int .u64 r48d]), (2002, oc 28 [T.nils, ti 0]), (2005, ov 28 [vo 2012 (List.length o12b), vi r9]), (2012, oc 3 (List.map (T.int .i64) o12b))]⟩) (by kernel_rfl) ⟨trivial, c2, atM (by simp) (by first | omega | (simp only [tlL]; omega) | (simp; omega)), rfl, trivial, h3, (F_p_spec_l1Cur_one_W o500d o500e o500g (30 : Int) r48 r48b r48c r48d c3), by first | rfl | (simp [V.ren, V.renL, renF, lk]; done) | (simp [V.ren, V.renL, renF, lk]; omega), WkT.refl _, by first | rfl | (simp only [tlS]; rfl) | (simp [Tl.Obj.ren, V.ren, V.renL, renF, lk]; done), trivial⟩ ?_
              exact ⟨(r48b, r48c, r48d, !r48), h, rfl⟩
            · -- no
              refine WP.path tab_ok mixed [(43, An.v (ti (List.getD o12b (Int.toNat v7) 0))), (45, An.b false)] [.keep [50, 7, 5, 4, 3, 2, 0], .keepO [500, 2002, 2005, 2012], .names [(500, 500), (2002, 2002), (2005, 2005), (2012, 2012)]] (ps := [(True), ((0 ≤ v7 ∧ v7 < ((List.length o12b : Nat) : Int))), ((List.map (T.int .i64) o12b : List T)[(Int.toNat v7) * 1]? = some (ti (List.getD o12b (Int.toNat v7) 0))), (ti (List.getD o12b (Int.toNat v7) 0) = ti (List.getD o12b (Int.toNat v7) 0)), (True), ((decide ((List.getD o12b (Int.toNat v7) 0) > r9)) = false)]) (e := .normal) (σ' := ⟨[500, 2002, 2005, 2012], [(50, vb false), (7, vi v7), (5, V.ref 2005 0), (4, vi r11), (3, vi r9), (2, V.ref 2002 0), (0, V.ref 500 0)], [(500, oc 151 [ty o500d, ti o500e, T.int .u64 o500g]), (2002, oc 28 [T.nils, ti 0]), (2005, ov 28 [vo 2012 (List.length o12b), vi r9]), (2012, oc 3 (List.map (T.int .i64) o12b))]⟩) (by kernel_rfl) ⟨trivial, c2, atM (by simp) (by first | omega | (simp only [tlL]; omega) | (simp; omega)), rfl, trivial, h3, trivial⟩ ?_
              exact ⟨(o500d, o500e, o500g, false), h, rfl⟩
          · -- from there
            rintro ⟨o500i, o500j, o500k, v50⟩ h0
            have h := (show J2 o500i o500j o500k v50 = some (y0, y1, y2, y3, y4) from h0)
            rw [hJ2] at h
            rcases ite_some h with ⟨h4, h⟩ | ⟨h4, h⟩
            · -- yes
              refine WP.cond (b := v50) rfl (fun _ => ?_) (fun hh => by rw [h4] at hh; cases hh)
              obtain ⟨c2, h⟩ := chk_some h
              refine WP.path tab_ok mixed [] [.keep [7, 5, 4, 3, 2, 0], .keepO [500, 2002, 2005, 2012]] (ps := [(True), ((0 ≤ v7 ∧ v7 < ((List.length o12b : Nat) : Int))), ((Int.toNat v7) * 1 < List.length (List.map (T.int .i64) o12b))]) (e := .normal) (σ' := ⟨[500, 2002, 2005, 2012], [(7, vi v7), (5, V.ref 2005 0), (4, vi r11), (3, vi r9), (2, V.ref 2002 0), (0, V.ref 500 0)], [(500, oc 151 [ty o500i, ti o500j, T.int .u64 o500k]), (2002, oc 28 [T.nils, ti 0]), (2005, ov 28 [vo 2012 (List.length o12b), vi r9]), (2012, oc 3 (List.set (List.map (T.int .i64) o12b) ((Int.toNat v7) * 1) (ti (-1))))]⟩) (by kernel_rfl) ⟨trivial, c2, by first | decide | omega | (simp only [tlL]; omega) | (simp; omega) | (simp []; done) | (simp []; omega), trivial⟩ ?_
              obtain ⟨c3, h⟩ := chk_some h
              refine WP.path tab_ok mixed [(38, An.v (T.int .i64 (v7 + (1 : Int))))] [.keep [7, 5, 4, 3, 2, 0], .keepO [500, 2002, 2005, 2012], .names [(500, 500), (2002, 2002), (2005, 2005), (2012, 2012)]] (ps := [(True), (T.int .i64 (IntKind.wrap .i64 (v7 + (1 : Int))) = T.int .i64 (v7 + (1 : Int)))]) (e := .normal) (σ' := ⟨[500, 2002, 2005, 2012], [(7, vi (v7 + (1 : Int))), (5, V.ref 2005 0), (4, vi r11), (3, vi r9), (2, V.ref 2002 0), (0, V.ref 500 0)], [(500, oc 151 [ty o500i, ti o500j, T.int .u64 o500k]), (2002, oc 28 [T.nils, ti 0]), (2005, ov 28 [vo 2012 (List.length o12b), vi r9]), (2012, oc 3 (List.set (List.map (T.int .i64) o12b) ((Int.toNat v7) * 1) (ti (-1))))]⟩) (by kernel_rfl) ⟨trivial, wrapI c3, trivial⟩ ?_
              exact ⟨(n, o500i, o500j, o500k, List.set o12b (Int.toNat v7) (-1 : Int), (v7 + (1 : Int))), h, Nat.lt_succ_self _, (by first | rfl | (simp only [tlS, tl, vl, vo, oc, ov, tbl, vbl, ty, vy]; done) | (simp only [tlS, tl, vl, vo, oc, ov, tbl, vbl, ty, vy]; rfl) | (simp; done) | (simp []; done) | (rw [List.take_of_length_le (by simp [])]; done) | (rw [List.take_of_length_le (by simp [])]; rfl) | (simp only [tlL]; omega) | (simp; omega))⟩
            · -- no
              refine WP.cond (b := v50) rfl (fun hh => by rw [h4] at hh; cases hh) (fun _ => ?_)
              refine WP.path tab_ok mixed [] [.keep [7, 5, 4, 3, 2, 0], .keepO [500, 2002, 2005, 2012]] (ps := []) (e := .normal) (σ' := ⟨[500, 2002, 2005, 2012], [(7, vi v7), (5, V.ref 2005 0), (4, vi r11), (3, vi r9), (2, V.ref 2002 0), (0, V.ref 500 0)], [(500, oc 151 [ty o500i, ti o500j, T.int .u64 o500k]), (2002, oc 28 [T.nils, ti 0]), (2005, ov 28 [vo 2012 (List.length o12b), vi r9]), (2012, oc 3 (List.map (T.int .i64) o12b))]⟩) (by kernel_rfl) trivial ?_
              obtain ⟨c2, h⟩ := chk_some h
              refine WP.path tab_ok mixed [(38, An.v (T.int .i64 (v7 + (1 : Int))))] [.keep [7, 5, 4, 3, 2, 0], .keepO [500, 2002, 2005, 2012], .names [(500, 500), (2002, 2002), (2005, 2005), (2012, 2012)]] (ps := [(True), (T.int .i64 (IntKind.wrap .i64 (v7 + (1 : Int))) = T.int .i64 (v7 + (1 : Int)))]) (e := .normal) (σ' := ⟨[500, 2002, 2005, 2012], [(7, vi (v7 + (1 : Int))), (5, V.ref 2005 0), (4, vi r11), (3, vi r9), (2, V.ref 2002 0), (0, V.ref 500 0)], [(500, oc 151 [ty o500i, ti o500j, T.int .u64 o500k]), (2002, oc 28 [T.nils, ti 0]), (2005, ov 28 [vo 2012 (List.length o12b), vi r9]), (2012, oc 3 (List.map (T.int .i64) o12b))]⟩) (by kernel_rfl) ⟨trivial, wrapI c2, trivial⟩ ?_
              exact ⟨(n, o500i, o500j, o500k, o12b, (v7 + (1 : Int))), h, Nat.lt_succ_self _, rfl⟩
        · -- no
          refine WP.cond (b := decide (v7 < r11)) rfl (fun hh => by rw [h2] at hh; cases hh) (fun _ => ?_)
          refine WP.path tab_ok mixed [] [.keep [5, 2], .keepO [500, 2002, 2005, 2012], .names [(500, 500), (2002, 2002), (2005, 2005), (2012, 2012)]] (ps := []) (e := (.exit 2)) (σ' := ⟨[500, 2002, 2005, 2012], [(5, V.ref 2005 0), (2, V.ref 2002 0)], [(500, oc 151 [ty o500d, ti o500e, T.int .u64 o500g]), (2002, oc 28 [T.nils, ti 0]), (2005, ov 28 [vo 2012 (List.length o12b), vi r9]), (2012, oc 3 (List.map (T.int .i64) o12b))]⟩) (by kernel_rfl) trivial ?_
          exact ⟨(o500d, o500e, o500g, o12b), h, rfl⟩
    · -- from there
      rintro ⟨o500d, o500e, o500g, o12b⟩ h0
      have h := (show J1 o500d o500e o500g o12b = some (y0, y1, y2, y3, y4) from h0)
      rw [hJ1] at h
      simp only [Option.some.injEq, Prod.mk.injEq] at h
      obtain ⟨rfl, rfl, rfl, rfl, rfl⟩ := h
      exact WP.pathG tab_ok mixed [] [.keep [2], .keepO [500, 2012, 2002], .names [(500, 500), (2012, 9000), (2002, 2002)]] [500, 9000] _ (r' := V.agg [vo 9000 (List.length o12b), vi r9]) (ps := [(0 + 2 ≤ 2), ((0 + 2 ≤ 2 ∧ 2 = 2)), (0 + 2 ≤ 2)]) (r := V.agg [vo 9000 (List.length o12b), vi r9]) (N := [500, 9000, 2002]) (O := [(500, oc 151 [ty o500d, ti o500e, T.int .u64 o500g]), (9000, oc 3 (List.map (T.int .i64) o12b))]) [] (by kernel_rfl) ⟨by decide, by decide, by decide, trivial⟩ ⟨rfl, (WkT.refl _), trivial⟩ rfl rfl (fun _ h => h)
theorem F_p_spec_l1Cur_ahead3_W (x0 : List Int) (x1 : Int) (x2 : Int) (y0 : Int) (y1 : List Int) (y2 : Int) (y3 : Int) (h : F_p_spec_l1Cur_ahead3 x0 x1 x2 = some (y0, y1, y2, y3)) : CG Try.prog 184 [V.ref 500 0] [(500, oc 151 [ty x0, ti x1, T.int .u64 x2])] (vi y0) [(500, oc 151 [ty y1, ti y2, T.int .u64 y3])] := by
  unfold F_p_spec_l1Cur_ahead3 at h
  refine CG.intro (tab := tab) tab_ok (fn := Try.f184) Try.func184 (by kernel_rfl) rfl (Nat.le_of_ble_eq_true rfl) (by kernel_rfl) ?_
  obtain ⟨r6, r6b, r6c, r6d, c0, h⟩ := bnd4_some h
  obtain ⟨c1, h⟩ := chk_some h
  obtain ⟨c2, h⟩ := chk_some h
  obtain ⟨c3, h⟩ := chk_some h
  obtain ⟨r10, r10b, r10c, r10d, c4, h⟩ := bnd4_some h
  simp only [Option.some.injEq, Prod.mk.injEq] at h
  obtain ⟨rfl, rfl, rfl, rfl⟩ := h
  exact WP.pathG tab_ok mixed [(4, An.fz), (6, An.callG [(500, 500)] [V.ref 500 0, vi 24] [(500, oc 151 [ty x0, ti x1, T.int .u64 x2])] (vi r6) [(500, oc 151 [ty r6b, ti r6c, T.int .u64 r6d])]), (7, An.v (T.int .i64 (Int.tdiv r6 (11 : Int)))), (8, An.v (T.int .i64 ((10 : Int) + (Int.tdiv r6 (11 : Int))))), (10, An.callG [(500, 500)] [V.ref 500 0, vl (List.take ((Int.toNat ((10 : Int) + (Int.tdiv r6 (11 : Int)))) - 0) [(4 : Int), (5 : Int), (3 : Int), (6 : Int), (2 : Int), (8 : Int), (1 : Int), (30 : Int), (12 : Int), (0 : Int), (31 : Int), (-1 : Int)])] [(500, oc 151 [ty r6b, ti r6c, T.int .u64 r6d])] (vi r10) [(500, oc 151 [ty r10b, ti r10c, T.int .u64 r10d])])] [.keep [2], .keepO [500], .names [(500, 500)]] [500] _ (r' := vi r10) (ps := [((1 = 1 ∧ 0 + 1 ≤ 12) ∧ (1 = 1 ∧ 1 + 1 ≤ 12) ∧ (1 = 1 ∧ 2 + 1 ≤ 12) ∧ (1 = 1 ∧ 3 + 1 ≤ 12) ∧ (1 = 1 ∧ 4 + 1 ≤ 12) ∧ (1 = 1 ∧ 5 + 1 ≤ 12) ∧ (1 = 1 ∧ 6 + 1 ≤ 12) ∧ (1 = 1 ∧ 7 + 1 ≤ 12) ∧ (1 = 1 ∧ 8 + 1 ≤ 12) ∧ (1 = 1 ∧ 9 + 1 ≤ 12) ∧ (1 = 1 ∧ 10 + 1 ≤ 12) ∧ (1 = 1 ∧ 11 + 1 ≤ 12) ∧ True), (12 = 12 * 1), (CG Try.prog 154 [V.ref 500 0, vi 24] [(500, oc 151 [ty x0, ti x1, T.int .u64 x2])] (vi r6) [(500, oc 151 [ty r6b, ti r6c, T.int .u64 r6d])]), ((V.ref 500 0).ren (renF [(500, 500)]) = V.ref 500 0), (WkT (ti 24) (ti 24)), ((oc 151 [ty x0, ti x1, T.int .u64 x2]) = (oc 151 [ty x0, ti x1, T.int .u64 x2]).ren (renF [(500, 500)])), ((11 : Int) ≠ 0), (T.int .i64 (IntKind.wrap .i64 (Int.tdiv r6 (11 : Int))) = T.int .i64 (Int.tdiv r6 (11 : Int))), (True), (T.int .i64 (IntKind.wrap .i64 ((10 : Int) + (Int.tdiv r6 (11 : Int)))) = T.int .i64 ((10 : Int) + (Int.tdiv r6 (11 : Int)))), ((0 ≤ (0 : Int) ∧ (0 : Int) ≤ ((10 : Int) + (Int.tdiv r6 (11 : Int))) ∧ ((10 : Int) + (Int.tdiv r6 (11 : Int))) ≤ (12 : Int))), (CG Try.prog 172 [V.ref 500 0, vl (List.take ((Int.toNat ((10 : Int) + (Int.tdiv r6 (11 : Int)))) - 0) [(4 : Int), (5 : Int), (3 : Int), (6 : Int), (2 : Int), (8 : Int), (1 : Int), (30 : Int), (12 : Int), (0 : Int), (31 : Int), (-1 : Int)])] [(500, oc 151 [ty r6b, ti r6c, T.int .u64 r6d])] (vi r10) [(500, oc 151 [ty r10b, ti r10c, T.int .u64 r10d])]), ((V.ref 500 0).ren (renF [(500, 500)]) = V.ref 500 0), (WkT (T.list ((Int.toNat ((10 : Int) + (Int.tdiv r6 (11 : Int)))) - 0) 1 (List.take (((Int.toNat ((10 : Int) + (Int.tdiv r6 (11 : Int)))) - 0) * 1) [ti 4, ti 5, ti 3, ti 6, ti 2, ti 8, ti 1, ti 30, ti 12, ti 0, ti 31, ti (-1)])) (tl (List.take ((Int.toNat ((10 : Int) + (Int.tdiv r6 (11 : Int)))) - 0) [(4 : Int), (5 : Int), (3 : Int), (6 : Int), (2 : Int), (8 : Int), (1 : Int), (30 : Int), (12 : Int), (0 : Int), (31 : Int), (-1 : Int)]))), ((oc 151 [ty r6b, ti r6c, T.int .u64 r6d]) = (oc 151 [ty r6b, ti r6c, T.int .u64 r6d]).ren (renF [(500, 500)]))]) (r := vi r10) (N := [500]) (O := [(500, oc 151 [ty r10b, ti r10c, T.int .u64 r10d])]) [] (by kernel_rfl) ⟨⟨⟨by first | rfl | (simp; done) | (simp []; done) | omega, by first | decide | (simp; done) | (simp []; done) | omega | (simp only [tlL]; omega) | (simp; omega)⟩, ⟨by first | rfl | (simp; done) | (simp []; done) | omega, by first | decide | (simp; done) | (simp []; done) | omega | (simp only [tlL]; omega) | (simp; omega)⟩, ⟨by first | rfl | (simp; done) | (simp []; done) | omega, by first | decide | (simp; done) | (simp []; done) | omega | (simp only [tlL]; omega) | (simp; omega)⟩, ⟨by first | rfl | (simp; done) | (simp []; done) | omega, by first | decide | (simp; done) | (simp []; done) | omega | (simp only [tlL]; omega) | (simp; omega)⟩, ⟨by first | rfl | (simp; done) | (simp []; done) | omega, by first | decide | (simp; done) | (simp []; done) | omega | (simp only [tlL]; omega) | (simp; omega)⟩, ⟨by first | rfl | (simp; done) | (simp []; done) | omega, by first | decide | (simp; done) | (simp []; done) | omega | (simp only [tlL]; omega) | (simp; omega)⟩, ⟨by first | rfl | (simp; done) | (simp []; done) | omega, by first | decide | (simp; done) | (simp []; done) | omega | (simp only [tlL]; omega) | (simp; omega)⟩, ⟨by first | rfl | (simp; done) | (simp []; done) | omega, by first | decide | (simp; done) | (simp []; done) | omega | (simp only [tlL]; omega) | (simp; omega)⟩, ⟨by first | rfl | (simp; done) | (simp []; done) | omega, by first | decide | (simp; done) | (simp []; done) | omega | (simp only [tlL]; omega) | (simp; omega)⟩, ⟨by first | rfl | (simp; done) | (simp []; done) | omega, by first | decide | (simp; done) | (simp []; done) | omega | (simp only [tlL]; omega) | (simp; omega)⟩, ⟨by first | rfl | (simp; done) | (simp []; done) | omega, by first | decide | (simp; done) | (simp []; done) | omega | (simp only [tlL]; omega) | (simp; omega)⟩, ⟨by first | rfl | (simp; done) | (simp []; done) | omega, by first | decide | (simp; done) | (simp []; done) | omega | (simp only [tlL]; omega) | (simp; omega)⟩, trivial⟩, by decide, (F_p_spec_l1Cur_pick_W x0 x1 x2 (24 : Int) r6 r6b r6c r6d c0), by first | rfl | (simp [V.ren, V.renL, renF, lk]; done) | (simp [V.ren, V.renL, renF, lk]; omega), WkT.refl _, by first | rfl | (simp only [tlS]; rfl) | (simp [Tl.Obj.ren, V.ren, V.renL, renF, lk]; done), (show (11 : Int) ≠ 0 by first | decide | (simp only [maxLen]; omega) | (unfold I64; omega) | (unfold I64; decide)), quo_told c1, trivial, wrapI c2, c3, (F_p_spec_l1Cur_among_W r6b r6c r6d (List.take ((Int.toNat ((10 : Int) + (Int.tdiv r6 (11 : Int)))) - 0) [(4 : Int), (5 : Int), (3 : Int), (6 : Int), (2 : Int), (8 : Int), (1 : Int), (30 : Int), (12 : Int), (0 : Int), (31 : Int), (-1 : Int)]) r10 r10b r10c r10d c4), by first | rfl | (simp [V.ren, V.renL, renF, lk]; done) | (simp [V.ren, V.renL, renF, lk]; omega), WkT.eq (WkT.refl _) (by first | rfl | (simp only [tlS, tl, vl, vo, oc, ov, tbl, vbl, ty, vy]; done) | (simp only [tlS, tl, vl, vo, oc, ov, tbl, vbl, ty, vy]; rfl) | (simp; done) | (simp []; done) | (rw [List.take_of_length_le (by simp [])]; done) | (rw [List.take_of_length_le (by simp [])]; rfl) | (simp only [tlL]; omega) | (simp; omega)), by first | rfl | (simp only [tlS]; rfl) | (simp [Tl.Obj.ren, V.ren, V.renL, renF, lk]; done), trivial⟩ ⟨(WkT.refl _), trivial⟩ rfl rfl (fun _ h => h)
theorem F_spec_DrawNumberWeight_W (x0 : List Int) (y0 : List Int) (y1 : Int) (y2 : Int) (y3 : Int) (h : F_spec_DrawNumberWeight x0 = some (y0, y1, y2, y3)) : CG Try.prog 48 [vy x0] [] (V.tup [V.agg [vo 9000 (List.length y0), vi y1], vi y2, vi y3]) [(9000, oc 3 (List.map (T.int .i64) y0))] := by
  unfold F_spec_DrawNumberWeight at h
  refine CG.intro (tab := tab) tab_ok (fn := Try.f48) Try.func48 (by kernel_rfl) rfl (Nat.le_of_ble_eq_true rfl) (by kernel_rfl) ?_
  obtain ⟨r11, r11b, r11c, r11d, r11e, c0, h⟩ := bnd5_some h
  obtain ⟨r18, r18b, r18c, r18d, c1, h⟩ := bnd4_some h
  obtain ⟨r20, r20b, r20c, r20d, c2, h⟩ := bnd4_some h
  obtain ⟨c3, h⟩ := chk_some h
  obtain ⟨c4, h⟩ := chk_some h
  obtain ⟨r24, r24b, r24c, r24d, c5, h⟩ := bnd4_some h
  obtain ⟨c6, h⟩ := chk_some h
  obtain ⟨c7, h⟩ := chk_some h
  obtain ⟨n26, c8, h⟩ := nam_some h
  obtain ⟨r28, r28b, r28c, r28d, c9, h⟩ := bnd4_some h
  simp only [Option.some.injEq, Prod.mk.injEq] at h
  obtain ⟨rfl, rfl, rfl, rfl⟩ := h
  exact WP.pathG tab_ok mixed [(2, An.id 2002), (9, An.id 2009), (11, An.callG [(500, 2009), (9000, 10110)] [V.ref 500 0] [(500, oc 151 [ty x0, ti 0, T.int .u64 0])] (V.agg [vo 9000 (List.length r11), vi r11b]) [(500, oc 151 [ty r11c, ti r11d, T.int .u64 r11e]), (9000, oc 3 (List.map (T.int .i64) r11))]), (6, An.id 2006), (17, An.call (ti (maxN (1 : Int) ((List.length r11 : Nat) : Int)))), (18, An.callG [(500, 2009)] [V.ref 500 0, vi (maxN (1 : Int) ((List.length r11 : Nat) : Int))] [(500, oc 151 [ty r11c, ti r11d, T.int .u64 r11e])] (vi r18) [(500, oc 151 [ty r18b, ti r18c, T.int .u64 r18d])]), (20, An.callG [(500, 2009)] [V.ref 500 0, vi 24] [(500, oc 151 [ty r18b, ti r18c, T.int .u64 r18d])] (vi r20) [(500, oc 151 [ty r20b, ti r20c, T.int .u64 r20d])]), (21, An.v (T.int .i64 (Int.tdiv r20 (23 : Int)))), (22, An.v (T.int .i64 (r18 + (Int.tdiv r20 (23 : Int))))), (24, An.callG [(500, 2009)] [V.ref 500 0, vi 24] [(500, oc 151 [ty r20b, ti r20c, T.int .u64 r20d])] (vi r24) [(500, oc 151 [ty r24b, ti r24c, T.int .u64 r24d])]), (25, An.v (T.int .i64 (Int.tdiv r24 (23 : Int)))), (26, An.v (ti n26)), (28, An.callG [(500, 2009)] [V.ref 500 0] [(500, oc 151 [ty r24b, ti r24c, T.int .u64 r24d])] (vi r28) [(500, oc 151 [ty r28b, ti r28c, T.int .u64 r28d])])] [.keep [2, 3, 4], .keepO [10110, 2002], .names [(10110, 9000), (2002, 2002)]] [9000] _ (r' := V.tup [V.agg [vo 9000 (List.length r11), vi r11b], vi n26, vi r28]) (ps := [((1 = 1 ∧ 0 + 1 ≤ 3) ∧ True), (CG Try.prog 183 [V.ref 500 0] [(500, oc 151 [ty x0, ti 0, T.int .u64 0])] (V.agg [vo 9000 (List.length r11), vi r11b]) [(500, oc 151 [ty r11c, ti r11d, T.int .u64 r11e]), (9000, oc 3 (List.map (T.int .i64) r11))]), ((V.ref 500 0).ren (renF [(500, 2009), (9000, 10110)]) = V.ref 2009 0), ((oc 151 [ty x0, ti 0, T.int .u64 0]) = (oc 151 [ty x0, ti 0, T.int .u64 0]).ren (renF [(500, 2009), (9000, 10110)])), ((0 + 2 ≤ 2 ∧ 2 = 2)), (0 + 2 ≤ 2), (True), (C Try.prog 155 [ti 1, ti ((List.length r11 : Nat) : Int)] (ti (maxN (1 : Int) ((List.length r11 : Nat) : Int)))), (CG Try.prog 154 [V.ref 500 0, vi (maxN (1 : Int) ((List.length r11 : Nat) : Int))] [(500, oc 151 [ty r11c, ti r11d, T.int .u64 r11e])] (vi r18) [(500, oc 151 [ty r18b, ti r18c, T.int .u64 r18d])]), ((V.ref 500 0).ren (renF [(500, 2009)]) = V.ref 2009 0), (WkT (ti (maxN (1 : Int) ((List.length r11 : Nat) : Int))) (ti (maxN (1 : Int) ((List.length r11 : Nat) : Int)))), ((oc 151 [ty r11c, ti r11d, T.int .u64 r11e]) = (oc 151 [ty r11c, ti r11d, T.int .u64 r11e]).ren (renF [(500, 2009)])), (CG Try.prog 154 [V.ref 500 0, vi 24] [(500, oc 151 [ty r18b, ti r18c, T.int .u64 r18d])] (vi r20) [(500, oc 151 [ty r20b, ti r20c, T.int .u64 r20d])]), ((V.ref 500 0).ren (renF [(500, 2009)]) = V.ref 2009 0), (WkT (ti 24) (ti 24)), ((oc 151 [ty r18b, ti r18c, T.int .u64 r18d]) = (oc 151 [ty r18b, ti r18c, T.int .u64 r18d]).ren (renF [(500, 2009)])), ((23 : Int) ≠ 0), (T.int .i64 (IntKind.wrap .i64 (Int.tdiv r20 (23 : Int))) = T.int .i64 (Int.tdiv r20 (23 : Int))), (True), (T.int .i64 (IntKind.wrap .i64 (r18 + (Int.tdiv r20 (23 : Int)))) = T.int .i64 (r18 + (Int.tdiv r20 (23 : Int)))), (CG Try.prog 154 [V.ref 500 0, vi 24] [(500, oc 151 [ty r20b, ti r20c, T.int .u64 r20d])] (vi r24) [(500, oc 151 [ty r24b, ti r24c, T.int .u64 r24d])]), ((V.ref 500 0).ren (renF [(500, 2009)]) = V.ref 2009 0), (WkT (ti 24) (ti 24)), ((oc 151 [ty r20b, ti r20c, T.int .u64 r20d]) = (oc 151 [ty r20b, ti r20c, T.int .u64 r20d]).ren (renF [(500, 2009)])), ((23 : Int) ≠ 0), (T.int .i64 (IntKind.wrap .i64 (Int.tdiv r24 (23 : Int))) = T.int .i64 (Int.tdiv r24 (23 : Int))), (True), (T.int .i64 (IntKind.wrap .i64 ((r18 + (Int.tdiv r20 (23 : Int))) - (Int.tdiv r24 (23 : Int)))) = ti n26), (CG Try.prog 184 [V.ref 500 0] [(500, oc 151 [ty r24b, ti r24c, T.int .u64 r24d])] (vi r28) [(500, oc 151 [ty r28b, ti r28c, T.int .u64 r28d])]), ((V.ref 500 0).ren (renF [(500, 2009)]) = V.ref 2009 0), ((oc 151 [ty r24b, ti r24c, T.int .u64 r24d]) = (oc 151 [ty r24b, ti r24c, T.int .u64 r24d]).ren (renF [(500, 2009)])), ((0 + 2 ≤ 2 ∧ 2 = 2)), (0 + 2 ≤ 2)]) (r := V.tup [V.agg [vo 9000 (List.length r11), vi r11b], vi n26, vi r28]) (N := [9000, 2002]) (O := [(9000, oc 3 (List.map (T.int .i64) r11))]) [] (by kernel_rfl) ⟨⟨⟨by first | rfl | (simp; done) | (simp []; done) | omega, by first | decide | (simp; done) | (simp []; done) | omega | (simp only [tlL]; omega) | (simp; omega)⟩, trivial⟩, (F_p_spec_l1Cur_state_W x0 (0 : Int) (0 : Int) r11 r11b r11c r11d r11e c0), by first | rfl | (simp [V.ren, V.renL, renF, lk]; done) | (simp [V.ren, V.renL, renF, lk]; omega), by first | rfl | (simp only [tlS]; rfl) | (simp [Tl.Obj.ren, V.ren, V.renL, renF, lk]; done), by decide, by decide, trivial, (by have hh := (l1Most_C (1 : Int) ((List.length r11 : Nat) : Int)); simpa using hh), (F_p_spec_l1Cur_pick_W r11c r11d r11e (maxN (1 : Int) ((List.length r11 : Nat) : Int)) r18 r18b r18c r18d c1), by first | rfl | (simp [V.ren, V.renL, renF, lk]; done) | (simp [V.ren, V.renL, renF, lk]; omega), WkT.refl _, by first | rfl | (simp only [tlS]; rfl) | (simp [Tl.Obj.ren, V.ren, V.renL, renF, lk]; done), (F_p_spec_l1Cur_pick_W r18b r18c r18d (24 : Int) r20 r20b r20c r20d c2), by first | rfl | (simp [V.ren, V.renL, renF, lk]; done) | (simp [V.ren, V.renL, renF, lk]; omega), WkT.refl _, by first | rfl | (simp only [tlS]; rfl) | (simp [Tl.Obj.ren, V.ren, V.renL, renF, lk]; done), (show (23 : Int) ≠ 0 by first | decide | (simp only [maxLen]; omega) | (unfold I64; omega) | (unfold I64; decide)), quo_told c3, trivial, wrapI c4, (F_p_spec_l1Cur_pick_W r20b r20c r20d (24 : Int) r24 r24b r24c r24d c5), by first | rfl | (simp [V.ren, V.renL, renF, lk]; done) | (simp [V.ren, V.renL, renF, lk]; omega), WkT.refl _, by first | rfl | (simp only [tlS]; rfl) | (simp [Tl.Obj.ren, V.ren, V.renL, renF, lk]; done), (show (23 : Int) ≠ 0 by first | decide | (simp only [maxLen]; omega) | (unfold I64; omega) | (unfold I64; decide)), quo_told c6, trivial, Eq.trans (wrapI c7) (congrArg (ti) c8), (F_p_spec_l1Cur_ahead3_W r24b r24c r24d r28 r28b r28c r28d c9), by first | rfl | (simp [V.ren, V.renL, renF, lk]; done) | (simp [V.ren, V.renL, renF, lk]; omega), by first | rfl | (simp only [tlS]; rfl) | (simp [Tl.Obj.ren, V.ren, V.renL, renF, lk]; done), by decide, by decide, trivial⟩ ⟨rfl, (WkT.refl _), (WkT.refl _), (WkT.refl _), trivial⟩ rfl rfl (fun _ h => h)
theorem F_spec_DrawNumberWeight_W_C (x0 : List Int) (y0 : List Int) (y1 : Int) (y2 : Int) (y3 : Int) (h : F_spec_DrawNumberWeight x0 = some (y0, y1, y2, y3)) : C Try.prog 48 [ty x0] (T.tup [T.agg [tl y0, ti y1], ti y2, ti y3]) :=
  CG.toC (ps := [(List.length (List.map (T.int .i64) y0) = (List.length y0) * 1)]) (F_spec_DrawNumberWeight_W  x0 y0 y1 y2 y3 h) (by rfl) ⟨by first | rfl | (simp; done) | omega | (simp; omega) | (simp [hl]; done) | (simp [hl]; omega), trivial⟩
theorem F_impl_isAhead_W (x0 : Int) (y0 : Bool) (h : F_impl_isAhead x0 = some y0) : C Try.prog 185 [ti x0] (tb y0) := by
  unfold F_impl_isAhead at h
  refine C.intro (tab := tab) tab_ok (fn := Try.f185) Try.func185 (by kernel_rfl) rfl (Nat.le_of_ble_eq_true rfl) ?_
  have h := Option.some.inj h
  subst h
  exact WP.pathW tab_ok mixed [(4, An.call (tb (decide ((0 : Int) ≤ x0) && decide (x0 ≤ (30 : Int)))))] _ (ps := [(C Try.prog 174 [ti x0, ti 0, ti 30] (tb (decide ((0 : Int) ≤ x0) && decide (x0 ≤ (30 : Int)))))]) (r := tb (decide ((0 : Int) ≤ x0) && decide (x0 ≤ (30 : Int)))) (by kernel_rfl) ⟨(by have hh := (in_C x0 (0 : Int) (30 : Int)); simpa using hh), trivial⟩ (WkT.eq (y := tb (decide ((0 : Int) ≤ x0) && decide (x0 ≤ (30 : Int)))) (WkT.refl _) rfl) (fun _ h => h)
theorem F_impl_ways_W (x0 : Int) (x1 : Int) (y0 : Int) (h : F_impl_ways x0 x1 = some y0) : C Try.prog 192 [ti x0, ti x1] (ti y0) := by
  unfold F_impl_ways at h
  refine C.intro (tab := tab) tab_ok (fn := Try.f192) Try.func192 (by kernel_rfl) rfl (Nat.le_of_ble_eq_true rfl) ?_
  refine WP.seq ?_
  refine WP.path tab_ok mixed [] [.keep [4, 0, 1], .keepO []] (ps := []) (e := .normal) (σ' := ⟨[], [(4, vi 0), (0, vi x0), (1, vi x1)], []⟩) (by kernel_rfl) trivial ?_
  refine WP.seq ?_
  refine WP.path tab_ok mixed [] [.keep [5, 4, 0, 1], .keepO []] (ps := []) (e := .normal) (σ' := ⟨[], [(5, vi 1), (4, vi 0), (0, vi x0), (1, vi x1)], []⟩) (by kernel_rfl) trivial ?_
  obtain ⟨J1, hJ1, h⟩ := jn_some h
  refine WP.joinA (fun (zz : Int) => ⟨[], [(5, vi zz), (4, vi 0)], []⟩) (fun zz => J1 zz = some y0) ?_ ?_
  · -- to where they meet
    refine WP.seq ?_
    refine WP.path tab_ok mixed [] [.keep [8, 7, 5, 4, 0], .keepO []] (ps := []) (e := .normal) (σ' := ⟨[], [(8, vi 0), (7, vi x1), (5, vi 1), (4, vi 0), (0, vi x0)], []⟩) (by kernel_rfl) trivial ?_
    refine WP.block ?_
    refine WP.wk [.keep [8, 7, 5, 4, 0], .keepO [], .names []] (σ' := ⟨[], [(8, vi 0), (7, vi x1), (5, vi 1), (4, vi 0), (0, vi x0)], []⟩) (ps := []) (by kernel_rfl) trivial ?_
    refine WP.st (σ' := ⟨[], [(8, vi (0 : Int)), (7, vi x1), (5, vi (1 : Int)), (4, vi 0), (0, vi x0)], []⟩) (by first | rfl | (simp only [tlS, tl, vl, vo, oc, ov, tbl, vbl, ty, vy]; done) | (simp only [tlS, tl, vl, vo, oc, ov, tbl, vbl, ty, vy]; rfl) | (simp; done) | (simp []; done) | (rw [List.take_of_length_le (by simp [])]; done) | (rw [List.take_of_length_le (by simp [])]; rfl) | (simp only [tlL]; omega) | (simp; omega)) ?_
    refine WP.loop (α := Nat × Int × Int) (fun zz => ⟨[], [(8, vi zz.2.1), (7, vi x1), (5, vi zz.2.2), (4, vi 0), (0, vi x0)], []⟩) (fun zz => F_impl_ways_L1 x0 x1 J1 zz.1 zz.2.1 zz.2.2 = some y0) (fun zz => zz.1) (fuel, (0 : Int), (1 : Int)) h ?_
    rintro ⟨n, v8, v5⟩ h0
    have h := (show F_impl_ways_L1 x0 x1 J1 n v8 v5 = some y0 from h0)
    rcases n with _ | n
    · rw [F_impl_ways_L1] at h; cases h
    · rw [F_impl_ways_L1] at h
      refine WP.seq ?_
      refine WP.path tab_ok mixed [] [.keep [9, 8, 7, 5, 4, 0], .keepO []] (ps := [(True)]) (e := .normal) (σ' := ⟨[], [(9, vb (decide (v8 < x1))), (8, vi v8), (7, vi x1), (5, vi v5), (4, vi 0), (0, vi x0)], []⟩) (by kernel_rfl) ⟨trivial, trivial⟩ ?_
      refine WP.seq ?_
      rcases ite_some h with ⟨h1, h⟩ | ⟨h1, h⟩
      · -- yes
        refine WP.cond (b := decide (v8 < x1)) rfl (fun _ => ?_) (fun hh => by rw [h1] at hh; cases hh)
        refine WP.path tab_ok mixed [] [.keep [8, 7, 5, 4, 0], .keepO []] (ps := []) (e := .normal) (σ' := ⟨[], [(8, vi v8), (7, vi x1), (5, vi v5), (4, vi 0), (0, vi x0)], []⟩) (by kernel_rfl) trivial ?_
        refine WP.seq ?_
        refine WP.block ?_
        obtain ⟨c0, h⟩ := chk_some h
        obtain ⟨c1, h⟩ := chk_some h
        obtain ⟨c2, h⟩ := chk_some h
        obtain ⟨c3, h⟩ := chk_some h
        obtain ⟨c4, h⟩ := chk_some h
        refine WP.path tab_ok mixed [(14, An.v (T.int .i64 (x0 - v8))), (15, An.v (T.int .i64 (v5 * (x0 - v8)))), (17, An.v (T.int .i64 (v8 + (1 : Int)))), (18, An.v (T.int .i64 (Int.tdiv (v5 * (x0 - v8)) (v8 + (1 : Int)))))] [.keep [5, 8, 7, 4, 0], .keepO []] (ps := [(True), (T.int .i64 (IntKind.wrap .i64 (x0 - v8)) = T.int .i64 (x0 - v8)), (True), (T.int .i64 (IntKind.wrap .i64 (v5 * (x0 - v8))) = T.int .i64 (v5 * (x0 - v8))), (True), (T.int .i64 (IntKind.wrap .i64 (v8 + (1 : Int))) = T.int .i64 (v8 + (1 : Int))), ((v8 + (1 : Int)) ≠ 0), (T.int .i64 (IntKind.wrap .i64 (Int.tdiv (v5 * (x0 - v8)) (v8 + (1 : Int)))) = T.int .i64 (Int.tdiv (v5 * (x0 - v8)) (v8 + (1 : Int))))]) (e := .normal) (σ' := ⟨[], [(5, vi (Int.tdiv (v5 * (x0 - v8)) (v8 + (1 : Int)))), (8, vi v8), (7, vi x1), (4, vi 0), (0, vi x0)], []⟩) (by kernel_rfl) ⟨trivial, wrapI c0, trivial, wrapI c1, trivial, wrapI c2, c4, quo_told c3, trivial⟩ ?_
        refine WP.path tab_ok mixed [(19, An.v (T.int .i64 (v8 + (1 : Int))))] [.keep [8, 7, 5, 4, 0], .keepO [], .names []] (ps := [(True), (T.int .i64 (IntKind.wrap .i64 (v8 + (1 : Int))) = T.int .i64 (v8 + (1 : Int)))]) (e := .normal) (σ' := ⟨[], [(8, vi (v8 + (1 : Int))), (7, vi x1), (5, vi (Int.tdiv (v5 * (x0 - v8)) (v8 + (1 : Int)))), (4, vi 0), (0, vi x0)], []⟩) (by kernel_rfl) ⟨trivial, wrapI c2, trivial⟩ ?_
        exact ⟨(n, (v8 + (1 : Int)), (Int.tdiv (v5 * (x0 - v8)) (v8 + (1 : Int)))), h, Nat.lt_succ_self _, rfl⟩
      · -- no
        refine WP.cond (b := decide (v8 < x1)) rfl (fun hh => by rw [h1] at hh; cases hh) (fun _ => ?_)
        refine WP.path tab_ok mixed [] [.keep [5, 4], .keepO [], .names []] (ps := []) (e := (.exit 0)) (σ' := ⟨[], [(5, vi v5), (4, vi 0)], []⟩) (by kernel_rfl) trivial ?_
        exact ⟨(v5), h, rfl⟩
  · -- from there
    intro v5 h0
    have h := (show J1 v5 = some y0 from h0)
    rw [hJ1] at h
    have h := Option.some.inj h
    subst h
    exact WP.pathW tab_ok mixed [] _ (ps := []) (r := ti v5) (by kernel_rfl) trivial (WkT.eq (y := ti v5) (WkT.refl _) rfl) (fun _ h => h)
theorem F_impl_ball_W (x0 : Int) (x1 : Int) (y0 : Int) (h : F_impl_ball x0 x1 = some y0) : C Try.prog 194 [ti x0, ti x1] (ti y0) := by
  unfold F_impl_ball at h
  refine C.intro (tab := tab) tab_ok (fn := Try.f194) Try.func194 (by kernel_rfl) rfl (Nat.le_of_ble_eq_true rfl) ?_
  refine WP.seq ?_
  refine WP.path tab_ok mixed [] [.keep [4, 0, 1], .keepO []] (ps := []) (e := .normal) (σ' := ⟨[], [(4, vi 0), (0, vi x0), (1, vi x1)], []⟩) (by kernel_rfl) trivial ?_
  refine WP.seq ?_
  refine WP.path tab_ok mixed [] [.keep [5, 4, 0, 1], .keepO []] (ps := []) (e := .normal) (σ' := ⟨[], [(5, vi 0), (4, vi 0), (0, vi x0), (1, vi x1)], []⟩) (by kernel_rfl) trivial ?_
  obtain ⟨J1, hJ1, h⟩ := jn_some h
  refine WP.joinA (fun (zz : Int) => ⟨[], [(5, vi zz), (4, vi 0)], []⟩) (fun zz => J1 zz = some y0) ?_ ?_
  · -- to where they meet
    refine WP.seq ?_
    obtain ⟨c0, h⟩ := chk_some h
    refine WP.path tab_ok mixed [(10, An.v (T.int .i64 ((min x0 x1) + (1 : Int))))] [.keep [11, 10, 5, 4, 0], .keepO []] (ps := [(True), (T.int .i64 (IntKind.wrap .i64 ((min x0 x1) + (1 : Int))) = T.int .i64 ((min x0 x1) + (1 : Int)))]) (e := .normal) (σ' := ⟨[], [(11, vi 0), (10, vi ((min x0 x1) + (1 : Int))), (5, vi 0), (4, vi 0), (0, vi x0)], []⟩) (by kernel_rfl) ⟨trivial, wrapI c0, trivial⟩ ?_
    refine WP.block ?_
    refine WP.wk [.keep [11, 10, 5, 4, 0], .keepO [], .names []] (σ' := ⟨[], [(11, vi 0), (10, vi ((min x0 x1) + (1 : Int))), (5, vi 0), (4, vi 0), (0, vi x0)], []⟩) (ps := []) (by kernel_rfl) trivial ?_
    refine WP.st (σ' := ⟨[], [(11, vi (0 : Int)), (10, vi ((min x0 x1) + (1 : Int))), (5, vi (0 : Int)), (4, vi 0), (0, vi x0)], []⟩) (by first | rfl | (simp only [tlS, tl, vl, vo, oc, ov, tbl, vbl, ty, vy]; done) | (simp only [tlS, tl, vl, vo, oc, ov, tbl, vbl, ty, vy]; rfl) | (simp; done) | (simp []; done) | (rw [List.take_of_length_le (by simp [])]; done) | (rw [List.take_of_length_le (by simp [])]; rfl) | (simp only [tlL]; omega) | (simp; omega)) ?_
    refine WP.loop (α := Nat × Int × Int) (fun zz => ⟨[], [(11, vi zz.2.1), (10, vi ((min x0 x1) + (1 : Int))), (5, vi zz.2.2), (4, vi 0), (0, vi x0)], []⟩) (fun zz => F_impl_ball_L1 x0 x1 J1 zz.1 zz.2.1 zz.2.2 = some y0) (fun zz => zz.1) (fuel, (0 : Int), (0 : Int)) h ?_
    rintro ⟨n, v11, v5⟩ h0
    have h := (show F_impl_ball_L1 x0 x1 J1 n v11 v5 = some y0 from h0)
    rcases n with _ | n
    · rw [F_impl_ball_L1] at h; cases h
    · rw [F_impl_ball_L1] at h
      refine WP.seq ?_
      refine WP.path tab_ok mixed [] [.keep [12, 11, 10, 5, 4, 0], .keepO []] (ps := [(True)]) (e := .normal) (σ' := ⟨[], [(12, vb (decide (v11 < ((min x0 x1) + (1 : Int))))), (11, vi v11), (10, vi ((min x0 x1) + (1 : Int))), (5, vi v5), (4, vi 0), (0, vi x0)], []⟩) (by kernel_rfl) ⟨trivial, trivial⟩ ?_
      refine WP.seq ?_
      rcases ite_some h with ⟨h1, h⟩ | ⟨h1, h⟩
      · -- yes
        refine WP.cond (b := decide (v11 < ((min x0 x1) + (1 : Int)))) rfl (fun _ => ?_) (fun hh => by rw [h1] at hh; cases hh)
        refine WP.path tab_ok mixed [] [.keep [11, 10, 5, 4, 0], .keepO []] (ps := []) (e := .normal) (σ' := ⟨[], [(11, vi v11), (10, vi ((min x0 x1) + (1 : Int))), (5, vi v5), (4, vi 0), (0, vi x0)], []⟩) (by kernel_rfl) trivial ?_
        refine WP.seq ?_
        refine WP.block ?_
        obtain ⟨r17, c1, h⟩ := bnd1_some h
        obtain ⟨c2, h⟩ := chk_some h
        refine WP.path tab_ok mixed [(17, An.call (ti r17)), (18, An.v (T.int .i64 (v5 + r17)))] [.keep [5, 11, 10, 4, 0], .keepO []] (ps := [(C Try.prog 192 [ti x0, ti v11] (ti r17)), (True), (T.int .i64 (IntKind.wrap .i64 (v5 + r17)) = T.int .i64 (v5 + r17))]) (e := .normal) (σ' := ⟨[], [(5, vi (v5 + r17)), (11, vi v11), (10, vi ((min x0 x1) + (1 : Int))), (4, vi 0), (0, vi x0)], []⟩) (by kernel_rfl) ⟨(F_impl_ways_W x0 v11 r17 c1), trivial, wrapI c2, trivial⟩ ?_
        obtain ⟨c3, h⟩ := chk_some h
        refine WP.path tab_ok mixed [(19, An.v (T.int .i64 (v11 + (1 : Int))))] [.keep [11, 10, 5, 4, 0], .keepO [], .names []] (ps := [(True), (T.int .i64 (IntKind.wrap .i64 (v11 + (1 : Int))) = T.int .i64 (v11 + (1 : Int)))]) (e := .normal) (σ' := ⟨[], [(11, vi (v11 + (1 : Int))), (10, vi ((min x0 x1) + (1 : Int))), (5, vi (v5 + r17)), (4, vi 0), (0, vi x0)], []⟩) (by kernel_rfl) ⟨trivial, wrapI c3, trivial⟩ ?_
        exact ⟨(n, (v11 + (1 : Int)), (v5 + r17)), h, Nat.lt_succ_self _, rfl⟩
      · -- no
        refine WP.cond (b := decide (v11 < ((min x0 x1) + (1 : Int)))) rfl (fun hh => by rw [h1] at hh; cases hh) (fun _ => ?_)
        refine WP.path tab_ok mixed [] [.keep [5, 4], .keepO [], .names []] (ps := []) (e := (.exit 0)) (σ' := ⟨[], [(5, vi v5), (4, vi 0)], []⟩) (by kernel_rfl) trivial ?_
        exact ⟨(v5), h, rfl⟩
  · -- from there
    intro v5 h0
    have h := (show J1 v5 = some y0 from h0)
    rw [hJ1] at h
    have h := Option.some.inj h
    subst h
    exact WP.pathW tab_ok mixed [] _ (ps := []) (r := ti v5) (by kernel_rfl) trivial (WkT.eq (y := ti v5) (WkT.refl _) rfl) (fun _ h => h)
theorem F_impl_State_weight_W (x0 : List Int) (x1 : Int) (x2 : Int) (x3 : Int) (y0 : Int) (h : F_impl_State_weight x0 x1 x2 x3 = some y0) : C Try.prog 186 [T.agg [tl x0, ti x1], ti x2, ti x3] (ti y0) := by
  unfold F_impl_State_weight at h
  refine C.intro (tab := tab) tab_ok (fn := Try.f186) Try.func186 (by kernel_rfl) rfl (Nat.le_of_ble_eq_true rfl) ?_
  refine WP.seq ?_
  refine WP.path tab_ok mixed [(3, An.fz)] [.keep [6, 3, 1, 2], .keepO []] (ps := []) (e := .normal) (σ' := ⟨[], [(6, vi 0), (3, V.t (T.ptr [tl x0, ti x1])), (1, vi x2), (2, vi x3)], []⟩) (by kernel_rfl) trivial ?_
  refine WP.seq ?_
  refine WP.seq ?_
  obtain ⟨c0, h⟩ := chk_some h
  refine WP.path tab_ok mixed [(11, An.v (ti (List.getD x0 (Int.toNat x2) 0)))] [.keep [12, 6, 3, 1, 2], .keepO []] (ps := [(True), ((0 ≤ x2 ∧ x2 < ((List.length x0 : Nat) : Int))), ((List.drop ((Int.toNat x2) * 1) (List.map (T.int .i64) x0) : List T)[0]? = some (ti (List.getD x0 (Int.toNat x2) 0))), (ti (List.getD x0 (Int.toNat x2) 0) = ti (List.getD x0 (Int.toNat x2) 0)), (True)]) (e := .normal) (σ' := ⟨[], [(12, vb (decide ((List.getD x0 (Int.toNat x2) 0) < (0 : Int)))), (6, vi 0), (3, V.t (T.ptr [tl x0, ti x1])), (1, vi x2), (2, vi x3)], []⟩) (by kernel_rfl) ⟨trivial, c0, at1 (by simp) (by omega), rfl, trivial, trivial⟩ ?_
  rcases ite_some h with ⟨h1, h⟩ | ⟨h1, h⟩
  · -- yes
    refine WP.cond (b := decide ((List.getD x0 (Int.toNat x2) 0) < (0 : Int))) rfl (fun _ => ?_) (fun hh => by rw [h1] at hh; cases hh)
    have h := Option.some.inj h
    subst h
    exact WP.pathW tab_ok mixed [] _ (ps := []) (r := ti 0) (by kernel_rfl) trivial (WkT.eq (y := ti 0) (WkT.refl _) (by first | rfl | (simp only [tlS, tl, vl, vo, oc, ov, tbl, vbl, ty, vy]; done) | (simp only [tlS, tl, vl, vo, oc, ov, tbl, vbl, ty, vy]; rfl) | (simp; done) | (simp []; done) | (rw [List.take_of_length_le (by simp [])]; done) | (rw [List.take_of_length_le (by simp [])]; rfl) | (simp only [tlL]; omega) | (simp; omega))) (fun _ h => h)
  · -- no
    refine WP.cond (b := decide ((List.getD x0 (Int.toNat x2) 0) < (0 : Int))) rfl (fun hh => by rw [h1] at hh; cases hh) (fun _ => ?_)
    refine WP.path tab_ok mixed [] [.keep [6, 3, 1, 2], .keepO []] (ps := []) (e := .normal) (σ' := ⟨[], [(6, vi 0), (3, V.t (T.ptr [tl x0, ti x1])), (1, vi x2), (2, vi x3)], []⟩) (by kernel_rfl) trivial ?_
    obtain ⟨c1, h⟩ := chk_some h
    obtain ⟨r22, c2, h⟩ := bnd1_some h
    have h := Option.some.inj h
    subst h
    exact WP.pathW tab_ok mixed [(20, An.v (ti (List.getD x0 (Int.toNat x2) 0))), (21, An.v (T.int .i64 (x1 - (List.getD x0 (Int.toNat x2) 0)))), (22, An.call (ti r22))] _ (ps := [(True), (True), ((0 ≤ x2 ∧ x2 < ((List.length x0 : Nat) : Int))), ((List.drop ((Int.toNat x2) * 1) (List.map (T.int .i64) x0) : List T)[0]? = some (ti (List.getD x0 (Int.toNat x2) 0))), (ti (List.getD x0 (Int.toNat x2) 0) = ti (List.getD x0 (Int.toNat x2) 0)), (True), (T.int .i64 (IntKind.wrap .i64 (x1 - (List.getD x0 (Int.toNat x2) 0))) = T.int .i64 (x1 - (List.getD x0 (Int.toNat x2) 0))), (C Try.prog 194 [ti x3, ti (x1 - (List.getD x0 (Int.toNat x2) 0))] (ti r22))]) (r := ti r22) (by kernel_rfl) ⟨trivial, trivial, c0, at1 (by simp) (by omega), rfl, trivial, wrapI c1, (F_impl_ball_W x3 (x1 - (List.getD x0 (Int.toNat x2) 0)) r22 c2), trivial⟩ (WkT.eq (y := ti r22) (WkT.refl _) rfl) (fun _ h => h)
theorem F_impl_NumberWeight_W (x0 : List Int) (x1 : Int) (x2 : Int) (x3 : Int) (y0 : Int) (y1 : Bool) (h : F_impl_NumberWeight x0 x1 x2 x3 = some (y0, y1)) : C Try.prog 49 [T.agg [tl x0, ti x1], ti x2, ti x3] (T.tup [ti y0, tb y1]) := by
  unfold F_impl_NumberWeight at h
  refine C.intro (tab := tab) tab_ok (fn := Try.f49) Try.func49 (by kernel_rfl) rfl (Nat.le_of_ble_eq_true rfl) ?_
  refine WP.seq ?_
  refine WP.path tab_ok mixed [(3, An.fz)] [.keep [7, 6, 3, 1, 2], .keepO []] (ps := []) (e := .normal) (σ' := ⟨[], [(7, vb false), (6, vi 0), (3, V.t (T.ptr [tl x0, ti x1])), (1, vi x2), (2, vi x3)], []⟩) (by kernel_rfl) trivial ?_
  refine WP.seq ?_
  obtain ⟨J1, hJ1, h⟩ := jn_some h
  refine WP.joinA (fun (zz : Bool) => ⟨[], [(23, vb zz), (7, vb false), (6, vi 0), (3, V.t (T.ptr [tl x0, ti x1])), (1, vi x2), (2, vi x3)], []⟩) (fun zz => J1 zz = some (y0, y1)) ?_ ?_
  · -- to where they meet
    obtain ⟨c0, h⟩ := chk_some h
    rcases ite_some h with ⟨h1, h⟩ | ⟨h1, h⟩
    · -- yes
      refine WP.path tab_ok mixed [(9, An.call (tb (isStateN x0 x1))), (11, An.b true)] [.keep [23, 7, 6, 3, 1, 2], .keepO [], .names []] (ps := [(2 ≤ 2), (C Try.prog 99 [T.agg [tl x0, ti x1]] (tb (isStateN x0 x1))), ((!(isStateN x0 x1)) = true)]) (e := .normal) (σ' := ⟨[], [(23, vb true), (7, vb false), (6, vi 0), (3, V.t (T.ptr [tl x0, ti x1])), (1, vi x2), (2, vi x3)], []⟩) (by kernel_rfl) ⟨by decide, (isState_C x0 x1 c0), h1, trivial⟩ ?_
      exact ⟨(true), h, rfl⟩
    · -- no
      rcases ite_some h with ⟨h2, h⟩ | ⟨h2, h⟩
      · -- yes
        refine WP.path tab_ok mixed [(9, An.call (tb (isStateN x0 x1))), (11, An.b false), (16, An.call (tb (numB ((List.length x0 : Nat) : Int) x2))), (19, An.b true)] [.keep [23, 7, 6, 3, 1, 2], .keepO [], .names []] (ps := [(2 ≤ 2), (C Try.prog 99 [T.agg [tl x0, ti x1]] (tb (isStateN x0 x1))), ((!(isStateN x0 x1)) = false), (True), (C Try.prog 156 [ti ((List.length x0 : Nat) : Int), ti x2] (tb (numB ((List.length x0 : Nat) : Int) x2))), ((!(numB ((List.length x0 : Nat) : Int) x2)) = true)]) (e := .normal) (σ' := ⟨[], [(23, vb true), (7, vb false), (6, vi 0), (3, V.t (T.ptr [tl x0, ti x1])), (1, vi x2), (2, vi x3)], []⟩) (by kernel_rfl) ⟨by decide, (isState_C x0 x1 c0), h1, trivial, (isNumber_C ((List.length x0 : Nat) : Int) x2), h2, trivial⟩ ?_
        exact ⟨(true), h, rfl⟩
      · -- no
        obtain ⟨r21, c1, h⟩ := bnd1_some h
        refine WP.path tab_ok mixed [(9, An.call (tb (isStateN x0 x1))), (11, An.b false), (16, An.call (tb (numB ((List.length x0 : Nat) : Int) x2))), (19, An.b false), (21, An.call (tb r21))] [.keep [23, 7, 6, 3, 1, 2], .keepO [], .names []] (ps := [(2 ≤ 2), (C Try.prog 99 [T.agg [tl x0, ti x1]] (tb (isStateN x0 x1))), ((!(isStateN x0 x1)) = false), (True), (C Try.prog 156 [ti ((List.length x0 : Nat) : Int), ti x2] (tb (numB ((List.length x0 : Nat) : Int) x2))), ((!(numB ((List.length x0 : Nat) : Int) x2)) = false), (C Try.prog 185 [ti x3] (tb r21))]) (e := .normal) (σ' := ⟨[], [(23, vb !r21), (7, vb false), (6, vi 0), (3, V.t (T.ptr [tl x0, ti x1])), (1, vi x2), (2, vi x3)], []⟩) (by kernel_rfl) ⟨by decide, (isState_C x0 x1 c0), h1, trivial, (isNumber_C ((List.length x0 : Nat) : Int) x2), h2, (F_impl_isAhead_W x3 r21 c1), trivial⟩ ?_
        exact ⟨(!r21), h, rfl⟩
  · -- from there
    intro v23 h0
    have h := (show J1 v23 = some (y0, y1) from h0)
    rw [hJ1] at h
    rcases ite_some h with ⟨h3, h⟩ | ⟨h3, h⟩
    · -- yes
      refine WP.cond (b := v23) rfl (fun _ => ?_) (fun hh => by rw [h3] at hh; cases hh)
      simp only [Option.some.injEq, Prod.mk.injEq] at h
      obtain ⟨rfl, rfl⟩ := h
      exact WP.pathW tab_ok mixed [] _ (ps := []) (r := T.tup [ti 0, tb false]) (by kernel_rfl) trivial (WkT.eq (y := T.tup [ti 0, tb false]) (WkT.refl _) (by first | rfl | (simp only [tlS, tl, vl, vo, oc, ov, tbl, vbl, ty, vy]; done) | (simp only [tlS, tl, vl, vo, oc, ov, tbl, vbl, ty, vy]; rfl) | (simp; done) | (simp []; done) | (rw [List.take_of_length_le (by simp [])]; done) | (rw [List.take_of_length_le (by simp [])]; rfl) | (simp only [tlL]; omega) | (simp; omega))) (fun _ h => h)
    · -- no
      refine WP.cond (b := v23) rfl (fun hh => by rw [h3] at hh; cases hh) (fun _ => ?_)
      refine WP.path tab_ok mixed [] [.keep [7, 6, 3, 1, 2], .keepO []] (ps := []) (e := .normal) (σ' := ⟨[], [(7, vb false), (6, vi 0), (3, V.t (T.ptr [tl x0, ti x1])), (1, vi x2), (2, vi x3)], []⟩) (by kernel_rfl) trivial ?_
      obtain ⟨r27, c0, h⟩ := bnd1_some h
      simp only [Option.some.injEq, Prod.mk.injEq] at h
      obtain ⟨rfl, rfl⟩ := h
      exact WP.pathW tab_ok mixed [(27, An.call (ti r27))] _ (ps := [(2 ≤ 2), (C Try.prog 186 [T.agg [tl x0, ti x1], ti x2, ti x3] (ti r27))]) (r := T.tup [ti r27, tb true]) (by kernel_rfl) ⟨by decide, (F_impl_State_weight_W x0 x1 x2 x3 r27 c0), trivial⟩ (WkT.eq (y := T.tup [ti r27, tb true]) (WkT.refl _) rfl) (fun _ h => h)
theorem F_spec_l3Ahead_W (x0 : Int) (y0 : Bool) (h : F_spec_l3Ahead x0 = some y0) : C Try.prog 188 [ti x0] (tb y0) := by
  unfold F_spec_l3Ahead at h
  refine C.intro (tab := tab) tab_ok (fn := Try.f188) Try.func188 (by kernel_rfl) rfl (Nat.le_of_ble_eq_true rfl) ?_
  have h := Option.some.inj h
  subst h
  exact WP.pathW tab_ok mixed [(4, An.call (tb (decide (x0 ≥ (0 : Int)) && decide (x0 ≤ (30 : Int)))))] _ (ps := [(C Try.prog 135 [ti x0, ti 0, ti 30] (tb (decide (x0 ≥ (0 : Int)) && decide (x0 ≤ (30 : Int)))))]) (r := tb (decide (x0 ≥ (0 : Int)) && decide (x0 ≤ (30 : Int)))) (by kernel_rfl) ⟨(by have hh := (l1In_C x0 (0 : Int) (30 : Int)); simpa using hh), trivial⟩ (WkT.eq (y := tb (decide (x0 ≥ (0 : Int)) && decide (x0 ≤ (30 : Int)))) (WkT.refl _) rfl) (fun _ h => h)
theorem F_spec_l3Ways_W (x0 : Int) (x1 : Int) (y0 : Int) (h : F_spec_l3Ways x0 x1 = some y0) : C Try.prog 193 [ti x0, ti x1] (ti y0) := by
  unfold F_spec_l3Ways at h
  refine C.intro (tab := tab) tab_ok (fn := Try.f193) Try.func193 (by kernel_rfl) rfl (Nat.le_of_ble_eq_true rfl) ?_
  refine WP.seq ?_
  refine WP.path tab_ok mixed [] [.keep [4, 0, 1], .keepO []] (ps := []) (e := .normal) (σ' := ⟨[], [(4, vi 0), (0, vi x0), (1, vi x1)], []⟩) (by kernel_rfl) trivial ?_
  refine WP.seq ?_
  refine WP.path tab_ok mixed [] [.keep [5, 4, 0, 1], .keepO []] (ps := []) (e := .normal) (σ' := ⟨[], [(5, vi 1), (4, vi 0), (0, vi x0), (1, vi x1)], []⟩) (by kernel_rfl) trivial ?_
  obtain ⟨J1, hJ1, h⟩ := jn_some h
  refine WP.joinA (fun (zz : Int) => ⟨[], [(5, vi zz), (4, vi 0)], []⟩) (fun zz => J1 zz = some y0) ?_ ?_
  · -- to where they meet
    refine WP.seq ?_
    refine WP.path tab_ok mixed [] [.keep [6, 5, 4, 0, 1], .keepO []] (ps := []) (e := .normal) (σ' := ⟨[], [(6, vi 0), (5, vi 1), (4, vi 0), (0, vi x0), (1, vi x1)], []⟩) (by kernel_rfl) trivial ?_
    refine WP.block ?_
    refine WP.wk [.keep [6, 5, 4, 0, 1], .keepO [], .names []] (σ' := ⟨[], [(6, vi 0), (5, vi 1), (4, vi 0), (0, vi x0), (1, vi x1)], []⟩) (ps := []) (by kernel_rfl) trivial ?_
    refine WP.st (σ' := ⟨[], [(6, vi (0 : Int)), (5, vi (1 : Int)), (4, vi 0), (0, vi x0), (1, vi x1)], []⟩) (by first | rfl | (simp only [tlS, tl, vl, vo, oc, ov, tbl, vbl, ty, vy]; done) | (simp only [tlS, tl, vl, vo, oc, ov, tbl, vbl, ty, vy]; rfl) | (simp; done) | (simp []; done) | (rw [List.take_of_length_le (by simp [])]; done) | (rw [List.take_of_length_le (by simp [])]; rfl) | (simp only [tlL]; omega) | (simp; omega)) ?_
    refine WP.loop (α := Nat × Int × Int) (fun zz => ⟨[], [(6, vi zz.2.1), (5, vi zz.2.2), (4, vi 0), (0, vi x0), (1, vi x1)], []⟩) (fun zz => F_spec_l3Ways_L1 x0 x1 J1 zz.1 zz.2.1 zz.2.2 = some y0) (fun zz => zz.1) (fuel, (0 : Int), (1 : Int)) h ?_
    rintro ⟨n, v6, v5⟩ h0
    have h := (show F_spec_l3Ways_L1 x0 x1 J1 n v6 v5 = some y0 from h0)
    rcases n with _ | n
    · rw [F_spec_l3Ways_L1] at h; cases h
    · rw [F_spec_l3Ways_L1] at h
      refine WP.seq ?_
      refine WP.seq ?_
      refine WP.path tab_ok mixed [] [.keep [9, 6, 5, 4, 0, 1], .keepO []] (ps := [(True)]) (e := .normal) (σ' := ⟨[], [(9, vb (decide (v6 < x1))), (6, vi v6), (5, vi v5), (4, vi 0), (0, vi x0), (1, vi x1)], []⟩) (by kernel_rfl) ⟨trivial, trivial⟩ ?_
      rcases ite_some h with ⟨h1, h⟩ | ⟨h1, h⟩
      · -- yes
        refine WP.cond (b := decide (v6 < x1)) rfl (fun _ => ?_) (fun hh => by rw [h1] at hh; cases hh)
        refine WP.path tab_ok mixed [] [.keep [6, 5, 4, 0, 1], .keepO []] (ps := []) (e := .normal) (σ' := ⟨[], [(6, vi v6), (5, vi v5), (4, vi 0), (0, vi x0), (1, vi x1)], []⟩) (by kernel_rfl) trivial ?_
        refine WP.seq ?_
        refine WP.block ?_
        obtain ⟨c0, h⟩ := chk_some h
        obtain ⟨c1, h⟩ := chk_some h
        obtain ⟨c2, h⟩ := chk_some h
        obtain ⟨c3, h⟩ := chk_some h
        obtain ⟨c4, h⟩ := chk_some h
        refine WP.path tab_ok mixed [(15, An.v (T.int .i64 (x0 - v6))), (16, An.v (T.int .i64 (v5 * (x0 - v6)))), (18, An.v (T.int .i64 (v6 + (1 : Int)))), (19, An.v (T.int .i64 (Int.tdiv (v5 * (x0 - v6)) (v6 + (1 : Int)))))] [.keep [5, 6, 4, 0, 1], .keepO []] (ps := [(True), (T.int .i64 (IntKind.wrap .i64 (x0 - v6)) = T.int .i64 (x0 - v6)), (True), (T.int .i64 (IntKind.wrap .i64 (v5 * (x0 - v6))) = T.int .i64 (v5 * (x0 - v6))), (True), (T.int .i64 (IntKind.wrap .i64 (v6 + (1 : Int))) = T.int .i64 (v6 + (1 : Int))), ((v6 + (1 : Int)) ≠ 0), (T.int .i64 (IntKind.wrap .i64 (Int.tdiv (v5 * (x0 - v6)) (v6 + (1 : Int)))) = T.int .i64 (Int.tdiv (v5 * (x0 - v6)) (v6 + (1 : Int))))]) (e := .normal) (σ' := ⟨[], [(5, vi (Int.tdiv (v5 * (x0 - v6)) (v6 + (1 : Int)))), (6, vi v6), (4, vi 0), (0, vi x0), (1, vi x1)], []⟩) (by kernel_rfl) ⟨trivial, wrapI c0, trivial, wrapI c1, trivial, wrapI c2, c4, quo_told c3, trivial⟩ ?_
        refine WP.path tab_ok mixed [(11, An.v (T.int .i64 (v6 + (1 : Int))))] [.keep [6, 5, 4, 0, 1], .keepO [], .names []] (ps := [(True), (T.int .i64 (IntKind.wrap .i64 (v6 + (1 : Int))) = T.int .i64 (v6 + (1 : Int)))]) (e := .normal) (σ' := ⟨[], [(6, vi (v6 + (1 : Int))), (5, vi (Int.tdiv (v5 * (x0 - v6)) (v6 + (1 : Int)))), (4, vi 0), (0, vi x0), (1, vi x1)], []⟩) (by kernel_rfl) ⟨trivial, wrapI c2, trivial⟩ ?_
        exact ⟨(n, (v6 + (1 : Int)), (Int.tdiv (v5 * (x0 - v6)) (v6 + (1 : Int)))), h, Nat.lt_succ_self _, rfl⟩
      · -- no
        refine WP.cond (b := decide (v6 < x1)) rfl (fun hh => by rw [h1] at hh; cases hh) (fun _ => ?_)
        refine WP.path tab_ok mixed [] [.keep [5, 4], .keepO [], .names []] (ps := []) (e := (.exit 0)) (σ' := ⟨[], [(5, vi v5), (4, vi 0)], []⟩) (by kernel_rfl) trivial ?_
        exact ⟨(v5), h, rfl⟩
  · -- from there
    intro v5 h0
    have h := (show J1 v5 = some y0 from h0)
    rw [hJ1] at h
    have h := Option.some.inj h
    subst h
    exact WP.pathW tab_ok mixed [] _ (ps := []) (r := ti v5) (by kernel_rfl) trivial (WkT.eq (y := ti v5) (WkT.refl _) rfl) (fun _ h => h)
theorem F_spec_l3Ball_W (x0 : Int) (x1 : Int) (y0 : Int) (h : F_spec_l3Ball x0 x1 = some y0) : C Try.prog 195 [ti x0, ti x1] (ti y0) := by
  unfold F_spec_l3Ball at h
  refine C.intro (tab := tab) tab_ok (fn := Try.f195) Try.func195 (by kernel_rfl) rfl (Nat.le_of_ble_eq_true rfl) ?_
  refine WP.seq ?_
  refine WP.path tab_ok mixed [] [.keep [4, 0, 1], .keepO []] (ps := []) (e := .normal) (σ' := ⟨[], [(4, vi 0), (0, vi x0), (1, vi x1)], []⟩) (by kernel_rfl) trivial ?_
  refine WP.seq ?_
  refine WP.path tab_ok mixed [] [.keep [5, 4, 0, 1], .keepO []] (ps := []) (e := .normal) (σ' := ⟨[], [(5, vi 0), (4, vi 0), (0, vi x0), (1, vi x1)], []⟩) (by kernel_rfl) trivial ?_
  obtain ⟨J1, hJ1, h⟩ := jn_some h
  refine WP.joinA (fun (zz : Int) => ⟨[], [(5, vi zz), (4, vi 0)], []⟩) (fun zz => J1 zz = some y0) ?_ ?_
  · -- to where they meet
    refine WP.seq ?_
    refine WP.path tab_ok mixed [] [.keep [6, 5, 4, 0, 1], .keepO []] (ps := []) (e := .normal) (σ' := ⟨[], [(6, vi 0), (5, vi 0), (4, vi 0), (0, vi x0), (1, vi x1)], []⟩) (by kernel_rfl) trivial ?_
    refine WP.block ?_
    refine WP.wk [.keep [6, 5, 4, 0, 1], .keepO [], .names []] (σ' := ⟨[], [(6, vi 0), (5, vi 0), (4, vi 0), (0, vi x0), (1, vi x1)], []⟩) (ps := []) (by kernel_rfl) trivial ?_
    refine WP.st (σ' := ⟨[], [(6, vi (0 : Int)), (5, vi (0 : Int)), (4, vi 0), (0, vi x0), (1, vi x1)], []⟩) (by first | rfl | (simp only [tlS, tl, vl, vo, oc, ov, tbl, vbl, ty, vy]; done) | (simp only [tlS, tl, vl, vo, oc, ov, tbl, vbl, ty, vy]; rfl) | (simp; done) | (simp []; done) | (rw [List.take_of_length_le (by simp [])]; done) | (rw [List.take_of_length_le (by simp [])]; rfl) | (simp only [tlL]; omega) | (simp; omega)) ?_
    refine WP.loop (α := Nat × Int × Int) (fun zz => ⟨[], [(6, vi zz.2.1), (5, vi zz.2.2), (4, vi 0), (0, vi x0), (1, vi x1)], []⟩) (fun zz => F_spec_l3Ball_L1 x0 x1 J1 zz.1 zz.2.1 zz.2.2 = some y0) (fun zz => zz.1) (fuel, (0 : Int), (0 : Int)) h ?_
    rintro ⟨n, v6, v5⟩ h0
    have h := (show F_spec_l3Ball_L1 x0 x1 J1 n v6 v5 = some y0 from h0)
    rcases n with _ | n
    · rw [F_spec_l3Ball_L1] at h; cases h
    · rw [F_spec_l3Ball_L1] at h
      refine WP.seq ?_
      obtain ⟨J2, hJ2, h⟩ := jn_some h
      refine WP.joinA (fun (zz : Bool) => ⟨[], [(14, vb zz), (6, vi v6), (5, vi v5), (4, vi 0), (0, vi x0), (1, vi x1)], []⟩) (fun zz => J2 zz = some y0) ?_ ?_
      · -- to where they meet
        rcases ite_some h with ⟨h1, h⟩ | ⟨h1, h⟩
        · -- yes
          refine WP.path tab_ok mixed [(9, An.b true)] [.keep [14, 6, 5, 4, 0, 1], .keepO [], .names []] (ps := [(True), ((decide (v6 ≤ x1)) = true), (True)]) (e := .normal) (σ' := ⟨[], [(14, vb (decide (v6 ≤ x0))), (6, vi v6), (5, vi v5), (4, vi 0), (0, vi x0), (1, vi x1)], []⟩) (by kernel_rfl) ⟨trivial, h1, trivial, trivial⟩ ?_
          exact ⟨(decide (v6 ≤ x0)), h, rfl⟩
        · -- no
          refine WP.path tab_ok mixed [(9, An.b false)] [.keep [14, 6, 5, 4, 0, 1], .keepO [], .names []] (ps := [(True), ((decide (v6 ≤ x1)) = false)]) (e := .normal) (σ' := ⟨[], [(14, vb false), (6, vi v6), (5, vi v5), (4, vi 0), (0, vi x0), (1, vi x1)], []⟩) (by kernel_rfl) ⟨trivial, h1, trivial⟩ ?_
          exact ⟨(false), h, rfl⟩
      · -- from there
        intro v14 h0
        have h := (show J2 v14 = some y0 from h0)
        rw [hJ2] at h
        rcases ite_some h with ⟨h2, h⟩ | ⟨h2, h⟩
        · -- yes
          refine WP.cond (b := v14) rfl (fun _ => ?_) (fun hh => by rw [h2] at hh; cases hh)
          refine WP.path tab_ok mixed [] [.keep [6, 5, 4, 0, 1], .keepO []] (ps := []) (e := .normal) (σ' := ⟨[], [(6, vi v6), (5, vi v5), (4, vi 0), (0, vi x0), (1, vi x1)], []⟩) (by kernel_rfl) trivial ?_
          refine WP.seq ?_
          refine WP.block ?_
          obtain ⟨r20, c0, h⟩ := bnd1_some h
          obtain ⟨c1, h⟩ := chk_some h
          refine WP.path tab_ok mixed [(20, An.call (ti r20)), (21, An.v (T.int .i64 (v5 + r20)))] [.keep [5, 6, 4, 0, 1], .keepO []] (ps := [(C Try.prog 193 [ti x0, ti v6] (ti r20)), (True), (T.int .i64 (IntKind.wrap .i64 (v5 + r20)) = T.int .i64 (v5 + r20))]) (e := .normal) (σ' := ⟨[], [(5, vi (v5 + r20)), (6, vi v6), (4, vi 0), (0, vi x0), (1, vi x1)], []⟩) (by kernel_rfl) ⟨(F_spec_l3Ways_W x0 v6 r20 c0), trivial, wrapI c1, trivial⟩ ?_
          obtain ⟨c2, h⟩ := chk_some h
          refine WP.path tab_ok mixed [(16, An.v (T.int .i64 (v6 + (1 : Int))))] [.keep [6, 5, 4, 0, 1], .keepO [], .names []] (ps := [(True), (T.int .i64 (IntKind.wrap .i64 (v6 + (1 : Int))) = T.int .i64 (v6 + (1 : Int)))]) (e := .normal) (σ' := ⟨[], [(6, vi (v6 + (1 : Int))), (5, vi (v5 + r20)), (4, vi 0), (0, vi x0), (1, vi x1)], []⟩) (by kernel_rfl) ⟨trivial, wrapI c2, trivial⟩ ?_
          exact ⟨(n, (v6 + (1 : Int)), (v5 + r20)), h, Nat.lt_succ_self _, rfl⟩
        · -- no
          refine WP.cond (b := v14) rfl (fun hh => by rw [h2] at hh; cases hh) (fun _ => ?_)
          refine WP.path tab_ok mixed [] [.keep [5, 4], .keepO [], .names []] (ps := []) (e := (.exit 0)) (σ' := ⟨[], [(5, vi v5), (4, vi 0)], []⟩) (by kernel_rfl) trivial ?_
          exact ⟨(v5), h, rfl⟩
  · -- from there
    intro v5 h0
    have h := (show J1 v5 = some y0 from h0)
    rw [hJ1] at h
    have h := Option.some.inj h
    subst h
    exact WP.pathW tab_ok mixed [] _ (ps := []) (r := ti v5) (by kernel_rfl) trivial (WkT.eq (y := ti v5) (WkT.refl _) rfl) (fun _ h => h)
theorem F_spec_l3Number_W (x0 : List Int) (x1 : Int) (x2 : Int) (x3 : Int) (y0 : Int) (h : F_spec_l3Number x0 x1 x2 x3 = some y0) : C Try.prog 189 [T.agg [tl x0, ti x1], ti x2, ti x3] (ti y0) := by
  unfold F_spec_l3Number at h
  refine C.intro (tab := tab) tab_ok (fn := Try.f189) Try.func189 (by kernel_rfl) rfl (Nat.le_of_ble_eq_true rfl) ?_
  refine WP.seq ?_
  refine WP.path tab_ok mixed [(3, An.fz)] [.keep [6, 3, 1, 2], .keepO []] (ps := []) (e := .normal) (σ' := ⟨[], [(6, vi 0), (3, V.t (T.ptr [tl x0, ti x1])), (1, vi x2), (2, vi x3)], []⟩) (by kernel_rfl) trivial ?_
  refine WP.seq ?_
  refine WP.seq ?_
  obtain ⟨c0, h⟩ := chk_some h
  refine WP.path tab_ok mixed [(11, An.v (ti (List.getD x0 (Int.toNat x2) 0)))] [.keep [12, 6, 3, 1, 2], .keepO []] (ps := [(True), ((0 ≤ x2 ∧ x2 < ((List.length x0 : Nat) : Int))), ((List.drop ((Int.toNat x2) * 1) (List.map (T.int .i64) x0) : List T)[0]? = some (ti (List.getD x0 (Int.toNat x2) 0))), (ti (List.getD x0 (Int.toNat x2) 0) = ti (List.getD x0 (Int.toNat x2) 0)), (True)]) (e := .normal) (σ' := ⟨[], [(12, vb (decide ((List.getD x0 (Int.toNat x2) 0) < (0 : Int)))), (6, vi 0), (3, V.t (T.ptr [tl x0, ti x1])), (1, vi x2), (2, vi x3)], []⟩) (by kernel_rfl) ⟨trivial, c0, at1 (by simp) (by omega), rfl, trivial, trivial⟩ ?_
  rcases ite_some h with ⟨h1, h⟩ | ⟨h1, h⟩
  · -- yes
    refine WP.cond (b := decide ((List.getD x0 (Int.toNat x2) 0) < (0 : Int))) rfl (fun _ => ?_) (fun hh => by rw [h1] at hh; cases hh)
    have h := Option.some.inj h
    subst h
    exact WP.pathW tab_ok mixed [] _ (ps := []) (r := ti 0) (by kernel_rfl) trivial (WkT.eq (y := ti 0) (WkT.refl _) (by first | rfl | (simp only [tlS, tl, vl, vo, oc, ov, tbl, vbl, ty, vy]; done) | (simp only [tlS, tl, vl, vo, oc, ov, tbl, vbl, ty, vy]; rfl) | (simp; done) | (simp []; done) | (rw [List.take_of_length_le (by simp [])]; done) | (rw [List.take_of_length_le (by simp [])]; rfl) | (simp only [tlL]; omega) | (simp; omega))) (fun _ h => h)
  · -- no
    refine WP.cond (b := decide ((List.getD x0 (Int.toNat x2) 0) < (0 : Int))) rfl (fun hh => by rw [h1] at hh; cases hh) (fun _ => ?_)
    refine WP.path tab_ok mixed [] [.keep [6, 3, 1, 2], .keepO []] (ps := []) (e := .normal) (σ' := ⟨[], [(6, vi 0), (3, V.t (T.ptr [tl x0, ti x1])), (1, vi x2), (2, vi x3)], []⟩) (by kernel_rfl) trivial ?_
    obtain ⟨c1, h⟩ := chk_some h
    obtain ⟨r22, c2, h⟩ := bnd1_some h
    have h := Option.some.inj h
    subst h
    exact WP.pathW tab_ok mixed [(20, An.v (ti (List.getD x0 (Int.toNat x2) 0))), (21, An.v (T.int .i64 (x1 - (List.getD x0 (Int.toNat x2) 0)))), (22, An.call (ti r22))] _ (ps := [(True), (True), ((0 ≤ x2 ∧ x2 < ((List.length x0 : Nat) : Int))), ((List.drop ((Int.toNat x2) * 1) (List.map (T.int .i64) x0) : List T)[0]? = some (ti (List.getD x0 (Int.toNat x2) 0))), (ti (List.getD x0 (Int.toNat x2) 0) = ti (List.getD x0 (Int.toNat x2) 0)), (True), (T.int .i64 (IntKind.wrap .i64 (x1 - (List.getD x0 (Int.toNat x2) 0))) = T.int .i64 (x1 - (List.getD x0 (Int.toNat x2) 0))), (C Try.prog 195 [ti x3, ti (x1 - (List.getD x0 (Int.toNat x2) 0))] (ti r22))]) (r := ti r22) (by kernel_rfl) ⟨trivial, trivial, c0, at1 (by simp) (by omega), rfl, trivial, wrapI c1, (F_spec_l3Ball_W x3 (x1 - (List.getD x0 (Int.toNat x2) 0)) r22 c2), trivial⟩ (WkT.eq (y := ti r22) (WkT.refl _) rfl) (fun _ h => h)
theorem F_spec_NumberWeight_W (x0 : List Int) (x1 : Int) (x2 : Int) (x3 : Int) (y0 : Int) (y1 : Bool) (h : F_spec_NumberWeight x0 x1 x2 x3 = some (y0, y1)) : C Try.prog 50 [T.agg [tl x0, ti x1], ti x2, ti x3] (T.tup [ti y0, tb y1]) := by
  unfold F_spec_NumberWeight at h
  refine C.intro (tab := tab) tab_ok (fn := Try.f50) Try.func50 (by kernel_rfl) rfl (Nat.le_of_ble_eq_true rfl) ?_
  refine WP.seq ?_
  refine WP.path tab_ok mixed [(3, An.fz)] [.keep [7, 6, 3, 1, 2], .keepO []] (ps := []) (e := .normal) (σ' := ⟨[], [(7, vb false), (6, vi 0), (3, V.t (T.ptr [tl x0, ti x1])), (1, vi x2), (2, vi x3)], []⟩) (by kernel_rfl) trivial ?_
  refine WP.seq ?_
  obtain ⟨J1, hJ1, h⟩ := jn_some h
  refine WP.joinA (fun (zz : Bool) => ⟨[], [(24, vb zz), (7, vb false), (6, vi 0), (3, V.t (T.ptr [tl x0, ti x1])), (1, vi x2), (2, vi x3)], []⟩) (fun zz => J1 zz = some (y0, y1)) ?_ ?_
  · -- to where they meet
    obtain ⟨c0, h⟩ := chk_some h
    rcases ite_some h with ⟨h1, h⟩ | ⟨h1, h⟩
    · -- yes
      refine WP.path tab_ok mixed [(9, An.call (tb (isStateN x0 x1))), (11, An.b true)] [.keep [24, 7, 6, 3, 1, 2], .keepO [], .names []] (ps := [(2 ≤ 2), (C Try.prog 187 [T.agg [tl x0, ti x1]] (tb (isStateN x0 x1))), ((!(isStateN x0 x1)) = true)]) (e := .normal) (σ' := ⟨[], [(24, vb true), (7, vb false), (6, vi 0), (3, V.t (T.ptr [tl x0, ti x1])), (1, vi x2), (2, vi x3)], []⟩) (by kernel_rfl) ⟨by decide, (l2State_C x0 x1 c0), h1, trivial⟩ ?_
      exact ⟨(true), h, rfl⟩
    · -- no
      obtain ⟨c1, h⟩ := chk_some h
      obtain ⟨n16, c2, h⟩ := nam_some h
      rcases ite_some h with ⟨h2, h⟩ | ⟨h2, h⟩
      · -- yes
        refine WP.path tab_ok mixed [(9, An.call (tb (isStateN x0 x1))), (11, An.b false), (16, An.v (ti n16)), (17, An.call (tb (decide (x2 ≥ (0 : Int)) && decide (x2 ≤ n16)))), (20, An.b true)] [.keep [24, 7, 6, 3, 1, 2], .keepO [], .names []] (ps := [(2 ≤ 2), (C Try.prog 187 [T.agg [tl x0, ti x1]] (tb (isStateN x0 x1))), ((!(isStateN x0 x1)) = false), (True), (True), (T.int .i64 (IntKind.wrap .i64 (((List.length x0 : Nat) : Int) - (1 : Int))) = ti n16), (C Try.prog 135 [ti x2, ti 0, ti n16] (tb (decide (x2 ≥ (0 : Int)) && decide (x2 ≤ n16)))), ((!(decide (x2 ≥ (0 : Int)) && decide (x2 ≤ n16))) = true)]) (e := .normal) (σ' := ⟨[], [(24, vb true), (7, vb false), (6, vi 0), (3, V.t (T.ptr [tl x0, ti x1])), (1, vi x2), (2, vi x3)], []⟩) (by kernel_rfl) ⟨by decide, (l2State_C x0 x1 c0), h1, trivial, trivial, Eq.trans (wrapI c1) (congrArg (ti) c2), (by have hh := (l1In_C x2 (0 : Int) n16); simpa using hh), h2, trivial⟩ ?_
        exact ⟨(true), h, rfl⟩
      · -- no
        obtain ⟨r22, c3, h⟩ := bnd1_some h
        refine WP.path tab_ok mixed [(9, An.call (tb (isStateN x0 x1))), (11, An.b false), (16, An.v (ti n16)), (17, An.call (tb (decide (x2 ≥ (0 : Int)) && decide (x2 ≤ n16)))), (20, An.b false), (22, An.call (tb r22))] [.keep [24, 7, 6, 3, 1, 2], .keepO [], .names []] (ps := [(2 ≤ 2), (C Try.prog 187 [T.agg [tl x0, ti x1]] (tb (isStateN x0 x1))), ((!(isStateN x0 x1)) = false), (True), (True), (T.int .i64 (IntKind.wrap .i64 (((List.length x0 : Nat) : Int) - (1 : Int))) = ti n16), (C Try.prog 135 [ti x2, ti 0, ti n16] (tb (decide (x2 ≥ (0 : Int)) && decide (x2 ≤ n16)))), ((!(decide (x2 ≥ (0 : Int)) && decide (x2 ≤ n16))) = false), (C Try.prog 188 [ti x3] (tb r22))]) (e := .normal) (σ' := ⟨[], [(24, vb !r22), (7, vb false), (6, vi 0), (3, V.t (T.ptr [tl x0, ti x1])), (1, vi x2), (2, vi x3)], []⟩) (by kernel_rfl) ⟨by decide, (l2State_C x0 x1 c0), h1, trivial, trivial, Eq.trans (wrapI c1) (congrArg (ti) c2), (by have hh := (l1In_C x2 (0 : Int) n16); simpa using hh), h2, (F_spec_l3Ahead_W x3 r22 c3), trivial⟩ ?_
        exact ⟨(!r22), h, rfl⟩
  · -- from there
    intro v24 h0
    have h := (show J1 v24 = some (y0, y1) from h0)
    rw [hJ1] at h
    rcases ite_some h with ⟨h3, h⟩ | ⟨h3, h⟩
    · -- yes
      refine WP.cond (b := v24) rfl (fun _ => ?_) (fun hh => by rw [h3] at hh; cases hh)
      simp only [Option.some.injEq, Prod.mk.injEq] at h
      obtain ⟨rfl, rfl⟩ := h
      exact WP.pathW tab_ok mixed [] _ (ps := []) (r := T.tup [ti 0, tb false]) (by kernel_rfl) trivial (WkT.eq (y := T.tup [ti 0, tb false]) (WkT.refl _) (by first | rfl | (simp only [tlS, tl, vl, vo, oc, ov, tbl, vbl, ty, vy]; done) | (simp only [tlS, tl, vl, vo, oc, ov, tbl, vbl, ty, vy]; rfl) | (simp; done) | (simp []; done) | (rw [List.take_of_length_le (by simp [])]; done) | (rw [List.take_of_length_le (by simp [])]; rfl) | (simp only [tlL]; omega) | (simp; omega))) (fun _ h => h)
    · -- no
      refine WP.cond (b := v24) rfl (fun hh => by rw [h3] at hh; cases hh) (fun _ => ?_)
      refine WP.path tab_ok mixed [] [.keep [7, 6, 3, 1, 2], .keepO []] (ps := []) (e := .normal) (σ' := ⟨[], [(7, vb false), (6, vi 0), (3, V.t (T.ptr [tl x0, ti x1])), (1, vi x2), (2, vi x3)], []⟩) (by kernel_rfl) trivial ?_
      obtain ⟨r28, c0, h⟩ := bnd1_some h
      simp only [Option.some.injEq, Prod.mk.injEq] at h
      obtain ⟨rfl, rfl⟩ := h
      exact WP.pathW tab_ok mixed [(28, An.call (ti r28))] _ (ps := [(2 ≤ 2), (C Try.prog 189 [T.agg [tl x0, ti x1], ti x2, ti x3] (ti r28))]) (r := T.tup [ti r28, tb true]) (by kernel_rfl) ⟨by decide, (F_spec_l3Number_W x0 x1 x2 x3 r28 c0), trivial⟩ (WkT.eq (y := T.tup [ti r28, tb true]) (WkT.refl _) rfl) (fun _ h => h)
theorem F_impl_State_allWeight_W (x0 : List Int) (x1 : Int) (x2 : Int) (y0 : Int) (h : F_impl_State_allWeight x0 x1 x2 = some y0) : C Try.prog 190 [T.agg [tl x0, ti x1], ti x2] (ti y0) := by
  unfold F_impl_State_allWeight at h
  refine C.intro (tab := tab) tab_ok (fn := Try.f190) Try.func190 (by kernel_rfl) rfl (Nat.le_of_ble_eq_true rfl) ?_
  refine WP.seq ?_
  refine WP.path tab_ok mixed [(2, An.fz)] [.keep [4, 2, 1], .keepO []] (ps := []) (e := .normal) (σ' := ⟨[], [(4, vi 0), (2, V.t (T.ptr [tl x0, ti x1])), (1, vi x2)], []⟩) (by kernel_rfl) trivial ?_
  refine WP.seq ?_
  refine WP.path tab_ok mixed [] [.keep [5, 4, 2, 1], .keepO []] (ps := []) (e := .normal) (σ' := ⟨[], [(5, vi 0), (4, vi 0), (2, V.t (T.ptr [tl x0, ti x1])), (1, vi x2)], []⟩) (by kernel_rfl) trivial ?_
  obtain ⟨J1, hJ1, h⟩ := jn_some h
  refine WP.joinA (fun (zz : Int) => ⟨[], [(5, vi zz), (4, vi 0)], []⟩) (fun zz => J1 zz = some y0) ?_ ?_
  · -- to where they meet
    refine WP.seq ?_
    refine WP.path tab_ok mixed [] [.keep [10, 9, 5, 4, 2, 1], .keepO []] (ps := [(True)]) (e := .normal) (σ' := ⟨[], [(10, vi 0), (9, vi ((List.length x0 : Nat) : Int)), (5, vi 0), (4, vi 0), (2, V.t (T.ptr [tl x0, ti x1])), (1, vi x2)], []⟩) (by kernel_rfl) ⟨trivial, trivial⟩ ?_
    refine WP.block ?_
    refine WP.wk [.keep [10, 9, 5, 4, 2, 1], .keepO [], .names []] (σ' := ⟨[], [(10, vi 0), (9, vi ((List.length x0 : Nat) : Int)), (5, vi 0), (4, vi 0), (2, V.t (T.ptr [tl x0, ti x1])), (1, vi x2)], []⟩) (ps := []) (by kernel_rfl) trivial ?_
    refine WP.st (σ' := ⟨[], [(10, vi (0 : Int)), (9, vi ((List.length x0 : Nat) : Int)), (5, vi (0 : Int)), (4, vi 0), (2, V.t (T.ptr [tl x0, ti x1])), (1, vi x2)], []⟩) (by first | rfl | (simp only [tlS, tl, vl, vo, oc, ov, tbl, vbl, ty, vy]; done) | (simp only [tlS, tl, vl, vo, oc, ov, tbl, vbl, ty, vy]; rfl) | (simp; done) | (simp []; done) | (rw [List.take_of_length_le (by simp [])]; done) | (rw [List.take_of_length_le (by simp [])]; rfl) | (simp only [tlL]; omega) | (simp; omega)) ?_
    refine WP.loop (α := Nat × Int × Int) (fun zz => ⟨[], [(10, vi zz.2.1), (9, vi ((List.length x0 : Nat) : Int)), (5, vi zz.2.2), (4, vi 0), (2, V.t (T.ptr [tl x0, ti x1])), (1, vi x2)], []⟩) (fun zz => F_impl_State_allWeight_L1 x0 x1 x2 J1 zz.1 zz.2.1 zz.2.2 = some y0) (fun zz => zz.1) (fuel, (0 : Int), (0 : Int)) h ?_
    rintro ⟨n, v10, v5⟩ h0
    have h := (show F_impl_State_allWeight_L1 x0 x1 x2 J1 n v10 v5 = some y0 from h0)
    rcases n with _ | n
    · rw [F_impl_State_allWeight_L1] at h; cases h
    · rw [F_impl_State_allWeight_L1] at h
      refine WP.seq ?_
      refine WP.path tab_ok mixed [] [.keep [11, 10, 9, 5, 4, 2, 1], .keepO []] (ps := [(True)]) (e := .normal) (σ' := ⟨[], [(11, vb (decide (v10 < ((List.length x0 : Nat) : Int)))), (10, vi v10), (9, vi ((List.length x0 : Nat) : Int)), (5, vi v5), (4, vi 0), (2, V.t (T.ptr [tl x0, ti x1])), (1, vi x2)], []⟩) (by kernel_rfl) ⟨trivial, trivial⟩ ?_
      refine WP.seq ?_
      rcases ite_some h with ⟨h1, h⟩ | ⟨h1, h⟩
      · -- yes
        refine WP.cond (b := decide (v10 < ((List.length x0 : Nat) : Int))) rfl (fun _ => ?_) (fun hh => by rw [h1] at hh; cases hh)
        refine WP.path tab_ok mixed [] [.keep [10, 9, 5, 4, 2, 1], .keepO []] (ps := []) (e := .normal) (σ' := ⟨[], [(10, vi v10), (9, vi ((List.length x0 : Nat) : Int)), (5, vi v5), (4, vi 0), (2, V.t (T.ptr [tl x0, ti x1])), (1, vi x2)], []⟩) (by kernel_rfl) trivial ?_
        refine WP.seq ?_
        refine WP.block ?_
        obtain ⟨r17, c0, h⟩ := bnd1_some h
        obtain ⟨c1, h⟩ := chk_some h
        refine WP.path tab_ok mixed [(17, An.call (ti r17)), (18, An.v (T.int .i64 (v5 + r17)))] [.keep [5, 10, 9, 4, 2, 1], .keepO []] (ps := [(2 ≤ 2), (C Try.prog 186 [T.agg [tl x0, ti x1], ti v10, ti x2] (ti r17)), (True), (T.int .i64 (IntKind.wrap .i64 (v5 + r17)) = T.int .i64 (v5 + r17))]) (e := .normal) (σ' := ⟨[], [(5, vi (v5 + r17)), (10, vi v10), (9, vi ((List.length x0 : Nat) : Int)), (4, vi 0), (2, V.t (T.ptr [tl x0, ti x1])), (1, vi x2)], []⟩) (by kernel_rfl) ⟨by decide, (F_impl_State_weight_W x0 x1 v10 x2 r17 c0), trivial, wrapI c1, trivial⟩ ?_
        obtain ⟨c2, h⟩ := chk_some h
        refine WP.path tab_ok mixed [(19, An.v (T.int .i64 (v10 + (1 : Int))))] [.keep [10, 9, 5, 4, 2, 1], .keepO [], .names []] (ps := [(True), (T.int .i64 (IntKind.wrap .i64 (v10 + (1 : Int))) = T.int .i64 (v10 + (1 : Int)))]) (e := .normal) (σ' := ⟨[], [(10, vi (v10 + (1 : Int))), (9, vi ((List.length x0 : Nat) : Int)), (5, vi (v5 + r17)), (4, vi 0), (2, V.t (T.ptr [tl x0, ti x1])), (1, vi x2)], []⟩) (by kernel_rfl) ⟨trivial, wrapI c2, trivial⟩ ?_
        exact ⟨(n, (v10 + (1 : Int)), (v5 + r17)), h, Nat.lt_succ_self _, rfl⟩
      · -- no
        refine WP.cond (b := decide (v10 < ((List.length x0 : Nat) : Int))) rfl (fun hh => by rw [h1] at hh; cases hh) (fun _ => ?_)
        refine WP.path tab_ok mixed [] [.keep [5, 4], .keepO [], .names []] (ps := []) (e := (.exit 0)) (σ' := ⟨[], [(5, vi v5), (4, vi 0)], []⟩) (by kernel_rfl) trivial ?_
        exact ⟨(v5), h, rfl⟩
  · -- from there
    intro v5 h0
    have h := (show J1 v5 = some y0 from h0)
    rw [hJ1] at h
    have h := Option.some.inj h
    subst h
    exact WP.pathW tab_ok mixed [] _ (ps := []) (r := ti v5) (by kernel_rfl) trivial (WkT.eq (y := ti v5) (WkT.refl _) rfl) (fun _ h => h)
theorem F_impl_StateWeight_W (x0 : List Int) (x1 : Int) (x2 : Int) (y0 : Int) (y1 : Bool) (h : F_impl_StateWeight x0 x1 x2 = some (y0, y1)) : C Try.prog 51 [T.agg [tl x0, ti x1], ti x2] (T.tup [ti y0, tb y1]) := by
  unfold F_impl_StateWeight at h
  refine C.intro (tab := tab) tab_ok (fn := Try.f51) Try.func51 (by kernel_rfl) rfl (Nat.le_of_ble_eq_true rfl) ?_
  refine WP.seq ?_
  refine WP.path tab_ok mixed [(2, An.fz)] [.keep [5, 4, 2, 1], .keepO []] (ps := []) (e := .normal) (σ' := ⟨[], [(5, vb false), (4, vi 0), (2, V.t (T.ptr [tl x0, ti x1])), (1, vi x2)], []⟩) (by kernel_rfl) trivial ?_
  refine WP.seq ?_
  obtain ⟨J1, hJ1, h⟩ := jn_some h
  refine WP.joinA (fun (zz : Bool) => ⟨[], [(13, vb zz), (5, vb false), (4, vi 0), (2, V.t (T.ptr [tl x0, ti x1])), (1, vi x2)], []⟩) (fun zz => J1 zz = some (y0, y1)) ?_ ?_
  · -- to where they meet
    obtain ⟨c0, h⟩ := chk_some h
    rcases ite_some h with ⟨h1, h⟩ | ⟨h1, h⟩
    · -- yes
      refine WP.path tab_ok mixed [(7, An.call (tb (isStateN x0 x1))), (9, An.b true)] [.keep [13, 5, 4, 2, 1], .keepO [], .names []] (ps := [(2 ≤ 2), (C Try.prog 99 [T.agg [tl x0, ti x1]] (tb (isStateN x0 x1))), ((!(isStateN x0 x1)) = true)]) (e := .normal) (σ' := ⟨[], [(13, vb true), (5, vb false), (4, vi 0), (2, V.t (T.ptr [tl x0, ti x1])), (1, vi x2)], []⟩) (by kernel_rfl) ⟨by decide, (isState_C x0 x1 c0), h1, trivial⟩ ?_
      exact ⟨(true), h, rfl⟩
    · -- no
      obtain ⟨r11, c1, h⟩ := bnd1_some h
      refine WP.path tab_ok mixed [(7, An.call (tb (isStateN x0 x1))), (9, An.b false), (11, An.call (tb r11))] [.keep [13, 5, 4, 2, 1], .keepO [], .names []] (ps := [(2 ≤ 2), (C Try.prog 99 [T.agg [tl x0, ti x1]] (tb (isStateN x0 x1))), ((!(isStateN x0 x1)) = false), (C Try.prog 185 [ti x2] (tb r11))]) (e := .normal) (σ' := ⟨[], [(13, vb !r11), (5, vb false), (4, vi 0), (2, V.t (T.ptr [tl x0, ti x1])), (1, vi x2)], []⟩) (by kernel_rfl) ⟨by decide, (isState_C x0 x1 c0), h1, (F_impl_isAhead_W x2 r11 c1), trivial⟩ ?_
      exact ⟨(!r11), h, rfl⟩
  · -- from there
    intro v13 h0
    have h := (show J1 v13 = some (y0, y1) from h0)
    rw [hJ1] at h
    rcases ite_some h with ⟨h2, h⟩ | ⟨h2, h⟩
    · -- yes
      refine WP.cond (b := v13) rfl (fun _ => ?_) (fun hh => by rw [h2] at hh; cases hh)
      simp only [Option.some.injEq, Prod.mk.injEq] at h
      obtain ⟨rfl, rfl⟩ := h
      exact WP.pathW tab_ok mixed [] _ (ps := []) (r := T.tup [ti 0, tb false]) (by kernel_rfl) trivial (WkT.eq (y := T.tup [ti 0, tb false]) (WkT.refl _) (by first | rfl | (simp only [tlS, tl, vl, vo, oc, ov, tbl, vbl, ty, vy]; done) | (simp only [tlS, tl, vl, vo, oc, ov, tbl, vbl, ty, vy]; rfl) | (simp; done) | (simp []; done) | (rw [List.take_of_length_le (by simp [])]; done) | (rw [List.take_of_length_le (by simp [])]; rfl) | (simp only [tlL]; omega) | (simp; omega))) (fun _ h => h)
    · -- no
      refine WP.cond (b := v13) rfl (fun hh => by rw [h2] at hh; cases hh) (fun _ => ?_)
      refine WP.path tab_ok mixed [] [.keep [5, 4, 2, 1], .keepO []] (ps := []) (e := .normal) (σ' := ⟨[], [(5, vb false), (4, vi 0), (2, V.t (T.ptr [tl x0, ti x1])), (1, vi x2)], []⟩) (by kernel_rfl) trivial ?_
      obtain ⟨r16, c0, h⟩ := bnd1_some h
      simp only [Option.some.injEq, Prod.mk.injEq] at h
      obtain ⟨rfl, rfl⟩ := h
      exact WP.pathW tab_ok mixed [(16, An.call (ti r16))] _ (ps := [(2 ≤ 2), (C Try.prog 190 [T.agg [tl x0, ti x1], ti x2] (ti r16))]) (r := T.tup [ti r16, tb true]) (by kernel_rfl) ⟨by decide, (F_impl_State_allWeight_W x0 x1 x2 r16 c0), trivial⟩ (WkT.eq (y := T.tup [ti r16, tb true]) (WkT.refl _) rfl) (fun _ h => h)
theorem F_spec_l3Weight_W (x0 : List Int) (x1 : Int) (x2 : Int) (y0 : Int) (h : F_spec_l3Weight x0 x1 x2 = some y0) : C Try.prog 191 [T.agg [tl x0, ti x1], ti x2] (ti y0) := by
  unfold F_spec_l3Weight at h
  refine C.intro (tab := tab) tab_ok (fn := Try.f191) Try.func191 (by kernel_rfl) rfl (Nat.le_of_ble_eq_true rfl) ?_
  refine WP.seq ?_
  refine WP.path tab_ok mixed [(2, An.fz)] [.keep [4, 2, 1], .keepO []] (ps := []) (e := .normal) (σ' := ⟨[], [(4, vi 0), (2, V.t (T.ptr [tl x0, ti x1])), (1, vi x2)], []⟩) (by kernel_rfl) trivial ?_
  refine WP.seq ?_
  refine WP.path tab_ok mixed [] [.keep [5, 4, 2, 1], .keepO []] (ps := []) (e := .normal) (σ' := ⟨[], [(5, vi 0), (4, vi 0), (2, V.t (T.ptr [tl x0, ti x1])), (1, vi x2)], []⟩) (by kernel_rfl) trivial ?_
  obtain ⟨J1, hJ1, h⟩ := jn_some h
  refine WP.joinA (fun (zz : Int) => ⟨[], [(5, vi zz), (4, vi 0)], []⟩) (fun zz => J1 zz = some y0) ?_ ?_
  · -- to where they meet
    refine WP.seq ?_
    refine WP.path tab_ok mixed [] [.keep [6, 5, 4, 2, 1], .keepO []] (ps := []) (e := .normal) (σ' := ⟨[], [(6, vi 0), (5, vi 0), (4, vi 0), (2, V.t (T.ptr [tl x0, ti x1])), (1, vi x2)], []⟩) (by kernel_rfl) trivial ?_
    refine WP.block ?_
    refine WP.wk [.keep [6, 5, 4, 2, 1], .keepO [], .names []] (σ' := ⟨[], [(6, vi 0), (5, vi 0), (4, vi 0), (2, V.t (T.ptr [tl x0, ti x1])), (1, vi x2)], []⟩) (ps := []) (by kernel_rfl) trivial ?_
    refine WP.st (σ' := ⟨[], [(6, vi (0 : Int)), (5, vi (0 : Int)), (4, vi 0), (2, V.t (T.ptr [tl x0, ti x1])), (1, vi x2)], []⟩) (by first | rfl | (simp only [tlS, tl, vl, vo, oc, ov, tbl, vbl, ty, vy]; done) | (simp only [tlS, tl, vl, vo, oc, ov, tbl, vbl, ty, vy]; rfl) | (simp; done) | (simp []; done) | (rw [List.take_of_length_le (by simp [])]; done) | (rw [List.take_of_length_le (by simp [])]; rfl) | (simp only [tlL]; omega) | (simp; omega)) ?_
    refine WP.loop (α := Nat × Int × Int) (fun zz => ⟨[], [(6, vi zz.2.1), (5, vi zz.2.2), (4, vi 0), (2, V.t (T.ptr [tl x0, ti x1])), (1, vi x2)], []⟩) (fun zz => F_spec_l3Weight_L1 x0 x1 x2 J1 zz.1 zz.2.1 zz.2.2 = some y0) (fun zz => zz.1) (fuel, (0 : Int), (0 : Int)) h ?_
    rintro ⟨n, v6, v5⟩ h0
    have h := (show F_spec_l3Weight_L1 x0 x1 x2 J1 n v6 v5 = some y0 from h0)
    rcases n with _ | n
    · rw [F_spec_l3Weight_L1] at h; cases h
    · rw [F_spec_l3Weight_L1] at h
      refine WP.seq ?_
      refine WP.seq ?_
      refine WP.path tab_ok mixed [] [.keep [11, 6, 5, 4, 2, 1], .keepO []] (ps := [(True), (True)]) (e := .normal) (σ' := ⟨[], [(11, vb (decide (v6 < ((List.length x0 : Nat) : Int)))), (6, vi v6), (5, vi v5), (4, vi 0), (2, V.t (T.ptr [tl x0, ti x1])), (1, vi x2)], []⟩) (by kernel_rfl) ⟨trivial, trivial, trivial⟩ ?_
      rcases ite_some h with ⟨h1, h⟩ | ⟨h1, h⟩
      · -- yes
        refine WP.cond (b := decide (v6 < ((List.length x0 : Nat) : Int))) rfl (fun _ => ?_) (fun hh => by rw [h1] at hh; cases hh)
        refine WP.path tab_ok mixed [] [.keep [6, 5, 4, 2, 1], .keepO []] (ps := []) (e := .normal) (σ' := ⟨[], [(6, vi v6), (5, vi v5), (4, vi 0), (2, V.t (T.ptr [tl x0, ti x1])), (1, vi x2)], []⟩) (by kernel_rfl) trivial ?_
        refine WP.seq ?_
        refine WP.block ?_
        obtain ⟨r18, c0, h⟩ := bnd1_some h
        obtain ⟨c1, h⟩ := chk_some h
        refine WP.path tab_ok mixed [(18, An.call (ti r18)), (19, An.v (T.int .i64 (v5 + r18)))] [.keep [5, 6, 4, 2, 1], .keepO []] (ps := [(2 ≤ 2), (C Try.prog 189 [T.agg [tl x0, ti x1], ti v6, ti x2] (ti r18)), (True), (T.int .i64 (IntKind.wrap .i64 (v5 + r18)) = T.int .i64 (v5 + r18))]) (e := .normal) (σ' := ⟨[], [(5, vi (v5 + r18)), (6, vi v6), (4, vi 0), (2, V.t (T.ptr [tl x0, ti x1])), (1, vi x2)], []⟩) (by kernel_rfl) ⟨by decide, (F_spec_l3Number_W x0 x1 v6 x2 r18 c0), trivial, wrapI c1, trivial⟩ ?_
        obtain ⟨c2, h⟩ := chk_some h
        refine WP.path tab_ok mixed [(13, An.v (T.int .i64 (v6 + (1 : Int))))] [.keep [6, 5, 4, 2, 1], .keepO [], .names []] (ps := [(True), (T.int .i64 (IntKind.wrap .i64 (v6 + (1 : Int))) = T.int .i64 (v6 + (1 : Int)))]) (e := .normal) (σ' := ⟨[], [(6, vi (v6 + (1 : Int))), (5, vi (v5 + r18)), (4, vi 0), (2, V.t (T.ptr [tl x0, ti x1])), (1, vi x2)], []⟩) (by kernel_rfl) ⟨trivial, wrapI c2, trivial⟩ ?_
        exact ⟨(n, (v6 + (1 : Int)), (v5 + r18)), h, Nat.lt_succ_self _, rfl⟩
      · -- no
        refine WP.cond (b := decide (v6 < ((List.length x0 : Nat) : Int))) rfl (fun hh => by rw [h1] at hh; cases hh) (fun _ => ?_)
        refine WP.path tab_ok mixed [] [.keep [5, 4], .keepO [], .names []] (ps := []) (e := (.exit 0)) (σ' := ⟨[], [(5, vi v5), (4, vi 0)], []⟩) (by kernel_rfl) trivial ?_
        exact ⟨(v5), h, rfl⟩
  · -- from there
    intro v5 h0
    have h := (show J1 v5 = some y0 from h0)
    rw [hJ1] at h
    have h := Option.some.inj h
    subst h
    exact WP.pathW tab_ok mixed [] _ (ps := []) (r := ti v5) (by kernel_rfl) trivial (WkT.eq (y := ti v5) (WkT.refl _) rfl) (fun _ h => h)
theorem F_spec_StateWeight_W (x0 : List Int) (x1 : Int) (x2 : Int) (y0 : Int) (y1 : Bool) (h : F_spec_StateWeight x0 x1 x2 = some (y0, y1)) : C Try.prog 52 [T.agg [tl x0, ti x1], ti x2] (T.tup [ti y0, tb y1]) := by
  unfold F_spec_StateWeight at h
  refine C.intro (tab := tab) tab_ok (fn := Try.f52) Try.func52 (by kernel_rfl) rfl (Nat.le_of_ble_eq_true rfl) ?_
  refine WP.seq ?_
  refine WP.path tab_ok mixed [(2, An.fz)] [.keep [5, 4, 2, 1], .keepO []] (ps := []) (e := .normal) (σ' := ⟨[], [(5, vb false), (4, vi 0), (2, V.t (T.ptr [tl x0, ti x1])), (1, vi x2)], []⟩) (by kernel_rfl) trivial ?_
  refine WP.seq ?_
  obtain ⟨J1, hJ1, h⟩ := jn_some h
  refine WP.joinA (fun (zz : Bool) => ⟨[], [(13, vb zz), (5, vb false), (4, vi 0), (2, V.t (T.ptr [tl x0, ti x1])), (1, vi x2)], []⟩) (fun zz => J1 zz = some (y0, y1)) ?_ ?_
  · -- to where they meet
    obtain ⟨c0, h⟩ := chk_some h
    rcases ite_some h with ⟨h1, h⟩ | ⟨h1, h⟩
    · -- yes
      refine WP.path tab_ok mixed [(7, An.call (tb (isStateN x0 x1))), (9, An.b true)] [.keep [13, 5, 4, 2, 1], .keepO [], .names []] (ps := [(2 ≤ 2), (C Try.prog 187 [T.agg [tl x0, ti x1]] (tb (isStateN x0 x1))), ((!(isStateN x0 x1)) = true)]) (e := .normal) (σ' := ⟨[], [(13, vb true), (5, vb false), (4, vi 0), (2, V.t (T.ptr [tl x0, ti x1])), (1, vi x2)], []⟩) (by kernel_rfl) ⟨by decide, (l2State_C x0 x1 c0), h1, trivial⟩ ?_
      exact ⟨(true), h, rfl⟩
    · -- no
      obtain ⟨r11, c1, h⟩ := bnd1_some h
      refine WP.path tab_ok mixed [(7, An.call (tb (isStateN x0 x1))), (9, An.b false), (11, An.call (tb r11))] [.keep [13, 5, 4, 2, 1], .keepO [], .names []] (ps := [(2 ≤ 2), (C Try.prog 187 [T.agg [tl x0, ti x1]] (tb (isStateN x0 x1))), ((!(isStateN x0 x1)) = false), (C Try.prog 188 [ti x2] (tb r11))]) (e := .normal) (σ' := ⟨[], [(13, vb !r11), (5, vb false), (4, vi 0), (2, V.t (T.ptr [tl x0, ti x1])), (1, vi x2)], []⟩) (by kernel_rfl) ⟨by decide, (l2State_C x0 x1 c0), h1, (F_spec_l3Ahead_W x2 r11 c1), trivial⟩ ?_
      exact ⟨(!r11), h, rfl⟩
  · -- from there
    intro v13 h0
    have h := (show J1 v13 = some (y0, y1) from h0)
    rw [hJ1] at h
    rcases ite_some h with ⟨h2, h⟩ | ⟨h2, h⟩
    · -- yes
      refine WP.cond (b := v13) rfl (fun _ => ?_) (fun hh => by rw [h2] at hh; cases hh)
      simp only [Option.some.injEq, Prod.mk.injEq] at h
      obtain ⟨rfl, rfl⟩ := h
      exact WP.pathW tab_ok mixed [] _ (ps := []) (r := T.tup [ti 0, tb false]) (by kernel_rfl) trivial (WkT.eq (y := T.tup [ti 0, tb false]) (WkT.refl _) (by first | rfl | (simp only [tlS, tl, vl, vo, oc, ov, tbl, vbl, ty, vy]; done) | (simp only [tlS, tl, vl, vo, oc, ov, tbl, vbl, ty, vy]; rfl) | (simp; done) | (simp []; done) | (rw [List.take_of_length_le (by simp [])]; done) | (rw [List.take_of_length_le (by simp [])]; rfl) | (simp only [tlL]; omega) | (simp; omega))) (fun _ h => h)
    · -- no
      refine WP.cond (b := v13) rfl (fun hh => by rw [h2] at hh; cases hh) (fun _ => ?_)
      refine WP.path tab_ok mixed [] [.keep [5, 4, 2, 1], .keepO []] (ps := []) (e := .normal) (σ' := ⟨[], [(5, vb false), (4, vi 0), (2, V.t (T.ptr [tl x0, ti x1])), (1, vi x2)], []⟩) (by kernel_rfl) trivial ?_
      obtain ⟨r16, c0, h⟩ := bnd1_some h
      simp only [Option.some.injEq, Prod.mk.injEq] at h
      obtain ⟨rfl, rfl⟩ := h
      exact WP.pathW tab_ok mixed [(16, An.call (ti r16))] _ (ps := [(2 ≤ 2), (C Try.prog 191 [T.agg [tl x0, ti x1], ti x2] (ti r16))]) (r := T.tup [ti r16, tb true]) (by kernel_rfl) ⟨by decide, (F_spec_l3Weight_W x0 x1 x2 r16 c0), trivial⟩ (WkT.eq (y := T.tup [ti r16, tb true]) (WkT.refl _) rfl) (fun _ h => h)
theorem F_impl_RoomOf_W (x0 : List Int) (x1 : Int) (x2 : Int) (y0 : Int) (y1 : Bool) (h : F_impl_RoomOf x0 x1 x2 = some (y0, y1)) : C Try.prog 53 [T.agg [tl x0, ti x1], ti x2] (T.tup [ti y0, tb y1]) := by
  unfold F_impl_RoomOf at h
  refine C.intro (tab := tab) tab_ok (fn := Try.f53) Try.func53 (by kernel_rfl) rfl (Nat.le_of_ble_eq_true rfl) ?_
  refine WP.seq ?_
  refine WP.path tab_ok mixed [(2, An.fz)] [.keep [5, 4, 2, 1], .keepO []] (ps := []) (e := .normal) (σ' := ⟨[], [(5, vb false), (4, vi 0), (2, V.t (T.ptr [tl x0, ti x1])), (1, vi x2)], []⟩) (by kernel_rfl) trivial ?_
  refine WP.seq ?_
  obtain ⟨r11, r11b, c0, h⟩ := bnd2_some h
  refine WP.path tab_ok mixed [(11, An.call (T.tup [ti r11, tb r11b]))] [.keep [7, 6, 5, 4, 1], .keepO []] (ps := [(2 ≤ 2), (C Try.prog 51 [T.agg [tl x0, ti x1], ti x2] (T.tup [ti r11, tb r11b]))]) (e := .normal) (σ' := ⟨[], [(7, vb r11b), (6, vi r11), (5, vb false), (4, vi 0), (1, vi x2)], []⟩) (by kernel_rfl) ⟨by decide, (F_impl_StateWeight_W x0 x1 x2 r11 r11b c0), trivial⟩ ?_
  refine WP.seq ?_
  refine WP.seq ?_
  refine WP.path tab_ok mixed [] [.keep [15, 6, 5, 4, 1], .keepO []] (ps := []) (e := .normal) (σ' := ⟨[], [(15, vb !r11b), (6, vi r11), (5, vb false), (4, vi 0), (1, vi x2)], []⟩) (by kernel_rfl) trivial ?_
  rcases ite_some h with ⟨h1, h⟩ | ⟨h1, h⟩
  · -- yes
    refine WP.cond (b := !r11b) rfl (fun _ => ?_) (fun hh => by rw [h1] at hh; cases hh)
    simp only [Option.some.injEq, Prod.mk.injEq] at h
    obtain ⟨rfl, rfl⟩ := h
    exact WP.pathW tab_ok mixed [] _ (ps := []) (r := T.tup [ti 0, tb false]) (by kernel_rfl) trivial (WkT.eq (y := T.tup [ti 0, tb false]) (WkT.refl _) (by first | rfl | (simp only [tlS, tl, vl, vo, oc, ov, tbl, vbl, ty, vy]; done) | (simp only [tlS, tl, vl, vo, oc, ov, tbl, vbl, ty, vy]; rfl) | (simp; done) | (simp []; done) | (rw [List.take_of_length_le (by simp [])]; done) | (rw [List.take_of_length_le (by simp [])]; rfl) | (simp only [tlL]; omega) | (simp; omega))) (fun _ h => h)
  · -- no
    refine WP.cond (b := !r11b) rfl (fun hh => by rw [h1] at hh; cases hh) (fun _ => ?_)
    refine WP.path tab_ok mixed [] [.keep [6, 5, 4, 1], .keepO []] (ps := []) (e := .normal) (σ' := ⟨[], [(6, vi r11), (5, vb false), (4, vi 0), (1, vi x2)], []⟩) (by kernel_rfl) trivial ?_
    obtain ⟨c1, h⟩ := chk_some h
    obtain ⟨c2, h⟩ := chk_some h
    simp only [Option.some.injEq, Prod.mk.injEq] at h
    obtain ⟨rfl, rfl⟩ := h
    exact WP.pathW tab_ok mixed [(17, An.v (T.int .i64 ((1 : Int) * 2 ^ Int.toNat x2))), (19, An.v (T.int .i64 (((1 : Int) * 2 ^ Int.toNat x2) - r11)))] _ (ps := [(0 ≤ x2), (T.int .i64 (IntKind.wrap .i64 ((1 : Int) * 2 ^ (min (Int.toNat x2) 64))) = T.int .i64 ((1 : Int) * 2 ^ Int.toNat x2)), (True), (T.int .i64 (IntKind.wrap .i64 (((1 : Int) * 2 ^ Int.toNat x2) - r11)) = T.int .i64 (((1 : Int) * 2 ^ Int.toNat x2) - r11))]) (r := T.tup [ti (((1 : Int) * 2 ^ Int.toNat x2) - r11), tb true]) (by kernel_rfl) ⟨c1.1, shl_told c1, trivial, wrapI c2, trivial⟩ (WkT.eq (y := T.tup [ti (((1 : Int) * 2 ^ Int.toNat x2) - r11), tb true]) (WkT.refl _) rfl) (fun _ h => h)
theorem F_spec_RoomOf_W (x0 : List Int) (x1 : Int) (x2 : Int) (y0 : Int) (y1 : Bool) (h : F_spec_RoomOf x0 x1 x2 = some (y0, y1)) : C Try.prog 54 [T.agg [tl x0, ti x1], ti x2] (T.tup [ti y0, tb y1]) := by
  unfold F_spec_RoomOf at h
  refine C.intro (tab := tab) tab_ok (fn := Try.f54) Try.func54 (by kernel_rfl) rfl (Nat.le_of_ble_eq_true rfl) ?_
  refine WP.seq ?_
  refine WP.path tab_ok mixed [(2, An.fz)] [.keep [5, 4, 2, 1], .keepO []] (ps := []) (e := .normal) (σ' := ⟨[], [(5, vb false), (4, vi 0), (2, V.t (T.ptr [tl x0, ti x1])), (1, vi x2)], []⟩) (by kernel_rfl) trivial ?_
  refine WP.seq ?_
  obtain ⟨J1, hJ1, h⟩ := jn_some h
  refine WP.joinA (fun (zz : Bool) => ⟨[], [(13, vb zz), (5, vb false), (4, vi 0), (2, V.t (T.ptr [tl x0, ti x1])), (1, vi x2)], []⟩) (fun zz => J1 zz = some (y0, y1)) ?_ ?_
  · -- to where they meet
    obtain ⟨c0, h⟩ := chk_some h
    rcases ite_some h with ⟨h1, h⟩ | ⟨h1, h⟩
    · -- yes
      refine WP.path tab_ok mixed [(7, An.call (tb (isStateN x0 x1))), (9, An.b true)] [.keep [13, 5, 4, 2, 1], .keepO [], .names []] (ps := [(2 ≤ 2), (C Try.prog 187 [T.agg [tl x0, ti x1]] (tb (isStateN x0 x1))), ((!(isStateN x0 x1)) = true)]) (e := .normal) (σ' := ⟨[], [(13, vb true), (5, vb false), (4, vi 0), (2, V.t (T.ptr [tl x0, ti x1])), (1, vi x2)], []⟩) (by kernel_rfl) ⟨by decide, (l2State_C x0 x1 c0), h1, trivial⟩ ?_
      exact ⟨(true), h, rfl⟩
    · -- no
      obtain ⟨r11, c1, h⟩ := bnd1_some h
      refine WP.path tab_ok mixed [(7, An.call (tb (isStateN x0 x1))), (9, An.b false), (11, An.call (tb r11))] [.keep [13, 5, 4, 2, 1], .keepO [], .names []] (ps := [(2 ≤ 2), (C Try.prog 187 [T.agg [tl x0, ti x1]] (tb (isStateN x0 x1))), ((!(isStateN x0 x1)) = false), (C Try.prog 188 [ti x2] (tb r11))]) (e := .normal) (σ' := ⟨[], [(13, vb !r11), (5, vb false), (4, vi 0), (2, V.t (T.ptr [tl x0, ti x1])), (1, vi x2)], []⟩) (by kernel_rfl) ⟨by decide, (l2State_C x0 x1 c0), h1, (F_spec_l3Ahead_W x2 r11 c1), trivial⟩ ?_
      exact ⟨(!r11), h, rfl⟩
  · -- from there
    intro v13 h0
    have h := (show J1 v13 = some (y0, y1) from h0)
    rw [hJ1] at h
    rcases ite_some h with ⟨h2, h⟩ | ⟨h2, h⟩
    · -- yes
      refine WP.cond (b := v13) rfl (fun _ => ?_) (fun hh => by rw [h2] at hh; cases hh)
      simp only [Option.some.injEq, Prod.mk.injEq] at h
      obtain ⟨rfl, rfl⟩ := h
      exact WP.pathW tab_ok mixed [] _ (ps := []) (r := T.tup [ti 0, tb false]) (by kernel_rfl) trivial (WkT.eq (y := T.tup [ti 0, tb false]) (WkT.refl _) (by first | rfl | (simp only [tlS, tl, vl, vo, oc, ov, tbl, vbl, ty, vy]; done) | (simp only [tlS, tl, vl, vo, oc, ov, tbl, vbl, ty, vy]; rfl) | (simp; done) | (simp []; done) | (rw [List.take_of_length_le (by simp [])]; done) | (rw [List.take_of_length_le (by simp [])]; rfl) | (simp only [tlL]; omega) | (simp; omega))) (fun _ h => h)
    · -- no
      refine WP.cond (b := v13) rfl (fun hh => by rw [h2] at hh; cases hh) (fun _ => ?_)
      refine WP.path tab_ok mixed [] [.keep [5, 4, 2, 1], .keepO []] (ps := []) (e := .normal) (σ' := ⟨[], [(5, vb false), (4, vi 0), (2, V.t (T.ptr [tl x0, ti x1])), (1, vi x2)], []⟩) (by kernel_rfl) trivial ?_
      obtain ⟨c0, h⟩ := chk_some h
      obtain ⟨r18, c1, h⟩ := bnd1_some h
      obtain ⟨c2, h⟩ := chk_some h
      simp only [Option.some.injEq, Prod.mk.injEq] at h
      obtain ⟨rfl, rfl⟩ := h
      exact WP.pathW tab_ok mixed [(15, An.v (T.int .i64 ((1 : Int) * 2 ^ Int.toNat x2))), (18, An.call (ti r18)), (19, An.v (T.int .i64 (((1 : Int) * 2 ^ Int.toNat x2) - r18)))] _ (ps := [(0 ≤ x2), (T.int .i64 (IntKind.wrap .i64 ((1 : Int) * 2 ^ (min (Int.toNat x2) 64))) = T.int .i64 ((1 : Int) * 2 ^ Int.toNat x2)), (2 ≤ 2), (C Try.prog 191 [T.agg [tl x0, ti x1], ti x2] (ti r18)), (True), (T.int .i64 (IntKind.wrap .i64 (((1 : Int) * 2 ^ Int.toNat x2) - r18)) = T.int .i64 (((1 : Int) * 2 ^ Int.toNat x2) - r18))]) (r := T.tup [ti (((1 : Int) * 2 ^ Int.toNat x2) - r18), tb true]) (by kernel_rfl) ⟨c0.1, shl_told c0, by decide, (F_spec_l3Weight_W x0 x1 x2 r18 c1), trivial, wrapI c2, trivial⟩ (WkT.eq (y := T.tup [ti (((1 : Int) * 2 ^ Int.toNat x2) - r18), tb true]) (WkT.refl _) rfl) (fun _ h => h)
theorem F_impl_BoundOf_W (x0 : List Int) (x1 : Int) (y0 : Int) (y1 : Bool) (h : F_impl_BoundOf x0 x1 = some (y0, y1)) : C Try.prog 55 [T.agg [tl x0, ti x1]] (T.tup [ti y0, tb y1]) := by
  unfold F_impl_BoundOf at h
  refine C.intro (tab := tab) tab_ok (fn := Try.f55) Try.func55 (by kernel_rfl) rfl (Nat.le_of_ble_eq_true rfl) ?_
  refine WP.seq ?_
  refine WP.path tab_ok mixed [(1, An.fz)] [.keep [3, 2, 1], .keepO []] (ps := []) (e := .normal) (σ' := ⟨[], [(3, vb false), (2, vi 0), (1, V.t (T.ptr [tl x0, ti x1]))], []⟩) (by kernel_rfl) trivial ?_
  refine WP.seq ?_
  refine WP.seq ?_
  obtain ⟨c0, h⟩ := chk_some h
  refine WP.path tab_ok mixed [(6, An.call (tb (isStateN x0 x1)))] [.keep [7, 3, 2, 1], .keepO []] (ps := [(2 ≤ 2), (C Try.prog 99 [T.agg [tl x0, ti x1]] (tb (isStateN x0 x1)))]) (e := .normal) (σ' := ⟨[], [(7, vb (!(isStateN x0 x1))), (3, vb false), (2, vi 0), (1, V.t (T.ptr [tl x0, ti x1]))], []⟩) (by kernel_rfl) ⟨by decide, (isState_C x0 x1 c0), trivial⟩ ?_
  rcases ite_some h with ⟨h1, h⟩ | ⟨h1, h⟩
  · -- yes
    refine WP.cond (b := !(isStateN x0 x1)) rfl (fun _ => ?_) (fun hh => by rw [h1] at hh; cases hh)
    simp only [Option.some.injEq, Prod.mk.injEq] at h
    obtain ⟨rfl, rfl⟩ := h
    exact WP.pathW tab_ok mixed [] _ (ps := []) (r := T.tup [ti 0, tb false]) (by kernel_rfl) trivial (WkT.eq (y := T.tup [ti 0, tb false]) (WkT.refl _) (by first | rfl | (simp only [tlS, tl, vl, vo, oc, ov, tbl, vbl, ty, vy]; done) | (simp only [tlS, tl, vl, vo, oc, ov, tbl, vbl, ty, vy]; rfl) | (simp; done) | (simp []; done) | (rw [List.take_of_length_le (by simp [])]; done) | (rw [List.take_of_length_le (by simp [])]; rfl) | (simp only [tlL]; omega) | (simp; omega))) (fun _ h => h)
  · -- no
    refine WP.cond (b := !(isStateN x0 x1)) rfl (fun hh => by rw [h1] at hh; cases hh) (fun _ => ?_)
    refine WP.path tab_ok mixed [] [.keep [3, 2, 1], .keepO []] (ps := []) (e := .normal) (σ' := ⟨[], [(3, vb false), (2, vi 0), (1, V.t (T.ptr [tl x0, ti x1]))], []⟩) (by kernel_rfl) trivial ?_
    refine WP.seq ?_
    refine WP.path tab_ok mixed [] [.keep [4, 3, 2, 1], .keepO []] (ps := []) (e := .normal) (σ' := ⟨[], [(4, vi 0), (3, vb false), (2, vi 0), (1, V.t (T.ptr [tl x0, ti x1]))], []⟩) (by kernel_rfl) trivial ?_
    obtain ⟨J1, hJ1, h⟩ := jn_some h
    refine WP.joinA (fun (zz : Int) => ⟨[], [(4, vi zz), (3, vb false), (2, vi 0)], []⟩) (fun zz => J1 zz = some (y0, y1)) ?_ ?_
    · -- to where they meet
      refine WP.block ?_
      refine WP.wk [.keep [4, 3, 2, 1], .keepO [], .names []] (σ' := ⟨[], [(4, vi 0), (3, vb false), (2, vi 0), (1, V.t (T.ptr [tl x0, ti x1]))], []⟩) (ps := []) (by kernel_rfl) trivial ?_
      refine WP.st (σ' := ⟨[], [(4, vi (0 : Int)), (3, vb false), (2, vi 0), (1, V.t (T.ptr [tl x0, ti x1]))], []⟩) (by first | rfl | (simp only [tlS, tl, vl, vo, oc, ov, tbl, vbl, ty, vy]; done) | (simp only [tlS, tl, vl, vo, oc, ov, tbl, vbl, ty, vy]; rfl) | (simp; done) | (simp []; done) | (rw [List.take_of_length_le (by simp [])]; done) | (rw [List.take_of_length_le (by simp [])]; rfl) | (simp only [tlL]; omega) | (simp; omega)) ?_
      refine WP.loop (α := Nat × Int) (fun zz => ⟨[], [(4, vi zz.2), (3, vb false), (2, vi 0), (1, V.t (T.ptr [tl x0, ti x1]))], []⟩) (fun zz => F_impl_BoundOf_L1 x0 x1 J1 zz.1 zz.2 = some (y0, y1)) (fun zz => zz.1) (fuel, (0 : Int)) h ?_
      rintro ⟨n, v4⟩ h0
      have h := (show F_impl_BoundOf_L1 x0 x1 J1 n v4 = some (y0, y1) from h0)
      rcases n with _ | n
      · rw [F_impl_BoundOf_L1] at h; cases h
      · rw [F_impl_BoundOf_L1] at h
        refine WP.seq ?_
        refine WP.seq ?_
        obtain ⟨r10, c1, h⟩ := bnd1_some h
        obtain ⟨c2, h⟩ := chk_some h
        refine WP.path tab_ok mixed [(10, An.call (ti r10)), (12, An.v (T.int .i64 ((1 : Int) * 2 ^ Int.toNat v4)))] [.keep [13, 4, 3, 2, 1], .keepO []] (ps := [(2 ≤ 2), (C Try.prog 190 [T.agg [tl x0, ti x1], ti v4] (ti r10)), (0 ≤ v4), (T.int .i64 (IntKind.wrap .i64 ((1 : Int) * 2 ^ (min (Int.toNat v4) 64))) = T.int .i64 ((1 : Int) * 2 ^ Int.toNat v4)), (True)]) (e := .normal) (σ' := ⟨[], [(13, vb (decide (r10 > ((1 : Int) * 2 ^ Int.toNat v4)))), (4, vi v4), (3, vb false), (2, vi 0), (1, V.t (T.ptr [tl x0, ti x1]))], []⟩) (by kernel_rfl) ⟨by decide, (F_impl_State_allWeight_W x0 x1 v4 r10 c1), c2.1, shl_told c2, trivial, trivial⟩ ?_
        rcases ite_some h with ⟨h2, h⟩ | ⟨h2, h⟩
        · -- yes
          refine WP.cond (b := decide (r10 > ((1 : Int) * 2 ^ Int.toNat v4))) rfl (fun _ => ?_) (fun hh => by rw [h2] at hh; cases hh)
          refine WP.path tab_ok mixed [] [.keep [4, 3, 2, 1], .keepO []] (ps := []) (e := .normal) (σ' := ⟨[], [(4, vi v4), (3, vb false), (2, vi 0), (1, V.t (T.ptr [tl x0, ti x1]))], []⟩) (by kernel_rfl) trivial ?_
          refine WP.block ?_
          obtain ⟨c3, h⟩ := chk_some h
          refine WP.path tab_ok mixed [(15, An.v (T.int .i64 (v4 + (1 : Int))))] [.keep [4, 3, 2, 1], .keepO [], .names []] (ps := [(True), (T.int .i64 (IntKind.wrap .i64 (v4 + (1 : Int))) = T.int .i64 (v4 + (1 : Int)))]) (e := .normal) (σ' := ⟨[], [(4, vi (v4 + (1 : Int))), (3, vb false), (2, vi 0), (1, V.t (T.ptr [tl x0, ti x1]))], []⟩) (by kernel_rfl) ⟨trivial, wrapI c3, trivial⟩ ?_
          exact ⟨(n, (v4 + (1 : Int))), h, Nat.lt_succ_self _, rfl⟩
        · -- no
          refine WP.cond (b := decide (r10 > ((1 : Int) * 2 ^ Int.toNat v4))) rfl (fun hh => by rw [h2] at hh; cases hh) (fun _ => ?_)
          refine WP.path tab_ok mixed [] [.keep [4, 3, 2], .keepO [], .names []] (ps := []) (e := (.exit 0)) (σ' := ⟨[], [(4, vi v4), (3, vb false), (2, vi 0)], []⟩) (by kernel_rfl) trivial ?_
          exact ⟨(v4), h, rfl⟩
    · -- from there
      intro v4 h0
      have h := (show J1 v4 = some (y0, y1) from h0)
      rw [hJ1] at h
      simp only [Option.some.injEq, Prod.mk.injEq] at h
      obtain ⟨rfl, rfl⟩ := h
      exact WP.pathW tab_ok mixed [] _ (ps := []) (r := T.tup [ti v4, tb true]) (by kernel_rfl) trivial (WkT.eq (y := T.tup [ti v4, tb true]) (WkT.refl _) rfl) (fun _ h => h)
theorem F_spec_BoundOf_W (x0 : List Int) (x1 : Int) (y0 : Int) (y1 : Bool) (h : F_spec_BoundOf x0 x1 = some (y0, y1)) : C Try.prog 56 [T.agg [tl x0, ti x1]] (T.tup [ti y0, tb y1]) := by
  unfold F_spec_BoundOf at h
  refine C.intro (tab := tab) tab_ok (fn := Try.f56) Try.func56 (by kernel_rfl) rfl (Nat.le_of_ble_eq_true rfl) ?_
  refine WP.seq ?_
  refine WP.path tab_ok mixed [(1, An.fz)] [.keep [3, 2, 1], .keepO []] (ps := []) (e := .normal) (σ' := ⟨[], [(3, vb false), (2, vi 0), (1, V.t (T.ptr [tl x0, ti x1]))], []⟩) (by kernel_rfl) trivial ?_
  refine WP.seq ?_
  refine WP.seq ?_
  obtain ⟨c0, h⟩ := chk_some h
  refine WP.path tab_ok mixed [(6, An.call (tb (isStateN x0 x1)))] [.keep [7, 3, 2, 1], .keepO []] (ps := [(2 ≤ 2), (C Try.prog 187 [T.agg [tl x0, ti x1]] (tb (isStateN x0 x1)))]) (e := .normal) (σ' := ⟨[], [(7, vb (!(isStateN x0 x1))), (3, vb false), (2, vi 0), (1, V.t (T.ptr [tl x0, ti x1]))], []⟩) (by kernel_rfl) ⟨by decide, (l2State_C x0 x1 c0), trivial⟩ ?_
  rcases ite_some h with ⟨h1, h⟩ | ⟨h1, h⟩
  · -- yes
    refine WP.cond (b := !(isStateN x0 x1)) rfl (fun _ => ?_) (fun hh => by rw [h1] at hh; cases hh)
    simp only [Option.some.injEq, Prod.mk.injEq] at h
    obtain ⟨rfl, rfl⟩ := h
    exact WP.pathW tab_ok mixed [] _ (ps := []) (r := T.tup [ti 0, tb false]) (by kernel_rfl) trivial (WkT.eq (y := T.tup [ti 0, tb false]) (WkT.refl _) (by first | rfl | (simp only [tlS, tl, vl, vo, oc, ov, tbl, vbl, ty, vy]; done) | (simp only [tlS, tl, vl, vo, oc, ov, tbl, vbl, ty, vy]; rfl) | (simp; done) | (simp []; done) | (rw [List.take_of_length_le (by simp [])]; done) | (rw [List.take_of_length_le (by simp [])]; rfl) | (simp only [tlL]; omega) | (simp; omega))) (fun _ h => h)
  · -- no
    refine WP.cond (b := !(isStateN x0 x1)) rfl (fun hh => by rw [h1] at hh; cases hh) (fun _ => ?_)
    refine WP.path tab_ok mixed [] [.keep [3, 2, 1], .keepO []] (ps := []) (e := .normal) (σ' := ⟨[], [(3, vb false), (2, vi 0), (1, V.t (T.ptr [tl x0, ti x1]))], []⟩) (by kernel_rfl) trivial ?_
    refine WP.seq ?_
    refine WP.path tab_ok mixed [] [.keep [4, 3, 2, 1], .keepO []] (ps := []) (e := .normal) (σ' := ⟨[], [(4, vi 0), (3, vb false), (2, vi 0), (1, V.t (T.ptr [tl x0, ti x1]))], []⟩) (by kernel_rfl) trivial ?_
    obtain ⟨J1, hJ1, h⟩ := jn_some h
    refine WP.joinA (fun (zz : Int) => ⟨[], [(4, vi zz), (3, vb false), (2, vi 0)], []⟩) (fun zz => J1 zz = some (y0, y1)) ?_ ?_
    · -- to where they meet
      refine WP.block ?_
      refine WP.wk [.keep [4, 3, 2, 1], .keepO [], .names []] (σ' := ⟨[], [(4, vi 0), (3, vb false), (2, vi 0), (1, V.t (T.ptr [tl x0, ti x1]))], []⟩) (ps := []) (by kernel_rfl) trivial ?_
      refine WP.st (σ' := ⟨[], [(4, vi (0 : Int)), (3, vb false), (2, vi 0), (1, V.t (T.ptr [tl x0, ti x1]))], []⟩) (by first | rfl | (simp only [tlS, tl, vl, vo, oc, ov, tbl, vbl, ty, vy]; done) | (simp only [tlS, tl, vl, vo, oc, ov, tbl, vbl, ty, vy]; rfl) | (simp; done) | (simp []; done) | (rw [List.take_of_length_le (by simp [])]; done) | (rw [List.take_of_length_le (by simp [])]; rfl) | (simp only [tlL]; omega) | (simp; omega)) ?_
      refine WP.loop (α := Nat × Int) (fun zz => ⟨[], [(4, vi zz.2), (3, vb false), (2, vi 0), (1, V.t (T.ptr [tl x0, ti x1]))], []⟩) (fun zz => F_spec_BoundOf_L1 x0 x1 J1 zz.1 zz.2 = some (y0, y1)) (fun zz => zz.1) (fuel, (0 : Int)) h ?_
      rintro ⟨n, v4⟩ h0
      have h := (show F_spec_BoundOf_L1 x0 x1 J1 n v4 = some (y0, y1) from h0)
      rcases n with _ | n
      · rw [F_spec_BoundOf_L1] at h; cases h
      · rw [F_spec_BoundOf_L1] at h
        refine WP.seq ?_
        refine WP.seq ?_
        obtain ⟨r10, c1, h⟩ := bnd1_some h
        obtain ⟨c2, h⟩ := chk_some h
        refine WP.path tab_ok mixed [(10, An.call (ti r10)), (12, An.v (T.int .i64 ((1 : Int) * 2 ^ Int.toNat v4)))] [.keep [13, 4, 3, 2, 1], .keepO []] (ps := [(2 ≤ 2), (C Try.prog 191 [T.agg [tl x0, ti x1], ti v4] (ti r10)), (0 ≤ v4), (T.int .i64 (IntKind.wrap .i64 ((1 : Int) * 2 ^ (min (Int.toNat v4) 64))) = T.int .i64 ((1 : Int) * 2 ^ Int.toNat v4)), (True)]) (e := .normal) (σ' := ⟨[], [(13, vb (decide (r10 > ((1 : Int) * 2 ^ Int.toNat v4)))), (4, vi v4), (3, vb false), (2, vi 0), (1, V.t (T.ptr [tl x0, ti x1]))], []⟩) (by kernel_rfl) ⟨by decide, (F_spec_l3Weight_W x0 x1 v4 r10 c1), c2.1, shl_told c2, trivial, trivial⟩ ?_
        rcases ite_some h with ⟨h2, h⟩ | ⟨h2, h⟩
        · -- yes
          refine WP.cond (b := decide (r10 > ((1 : Int) * 2 ^ Int.toNat v4))) rfl (fun _ => ?_) (fun hh => by rw [h2] at hh; cases hh)
          refine WP.path tab_ok mixed [] [.keep [4, 3, 2, 1], .keepO []] (ps := []) (e := .normal) (σ' := ⟨[], [(4, vi v4), (3, vb false), (2, vi 0), (1, V.t (T.ptr [tl x0, ti x1]))], []⟩) (by kernel_rfl) trivial ?_
          refine WP.block ?_
          obtain ⟨c3, h⟩ := chk_some h
          refine WP.path tab_ok mixed [(15, An.v (T.int .i64 (v4 + (1 : Int))))] [.keep [4, 3, 2, 1], .keepO [], .names []] (ps := [(True), (T.int .i64 (IntKind.wrap .i64 (v4 + (1 : Int))) = T.int .i64 (v4 + (1 : Int)))]) (e := .normal) (σ' := ⟨[], [(4, vi (v4 + (1 : Int))), (3, vb false), (2, vi 0), (1, V.t (T.ptr [tl x0, ti x1]))], []⟩) (by kernel_rfl) ⟨trivial, wrapI c3, trivial⟩ ?_
          exact ⟨(n, (v4 + (1 : Int))), h, Nat.lt_succ_self _, rfl⟩
        · -- no
          refine WP.cond (b := decide (r10 > ((1 : Int) * 2 ^ Int.toNat v4))) rfl (fun hh => by rw [h2] at hh; cases hh) (fun _ => ?_)
          refine WP.path tab_ok mixed [] [.keep [4, 3, 2], .keepO [], .names []] (ps := []) (e := (.exit 0)) (σ' := ⟨[], [(4, vi v4), (3, vb false), (2, vi 0)], []⟩) (by kernel_rfl) trivial ?_
          exact ⟨(v4), h, rfl⟩
    · -- from there
      intro v4 h0
      have h := (show J1 v4 = some (y0, y1) from h0)
      rw [hJ1] at h
      simp only [Option.some.injEq, Prod.mk.injEq] at h
      obtain ⟨rfl, rfl⟩ := h
      exact WP.pathW tab_ok mixed [] _ (ps := []) (r := T.tup [ti v4, tb true]) (by kernel_rfl) trivial (WkT.eq (y := T.tup [ti v4, tb true]) (WkT.refl _) rfl) (fun _ h => h)
theorem F_spec_DrawWaysOf_W (x0 : List Int) (y0 : Int) (y1 : Int) (h : F_spec_DrawWaysOf x0 = some (y0, y1)) : C Try.prog 57 [ty x0] (T.tup [ti y0, ti y1]) := by
  unfold F_spec_DrawWaysOf at h
  refine C.intro (tab := tab) tab_ok (fn := Try.f57) Try.func57 (by kernel_rfl) rfl (Nat.le_of_ble_eq_true rfl) ?_
  obtain ⟨r10, r10b, r10c, r10d, c0, h⟩ := bnd4_some h
  obtain ⟨c1, h⟩ := chk_some h
  obtain ⟨r18, r18b, r18c, r18d, c2, h⟩ := bnd4_some h
  obtain ⟨r23, r23b, r23c, r23d, c3, h⟩ := bnd4_some h
  obtain ⟨c4, h⟩ := chk_some h
  obtain ⟨c5, h⟩ := chk_some h
  obtain ⟨c6, h⟩ := chk_some h
  obtain ⟨r27, r27b, r27c, r27d, c7, h⟩ := bnd4_some h
  simp only [Option.some.injEq, Prod.mk.injEq] at h
  obtain ⟨rfl, rfl⟩ := h
  exact WP.pathW tab_ok mixed [(8, An.id 2008), (10, An.callG [(500, 2008)] [V.ref 500 0] [(500, oc 151 [ty x0, ti 0, T.int .u64 0])] (vi r10) [(500, oc 151 [ty r10b, ti r10c, T.int .u64 r10d])]), (16, An.v (T.int .i64 (r10 + (1 : Int)))), (17, An.call (ti (maxN (1 : Int) (r10 + (1 : Int))))), (18, An.callG [(500, 2008)] [V.ref 500 0, vi (maxN (1 : Int) (r10 + (1 : Int)))] [(500, oc 151 [ty r10b, ti r10c, T.int .u64 r10d])] (vi r18) [(500, oc 151 [ty r18b, ti r18c, T.int .u64 r18d])]), (20, An.v (T.int .i64 (r10 + (1 : Int)))), (21, An.fz), (23, An.callG [(500, 2008)] [V.ref 500 0, vi 24] [(500, oc 151 [ty r18b, ti r18c, T.int .u64 r18d])] (vi r23) [(500, oc 151 [ty r23b, ti r23c, T.int .u64 r23d])]), (24, An.v (T.int .i64 (Int.tdiv r23 (11 : Int)))), (25, An.v (T.int .i64 ((5 : Int) + (Int.tdiv r23 (11 : Int))))), (27, An.callG [(500, 2008)] [V.ref 500 0, vl (List.take ((Int.toNat ((5 : Int) + (Int.tdiv r23 (11 : Int)))) - 0) [(1 : Int), (2 : Int), (0 : Int), r10, r18, (r10 + (1 : Int)), (-1 : Int)])] [(500, oc 151 [ty r23b, ti r23c, T.int .u64 r23d])] (vi r27) [(500, oc 151 [ty r27b, ti r27c, T.int .u64 r27d])])] _ (ps := [((1 = 1 ∧ 0 + 1 ≤ 3) ∧ True), (CG Try.prog 184 [V.ref 500 0] [(500, oc 151 [ty x0, ti 0, T.int .u64 0])] (vi r10) [(500, oc 151 [ty r10b, ti r10c, T.int .u64 r10d])]), ((V.ref 500 0).ren (renF [(500, 2008)]) = V.ref 2008 0), ((oc 151 [ty x0, ti 0, T.int .u64 0]) = (oc 151 [ty x0, ti 0, T.int .u64 0]).ren (renF [(500, 2008)])), (True), (T.int .i64 (IntKind.wrap .i64 (r10 + (1 : Int))) = T.int .i64 (r10 + (1 : Int))), (C Try.prog 155 [ti 1, ti (r10 + (1 : Int))] (ti (maxN (1 : Int) (r10 + (1 : Int))))), (CG Try.prog 154 [V.ref 500 0, vi (maxN (1 : Int) (r10 + (1 : Int)))] [(500, oc 151 [ty r10b, ti r10c, T.int .u64 r10d])] (vi r18) [(500, oc 151 [ty r18b, ti r18c, T.int .u64 r18d])]), ((V.ref 500 0).ren (renF [(500, 2008)]) = V.ref 2008 0), (WkT (ti (maxN (1 : Int) (r10 + (1 : Int)))) (ti (maxN (1 : Int) (r10 + (1 : Int))))), ((oc 151 [ty r10b, ti r10c, T.int .u64 r10d]) = (oc 151 [ty r10b, ti r10c, T.int .u64 r10d]).ren (renF [(500, 2008)])), (True), (T.int .i64 (IntKind.wrap .i64 (r10 + (1 : Int))) = T.int .i64 (r10 + (1 : Int))), ((1 = 1 ∧ 0 + 1 ≤ 7) ∧ (1 = 1 ∧ 1 + 1 ≤ 7) ∧ (1 = 1 ∧ 2 + 1 ≤ 7) ∧ (1 = 1 ∧ 3 + 1 ≤ 7) ∧ (1 = 1 ∧ 4 + 1 ≤ 7) ∧ (1 = 1 ∧ 5 + 1 ≤ 7) ∧ (1 = 1 ∧ 6 + 1 ≤ 7) ∧ True), (7 = 7 * 1), (CG Try.prog 154 [V.ref 500 0, vi 24] [(500, oc 151 [ty r18b, ti r18c, T.int .u64 r18d])] (vi r23) [(500, oc 151 [ty r23b, ti r23c, T.int .u64 r23d])]), ((V.ref 500 0).ren (renF [(500, 2008)]) = V.ref 2008 0), (WkT (ti 24) (ti 24)), ((oc 151 [ty r18b, ti r18c, T.int .u64 r18d]) = (oc 151 [ty r18b, ti r18c, T.int .u64 r18d]).ren (renF [(500, 2008)])), ((11 : Int) ≠ 0), (T.int .i64 (IntKind.wrap .i64 (Int.tdiv r23 (11 : Int))) = T.int .i64 (Int.tdiv r23 (11 : Int))), (True), (T.int .i64 (IntKind.wrap .i64 ((5 : Int) + (Int.tdiv r23 (11 : Int)))) = T.int .i64 ((5 : Int) + (Int.tdiv r23 (11 : Int)))), ((0 ≤ (0 : Int) ∧ (0 : Int) ≤ ((5 : Int) + (Int.tdiv r23 (11 : Int))) ∧ ((5 : Int) + (Int.tdiv r23 (11 : Int))) ≤ (7 : Int))), (CG Try.prog 172 [V.ref 500 0, vl (List.take ((Int.toNat ((5 : Int) + (Int.tdiv r23 (11 : Int)))) - 0) [(1 : Int), (2 : Int), (0 : Int), r10, r18, (r10 + (1 : Int)), (-1 : Int)])] [(500, oc 151 [ty r23b, ti r23c, T.int .u64 r23d])] (vi r27) [(500, oc 151 [ty r27b, ti r27c, T.int .u64 r27d])]), ((V.ref 500 0).ren (renF [(500, 2008)]) = V.ref 2008 0), (WkT (T.list ((Int.toNat ((5 : Int) + (Int.tdiv r23 (11 : Int)))) - 0) 1 (List.take (((Int.toNat ((5 : Int) + (Int.tdiv r23 (11 : Int)))) - 0) * 1) [ti 1, ti 2, ti 0, ti r10, ti r18, ti (r10 + (1 : Int)), ti (-1)])) (tl (List.take ((Int.toNat ((5 : Int) + (Int.tdiv r23 (11 : Int)))) - 0) [(1 : Int), (2 : Int), (0 : Int), r10, r18, (r10 + (1 : Int)), (-1 : Int)]))), ((oc 151 [ty r23b, ti r23c, T.int .u64 r23d]) = (oc 151 [ty r23b, ti r23c, T.int .u64 r23d]).ren (renF [(500, 2008)]))]) (r := T.tup [ti r10, ti r27]) (by kernel_rfl) ⟨⟨⟨by first | rfl | (simp; done) | (simp []; done) | omega, by first | decide | (simp; done) | (simp []; done) | omega | (simp only [tlL]; omega) | (simp; omega)⟩, trivial⟩, (F_p_spec_l1Cur_ahead3_W x0 (0 : Int) (0 : Int) r10 r10b r10c r10d c0), by first | rfl | (simp [V.ren, V.renL, renF, lk]; done) | (simp [V.ren, V.renL, renF, lk]; omega), by first | rfl | (simp only [tlS]; rfl) | (simp [Tl.Obj.ren, V.ren, V.renL, renF, lk]; done), trivial, wrapI c1, (by have hh := (l1Most_C (1 : Int) (r10 + (1 : Int))); simpa using hh), (F_p_spec_l1Cur_pick_W r10b r10c r10d (maxN (1 : Int) (r10 + (1 : Int))) r18 r18b r18c r18d c2), by first | rfl | (simp [V.ren, V.renL, renF, lk]; done) | (simp [V.ren, V.renL, renF, lk]; omega), WkT.refl _, by first | rfl | (simp only [tlS]; rfl) | (simp [Tl.Obj.ren, V.ren, V.renL, renF, lk]; done), trivial, wrapI c1, ⟨⟨by first | rfl | (simp; done) | (simp []; done) | omega, by first | decide | (simp; done) | (simp []; done) | omega | (simp only [tlL]; omega) | (simp; omega)⟩, ⟨by first | rfl | (simp; done) | (simp []; done) | omega, by first | decide | (simp; done) | (simp []; done) | omega | (simp only [tlL]; omega) | (simp; omega)⟩, ⟨by first | rfl | (simp; done) | (simp []; done) | omega, by first | decide | (simp; done) | (simp []; done) | omega | (simp only [tlL]; omega) | (simp; omega)⟩, ⟨by first | rfl | (simp; done) | (simp []; done) | omega, by first | decide | (simp; done) | (simp []; done) | omega | (simp only [tlL]; omega) | (simp; omega)⟩, ⟨by first | rfl | (simp; done) | (simp []; done) | omega, by first | decide | (simp; done) | (simp []; done) | omega | (simp only [tlL]; omega) | (simp; omega)⟩, ⟨by first | rfl | (simp; done) | (simp []; done) | omega, by first | decide | (simp; done) | (simp []; done) | omega | (simp only [tlL]; omega) | (simp; omega)⟩, ⟨by first | rfl | (simp; done) | (simp []; done) | omega, by first | decide | (simp; done) | (simp []; done) | omega | (simp only [tlL]; omega) | (simp; omega)⟩, trivial⟩, by decide, (F_p_spec_l1Cur_pick_W r18b r18c r18d (24 : Int) r23 r23b r23c r23d c3), by first | rfl | (simp [V.ren, V.renL, renF, lk]; done) | (simp [V.ren, V.renL, renF, lk]; omega), WkT.refl _, by first | rfl | (simp only [tlS]; rfl) | (simp [Tl.Obj.ren, V.ren, V.renL, renF, lk]; done), (show (11 : Int) ≠ 0 by first | decide | (simp only [maxLen]; omega) | (unfold I64; omega) | (unfold I64; decide)), quo_told c4, trivial, wrapI c5, c6, (F_p_spec_l1Cur_among_W r23b r23c r23d (List.take ((Int.toNat ((5 : Int) + (Int.tdiv r23 (11 : Int)))) - 0) [(1 : Int), (2 : Int), (0 : Int), r10, r18, (r10 + (1 : Int)), (-1 : Int)]) r27 r27b r27c r27d c7), by first | rfl | (simp [V.ren, V.renL, renF, lk]; done) | (simp [V.ren, V.renL, renF, lk]; omega), WkT.eq (WkT.refl _) (by first | rfl | (simp only [tlS, tl, vl, vo, oc, ov, tbl, vbl, ty, vy]; done) | (simp only [tlS, tl, vl, vo, oc, ov, tbl, vbl, ty, vy]; rfl) | (simp; done) | (simp []; done) | (rw [List.take_of_length_le (by simp [])]; done) | (rw [List.take_of_length_le (by simp [])]; rfl) | (simp only [tlL]; omega) | (simp; omega)), by first | rfl | (simp only [tlS]; rfl) | (simp [Tl.Obj.ren, V.ren, V.renL, renF, lk]; done), trivial⟩ (WkT.eq (y := T.tup [ti r10, ti r27]) (WkT.refl _) rfl) (fun _ h => h)
theorem F_impl_WaysOf_W (x0 : Int) (x1 : Int) (y0 : Int) (y1 : Bool) (h : F_impl_WaysOf x0 x1 = some (y0, y1)) : C Try.prog 58 [ti x0, ti x1] (T.tup [ti y0, tb y1]) := by
  unfold F_impl_WaysOf at h
  refine C.intro (tab := tab) tab_ok (fn := Try.f58) Try.func58 (by kernel_rfl) rfl (Nat.le_of_ble_eq_true rfl) ?_
  refine WP.seq ?_
  refine WP.path tab_ok mixed [] [.keep [5, 4, 0, 1], .keepO []] (ps := []) (e := .normal) (σ' := ⟨[], [(5, vb false), (4, vi 0), (0, vi x0), (1, vi x1)], []⟩) (by kernel_rfl) trivial ?_
  refine WP.seq ?_
  obtain ⟨J1, hJ1, h⟩ := jn_some h
  refine WP.joinA (fun (zz : Bool) => ⟨[], [(14, vb zz), (5, vb false), (4, vi 0), (0, vi x0), (1, vi x1)], []⟩) (fun zz => J1 zz = some (y0, y1)) ?_ ?_
  · -- to where they meet
    obtain ⟨r7, c0, h⟩ := bnd1_some h
    rcases ite_some h with ⟨h1, h⟩ | ⟨h1, h⟩
    · -- yes
      refine WP.path tab_ok mixed [(7, An.call (tb r7)), (9, An.b true)] [.keep [14, 5, 4, 0, 1], .keepO [], .names []] (ps := [(C Try.prog 185 [ti x0] (tb r7)), ((!r7) = true)]) (e := .normal) (σ' := ⟨[], [(14, vb true), (5, vb false), (4, vi 0), (0, vi x0), (1, vi x1)], []⟩) (by kernel_rfl) ⟨(F_impl_isAhead_W x0 r7 c0), h1, trivial⟩ ?_
      exact ⟨(true), h, rfl⟩
    · -- no
      refine WP.path tab_ok mixed [(7, An.call (tb r7)), (9, An.b false), (12, An.call (tb (decide ((0 : Int) ≤ x1) && decide (x1 ≤ x0))))] [.keep [14, 5, 4, 0, 1], .keepO [], .names []] (ps := [(C Try.prog 185 [ti x0] (tb r7)), ((!r7) = false), (C Try.prog 174 [ti x1, ti 0, ti x0] (tb (decide ((0 : Int) ≤ x1) && decide (x1 ≤ x0))))]) (e := .normal) (σ' := ⟨[], [(14, vb (!(decide ((0 : Int) ≤ x1) && decide (x1 ≤ x0)))), (5, vb false), (4, vi 0), (0, vi x0), (1, vi x1)], []⟩) (by kernel_rfl) ⟨(F_impl_isAhead_W x0 r7 c0), h1, (by have hh := (in_C x1 (0 : Int) x0); simpa using hh), trivial⟩ ?_
      exact ⟨(!(decide ((0 : Int) ≤ x1) && decide (x1 ≤ x0))), h, rfl⟩
  · -- from there
    intro v14 h0
    have h := (show J1 v14 = some (y0, y1) from h0)
    rw [hJ1] at h
    rcases ite_some h with ⟨h2, h⟩ | ⟨h2, h⟩
    · -- yes
      refine WP.cond (b := v14) rfl (fun _ => ?_) (fun hh => by rw [h2] at hh; cases hh)
      simp only [Option.some.injEq, Prod.mk.injEq] at h
      obtain ⟨rfl, rfl⟩ := h
      exact WP.pathW tab_ok mixed [] _ (ps := []) (r := T.tup [ti 0, tb false]) (by kernel_rfl) trivial (WkT.eq (y := T.tup [ti 0, tb false]) (WkT.refl _) (by first | rfl | (simp only [tlS, tl, vl, vo, oc, ov, tbl, vbl, ty, vy]; done) | (simp only [tlS, tl, vl, vo, oc, ov, tbl, vbl, ty, vy]; rfl) | (simp; done) | (simp []; done) | (rw [List.take_of_length_le (by simp [])]; done) | (rw [List.take_of_length_le (by simp [])]; rfl) | (simp only [tlL]; omega) | (simp; omega))) (fun _ h => h)
    · -- no
      refine WP.cond (b := v14) rfl (fun hh => by rw [h2] at hh; cases hh) (fun _ => ?_)
      refine WP.path tab_ok mixed [] [.keep [5, 4, 0, 1], .keepO []] (ps := []) (e := .normal) (σ' := ⟨[], [(5, vb false), (4, vi 0), (0, vi x0), (1, vi x1)], []⟩) (by kernel_rfl) trivial ?_
      obtain ⟨r17, c0, h⟩ := bnd1_some h
      simp only [Option.some.injEq, Prod.mk.injEq] at h
      obtain ⟨rfl, rfl⟩ := h
      exact WP.pathW tab_ok mixed [(17, An.call (ti r17))] _ (ps := [(C Try.prog 192 [ti x0, ti x1] (ti r17))]) (r := T.tup [ti r17, tb true]) (by kernel_rfl) ⟨(F_impl_ways_W x0 x1 r17 c0), trivial⟩ (WkT.eq (y := T.tup [ti r17, tb true]) (WkT.refl _) rfl) (fun _ h => h)
theorem F_spec_WaysOf_W (x0 : Int) (x1 : Int) (y0 : Int) (y1 : Bool) (h : F_spec_WaysOf x0 x1 = some (y0, y1)) : C Try.prog 59 [ti x0, ti x1] (T.tup [ti y0, tb y1]) := by
  unfold F_spec_WaysOf at h
  refine C.intro (tab := tab) tab_ok (fn := Try.f59) Try.func59 (by kernel_rfl) rfl (Nat.le_of_ble_eq_true rfl) ?_
  refine WP.seq ?_
  refine WP.path tab_ok mixed [] [.keep [5, 4, 0, 1], .keepO []] (ps := []) (e := .normal) (σ' := ⟨[], [(5, vb false), (4, vi 0), (0, vi x0), (1, vi x1)], []⟩) (by kernel_rfl) trivial ?_
  refine WP.seq ?_
  obtain ⟨J1, hJ1, h⟩ := jn_some h
  refine WP.joinA (fun (zz : Bool) => ⟨[], [(14, vb zz), (5, vb false), (4, vi 0), (0, vi x0), (1, vi x1)], []⟩) (fun zz => J1 zz = some (y0, y1)) ?_ ?_
  · -- to where they meet
    obtain ⟨r7, c0, h⟩ := bnd1_some h
    rcases ite_some h with ⟨h1, h⟩ | ⟨h1, h⟩
    · -- yes
      refine WP.path tab_ok mixed [(7, An.call (tb r7)), (9, An.b true)] [.keep [14, 5, 4, 0, 1], .keepO [], .names []] (ps := [(C Try.prog 188 [ti x0] (tb r7)), ((!r7) = true)]) (e := .normal) (σ' := ⟨[], [(14, vb true), (5, vb false), (4, vi 0), (0, vi x0), (1, vi x1)], []⟩) (by kernel_rfl) ⟨(F_spec_l3Ahead_W x0 r7 c0), h1, trivial⟩ ?_
      exact ⟨(true), h, rfl⟩
    · -- no
      refine WP.path tab_ok mixed [(7, An.call (tb r7)), (9, An.b false), (12, An.call (tb (decide (x1 ≥ (0 : Int)) && decide (x1 ≤ x0))))] [.keep [14, 5, 4, 0, 1], .keepO [], .names []] (ps := [(C Try.prog 188 [ti x0] (tb r7)), ((!r7) = false), (C Try.prog 135 [ti x1, ti 0, ti x0] (tb (decide (x1 ≥ (0 : Int)) && decide (x1 ≤ x0))))]) (e := .normal) (σ' := ⟨[], [(14, vb (!(decide (x1 ≥ (0 : Int)) && decide (x1 ≤ x0)))), (5, vb false), (4, vi 0), (0, vi x0), (1, vi x1)], []⟩) (by kernel_rfl) ⟨(F_spec_l3Ahead_W x0 r7 c0), h1, (by have hh := (l1In_C x1 (0 : Int) x0); simpa using hh), trivial⟩ ?_
      exact ⟨(!(decide (x1 ≥ (0 : Int)) && decide (x1 ≤ x0))), h, rfl⟩
  · -- from there
    intro v14 h0
    have h := (show J1 v14 = some (y0, y1) from h0)
    rw [hJ1] at h
    rcases ite_some h with ⟨h2, h⟩ | ⟨h2, h⟩
    · -- yes
      refine WP.cond (b := v14) rfl (fun _ => ?_) (fun hh => by rw [h2] at hh; cases hh)
      simp only [Option.some.injEq, Prod.mk.injEq] at h
      obtain ⟨rfl, rfl⟩ := h
      exact WP.pathW tab_ok mixed [] _ (ps := []) (r := T.tup [ti 0, tb false]) (by kernel_rfl) trivial (WkT.eq (y := T.tup [ti 0, tb false]) (WkT.refl _) (by first | rfl | (simp only [tlS, tl, vl, vo, oc, ov, tbl, vbl, ty, vy]; done) | (simp only [tlS, tl, vl, vo, oc, ov, tbl, vbl, ty, vy]; rfl) | (simp; done) | (simp []; done) | (rw [List.take_of_length_le (by simp [])]; done) | (rw [List.take_of_length_le (by simp [])]; rfl) | (simp only [tlL]; omega) | (simp; omega))) (fun _ h => h)
    · -- no
      refine WP.cond (b := v14) rfl (fun hh => by rw [h2] at hh; cases hh) (fun _ => ?_)
      refine WP.path tab_ok mixed [] [.keep [5, 4, 0, 1], .keepO []] (ps := []) (e := .normal) (σ' := ⟨[], [(5, vb false), (4, vi 0), (0, vi x0), (1, vi x1)], []⟩) (by kernel_rfl) trivial ?_
      obtain ⟨r17, c0, h⟩ := bnd1_some h
      simp only [Option.some.injEq, Prod.mk.injEq] at h
      obtain ⟨rfl, rfl⟩ := h
      exact WP.pathW tab_ok mixed [(17, An.call (ti r17))] _ (ps := [(C Try.prog 193 [ti x0, ti x1] (ti r17))]) (r := T.tup [ti r17, tb true]) (by kernel_rfl) ⟨(F_spec_l3Ways_W x0 x1 r17 c0), trivial⟩ (WkT.eq (y := T.tup [ti r17, tb true]) (WkT.refl _) rfl) (fun _ h => h)
theorem F_impl_BallOf_W (x0 : Int) (x1 : Int) (y0 : Int) (y1 : Bool) (h : F_impl_BallOf x0 x1 = some (y0, y1)) : C Try.prog 60 [ti x0, ti x1] (T.tup [ti y0, tb y1]) := by
  unfold F_impl_BallOf at h
  refine C.intro (tab := tab) tab_ok (fn := Try.f60) Try.func60 (by kernel_rfl) rfl (Nat.le_of_ble_eq_true rfl) ?_
  refine WP.seq ?_
  refine WP.path tab_ok mixed [] [.keep [5, 4, 0, 1], .keepO []] (ps := []) (e := .normal) (σ' := ⟨[], [(5, vb false), (4, vi 0), (0, vi x0), (1, vi x1)], []⟩) (by kernel_rfl) trivial ?_
  refine WP.seq ?_
  obtain ⟨J1, hJ1, h⟩ := jn_some h
  refine WP.joinA (fun (zz : Bool) => ⟨[], [(14, vb zz), (5, vb false), (4, vi 0), (0, vi x0), (1, vi x1)], []⟩) (fun zz => J1 zz = some (y0, y1)) ?_ ?_
  · -- to where they meet
    obtain ⟨r7, c0, h⟩ := bnd1_some h
    rcases ite_some h with ⟨h1, h⟩ | ⟨h1, h⟩
    · -- yes
      refine WP.path tab_ok mixed [(7, An.call (tb r7)), (9, An.b true)] [.keep [14, 5, 4, 0, 1], .keepO [], .names []] (ps := [(C Try.prog 185 [ti x0] (tb r7)), ((!r7) = true)]) (e := .normal) (σ' := ⟨[], [(14, vb true), (5, vb false), (4, vi 0), (0, vi x0), (1, vi x1)], []⟩) (by kernel_rfl) ⟨(F_impl_isAhead_W x0 r7 c0), h1, trivial⟩ ?_
      exact ⟨(true), h, rfl⟩
    · -- no
      refine WP.path tab_ok mixed [(7, An.call (tb r7)), (9, An.b false), (12, An.call (tb (decide ((0 : Int) ≤ x1) && decide (x1 ≤ x0))))] [.keep [14, 5, 4, 0, 1], .keepO [], .names []] (ps := [(C Try.prog 185 [ti x0] (tb r7)), ((!r7) = false), (C Try.prog 174 [ti x1, ti 0, ti x0] (tb (decide ((0 : Int) ≤ x1) && decide (x1 ≤ x0))))]) (e := .normal) (σ' := ⟨[], [(14, vb (!(decide ((0 : Int) ≤ x1) && decide (x1 ≤ x0)))), (5, vb false), (4, vi 0), (0, vi x0), (1, vi x1)], []⟩) (by kernel_rfl) ⟨(F_impl_isAhead_W x0 r7 c0), h1, (by have hh := (in_C x1 (0 : Int) x0); simpa using hh), trivial⟩ ?_
      exact ⟨(!(decide ((0 : Int) ≤ x1) && decide (x1 ≤ x0))), h, rfl⟩
  · -- from there
    intro v14 h0
    have h := (show J1 v14 = some (y0, y1) from h0)
    rw [hJ1] at h
    rcases ite_some h with ⟨h2, h⟩ | ⟨h2, h⟩
    · -- yes
      refine WP.cond (b := v14) rfl (fun _ => ?_) (fun hh => by rw [h2] at hh; cases hh)
      simp only [Option.some.injEq, Prod.mk.injEq] at h
      obtain ⟨rfl, rfl⟩ := h
      exact WP.pathW tab_ok mixed [] _ (ps := []) (r := T.tup [ti 0, tb false]) (by kernel_rfl) trivial (WkT.eq (y := T.tup [ti 0, tb false]) (WkT.refl _) (by first | rfl | (simp only [tlS, tl, vl, vo, oc, ov, tbl, vbl, ty, vy]; done) | (simp only [tlS, tl, vl, vo, oc, ov, tbl, vbl, ty, vy]; rfl) | (simp; done) | (simp []; done) | (rw [List.take_of_length_le (by simp [])]; done) | (rw [List.take_of_length_le (by simp [])]; rfl) | (simp only [tlL]; omega) | (simp; omega))) (fun _ h => h)
    · -- no
      refine WP.cond (b := v14) rfl (fun hh => by rw [h2] at hh; cases hh) (fun _ => ?_)
      refine WP.path tab_ok mixed [] [.keep [5, 4, 0, 1], .keepO []] (ps := []) (e := .normal) (σ' := ⟨[], [(5, vb false), (4, vi 0), (0, vi x0), (1, vi x1)], []⟩) (by kernel_rfl) trivial ?_
      obtain ⟨r17, c0, h⟩ := bnd1_some h
      simp only [Option.some.injEq, Prod.mk.injEq] at h
      obtain ⟨rfl, rfl⟩ := h
      exact WP.pathW tab_ok mixed [(17, An.call (ti r17))] _ (ps := [(C Try.prog 194 [ti x0, ti x1] (ti r17))]) (r := T.tup [ti r17, tb true]) (by kernel_rfl) ⟨(F_impl_ball_W x0 x1 r17 c0), trivial⟩ (WkT.eq (y := T.tup [ti r17, tb true]) (WkT.refl _) rfl) (fun _ h => h)
theorem F_spec_BallOf_W (x0 : Int) (x1 : Int) (y0 : Int) (y1 : Bool) (h : F_spec_BallOf x0 x1 = some (y0, y1)) : C Try.prog 61 [ti x0, ti x1] (T.tup [ti y0, tb y1]) := by
  unfold F_spec_BallOf at h
  refine C.intro (tab := tab) tab_ok (fn := Try.f61) Try.func61 (by kernel_rfl) rfl (Nat.le_of_ble_eq_true rfl) ?_
  refine WP.seq ?_
  refine WP.path tab_ok mixed [] [.keep [5, 4, 0, 1], .keepO []] (ps := []) (e := .normal) (σ' := ⟨[], [(5, vb false), (4, vi 0), (0, vi x0), (1, vi x1)], []⟩) (by kernel_rfl) trivial ?_
  refine WP.seq ?_
  obtain ⟨J1, hJ1, h⟩ := jn_some h
  refine WP.joinA (fun (zz : Bool) => ⟨[], [(14, vb zz), (5, vb false), (4, vi 0), (0, vi x0), (1, vi x1)], []⟩) (fun zz => J1 zz = some (y0, y1)) ?_ ?_
  · -- to where they meet
    obtain ⟨r7, c0, h⟩ := bnd1_some h
    rcases ite_some h with ⟨h1, h⟩ | ⟨h1, h⟩
    · -- yes
      refine WP.path tab_ok mixed [(7, An.call (tb r7)), (9, An.b true)] [.keep [14, 5, 4, 0, 1], .keepO [], .names []] (ps := [(C Try.prog 188 [ti x0] (tb r7)), ((!r7) = true)]) (e := .normal) (σ' := ⟨[], [(14, vb true), (5, vb false), (4, vi 0), (0, vi x0), (1, vi x1)], []⟩) (by kernel_rfl) ⟨(F_spec_l3Ahead_W x0 r7 c0), h1, trivial⟩ ?_
      exact ⟨(true), h, rfl⟩
    · -- no
      refine WP.path tab_ok mixed [(7, An.call (tb r7)), (9, An.b false), (12, An.call (tb (decide (x1 ≥ (0 : Int)) && decide (x1 ≤ x0))))] [.keep [14, 5, 4, 0, 1], .keepO [], .names []] (ps := [(C Try.prog 188 [ti x0] (tb r7)), ((!r7) = false), (C Try.prog 135 [ti x1, ti 0, ti x0] (tb (decide (x1 ≥ (0 : Int)) && decide (x1 ≤ x0))))]) (e := .normal) (σ' := ⟨[], [(14, vb (!(decide (x1 ≥ (0 : Int)) && decide (x1 ≤ x0)))), (5, vb false), (4, vi 0), (0, vi x0), (1, vi x1)], []⟩) (by kernel_rfl) ⟨(F_spec_l3Ahead_W x0 r7 c0), h1, (by have hh := (l1In_C x1 (0 : Int) x0); simpa using hh), trivial⟩ ?_
      exact ⟨(!(decide (x1 ≥ (0 : Int)) && decide (x1 ≤ x0))), h, rfl⟩
  · -- from there
    intro v14 h0
    have h := (show J1 v14 = some (y0, y1) from h0)
    rw [hJ1] at h
    rcases ite_some h with ⟨h2, h⟩ | ⟨h2, h⟩
    · -- yes
      refine WP.cond (b := v14) rfl (fun _ => ?_) (fun hh => by rw [h2] at hh; cases hh)
      simp only [Option.some.injEq, Prod.mk.injEq] at h
      obtain ⟨rfl, rfl⟩ := h
      exact WP.pathW tab_ok mixed [] _ (ps := []) (r := T.tup [ti 0, tb false]) (by kernel_rfl) trivial (WkT.eq (y := T.tup [ti 0, tb false]) (WkT.refl _) (by first | rfl | (simp only [tlS, tl, vl, vo, oc, ov, tbl, vbl, ty, vy]; done) | (simp only [tlS, tl, vl, vo, oc, ov, tbl, vbl, ty, vy]; rfl) | (simp; done) | (simp []; done) | (rw [List.take_of_length_le (by simp [])]; done) | (rw [List.take_of_length_le (by simp [])]; rfl) | (simp only [tlL]; omega) | (simp; omega))) (fun _ h => h)
    · -- no
      refine WP.cond (b := v14) rfl (fun hh => by rw [h2] at hh; cases hh) (fun _ => ?_)
      refine WP.path tab_ok mixed [] [.keep [5, 4, 0, 1], .keepO []] (ps := []) (e := .normal) (σ' := ⟨[], [(5, vb false), (4, vi 0), (0, vi x0), (1, vi x1)], []⟩) (by kernel_rfl) trivial ?_
      obtain ⟨r17, c0, h⟩ := bnd1_some h
      simp only [Option.some.injEq, Prod.mk.injEq] at h
      obtain ⟨rfl, rfl⟩ := h
      exact WP.pathW tab_ok mixed [(17, An.call (ti r17))] _ (ps := [(C Try.prog 195 [ti x0, ti x1] (ti r17))]) (r := T.tup [ti r17, tb true]) (by kernel_rfl) ⟨(F_spec_l3Ball_W x0 x1 r17 c0), trivial⟩ (WkT.eq (y := T.tup [ti r17, tb true]) (WkT.refl _) rfl) (fun _ h => h)
theorem F_spec_DrawWeightTable_W (x0 : List Int) (y0 : Int) (y1 : Int) (h : F_spec_DrawWeightTable x0 = some (y0, y1)) : C Try.prog 62 [ty x0] (T.tup [ti y0, ti y1]) := by
  unfold F_spec_DrawWeightTable at h
  refine C.intro (tab := tab) tab_ok (fn := Try.f62) Try.func62 (by kernel_rfl) rfl (Nat.le_of_ble_eq_true rfl) ?_
  obtain ⟨r9, r9b, r9c, r9d, c0, h⟩ := bnd4_some h
  obtain ⟨r11, r11b, r11c, r11d, c1, h⟩ := bnd4_some h
  simp only [Option.some.injEq, Prod.mk.injEq] at h
  obtain ⟨rfl, rfl⟩ := h
  exact WP.pathW tab_ok mixed [(7, An.id 2007), (9, An.callG [(500, 2007)] [V.ref 500 0] [(500, oc 151 [ty x0, ti 0, T.int .u64 0])] (vi r9) [(500, oc 151 [ty r9b, ti r9c, T.int .u64 r9d])]), (11, An.callG [(500, 2007)] [V.ref 500 0] [(500, oc 151 [ty r9b, ti r9c, T.int .u64 r9d])] (vi r11) [(500, oc 151 [ty r11b, ti r11c, T.int .u64 r11d])])] _ (ps := [((1 = 1 ∧ 0 + 1 ≤ 3) ∧ True), (CG Try.prog 149 [V.ref 500 0] [(500, oc 151 [ty x0, ti 0, T.int .u64 0])] (vi r9) [(500, oc 151 [ty r9b, ti r9c, T.int .u64 r9d])]), ((V.ref 500 0).ren (renF [(500, 2007)]) = V.ref 2007 0), ((oc 151 [ty x0, ti 0, T.int .u64 0]) = (oc 151 [ty x0, ti 0, T.int .u64 0]).ren (renF [(500, 2007)])), (CG Try.prog 184 [V.ref 500 0] [(500, oc 151 [ty r9b, ti r9c, T.int .u64 r9d])] (vi r11) [(500, oc 151 [ty r11b, ti r11c, T.int .u64 r11d])]), ((V.ref 500 0).ren (renF [(500, 2007)]) = V.ref 2007 0), ((oc 151 [ty r9b, ti r9c, T.int .u64 r9d]) = (oc 151 [ty r9b, ti r9c, T.int .u64 r9d]).ren (renF [(500, 2007)]))]) (r := T.tup [ti r9, ti r11]) (by kernel_rfl) ⟨⟨⟨by first | rfl | (simp; done) | (simp []; done) | omega, by first | decide | (simp; done) | (simp []; done) | omega | (simp only [tlL]; omega) | (simp; omega)⟩, trivial⟩, (F_p_spec_l1Cur_lies_W x0 (0 : Int) (0 : Int) r9 r9b r9c r9d c0), by first | rfl | (simp [V.ren, V.renL, renF, lk]; done) | (simp [V.ren, V.renL, renF, lk]; omega), by first | rfl | (simp only [tlS]; rfl) | (simp [Tl.Obj.ren, V.ren, V.renL, renF, lk]; done), (F_p_spec_l1Cur_ahead3_W r9b r9c r9d r11 r11b r11c r11d c1), by first | rfl | (simp [V.ren, V.renL, renF, lk]; done) | (simp [V.ren, V.renL, renF, lk]; omega), by first | rfl | (simp only [tlS]; rfl) | (simp [Tl.Obj.ren, V.ren, V.renL, renF, lk]; done), trivial⟩ (WkT.eq (y := T.tup [ti r9, ti r11]) (WkT.refl _) rfl) (fun _ h => h)
theorem F_impl_WeightTable_W (x0 : Int) (x1 : Int) (y0 : List Int) (y1 : Bool) (h : F_impl_WeightTable x0 x1 = some (y0, y1)) : CG Try.prog 63 [vi x0, vi x1] [] (V.tup [vo 9000 (List.length y0), vb y1]) [(9000, oc 3 (List.map (T.int .i64) y0))] := by
  unfold F_impl_WeightTable at h
  refine CG.intro (tab := tab) tab_ok (fn := Try.f63) Try.func63 (by kernel_rfl) rfl (Nat.le_of_ble_eq_true rfl) (by kernel_rfl) ?_
  refine WP.seq ?_
  refine WP.path tab_ok mixed [] [.keep [5, 4, 0, 1], .keepO []] (ps := []) (e := .normal) (σ' := ⟨[], [(5, vb false), (4, V.t (T.nils)), (0, vi x0), (1, vi x1)], []⟩) (by kernel_rfl) trivial ?_
  refine WP.seq ?_
  obtain ⟨J1, hJ1, h⟩ := jn_some h
  refine WP.joinA (fun (zz : Bool) => ⟨[], [(15, vb zz), (5, vb false), (4, V.t (T.nils)), (0, vi x0), (1, vi x1)], []⟩) (fun zz => J1 zz = some (y0, y1)) ?_ ?_
  · -- to where they meet
    obtain ⟨r9, c0, h⟩ := bnd1_some h
    rcases ite_some h with ⟨h1, h⟩ | ⟨h1, h⟩
    · -- yes
      refine WP.path tab_ok mixed [(9, An.call (tb r9)), (11, An.b true)] [.keep [15, 5, 4, 0, 1], .keepO [], .names []] (ps := [(C Try.prog 185 [ti x1] (tb r9)), ((!r9) = true)]) (e := .normal) (σ' := ⟨[], [(15, vb true), (5, vb false), (4, V.t (T.nils)), (0, vi x0), (1, vi x1)], []⟩) (by kernel_rfl) ⟨(F_impl_isAhead_W x1 r9 c0), h1, trivial⟩ ?_
      exact ⟨(true), h, rfl⟩
    · -- no
      refine WP.path tab_ok mixed [(9, An.call (tb r9)), (11, An.b false), (13, An.call (tb (decide (0 ≤ x0) && decide (x0 ≤ 2))))] [.keep [15, 5, 4, 0, 1], .keepO [], .names []] (ps := [(C Try.prog 185 [ti x1] (tb r9)), ((!r9) = false), (C Try.prog 140 [ti x0] (tb (decide (0 ≤ x0) && decide (x0 ≤ 2))))]) (e := .normal) (σ' := ⟨[], [(15, vb (!(decide (0 ≤ x0) && decide (x0 ≤ 2)))), (5, vb false), (4, V.t (T.nils)), (0, vi x0), (1, vi x1)], []⟩) (by kernel_rfl) ⟨(F_impl_isAhead_W x1 r9 c0), h1, (isMost_C x0), trivial⟩ ?_
      exact ⟨(!(decide (0 ≤ x0) && decide (x0 ≤ 2))), h, rfl⟩
  · -- from there
    intro v15 h0
    have h := (show J1 v15 = some (y0, y1) from h0)
    rw [hJ1] at h
    rcases ite_some h with ⟨h2, h⟩ | ⟨h2, h⟩
    · -- yes
      refine WP.cond (b := v15) rfl (fun _ => ?_) (fun hh => by rw [h2] at hh; cases hh)
      simp only [Option.some.injEq, Prod.mk.injEq] at h
      obtain ⟨rfl, rfl⟩ := h
      exact WP.pathG tab_ok mixed [] [.keep [4, 5], .keepO [], .names []] [] _ (r' := V.tup [vo 9000 (List.length ([] : List Int)), vb false]) (ps := []) (r := V.t (T.tup [T.nils, tb false])) (N := []) (O := []) [(9000, 3)] (by kernel_rfl) trivial ⟨(by first | rfl | (simp; done)), (WkT.refl _), trivial⟩ rfl rfl (fun _ h => h)
    · -- no
      refine WP.cond (b := v15) rfl (fun hh => by rw [h2] at hh; cases hh) (fun _ => ?_)
      refine WP.path tab_ok mixed [] [.keep [5, 4, 0, 1], .keepO []] (ps := []) (e := .normal) (σ' := ⟨[], [(5, vb false), (4, V.t (T.nils)), (0, vi x0), (1, vi x1)], []⟩) (by kernel_rfl) trivial ?_
      refine WP.seq ?_
      refine WP.path tab_ok mixed [(16, An.id 2016)] [.keep [6, 5, 4, 0, 1], .keepO [2016]] (ps := [(True), (0 = 0 * 1)]) (e := .normal) (σ' := ⟨[2016], [(6, vo 2016 0), (5, vb false), (4, V.t (T.nils)), (0, vi x0), (1, vi x1)], [(2016, oc 3 [])]⟩) (by kernel_rfl) ⟨trivial, by decide, trivial⟩ ?_
      obtain ⟨J1, hJ1, h⟩ := jn_some h
      refine WP.joinA (fun (zz : (List Int)) => ⟨[2016], [(6, vo 2016 (List.length zz)), (5, vb false), (4, V.t (T.nils))], [(2016, oc 3 (List.map (T.int .i64) zz))]⟩) (fun zz => J1 zz = some (y0, y1)) ?_ ?_
      · -- to where they meet
        refine WP.seq ?_
        obtain ⟨c0, h⟩ := chk_some h
        refine WP.path tab_ok mixed [(18, An.v (T.int .i64 (x0 + (1 : Int))))] [.keep [19, 18, 6, 5, 4, 0, 1], .keepO [2016]] (ps := [(True), (T.int .i64 (IntKind.wrap .i64 (x0 + (1 : Int))) = T.int .i64 (x0 + (1 : Int)))]) (e := .normal) (σ' := ⟨[2016], [(19, vi 0), (18, vi (x0 + (1 : Int))), (6, vo 2016 0), (5, vb false), (4, V.t (T.nils)), (0, vi x0), (1, vi x1)], [(2016, oc 3 [])]⟩) (by kernel_rfl) ⟨trivial, wrapI c0, trivial⟩ ?_
        refine WP.block ?_
        refine WP.wk [.keep [19, 18, 6, 5, 4, 0, 1], .keepO [2016], .names [(2016, 2016)]] (σ' := ⟨[2016], [(19, vi 0), (18, vi (x0 + (1 : Int))), (6, vo 2016 0), (5, vb false), (4, V.t (T.nils)), (0, vi x0), (1, vi x1)], [(2016, oc 3 [])]⟩) (ps := []) (by kernel_rfl) trivial ?_
        refine WP.st (σ' := ⟨[2016], [(19, vi (0 : Int)), (18, vi (x0 + (1 : Int))), (6, vo 2016 (List.length ([] : List Int))), (5, vb false), (4, V.t (T.nils)), (0, vi x0), (1, vi x1)], [(2016, oc 3 (List.map (T.int .i64) ([] : List Int)))]⟩) (by first | rfl | (simp only [tlS, tl, vl, vo, oc, ov, tbl, vbl, ty, vy]; done) | (simp only [tlS, tl, vl, vo, oc, ov, tbl, vbl, ty, vy]; rfl) | (simp; done) | (simp []; done) | (rw [List.take_of_length_le (by simp [])]; done) | (rw [List.take_of_length_le (by simp [])]; rfl) | (simp only [tlL]; omega) | (simp; omega)) ?_
        refine WP.loop (α := Nat × (List Int) × Int) (fun zz => ⟨[2016], [(19, vi zz.2.2), (18, vi (x0 + (1 : Int))), (6, vo 2016 (List.length zz.2.1)), (5, vb false), (4, V.t (T.nils)), (0, vi x0), (1, vi x1)], [(2016, oc 3 (List.map (T.int .i64) zz.2.1))]⟩) (fun zz => F_impl_WeightTable_L1 x0 x1 J1 zz.1 zz.2.1 zz.2.2 = some (y0, y1)) (fun zz => zz.1) (fuel, ([] : List Int), (0 : Int)) h ?_
        rintro ⟨n, o16, v19⟩ h0
        have h := (show F_impl_WeightTable_L1 x0 x1 J1 n o16 v19 = some (y0, y1) from h0)
        rcases n with _ | n
        · rw [F_impl_WeightTable_L1] at h; cases h
        · rw [F_impl_WeightTable_L1] at h
          refine WP.seq ?_
          refine WP.path tab_ok mixed [] [.keep [20, 19, 18, 6, 5, 4, 0, 1], .keepO [2016]] (ps := [(True)]) (e := .normal) (σ' := ⟨[2016], [(20, vb (decide (v19 < (x0 + (1 : Int))))), (19, vi v19), (18, vi (x0 + (1 : Int))), (6, vo 2016 (List.length o16)), (5, vb false), (4, V.t (T.nils)), (0, vi x0), (1, vi x1)], [(2016, oc 3 (List.map (T.int .i64) o16))]⟩) (by kernel_rfl) ⟨trivial, trivial⟩ ?_
          refine WP.seq ?_
          rcases ite_some h with ⟨h3, h⟩ | ⟨h3, h⟩
          · -- yes
            refine WP.cond (b := decide (v19 < (x0 + (1 : Int)))) rfl (fun _ => ?_) (fun hh => by rw [h3] at hh; cases hh)
            refine WP.path tab_ok mixed [] [.keep [19, 18, 6, 5, 4, 0, 1], .keepO [2016]] (ps := []) (e := .normal) (σ' := ⟨[2016], [(19, vi v19), (18, vi (x0 + (1 : Int))), (6, vo 2016 (List.length o16)), (5, vb false), (4, V.t (T.nils)), (0, vi x0), (1, vi x1)], [(2016, oc 3 (List.map (T.int .i64) o16))]⟩) (by kernel_rfl) trivial ?_
            refine WP.seq ?_
            refine WP.block ?_
            obtain ⟨c1, h⟩ := chk_some h
            obtain ⟨r27, c2, h⟩ := bnd1_some h
            obtain ⟨c3, h⟩ := chk_some h
            refine WP.path tab_ok mixed [(26, An.v (T.int .i64 (x0 - v19))), (27, An.call (ti r27)), (28, An.fz), (29, An.id 2029)] [.keep [6, 19, 18, 5, 4, 0, 1], .keepO [2029]] (ps := [(True), (T.int .i64 (IntKind.wrap .i64 (x0 - v19)) = T.int .i64 (x0 - v19)), (C Try.prog 194 [ti x1, ti (x0 - v19)] (ti r27)), ((1 = 1 ∧ 0 + 1 ≤ 1) ∧ True), (1 = 1 * 1), (True), (List.length (List.map (T.int .i64) o16) = (List.length o16) * 1), ((((List.length o16) + 1) * 8 ≤ 140737488355328 ∧ (List.length o16) + 1 ≤ maxLen))]) (e := .normal) (σ' := ⟨[2029, 2016], [(6, vo 2029 ((List.length o16) + 1)), (19, vi v19), (18, vi (x0 + (1 : Int))), (5, vb false), (4, V.t (T.nils)), (0, vi x0), (1, vi x1)], [(2029, oc 3 ((List.map (T.int .i64) o16) ++ [ti r27]))]⟩) (by kernel_rfl) ⟨trivial, wrapI c1, (F_impl_ball_W x1 (x0 - v19) r27 c2), ⟨⟨by first | rfl | (simp; done) | (simp []; done) | omega, by first | decide | (simp; done) | (simp []; done) | omega | (simp only [tlL]; omega) | (simp; omega)⟩, trivial⟩, by decide, trivial, by first | rfl | (simp; done) | omega | (simp only [tlL]; omega) | (simp; omega) | (simp []; done) | (simp []; omega), c3, trivial⟩ ?_
            obtain ⟨c4, h⟩ := chk_some h
            refine WP.path tab_ok mixed [(30, An.v (T.int .i64 (v19 + (1 : Int))))] [.keep [19, 18, 6, 5, 4, 0, 1], .keepO [2029], .names [(2029, 2016)]] (ps := [(True), (T.int .i64 (IntKind.wrap .i64 (v19 + (1 : Int))) = T.int .i64 (v19 + (1 : Int)))]) (e := .normal) (σ' := ⟨[2016], [(19, vi (v19 + (1 : Int))), (18, vi (x0 + (1 : Int))), (6, vo 2016 ((List.length o16) + 1)), (5, vb false), (4, V.t (T.nils)), (0, vi x0), (1, vi x1)], [(2016, oc 3 ((List.map (T.int .i64) o16) ++ [ti r27]))]⟩) (by kernel_rfl) ⟨trivial, wrapI c4, trivial⟩ ?_
            exact ⟨(n, o16 ++ [r27], (v19 + (1 : Int))), h, Nat.lt_succ_self _, (by first | rfl | (simp only [tlS, tl, vl, vo, oc, ov, tbl, vbl, ty, vy]; done) | (simp only [tlS, tl, vl, vo, oc, ov, tbl, vbl, ty, vy]; rfl) | (simp; done) | (simp []; done) | (rw [List.take_of_length_le (by simp [])]; done) | (rw [List.take_of_length_le (by simp [])]; rfl) | (simp only [tlL]; omega) | (simp; omega))⟩
          · -- no
            refine WP.cond (b := decide (v19 < (x0 + (1 : Int)))) rfl (fun hh => by rw [h3] at hh; cases hh) (fun _ => ?_)
            refine WP.path tab_ok mixed [] [.keep [6, 5, 4], .keepO [2016], .names [(2016, 2016)]] (ps := []) (e := (.exit 0)) (σ' := ⟨[2016], [(6, vo 2016 (List.length o16)), (5, vb false), (4, V.t (T.nils))], [(2016, oc 3 (List.map (T.int .i64) o16))]⟩) (by kernel_rfl) trivial ?_
            exact ⟨(o16), h, rfl⟩
      · -- from there
        intro o16 h0
        have h := (show J1 o16 = some (y0, y1) from h0)
        rw [hJ1] at h
        simp only [Option.some.injEq, Prod.mk.injEq] at h
        obtain ⟨rfl, rfl⟩ := h
        exact WP.pathG tab_ok mixed [] [.keep [4, 5], .keepO [2016], .names [(2016, 9000)]] [9000] _ (r' := V.tup [vo 9000 (List.length o16), vb true]) (ps := []) (r := V.tup [vo 9000 (List.length o16), vb true]) (N := [9000]) (O := [(9000, oc 3 (List.map (T.int .i64) o16))]) [] (by kernel_rfl) trivial ⟨rfl, (WkT.refl _), trivial⟩ rfl rfl (fun _ h => h)
theorem F_impl_WeightTable_W_C (x0 : Int) (x1 : Int) (y0 : List Int) (y1 : Bool) (h : F_impl_WeightTable x0 x1 = some (y0, y1)) : C Try.prog 63 [ti x0, ti x1] (T.tup [tl y0, tb y1]) :=
  CG.toC (ps := [(List.length (List.map (T.int .i64) y0) = (List.length y0) * 1)]) (F_impl_WeightTable_W  x0 x1 y0 y1 h) (by rfl) ⟨by first | rfl | (simp; done) | omega | (simp; omega) | (simp [hl]; done) | (simp [hl]; omega), trivial⟩
theorem F_spec_WeightTable_W (x0 : Int) (x1 : Int) (y0 : List Int) (y1 : Bool) (h : F_spec_WeightTable x0 x1 = some (y0, y1)) : CG Try.prog 64 [vi x0, vi x1] [] (V.tup [vo 9000 (List.length y0), vb y1]) [(9000, oc 3 (List.map (T.int .i64) y0))] := by
  unfold F_spec_WeightTable at h
  refine CG.intro (tab := tab) tab_ok (fn := Try.f64) Try.func64 (by kernel_rfl) rfl (Nat.le_of_ble_eq_true rfl) (by kernel_rfl) ?_
  refine WP.seq ?_
  refine WP.path tab_ok mixed [] [.keep [5, 4, 0, 1], .keepO []] (ps := []) (e := .normal) (σ' := ⟨[], [(5, vb false), (4, V.t (T.nils)), (0, vi x0), (1, vi x1)], []⟩) (by kernel_rfl) trivial ?_
  refine WP.seq ?_
  refine WP.path tab_ok mixed [(8, An.id 2008)] [.keep [6, 5, 4, 0, 1], .keepO [2008]] (ps := [(True), (0 = 0 * 1)]) (e := .normal) (σ' := ⟨[2008], [(6, vo 2008 0), (5, vb false), (4, V.t (T.nils)), (0, vi x0), (1, vi x1)], [(2008, oc 3 [])]⟩) (by kernel_rfl) ⟨trivial, by decide, trivial⟩ ?_
  refine WP.seq ?_
  obtain ⟨J1, hJ1, h⟩ := jn_some h
  refine WP.joinA (fun (zz : Bool) => ⟨[2008], [(16, vb zz), (6, vo 2008 0), (5, vb false), (4, V.t (T.nils)), (0, vi x0), (1, vi x1)], [(2008, oc 3 [])]⟩) (fun zz => J1 zz = some (y0, y1)) ?_ ?_
  · -- to where they meet
    obtain ⟨r10, c0, h⟩ := bnd1_some h
    rcases ite_some h with ⟨h1, h⟩ | ⟨h1, h⟩
    · -- yes
      refine WP.path tab_ok mixed [(10, An.call (tb r10)), (12, An.b true)] [.keep [16, 6, 5, 4, 0, 1], .keepO [2008], .names [(2008, 2008)]] (ps := [(C Try.prog 188 [ti x1] (tb r10)), ((!r10) = true)]) (e := .normal) (σ' := ⟨[2008], [(16, vb true), (6, vo 2008 0), (5, vb false), (4, V.t (T.nils)), (0, vi x0), (1, vi x1)], [(2008, oc 3 [])]⟩) (by kernel_rfl) ⟨(F_spec_l3Ahead_W x1 r10 c0), h1, trivial⟩ ?_
      exact ⟨(true), h, rfl⟩
    · -- no
      refine WP.path tab_ok mixed [(10, An.call (tb r10)), (12, An.b false), (14, An.call (tb (decide (x0 ≥ (0 : Int)) && decide (x0 ≤ (2 : Int)))))] [.keep [16, 6, 5, 4, 0, 1], .keepO [2008], .names [(2008, 2008)]] (ps := [(C Try.prog 188 [ti x1] (tb r10)), ((!r10) = false), (C Try.prog 135 [ti x0, ti 0, ti 2] (tb (decide (x0 ≥ (0 : Int)) && decide (x0 ≤ (2 : Int)))))]) (e := .normal) (σ' := ⟨[2008], [(16, vb (!(decide (x0 ≥ (0 : Int)) && decide (x0 ≤ (2 : Int))))), (6, vo 2008 0), (5, vb false), (4, V.t (T.nils)), (0, vi x0), (1, vi x1)], [(2008, oc 3 [])]⟩) (by kernel_rfl) ⟨(F_spec_l3Ahead_W x1 r10 c0), h1, (by have hh := (l1In_C x0 (0 : Int) (2 : Int)); simpa using hh), trivial⟩ ?_
      exact ⟨(!(decide (x0 ≥ (0 : Int)) && decide (x0 ≤ (2 : Int)))), h, rfl⟩
  · -- from there
    intro v16 h0
    have h := (show J1 v16 = some (y0, y1) from h0)
    rw [hJ1] at h
    rcases ite_some h with ⟨h2, h⟩ | ⟨h2, h⟩
    · -- yes
      refine WP.cond (b := v16) rfl (fun _ => ?_) (fun hh => by rw [h2] at hh; cases hh)
      simp only [Option.some.injEq, Prod.mk.injEq] at h
      obtain ⟨rfl, rfl⟩ := h
      exact WP.pathG tab_ok mixed [] [.keep [4, 5], .keepO [2008], .names [(2008, 9000)]] [9000] _ (r' := V.tup [vo 9000 (List.length []), vb false]) (ps := []) (r := V.tup [vo 9000 0, vb false]) (N := [9000]) (O := [(9000, oc 3 [])]) [] (by kernel_rfl) trivial ⟨(congrArg (V.own 9000 1) (by first | rfl | (simp only [tlS, tl, vl, vo, oc, ov, tbl, vbl, ty, vy]; done) | (simp only [tlS, tl, vl, vo, oc, ov, tbl, vbl, ty, vy]; rfl) | (simp; done) | (simp []; done) | (rw [List.take_of_length_le (by simp [])]; done) | (rw [List.take_of_length_le (by simp [])]; rfl) | (simp only [tlL]; omega) | (simp only [tlL]; omega) | (simp; omega))), (WkT.refl _), trivial⟩ rfl (by first | rfl | (simp only [tlS, tl, vl, vo, oc, ov, tbl, vbl, ty, vy]; done) | (simp only [tlS, tl, vl, vo, oc, ov, tbl, vbl, ty, vy]; rfl) | (simp; done) | (simp []; done) | (rw [List.take_of_length_le (by simp [])]; done) | (rw [List.take_of_length_le (by simp [])]; rfl) | (simp only [tlL]; omega) | (simp; omega)) (fun _ h => h)
    · -- no
      refine WP.cond (b := v16) rfl (fun hh => by rw [h2] at hh; cases hh) (fun _ => ?_)
      refine WP.path tab_ok mixed [] [.keep [6, 5, 4, 0, 1], .keepO [2008]] (ps := []) (e := .normal) (σ' := ⟨[2008], [(6, vo 2008 0), (5, vb false), (4, V.t (T.nils)), (0, vi x0), (1, vi x1)], [(2008, oc 3 [])]⟩) (by kernel_rfl) trivial ?_
      obtain ⟨J1, hJ1, h⟩ := jn_some h
      refine WP.joinA (fun (zz : (List Int)) => ⟨[2008], [(6, vo 2008 (List.length zz)), (5, vb false), (4, V.t (T.nils))], [(2008, oc 3 (List.map (T.int .i64) zz))]⟩) (fun zz => J1 zz = some (y0, y1)) ?_ ?_
      · -- to where they meet
        refine WP.seq ?_
        refine WP.path tab_ok mixed [] [.keep [7, 6, 5, 4, 0, 1], .keepO [2008]] (ps := []) (e := .normal) (σ' := ⟨[2008], [(7, vi 0), (6, vo 2008 0), (5, vb false), (4, V.t (T.nils)), (0, vi x0), (1, vi x1)], [(2008, oc 3 [])]⟩) (by kernel_rfl) trivial ?_
        refine WP.block ?_
        refine WP.wk [.keep [7, 6, 5, 4, 0, 1], .keepO [2008], .names [(2008, 2008)]] (σ' := ⟨[2008], [(7, vi 0), (6, vo 2008 0), (5, vb false), (4, V.t (T.nils)), (0, vi x0), (1, vi x1)], [(2008, oc 3 [])]⟩) (ps := []) (by kernel_rfl) trivial ?_
        refine WP.st (σ' := ⟨[2008], [(7, vi (0 : Int)), (6, vo 2008 (List.length ([] : List Int))), (5, vb false), (4, V.t (T.nils)), (0, vi x0), (1, vi x1)], [(2008, oc 3 (List.map (T.int .i64) ([] : List Int)))]⟩) (by first | rfl | (simp only [tlS, tl, vl, vo, oc, ov, tbl, vbl, ty, vy]; done) | (simp only [tlS, tl, vl, vo, oc, ov, tbl, vbl, ty, vy]; rfl) | (simp; done) | (simp []; done) | (rw [List.take_of_length_le (by simp [])]; done) | (rw [List.take_of_length_le (by simp [])]; rfl) | (simp only [tlL]; omega) | (simp; omega)) ?_
        refine WP.loop (α := Nat × (List Int) × Int) (fun zz => ⟨[2008], [(7, vi zz.2.2), (6, vo 2008 (List.length zz.2.1)), (5, vb false), (4, V.t (T.nils)), (0, vi x0), (1, vi x1)], [(2008, oc 3 (List.map (T.int .i64) zz.2.1))]⟩) (fun zz => F_spec_WeightTable_L1 x0 x1 J1 zz.1 zz.2.1 zz.2.2 = some (y0, y1)) (fun zz => zz.1) (fuel, ([] : List Int), (0 : Int)) h ?_
        rintro ⟨n, o8, v7⟩ h0
        have h := (show F_spec_WeightTable_L1 x0 x1 J1 n o8 v7 = some (y0, y1) from h0)
        rcases n with _ | n
        · rw [F_spec_WeightTable_L1] at h; cases h
        · rw [F_spec_WeightTable_L1] at h
          refine WP.seq ?_
          refine WP.seq ?_
          refine WP.path tab_ok mixed [] [.keep [20, 7, 6, 5, 4, 0, 1], .keepO [2008]] (ps := [(True)]) (e := .normal) (σ' := ⟨[2008], [(20, vb (decide (v7 ≤ x0))), (7, vi v7), (6, vo 2008 (List.length o8)), (5, vb false), (4, V.t (T.nils)), (0, vi x0), (1, vi x1)], [(2008, oc 3 (List.map (T.int .i64) o8))]⟩) (by kernel_rfl) ⟨trivial, trivial⟩ ?_
          rcases ite_some h with ⟨h3, h⟩ | ⟨h3, h⟩
          · -- yes
            refine WP.cond (b := decide (v7 ≤ x0)) rfl (fun _ => ?_) (fun hh => by rw [h3] at hh; cases hh)
            refine WP.path tab_ok mixed [] [.keep [7, 6, 5, 4, 0, 1], .keepO [2008]] (ps := []) (e := .normal) (σ' := ⟨[2008], [(7, vi v7), (6, vo 2008 (List.length o8)), (5, vb false), (4, V.t (T.nils)), (0, vi x0), (1, vi x1)], [(2008, oc 3 (List.map (T.int .i64) o8))]⟩) (by kernel_rfl) trivial ?_
            refine WP.seq ?_
            refine WP.block ?_
            obtain ⟨c0, h⟩ := chk_some h
            obtain ⟨r28, c1, h⟩ := bnd1_some h
            obtain ⟨c2, h⟩ := chk_some h
            refine WP.path tab_ok mixed [(27, An.v (T.int .i64 (x0 - v7))), (28, An.call (ti r28)), (29, An.fz), (30, An.id 2030)] [.keep [6, 7, 5, 4, 0, 1], .keepO [2030]] (ps := [(True), (T.int .i64 (IntKind.wrap .i64 (x0 - v7)) = T.int .i64 (x0 - v7)), (C Try.prog 195 [ti x1, ti (x0 - v7)] (ti r28)), ((1 = 1 ∧ 0 + 1 ≤ 1) ∧ True), (1 = 1 * 1), (True), (List.length (List.map (T.int .i64) o8) = (List.length o8) * 1), ((((List.length o8) + 1) * 8 ≤ 140737488355328 ∧ (List.length o8) + 1 ≤ maxLen))]) (e := .normal) (σ' := ⟨[2030, 2008], [(6, vo 2030 ((List.length o8) + 1)), (7, vi v7), (5, vb false), (4, V.t (T.nils)), (0, vi x0), (1, vi x1)], [(2030, oc 3 ((List.map (T.int .i64) o8) ++ [ti r28]))]⟩) (by kernel_rfl) ⟨trivial, wrapI c0, (F_spec_l3Ball_W x1 (x0 - v7) r28 c1), ⟨⟨by first | rfl | (simp; done) | (simp []; done) | omega, by first | decide | (simp; done) | (simp []; done) | omega | (simp only [tlL]; omega) | (simp; omega)⟩, trivial⟩, by decide, trivial, by first | rfl | (simp; done) | omega | (simp only [tlL]; omega) | (simp; omega) | (simp []; done) | (simp []; omega), c2, trivial⟩ ?_
            obtain ⟨c3, h⟩ := chk_some h
            refine WP.path tab_ok mixed [(22, An.v (T.int .i64 (v7 + (1 : Int))))] [.keep [7, 6, 5, 4, 0, 1], .keepO [2030], .names [(2030, 2008)]] (ps := [(True), (T.int .i64 (IntKind.wrap .i64 (v7 + (1 : Int))) = T.int .i64 (v7 + (1 : Int)))]) (e := .normal) (σ' := ⟨[2008], [(7, vi (v7 + (1 : Int))), (6, vo 2008 ((List.length o8) + 1)), (5, vb false), (4, V.t (T.nils)), (0, vi x0), (1, vi x1)], [(2008, oc 3 ((List.map (T.int .i64) o8) ++ [ti r28]))]⟩) (by kernel_rfl) ⟨trivial, wrapI c3, trivial⟩ ?_
            exact ⟨(n, o8 ++ [r28], (v7 + (1 : Int))), h, Nat.lt_succ_self _, (by first | rfl | (simp only [tlS, tl, vl, vo, oc, ov, tbl, vbl, ty, vy]; done) | (simp only [tlS, tl, vl, vo, oc, ov, tbl, vbl, ty, vy]; rfl) | (simp; done) | (simp []; done) | (rw [List.take_of_length_le (by simp [])]; done) | (rw [List.take_of_length_le (by simp [])]; rfl) | (simp only [tlL]; omega) | (simp; omega))⟩
          · -- no
            refine WP.cond (b := decide (v7 ≤ x0)) rfl (fun hh => by rw [h3] at hh; cases hh) (fun _ => ?_)
            refine WP.path tab_ok mixed [] [.keep [6, 5, 4], .keepO [2008], .names [(2008, 2008)]] (ps := []) (e := (.exit 0)) (σ' := ⟨[2008], [(6, vo 2008 (List.length o8)), (5, vb false), (4, V.t (T.nils))], [(2008, oc 3 (List.map (T.int .i64) o8))]⟩) (by kernel_rfl) trivial ?_
            exact ⟨(o8), h, rfl⟩
      · -- from there
        intro o8 h0
        have h := (show J1 o8 = some (y0, y1) from h0)
        rw [hJ1] at h
        simp only [Option.some.injEq, Prod.mk.injEq] at h
        obtain ⟨rfl, rfl⟩ := h
        exact WP.pathG tab_ok mixed [] [.keep [4, 5], .keepO [2008], .names [(2008, 9000)]] [9000] _ (r' := V.tup [vo 9000 (List.length o8), vb true]) (ps := []) (r := V.tup [vo 9000 (List.length o8), vb true]) (N := [9000]) (O := [(9000, oc 3 (List.map (T.int .i64) o8))]) [] (by kernel_rfl) trivial ⟨rfl, (WkT.refl _), trivial⟩ rfl rfl (fun _ h => h)
theorem F_spec_WeightTable_W_C (x0 : Int) (x1 : Int) (y0 : List Int) (y1 : Bool) (h : F_spec_WeightTable x0 x1 = some (y0, y1)) : C Try.prog 64 [ti x0, ti x1] (T.tup [tl y0, tb y1]) :=
  CG.toC (ps := [(List.length (List.map (T.int .i64) y0) = (List.length y0) * 1)]) (F_spec_WeightTable_W  x0 x1 y0 y1 h) (by rfl) ⟨by first | rfl | (simp; done) | omega | (simp; omega) | (simp [hl]; done) | (simp [hl]; omega), trivial⟩
theorem F_spec_DrawMostByWeight_W (x0 : List Int) (y0 : Int) (y1 : Int) (h : F_spec_DrawMostByWeight x0 = some (y0, y1)) : C Try.prog 65 [ty x0] (T.tup [ti y0, ti y1]) := by
  unfold F_spec_DrawMostByWeight at h
  refine C.intro (tab := tab) tab_ok (fn := Try.f65) Try.func65 (by kernel_rfl) rfl (Nat.le_of_ble_eq_true rfl) ?_
  obtain ⟨r9, r9b, r9c, r9d, c0, h⟩ := bnd4_some h
  obtain ⟨r11, r11b, r11c, r11d, c1, h⟩ := bnd4_some h
  simp only [Option.some.injEq, Prod.mk.injEq] at h
  obtain ⟨rfl, rfl⟩ := h
  exact WP.pathW tab_ok mixed [(7, An.id 2007), (9, An.callG [(500, 2007)] [V.ref 500 0] [(500, oc 151 [ty x0, ti 0, T.int .u64 0])] (vi r9) [(500, oc 151 [ty r9b, ti r9c, T.int .u64 r9d])]), (11, An.callG [(500, 2007)] [V.ref 500 0] [(500, oc 151 [ty r9b, ti r9c, T.int .u64 r9d])] (vi r11) [(500, oc 151 [ty r11b, ti r11c, T.int .u64 r11d])])] _ (ps := [((1 = 1 ∧ 0 + 1 ≤ 3) ∧ True), (CG Try.prog 184 [V.ref 500 0] [(500, oc 151 [ty x0, ti 0, T.int .u64 0])] (vi r9) [(500, oc 151 [ty r9b, ti r9c, T.int .u64 r9d])]), ((V.ref 500 0).ren (renF [(500, 2007)]) = V.ref 2007 0), ((oc 151 [ty x0, ti 0, T.int .u64 0]) = (oc 151 [ty x0, ti 0, T.int .u64 0]).ren (renF [(500, 2007)])), (CG Try.prog 149 [V.ref 500 0] [(500, oc 151 [ty r9b, ti r9c, T.int .u64 r9d])] (vi r11) [(500, oc 151 [ty r11b, ti r11c, T.int .u64 r11d])]), ((V.ref 500 0).ren (renF [(500, 2007)]) = V.ref 2007 0), ((oc 151 [ty r9b, ti r9c, T.int .u64 r9d]) = (oc 151 [ty r9b, ti r9c, T.int .u64 r9d]).ren (renF [(500, 2007)]))]) (r := T.tup [ti r9, ti r11]) (by kernel_rfl) ⟨⟨⟨by first | rfl | (simp; done) | (simp []; done) | omega, by first | decide | (simp; done) | (simp []; done) | omega | (simp only [tlL]; omega) | (simp; omega)⟩, trivial⟩, (F_p_spec_l1Cur_ahead3_W x0 (0 : Int) (0 : Int) r9 r9b r9c r9d c0), by first | rfl | (simp [V.ren, V.renL, renF, lk]; done) | (simp [V.ren, V.renL, renF, lk]; omega), by first | rfl | (simp only [tlS]; rfl) | (simp [Tl.Obj.ren, V.ren, V.renL, renF, lk]; done), (F_p_spec_l1Cur_lies_W r9b r9c r9d r11 r11b r11c r11d c1), by first | rfl | (simp [V.ren, V.renL, renF, lk]; done) | (simp [V.ren, V.renL, renF, lk]; omega), by first | rfl | (simp only [tlS]; rfl) | (simp [Tl.Obj.ren, V.ren, V.renL, renF, lk]; done), trivial⟩ (WkT.eq (y := T.tup [ti r9, ti r11]) (WkT.refl _) rfl) (fun _ h => h)
theorem F_impl_MostByWeight_W (x0 : Int) (x1 : Int) (y0 : Int) (y1 : Bool) (h : F_impl_MostByWeight x0 x1 = some (y0, y1)) : C Try.prog 66 [ti x0, ti x1] (T.tup [ti y0, tb y1]) := by
  unfold F_impl_MostByWeight at h
  refine C.intro (tab := tab) tab_ok (fn := Try.f66) Try.func66 (by kernel_rfl) rfl (Nat.le_of_ble_eq_true rfl) ?_
  refine WP.seq ?_
  refine WP.path tab_ok mixed [] [.keep [5, 4, 0, 1], .keepO []] (ps := []) (e := .normal) (σ' := ⟨[], [(5, vb false), (4, vi 0), (0, vi x0), (1, vi x1)], []⟩) (by kernel_rfl) trivial ?_
  refine WP.seq ?_
  obtain ⟨J1, hJ1, h⟩ := jn_some h
  refine WP.joinA (fun (zz : Bool) => ⟨[], [(18, vb zz), (5, vb false), (4, vi 0), (0, vi x0), (1, vi x1)], []⟩) (fun zz => J1 zz = some (y0, y1)) ?_ ?_
  · -- to where they meet
    obtain ⟨r7, c0, h⟩ := bnd1_some h
    rcases ite_some h with ⟨h1, h⟩ | ⟨h1, h⟩
    · -- yes
      refine WP.path tab_ok mixed [(7, An.call (tb r7)), (9, An.b true)] [.keep [18, 5, 4, 0, 1], .keepO [], .names []] (ps := [(C Try.prog 185 [ti x0] (tb r7)), ((!r7) = true)]) (e := .normal) (σ' := ⟨[], [(18, vb true), (5, vb false), (4, vi 0), (0, vi x0), (1, vi x1)], []⟩) (by kernel_rfl) ⟨(F_impl_isAhead_W x0 r7 c0), h1, trivial⟩ ?_
      exact ⟨(true), h, rfl⟩
    · -- no
      rcases ite_some h with ⟨h2, h⟩ | ⟨h2, h⟩
      · -- yes
        refine WP.path tab_ok mixed [(7, An.call (tb r7)), (9, An.b false), (11, An.call (tb (decide (0 ≤ x1) && decide (x1 ≤ 2)))), (14, An.b true)] [.keep [18, 5, 4, 0, 1], .keepO [], .names []] (ps := [(C Try.prog 185 [ti x0] (tb r7)), ((!r7) = false), (C Try.prog 140 [ti x1] (tb (decide (0 ≤ x1) && decide (x1 ≤ 2)))), ((!(decide (0 ≤ x1) && decide (x1 ≤ 2))) = true)]) (e := .normal) (σ' := ⟨[], [(18, vb true), (5, vb false), (4, vi 0), (0, vi x0), (1, vi x1)], []⟩) (by kernel_rfl) ⟨(F_impl_isAhead_W x0 r7 c0), h1, (isMost_C x1), h2, trivial⟩ ?_
        exact ⟨(true), h, rfl⟩
      · -- no
        refine WP.path tab_ok mixed [(7, An.call (tb r7)), (9, An.b false), (11, An.call (tb (decide (0 ≤ x1) && decide (x1 ≤ 2)))), (14, An.b false)] [.keep [18, 5, 4, 0, 1], .keepO [], .names []] (ps := [(C Try.prog 185 [ti x0] (tb r7)), ((!r7) = false), (C Try.prog 140 [ti x1] (tb (decide (0 ≤ x1) && decide (x1 ≤ 2)))), ((!(decide (0 ≤ x1) && decide (x1 ≤ 2))) = false), (True)]) (e := .normal) (σ' := ⟨[], [(18, vb (decide (x1 > x0))), (5, vb false), (4, vi 0), (0, vi x0), (1, vi x1)], []⟩) (by kernel_rfl) ⟨(F_impl_isAhead_W x0 r7 c0), h1, (isMost_C x1), h2, trivial, trivial⟩ ?_
        exact ⟨(decide (x1 > x0)), h, rfl⟩
  · -- from there
    intro v18 h0
    have h := (show J1 v18 = some (y0, y1) from h0)
    rw [hJ1] at h
    rcases ite_some h with ⟨h3, h⟩ | ⟨h3, h⟩
    · -- yes
      refine WP.cond (b := v18) rfl (fun _ => ?_) (fun hh => by rw [h3] at hh; cases hh)
      simp only [Option.some.injEq, Prod.mk.injEq] at h
      obtain ⟨rfl, rfl⟩ := h
      exact WP.pathW tab_ok mixed [] _ (ps := []) (r := T.tup [ti 0, tb false]) (by kernel_rfl) trivial (WkT.eq (y := T.tup [ti 0, tb false]) (WkT.refl _) (by first | rfl | (simp only [tlS, tl, vl, vo, oc, ov, tbl, vbl, ty, vy]; done) | (simp only [tlS, tl, vl, vo, oc, ov, tbl, vbl, ty, vy]; rfl) | (simp; done) | (simp []; done) | (rw [List.take_of_length_le (by simp [])]; done) | (rw [List.take_of_length_le (by simp [])]; rfl) | (simp only [tlL]; omega) | (simp; omega))) (fun _ h => h)
    · -- no
      refine WP.cond (b := v18) rfl (fun hh => by rw [h3] at hh; cases hh) (fun _ => ?_)
      refine WP.path tab_ok mixed [] [.keep [5, 4, 0, 1], .keepO []] (ps := []) (e := .normal) (σ' := ⟨[], [(5, vb false), (4, vi 0), (0, vi x0), (1, vi x1)], []⟩) (by kernel_rfl) trivial ?_
      obtain ⟨c0, h⟩ := chk_some h
      obtain ⟨r23, c1, h⟩ := bnd1_some h
      obtain ⟨c2, h⟩ := chk_some h
      obtain ⟨c3, h⟩ := chk_some h
      simp only [Option.some.injEq, Prod.mk.injEq] at h
      obtain ⟨rfl, rfl⟩ := h
      exact WP.pathW tab_ok mixed [(20, An.v (T.int .i64 ((1 : Int) * 2 ^ Int.toNat x0))), (23, An.call (ti r23)), (24, An.v (T.int .i64 (Int.tdiv ((1 : Int) * 2 ^ Int.toNat x0) r23)))] _ (ps := [(0 ≤ x0), (T.int .i64 (IntKind.wrap .i64 ((1 : Int) * 2 ^ (min (Int.toNat x0) 64))) = T.int .i64 ((1 : Int) * 2 ^ Int.toNat x0)), (C Try.prog 194 [ti x0, ti x1] (ti r23)), (r23 ≠ 0), (T.int .i64 (IntKind.wrap .i64 (Int.tdiv ((1 : Int) * 2 ^ Int.toNat x0) r23)) = T.int .i64 (Int.tdiv ((1 : Int) * 2 ^ Int.toNat x0) r23))]) (r := T.tup [ti (Int.tdiv ((1 : Int) * 2 ^ Int.toNat x0) r23), tb true]) (by kernel_rfl) ⟨c0.1, shl_told c0, (F_impl_ball_W x0 x1 r23 c1), c3, quo_told c2, trivial⟩ (WkT.eq (y := T.tup [ti (Int.tdiv ((1 : Int) * 2 ^ Int.toNat x0) r23), tb true]) (WkT.refl _) rfl) (fun _ h => h)
theorem F_spec_MostByWeight_W (x0 : Int) (x1 : Int) (y0 : Int) (y1 : Bool) (h : F_spec_MostByWeight x0 x1 = some (y0, y1)) : C Try.prog 67 [ti x0, ti x1] (T.tup [ti y0, tb y1]) := by
  unfold F_spec_MostByWeight at h
  refine C.intro (tab := tab) tab_ok (fn := Try.f67) Try.func67 (by kernel_rfl) rfl (Nat.le_of_ble_eq_true rfl) ?_
  refine WP.seq ?_
  refine WP.path tab_ok mixed [] [.keep [5, 4, 0, 1], .keepO []] (ps := []) (e := .normal) (σ' := ⟨[], [(5, vb false), (4, vi 0), (0, vi x0), (1, vi x1)], []⟩) (by kernel_rfl) trivial ?_
  refine WP.seq ?_
  obtain ⟨J1, hJ1, h⟩ := jn_some h
  refine WP.joinA (fun (zz : Bool) => ⟨[], [(15, vb zz), (5, vb false), (4, vi 0), (0, vi x0), (1, vi x1)], []⟩) (fun zz => J1 zz = some (y0, y1)) ?_ ?_
  · -- to where they meet
    obtain ⟨r7, c0, h⟩ := bnd1_some h
    rcases ite_some h with ⟨h1, h⟩ | ⟨h1, h⟩
    · -- yes
      refine WP.path tab_ok mixed [(7, An.call (tb r7)), (9, An.b true)] [.keep [15, 5, 4, 0, 1], .keepO [], .names []] (ps := [(C Try.prog 188 [ti x0] (tb r7)), ((!r7) = true)]) (e := .normal) (σ' := ⟨[], [(15, vb true), (5, vb false), (4, vi 0), (0, vi x0), (1, vi x1)], []⟩) (by kernel_rfl) ⟨(F_spec_l3Ahead_W x0 r7 c0), h1, trivial⟩ ?_
      exact ⟨(true), h, rfl⟩
    · -- no
      refine WP.path tab_ok mixed [(7, An.call (tb r7)), (9, An.b false), (12, An.call (ti (minN (2 : Int) x0))), (13, An.call (tb (decide (x1 ≥ (0 : Int)) && decide (x1 ≤ (minN (2 : Int) x0)))))] [.keep [15, 5, 4, 0, 1], .keepO [], .names []] (ps := [(C Try.prog 188 [ti x0] (tb r7)), ((!r7) = false), (C Try.prog 196 [ti 2, ti x0] (ti (minN (2 : Int) x0))), (C Try.prog 135 [ti x1, ti 0, ti (minN (2 : Int) x0)] (tb (decide (x1 ≥ (0 : Int)) && decide (x1 ≤ (minN (2 : Int) x0)))))]) (e := .normal) (σ' := ⟨[], [(15, vb (!(decide (x1 ≥ (0 : Int)) && decide (x1 ≤ (minN (2 : Int) x0))))), (5, vb false), (4, vi 0), (0, vi x0), (1, vi x1)], []⟩) (by kernel_rfl) ⟨(F_spec_l3Ahead_W x0 r7 c0), h1, (by have hh := (l1Least_C (2 : Int) x0); simpa using hh), (by have hh := (l1In_C x1 (0 : Int) (minN (2 : Int) x0)); simpa using hh), trivial⟩ ?_
      exact ⟨(!(decide (x1 ≥ (0 : Int)) && decide (x1 ≤ (minN (2 : Int) x0)))), h, rfl⟩
  · -- from there
    intro v15 h0
    have h := (show J1 v15 = some (y0, y1) from h0)
    rw [hJ1] at h
    rcases ite_some h with ⟨h2, h⟩ | ⟨h2, h⟩
    · -- yes
      refine WP.cond (b := v15) rfl (fun _ => ?_) (fun hh => by rw [h2] at hh; cases hh)
      simp only [Option.some.injEq, Prod.mk.injEq] at h
      obtain ⟨rfl, rfl⟩ := h
      exact WP.pathW tab_ok mixed [] _ (ps := []) (r := T.tup [ti 0, tb false]) (by kernel_rfl) trivial (WkT.eq (y := T.tup [ti 0, tb false]) (WkT.refl _) (by first | rfl | (simp only [tlS, tl, vl, vo, oc, ov, tbl, vbl, ty, vy]; done) | (simp only [tlS, tl, vl, vo, oc, ov, tbl, vbl, ty, vy]; rfl) | (simp; done) | (simp []; done) | (rw [List.take_of_length_le (by simp [])]; done) | (rw [List.take_of_length_le (by simp [])]; rfl) | (simp only [tlL]; omega) | (simp; omega))) (fun _ h => h)
    · -- no
      refine WP.cond (b := v15) rfl (fun hh => by rw [h2] at hh; cases hh) (fun _ => ?_)
      refine WP.path tab_ok mixed [] [.keep [5, 4, 0, 1], .keepO []] (ps := []) (e := .normal) (σ' := ⟨[], [(5, vb false), (4, vi 0), (0, vi x0), (1, vi x1)], []⟩) (by kernel_rfl) trivial ?_
      obtain ⟨c0, h⟩ := chk_some h
      obtain ⟨r20, c1, h⟩ := bnd1_some h
      obtain ⟨c2, h⟩ := chk_some h
      obtain ⟨c3, h⟩ := chk_some h
      simp only [Option.some.injEq, Prod.mk.injEq] at h
      obtain ⟨rfl, rfl⟩ := h
      exact WP.pathW tab_ok mixed [(17, An.v (T.int .i64 ((1 : Int) * 2 ^ Int.toNat x0))), (20, An.call (ti r20)), (21, An.v (T.int .i64 (Int.tdiv ((1 : Int) * 2 ^ Int.toNat x0) r20)))] _ (ps := [(0 ≤ x0), (T.int .i64 (IntKind.wrap .i64 ((1 : Int) * 2 ^ (min (Int.toNat x0) 64))) = T.int .i64 ((1 : Int) * 2 ^ Int.toNat x0)), (C Try.prog 195 [ti x0, ti x1] (ti r20)), (r20 ≠ 0), (T.int .i64 (IntKind.wrap .i64 (Int.tdiv ((1 : Int) * 2 ^ Int.toNat x0) r20)) = T.int .i64 (Int.tdiv ((1 : Int) * 2 ^ Int.toNat x0) r20))]) (r := T.tup [ti (Int.tdiv ((1 : Int) * 2 ^ Int.toNat x0) r20), tb true]) (by kernel_rfl) ⟨c0.1, shl_told c0, (F_spec_l3Ball_W x0 x1 r20 c1), c3, quo_told c2, trivial⟩ (WkT.eq (y := T.tup [ti (Int.tdiv ((1 : Int) * 2 ^ Int.toNat x0) r20), tb true]) (WkT.refl _) rfl) (fun _ h => h)

end Go.Proofs.Ytofiecpgfjofdaa.AuWa
