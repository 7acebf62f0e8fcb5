/-
  The walks: each function of the program returns what the plain function beside it returns. No statement is proved here.
-/
import Derived.Test.YtfbkhpfhnimnfaaTlV
import Derived.Test.YtfbkhpfhnimnfaaTlCI
import Derived.Test.YtfbkhpfhnimnfaaAuLessF
import Derived.Test.YtfbkhpfhnimnfaaProg
import Derived.Test.YtfbkhpfhnimnfaaAuLessO
namespace Go.Proofs.Ytfbkhpfhnimnfaa.AuLessa
open Go Go.Tl Go.Proofs
open Go.Proofs.Ytfbkhpfhnimnfaa.AuLessO hiding tab tab_ok mixed
set_option linter.unusedVariables false
set_option linter.unusedSimpArgs false
set_option maxRecDepth 100000
def tab : Tab := [(3, ⟨.int .i64, 1, 8, [.int .i64 0]⟩), (4, ⟨.bool, 1, 1, [.bool false]⟩), (5, ⟨.int .u8, 1, 1, [.int .u8 0]⟩), (22, ⟨.slice 5 1 1, 1, 24, [.nils]⟩), (24, ⟨.slice 3 1 8, 1, 24, [.nils]⟩), (26, ⟨.struct [(0, 1, false), (1, 1, false)], 2, 32, [.nils, .int .i64 0]⟩), (29, ⟨.slice 44 2 16, 1, 24, [.nils]⟩), (44, ⟨.struct [(0, 1, false), (1, 1, false)], 2, 16, [.int .i64 0, .bool false]⟩), (67, ⟨.pointer 70, 1, 8, [.nilp]⟩), (68, ⟨.int .u64, 1, 8, [.int .u64 0]⟩), (70, ⟨.struct [(0, 1, false), (1, 1, false), (2, 1, false)], 3, 40, [.nils, .int .i64 0, .int .u64 0]⟩), (77, ⟨.map 3 3, 1, 8, [.nilm]⟩), (79, ⟨.struct [(0, 1, false)], 1, 8, [.nilm]⟩), (133, ⟨.array 2 26 2 true, 4, 64, [.nils, .int .i64 0, .nils, .int .i64 0]⟩)]
theorem tab_ok : chkTab Try.prog tab = true := by kernel_rfl
theorem mixed : Try.prog.follows .mixedOrders = true := by kernel_rfl
theorem F_p_spec_l1Cur_next_W (x0 : List Int) (x1 : Int) (x2 : Int) (y0 : Int) (y1 : List Int) (y2 : Int) (y3 : Int) (h : F_p_spec_l1Cur_next x0 x1 x2 = some (y0, y1, y2, y3)) : CG Try.prog 119 [V.ref 500 0] [(500, oc 70 [ty x0, ti x1, T.int .u64 x2])] (vi y0) [(500, oc 70 [ty y1, ti y2, T.int .u64 y3])] := by
  unfold F_p_spec_l1Cur_next at h
  refine CG.intro (tab := tab) tab_ok (fn := Try.f119) Try.func119 (by kernel_rfl) rfl (Nat.le_of_ble_eq_true rfl) (by kernel_rfl) ?_
  refine WP.seq ?_
  refine WP.path tab_ok mixed [] [.keep [2, 0], .keepO [500]] (ps := []) (e := .normal) (σ' := ⟨[500], [(2, vi 0), (0, V.ref 500 0)], [(500, oc 70 [ty x0, ti x1, T.int .u64 x2])]⟩) (by kernel_rfl) trivial ?_
  refine WP.seq ?_
  refine WP.path tab_ok mixed [] [.keep [3, 2, 0], .keepO [500]] (ps := []) (e := .normal) (σ' := ⟨[500], [(3, vi 0), (2, vi 0), (0, V.ref 500 0)], [(500, oc 70 [ty x0, ti x1, T.int .u64 x2])]⟩) (by kernel_rfl) trivial ?_
  obtain ⟨J1, hJ1, h⟩ := jn_some h
  refine WP.joinA (fun (zz : Int) => ⟨[500], [(3, vi zz), (2, vi 0), (0, V.ref 500 0)], [(500, oc 70 [ty x0, ti x1, T.int .u64 x2])]⟩) (fun zz => J1 zz = some (y0, y1, y2, y3)) ?_ ?_
  · -- to where they meet
    refine WP.seq ?_
    refine WP.path tab_ok mixed [] [.keep [13, 3, 2, 0], .keepO [500]] (ps := [(True), (True), (True)]) (e := .normal) (σ' := ⟨[500], [(13, vb (decide (x1 < ((List.length x0 : Nat) : Int)))), (3, vi 0), (2, vi 0), (0, V.ref 500 0)], [(500, oc 70 [ty x0, ti x1, T.int .u64 x2])]⟩) (by kernel_rfl) ⟨trivial, trivial, trivial, trivial⟩ ?_
    rcases ite_some h with ⟨h1, h⟩ | ⟨h1, h⟩
    · -- yes
      refine WP.cond (b := decide (x1 < ((List.length x0 : Nat) : Int))) rfl (fun _ => ?_) (fun hh => by rw [h1] at hh; cases hh)
      obtain ⟨c0, h⟩ := chk_some h
      obtain ⟨c1, h⟩ := chk_some h
      refine WP.path tab_ok mixed [(23, An.v (T.int .u8 (List.getD x0 (Int.toNat x1) 0))), (24, An.v (T.int .i64 (List.getD x0 (Int.toNat x1) 0)))] [.keep [3, 2, 0], .keepO [500], .names [(500, 500)]] (ps := [(True), (True), ((0 ≤ x1 ∧ x1 < ((List.length x0 : Nat) : Int))), ((List.drop ((Int.toNat x1) * 1) (List.map (T.int .u8) x0) : List T)[0]? = some (T.int .u8 (List.getD x0 (Int.toNat x1) 0))), (T.int .u8 (List.getD x0 (Int.toNat x1) 0) = T.int .u8 (List.getD x0 (Int.toNat x1) 0)), (T.int .i64 (IntKind.wrap .i64 (List.getD x0 (Int.toNat x1) 0)) = T.int .i64 (List.getD x0 (Int.toNat x1) 0))]) (e := .normal) (σ' := ⟨[500], [(3, vi (List.getD x0 (Int.toNat x1) 0)), (2, vi 0), (0, V.ref 500 0)], [(500, oc 70 [ty x0, ti x1, T.int .u64 x2])]⟩) (by kernel_rfl) ⟨trivial, trivial, c0, at1 (by simp) (by omega), rfl, wrapI c1, trivial⟩ ?_
      exact ⟨((List.getD x0 (Int.toNat x1) 0)), h, rfl⟩
    · -- no
      refine WP.cond (b := decide (x1 < ((List.length x0 : Nat) : Int))) rfl (fun hh => by rw [h1] at hh; cases hh) (fun _ => ?_)
      refine WP.path tab_ok mixed [] [.keep [3, 2, 0], .keepO [500], .names [(500, 500)]] (ps := []) (e := .normal) (σ' := ⟨[500], [(3, vi 0), (2, vi 0), (0, V.ref 500 0)], [(500, oc 70 [ty x0, ti x1, T.int .u64 x2])]⟩) (by kernel_rfl) trivial ?_
      exact ⟨((0 : Int)), h, (by first | rfl | (simp only [tlS, tl, vl, vo, oc, ov, tbl, vbl, ty, vy] <;> rfl) | (simp <;> omega) | (simp []; done) | (rw [List.take_of_length_le (by simp [])] <;> rfl))⟩
  · -- from there
    intro v3 h0
    have h := (show J1 v3 = some (y0, y1, y2, y3) from h0)
    rw [hJ1] at h
    refine WP.seq ?_
    obtain ⟨c0, h⟩ := chk_some h
    refine WP.path tab_ok mixed [(29, An.v (T.int .i64 (x1 + (1 : Int))))] [.keep [3, 2, 0], .keepO [500]] (ps := [(True), (True), (T.int .i64 (IntKind.wrap .i64 (x1 + (1 : Int))) = T.int .i64 (x1 + (1 : Int))), (1 < 3)]) (e := .normal) (σ' := ⟨[500], [(3, vi v3), (2, vi 0), (0, V.ref 500 0)], [(500, oc 70 [ty x0, ti (x1 + (1 : Int)), T.int .u64 x2])]⟩) (by kernel_rfl) ⟨trivial, trivial, wrapI c0, by decide, trivial⟩ ?_
    refine WP.seq ?_
    obtain ⟨n37, c1, h⟩ := nam_some h
    obtain ⟨n40, c2, h⟩ := nam_some h
    refine WP.path tab_ok mixed [(37, An.v (T.int .u64 n37)), (40, An.v (T.int .u64 n40))] [.keep [3, 2, 0], .keepO [500]] (ps := [(True), (True), (T.int .u64 (IntKind.wrap .u64 (x2 * (6364136223846793005 : Int))) = T.int .u64 n37), (True), (T.int .u64 (IntKind.wrap .u64 (n37 + (IntKind.wrap .u64 v3))) = T.int .u64 n40), (True), (2 < 3)]) (e := .normal) (σ' := ⟨[500], [(3, vi v3), (2, vi 0), (0, V.ref 500 0)], [(500, oc 70 [ty x0, ti (x1 + (1 : Int)), T.int .u64 (IntKind.wrap .u64 (n40 + (462197 : Int)))])]⟩) (by kernel_rfl) ⟨trivial, trivial, congrArg (T.int .u64) c1, trivial, congrArg (T.int .u64) c2, trivial, by decide, trivial⟩ ?_
    refine WP.seq ?_
    refine WP.seq ?_
    refine WP.path tab_ok mixed [] [.keep [53, 3, 2, 0], .keepO [500]] (ps := [(True), (True), (True)]) (e := .normal) (σ' := ⟨[500], [(53, vb (decide ((x1 + (1 : Int)) ≤ ((List.length x0 : Nat) : Int)))), (3, vi v3), (2, vi 0), (0, V.ref 500 0)], [(500, oc 70 [ty x0, ti (x1 + (1 : Int)), T.int .u64 (IntKind.wrap .u64 (n40 + (462197 : Int)))])]⟩) (by kernel_rfl) ⟨trivial, trivial, trivial, trivial⟩ ?_
    rcases ite_some h with ⟨h2, h⟩ | ⟨h2, h⟩
    · -- yes
      refine WP.cond (b := decide ((x1 + (1 : Int)) ≤ ((List.length x0 : Nat) : Int))) rfl (fun _ => ?_) (fun hh => by rw [h2] at hh; cases hh)
      simp only [Option.some.injEq, Prod.mk.injEq] at h
      obtain ⟨rfl, rfl, rfl, rfl⟩ := h
      exact WP.pathG tab_ok mixed [] [.keep [2], .keepO [500], .names [(500, 500)]] [500] _ (r' := vi v3) (ps := []) (r := vi v3) (N := [500]) (O := [(500, oc 70 [ty x0, ti (x1 + (1 : Int)), T.int .u64 (IntKind.wrap .u64 (n40 + (462197 : Int)))])]) [] (by kernel_rfl) trivial ⟨(WkT.refl _), trivial⟩ rfl rfl (fun _ h => h)
    · -- no
      refine WP.cond (b := decide ((x1 + (1 : Int)) ≤ ((List.length x0 : Nat) : Int))) rfl (fun hh => by rw [h2] at hh; cases hh) (fun _ => ?_)
      refine WP.path tab_ok mixed [] [.keep [2, 0], .keepO [500]] (ps := []) (e := .normal) (σ' := ⟨[500], [(2, vi 0), (0, V.ref 500 0)], [(500, oc 70 [ty x0, ti (x1 + (1 : Int)), T.int .u64 (IntKind.wrap .u64 (n40 + (462197 : Int)))])]⟩) (by kernel_rfl) trivial ?_
      obtain ⟨n60, c3, h⟩ := nam_some h
      obtain ⟨c4, h⟩ := chk_some h
      simp only [Option.some.injEq, Prod.mk.injEq] at h
      obtain ⟨rfl, rfl, rfl, rfl⟩ := h
      exact WP.pathG tab_ok mixed [(59, An.v (T.int .u64 ((IntKind.wrap .u64 (n40 + (462197 : Int))) / 2 ^ Int.toNat (40 : Int)))), (60, An.v (T.int .u64 n60)), (61, An.v (T.int .i64 n60))] [.keep [2], .keepO [500], .names [(500, 500)]] [500] _ (r' := vi n60) (ps := [(True), (0 ≤ (40 : Int)), (T.int .u64 (Int.fdiv (IntKind.wrap .u64 (n40 + (462197 : Int))) (2 ^ (min (Int.toNat (40 : Int)) 64))) = T.int .u64 ((IntKind.wrap .u64 (n40 + (462197 : Int))) / 2 ^ Int.toNat (40 : Int))), (True), (T.int .u64 (bits .and .u64 ((IntKind.wrap .u64 (n40 + (462197 : Int))) / 2 ^ Int.toNat (40 : Int)) (255 : Int)) = T.int .u64 n60), (T.int .i64 (IntKind.wrap .i64 n60) = T.int .i64 n60)]) (r := vi n60) (N := [500]) (O := [(500, oc 70 [ty x0, ti (x1 + (1 : Int)), T.int .u64 (IntKind.wrap .u64 (n40 + (462197 : Int)))])]) [] (by kernel_rfl) ⟨trivial, (show (0 ≤ (40 : Int) ∧ (40 : Int) < 64) by first | decide | (simp only [maxLen]; omega) | (unfold I64; omega) | (unfold I64; decide)).1, shr_told (show (0 ≤ (40 : Int) ∧ (40 : Int) < 64) by first | decide | (simp only [maxLen]; omega) | (unfold I64; omega) | (unfold I64; decide)), trivial, congrArg (T.int .u64) c3, wrapI c4, trivial⟩ ⟨(WkT.refl _), trivial⟩ rfl rfl (fun _ h => h)
theorem F_p_spec_l1Cur_pick_W (x0 : List Int) (x1 : Int) (x2 : Int) (x3 : Int) (y0 : Int) (y1 : List Int) (y2 : Int) (y3 : Int) (h : F_p_spec_l1Cur_pick x0 x1 x2 x3 = some (y0, y1, y2, y3)) : CG Try.prog 53 [V.ref 500 0, vi x3] [(500, oc 70 [ty x0, ti x1, T.int .u64 x2])] (vi y0) [(500, oc 70 [ty y1, ti y2, T.int .u64 y3])] := by
  unfold F_p_spec_l1Cur_pick at h
  refine CG.intro (tab := tab) tab_ok (fn := Try.f53) Try.func53 (by kernel_rfl) rfl (Nat.le_of_ble_eq_true rfl) (by kernel_rfl) ?_
  refine WP.seq ?_
  refine WP.path tab_ok mixed [] [.keep [4, 0, 1], .keepO [500]] (ps := []) (e := .normal) (σ' := ⟨[500], [(4, vi 0), (0, V.ref 500 0), (1, vi x3)], [(500, oc 70 [ty x0, ti x1, T.int .u64 x2])]⟩) (by kernel_rfl) trivial ?_
  refine WP.seq ?_
  refine WP.seq ?_
  refine WP.path tab_ok mixed [] [.keep [7, 4, 0, 1], .keepO [500]] (ps := [(True)]) (e := .normal) (σ' := ⟨[500], [(7, vb (decide (x3 ≤ (1 : Int)))), (4, vi 0), (0, V.ref 500 0), (1, vi x3)], [(500, oc 70 [ty x0, ti x1, T.int .u64 x2])]⟩) (by kernel_rfl) ⟨trivial, trivial⟩ ?_
  rcases ite_some h with ⟨h1, h⟩ | ⟨h1, h⟩
  · -- yes
    refine WP.cond (b := decide (x3 ≤ (1 : Int))) rfl (fun _ => ?_) (fun hh => by rw [h1] at hh; cases hh)
    simp only [Option.some.injEq, Prod.mk.injEq] at h
    obtain ⟨rfl, rfl, rfl, rfl⟩ := h
    exact WP.pathG tab_ok mixed [] [.keep [4], .keepO [500], .names [(500, 500)]] [500] _ (r' := vi (0 : Int)) (ps := []) (r := vi 0) (N := [500]) (O := [(500, oc 70 [ty x0, ti x1, T.int .u64 x2])]) [] (by kernel_rfl) trivial ⟨(WkT.eq (WkT.refl _) (by first | rfl | (simp only [tlS, tl, vl, vo, oc, ov, tbl, vbl, ty, vy] <;> rfl) | (simp <;> omega) | (simp []; done) | (rw [List.take_of_length_le (by simp [])] <;> rfl))), trivial⟩ rfl rfl (fun _ h => h)
  · -- no
    refine WP.cond (b := decide (x3 ≤ (1 : Int))) rfl (fun hh => by rw [h1] at hh; cases hh) (fun _ => ?_)
    refine WP.path tab_ok mixed [] [.keep [4, 0, 1], .keepO [500]] (ps := []) (e := .normal) (σ' := ⟨[500], [(4, vi 0), (0, V.ref 500 0), (1, vi x3)], [(500, oc 70 [ty x0, ti x1, T.int .u64 x2])]⟩) (by kernel_rfl) trivial ?_
    refine WP.seq ?_
    obtain ⟨r9, r9b, r9c, r9d, c0, h⟩ := bnd4_some h
    refine WP.path tab_ok mixed [(9, An.callG [(500, 500)] [V.ref 500 0] [(500, oc 70 [ty x0, ti x1, T.int .u64 x2])] (vi r9) [(500, oc 70 [ty r9b, ti r9c, T.int .u64 r9d])])] [.keep [5, 4, 0, 1], .keepO [500]] (ps := [(CG Try.prog 119 [V.ref 500 0] [(500, oc 70 [ty x0, ti x1, T.int .u64 x2])] (vi r9) [(500, oc 70 [ty r9b, ti r9c, T.int .u64 r9d])]), ((V.ref 500 0).ren (renF [(500, 500)]) = V.ref 500 0), ((oc 70 [ty x0, ti x1, T.int .u64 x2]) = (oc 70 [ty x0, ti x1, T.int .u64 x2]).ren (renF [(500, 500)]))]) (e := .normal) (σ' := ⟨[500], [(5, vi r9), (4, vi 0), (0, V.ref 500 0), (1, vi x3)], [(500, oc 70 [ty r9b, ti r9c, T.int .u64 r9d])]⟩) (by kernel_rfl) ⟨(F_p_spec_l1Cur_next_W x0 x1 x2 r9 r9b r9c r9d c0), by first | rfl | (simp [V.ren, V.renL, renF, lk]; done) | (simp [V.ren, V.renL, renF, lk]; omega), by first | rfl | (simp only [tlS]; rfl) | (simp [Tl.Obj.ren, V.ren, V.renL, renF, lk]; done), trivial⟩ ?_
    obtain ⟨J1, hJ1, h⟩ := jn_some h
    refine WP.joinA (fun (zz : (List Int) × Int × Int × Int) => ⟨[500], [(5, vi zz.2.2.2), (4, vi 0), (1, vi x3)], [(500, oc 70 [ty zz.1, ti zz.2.1, T.int .u64 zz.2.2.1])]⟩) (fun zz => J1 zz.1 zz.2.1 zz.2.2.1 zz.2.2.2 = some (y0, y1, y2, y3)) ?_ ?_
    · -- to where they meet
      refine WP.seq ?_
      refine WP.path tab_ok mixed [] [.keep [11, 5, 4, 0, 1], .keepO [500]] (ps := [(True)]) (e := .normal) (σ' := ⟨[500], [(11, vb (decide (x3 > (200 : Int)))), (5, vi r9), (4, vi 0), (0, V.ref 500 0), (1, vi x3)], [(500, oc 70 [ty r9b, ti r9c, T.int .u64 r9d])]⟩) (by kernel_rfl) ⟨trivial, trivial⟩ ?_
      rcases ite_some h with ⟨h2, h⟩ | ⟨h2, h⟩
      · -- yes
        refine WP.cond (b := decide (x3 > (200 : Int))) rfl (fun _ => ?_) (fun hh => by rw [h2] at hh; cases hh)
        obtain ⟨c1, h⟩ := chk_some h
        obtain ⟨r15, r15b, r15c, r15d, c2, h⟩ := bnd4_some h
        obtain ⟨c3, h⟩ := chk_some h
        refine WP.path tab_ok mixed [(13, An.v (T.int .i64 (r9 * (256 : Int)))), (15, An.callG [(500, 500)] [V.ref 500 0] [(500, oc 70 [ty r9b, ti r9c, T.int .u64 r9d])] (vi r15) [(500, oc 70 [ty r15b, ti r15c, T.int .u64 r15d])]), (16, An.v (T.int .i64 ((r9 * (256 : Int)) + r15)))] [.keep [5, 4, 1], .keepO [500], .names [(500, 500)]] (ps := [(True), (T.int .i64 (IntKind.wrap .i64 (r9 * (256 : Int))) = T.int .i64 (r9 * (256 : Int))), (CG Try.prog 119 [V.ref 500 0] [(500, oc 70 [ty r9b, ti r9c, T.int .u64 r9d])] (vi r15) [(500, oc 70 [ty r15b, ti r15c, T.int .u64 r15d])]), ((V.ref 500 0).ren (renF [(500, 500)]) = V.ref 500 0), ((oc 70 [ty r9b, ti r9c, T.int .u64 r9d]) = (oc 70 [ty r9b, ti r9c, T.int .u64 r9d]).ren (renF [(500, 500)])), (True), (T.int .i64 (IntKind.wrap .i64 ((r9 * (256 : Int)) + r15)) = T.int .i64 ((r9 * (256 : Int)) + r15))]) (e := .normal) (σ' := ⟨[500], [(5, vi ((r9 * (256 : Int)) + r15)), (4, vi 0), (1, vi x3)], [(500, oc 70 [ty r15b, ti r15c, T.int .u64 r15d])]⟩) (by kernel_rfl) ⟨trivial, wrapI c1, (F_p_spec_l1Cur_next_W r9b r9c r9d r15 r15b r15c r15d c2), by first | rfl | (simp [V.ren, V.renL, renF, lk]; done) | (simp [V.ren, V.renL, renF, lk]; omega), by first | rfl | (simp only [tlS]; rfl) | (simp [Tl.Obj.ren, V.ren, V.renL, renF, lk]; done), trivial, wrapI c3, trivial⟩ ?_
        exact ⟨(r15b, r15c, r15d, ((r9 * (256 : Int)) + r15)), h, rfl⟩
      · -- no
        refine WP.cond (b := decide (x3 > (200 : Int))) rfl (fun hh => by rw [h2] at hh; cases hh) (fun _ => ?_)
        refine WP.path tab_ok mixed [] [.keep [5, 4, 1], .keepO [500], .names [(500, 500)]] (ps := []) (e := .normal) (σ' := ⟨[500], [(5, vi r9), (4, vi 0), (1, vi x3)], [(500, oc 70 [ty r9b, ti r9c, T.int .u64 r9d])]⟩) (by kernel_rfl) trivial ?_
        exact ⟨(r9b, r9c, r9d, r9), h, rfl⟩
    · -- from there
      rintro ⟨o500, o500b, o500c, v5⟩ h0
      have h := (show J1 o500 o500b o500c v5 = some (y0, y1, y2, y3) from h0)
      rw [hJ1] at h
      obtain ⟨c1, h⟩ := chk_some h
      simp only [Option.some.injEq, Prod.mk.injEq] at h
      obtain ⟨rfl, rfl, rfl, rfl⟩ := h
      exact WP.pathG tab_ok mixed [] [.keep [4], .keepO [500], .names [(500, 500)]] [500] _ (r' := vi (Int.tmod v5 x3)) (ps := [(x3 ≠ 0)]) (r := vi (Int.tmod v5 x3)) (N := [500]) (O := [(500, oc 70 [ty o500, ti o500b, T.int .u64 o500c])]) [] (by kernel_rfl) ⟨c1, trivial⟩ ⟨(WkT.refl _), trivial⟩ rfl rfl (fun _ h => h)
theorem F_p_spec_l1Cur_among_W (x0 : List Int) (x1 : Int) (x2 : Int) (x3 : List Int) (y0 : Int) (y1 : List Int) (y2 : Int) (y3 : Int) (h : F_p_spec_l1Cur_among x0 x1 x2 x3 = some (y0, y1, y2, y3)) : CG Try.prog 51 [V.ref 500 0, vl x3] [(500, oc 70 [ty x0, ti x1, T.int .u64 x2])] (vi y0) [(500, oc 70 [ty y1, ti y2, T.int .u64 y3])] := by
  unfold F_p_spec_l1Cur_among at h
  refine CG.intro (tab := tab) tab_ok (fn := Try.f51) Try.func51 (by kernel_rfl) rfl (Nat.le_of_ble_eq_true rfl) (by kernel_rfl) ?_
  obtain ⟨r9, r9b, r9c, r9d, c0, h⟩ := bnd4_some h
  obtain ⟨c1, h⟩ := chk_some h
  simp only [Option.some.injEq, Prod.mk.injEq] at h
  obtain ⟨rfl, rfl, rfl, rfl⟩ := h
  exact WP.pathG tab_ok mixed [(9, An.callG [(500, 500)] [V.ref 500 0, vi ((List.length x3 : Nat) : Int)] [(500, oc 70 [ty x0, ti x1, T.int .u64 x2])] (vi r9) [(500, oc 70 [ty r9b, ti r9c, T.int .u64 r9d])]), (11, An.v (ti (List.getD x3 (Int.toNat r9) 0)))] [.keep [4], .keepO [500], .names [(500, 500)]] [500] _ (r' := vi (List.getD x3 (Int.toNat r9) 0)) (ps := [(CG Try.prog 53 [V.ref 500 0, vi ((List.length x3 : Nat) : Int)] [(500, oc 70 [ty x0, ti x1, T.int .u64 x2])] (vi r9) [(500, oc 70 [ty r9b, ti r9c, T.int .u64 r9d])]), ((V.ref 500 0).ren (renF [(500, 500)]) = V.ref 500 0), (WkT (ti ((List.length x3 : Nat) : Int)) (ti ((List.length x3 : Nat) : Int))), ((oc 70 [ty x0, ti x1, T.int .u64 x2]) = (oc 70 [ty x0, ti x1, T.int .u64 x2]).ren (renF [(500, 500)])), ((0 ≤ r9 ∧ r9 < ((List.length x3 : Nat) : Int))), ((List.drop ((Int.toNat r9) * 1) (List.map (T.int .i64) x3) : List T)[0]? = some (ti (List.getD x3 (Int.toNat r9) 0))), (ti (List.getD x3 (Int.toNat r9) 0) = ti (List.getD x3 (Int.toNat r9) 0))]) (r := vi (List.getD x3 (Int.toNat r9) 0)) (N := [500]) (O := [(500, oc 70 [ty r9b, ti r9c, T.int .u64 r9d])]) [] (by kernel_rfl) ⟨(F_p_spec_l1Cur_pick_W x0 x1 x2 ((List.length x3 : Nat) : Int) r9 r9b r9c r9d c0), by first | rfl | (simp [V.ren, V.renL, renF, lk]; done) | (simp [V.ren, V.renL, renF, lk]; omega), WkT.refl _, by first | rfl | (simp only [tlS]; rfl) | (simp [Tl.Obj.ren, V.ren, V.renL, renF, lk]; done), c1, at1 (by simp) (by omega), rfl, trivial⟩ ⟨(WkT.refl _), trivial⟩ rfl rfl (fun _ h => h)
theorem F_p_spec_l1Cur_one_W (x0 : List Int) (x1 : Int) (x2 : Int) (x3 : Int) (y0 : Bool) (y1 : List Int) (y2 : Int) (y3 : Int) (h : F_p_spec_l1Cur_one x0 x1 x2 x3 = some (y0, y1, y2, y3)) : CG Try.prog 117 [V.ref 500 0, vi x3] [(500, oc 70 [ty x0, ti x1, T.int .u64 x2])] (vb y0) [(500, oc 70 [ty y1, ti y2, T.int .u64 y3])] := by
  unfold F_p_spec_l1Cur_one at h
  refine CG.intro (tab := tab) tab_ok (fn := Try.f117) Try.func117 (by kernel_rfl) rfl (Nat.le_of_ble_eq_true rfl) (by kernel_rfl) ?_
  obtain ⟨r7, r7b, r7c, r7d, c0, h⟩ := bnd4_some h
  simp only [Option.some.injEq, Prod.mk.injEq] at h
  obtain ⟨rfl, rfl, rfl, rfl⟩ := h
  exact WP.pathG tab_ok mixed [(7, An.callG [(500, 500)] [V.ref 500 0, vi x3] [(500, oc 70 [ty x0, ti x1, T.int .u64 x2])] (vi r7) [(500, oc 70 [ty r7b, ti r7c, T.int .u64 r7d])])] [.keep [4], .keepO [500], .names [(500, 500)]] [500] _ (r' := vb (r7 == (0 : Int))) (ps := [(CG Try.prog 53 [V.ref 500 0, vi x3] [(500, oc 70 [ty x0, ti x1, T.int .u64 x2])] (vi r7) [(500, oc 70 [ty r7b, ti r7c, T.int .u64 r7d])]), ((V.ref 500 0).ren (renF [(500, 500)]) = V.ref 500 0), (WkT (ti x3) (ti x3)), ((oc 70 [ty x0, ti x1, T.int .u64 x2]) = (oc 70 [ty x0, ti x1, T.int .u64 x2]).ren (renF [(500, 500)])), (True)]) (r := vb (r7 == (0 : Int))) (N := [500]) (O := [(500, oc 70 [ty r7b, ti r7c, T.int .u64 r7d])]) [] (by kernel_rfl) ⟨(F_p_spec_l1Cur_pick_W x0 x1 x2 x3 r7 r7b r7c r7d c0), by first | rfl | (simp [V.ren, V.renL, renF, lk]; done) | (simp [V.ren, V.renL, renF, lk]; omega), WkT.refl _, by first | rfl | (simp only [tlS]; rfl) | (simp [Tl.Obj.ren, V.ren, V.renL, renF, lk]; done), trivial, trivial⟩ ⟨(WkT.refl _), trivial⟩ rfl rfl (fun _ h => h)
theorem F_p_spec_l1Cur_lies_W (x0 : List Int) (x1 : Int) (x2 : Int) (y0 : Int) (y1 : List Int) (y2 : Int) (y3 : Int) (h : F_p_spec_l1Cur_lies x0 x1 x2 = some (y0, y1, y2, y3)) : CG Try.prog 109 [V.ref 500 0] [(500, oc 70 [ty x0, ti x1, T.int .u64 x2])] (vi y0) [(500, oc 70 [ty y1, ti y2, T.int .u64 y3])] := by
  unfold F_p_spec_l1Cur_lies at h
  refine CG.intro (tab := tab) tab_ok (fn := Try.f109) Try.func109 (by kernel_rfl) rfl (Nat.le_of_ble_eq_true rfl) (by kernel_rfl) ?_
  obtain ⟨r5, r5b, r5c, r5d, c0, h⟩ := bnd4_some h
  simp only [Option.some.injEq, Prod.mk.injEq] at h
  obtain ⟨rfl, rfl, rfl, rfl⟩ := h
  exact WP.pathG tab_ok mixed [(4, An.fz), (5, An.callG [(500, 500)] [V.ref 500 0, vl [(1 : Int), (1 : Int), (2 : Int), (0 : Int), (1 : Int), (2 : Int), (1 : Int), (3 : Int), (-1 : Int), (1 : Int), (2 : Int), (0 : Int)]] [(500, oc 70 [ty x0, ti x1, T.int .u64 x2])] (vi r5) [(500, oc 70 [ty r5b, ti r5c, T.int .u64 r5d])])] [.keep [2], .keepO [500], .names [(500, 500)]] [500] _ (r' := vi r5) (ps := [((1 = 1 ∧ 0 + 1 ≤ 12) ∧ (1 = 1 ∧ 1 + 1 ≤ 12) ∧ (1 = 1 ∧ 2 + 1 ≤ 12) ∧ (1 = 1 ∧ 3 + 1 ≤ 12) ∧ (1 = 1 ∧ 4 + 1 ≤ 12) ∧ (1 = 1 ∧ 5 + 1 ≤ 12) ∧ (1 = 1 ∧ 6 + 1 ≤ 12) ∧ (1 = 1 ∧ 7 + 1 ≤ 12) ∧ (1 = 1 ∧ 8 + 1 ≤ 12) ∧ (1 = 1 ∧ 9 + 1 ≤ 12) ∧ (1 = 1 ∧ 10 + 1 ≤ 12) ∧ (1 = 1 ∧ 11 + 1 ≤ 12) ∧ True), (12 = 12 * 1), (CG Try.prog 51 [V.ref 500 0, vl [(1 : Int), (1 : Int), (2 : Int), (0 : Int), (1 : Int), (2 : Int), (1 : Int), (3 : Int), (-1 : Int), (1 : Int), (2 : Int), (0 : Int)]] [(500, oc 70 [ty x0, ti x1, T.int .u64 x2])] (vi r5) [(500, oc 70 [ty r5b, ti r5c, T.int .u64 r5d])]), ((V.ref 500 0).ren (renF [(500, 500)]) = V.ref 500 0), (WkT (T.list 12 1 [ti 1, ti 1, ti 2, ti 0, ti 1, ti 2, ti 1, ti 3, ti (-1), ti 1, ti 2, ti 0]) (tl [(1 : Int), (1 : Int), (2 : Int), (0 : Int), (1 : Int), (2 : Int), (1 : Int), (3 : Int), (-1 : Int), (1 : Int), (2 : Int), (0 : Int)])), ((oc 70 [ty x0, ti x1, T.int .u64 x2]) = (oc 70 [ty x0, ti x1, T.int .u64 x2]).ren (renF [(500, 500)]))]) (r := vi r5) (N := [500]) (O := [(500, oc 70 [ty r5b, ti r5c, T.int .u64 r5d])]) [] (by kernel_rfl) ⟨⟨⟨by first | rfl | (simp; done) | (simp []; done) | omega, by first | decide | (simp; done) | (simp []; done) | omega | (simp only [tlL]; omega) | (simp; omega)⟩, ⟨by first | rfl | (simp; done) | (simp []; done) | omega, by first | decide | (simp; done) | (simp []; done) | omega | (simp only [tlL]; omega) | (simp; omega)⟩, ⟨by first | rfl | (simp; done) | (simp []; done) | omega, by first | decide | (simp; done) | (simp []; done) | omega | (simp only [tlL]; omega) | (simp; omega)⟩, ⟨by first | rfl | (simp; done) | (simp []; done) | omega, by first | decide | (simp; done) | (simp []; done) | omega | (simp only [tlL]; omega) | (simp; omega)⟩, ⟨by first | rfl | (simp; done) | (simp []; done) | omega, by first | decide | (simp; done) | (simp []; done) | omega | (simp only [tlL]; omega) | (simp; omega)⟩, ⟨by first | rfl | (simp; done) | (simp []; done) | omega, by first | decide | (simp; done) | (simp []; done) | omega | (simp only [tlL]; omega) | (simp; omega)⟩, ⟨by first | rfl | (simp; done) | (simp []; done) | omega, by first | decide | (simp; done) | (simp []; done) | omega | (simp only [tlL]; omega) | (simp; omega)⟩, ⟨by first | rfl | (simp; done) | (simp []; done) | omega, by first | decide | (simp; done) | (simp []; done) | omega | (simp only [tlL]; omega) | (simp; omega)⟩, ⟨by first | rfl | (simp; done) | (simp []; done) | omega, by first | decide | (simp; done) | (simp []; done) | omega | (simp only [tlL]; omega) | (simp; omega)⟩, ⟨by first | rfl | (simp; done) | (simp []; done) | omega, by first | decide | (simp; done) | (simp []; done) | omega | (simp only [tlL]; omega) | (simp; omega)⟩, ⟨by first | rfl | (simp; done) | (simp []; done) | omega, by first | decide | (simp; done) | (simp []; done) | omega | (simp only [tlL]; omega) | (simp; omega)⟩, ⟨by first | rfl | (simp; done) | (simp []; done) | omega, by first | decide | (simp; done) | (simp []; done) | omega | (simp only [tlL]; omega) | (simp; omega)⟩, trivial⟩, by decide, (F_p_spec_l1Cur_among_W x0 x1 x2 [(1 : Int), (1 : Int), (2 : Int), (0 : Int), (1 : Int), (2 : Int), (1 : Int), (3 : Int), (-1 : Int), (1 : Int), (2 : Int), (0 : Int)] r5 r5b r5c r5d c0), by first | rfl | (simp [V.ren, V.renL, renF, lk]; done) | (simp [V.ren, V.renL, renF, lk]; omega), WkT.eq (WkT.refl _) (by first | rfl | (simp only [tlS, tl, vl, vo, oc, ov, tbl, vbl, ty, vy] <;> rfl) | (simp <;> omega) | (simp []; done) | (rw [List.take_of_length_le (by simp [])] <;> rfl)), by first | rfl | (simp only [tlS]; rfl) | (simp [Tl.Obj.ren, V.ren, V.renL, renF, lk]; done), trivial⟩ ⟨(WkT.refl _), trivial⟩ rfl rfl (fun _ h => h)
theorem F_p_spec_l1Cur_many_W (x0 : List Int) (x1 : Int) (x2 : Int) (y0 : Int) (y1 : List Int) (y2 : Int) (y3 : Int) (h : F_p_spec_l1Cur_many x0 x1 x2 = some (y0, y1, y2, y3)) : CG Try.prog 160 [V.ref 500 0] [(500, oc 70 [ty x0, ti x1, T.int .u64 x2])] (vi y0) [(500, oc 70 [ty y1, ti y2, T.int .u64 y3])] := by
  unfold F_p_spec_l1Cur_many at h
  refine CG.intro (tab := tab) tab_ok (fn := Try.f160) Try.func160 (by kernel_rfl) rfl (Nat.le_of_ble_eq_true rfl) (by kernel_rfl) ?_
  obtain ⟨r5, r5b, r5c, r5d, c0, h⟩ := bnd4_some h
  simp only [Option.some.injEq, Prod.mk.injEq] at h
  obtain ⟨rfl, rfl, rfl, rfl⟩ := h
  exact WP.pathG tab_ok mixed [(4, An.fz), (5, An.callG [(500, 500)] [V.ref 500 0, vl [(4 : Int), (6 : Int), (8 : Int), (3 : Int), (5 : Int), (2 : Int), (7 : Int), (12 : Int), (1 : Int), (0 : Int), (13 : Int), (4 : Int), (6 : Int), (8 : Int), (3 : Int), (5 : Int)]] [(500, oc 70 [ty x0, ti x1, T.int .u64 x2])] (vi r5) [(500, oc 70 [ty r5b, ti r5c, T.int .u64 r5d])])] [.keep [2], .keepO [500], .names [(500, 500)]] [500] _ (r' := vi r5) (ps := [((1 = 1 ∧ 0 + 1 ≤ 16) ∧ (1 = 1 ∧ 1 + 1 ≤ 16) ∧ (1 = 1 ∧ 2 + 1 ≤ 16) ∧ (1 = 1 ∧ 3 + 1 ≤ 16) ∧ (1 = 1 ∧ 4 + 1 ≤ 16) ∧ (1 = 1 ∧ 5 + 1 ≤ 16) ∧ (1 = 1 ∧ 6 + 1 ≤ 16) ∧ (1 = 1 ∧ 7 + 1 ≤ 16) ∧ (1 = 1 ∧ 8 + 1 ≤ 16) ∧ (1 = 1 ∧ 9 + 1 ≤ 16) ∧ (1 = 1 ∧ 10 + 1 ≤ 16) ∧ (1 = 1 ∧ 11 + 1 ≤ 16) ∧ (1 = 1 ∧ 12 + 1 ≤ 16) ∧ (1 = 1 ∧ 13 + 1 ≤ 16) ∧ (1 = 1 ∧ 14 + 1 ≤ 16) ∧ (1 = 1 ∧ 15 + 1 ≤ 16) ∧ True), (16 = 16 * 1), (CG Try.prog 51 [V.ref 500 0, vl [(4 : Int), (6 : Int), (8 : Int), (3 : Int), (5 : Int), (2 : Int), (7 : Int), (12 : Int), (1 : Int), (0 : Int), (13 : Int), (4 : Int), (6 : Int), (8 : Int), (3 : Int), (5 : Int)]] [(500, oc 70 [ty x0, ti x1, T.int .u64 x2])] (vi r5) [(500, oc 70 [ty r5b, ti r5c, T.int .u64 r5d])]), ((V.ref 500 0).ren (renF [(500, 500)]) = V.ref 500 0), (WkT (T.list 16 1 [ti 4, ti 6, ti 8, ti 3, ti 5, ti 2, ti 7, ti 12, ti 1, ti 0, ti 13, ti 4, ti 6, ti 8, ti 3, ti 5]) (tl [(4 : Int), (6 : Int), (8 : Int), (3 : Int), (5 : Int), (2 : Int), (7 : Int), (12 : Int), (1 : Int), (0 : Int), (13 : Int), (4 : Int), (6 : Int), (8 : Int), (3 : Int), (5 : Int)])), ((oc 70 [ty x0, ti x1, T.int .u64 x2]) = (oc 70 [ty x0, ti x1, T.int .u64 x2]).ren (renF [(500, 500)]))]) (r := vi r5) (N := [500]) (O := [(500, oc 70 [ty r5b, ti r5c, T.int .u64 r5d])]) [] (by kernel_rfl) ⟨⟨⟨by first | rfl | (simp; done) | (simp []; done) | omega, by first | decide | (simp; done) | (simp []; done) | omega | (simp only [tlL]; omega) | (simp; omega)⟩, ⟨by first | rfl | (simp; done) | (simp []; done) | omega, by first | decide | (simp; done) | (simp []; done) | omega | (simp only [tlL]; omega) | (simp; omega)⟩, ⟨by first | rfl | (simp; done) | (simp []; done) | omega, by first | decide | (simp; done) | (simp []; done) | omega | (simp only [tlL]; omega) | (simp; omega)⟩, ⟨by first | rfl | (simp; done) | (simp []; done) | omega, by first | decide | (simp; done) | (simp []; done) | omega | (simp only [tlL]; omega) | (simp; omega)⟩, ⟨by first | rfl | (simp; done) | (simp []; done) | omega, by first | decide | (simp; done) | (simp []; done) | omega | (simp only [tlL]; omega) | (simp; omega)⟩, ⟨by first | rfl | (simp; done) | (simp []; done) | omega, by first | decide | (simp; done) | (simp []; done) | omega | (simp only [tlL]; omega) | (simp; omega)⟩, ⟨by first | rfl | (simp; done) | (simp []; done) | omega, by first | decide | (simp; done) | (simp []; done) | omega | (simp only [tlL]; omega) | (simp; omega)⟩, ⟨by first | rfl | (simp; done) | (simp []; done) | omega, by first | decide | (simp; done) | (simp []; done) | omega | (simp only [tlL]; omega) | (simp; omega)⟩, ⟨by first | rfl | (simp; done) | (simp []; done) | omega, by first | decide | (simp; done) | (simp []; done) | omega | (simp only [tlL]; omega) | (simp; omega)⟩, ⟨by first | rfl | (simp; done) | (simp []; done) | omega, by first | decide | (simp; done) | (simp []; done) | omega | (simp only [tlL]; omega) | (simp; omega)⟩, ⟨by first | rfl | (simp; done) | (simp []; done) | omega, by first | decide | (simp; done) | (simp []; done) | omega | (simp only [tlL]; omega) | (simp; omega)⟩, ⟨by first | rfl | (simp; done) | (simp []; done) | omega, by first | decide | (simp; done) | (simp []; done) | omega | (simp only [tlL]; omega) | (simp; omega)⟩, ⟨by first | rfl | (simp; done) | (simp []; done) | omega, by first | decide | (simp; done) | (simp []; done) | omega | (simp only [tlL]; omega) | (simp; omega)⟩, ⟨by first | rfl | (simp; done) | (simp []; done) | omega, by first | decide | (simp; done) | (simp []; done) | omega | (simp only [tlL]; omega) | (simp; omega)⟩, ⟨by first | rfl | (simp; done) | (simp []; done) | omega, by first | decide | (simp; done) | (simp []; done) | omega | (simp only [tlL]; omega) | (simp; omega)⟩, ⟨by first | rfl | (simp; done) | (simp []; done) | omega, by first | decide | (simp; done) | (simp []; done) | omega | (simp only [tlL]; omega) | (simp; omega)⟩, trivial⟩, by decide, (F_p_spec_l1Cur_among_W x0 x1 x2 [(4 : Int), (6 : Int), (8 : Int), (3 : Int), (5 : Int), (2 : Int), (7 : Int), (12 : Int), (1 : Int), (0 : Int), (13 : Int), (4 : Int), (6 : Int), (8 : Int), (3 : Int), (5 : Int)] r5 r5b r5c r5d c0), by first | rfl | (simp [V.ren, V.renL, renF, lk]; done) | (simp [V.ren, V.renL, renF, lk]; omega), WkT.eq (WkT.refl _) (by first | rfl | (simp only [tlS, tl, vl, vo, oc, ov, tbl, vbl, ty, vy] <;> rfl) | (simp <;> omega) | (simp []; done) | (rw [List.take_of_length_le (by simp [])] <;> rfl)), by first | rfl | (simp only [tlS]; rfl) | (simp [Tl.Obj.ren, V.ren, V.renL, renF, lk]; done), trivial⟩ ⟨(WkT.refl _), trivial⟩ rfl rfl (fun _ h => h)
theorem F_p_spec_l1Cur_state_W (x0 : List Int) (x1 : Int) (x2 : Int) (y0 : List Int) (y1 : Int) (y2 : List Int) (y3 : Int) (y4 : Int) (h : F_p_spec_l1Cur_state x0 x1 x2 = some (y0, y1, y2, y3, y4)) : CG Try.prog 118 [V.ref 500 0] [(500, oc 70 [ty x0, ti x1, T.int .u64 x2])] (V.agg [vo 9000 (List.length y0), vi y1]) [(500, oc 70 [ty y2, ti y3, T.int .u64 y4]), (9000, oc 3 (List.map (T.int .i64) y0))] := by
  unfold F_p_spec_l1Cur_state at h
  refine CG.intro (tab := tab) tab_ok (fn := Try.f118) Try.func118 (by kernel_rfl) rfl (Nat.le_of_ble_eq_true rfl) (by kernel_rfl) ?_
  refine WP.seq ?_
  refine WP.path tab_ok mixed [(2, An.id 2002)] [.keep [2, 0], .keepO [500, 2002]] (ps := []) (e := .normal) (σ' := ⟨[2002, 500], [(2, V.ref 2002 0), (0, V.ref 500 0)], [(500, oc 70 [ty x0, ti x1, T.int .u64 x2]), (2002, oc 26 [T.nils, ti 0])]⟩) (by kernel_rfl) trivial ?_
  refine WP.seq ?_
  obtain ⟨r9, r9b, r9c, r9d, c0, h⟩ := bnd4_some h
  obtain ⟨r11, r11b, r11c, r11d, c1, h⟩ := bnd4_some h
  refine WP.path tab_ok mixed [(9, An.callG [(500, 500)] [V.ref 500 0] [(500, oc 70 [ty x0, ti x1, T.int .u64 x2])] (vi r9) [(500, oc 70 [ty r9b, ti r9c, T.int .u64 r9d])]), (11, An.callG [(500, 500)] [V.ref 500 0] [(500, oc 70 [ty r9b, ti r9c, T.int .u64 r9d])] (vi r11) [(500, oc 70 [ty r11b, ti r11c, T.int .u64 r11d])])] [.keep [4, 3, 2, 0], .keepO [500, 2002]] (ps := [(CG Try.prog 109 [V.ref 500 0] [(500, oc 70 [ty x0, ti x1, T.int .u64 x2])] (vi r9) [(500, oc 70 [ty r9b, ti r9c, T.int .u64 r9d])]), ((V.ref 500 0).ren (renF [(500, 500)]) = V.ref 500 0), ((oc 70 [ty x0, ti x1, T.int .u64 x2]) = (oc 70 [ty x0, ti x1, T.int .u64 x2]).ren (renF [(500, 500)])), (CG Try.prog 160 [V.ref 500 0] [(500, oc 70 [ty r9b, ti r9c, T.int .u64 r9d])] (vi r11) [(500, oc 70 [ty r11b, ti r11c, T.int .u64 r11d])]), ((V.ref 500 0).ren (renF [(500, 500)]) = V.ref 500 0), ((oc 70 [ty r9b, ti r9c, T.int .u64 r9d]) = (oc 70 [ty r9b, ti r9c, T.int .u64 r9d]).ren (renF [(500, 500)]))]) (e := .normal) (σ' := ⟨[2002, 500], [(4, vi r11), (3, vi r9), (2, V.ref 2002 0), (0, V.ref 500 0)], [(500, oc 70 [ty r11b, ti r11c, T.int .u64 r11d]), (2002, oc 26 [T.nils, ti 0])]⟩) (by kernel_rfl) ⟨(F_p_spec_l1Cur_lies_W x0 x1 x2 r9 r9b r9c r9d c0), by first | rfl | (simp [V.ren, V.renL, renF, lk]; done) | (simp [V.ren, V.renL, renF, lk]; omega), by first | rfl | (simp only [tlS]; rfl) | (simp [Tl.Obj.ren, V.ren, V.renL, renF, lk]; done), (F_p_spec_l1Cur_many_W r9b r9c r9d r11 r11b r11c r11d c1), by first | rfl | (simp [V.ren, V.renL, renF, lk]; done) | (simp [V.ren, V.renL, renF, lk]; omega), by first | rfl | (simp only [tlS]; rfl) | (simp [Tl.Obj.ren, V.ren, V.renL, renF, lk]; done), trivial⟩ ?_
  refine WP.seq ?_
  refine WP.path tab_ok mixed [(12, An.id 2012), (5, An.id 2005)] [.keep [5, 4, 3, 2, 0], .keepO [500, 2002, 2005, 2012]] (ps := [(True), (0 = 0 * 1), ((1 = 1 ∧ 0 + 1 ≤ 2) ∧ (1 = 1 ∧ 1 + 1 ≤ 2) ∧ True), ((0 + 2 ≤ 2 ∧ 2 = 2))]) (e := .normal) (σ' := ⟨[2005, 2012, 2002, 500], [(5, V.ref 2005 0), (4, vi r11), (3, vi r9), (2, V.ref 2002 0), (0, V.ref 500 0)], [(500, oc 70 [ty r11b, ti r11c, T.int .u64 r11d]), (2002, oc 26 [T.nils, ti 0]), (2005, ov 26 [vo 2012 0, vi r9]), (2012, oc 3 [])]⟩) (by kernel_rfl) ⟨trivial, by decide, ⟨⟨by decide, by decide⟩, ⟨by decide, by decide⟩, trivial⟩, by decide, trivial⟩ ?_
  obtain ⟨J1, hJ1, h⟩ := jn_some h
  refine WP.joinA (fun (zz : (List Int) × Int × Int × (List Int)) => ⟨[500, 2002, 2005, 2012], [(5, V.ref 2005 0), (4, vi r11), (3, vi r9), (2, V.ref 2002 0), (0, V.ref 500 0)], [(500, oc 70 [ty zz.1, ti zz.2.1, T.int .u64 zz.2.2.1]), (2002, oc 26 [T.nils, ti 0]), (2005, ov 26 [vo 2012 (List.length zz.2.2.2), vi r9]), (2012, oc 3 (List.map (T.int .i64) zz.2.2.2))]⟩) (fun zz => J1 zz.1 zz.2.1 zz.2.2.1 zz.2.2.2 = some (y0, y1, y2, y3, y4)) ?_ ?_
  · -- to where they meet
    refine WP.seq ?_
    refine WP.path tab_ok mixed [] [.keep [6, 5, 4, 3, 2, 0], .keepO [500, 2002, 2005, 2012]] (ps := []) (e := .normal) (σ' := ⟨[2005, 2012, 2002, 500], [(6, vi 0), (5, V.ref 2005 0), (4, vi r11), (3, vi r9), (2, V.ref 2002 0), (0, V.ref 500 0)], [(500, oc 70 [ty r11b, ti r11c, T.int .u64 r11d]), (2002, oc 26 [T.nils, ti 0]), (2005, ov 26 [vo 2012 0, vi r9]), (2012, oc 3 [])]⟩) (by kernel_rfl) trivial ?_
    refine WP.block ?_
    refine WP.wk [.keep [6, 5, 4, 3, 2, 0], .keepO [500, 2002, 2005, 2012], .names [(500, 500), (2002, 2002), (2005, 2005), (2012, 2012)]] (σ' := ⟨[500, 2002, 2005, 2012], [(6, vi 0), (5, V.ref 2005 0), (4, vi r11), (3, vi r9), (2, V.ref 2002 0), (0, V.ref 500 0)], [(500, oc 70 [ty r11b, ti r11c, T.int .u64 r11d]), (2002, oc 26 [T.nils, ti 0]), (2005, ov 26 [vo 2012 0, vi r9]), (2012, oc 3 [])]⟩) (ps := []) (by kernel_rfl) trivial ?_
    refine WP.st (σ' := ⟨[500, 2002, 2005, 2012], [(6, vi (0 : Int)), (5, V.ref 2005 0), (4, vi r11), (3, vi r9), (2, V.ref 2002 0), (0, V.ref 500 0)], [(500, oc 70 [ty r11b, ti r11c, T.int .u64 r11d]), (2002, oc 26 [T.nils, ti 0]), (2005, ov 26 [vo 2012 (List.length ([] : List Int)), vi r9]), (2012, oc 3 (List.map (T.int .i64) ([] : List Int)))]⟩) (by first | rfl | (simp only [tlS, tl, vl, vo, oc, ov, tbl, vbl, ty, vy] <;> rfl) | (simp <;> omega) | (simp []; done) | (rw [List.take_of_length_le (by simp [])] <;> rfl)) ?_
    refine WP.loop (α := Nat × (List Int) × Int × Int × (List Int) × Int) (fun zz => ⟨[500, 2002, 2005, 2012], [(6, vi zz.2.2.2.2.2), (5, V.ref 2005 0), (4, vi r11), (3, vi r9), (2, V.ref 2002 0), (0, V.ref 500 0)], [(500, oc 70 [ty zz.2.1, ti zz.2.2.1, T.int .u64 zz.2.2.2.1]), (2002, oc 26 [T.nils, ti 0]), (2005, ov 26 [vo 2012 (List.length zz.2.2.2.2.1), vi r9]), (2012, oc 3 (List.map (T.int .i64) zz.2.2.2.2.1))]⟩) (fun zz => F_p_spec_l1Cur_state_L1 r9 r11 J1 zz.1 zz.2.1 zz.2.2.1 zz.2.2.2.1 zz.2.2.2.2.1 zz.2.2.2.2.2 = some (y0, y1, y2, y3, y4)) (fun zz => zz.1) (fuel, r11b, r11c, r11d, ([] : List Int), (0 : Int)) h ?_
    rintro ⟨n, o500, o500b, o500c, o12, v6⟩ h0
    have h := (show F_p_spec_l1Cur_state_L1 r9 r11 J1 n o500 o500b o500c o12 v6 = some (y0, y1, y2, y3, y4) from h0)
    rcases n with _ | n
    · rw [F_p_spec_l1Cur_state_L1] at h; cases h
    · rw [F_p_spec_l1Cur_state_L1] at h
      refine WP.seq ?_
      refine WP.seq ?_
      refine WP.path tab_ok mixed [] [.keep [17, 6, 5, 4, 3, 2, 0], .keepO [500, 2002, 2005, 2012]] (ps := [(True)]) (e := .normal) (σ' := ⟨[500, 2002, 2005, 2012], [(17, vb (decide (v6 < r11))), (6, vi v6), (5, V.ref 2005 0), (4, vi r11), (3, vi r9), (2, V.ref 2002 0), (0, V.ref 500 0)], [(500, oc 70 [ty o500, ti o500b, T.int .u64 o500c]), (2002, oc 26 [T.nils, ti 0]), (2005, ov 26 [vo 2012 (List.length o12), vi r9]), (2012, oc 3 (List.map (T.int .i64) o12))]⟩) (by kernel_rfl) ⟨trivial, trivial⟩ ?_
      rcases ite_some h with ⟨h1, h⟩ | ⟨h1, h⟩
      · -- yes
        refine WP.cond (b := decide (v6 < r11)) rfl (fun _ => ?_) (fun hh => by rw [h1] at hh; cases hh)
        refine WP.path tab_ok mixed [] [.keep [6, 5, 4, 3, 2, 0], .keepO [500, 2002, 2005, 2012]] (ps := []) (e := .normal) (σ' := ⟨[500, 2002, 2005, 2012], [(6, vi v6), (5, V.ref 2005 0), (4, vi r11), (3, vi r9), (2, V.ref 2002 0), (0, V.ref 500 0)], [(500, oc 70 [ty o500, ti o500b, T.int .u64 o500c]), (2002, oc 26 [T.nils, ti 0]), (2005, ov 26 [vo 2012 (List.length o12), vi r9]), (2012, oc 3 (List.map (T.int .i64) o12))]⟩) (by kernel_rfl) trivial ?_
        refine WP.seq ?_
        refine WP.block ?_
        obtain ⟨c2, h⟩ := chk_some h
        obtain ⟨r26, r26b, r26c, r26d, c3, h⟩ := bnd4_some h
        obtain ⟨r28, r28b, r28c, r28d, c4, h⟩ := bnd4_some h
        obtain ⟨c5, h⟩ := chk_some h
        obtain ⟨c6, h⟩ := chk_some h
        obtain ⟨c7, h⟩ := chk_some h
        refine WP.path tab_ok mixed [(24, An.v (T.int .i64 (r9 + (2 : Int)))), (25, An.call (ti (maxN (1 : Int) (r9 + (2 : Int))))), (26, An.callG [(500, 500)] [V.ref 500 0, vi (maxN (1 : Int) (r9 + (2 : Int)))] [(500, oc 70 [ty o500, ti o500b, T.int .u64 o500c])] (vi r26) [(500, oc 70 [ty r26b, ti r26c, T.int .u64 r26d])]), (28, An.callG [(500, 500)] [V.ref 500 0, vi 6] [(500, oc 70 [ty r26b, ti r26c, T.int .u64 r26d])] (vi r28) [(500, oc 70 [ty r28b, ti r28c, T.int .u64 r28d])]), (29, An.v (T.int .i64 (Int.tdiv r28 (5 : Int)))), (30, An.v (T.int .i64 (r26 - (Int.tdiv r28 (5 : Int))))), (31, An.fz), (32, An.id 2032)] [.keep [6, 5, 4, 3, 2, 0], .keepO [500, 2002, 2005, 2032]] (ps := [(True), (True), (T.int .i64 (IntKind.wrap .i64 (r9 + (2 : Int))) = T.int .i64 (r9 + (2 : Int))), (C Try.prog 54 [ti 1, ti (r9 + (2 : Int))] (ti (maxN (1 : Int) (r9 + (2 : Int))))), (CG Try.prog 53 [V.ref 500 0, vi (maxN (1 : Int) (r9 + (2 : Int)))] [(500, oc 70 [ty o500, ti o500b, T.int .u64 o500c])] (vi r26) [(500, oc 70 [ty r26b, ti r26c, T.int .u64 r26d])]), ((V.ref 500 0).ren (renF [(500, 500)]) = V.ref 500 0), (WkT (ti (maxN (1 : Int) (r9 + (2 : Int)))) (ti (maxN (1 : Int) (r9 + (2 : Int))))), ((oc 70 [ty o500, ti o500b, T.int .u64 o500c]) = (oc 70 [ty o500, ti o500b, T.int .u64 o500c]).ren (renF [(500, 500)])), (CG Try.prog 53 [V.ref 500 0, vi 6] [(500, oc 70 [ty r26b, ti r26c, T.int .u64 r26d])] (vi r28) [(500, oc 70 [ty r28b, ti r28c, T.int .u64 r28d])]), ((V.ref 500 0).ren (renF [(500, 500)]) = V.ref 500 0), (WkT (ti 6) (ti 6)), ((oc 70 [ty r26b, ti r26c, T.int .u64 r26d]) = (oc 70 [ty r26b, ti r26c, T.int .u64 r26d]).ren (renF [(500, 500)])), ((5 : Int) ≠ 0), (T.int .i64 (IntKind.wrap .i64 (Int.tdiv r28 (5 : Int))) = T.int .i64 (Int.tdiv r28 (5 : Int))), (True), (T.int .i64 (IntKind.wrap .i64 (r26 - (Int.tdiv r28 (5 : Int)))) = T.int .i64 (r26 - (Int.tdiv r28 (5 : Int)))), ((1 = 1 ∧ 0 + 1 ≤ 1) ∧ True), (1 = 1 * 1), (True), (List.length (List.map (T.int .i64) o12) = (List.length o12) * 1), ((((List.length o12) + 1) * 8 ≤ 140737488355328 ∧ (List.length o12) + 1 ≤ maxLen)), (0 < 2)]) (e := .normal) (σ' := ⟨[2032, 500, 2002, 2005, 2012], [(6, vi v6), (5, V.ref 2005 0), (4, vi r11), (3, vi r9), (2, V.ref 2002 0), (0, V.ref 500 0)], [(500, oc 70 [ty r28b, ti r28c, T.int .u64 r28d]), (2002, oc 26 [T.nils, ti 0]), (2005, ov 26 [vo 2032 ((List.length o12) + 1), vi r9]), (2032, oc 3 ((List.map (T.int .i64) o12) ++ [ti (r26 - (Int.tdiv r28 (5 : Int)))]))]⟩) (by kernel_rfl) ⟨trivial, trivial, wrapI c2, (by have hh := (l1Most_C (1 : Int) (r9 + (2 : Int))); first | exact hh | simpa using hh), (F_p_spec_l1Cur_pick_W o500 o500b o500c (maxN (1 : Int) (r9 + (2 : Int))) r26 r26b r26c r26d c3), by first | rfl | (simp [V.ren, V.renL, renF, lk]; done) | (simp [V.ren, V.renL, renF, lk]; omega), WkT.refl _, by first | rfl | (simp only [tlS]; rfl) | (simp [Tl.Obj.ren, V.ren, V.renL, renF, lk]; done), (F_p_spec_l1Cur_pick_W r26b r26c r26d (6 : Int) r28 r28b r28c r28d c4), by first | rfl | (simp [V.ren, V.renL, renF, lk]; done) | (simp [V.ren, V.renL, renF, lk]; omega), WkT.refl _, by first | rfl | (simp only [tlS]; rfl) | (simp [Tl.Obj.ren, V.ren, V.renL, renF, lk]; done), (show (5 : Int) ≠ 0 by first | decide | (simp only [maxLen]; omega) | (unfold I64; omega) | (unfold I64; decide)), quo_told c5, trivial, wrapI c6, ⟨⟨by first | rfl | (simp; done) | (simp []; done) | omega, by first | decide | (simp; done) | (simp []; done) | omega | (simp only [tlL]; omega) | (simp; omega)⟩, trivial⟩, by decide, trivial, by first | rfl | omega | (simp only [tlL] <;> omega) | (simp <;> omega) | (simp [] <;> omega), c7, by decide, trivial⟩ ?_
        obtain ⟨c8, h⟩ := chk_some h
        refine WP.path tab_ok mixed [(19, An.v (T.int .i64 (v6 + (1 : Int))))] [.keep [6, 5, 4, 3, 2, 0], .keepO [500, 2002, 2005, 2032], .names [(500, 500), (2002, 2002), (2005, 2005), (2032, 2012)]] (ps := [(True), (T.int .i64 (IntKind.wrap .i64 (v6 + (1 : Int))) = T.int .i64 (v6 + (1 : Int)))]) (e := .normal) (σ' := ⟨[500, 2002, 2005, 2012], [(6, vi (v6 + (1 : Int))), (5, V.ref 2005 0), (4, vi r11), (3, vi r9), (2, V.ref 2002 0), (0, V.ref 500 0)], [(500, oc 70 [ty r28b, ti r28c, T.int .u64 r28d]), (2002, oc 26 [T.nils, ti 0]), (2005, ov 26 [vo 2012 ((List.length o12) + 1), vi r9]), (2012, oc 3 ((List.map (T.int .i64) o12) ++ [ti (r26 - (Int.tdiv r28 (5 : Int)))]))]⟩) (by kernel_rfl) ⟨trivial, wrapI c8, trivial⟩ ?_
        exact ⟨(n, r28b, r28c, r28d, o12 ++ [(r26 - (Int.tdiv r28 (5 : Int)))], (v6 + (1 : Int))), h, Nat.lt_succ_self _, (by first | rfl | (simp only [tlS, tl, vl, vo, oc, ov, tbl, vbl, ty, vy] <;> rfl) | (simp <;> omega) | (simp []; done) | (rw [List.take_of_length_le (by simp [])] <;> rfl))⟩
      · -- no
        refine WP.cond (b := decide (v6 < r11)) rfl (fun hh => by rw [h1] at hh; cases hh) (fun _ => ?_)
        refine WP.path tab_ok mixed [] [.keep [5, 4, 3, 2, 0], .keepO [500, 2002, 2005, 2012], .names [(500, 500), (2002, 2002), (2005, 2005), (2012, 2012)]] (ps := []) (e := (.exit 0)) (σ' := ⟨[500, 2002, 2005, 2012], [(5, V.ref 2005 0), (4, vi r11), (3, vi r9), (2, V.ref 2002 0), (0, V.ref 500 0)], [(500, oc 70 [ty o500, ti o500b, T.int .u64 o500c]), (2002, oc 26 [T.nils, ti 0]), (2005, ov 26 [vo 2012 (List.length o12), vi r9]), (2012, oc 3 (List.map (T.int .i64) o12))]⟩) (by kernel_rfl) trivial ?_
        exact ⟨(o500, o500b, o500c, o12), h, rfl⟩
  · -- from there
    rintro ⟨o500, o500b, o500c, o12⟩ h0
    have h := (show J1 o500 o500b o500c o12 = some (y0, y1, y2, y3, y4) from h0)
    rw [hJ1] at h
    obtain ⟨J1, hJ1, h⟩ := jn_some h
    refine WP.joinA (fun (zz : (List Int) × Int × Int × (List Int)) => ⟨[500, 2002, 2005, 2012], [(5, V.ref 2005 0), (2, V.ref 2002 0)], [(500, oc 70 [ty zz.1, ti zz.2.1, T.int .u64 zz.2.2.1]), (2002, oc 26 [T.nils, ti 0]), (2005, ov 26 [vo 2012 (List.length zz.2.2.2), vi r9]), (2012, oc 3 (List.map (T.int .i64) zz.2.2.2))]⟩) (fun zz => J1 zz.1 zz.2.1 zz.2.2.1 zz.2.2.2 = some (y0, y1, y2, y3, y4)) ?_ ?_
    · -- to where they meet
      refine WP.seq ?_
      refine WP.path tab_ok mixed [] [.keep [7, 5, 4, 3, 2, 0], .keepO [500, 2002, 2005, 2012]] (ps := []) (e := .normal) (σ' := ⟨[500, 2002, 2005, 2012], [(7, vi 0), (5, V.ref 2005 0), (4, vi r11), (3, vi r9), (2, V.ref 2002 0), (0, V.ref 500 0)], [(500, oc 70 [ty o500, ti o500b, T.int .u64 o500c]), (2002, oc 26 [T.nils, ti 0]), (2005, ov 26 [vo 2012 (List.length o12), vi r9]), (2012, oc 3 (List.map (T.int .i64) o12))]⟩) (by kernel_rfl) trivial ?_
      refine WP.block ?_
      refine WP.wk [.keep [7, 5, 4, 3, 2, 0], .keepO [500, 2002, 2005, 2012], .names [(500, 500), (2002, 2002), (2005, 2005), (2012, 2012)]] (σ' := ⟨[500, 2002, 2005, 2012], [(7, vi 0), (5, V.ref 2005 0), (4, vi r11), (3, vi r9), (2, V.ref 2002 0), (0, V.ref 500 0)], [(500, oc 70 [ty o500, ti o500b, T.int .u64 o500c]), (2002, oc 26 [T.nils, ti 0]), (2005, ov 26 [vo 2012 (List.length o12), vi r9]), (2012, oc 3 (List.map (T.int .i64) o12))]⟩) (ps := []) (by kernel_rfl) trivial ?_
      refine WP.st (σ' := ⟨[500, 2002, 2005, 2012], [(7, vi (0 : Int)), (5, V.ref 2005 0), (4, vi r11), (3, vi r9), (2, V.ref 2002 0), (0, V.ref 500 0)], [(500, oc 70 [ty o500, ti o500b, T.int .u64 o500c]), (2002, oc 26 [T.nils, ti 0]), (2005, ov 26 [vo 2012 (List.length o12), vi r9]), (2012, oc 3 (List.map (T.int .i64) o12))]⟩) (by first | rfl | (simp only [tlS, tl, vl, vo, oc, ov, tbl, vbl, ty, vy] <;> rfl) | (simp <;> omega) | (simp []; done) | (rw [List.take_of_length_le (by simp [])] <;> rfl)) ?_
      refine WP.loop (α := Nat × (List Int) × Int × Int × (List Int) × Int) (fun zz => ⟨[500, 2002, 2005, 2012], [(7, vi zz.2.2.2.2.2), (5, V.ref 2005 0), (4, vi r11), (3, vi r9), (2, V.ref 2002 0), (0, V.ref 500 0)], [(500, oc 70 [ty zz.2.1, ti zz.2.2.1, T.int .u64 zz.2.2.2.1]), (2002, oc 26 [T.nils, ti 0]), (2005, ov 26 [vo 2012 (List.length zz.2.2.2.2.1), vi r9]), (2012, oc 3 (List.map (T.int .i64) zz.2.2.2.2.1))]⟩) (fun zz => F_p_spec_l1Cur_state_L2 r9 r11 J1 zz.1 zz.2.1 zz.2.2.1 zz.2.2.2.1 zz.2.2.2.2.1 zz.2.2.2.2.2 = some (y0, y1, y2, y3, y4)) (fun zz => zz.1) (fuel, o500, o500b, o500c, o12, (0 : Int)) h ?_
      rintro ⟨n, o500d, o500e, o500g, o12b, v7⟩ h0
      have h := (show F_p_spec_l1Cur_state_L2 r9 r11 J1 n o500d o500e o500g o12b v7 = some (y0, y1, y2, y3, y4) from h0)
      rcases n with _ | n
      · rw [F_p_spec_l1Cur_state_L2] at h; cases h
      · rw [F_p_spec_l1Cur_state_L2] at h
        refine WP.seq ?_
        refine WP.seq ?_
        refine WP.path tab_ok mixed [] [.keep [36, 7, 5, 4, 3, 2, 0], .keepO [500, 2002, 2005, 2012]] (ps := [(True)]) (e := .normal) (σ' := ⟨[500, 2002, 2005, 2012], [(36, vb (decide (v7 < r11))), (7, vi v7), (5, V.ref 2005 0), (4, vi r11), (3, vi r9), (2, V.ref 2002 0), (0, V.ref 500 0)], [(500, oc 70 [ty o500d, ti o500e, T.int .u64 o500g]), (2002, oc 26 [T.nils, ti 0]), (2005, ov 26 [vo 2012 (List.length o12b), vi r9]), (2012, oc 3 (List.map (T.int .i64) o12b))]⟩) (by kernel_rfl) ⟨trivial, trivial⟩ ?_
        rcases ite_some h with ⟨h2, h⟩ | ⟨h2, h⟩
        · -- yes
          refine WP.cond (b := decide (v7 < r11)) rfl (fun _ => ?_) (fun hh => by rw [h2] at hh; cases hh)
          refine WP.path tab_ok mixed [] [.keep [7, 5, 4, 3, 2, 0], .keepO [500, 2002, 2005, 2012]] (ps := []) (e := .normal) (σ' := ⟨[500, 2002, 2005, 2012], [(7, vi v7), (5, V.ref 2005 0), (4, vi r11), (3, vi r9), (2, V.ref 2002 0), (0, V.ref 500 0)], [(500, oc 70 [ty o500d, ti o500e, T.int .u64 o500g]), (2002, oc 26 [T.nils, ti 0]), (2005, ov 26 [vo 2012 (List.length o12b), vi r9]), (2012, oc 3 (List.map (T.int .i64) o12b))]⟩) (by kernel_rfl) trivial ?_
          refine WP.seq ?_
          refine WP.block ?_
          obtain ⟨J2, hJ2, h⟩ := jn_some h
          refine WP.joinA (fun (zz : (List Int) × Int × Int × Bool) => ⟨[500, 2002, 2005, 2012], [(50, vb zz.2.2.2), (7, vi v7), (5, V.ref 2005 0), (4, vi r11), (3, vi r9), (2, V.ref 2002 0), (0, V.ref 500 0)], [(500, oc 70 [ty zz.1, ti zz.2.1, T.int .u64 zz.2.2.1]), (2002, oc 26 [T.nils, ti 0]), (2005, ov 26 [vo 2012 (List.length o12b), vi r9]), (2012, oc 3 (List.map (T.int .i64) o12b))]⟩) (fun zz => J2 zz.1 zz.2.1 zz.2.2.1 zz.2.2.2 = some (y0, y1, y2, y3, y4)) ?_ ?_
          · -- to where they meet
            obtain ⟨c2, h⟩ := chk_some h
            rcases ite_some h with ⟨h3, h⟩ | ⟨h3, h⟩
            · -- yes
              obtain ⟨r48, r48b, r48c, r48d, c3, h⟩ := bnd4_some h
              refine WP.path tab_ok mixed [(43, An.v (ti (List.getD o12b (Int.toNat v7) 0))), (45, An.b true), (48, An.callG [(500, 500)] [V.ref 500 0, vi 30] [(500, oc 70 [ty o500d, ti o500e, T.int .u64 o500g])] (vb r48) [(500, oc 70 [ty r48b, ti r48c, T.int .u64 r48d])])] [.keep [50, 7, 5, 4, 3, 2, 0], .keepO [500, 2002, 2005, 2012], .names [(500, 500), (2002, 2002), (2005, 2005), (2012, 2012)]] (ps := [(True), ((0 ≤ v7 ∧ v7 < ((List.length o12b : Nat) : Int))), ((List.map (T.int .i64) o12b : List T)[(Int.toNat v7) * 1]? = some (ti (List.getD o12b (Int.toNat v7) 0))), (ti (List.getD o12b (Int.toNat v7) 0) = ti (List.getD o12b (Int.toNat v7) 0)), (True), ((decide ((List.getD o12b (Int.toNat v7) 0) > r9)) = true), (CG Try.prog 117 [V.ref 500 0, vi 30] [(500, oc 70 [ty o500d, ti o500e, T.int .u64 o500g])] (vb r48) [(500, oc 70 [ty r48b, ti r48c, T.int .u64 r48d])]), ((V.ref 500 0).ren (renF [(500, 500)]) = V.ref 500 0), (WkT (ti 30) (ti 30)), ((oc 70 [ty o500d, ti o500e, T.int .u64 o500g]) = (oc 70 [ty o500d, ti o500e, T.int .u64 o500g]).ren (renF [(500, 500)]))]) (e := .normal) (σ' := ⟨[500, 2002, 2005, 2012], [(50, vb !r48), (7, vi v7), (5, V.ref 2005 0), (4, vi r11), (3, vi r9), (2, V.ref 2002 0), (0, V.ref 500 0)], [(500, oc 70 [ty r48b, ti r48c, T.int .u64 r48d]), (2002, oc 26 [T.nils, ti 0]), (2005, ov 26 [vo 2012 (List.length o12b), vi r9]), (2012, oc 3 (List.map (T.int .i64) o12b))]⟩) (by kernel_rfl) ⟨trivial, c2, atM (by simp) (by first | omega | (simp only [tlL]; omega) | (simp; omega)), rfl, trivial, h3, (F_p_spec_l1Cur_one_W o500d o500e o500g (30 : Int) r48 r48b r48c r48d c3), by first | rfl | (simp [V.ren, V.renL, renF, lk]; done) | (simp [V.ren, V.renL, renF, lk]; omega), WkT.refl _, by first | rfl | (simp only [tlS]; rfl) | (simp [Tl.Obj.ren, V.ren, V.renL, renF, lk]; done), trivial⟩ ?_
              exact ⟨(r48b, r48c, r48d, !r48), h, rfl⟩
            · -- no
              refine WP.path tab_ok mixed [(43, An.v (ti (List.getD o12b (Int.toNat v7) 0))), (45, An.b false)] [.keep [50, 7, 5, 4, 3, 2, 0], .keepO [500, 2002, 2005, 2012], .names [(500, 500), (2002, 2002), (2005, 2005), (2012, 2012)]] (ps := [(True), ((0 ≤ v7 ∧ v7 < ((List.length o12b : Nat) : Int))), ((List.map (T.int .i64) o12b : List T)[(Int.toNat v7) * 1]? = some (ti (List.getD o12b (Int.toNat v7) 0))), (ti (List.getD o12b (Int.toNat v7) 0) = ti (List.getD o12b (Int.toNat v7) 0)), (True), ((decide ((List.getD o12b (Int.toNat v7) 0) > r9)) = false)]) (e := .normal) (σ' := ⟨[500, 2002, 2005, 2012], [(50, vb false), (7, vi v7), (5, V.ref 2005 0), (4, vi r11), (3, vi r9), (2, V.ref 2002 0), (0, V.ref 500 0)], [(500, oc 70 [ty o500d, ti o500e, T.int .u64 o500g]), (2002, oc 26 [T.nils, ti 0]), (2005, ov 26 [vo 2012 (List.length o12b), vi r9]), (2012, oc 3 (List.map (T.int .i64) o12b))]⟩) (by kernel_rfl) ⟨trivial, c2, atM (by simp) (by first | omega | (simp only [tlL]; omega) | (simp; omega)), rfl, trivial, h3, trivial⟩ ?_
              exact ⟨(o500d, o500e, o500g, false), h, rfl⟩
          · -- from there
            rintro ⟨o500i, o500j, o500k, v50⟩ h0
            have h := (show J2 o500i o500j o500k v50 = some (y0, y1, y2, y3, y4) from h0)
            rw [hJ2] at h
            rcases ite_some h with ⟨h4, h⟩ | ⟨h4, h⟩
            · -- yes
              refine WP.cond (b := v50) rfl (fun _ => ?_) (fun hh => by rw [h4] at hh; cases hh)
              obtain ⟨c2, h⟩ := chk_some h
              refine WP.path tab_ok mixed [] [.keep [7, 5, 4, 3, 2, 0], .keepO [500, 2002, 2005, 2012]] (ps := [(True), ((0 ≤ v7 ∧ v7 < ((List.length o12b : Nat) : Int))), ((Int.toNat v7) * 1 < List.length (List.map (T.int .i64) o12b))]) (e := .normal) (σ' := ⟨[500, 2002, 2005, 2012], [(7, vi v7), (5, V.ref 2005 0), (4, vi r11), (3, vi r9), (2, V.ref 2002 0), (0, V.ref 500 0)], [(500, oc 70 [ty o500i, ti o500j, T.int .u64 o500k]), (2002, oc 26 [T.nils, ti 0]), (2005, ov 26 [vo 2012 (List.length o12b), vi r9]), (2012, oc 3 (List.set (List.map (T.int .i64) o12b) ((Int.toNat v7) * 1) (ti (-1))))]⟩) (by kernel_rfl) ⟨trivial, c2, by first | decide | omega | (simp only [tlL] <;> omega) | (simp <;> omega) | (simp [] <;> omega), trivial⟩ ?_
              obtain ⟨c3, h⟩ := chk_some h
              refine WP.path tab_ok mixed [(38, An.v (T.int .i64 (v7 + (1 : Int))))] [.keep [7, 5, 4, 3, 2, 0], .keepO [500, 2002, 2005, 2012], .names [(500, 500), (2002, 2002), (2005, 2005), (2012, 2012)]] (ps := [(True), (T.int .i64 (IntKind.wrap .i64 (v7 + (1 : Int))) = T.int .i64 (v7 + (1 : Int)))]) (e := .normal) (σ' := ⟨[500, 2002, 2005, 2012], [(7, vi (v7 + (1 : Int))), (5, V.ref 2005 0), (4, vi r11), (3, vi r9), (2, V.ref 2002 0), (0, V.ref 500 0)], [(500, oc 70 [ty o500i, ti o500j, T.int .u64 o500k]), (2002, oc 26 [T.nils, ti 0]), (2005, ov 26 [vo 2012 (List.length o12b), vi r9]), (2012, oc 3 (List.set (List.map (T.int .i64) o12b) ((Int.toNat v7) * 1) (ti (-1))))]⟩) (by kernel_rfl) ⟨trivial, wrapI c3, trivial⟩ ?_
              exact ⟨(n, o500i, o500j, o500k, List.set o12b (Int.toNat v7) (-1 : Int), (v7 + (1 : Int))), h, Nat.lt_succ_self _, (by first | rfl | (simp only [tlS, tl, vl, vo, oc, ov, tbl, vbl, ty, vy] <;> rfl) | (simp <;> omega) | (simp []; done) | (rw [List.take_of_length_le (by simp [])] <;> rfl))⟩
            · -- no
              refine WP.cond (b := v50) rfl (fun hh => by rw [h4] at hh; cases hh) (fun _ => ?_)
              refine WP.path tab_ok mixed [] [.keep [7, 5, 4, 3, 2, 0], .keepO [500, 2002, 2005, 2012]] (ps := []) (e := .normal) (σ' := ⟨[500, 2002, 2005, 2012], [(7, vi v7), (5, V.ref 2005 0), (4, vi r11), (3, vi r9), (2, V.ref 2002 0), (0, V.ref 500 0)], [(500, oc 70 [ty o500i, ti o500j, T.int .u64 o500k]), (2002, oc 26 [T.nils, ti 0]), (2005, ov 26 [vo 2012 (List.length o12b), vi r9]), (2012, oc 3 (List.map (T.int .i64) o12b))]⟩) (by kernel_rfl) trivial ?_
              obtain ⟨c2, h⟩ := chk_some h
              refine WP.path tab_ok mixed [(38, An.v (T.int .i64 (v7 + (1 : Int))))] [.keep [7, 5, 4, 3, 2, 0], .keepO [500, 2002, 2005, 2012], .names [(500, 500), (2002, 2002), (2005, 2005), (2012, 2012)]] (ps := [(True), (T.int .i64 (IntKind.wrap .i64 (v7 + (1 : Int))) = T.int .i64 (v7 + (1 : Int)))]) (e := .normal) (σ' := ⟨[500, 2002, 2005, 2012], [(7, vi (v7 + (1 : Int))), (5, V.ref 2005 0), (4, vi r11), (3, vi r9), (2, V.ref 2002 0), (0, V.ref 500 0)], [(500, oc 70 [ty o500i, ti o500j, T.int .u64 o500k]), (2002, oc 26 [T.nils, ti 0]), (2005, ov 26 [vo 2012 (List.length o12b), vi r9]), (2012, oc 3 (List.map (T.int .i64) o12b))]⟩) (by kernel_rfl) ⟨trivial, wrapI c2, trivial⟩ ?_
              exact ⟨(n, o500i, o500j, o500k, o12b, (v7 + (1 : Int))), h, Nat.lt_succ_self _, rfl⟩
        · -- no
          refine WP.cond (b := decide (v7 < r11)) rfl (fun hh => by rw [h2] at hh; cases hh) (fun _ => ?_)
          refine WP.path tab_ok mixed [] [.keep [5, 2], .keepO [500, 2002, 2005, 2012], .names [(500, 500), (2002, 2002), (2005, 2005), (2012, 2012)]] (ps := []) (e := (.exit 2)) (σ' := ⟨[500, 2002, 2005, 2012], [(5, V.ref 2005 0), (2, V.ref 2002 0)], [(500, oc 70 [ty o500d, ti o500e, T.int .u64 o500g]), (2002, oc 26 [T.nils, ti 0]), (2005, ov 26 [vo 2012 (List.length o12b), vi r9]), (2012, oc 3 (List.map (T.int .i64) o12b))]⟩) (by kernel_rfl) trivial ?_
          exact ⟨(o500d, o500e, o500g, o12b), h, rfl⟩
    · -- from there
      rintro ⟨o500d, o500e, o500g, o12b⟩ h0
      have h := (show J1 o500d o500e o500g o12b = some (y0, y1, y2, y3, y4) from h0)
      rw [hJ1] at h
      simp only [Option.some.injEq, Prod.mk.injEq] at h
      obtain ⟨rfl, rfl, rfl, rfl, rfl⟩ := h
      exact WP.pathG tab_ok mixed [] [.keep [2], .keepO [500, 2012, 2002], .names [(500, 500), (2012, 9000), (2002, 2002)]] [500, 9000] _ (r' := V.agg [vo 9000 (List.length o12b), vi r9]) (ps := [(0 + 2 ≤ 2), ((0 + 2 ≤ 2 ∧ 2 = 2)), (0 + 2 ≤ 2)]) (r := V.agg [vo 9000 (List.length o12b), vi r9]) (N := [500, 9000, 2002]) (O := [(500, oc 70 [ty o500d, ti o500e, T.int .u64 o500g]), (9000, oc 3 (List.map (T.int .i64) o12b))]) [] (by kernel_rfl) ⟨by decide, by decide, by decide, trivial⟩ ⟨rfl, (WkT.refl _), trivial⟩ rfl rfl (fun _ h => h)
theorem F_p_spec_l1Cur_short_W (x0 : List Int) (x1 : Int) (x2 : Int) (y0 : List Int) (y1 : Int) (y2 : List Int) (y3 : Int) (y4 : Int) (h : F_p_spec_l1Cur_short x0 x1 x2 = some (y0, y1, y2, y3, y4)) : CG Try.prog 52 [V.ref 500 0] [(500, oc 70 [ty x0, ti x1, T.int .u64 x2])] (V.agg [vo 9000 (List.length y0), vi y1]) [(500, oc 70 [ty y2, ti y3, T.int .u64 y4]), (9000, oc 3 (List.map (T.int .i64) y0))] := by
  unfold F_p_spec_l1Cur_short at h
  refine CG.intro (tab := tab) tab_ok (fn := Try.f52) Try.func52 (by kernel_rfl) rfl (Nat.le_of_ble_eq_true rfl) (by kernel_rfl) ?_
  refine WP.seq ?_
  refine WP.path tab_ok mixed [(2, An.id 2002)] [.keep [2, 0], .keepO [500, 2002]] (ps := []) (e := .normal) (σ' := ⟨[2002, 500], [(2, V.ref 2002 0), (0, V.ref 500 0)], [(500, oc 70 [ty x0, ti x1, T.int .u64 x2]), (2002, oc 26 [T.nils, ti 0])]⟩) (by kernel_rfl) trivial ?_
  refine WP.seq ?_
  refine WP.seq ?_
  obtain ⟨r6, r6b, r6c, r6d, c0, h⟩ := bnd4_some h
  refine WP.path tab_ok mixed [(6, An.callG [(500, 500)] [V.ref 500 0, vi 12] [(500, oc 70 [ty x0, ti x1, T.int .u64 x2])] (vb r6) [(500, oc 70 [ty r6b, ti r6c, T.int .u64 r6d])])] [.keep [6, 2, 0], .keepO [500, 2002]] (ps := [(CG Try.prog 117 [V.ref 500 0, vi 12] [(500, oc 70 [ty x0, ti x1, T.int .u64 x2])] (vb r6) [(500, oc 70 [ty r6b, ti r6c, T.int .u64 r6d])]), ((V.ref 500 0).ren (renF [(500, 500)]) = V.ref 500 0), (WkT (ti 12) (ti 12)), ((oc 70 [ty x0, ti x1, T.int .u64 x2]) = (oc 70 [ty x0, ti x1, T.int .u64 x2]).ren (renF [(500, 500)]))]) (e := .normal) (σ' := ⟨[2002, 500], [(6, vb r6), (2, V.ref 2002 0), (0, V.ref 500 0)], [(500, oc 70 [ty r6b, ti r6c, T.int .u64 r6d]), (2002, oc 26 [T.nils, ti 0])]⟩) (by kernel_rfl) ⟨(F_p_spec_l1Cur_one_W x0 x1 x2 (12 : Int) r6 r6b r6c r6d c0), by first | rfl | (simp [V.ren, V.renL, renF, lk]; done) | (simp [V.ren, V.renL, renF, lk]; omega), WkT.refl _, by first | rfl | (simp only [tlS]; rfl) | (simp [Tl.Obj.ren, V.ren, V.renL, renF, lk]; done), trivial⟩ ?_
  rcases ite_some h with ⟨h1, h⟩ | ⟨h1, h⟩
  · -- yes
    refine WP.cond (b := r6) rfl (fun _ => ?_) (fun hh => by rw [h1] at hh; cases hh)
    obtain ⟨r8, r8b, r8c, r8d, r8e, c1, h⟩ := bnd5_some h
    simp only [Option.some.injEq, Prod.mk.injEq] at h
    obtain ⟨rfl, rfl, rfl, rfl, rfl⟩ := h
    exact WP.pathG tab_ok mixed [(8, An.callG [(500, 500), (9000, 10080)] [V.ref 500 0] [(500, oc 70 [ty r6b, ti r6c, T.int .u64 r6d])] (V.agg [vo 9000 (List.length r8), vi r8b]) [(500, oc 70 [ty r8c, ti r8d, T.int .u64 r8e]), (9000, oc 3 (List.map (T.int .i64) r8))])] [.keep [2], .keepO [500, 10080, 2002], .names [(500, 500), (10080, 9000), (2002, 2002)]] [500, 9000] _ (r' := V.agg [vo 9000 (List.length r8), vi r8b]) (ps := [(CG Try.prog 118 [V.ref 500 0] [(500, oc 70 [ty r6b, ti r6c, T.int .u64 r6d])] (V.agg [vo 9000 (List.length r8), vi r8b]) [(500, oc 70 [ty r8c, ti r8d, T.int .u64 r8e]), (9000, oc 3 (List.map (T.int .i64) r8))]), ((V.ref 500 0).ren (renF [(500, 500), (9000, 10080)]) = V.ref 500 0), ((oc 70 [ty r6b, ti r6c, T.int .u64 r6d]) = (oc 70 [ty r6b, ti r6c, T.int .u64 r6d]).ren (renF [(500, 500), (9000, 10080)])), ((0 + 2 ≤ 2 ∧ 2 = 2)), (0 + 2 ≤ 2)]) (r := V.agg [vo 9000 (List.length r8), vi r8b]) (N := [500, 9000, 2002]) (O := [(500, oc 70 [ty r8c, ti r8d, T.int .u64 r8e]), (9000, oc 3 (List.map (T.int .i64) r8))]) [] (by kernel_rfl) ⟨(F_p_spec_l1Cur_state_W r6b r6c r6d r8 r8b r8c r8d r8e c1), by first | rfl | (simp [V.ren, V.renL, renF, lk]; done) | (simp [V.ren, V.renL, renF, lk]; omega), by first | rfl | (simp only [tlS]; rfl) | (simp [Tl.Obj.ren, V.ren, V.renL, renF, lk]; done), by decide, by decide, trivial⟩ ⟨rfl, (WkT.refl _), trivial⟩ rfl rfl (fun _ h => h)
  · -- no
    refine WP.cond (b := r6) rfl (fun hh => by rw [h1] at hh; cases hh) (fun _ => ?_)
    refine WP.path tab_ok mixed [] [.keep [2, 0], .keepO [500, 2002]] (ps := []) (e := .normal) (σ' := ⟨[2002, 500], [(2, V.ref 2002 0), (0, V.ref 500 0)], [(500, oc 70 [ty r6b, ti r6c, T.int .u64 r6d]), (2002, oc 26 [T.nils, ti 0])]⟩) (by kernel_rfl) trivial ?_
    refine WP.seq ?_
    obtain ⟨r11, r11b, r11c, r11d, c1, h⟩ := bnd4_some h
    refine WP.path tab_ok mixed [(9, An.id 2009), (11, An.callG [(500, 500)] [V.ref 500 0, vi 2] [(500, oc 70 [ty r6b, ti r6c, T.int .u64 r6d])] (vi r11) [(500, oc 70 [ty r11b, ti r11c, T.int .u64 r11d])]), (3, An.id 2003)] [.keep [3, 2, 0], .keepO [500, 2002, 2003, 2009]] (ps := [(True), (0 = 0 * 1), (CG Try.prog 53 [V.ref 500 0, vi 2] [(500, oc 70 [ty r6b, ti r6c, T.int .u64 r6d])] (vi r11) [(500, oc 70 [ty r11b, ti r11c, T.int .u64 r11d])]), ((V.ref 500 0).ren (renF [(500, 500)]) = V.ref 500 0), (WkT (ti 2) (ti 2)), ((oc 70 [ty r6b, ti r6c, T.int .u64 r6d]) = (oc 70 [ty r6b, ti r6c, T.int .u64 r6d]).ren (renF [(500, 500)])), ((1 = 1 ∧ 0 + 1 ≤ 2) ∧ (1 = 1 ∧ 1 + 1 ≤ 2) ∧ True), ((0 + 2 ≤ 2 ∧ 2 = 2))]) (e := .normal) (σ' := ⟨[2003, 2009, 2002, 500], [(3, V.ref 2003 0), (2, V.ref 2002 0), (0, V.ref 500 0)], [(500, oc 70 [ty r11b, ti r11c, T.int .u64 r11d]), (2002, oc 26 [T.nils, ti 0]), (2003, ov 26 [vo 2009 0, vi r11]), (2009, oc 3 [])]⟩) (by kernel_rfl) ⟨trivial, by decide, (F_p_spec_l1Cur_pick_W r6b r6c r6d (2 : Int) r11 r11b r11c r11d c1), by first | rfl | (simp [V.ren, V.renL, renF, lk]; done) | (simp [V.ren, V.renL, renF, lk]; omega), WkT.refl _, by first | rfl | (simp only [tlS]; rfl) | (simp [Tl.Obj.ren, V.ren, V.renL, renF, lk]; done), ⟨⟨by decide, by decide⟩, ⟨by decide, by decide⟩, trivial⟩, by decide, trivial⟩ ?_
    obtain ⟨J1, hJ1, h⟩ := jn_some h
    refine WP.joinA (fun (zz : (List Int) × Int × Int × (List Int)) => ⟨[500, 2002, 2003, 2009], [(3, V.ref 2003 0), (2, V.ref 2002 0)], [(500, oc 70 [ty zz.1, ti zz.2.1, T.int .u64 zz.2.2.1]), (2002, oc 26 [T.nils, ti 0]), (2003, ov 26 [vo 2009 (List.length zz.2.2.2), vi r11]), (2009, oc 3 (List.map (T.int .i64) zz.2.2.2))]⟩) (fun zz => J1 zz.1 zz.2.1 zz.2.2.1 zz.2.2.2 = some (y0, y1, y2, y3, y4)) ?_ ?_
    · -- to where they meet
      refine WP.seq ?_
      obtain ⟨r15, r15b, r15c, r15d, c2, h⟩ := bnd4_some h
      refine WP.path tab_ok mixed [(14, An.fz), (15, An.callG [(500, 500)] [V.ref 500 0, vl [(4 : Int), (5 : Int), (3 : Int), (3 : Int), (2 : Int), (1 : Int), (4 : Int), (6 : Int)]] [(500, oc 70 [ty r11b, ti r11c, T.int .u64 r11d])] (vi r15) [(500, oc 70 [ty r15b, ti r15c, T.int .u64 r15d])])] [.keep [4, 3, 2, 0], .keepO [500, 2002, 2003, 2009]] (ps := [((1 = 1 ∧ 0 + 1 ≤ 8) ∧ (1 = 1 ∧ 1 + 1 ≤ 8) ∧ (1 = 1 ∧ 2 + 1 ≤ 8) ∧ (1 = 1 ∧ 3 + 1 ≤ 8) ∧ (1 = 1 ∧ 4 + 1 ≤ 8) ∧ (1 = 1 ∧ 5 + 1 ≤ 8) ∧ (1 = 1 ∧ 6 + 1 ≤ 8) ∧ (1 = 1 ∧ 7 + 1 ≤ 8) ∧ True), (8 = 8 * 1), (CG Try.prog 51 [V.ref 500 0, vl [(4 : Int), (5 : Int), (3 : Int), (3 : Int), (2 : Int), (1 : Int), (4 : Int), (6 : Int)]] [(500, oc 70 [ty r11b, ti r11c, T.int .u64 r11d])] (vi r15) [(500, oc 70 [ty r15b, ti r15c, T.int .u64 r15d])]), ((V.ref 500 0).ren (renF [(500, 500)]) = V.ref 500 0), (WkT (T.list 8 1 [ti 4, ti 5, ti 3, ti 3, ti 2, ti 1, ti 4, ti 6]) (tl [(4 : Int), (5 : Int), (3 : Int), (3 : Int), (2 : Int), (1 : Int), (4 : Int), (6 : Int)])), ((oc 70 [ty r11b, ti r11c, T.int .u64 r11d]) = (oc 70 [ty r11b, ti r11c, T.int .u64 r11d]).ren (renF [(500, 500)]))]) (e := .normal) (σ' := ⟨[2003, 2009, 2002, 500], [(4, vi r15), (3, V.ref 2003 0), (2, V.ref 2002 0), (0, V.ref 500 0)], [(500, oc 70 [ty r15b, ti r15c, T.int .u64 r15d]), (2002, oc 26 [T.nils, ti 0]), (2003, ov 26 [vo 2009 0, vi r11]), (2009, oc 3 [])]⟩) (by kernel_rfl) ⟨⟨⟨by first | rfl | (simp; done) | (simp []; done) | omega, by first | decide | (simp; done) | (simp []; done) | omega | (simp only [tlL]; omega) | (simp; omega)⟩, ⟨by first | rfl | (simp; done) | (simp []; done) | omega, by first | decide | (simp; done) | (simp []; done) | omega | (simp only [tlL]; omega) | (simp; omega)⟩, ⟨by first | rfl | (simp; done) | (simp []; done) | omega, by first | decide | (simp; done) | (simp []; done) | omega | (simp only [tlL]; omega) | (simp; omega)⟩, ⟨by first | rfl | (simp; done) | (simp []; done) | omega, by first | decide | (simp; done) | (simp []; done) | omega | (simp only [tlL]; omega) | (simp; omega)⟩, ⟨by first | rfl | (simp; done) | (simp []; done) | omega, by first | decide | (simp; done) | (simp []; done) | omega | (simp only [tlL]; omega) | (simp; omega)⟩, ⟨by first | rfl | (simp; done) | (simp []; done) | omega, by first | decide | (simp; done) | (simp []; done) | omega | (simp only [tlL]; omega) | (simp; omega)⟩, ⟨by first | rfl | (simp; done) | (simp []; done) | omega, by first | decide | (simp; done) | (simp []; done) | omega | (simp only [tlL]; omega) | (simp; omega)⟩, ⟨by first | rfl | (simp; done) | (simp []; done) | omega, by first | decide | (simp; done) | (simp []; done) | omega | (simp only [tlL]; omega) | (simp; omega)⟩, trivial⟩, by decide, (F_p_spec_l1Cur_among_W r11b r11c r11d [(4 : Int), (5 : Int), (3 : Int), (3 : Int), (2 : Int), (1 : Int), (4 : Int), (6 : Int)] r15 r15b r15c r15d c2), by first | rfl | (simp [V.ren, V.renL, renF, lk]; done) | (simp [V.ren, V.renL, renF, lk]; omega), WkT.eq (WkT.refl _) (by first | rfl | (simp only [tlS, tl, vl, vo, oc, ov, tbl, vbl, ty, vy] <;> rfl) | (simp <;> omega) | (simp []; done) | (rw [List.take_of_length_le (by simp [])] <;> rfl)), by first | rfl | (simp only [tlS]; rfl) | (simp [Tl.Obj.ren, V.ren, V.renL, renF, lk]; done), trivial⟩ ?_
      refine WP.block ?_
      refine WP.wk [.keep [4, 3, 2, 0], .keepO [500, 2002, 2003, 2009], .names [(500, 500), (2002, 2002), (2003, 2003), (2009, 2009)]] (σ' := ⟨[500, 2002, 2003, 2009], [(4, vi r15), (3, V.ref 2003 0), (2, V.ref 2002 0), (0, V.ref 500 0)], [(500, oc 70 [ty r15b, ti r15c, T.int .u64 r15d]), (2002, oc 26 [T.nils, ti 0]), (2003, ov 26 [vo 2009 0, vi r11]), (2009, oc 3 [])]⟩) (ps := []) (by kernel_rfl) trivial ?_
      refine WP.st (σ' := ⟨[500, 2002, 2003, 2009], [(4, vi r15), (3, V.ref 2003 0), (2, V.ref 2002 0), (0, V.ref 500 0)], [(500, oc 70 [ty r15b, ti r15c, T.int .u64 r15d]), (2002, oc 26 [T.nils, ti 0]), (2003, ov 26 [vo 2009 (List.length ([] : List Int)), vi r11]), (2009, oc 3 (List.map (T.int .i64) ([] : List Int)))]⟩) (by first | rfl | (simp only [tlS, tl, vl, vo, oc, ov, tbl, vbl, ty, vy] <;> rfl) | (simp <;> omega) | (simp []; done) | (rw [List.take_of_length_le (by simp [])] <;> rfl)) ?_
      refine WP.loop (α := Nat × (List Int) × Int × Int × (List Int) × Int) (fun zz => ⟨[500, 2002, 2003, 2009], [(4, vi zz.2.2.2.2.2), (3, V.ref 2003 0), (2, V.ref 2002 0), (0, V.ref 500 0)], [(500, oc 70 [ty zz.2.1, ti zz.2.2.1, T.int .u64 zz.2.2.2.1]), (2002, oc 26 [T.nils, ti 0]), (2003, ov 26 [vo 2009 (List.length zz.2.2.2.2.1), vi r11]), (2009, oc 3 (List.map (T.int .i64) zz.2.2.2.2.1))]⟩) (fun zz => F_p_spec_l1Cur_short_L1 r11 J1 zz.1 zz.2.1 zz.2.2.1 zz.2.2.2.1 zz.2.2.2.2.1 zz.2.2.2.2.2 = some (y0, y1, y2, y3, y4)) (fun zz => zz.1) (fuel, r15b, r15c, r15d, ([] : List Int), r15) h ?_
      rintro ⟨n, o500, o500b, o500c, o9, v4⟩ h0
      have h := (show F_p_spec_l1Cur_short_L1 r11 J1 n o500 o500b o500c o9 v4 = some (y0, y1, y2, y3, y4) from h0)
      rcases n with _ | n
      · rw [F_p_spec_l1Cur_short_L1] at h; cases h
      · rw [F_p_spec_l1Cur_short_L1] at h
        refine WP.seq ?_
        refine WP.seq ?_
        refine WP.path tab_ok mixed [] [.keep [17, 4, 3, 2, 0], .keepO [500, 2002, 2003, 2009]] (ps := [(True)]) (e := .normal) (σ' := ⟨[500, 2002, 2003, 2009], [(17, vb (decide (v4 > (0 : Int)))), (4, vi v4), (3, V.ref 2003 0), (2, V.ref 2002 0), (0, V.ref 500 0)], [(500, oc 70 [ty o500, ti o500b, T.int .u64 o500c]), (2002, oc 26 [T.nils, ti 0]), (2003, ov 26 [vo 2009 (List.length o9), vi r11]), (2009, oc 3 (List.map (T.int .i64) o9))]⟩) (by kernel_rfl) ⟨trivial, trivial⟩ ?_
        rcases ite_some h with ⟨h2, h⟩ | ⟨h2, h⟩
        · -- yes
          refine WP.cond (b := decide (v4 > (0 : Int))) rfl (fun _ => ?_) (fun hh => by rw [h2] at hh; cases hh)
          refine WP.path tab_ok mixed [] [.keep [4, 3, 2, 0], .keepO [500, 2002, 2003, 2009]] (ps := []) (e := .normal) (σ' := ⟨[500, 2002, 2003, 2009], [(4, vi v4), (3, V.ref 2003 0), (2, V.ref 2002 0), (0, V.ref 500 0)], [(500, oc 70 [ty o500, ti o500b, T.int .u64 o500c]), (2002, oc 26 [T.nils, ti 0]), (2003, ov 26 [vo 2009 (List.length o9), vi r11]), (2009, oc 3 (List.map (T.int .i64) o9))]⟩) (by kernel_rfl) trivial ?_
          refine WP.seq ?_
          refine WP.block ?_
          obtain ⟨r26, r26b, r26c, r26d, c3, h⟩ := bnd4_some h
          obtain ⟨c4, h⟩ := chk_some h
          refine WP.path tab_ok mixed [(25, An.fz), (26, An.callG [(500, 500)] [V.ref 500 0, vl [(0 : Int), (0 : Int), r11, (-1 : Int), (0 : Int)]] [(500, oc 70 [ty o500, ti o500b, T.int .u64 o500c])] (vi r26) [(500, oc 70 [ty r26b, ti r26c, T.int .u64 r26d])]), (27, An.fz), (28, An.id 2028)] [.keep [4, 3, 2, 0], .keepO [500, 2002, 2003, 2028]] (ps := [(True), (True), ((1 = 1 ∧ 0 + 1 ≤ 5) ∧ (1 = 1 ∧ 1 + 1 ≤ 5) ∧ (1 = 1 ∧ 2 + 1 ≤ 5) ∧ (1 = 1 ∧ 3 + 1 ≤ 5) ∧ (1 = 1 ∧ 4 + 1 ≤ 5) ∧ True), (5 = 5 * 1), (CG Try.prog 51 [V.ref 500 0, vl [(0 : Int), (0 : Int), r11, (-1 : Int), (0 : Int)]] [(500, oc 70 [ty o500, ti o500b, T.int .u64 o500c])] (vi r26) [(500, oc 70 [ty r26b, ti r26c, T.int .u64 r26d])]), ((V.ref 500 0).ren (renF [(500, 500)]) = V.ref 500 0), (WkT (T.list 5 1 [ti 0, ti 0, ti r11, ti (-1), ti 0]) (tl [(0 : Int), (0 : Int), r11, (-1 : Int), (0 : Int)])), ((oc 70 [ty o500, ti o500b, T.int .u64 o500c]) = (oc 70 [ty o500, ti o500b, T.int .u64 o500c]).ren (renF [(500, 500)])), ((1 = 1 ∧ 0 + 1 ≤ 1) ∧ True), (1 = 1 * 1), (True), (List.length (List.map (T.int .i64) o9) = (List.length o9) * 1), ((((List.length o9) + 1) * 8 ≤ 140737488355328 ∧ (List.length o9) + 1 ≤ maxLen)), (0 < 2)]) (e := .normal) (σ' := ⟨[2028, 500, 2002, 2003, 2009], [(4, vi v4), (3, V.ref 2003 0), (2, V.ref 2002 0), (0, V.ref 500 0)], [(500, oc 70 [ty r26b, ti r26c, T.int .u64 r26d]), (2002, oc 26 [T.nils, ti 0]), (2003, ov 26 [vo 2028 ((List.length o9) + 1), vi r11]), (2028, oc 3 ((List.map (T.int .i64) o9) ++ [ti r26]))]⟩) (by kernel_rfl) ⟨trivial, trivial, ⟨⟨by first | rfl | (simp; done) | (simp []; done) | omega, by first | decide | (simp; done) | (simp []; done) | omega | (simp only [tlL]; omega) | (simp; omega)⟩, ⟨by first | rfl | (simp; done) | (simp []; done) | omega, by first | decide | (simp; done) | (simp []; done) | omega | (simp only [tlL]; omega) | (simp; omega)⟩, ⟨by first | rfl | (simp; done) | (simp []; done) | omega, by first | decide | (simp; done) | (simp []; done) | omega | (simp only [tlL]; omega) | (simp; omega)⟩, ⟨by first | rfl | (simp; done) | (simp []; done) | omega, by first | decide | (simp; done) | (simp []; done) | omega | (simp only [tlL]; omega) | (simp; omega)⟩, ⟨by first | rfl | (simp; done) | (simp []; done) | omega, by first | decide | (simp; done) | (simp []; done) | omega | (simp only [tlL]; omega) | (simp; omega)⟩, trivial⟩, by decide, (F_p_spec_l1Cur_among_W o500 o500b o500c [(0 : Int), (0 : Int), r11, (-1 : Int), (0 : Int)] r26 r26b r26c r26d c3), by first | rfl | (simp [V.ren, V.renL, renF, lk]; done) | (simp [V.ren, V.renL, renF, lk]; omega), WkT.eq (WkT.refl _) (by first | rfl | (simp only [tlS, tl, vl, vo, oc, ov, tbl, vbl, ty, vy] <;> rfl) | (simp <;> omega) | (simp []; done) | (rw [List.take_of_length_le (by simp [])] <;> rfl)), by first | rfl | (simp only [tlS]; rfl) | (simp [Tl.Obj.ren, V.ren, V.renL, renF, lk]; done), ⟨⟨by first | rfl | (simp; done) | (simp []; done) | omega, by first | decide | (simp; done) | (simp []; done) | omega | (simp only [tlL]; omega) | (simp; omega)⟩, trivial⟩, by decide, trivial, by first | rfl | omega | (simp only [tlL] <;> omega) | (simp <;> omega) | (simp [] <;> omega), c4, by decide, trivial⟩ ?_
          obtain ⟨c5, h⟩ := chk_some h
          refine WP.path tab_ok mixed [(19, An.v (T.int .i64 (v4 - (1 : Int))))] [.keep [4, 3, 2, 0], .keepO [500, 2002, 2003, 2028], .names [(500, 500), (2002, 2002), (2003, 2003), (2028, 2009)]] (ps := [(True), (T.int .i64 (IntKind.wrap .i64 (v4 - (1 : Int))) = T.int .i64 (v4 - (1 : Int)))]) (e := .normal) (σ' := ⟨[500, 2002, 2003, 2009], [(4, vi (v4 - (1 : Int))), (3, V.ref 2003 0), (2, V.ref 2002 0), (0, V.ref 500 0)], [(500, oc 70 [ty r26b, ti r26c, T.int .u64 r26d]), (2002, oc 26 [T.nils, ti 0]), (2003, ov 26 [vo 2009 ((List.length o9) + 1), vi r11]), (2009, oc 3 ((List.map (T.int .i64) o9) ++ [ti r26]))]⟩) (by kernel_rfl) ⟨trivial, wrapI c5, trivial⟩ ?_
          exact ⟨(n, r26b, r26c, r26d, o9 ++ [r26], (v4 - (1 : Int))), h, Nat.lt_succ_self _, (by first | rfl | (simp only [tlS, tl, vl, vo, oc, ov, tbl, vbl, ty, vy] <;> rfl) | (simp <;> omega) | (simp []; done) | (rw [List.take_of_length_le (by simp [])] <;> rfl))⟩
        · -- no
          refine WP.cond (b := decide (v4 > (0 : Int))) rfl (fun hh => by rw [h2] at hh; cases hh) (fun _ => ?_)
          refine WP.path tab_ok mixed [] [.keep [3, 2], .keepO [500, 2002, 2003, 2009], .names [(500, 500), (2002, 2002), (2003, 2003), (2009, 2009)]] (ps := []) (e := (.exit 0)) (σ' := ⟨[500, 2002, 2003, 2009], [(3, V.ref 2003 0), (2, V.ref 2002 0)], [(500, oc 70 [ty o500, ti o500b, T.int .u64 o500c]), (2002, oc 26 [T.nils, ti 0]), (2003, ov 26 [vo 2009 (List.length o9), vi r11]), (2009, oc 3 (List.map (T.int .i64) o9))]⟩) (by kernel_rfl) trivial ?_
          exact ⟨(o500, o500b, o500c, o9), h, rfl⟩
    · -- from there
      rintro ⟨o500, o500b, o500c, o9⟩ h0
      have h := (show J1 o500 o500b o500c o9 = some (y0, y1, y2, y3, y4) from h0)
      rw [hJ1] at h
      simp only [Option.some.injEq, Prod.mk.injEq] at h
      obtain ⟨rfl, rfl, rfl, rfl, rfl⟩ := h
      exact WP.pathG tab_ok mixed [] [.keep [2], .keepO [500, 2009, 2002], .names [(500, 500), (2009, 9000), (2002, 2002)]] [500, 9000] _ (r' := V.agg [vo 9000 (List.length o9), vi r11]) (ps := [(0 + 2 ≤ 2), ((0 + 2 ≤ 2 ∧ 2 = 2)), (0 + 2 ≤ 2)]) (r := V.agg [vo 9000 (List.length o9), vi r11]) (N := [500, 9000, 2002]) (O := [(500, oc 70 [ty o500, ti o500b, T.int .u64 o500c]), (9000, oc 3 (List.map (T.int .i64) o9))]) [] (by kernel_rfl) ⟨by decide, by decide, by decide, trivial⟩ ⟨rfl, (WkT.refl _), trivial⟩ rfl rfl (fun _ h => h)
theorem F_spec_DrawLessPlay_W (x0 : List Int) (y0 : List Int) (y1 : Int) (y2 : Int) (y3 : Int) (h : F_spec_DrawLessPlay x0 = some (y0, y1, y2, y3)) : CG Try.prog 7 [vy x0] [] (V.tup [V.agg [vo 9000 (List.length y0), vi y1], vi y2, vi y3]) [(9000, oc 3 (List.map (T.int .i64) y0))] := by
  unfold F_spec_DrawLessPlay at h
  refine CG.intro (tab := tab) tab_ok (fn := Try.f7) Try.func7 (by kernel_rfl) rfl (Nat.le_of_ble_eq_true rfl) (by kernel_rfl) ?_
  obtain ⟨r13, r13b, r13c, r13d, c0, h⟩ := bnd4_some h
  obtain ⟨r15, r15b, r15c, r15d, r15e, c1, h⟩ := bnd5_some h
  obtain ⟨r22, r22b, r22c, r22d, c2, h⟩ := bnd4_some h
  obtain ⟨r24, r24b, r24c, r24d, c3, h⟩ := bnd4_some h
  obtain ⟨c4, h⟩ := chk_some h
  obtain ⟨c5, h⟩ := chk_some h
  simp only [Option.some.injEq, Prod.mk.injEq] at h
  obtain ⟨rfl, rfl, rfl, rfl⟩ := h
  exact WP.pathG tab_ok mixed [(2, An.id 2002), (10, An.id 2010), (12, An.fz), (13, An.callG [(500, 2010)] [V.ref 500 0, vl [(-1 : Int), (0 : Int), (1 : Int), (2 : Int), (-1 : Int), (3 : Int), (-2 : Int), (20 : Int), (4 : Int)]] [(500, oc 70 [ty x0, ti 0, T.int .u64 0])] (vi r13) [(500, oc 70 [ty r13b, ti r13c, T.int .u64 r13d])]), (15, An.callG [(500, 2010), (9000, 10150)] [V.ref 500 0] [(500, oc 70 [ty r13b, ti r13c, T.int .u64 r13d])] (V.agg [vo 9000 (List.length r15), vi r15b]) [(500, oc 70 [ty r15c, ti r15d, T.int .u64 r15e]), (9000, oc 3 (List.map (T.int .i64) r15))]), (7, An.id 2007), (21, An.call (ti (maxN (1 : Int) ((List.length r15 : Nat) : Int)))), (22, An.callG [(500, 2010)] [V.ref 500 0, vi (maxN (1 : Int) ((List.length r15 : Nat) : Int))] [(500, oc 70 [ty r15c, ti r15d, T.int .u64 r15e])] (vi r22) [(500, oc 70 [ty r22b, ti r22c, T.int .u64 r22d])]), (24, An.callG [(500, 2010)] [V.ref 500 0, vi 24] [(500, oc 70 [ty r22b, ti r22c, T.int .u64 r22d])] (vi r24) [(500, oc 70 [ty r24b, ti r24c, T.int .u64 r24d])]), (25, An.v (T.int .i64 (Int.tdiv r24 (23 : Int)))), (26, An.v (T.int .i64 (r22 + (Int.tdiv r24 (23 : Int)))))] [.keep [2, 3, 4], .keepO [10150, 2002], .names [(10150, 9000), (2002, 2002)]] [9000] _ (r' := V.tup [V.agg [vo 9000 (List.length r15), vi r15b], vi (r22 + (Int.tdiv r24 (23 : Int))), vi r13]) (ps := [((1 = 1 ∧ 0 + 1 ≤ 3) ∧ True), ((1 = 1 ∧ 0 + 1 ≤ 9) ∧ (1 = 1 ∧ 1 + 1 ≤ 9) ∧ (1 = 1 ∧ 2 + 1 ≤ 9) ∧ (1 = 1 ∧ 3 + 1 ≤ 9) ∧ (1 = 1 ∧ 4 + 1 ≤ 9) ∧ (1 = 1 ∧ 5 + 1 ≤ 9) ∧ (1 = 1 ∧ 6 + 1 ≤ 9) ∧ (1 = 1 ∧ 7 + 1 ≤ 9) ∧ (1 = 1 ∧ 8 + 1 ≤ 9) ∧ True), (9 = 9 * 1), (CG Try.prog 51 [V.ref 500 0, vl [(-1 : Int), (0 : Int), (1 : Int), (2 : Int), (-1 : Int), (3 : Int), (-2 : Int), (20 : Int), (4 : Int)]] [(500, oc 70 [ty x0, ti 0, T.int .u64 0])] (vi r13) [(500, oc 70 [ty r13b, ti r13c, T.int .u64 r13d])]), ((V.ref 500 0).ren (renF [(500, 2010)]) = V.ref 2010 0), (WkT (T.list 9 1 [ti (-1), ti 0, ti 1, ti 2, ti (-1), ti 3, ti (-2), ti 20, ti 4]) (tl [(-1 : Int), (0 : Int), (1 : Int), (2 : Int), (-1 : Int), (3 : Int), (-2 : Int), (20 : Int), (4 : Int)])), ((oc 70 [ty x0, ti 0, T.int .u64 0]) = (oc 70 [ty x0, ti 0, T.int .u64 0]).ren (renF [(500, 2010)])), (CG Try.prog 52 [V.ref 500 0] [(500, oc 70 [ty r13b, ti r13c, T.int .u64 r13d])] (V.agg [vo 9000 (List.length r15), vi r15b]) [(500, oc 70 [ty r15c, ti r15d, T.int .u64 r15e]), (9000, oc 3 (List.map (T.int .i64) r15))]), ((V.ref 500 0).ren (renF [(500, 2010), (9000, 10150)]) = V.ref 2010 0), ((oc 70 [ty r13b, ti r13c, T.int .u64 r13d]) = (oc 70 [ty r13b, ti r13c, T.int .u64 r13d]).ren (renF [(500, 2010), (9000, 10150)])), ((0 + 2 ≤ 2 ∧ 2 = 2)), (0 + 2 ≤ 2), (True), (C Try.prog 54 [ti 1, ti ((List.length r15 : Nat) : Int)] (ti (maxN (1 : Int) ((List.length r15 : Nat) : Int)))), (CG Try.prog 53 [V.ref 500 0, vi (maxN (1 : Int) ((List.length r15 : Nat) : Int))] [(500, oc 70 [ty r15c, ti r15d, T.int .u64 r15e])] (vi r22) [(500, oc 70 [ty r22b, ti r22c, T.int .u64 r22d])]), ((V.ref 500 0).ren (renF [(500, 2010)]) = V.ref 2010 0), (WkT (ti (maxN (1 : Int) ((List.length r15 : Nat) : Int))) (ti (maxN (1 : Int) ((List.length r15 : Nat) : Int)))), ((oc 70 [ty r15c, ti r15d, T.int .u64 r15e]) = (oc 70 [ty r15c, ti r15d, T.int .u64 r15e]).ren (renF [(500, 2010)])), (CG Try.prog 53 [V.ref 500 0, vi 24] [(500, oc 70 [ty r22b, ti r22c, T.int .u64 r22d])] (vi r24) [(500, oc 70 [ty r24b, ti r24c, T.int .u64 r24d])]), ((V.ref 500 0).ren (renF [(500, 2010)]) = V.ref 2010 0), (WkT (ti 24) (ti 24)), ((oc 70 [ty r22b, ti r22c, T.int .u64 r22d]) = (oc 70 [ty r22b, ti r22c, T.int .u64 r22d]).ren (renF [(500, 2010)])), ((23 : Int) ≠ 0), (T.int .i64 (IntKind.wrap .i64 (Int.tdiv r24 (23 : Int))) = T.int .i64 (Int.tdiv r24 (23 : Int))), (True), (T.int .i64 (IntKind.wrap .i64 (r22 + (Int.tdiv r24 (23 : Int)))) = T.int .i64 (r22 + (Int.tdiv r24 (23 : Int)))), ((0 + 2 ≤ 2 ∧ 2 = 2)), (0 + 2 ≤ 2)]) (r := V.tup [V.agg [vo 9000 (List.length r15), vi r15b], vi (r22 + (Int.tdiv r24 (23 : Int))), vi r13]) (N := [9000, 2002]) (O := [(9000, oc 3 (List.map (T.int .i64) r15))]) [] (by kernel_rfl) ⟨⟨⟨by first | rfl | (simp; done) | (simp []; done) | omega, by first | decide | (simp; done) | (simp []; done) | omega | (simp only [tlL]; omega) | (simp; omega)⟩, trivial⟩, ⟨⟨by first | rfl | (simp; done) | (simp []; done) | omega, by first | decide | (simp; done) | (simp []; done) | omega | (simp only [tlL]; omega) | (simp; omega)⟩, ⟨by first | rfl | (simp; done) | (simp []; done) | omega, by first | decide | (simp; done) | (simp []; done) | omega | (simp only [tlL]; omega) | (simp; omega)⟩, ⟨by first | rfl | (simp; done) | (simp []; done) | omega, by first | decide | (simp; done) | (simp []; done) | omega | (simp only [tlL]; omega) | (simp; omega)⟩, ⟨by first | rfl | (simp; done) | (simp []; done) | omega, by first | decide | (simp; done) | (simp []; done) | omega | (simp only [tlL]; omega) | (simp; omega)⟩, ⟨by first | rfl | (simp; done) | (simp []; done) | omega, by first | decide | (simp; done) | (simp []; done) | omega | (simp only [tlL]; omega) | (simp; omega)⟩, ⟨by first | rfl | (simp; done) | (simp []; done) | omega, by first | decide | (simp; done) | (simp []; done) | omega | (simp only [tlL]; omega) | (simp; omega)⟩, ⟨by first | rfl | (simp; done) | (simp []; done) | omega, by first | decide | (simp; done) | (simp []; done) | omega | (simp only [tlL]; omega) | (simp; omega)⟩, ⟨by first | rfl | (simp; done) | (simp []; done) | omega, by first | decide | (simp; done) | (simp []; done) | omega | (simp only [tlL]; omega) | (simp; omega)⟩, ⟨by first | rfl | (simp; done) | (simp []; done) | omega, by first | decide | (simp; done) | (simp []; done) | omega | (simp only [tlL]; omega) | (simp; omega)⟩, trivial⟩, by decide, (F_p_spec_l1Cur_among_W x0 (0 : Int) (0 : Int) [(-1 : Int), (0 : Int), (1 : Int), (2 : Int), (-1 : Int), (3 : Int), (-2 : Int), (20 : Int), (4 : Int)] r13 r13b r13c r13d c0), by first | rfl | (simp [V.ren, V.renL, renF, lk]; done) | (simp [V.ren, V.renL, renF, lk]; omega), WkT.eq (WkT.refl _) (by first | rfl | (simp only [tlS, tl, vl, vo, oc, ov, tbl, vbl, ty, vy] <;> rfl) | (simp <;> omega) | (simp []; done) | (rw [List.take_of_length_le (by simp [])] <;> rfl)), by first | rfl | (simp only [tlS]; rfl) | (simp [Tl.Obj.ren, V.ren, V.renL, renF, lk]; done), (F_p_spec_l1Cur_short_W r13b r13c r13d r15 r15b r15c r15d r15e c1), by first | rfl | (simp [V.ren, V.renL, renF, lk]; done) | (simp [V.ren, V.renL, renF, lk]; omega), by first | rfl | (simp only [tlS]; rfl) | (simp [Tl.Obj.ren, V.ren, V.renL, renF, lk]; done), by decide, by decide, trivial, (by have hh := (l1Most_C (1 : Int) ((List.length r15 : Nat) : Int)); first | exact hh | simpa using hh), (F_p_spec_l1Cur_pick_W r15c r15d r15e (maxN (1 : Int) ((List.length r15 : Nat) : Int)) r22 r22b r22c r22d c2), by first | rfl | (simp [V.ren, V.renL, renF, lk]; done) | (simp [V.ren, V.renL, renF, lk]; omega), WkT.refl _, by first | rfl | (simp only [tlS]; rfl) | (simp [Tl.Obj.ren, V.ren, V.renL, renF, lk]; done), (F_p_spec_l1Cur_pick_W r22b r22c r22d (24 : Int) r24 r24b r24c r24d c3), by first | rfl | (simp [V.ren, V.renL, renF, lk]; done) | (simp [V.ren, V.renL, renF, lk]; omega), WkT.refl _, by first | rfl | (simp only [tlS]; rfl) | (simp [Tl.Obj.ren, V.ren, V.renL, renF, lk]; done), (show (23 : Int) ≠ 0 by first | decide | (simp only [maxLen]; omega) | (unfold I64; omega) | (unfold I64; decide)), quo_told c4, trivial, wrapI c5, by decide, by decide, trivial⟩ ⟨rfl, (WkT.refl _), (WkT.refl _), (WkT.refl _), trivial⟩ rfl rfl (fun _ h => h)
theorem F_spec_DrawLessPlay_W_C (x0 : List Int) (y0 : List Int) (y1 : Int) (y2 : Int) (y3 : Int) (h : F_spec_DrawLessPlay x0 = some (y0, y1, y2, y3)) : C Try.prog 7 [ty x0] (T.tup [T.agg [tl y0, ti y1], ti y2, ti y3]) :=
  CG.toC (ps := [(List.length (List.map (T.int .i64) y0) = (List.length y0) * 1)]) (F_spec_DrawLessPlay_W  x0 y0 y1 y2 y3 h) (by rfl) ⟨by first | rfl | omega | (simp <;> omega) | (simp [hl] <;> omega), trivial⟩
theorem F_impl_newLesser_W (y0 : List (Int × Int)) (h : F_impl_newLesser = some y0) : CG Try.prog 57 [] [] (V.agg [V.mapr 9000]) [(9000, Tl.Obj.map (mpI y0))] := by
  unfold F_impl_newLesser at h
  refine CG.intro (tab := tab) tab_ok (fn := Try.f57) Try.func57 (by kernel_rfl) rfl (Nat.le_of_ble_eq_true rfl) (by kernel_rfl) ?_
  have h := Option.some.inj h
  subst h
  exact WP.pathG tab_ok mixed [(0, An.id 2000), (1, An.id 2001)] [.keep [0], .keepO [2001, 2000], .names [(2001, 9000), (2000, 2000)]] [9000] _ (r' := V.agg [V.mapr 9000]) (ps := [((1 = 1 ∧ 0 + 1 ≤ 1) ∧ True), ((0 + 1 ≤ 1 ∧ 1 = 1)), (0 + 1 ≤ 1)]) (r := V.agg [V.mapr 9000]) (N := [9000, 2000]) (O := [(9000, Tl.Obj.map (mpI ([] : List (Int × Int))))]) [] (by kernel_rfl) ⟨⟨⟨by decide, by decide⟩, trivial⟩, by decide, by decide, trivial⟩ ⟨(by first | rfl | (simp only [tlS, tl, vl, vo, oc, ov, tbl, vbl, ty, vy] <;> rfl) | (simp <;> omega) | (simp []; done) | (rw [List.take_of_length_le (by simp [])] <;> rfl)), trivial⟩ rfl rfl (fun _ h => h)
theorem F_impl_less_W (x0 : Int) (y0 : Int) (h : F_impl_less x0 = some y0) : C Try.prog 59 [ti x0] (ti y0) := by
  unfold F_impl_less at h
  refine C.intro (tab := tab) tab_ok (fn := Try.f59) Try.func59 (by kernel_rfl) rfl (Nat.le_of_ble_eq_true rfl) ?_
  obtain ⟨c0, h⟩ := chk_some h
  obtain ⟨c1, h⟩ := chk_some h
  obtain ⟨n5, c2, h⟩ := nam_some h
  have h := Option.some.inj h
  subst h
  exact WP.pathW tab_ok mixed [(4, An.v (T.int .i64 ((1 : Int) * 2 ^ Int.toNat x0))), (5, An.v (ti n5))] _ (ps := [(0 ≤ x0), (T.int .i64 (IntKind.wrap .i64 ((1 : Int) * 2 ^ (min (Int.toNat x0) 64))) = T.int .i64 ((1 : Int) * 2 ^ Int.toNat x0)), (True), (T.int .i64 (IntKind.wrap .i64 (((1 : Int) * 2 ^ Int.toNat x0) - (1 : Int))) = ti n5)]) (r := ti n5) (by kernel_rfl) ⟨c0.1, shl_told c0, trivial, Eq.trans (wrapI c1) (congrArg (ti) c2), trivial⟩ (WkT.eq (y := ti n5) (WkT.refl _) rfl) (fun _ h => h)
theorem F_impl_State_code_W (x0 : List Int) (x1 : Int) (y0 : Int) (h : F_impl_State_code x0 x1 = some y0) : C Try.prog 129 [T.agg [tl x0, ti x1]] (ti y0) := by
  unfold F_impl_State_code at h
  refine C.intro (tab := tab) tab_ok (fn := Try.f129) Try.func129 (by kernel_rfl) rfl (Nat.le_of_ble_eq_true rfl) ?_
  refine WP.seq ?_
  refine WP.path tab_ok mixed [(1, An.fz)] [.keep [2, 1], .keepO []] (ps := []) (e := .normal) (σ' := ⟨[], [(2, vi 0), (1, V.t (T.ptr [tl x0, ti x1]))], []⟩) (by kernel_rfl) trivial ?_
  refine WP.seq ?_
  refine WP.path tab_ok mixed [] [.keep [3, 2, 1], .keepO []] (ps := []) (e := .normal) (σ' := ⟨[], [(3, vi 0), (2, vi 0), (1, V.t (T.ptr [tl x0, ti x1]))], []⟩) (by kernel_rfl) trivial ?_
  obtain ⟨J1, hJ1, h⟩ := jn_some h
  refine WP.joinA (fun (zz : Int) => ⟨[], [(3, vi zz), (2, vi 0)], []⟩) (fun zz => J1 zz = some y0) ?_ ?_
  · -- to where they meet
    refine WP.seq ?_
    refine WP.path tab_ok mixed [] [.keep [9, 8, 7, 3, 2], .keepO []] (ps := [(True)]) (e := .normal) (σ' := ⟨[], [(9, vi 0), (8, vi ((List.length x0 : Nat) : Int)), (7, vl x0), (3, vi 0), (2, vi 0)], []⟩) (by kernel_rfl) ⟨trivial, trivial⟩ ?_
    refine WP.block ?_
    refine WP.wk [.keep [9, 8, 7, 3, 2], .keepO [], .names []] (σ' := ⟨[], [(9, vi 0), (8, vi ((List.length x0 : Nat) : Int)), (7, vl x0), (3, vi 0), (2, vi 0)], []⟩) (ps := []) (by kernel_rfl) trivial ?_
    refine WP.st (σ' := ⟨[], [(9, vi (0 : Int)), (8, vi ((List.length x0 : Nat) : Int)), (7, vl x0), (3, vi (0 : Int)), (2, vi 0)], []⟩) (by first | rfl | (simp only [tlS, tl, vl, vo, oc, ov, tbl, vbl, ty, vy] <;> rfl) | (simp <;> omega) | (simp []; done) | (rw [List.take_of_length_le (by simp [])] <;> rfl)) ?_
    refine WP.loop (α := Nat × Int × Int) (fun zz => ⟨[], [(9, vi zz.2.1), (8, vi ((List.length x0 : Nat) : Int)), (7, vl x0), (3, vi zz.2.2), (2, vi 0)], []⟩) (fun zz => F_impl_State_code_L1 x0 J1 zz.1 zz.2.1 zz.2.2 = some y0) (fun zz => zz.1) (fuel, (0 : Int), (0 : Int)) h ?_
    rintro ⟨n, v9, v3⟩ h0
    have h := (show F_impl_State_code_L1 x0 J1 n v9 v3 = some y0 from h0)
    rcases n with _ | n
    · rw [F_impl_State_code_L1] at h; cases h
    · rw [F_impl_State_code_L1] at h
      refine WP.seq ?_
      refine WP.path tab_ok mixed [] [.keep [10, 9, 8, 7, 3, 2], .keepO []] (ps := [(True)]) (e := .normal) (σ' := ⟨[], [(10, vb (decide (v9 < ((List.length x0 : Nat) : Int)))), (9, vi v9), (8, vi ((List.length x0 : Nat) : Int)), (7, vl x0), (3, vi v3), (2, vi 0)], []⟩) (by kernel_rfl) ⟨trivial, trivial⟩ ?_
      refine WP.seq ?_
      rcases ite_some h with ⟨h1, h⟩ | ⟨h1, h⟩
      · -- yes
        refine WP.cond (b := decide (v9 < ((List.length x0 : Nat) : Int))) rfl (fun _ => ?_) (fun hh => by rw [h1] at hh; cases hh)
        refine WP.path tab_ok mixed [] [.keep [9, 8, 7, 3, 2], .keepO []] (ps := []) (e := .normal) (σ' := ⟨[], [(9, vi v9), (8, vi ((List.length x0 : Nat) : Int)), (7, vl x0), (3, vi v3), (2, vi 0)], []⟩) (by kernel_rfl) trivial ?_
        refine WP.seq ?_
        refine WP.block ?_
        obtain ⟨c0, h⟩ := chk_some h
        obtain ⟨c1, h⟩ := chk_some h
        obtain ⟨c2, h⟩ := chk_some h
        obtain ⟨n16, c3, h⟩ := nam_some h
        obtain ⟨c4, h⟩ := chk_some h
        refine WP.path tab_ok mixed [(12, An.v (ti (List.getD x0 (Int.toNat v9) 0))), (14, An.v (T.int .i64 (v3 * (3 : Int)))), (16, An.v (ti n16)), (17, An.v (T.int .i64 (n16 + (1 : Int))))] [.keep [3, 9, 8, 7, 2], .keepO []] (ps := [((0 ≤ v9 ∧ v9 < ((List.length x0 : Nat) : Int))), ((List.drop ((Int.toNat v9) * 1) (List.map (T.int .i64) x0) : List T)[0]? = some (ti (List.getD x0 (Int.toNat v9) 0))), (ti (List.getD x0 (Int.toNat v9) 0) = ti (List.getD x0 (Int.toNat v9) 0)), (True), (T.int .i64 (IntKind.wrap .i64 (v3 * (3 : Int))) = T.int .i64 (v3 * (3 : Int))), (True), (T.int .i64 (IntKind.wrap .i64 ((v3 * (3 : Int)) + (List.getD x0 (Int.toNat v9) 0))) = ti n16), (True), (T.int .i64 (IntKind.wrap .i64 (n16 + (1 : Int))) = T.int .i64 (n16 + (1 : Int)))]) (e := .normal) (σ' := ⟨[], [(3, vi (n16 + (1 : Int))), (9, vi v9), (8, vi ((List.length x0 : Nat) : Int)), (7, vl x0), (2, vi 0)], []⟩) (by kernel_rfl) ⟨c0, at1 (by simp) (by omega), rfl, trivial, wrapI c1, trivial, Eq.trans (wrapI c2) (congrArg (ti) c3), trivial, wrapI c4, trivial⟩ ?_
        obtain ⟨c5, h⟩ := chk_some h
        refine WP.path tab_ok mixed [(18, An.v (T.int .i64 (v9 + (1 : Int))))] [.keep [9, 8, 7, 3, 2], .keepO [], .names []] (ps := [(True), (T.int .i64 (IntKind.wrap .i64 (v9 + (1 : Int))) = T.int .i64 (v9 + (1 : Int)))]) (e := .normal) (σ' := ⟨[], [(9, vi (v9 + (1 : Int))), (8, vi ((List.length x0 : Nat) : Int)), (7, vl x0), (3, vi (n16 + (1 : Int))), (2, vi 0)], []⟩) (by kernel_rfl) ⟨trivial, wrapI c5, trivial⟩ ?_
        exact ⟨(n, (v9 + (1 : Int)), (n16 + (1 : Int))), h, Nat.lt_succ_self _, rfl⟩
      · -- no
        refine WP.cond (b := decide (v9 < ((List.length x0 : Nat) : Int))) rfl (fun hh => by rw [h1] at hh; cases hh) (fun _ => ?_)
        refine WP.path tab_ok mixed [] [.keep [3, 2], .keepO [], .names []] (ps := []) (e := (.exit 0)) (σ' := ⟨[], [(3, vi v3), (2, vi 0)], []⟩) (by kernel_rfl) trivial ?_
        exact ⟨(v3), h, rfl⟩
  · -- from there
    intro v3 h0
    have h := (show J1 v3 = some y0 from h0)
    rw [hJ1] at h
    have h := Option.some.inj h
    subst h
    exact WP.pathW tab_ok mixed [] _ (ps := []) (r := ti v3) (by kernel_rfl) trivial (WkT.eq (y := ti v3) (WkT.refl _) rfl) (fun _ h => h)
theorem F_impl_State_isEqual_W (x0 : List Int) (x1 : Int) (x2 : List Int) (x3 : Int) (y0 : Bool) (h : F_impl_State_isEqual x0 x1 x2 x3 = some y0) : C Try.prog 162 [T.agg [tl x0, ti x1], T.agg [tl x2, ti x3]] (tb y0) := by
  unfold F_impl_State_isEqual at h
  refine C.intro (tab := tab) tab_ok (fn := Try.f162) Try.func162 (by kernel_rfl) rfl (Nat.le_of_ble_eq_true rfl) ?_
  obtain ⟨r6, c0, h⟩ := bnd1_some h
  obtain ⟨r8, c1, h⟩ := bnd1_some h
  have h := Option.some.inj h
  subst h
  exact WP.pathW tab_ok mixed [(2, An.fz), (3, An.fz), (6, An.call (ti r6)), (8, An.call (ti r8))] _ (ps := [(2 ≤ 2), (C Try.prog 129 [T.agg [tl x0, ti x1]] (ti r6)), (2 ≤ 2), (C Try.prog 129 [T.agg [tl x2, ti x3]] (ti r8)), (True)]) (r := tb (r6 == r8)) (by kernel_rfl) ⟨by decide, (F_impl_State_code_W x0 x1 r6 c0), by decide, (F_impl_State_code_W x2 x3 r8 c1), trivial, trivial⟩ (WkT.eq (y := tb (r6 == r8)) (WkT.refl _) rfl) (fun _ h => h)
theorem F_impl_lesser_ofLess_B_W (self : (List (Int × Int)) → (List Int) → Int → Option (Int × (List (Int × Int)))) (hself : ∀ (x0 : List (Int × Int)) (x1 : List Int) (x2 : Int) (y0 : Int) (y1 : List (Int × Int)), self x0 x1 x2 = some (y0, y1) → CG Try.prog 74 [V.agg [V.mapr 500], V.t (T.agg [tl x1, ti x2])] [(500, Tl.Obj.map (mpI x0))] (vi y0) [(500, Tl.Obj.map (mpI y1))]) (x0 : List (Int × Int)) (x1 : List Int) (x2 : Int) (x3 : Int) (y0 : Int) (y1 : Bool) (y2 : List (Int × Int)) (h : F_impl_lesser_ofLess_B self x0 x1 x2 x3 = some (y0, y1, y2)) : CG Try.prog 120 [V.agg [V.mapr 500], V.t (T.agg [tl x1, ti x2]), vi x3] [(500, Tl.Obj.map (mpI x0))] (V.t (T.tup [ti y0, tb y1])) [(500, Tl.Obj.map (mpI y2))] := by
  unfold F_impl_lesser_ofLess_B at h
  refine CG.intro (tab := tab) tab_ok (fn := Try.f120) Try.func120 (by kernel_rfl) rfl (Nat.le_of_ble_eq_true rfl) (by kernel_rfl) ?_
  refine WP.seq ?_
  refine WP.path tab_ok mixed [(3, An.id 2003), (4, An.fz)] [.keep [7, 6, 4, 3, 2], .keepO [500, 2003]] (ps := []) (e := .normal) (σ' := ⟨[2003, 500], [(7, vb false), (6, vi 0), (4, V.t (T.ptr [tl x1, ti x2])), (3, V.ref 2003 0), (2, vi x3)], [(500, Tl.Obj.map (mpI x0)), (2003, ov 79 [V.mapr 500])]⟩) (by kernel_rfl) trivial ?_
  refine WP.seq ?_
  obtain ⟨r11, c0, h⟩ := bnd1_some h
  obtain ⟨c1, h⟩ := chk_some h
  refine WP.path tab_ok mixed [(11, An.call (ti r11)), (12, An.call (T.agg [tl (ansN x2 r11 false x1), ti x2, tl (ansN x2 r11 true x1), ti x2])), (8, An.id 2008)] [.keep [8, 7, 6, 4, 3], .keepO [500, 2003, 2008]] (ps := [(2 ≤ 2), (C Try.prog 59 [ti x3] (ti r11)), (C Try.prog 161 [T.agg [tl x1, ti x2], ti r11] (T.agg [tl (ansN x2 r11 false x1), ti x2, tl (ansN x2 r11 true x1), ti x2])), ((0 + 4 ≤ 4 ∧ 4 = 4))]) (e := .normal) (σ' := ⟨[2008, 2003, 500], [(8, V.ref 2008 0), (7, vb false), (6, vi 0), (4, V.t (T.ptr [tl x1, ti x2])), (3, V.ref 2003 0)], [(500, Tl.Obj.map (mpI x0)), (2003, ov 79 [V.mapr 500]), (2008, oc 133 [tl (ansN x2 r11 false x1), ti x2, tl (ansN x2 r11 true x1), ti x2])]⟩) (by kernel_rfl) ⟨by decide, (F_impl_less_W x3 r11 c0), (both_C x1 x2 r11 c1), by decide, trivial⟩ ?_
  refine WP.seq ?_
  obtain ⟨J1, hJ1, h⟩ := jn_some h
  refine WP.joinA (fun (zz : Bool) => ⟨[500, 2003, 2008], [(22, vb zz), (8, V.ref 2008 0), (7, vb false), (6, vi 0), (3, V.ref 2003 0)], [(500, Tl.Obj.map (mpI x0)), (2003, ov 79 [V.mapr 500]), (2008, oc 133 [tl (ansN x2 r11 false x1), ti x2, tl (ansN x2 r11 true x1), ti x2])]⟩) (fun zz => J1 zz = some (y0, y1, y2)) ?_ ?_
  · -- to where they meet
    obtain ⟨r16, c2, h⟩ := bnd1_some h
    rcases ite_some h with ⟨h1, h⟩ | ⟨h1, h⟩
    · -- yes
      refine WP.path tab_ok mixed [(16, An.call (tb r16)), (17, An.b true)] [.keep [22, 8, 7, 6, 3], .keepO [500, 2003, 2008], .names [(500, 500), (2003, 2003), (2008, 2008)]] (ps := [((0 ≤ (0 : Int) ∧ (0 : Int) < (2 : Int))), (0 + 2 ≤ 4), (2 ≤ 2), (C Try.prog 162 [T.agg [tl (ansN x2 r11 false x1), ti x2], T.agg [tl x1, ti x2]] (tb r16)), ((r16) = true)]) (e := .normal) (σ' := ⟨[500, 2003, 2008], [(22, vb true), (8, V.ref 2008 0), (7, vb false), (6, vi 0), (3, V.ref 2003 0)], [(500, Tl.Obj.map (mpI x0)), (2003, ov 79 [V.mapr 500]), (2008, oc 133 [tl (ansN x2 r11 false x1), ti x2, tl (ansN x2 r11 true x1), ti x2])]⟩) (by kernel_rfl) ⟨by decide, by decide, by decide, (F_impl_State_isEqual_W (ansN x2 r11 false x1) x2 x1 x2 r16 c2), h1, trivial⟩ ?_
      exact ⟨(true), h, rfl⟩
    · -- no
      obtain ⟨r21, c3, h⟩ := bnd1_some h
      refine WP.path tab_ok mixed [(16, An.call (tb r16)), (17, An.b false), (21, An.call (tb r21))] [.keep [22, 8, 7, 6, 3], .keepO [500, 2003, 2008], .names [(500, 500), (2003, 2003), (2008, 2008)]] (ps := [((0 ≤ (0 : Int) ∧ (0 : Int) < (2 : Int))), (0 + 2 ≤ 4), (2 ≤ 2), (C Try.prog 162 [T.agg [tl (ansN x2 r11 false x1), ti x2], T.agg [tl x1, ti x2]] (tb r16)), ((r16) = false), ((0 ≤ (1 : Int) ∧ (1 : Int) < (2 : Int))), (2 + 2 ≤ 4), (2 ≤ 2), (C Try.prog 162 [T.agg [tl (ansN x2 r11 true x1), ti x2], T.agg [tl x1, ti x2]] (tb r21))]) (e := .normal) (σ' := ⟨[500, 2003, 2008], [(22, vb r21), (8, V.ref 2008 0), (7, vb false), (6, vi 0), (3, V.ref 2003 0)], [(500, Tl.Obj.map (mpI x0)), (2003, ov 79 [V.mapr 500]), (2008, oc 133 [tl (ansN x2 r11 false x1), ti x2, tl (ansN x2 r11 true x1), ti x2])]⟩) (by kernel_rfl) ⟨by decide, by decide, by decide, (F_impl_State_isEqual_W (ansN x2 r11 false x1) x2 x1 x2 r16 c2), h1, by decide, by decide, by decide, (F_impl_State_isEqual_W (ansN x2 r11 true x1) x2 x1 x2 r21 c3), trivial⟩ ?_
      exact ⟨(r21), h, rfl⟩
  · -- from there
    intro v22 h0
    have h := (show J1 v22 = some (y0, y1, y2) from h0)
    rw [hJ1] at h
    rcases ite_some h with ⟨h2, h⟩ | ⟨h2, h⟩
    · -- yes
      refine WP.cond (b := v22) rfl (fun _ => ?_) (fun hh => by rw [h2] at hh; cases hh)
      simp only [Option.some.injEq, Prod.mk.injEq] at h
      obtain ⟨rfl, rfl, rfl⟩ := h
      exact WP.pathG tab_ok mixed [] [.keep [6, 7], .keepO [500], .names [(500, 500)]] [500] _ (r' := V.t (T.tup [ti (0 : Int), tb false])) (ps := []) (r := V.t (T.tup [ti 0, tb false])) (N := [500]) (O := [(500, Tl.Obj.map (mpI x0))]) [] (by kernel_rfl) trivial ⟨(WkT.tup (WkL.cons (WkT.eq (WkT.refl _) (by first | rfl | (simp only [tlS, tl, vl, vo, oc, ov, tbl, vbl, ty, vy] <;> rfl) | (simp <;> omega) | (simp []; done) | (rw [List.take_of_length_le (by simp [])] <;> rfl))) (WkL.cons (WkT.refl _) WkL.nil))), trivial⟩ rfl rfl (fun _ h => h)
    · -- no
      refine WP.cond (b := v22) rfl (fun hh => by rw [h2] at hh; cases hh) (fun _ => ?_)
      refine WP.path tab_ok mixed [] [.keep [8, 7, 6, 3], .keepO [500, 2003, 2008]] (ps := []) (e := .normal) (σ' := ⟨[500, 2003, 2008], [(8, V.ref 2008 0), (7, vb false), (6, vi 0), (3, V.ref 2003 0)], [(500, Tl.Obj.map (mpI x0)), (2003, ov 79 [V.mapr 500]), (2008, oc 133 [tl (ansN x2 r11 false x1), ti x2, tl (ansN x2 r11 true x1), ti x2])]⟩) (by kernel_rfl) trivial ?_
      obtain ⟨r26, r26b, c2, h⟩ := bnd2_some h
      obtain ⟨r30, r30b, c3, h⟩ := bnd2_some h
      obtain ⟨c4, h⟩ := chk_some h
      simp only [Option.some.injEq, Prod.mk.injEq] at h
      obtain ⟨rfl, rfl, rfl⟩ := h
      exact WP.pathG tab_ok mixed [(26, An.callG [(500, 500)] [V.agg [V.mapr 500], V.t (T.agg [tl (ansN x2 r11 false x1), ti x2])] [(500, Tl.Obj.map (mpI x0))] (vi r26) [(500, Tl.Obj.map (mpI r26b))]), (30, An.callG [(500, 500)] [V.agg [V.mapr 500], V.t (T.agg [tl (ansN x2 r11 true x1), ti x2])] [(500, Tl.Obj.map (mpI r26b))] (vi r30) [(500, Tl.Obj.map (mpI r30b))]), (32, An.v (T.int .i64 ((1 : Int) + (max r26 r30))))] [.keep [6, 7], .keepO [500], .names [(500, 500)]] [500] _ (r' := V.t (T.tup [ti ((1 : Int) + (max r26 r30)), tb true])) (ps := [(0 + 1 ≤ 1), ((0 ≤ (0 : Int) ∧ (0 : Int) < (2 : Int))), (0 + 2 ≤ 4), (CG Try.prog 74 [V.agg [V.mapr 500], V.t (T.agg [tl (ansN x2 r11 false x1), ti x2])] [(500, Tl.Obj.map (mpI x0))] (vi r26) [(500, Tl.Obj.map (mpI r26b))]), ((V.agg [V.mapr 500]).ren (renF [(500, 500)]) = V.agg [V.mapr 500]), (WkT (T.agg [tl (ansN x2 r11 false x1), ti x2]) (T.agg [tl (ansN x2 r11 false x1), ti x2])), ((Tl.Obj.map (mpI x0)) = (Tl.Obj.map (mpI x0)).ren (renF [(500, 500)])), (0 + 1 ≤ 1), ((0 ≤ (1 : Int) ∧ (1 : Int) < (2 : Int))), (2 + 2 ≤ 4), (CG Try.prog 74 [V.agg [V.mapr 500], V.t (T.agg [tl (ansN x2 r11 true x1), ti x2])] [(500, Tl.Obj.map (mpI r26b))] (vi r30) [(500, Tl.Obj.map (mpI r30b))]), ((V.agg [V.mapr 500]).ren (renF [(500, 500)]) = V.agg [V.mapr 500]), (WkT (T.agg [tl (ansN x2 r11 true x1), ti x2]) (T.agg [tl (ansN x2 r11 true x1), ti x2])), ((Tl.Obj.map (mpI r26b)) = (Tl.Obj.map (mpI r26b)).ren (renF [(500, 500)])), (True), (T.int .i64 (IntKind.wrap .i64 ((1 : Int) + (max r26 r30))) = T.int .i64 ((1 : Int) + (max r26 r30)))]) (r := V.t (T.tup [ti ((1 : Int) + (max r26 r30)), tb true])) (N := [500]) (O := [(500, Tl.Obj.map (mpI r30b))]) [] (by kernel_rfl) ⟨by decide, by decide, by decide, (hself x0 (ansN x2 r11 false x1) x2 r26 r26b c2), by first | rfl | (simp [V.ren, V.renL, renF, lk]; done) | (simp [V.ren, V.renL, renF, lk]; omega), WkT.refl _, by first | rfl | (simp only [tlS]; rfl) | (simp [Tl.Obj.ren, V.ren, V.renL, renF, lk]; done), by decide, by decide, by decide, (hself r26b (ansN x2 r11 true x1) x2 r30 r30b c3), by first | rfl | (simp [V.ren, V.renL, renF, lk]; done) | (simp [V.ren, V.renL, renF, lk]; omega), WkT.refl _, by first | rfl | (simp only [tlS]; rfl) | (simp [Tl.Obj.ren, V.ren, V.renL, renF, lk]; done), trivial, wrapI c4, trivial⟩ ⟨(WkT.refl _), trivial⟩ rfl rfl (fun _ h => h)
theorem F_impl_lesser_need_B_W (self : (List (Int × Int)) → (List Int) → Int → Option (Int × (List (Int × Int)))) (hself : ∀ (x0 : List (Int × Int)) (x1 : List Int) (x2 : Int) (y0 : Int) (y1 : List (Int × Int)), self x0 x1 x2 = some (y0, y1) → CG Try.prog 74 [V.agg [V.mapr 500], V.t (T.agg [tl x1, ti x2])] [(500, Tl.Obj.map (mpI x0))] (vi y0) [(500, Tl.Obj.map (mpI y1))]) (x0 : List (Int × Int)) (x1 : List Int) (x2 : Int) (y0 : Int) (y1 : List (Int × Int)) (h : F_impl_lesser_need_B self x0 x1 x2 = some (y0, y1)) : CG Try.prog 74 [V.agg [V.mapr 500], V.t (T.agg [tl x1, ti x2])] [(500, Tl.Obj.map (mpI x0))] (vi y0) [(500, Tl.Obj.map (mpI y1))] := by
  unfold F_impl_lesser_need_B at h
  refine CG.intro (tab := tab) tab_ok (fn := Try.f74) Try.func74 (by kernel_rfl) rfl (Nat.le_of_ble_eq_true rfl) (by kernel_rfl) ?_
  refine WP.seq ?_
  refine WP.path tab_ok mixed [(2, An.id 2002), (3, An.fz)] [.keep [4, 3, 2], .keepO [500, 2002]] (ps := []) (e := .normal) (σ' := ⟨[2002, 500], [(4, vi 0), (3, V.t (T.ptr [tl x1, ti x2])), (2, V.ref 2002 0)], [(500, Tl.Obj.map (mpI x0)), (2002, ov 79 [V.mapr 500])]⟩) (by kernel_rfl) trivial ?_
  refine WP.seq ?_
  refine WP.seq ?_
  obtain ⟨c0, h⟩ := chk_some h
  refine WP.path tab_ok mixed [(12, An.callG [(9000, 10120)] [V.t (T.agg [tl x1, ti x2])] [] (vo 9000 (List.length (openN x1))) [(9000, oc 3 (List.map (T.int .i64) (openN x1)))])] [.keep [14, 4, 3, 2], .keepO [500, 2002]] (ps := [(2 ≤ 2), (CG Try.prog 58 [V.t (T.agg [tl x1, ti x2])] [] (vo 9000 (List.length (openN x1))) [(9000, oc 3 (List.map (T.int .i64) (openN x1)))]), (WkT (T.agg [tl x1, ti x2]) (T.agg [tl x1, ti x2])), (True)]) (e := .normal) (σ' := ⟨[10120, 2002, 500], [(14, vb (decide (((List.length (openN x1) : Nat) : Int) ≤ (1 : Int)))), (4, vi 0), (3, V.t (T.ptr [tl x1, ti x2])), (2, V.ref 2002 0)], [(500, Tl.Obj.map (mpI x0)), (2002, ov 79 [V.mapr 500])]⟩) (by kernel_rfl) ⟨by decide, (open_C_G x1 x2 c0), WkT.refl _, trivial, trivial⟩ ?_
  rcases ite_some h with ⟨h1, h⟩ | ⟨h1, h⟩
  · -- yes
    refine WP.cond (b := decide (((List.length (openN x1) : Nat) : Int) ≤ (1 : Int))) rfl (fun _ => ?_) (fun hh => by rw [h1] at hh; cases hh)
    simp only [Option.some.injEq, Prod.mk.injEq] at h
    obtain ⟨rfl, rfl⟩ := h
    exact WP.pathG tab_ok mixed [] [.keep [4], .keepO [500], .names [(500, 500)]] [500] _ (r' := vi (0 : Int)) (ps := []) (r := vi 0) (N := [500]) (O := [(500, Tl.Obj.map (mpI x0))]) [] (by kernel_rfl) trivial ⟨(WkT.eq (WkT.refl _) (by first | rfl | (simp only [tlS, tl, vl, vo, oc, ov, tbl, vbl, ty, vy] <;> rfl) | (simp <;> omega) | (simp []; done) | (rw [List.take_of_length_le (by simp [])] <;> rfl))), trivial⟩ rfl rfl (fun _ h => h)
  · -- no
    refine WP.cond (b := decide (((List.length (openN x1) : Nat) : Int) ≤ (1 : Int))) rfl (fun hh => by rw [h1] at hh; cases hh) (fun _ => ?_)
    refine WP.path tab_ok mixed [] [.keep [4, 3, 2], .keepO [500, 2002]] (ps := []) (e := .normal) (σ' := ⟨[10120, 2002, 500], [(4, vi 0), (3, V.t (T.ptr [tl x1, ti x2])), (2, V.ref 2002 0)], [(500, Tl.Obj.map (mpI x0)), (2002, ov 79 [V.mapr 500])]⟩) (by kernel_rfl) trivial ?_
    refine WP.seq ?_
    refine WP.seq ?_
    obtain ⟨r19, c1, h⟩ := bnd1_some h
    obtain ⟨g20, c2, h⟩ := nam_some h
    refine WP.path tab_ok mixed [(19, An.call (ti r19)), (20, An.v (T.tup [ti (Option.getD g20 (0 : Int)), tb (Option.isSome g20)]))] [.keep [6, 5, 4, 3, 2], .keepO [500, 2002]] (ps := [(True), (2 ≤ 2), (C Try.prog 129 [T.agg [tl x1, ti x2]] (ti r19)), (∃ G, KeyRun Try.prog 3 G ∧ G (ti r19) ∧ ∀ x ∈ mpI x0, G x.1), ((lookR true (ti (0 : Int)) (lookT (mpI x0) (ti r19))) = T.tup [ti (Option.getD g20 (0 : Int)), tb (Option.isSome g20)])]) (e := .normal) (σ' := ⟨[10120, 2002, 500], [(6, vb (Option.isSome g20)), (5, vi (Option.getD g20 (0 : Int))), (4, vi 0), (3, V.t (T.ptr [tl x1, ti x2])), (2, V.ref 2002 0)], [(500, Tl.Obj.map (mpI x0)), (2002, ov 79 [V.mapr 500])]⟩) (by kernel_rfl) ⟨trivial, by decide, (F_impl_State_code_W x1 x2 r19 c1), keys_map (g := T.int .i64) Try.underlying3 x0 r19, look_mpI_ok c2, trivial⟩ ?_
    refine WP.seq ?_
    refine WP.path tab_ok mixed [] [.keep [23, 5, 4, 3, 2], .keepO [500, 2002]] (ps := []) (e := .normal) (σ' := ⟨[10120, 2002, 500], [(23, vb (Option.isSome g20)), (5, vi (Option.getD g20 (0 : Int))), (4, vi 0), (3, V.t (T.ptr [tl x1, ti x2])), (2, V.ref 2002 0)], [(500, Tl.Obj.map (mpI x0)), (2002, ov 79 [V.mapr 500])]⟩) (by kernel_rfl) trivial ?_
    rcases ite_some h with ⟨h2, h⟩ | ⟨h2, h⟩
    · -- yes
      refine WP.cond (b := Option.isSome g20) rfl (fun _ => ?_) (fun hh => by rw [h2] at hh; cases hh)
      simp only [Option.some.injEq, Prod.mk.injEq] at h
      obtain ⟨rfl, rfl⟩ := h
      exact WP.pathG tab_ok mixed [] [.keep [4], .keepO [500], .names [(500, 500)]] [500] _ (r' := vi (Option.getD g20 (0 : Int))) (ps := []) (r := vi (Option.getD g20 (0 : Int))) (N := [500]) (O := [(500, Tl.Obj.map (mpI x0))]) [] (by kernel_rfl) trivial ⟨(WkT.refl _), trivial⟩ rfl rfl (fun _ h => h)
    · -- no
      refine WP.cond (b := Option.isSome g20) rfl (fun hh => by rw [h2] at hh; cases hh) (fun _ => ?_)
      refine WP.path tab_ok mixed [] [.keep [4, 3, 2], .keepO [500, 2002]] (ps := []) (e := .normal) (σ' := ⟨[10120, 2002, 500], [(4, vi 0), (3, V.t (T.ptr [tl x1, ti x2])), (2, V.ref 2002 0)], [(500, Tl.Obj.map (mpI x0)), (2002, ov 79 [V.mapr 500])]⟩) (by kernel_rfl) trivial ?_
      refine WP.seq ?_
      refine WP.path tab_ok mixed [] [.keep [7, 4, 3, 2], .keepO [500, 2002]] (ps := []) (e := .normal) (σ' := ⟨[10120, 2002, 500], [(7, vi (-1)), (4, vi 0), (3, V.t (T.ptr [tl x1, ti x2])), (2, V.ref 2002 0)], [(500, Tl.Obj.map (mpI x0)), (2002, ov 79 [V.mapr 500])]⟩) (by kernel_rfl) trivial ?_
      obtain ⟨J1, hJ1, h⟩ := jn_some h
      refine WP.joinA (fun (zz : (List (Int × Int)) × Int) => ⟨[500, 2002], [(7, vi zz.2), (4, vi 0), (3, V.t (T.ptr [tl x1, ti x2])), (2, V.ref 2002 0)], [(500, Tl.Obj.map (mpI zz.1)), (2002, ov 79 [V.mapr 500])]⟩) (fun zz => J1 zz.1 zz.2 = some (y0, y1)) ?_ ?_
      · -- to where they meet
        refine WP.seq ?_
        refine WP.path tab_ok mixed [] [.keep [8, 7, 4, 3, 2], .keepO [500, 2002]] (ps := []) (e := .normal) (σ' := ⟨[10120, 2002, 500], [(8, vi 1), (7, vi (-1)), (4, vi 0), (3, V.t (T.ptr [tl x1, ti x2])), (2, V.ref 2002 0)], [(500, Tl.Obj.map (mpI x0)), (2002, ov 79 [V.mapr 500])]⟩) (by kernel_rfl) trivial ?_
        refine WP.block ?_
        refine WP.wk [.keep [8, 7, 4, 3, 2], .keepO [500, 2002], .names [(500, 500), (2002, 2002)]] (σ' := ⟨[500, 2002], [(8, vi 1), (7, vi (-1)), (4, vi 0), (3, V.t (T.ptr [tl x1, ti x2])), (2, V.ref 2002 0)], [(500, Tl.Obj.map (mpI x0)), (2002, ov 79 [V.mapr 500])]⟩) (ps := []) (by kernel_rfl) trivial ?_
        refine WP.st (σ' := ⟨[500, 2002], [(8, vi (1 : Int)), (7, vi (-1 : Int)), (4, vi 0), (3, V.t (T.ptr [tl x1, ti x2])), (2, V.ref 2002 0)], [(500, Tl.Obj.map (mpI x0)), (2002, ov 79 [V.mapr 500])]⟩) (by first | rfl | (simp only [tlS, tl, vl, vo, oc, ov, tbl, vbl, ty, vy] <;> rfl) | (simp <;> omega) | (simp []; done) | (rw [List.take_of_length_le (by simp [])] <;> rfl)) ?_
        refine WP.loop (α := Nat × (List (Int × Int)) × Int × Int) (fun zz => ⟨[500, 2002], [(8, vi zz.2.2.1), (7, vi zz.2.2.2), (4, vi 0), (3, V.t (T.ptr [tl x1, ti x2])), (2, V.ref 2002 0)], [(500, Tl.Obj.map (mpI zz.2.1)), (2002, ov 79 [V.mapr 500])]⟩) (fun zz => F_impl_lesser_need_B_L1 x1 x2 self J1 zz.1 zz.2.1 zz.2.2.1 zz.2.2.2 = some (y0, y1)) (fun zz => zz.1) (fuel, x0, (1 : Int), (-1 : Int)) h ?_
        rintro ⟨n, o500, v8, v7⟩ h0
        have h := (show F_impl_lesser_need_B_L1 x1 x2 self J1 n o500 v8 v7 = some (y0, y1) from h0)
        rcases n with _ | n
        · rw [F_impl_lesser_need_B_L1] at h; cases h
        · rw [F_impl_lesser_need_B_L1] at h
          refine WP.seq ?_
          refine WP.seq ?_
          refine WP.path tab_ok mixed [] [.keep [29, 8, 7, 4, 3, 2], .keepO [500, 2002]] (ps := [(True), (True)]) (e := .normal) (σ' := ⟨[500, 2002], [(29, vb (decide (v8 < ((List.length x1 : Nat) : Int)))), (8, vi v8), (7, vi v7), (4, vi 0), (3, V.t (T.ptr [tl x1, ti x2])), (2, V.ref 2002 0)], [(500, Tl.Obj.map (mpI o500)), (2002, ov 79 [V.mapr 500])]⟩) (by kernel_rfl) ⟨trivial, trivial, trivial⟩ ?_
          rcases ite_some h with ⟨h3, h⟩ | ⟨h3, h⟩
          · -- yes
            refine WP.cond (b := decide (v8 < ((List.length x1 : Nat) : Int))) rfl (fun _ => ?_) (fun hh => by rw [h3] at hh; cases hh)
            refine WP.path tab_ok mixed [] [.keep [8, 7, 4, 3, 2], .keepO [500, 2002]] (ps := []) (e := .normal) (σ' := ⟨[500, 2002], [(8, vi v8), (7, vi v7), (4, vi 0), (3, V.t (T.ptr [tl x1, ti x2])), (2, V.ref 2002 0)], [(500, Tl.Obj.map (mpI o500)), (2002, ov 79 [V.mapr 500])]⟩) (by kernel_rfl) trivial ?_
            refine WP.seq ?_
            refine WP.block ?_
            refine WP.seq ?_
            obtain ⟨r36, r36b, r36c, c3, h⟩ := bnd3_some h
            refine WP.path tab_ok mixed [(36, An.callG [(500, 500)] [V.agg [V.mapr 500], V.t (T.agg [tl x1, ti x2]), vi v8] [(500, Tl.Obj.map (mpI o500))] (V.t (T.tup [ti r36, tb r36b])) [(500, Tl.Obj.map (mpI r36c))])] [.keep [10, 9, 8, 7, 4, 3, 2], .keepO [500, 2002]] (ps := [(0 + 1 ≤ 1), (2 ≤ 2), (CG Try.prog 120 [V.agg [V.mapr 500], V.t (T.agg [tl x1, ti x2]), vi v8] [(500, Tl.Obj.map (mpI o500))] (V.t (T.tup [ti r36, tb r36b])) [(500, Tl.Obj.map (mpI r36c))]), ((V.agg [V.mapr 500]).ren (renF [(500, 500)]) = V.agg [V.mapr 500]), (WkT (T.agg [tl x1, ti x2]) (T.agg [tl x1, ti x2])), (WkT (ti v8) (ti v8)), ((Tl.Obj.map (mpI o500)) = (Tl.Obj.map (mpI o500)).ren (renF [(500, 500)]))]) (e := .normal) (σ' := ⟨[500, 2002], [(10, vb r36b), (9, vi r36), (8, vi v8), (7, vi v7), (4, vi 0), (3, V.t (T.ptr [tl x1, ti x2])), (2, V.ref 2002 0)], [(500, Tl.Obj.map (mpI r36c)), (2002, ov 79 [V.mapr 500])]⟩) (by kernel_rfl) ⟨by decide, by decide, (F_impl_lesser_ofLess_B_W self hself o500 x1 x2 v8 r36 r36b r36c c3), by first | rfl | (simp [V.ren, V.renL, renF, lk]; done) | (simp [V.ren, V.renL, renF, lk]; omega), WkT.refl _, WkT.refl _, by first | rfl | (simp only [tlS]; rfl) | (simp [Tl.Obj.ren, V.ren, V.renL, renF, lk]; done), trivial⟩ ?_
            obtain ⟨J2, hJ2, h⟩ := jn_some h
            refine WP.joinA (fun (zz : Bool) => ⟨[500, 2002], [(48, vb zz), (9, vi r36), (8, vi v8), (7, vi v7), (4, vi 0), (3, V.t (T.ptr [tl x1, ti x2])), (2, V.ref 2002 0)], [(500, Tl.Obj.map (mpI r36c)), (2002, ov 79 [V.mapr 500])]⟩) (fun zz => J2 zz = some (y0, y1)) ?_ ?_
            · -- to where they meet
              rcases ite_some h with ⟨h4, h⟩ | ⟨h4, h⟩
              · -- yes
                rcases ite_some h with ⟨h5, h⟩ | ⟨h5, h⟩
                · -- yes
                  refine WP.path tab_ok mixed [(40, An.b true), (42, An.b true)] [.keep [48, 9, 8, 7, 4, 3, 2], .keepO [500, 2002], .names [(500, 500), (2002, 2002)]] (ps := [((r36b) = true), (True), ((decide (v7 < (0 : Int))) = true)]) (e := .normal) (σ' := ⟨[500, 2002], [(48, vb true), (9, vi r36), (8, vi v8), (7, vi v7), (4, vi 0), (3, V.t (T.ptr [tl x1, ti x2])), (2, V.ref 2002 0)], [(500, Tl.Obj.map (mpI r36c)), (2002, ov 79 [V.mapr 500])]⟩) (by kernel_rfl) ⟨h4, trivial, h5, trivial⟩ ?_
                  exact ⟨(true), h, rfl⟩
                · -- no
                  refine WP.path tab_ok mixed [(40, An.b true), (42, An.b false)] [.keep [48, 9, 8, 7, 4, 3, 2], .keepO [500, 2002], .names [(500, 500), (2002, 2002)]] (ps := [((r36b) = true), (True), ((decide (v7 < (0 : Int))) = false), (True)]) (e := .normal) (σ' := ⟨[500, 2002], [(48, vb (decide (r36 < v7))), (9, vi r36), (8, vi v8), (7, vi v7), (4, vi 0), (3, V.t (T.ptr [tl x1, ti x2])), (2, V.ref 2002 0)], [(500, Tl.Obj.map (mpI r36c)), (2002, ov 79 [V.mapr 500])]⟩) (by kernel_rfl) ⟨h4, trivial, h5, trivial, trivial⟩ ?_
                  exact ⟨(decide (r36 < v7)), h, rfl⟩
              · -- no
                refine WP.path tab_ok mixed [(40, An.b false)] [.keep [48, 9, 8, 7, 4, 3, 2], .keepO [500, 2002], .names [(500, 500), (2002, 2002)]] (ps := [((r36b) = false)]) (e := .normal) (σ' := ⟨[500, 2002], [(48, vb false), (9, vi r36), (8, vi v8), (7, vi v7), (4, vi 0), (3, V.t (T.ptr [tl x1, ti x2])), (2, V.ref 2002 0)], [(500, Tl.Obj.map (mpI r36c)), (2002, ov 79 [V.mapr 500])]⟩) (by kernel_rfl) ⟨h4, trivial⟩ ?_
                exact ⟨(false), h, rfl⟩
            · -- from there
              intro v48 h0
              have h := (show J2 v48 = some (y0, y1) from h0)
              rw [hJ2] at h
              rcases ite_some h with ⟨h6, h⟩ | ⟨h6, h⟩
              · -- yes
                refine WP.cond (b := v48) rfl (fun _ => ?_) (fun hh => by rw [h6] at hh; cases hh)
                refine WP.path tab_ok mixed [] [.keep [7, 8, 4, 3, 2], .keepO [500, 2002]] (ps := []) (e := .normal) (σ' := ⟨[500, 2002], [(7, vi r36), (8, vi v8), (4, vi 0), (3, V.t (T.ptr [tl x1, ti x2])), (2, V.ref 2002 0)], [(500, Tl.Obj.map (mpI r36c)), (2002, ov 79 [V.mapr 500])]⟩) (by kernel_rfl) trivial ?_
                obtain ⟨c4, h⟩ := chk_some h
                refine WP.path tab_ok mixed [(31, An.v (T.int .i64 (v8 + (1 : Int))))] [.keep [8, 7, 4, 3, 2], .keepO [500, 2002], .names [(500, 500), (2002, 2002)]] (ps := [(True), (T.int .i64 (IntKind.wrap .i64 (v8 + (1 : Int))) = T.int .i64 (v8 + (1 : Int)))]) (e := .normal) (σ' := ⟨[500, 2002], [(8, vi (v8 + (1 : Int))), (7, vi r36), (4, vi 0), (3, V.t (T.ptr [tl x1, ti x2])), (2, V.ref 2002 0)], [(500, Tl.Obj.map (mpI r36c)), (2002, ov 79 [V.mapr 500])]⟩) (by kernel_rfl) ⟨trivial, wrapI c4, trivial⟩ ?_
                exact ⟨(n, r36c, (v8 + (1 : Int)), r36), h, Nat.lt_succ_self _, rfl⟩
              · -- no
                refine WP.cond (b := v48) rfl (fun hh => by rw [h6] at hh; cases hh) (fun _ => ?_)
                refine WP.path tab_ok mixed [] [.keep [8, 7, 4, 3, 2], .keepO [500, 2002]] (ps := []) (e := .normal) (σ' := ⟨[500, 2002], [(8, vi v8), (7, vi v7), (4, vi 0), (3, V.t (T.ptr [tl x1, ti x2])), (2, V.ref 2002 0)], [(500, Tl.Obj.map (mpI r36c)), (2002, ov 79 [V.mapr 500])]⟩) (by kernel_rfl) trivial ?_
                obtain ⟨c4, h⟩ := chk_some h
                refine WP.path tab_ok mixed [(31, An.v (T.int .i64 (v8 + (1 : Int))))] [.keep [8, 7, 4, 3, 2], .keepO [500, 2002], .names [(500, 500), (2002, 2002)]] (ps := [(True), (T.int .i64 (IntKind.wrap .i64 (v8 + (1 : Int))) = T.int .i64 (v8 + (1 : Int)))]) (e := .normal) (σ' := ⟨[500, 2002], [(8, vi (v8 + (1 : Int))), (7, vi v7), (4, vi 0), (3, V.t (T.ptr [tl x1, ti x2])), (2, V.ref 2002 0)], [(500, Tl.Obj.map (mpI r36c)), (2002, ov 79 [V.mapr 500])]⟩) (by kernel_rfl) ⟨trivial, wrapI c4, trivial⟩ ?_
                exact ⟨(n, r36c, (v8 + (1 : Int)), v7), h, Nat.lt_succ_self _, rfl⟩
          · -- no
            refine WP.cond (b := decide (v8 < ((List.length x1 : Nat) : Int))) rfl (fun hh => by rw [h3] at hh; cases hh) (fun _ => ?_)
            refine WP.path tab_ok mixed [] [.keep [7, 4, 3, 2], .keepO [500, 2002], .names [(500, 500), (2002, 2002)]] (ps := []) (e := (.exit 0)) (σ' := ⟨[500, 2002], [(7, vi v7), (4, vi 0), (3, V.t (T.ptr [tl x1, ti x2])), (2, V.ref 2002 0)], [(500, Tl.Obj.map (mpI o500)), (2002, ov 79 [V.mapr 500])]⟩) (by kernel_rfl) trivial ?_
            exact ⟨(o500, v7), h, rfl⟩
      · -- from there
        rintro ⟨o500, v7⟩ h0
        have h := (show J1 o500 v7 = some (y0, y1) from h0)
        rw [hJ1] at h
        obtain ⟨r53, c3, h⟩ := bnd1_some h
        simp only [Option.some.injEq, Prod.mk.injEq] at h
        obtain ⟨rfl, rfl⟩ := h
        exact WP.pathG tab_ok mixed [(53, An.call (ti r53)), (2000051, An.mp (mpI (mput o500 r53 v7)))] [.keep [4], .keepO [500], .names [(500, 500)]] [500] _ (r' := vi v7) (ps := [(True), (2 ≤ 2), (C Try.prog 129 [T.agg [tl x1, ti x2]] (ti r53)), (∃ G, KeyRun Try.prog 3 G ∧ G (ti r53) ∧ ∀ x ∈ mpI o500, G x.1), (putT (mpI o500) (ti r53) (ti v7) = mpI (mput o500 r53 v7))]) (r := vi v7) (N := [500]) (O := [(500, Tl.Obj.map (mpI (mput o500 r53 v7)))]) [] (by kernel_rfl) ⟨trivial, by decide, (F_impl_State_code_W x1 x2 r53 c3), keys_map (g := T.int .i64) Try.underlying3 o500 r53, put_map (g := T.int .i64) o500 r53 v7, trivial⟩ ⟨(WkT.refl _), trivial⟩ rfl rfl (fun _ h => h)
theorem F_impl_lesser_need_W (n : Nat) : ∀ (x0 : List (Int × Int)) (x1 : List Int) (x2 : Int) (y0 : Int) (y1 : List (Int × Int)), F_impl_lesser_need n x0 x1 x2 = some (y0, y1) → CG Try.prog 74 [V.agg [V.mapr 500], V.t (T.agg [tl x1, ti x2])] [(500, Tl.Obj.map (mpI x0))] (vi y0) [(500, Tl.Obj.map (mpI y1))] := by
  induction n with
  | zero => intro x0 x1 x2 y0 y1 h; rw [F_impl_lesser_need] at h; cases h
  | succ n ih => intro x0 x1 x2 y0 y1 h; rw [F_impl_lesser_need] at h; exact F_impl_lesser_need_B_W _ ih x0 x1 x2 y0 y1 h
theorem F_impl_lesser_best_W (x0 : List (Int × Int)) (x1 : List Int) (x2 : Int) (y0 : Int) (y1 : List (Int × Int)) (h : F_impl_lesser_best x0 x1 x2 = some (y0, y1)) : CG Try.prog 60 [V.agg [V.mapr 500], V.t (T.agg [tl x1, ti x2])] [(500, Tl.Obj.map (mpI x0))] (vi y0) [(500, Tl.Obj.map (mpI y1))] := by
  unfold F_impl_lesser_best at h
  refine CG.intro (tab := tab) tab_ok (fn := Try.f60) Try.func60 (by kernel_rfl) rfl (Nat.le_of_ble_eq_true rfl) (by kernel_rfl) ?_
  refine WP.seq ?_
  refine WP.path tab_ok mixed [(2, An.id 2002), (3, An.fz)] [.keep [4, 3, 2], .keepO [500, 2002]] (ps := []) (e := .normal) (σ' := ⟨[2002, 500], [(4, vi 0), (3, V.t (T.ptr [tl x1, ti x2])), (2, V.ref 2002 0)], [(500, Tl.Obj.map (mpI x0)), (2002, ov 79 [V.mapr 500])]⟩) (by kernel_rfl) trivial ?_
  obtain ⟨J1, hJ1, h⟩ := jn_some h
  refine WP.joinA (fun (zz : (List (Int × Int))) => ⟨[500], [(4, vi 0)], [(500, Tl.Obj.map (mpI zz))]⟩) (fun zz => J1 zz = some (y0, y1)) ?_ ?_
  · -- to where they meet
    refine WP.seq ?_
    refine WP.path tab_ok mixed [] [.keep [5, 4, 3, 2], .keepO [500, 2002]] (ps := []) (e := .normal) (σ' := ⟨[2002, 500], [(5, vi 1), (4, vi 0), (3, V.t (T.ptr [tl x1, ti x2])), (2, V.ref 2002 0)], [(500, Tl.Obj.map (mpI x0)), (2002, ov 79 [V.mapr 500])]⟩) (by kernel_rfl) trivial ?_
    refine WP.block ?_
    refine WP.wk [.keep [5, 4, 3, 2], .keepO [500, 2002], .names [(500, 500), (2002, 2002)]] (σ' := ⟨[500, 2002], [(5, vi 1), (4, vi 0), (3, V.t (T.ptr [tl x1, ti x2])), (2, V.ref 2002 0)], [(500, Tl.Obj.map (mpI x0)), (2002, ov 79 [V.mapr 500])]⟩) (ps := []) (by kernel_rfl) trivial ?_
    refine WP.st (σ' := ⟨[500, 2002], [(5, vi (1 : Int)), (4, vi 0), (3, V.t (T.ptr [tl x1, ti x2])), (2, V.ref 2002 0)], [(500, Tl.Obj.map (mpI x0)), (2002, ov 79 [V.mapr 500])]⟩) (by first | rfl | (simp only [tlS, tl, vl, vo, oc, ov, tbl, vbl, ty, vy] <;> rfl) | (simp <;> omega) | (simp []; done) | (rw [List.take_of_length_le (by simp [])] <;> rfl)) ?_
    refine WP.loop (α := Nat × (List (Int × Int)) × Int) (fun zz => ⟨[500, 2002], [(5, vi zz.2.2), (4, vi 0), (3, V.t (T.ptr [tl x1, ti x2])), (2, V.ref 2002 0)], [(500, Tl.Obj.map (mpI zz.2.1)), (2002, ov 79 [V.mapr 500])]⟩) (fun zz => F_impl_lesser_best_L1 x1 x2 J1 zz.1 zz.2.1 zz.2.2 = some (y0, y1)) (fun zz => zz.1) (fuel, x0, (1 : Int)) h ?_
    rintro ⟨n, o500, v5⟩ h0
    have h := (show F_impl_lesser_best_L1 x1 x2 J1 n o500 v5 = some (y0, y1) from h0)
    rcases n with _ | n
    · rw [F_impl_lesser_best_L1] at h; cases h
    · rw [F_impl_lesser_best_L1] at h
      refine WP.seq ?_
      refine WP.seq ?_
      refine WP.path tab_ok mixed [] [.keep [12, 5, 4, 3, 2], .keepO [500, 2002]] (ps := [(True), (True)]) (e := .normal) (σ' := ⟨[500, 2002], [(12, vb (decide (v5 < ((List.length x1 : Nat) : Int)))), (5, vi v5), (4, vi 0), (3, V.t (T.ptr [tl x1, ti x2])), (2, V.ref 2002 0)], [(500, Tl.Obj.map (mpI o500)), (2002, ov 79 [V.mapr 500])]⟩) (by kernel_rfl) ⟨trivial, trivial, trivial⟩ ?_
      rcases ite_some h with ⟨h1, h⟩ | ⟨h1, h⟩
      · -- yes
        refine WP.cond (b := decide (v5 < ((List.length x1 : Nat) : Int))) rfl (fun _ => ?_) (fun hh => by rw [h1] at hh; cases hh)
        refine WP.path tab_ok mixed [] [.keep [5, 4, 3, 2], .keepO [500, 2002]] (ps := []) (e := .normal) (σ' := ⟨[500, 2002], [(5, vi v5), (4, vi 0), (3, V.t (T.ptr [tl x1, ti x2])), (2, V.ref 2002 0)], [(500, Tl.Obj.map (mpI o500)), (2002, ov 79 [V.mapr 500])]⟩) (by kernel_rfl) trivial ?_
        refine WP.seq ?_
        refine WP.block ?_
        refine WP.seq ?_
        obtain ⟨r19, r19b, r19c, c0, h⟩ := bnd3_some h
        refine WP.path tab_ok mixed [(19, An.callG [(500, 500)] [V.agg [V.mapr 500], V.t (T.agg [tl x1, ti x2]), vi v5] [(500, Tl.Obj.map (mpI o500))] (V.t (T.tup [ti r19, tb r19b])) [(500, Tl.Obj.map (mpI r19c))])] [.keep [7, 6, 5, 4, 3, 2], .keepO [500, 2002]] (ps := [(0 + 1 ≤ 1), (2 ≤ 2), (CG Try.prog 120 [V.agg [V.mapr 500], V.t (T.agg [tl x1, ti x2]), vi v5] [(500, Tl.Obj.map (mpI o500))] (V.t (T.tup [ti r19, tb r19b])) [(500, Tl.Obj.map (mpI r19c))]), ((V.agg [V.mapr 500]).ren (renF [(500, 500)]) = V.agg [V.mapr 500]), (WkT (T.agg [tl x1, ti x2]) (T.agg [tl x1, ti x2])), (WkT (ti v5) (ti v5)), ((Tl.Obj.map (mpI o500)) = (Tl.Obj.map (mpI o500)).ren (renF [(500, 500)]))]) (e := .normal) (σ' := ⟨[500, 2002], [(7, vb r19b), (6, vi r19), (5, vi v5), (4, vi 0), (3, V.t (T.ptr [tl x1, ti x2])), (2, V.ref 2002 0)], [(500, Tl.Obj.map (mpI r19c)), (2002, ov 79 [V.mapr 500])]⟩) (by kernel_rfl) ⟨by decide, by decide, (F_impl_lesser_ofLess_B_W (F_impl_lesser_need fuel) (F_impl_lesser_need_W fuel) o500 x1 x2 v5 r19 r19b r19c c0), by first | rfl | (simp [V.ren, V.renL, renF, lk]; done) | (simp [V.ren, V.renL, renF, lk]; omega), WkT.refl _, WkT.refl _, by first | rfl | (simp only [tlS]; rfl) | (simp [Tl.Obj.ren, V.ren, V.renL, renF, lk]; done), trivial⟩ ?_
        obtain ⟨J2, hJ2, h⟩ := jn_some h
        refine WP.joinA (fun (zz : (List (Int × Int)) × Bool) => ⟨[500, 2002], [(29, vb zz.2), (5, vi v5), (4, vi 0), (3, V.t (T.ptr [tl x1, ti x2])), (2, V.ref 2002 0)], [(500, Tl.Obj.map (mpI zz.1)), (2002, ov 79 [V.mapr 500])]⟩) (fun zz => J2 zz.1 zz.2 = some (y0, y1)) ?_ ?_
        · -- to where they meet
          rcases ite_some h with ⟨h2, h⟩ | ⟨h2, h⟩
          · -- yes
            obtain ⟨r27, r27b, c1, h⟩ := bnd2_some h
            refine WP.path tab_ok mixed [(23, An.b true), (27, An.callG [(500, 500)] [V.agg [V.mapr 500], V.t (T.agg [tl x1, ti x2])] [(500, Tl.Obj.map (mpI r19c))] (vi r27) [(500, Tl.Obj.map (mpI r27b))])] [.keep [29, 5, 4, 3, 2], .keepO [500, 2002], .names [(500, 500), (2002, 2002)]] (ps := [((r19b) = true), (0 + 1 ≤ 1), (2 ≤ 2), (CG Try.prog 74 [V.agg [V.mapr 500], V.t (T.agg [tl x1, ti x2])] [(500, Tl.Obj.map (mpI r19c))] (vi r27) [(500, Tl.Obj.map (mpI r27b))]), ((V.agg [V.mapr 500]).ren (renF [(500, 500)]) = V.agg [V.mapr 500]), (WkT (T.agg [tl x1, ti x2]) (T.agg [tl x1, ti x2])), ((Tl.Obj.map (mpI r19c)) = (Tl.Obj.map (mpI r19c)).ren (renF [(500, 500)])), (True)]) (e := .normal) (σ' := ⟨[500, 2002], [(29, vb (r19 == r27)), (5, vi v5), (4, vi 0), (3, V.t (T.ptr [tl x1, ti x2])), (2, V.ref 2002 0)], [(500, Tl.Obj.map (mpI r27b)), (2002, ov 79 [V.mapr 500])]⟩) (by kernel_rfl) ⟨h2, by decide, by decide, (F_impl_lesser_need_W fuel r19c x1 x2 r27 r27b c1), by first | rfl | (simp [V.ren, V.renL, renF, lk]; done) | (simp [V.ren, V.renL, renF, lk]; omega), WkT.refl _, by first | rfl | (simp only [tlS]; rfl) | (simp [Tl.Obj.ren, V.ren, V.renL, renF, lk]; done), trivial, trivial⟩ ?_
            exact ⟨(r27b, r19 == r27), h, rfl⟩
          · -- no
            refine WP.path tab_ok mixed [(23, An.b false)] [.keep [29, 5, 4, 3, 2], .keepO [500, 2002], .names [(500, 500), (2002, 2002)]] (ps := [((r19b) = false)]) (e := .normal) (σ' := ⟨[500, 2002], [(29, vb false), (5, vi v5), (4, vi 0), (3, V.t (T.ptr [tl x1, ti x2])), (2, V.ref 2002 0)], [(500, Tl.Obj.map (mpI r19c)), (2002, ov 79 [V.mapr 500])]⟩) (by kernel_rfl) ⟨h2, trivial⟩ ?_
            exact ⟨(r19c, false), h, rfl⟩
        · -- from there
          rintro ⟨o500b, v29⟩ h0
          have h := (show J2 o500b v29 = some (y0, y1) from h0)
          rw [hJ2] at h
          rcases ite_some h with ⟨h3, h⟩ | ⟨h3, h⟩
          · -- yes
            refine WP.cond (b := v29) rfl (fun _ => ?_) (fun hh => by rw [h3] at hh; cases hh)
            simp only [Option.some.injEq, Prod.mk.injEq] at h
            obtain ⟨rfl, rfl⟩ := h
            exact WP.pathG tab_ok mixed [] [.keep [4], .keepO [500], .names [(500, 500)]] [500] _ (r' := vi v5) (ps := []) (r := vi v5) (N := [500]) (O := [(500, Tl.Obj.map (mpI o500b))]) [] (by kernel_rfl) trivial ⟨(WkT.refl _), trivial⟩ rfl rfl (fun _ h => h)
          · -- no
            refine WP.cond (b := v29) rfl (fun hh => by rw [h3] at hh; cases hh) (fun _ => ?_)
            refine WP.path tab_ok mixed [] [.keep [5, 4, 3, 2], .keepO [500, 2002]] (ps := []) (e := .normal) (σ' := ⟨[500, 2002], [(5, vi v5), (4, vi 0), (3, V.t (T.ptr [tl x1, ti x2])), (2, V.ref 2002 0)], [(500, Tl.Obj.map (mpI o500b)), (2002, ov 79 [V.mapr 500])]⟩) (by kernel_rfl) trivial ?_
            obtain ⟨c1, h⟩ := chk_some h
            refine WP.path tab_ok mixed [(14, An.v (T.int .i64 (v5 + (1 : Int))))] [.keep [5, 4, 3, 2], .keepO [500, 2002], .names [(500, 500), (2002, 2002)]] (ps := [(True), (T.int .i64 (IntKind.wrap .i64 (v5 + (1 : Int))) = T.int .i64 (v5 + (1 : Int)))]) (e := .normal) (σ' := ⟨[500, 2002], [(5, vi (v5 + (1 : Int))), (4, vi 0), (3, V.t (T.ptr [tl x1, ti x2])), (2, V.ref 2002 0)], [(500, Tl.Obj.map (mpI o500b)), (2002, ov 79 [V.mapr 500])]⟩) (by kernel_rfl) ⟨trivial, wrapI c1, trivial⟩ ?_
            exact ⟨(n, o500b, (v5 + (1 : Int))), h, Nat.lt_succ_self _, rfl⟩
      · -- no
        refine WP.cond (b := decide (v5 < ((List.length x1 : Nat) : Int))) rfl (fun hh => by rw [h1] at hh; cases hh) (fun _ => ?_)
        refine WP.path tab_ok mixed [] [.keep [4], .keepO [500], .names [(500, 500)]] (ps := []) (e := (.exit 0)) (σ' := ⟨[500], [(4, vi 0)], [(500, Tl.Obj.map (mpI o500))]⟩) (by kernel_rfl) trivial ?_
        exact ⟨(o500), h, rfl⟩
  · -- from there
    intro o500 h0
    have h := (show J1 o500 = some (y0, y1) from h0)
    rw [hJ1] at h
    simp only [Option.some.injEq, Prod.mk.injEq] at h
    obtain ⟨rfl, rfl⟩ := h
    exact WP.pathG tab_ok mixed [] [.keep [4], .keepO [500], .names [(500, 500)]] [500] _ (r' := vi (0 : Int)) (ps := []) (r := vi 0) (N := [500]) (O := [(500, Tl.Obj.map (mpI o500))]) [] (by kernel_rfl) trivial ⟨(WkT.eq (WkT.refl _) (by first | rfl | (simp only [tlS, tl, vl, vo, oc, ov, tbl, vbl, ty, vy] <;> rfl) | (simp <;> omega) | (simp []; done) | (rw [List.take_of_length_le (by simp [])] <;> rfl))), trivial⟩ rfl rfl (fun _ h => h)
theorem F_impl_LessPlay_W (x0 : List Int) (x1 : Int) (x2 : Int) (x3 : Int) (y0 : List (Int × Bool)) (y1 : Bool) (h : F_impl_LessPlay x0 x1 x2 x3 = some (y0, y1)) : CG Try.prog 8 [V.t (T.agg [tl x0, ti x1]), vi x2, vi x3] [] (V.tup [V.own 9000 2 (List.length y0), vb y1]) [(9000, oc 44 (List.flatMap askedC y0))] := by
  unfold F_impl_LessPlay at h
  refine CG.intro (tab := tab) tab_ok (fn := Try.f8) Try.func8 (by kernel_rfl) rfl (Nat.le_of_ble_eq_true rfl) (by kernel_rfl) ?_
  refine WP.seq ?_
  refine WP.path tab_ok mixed [(3, An.fz)] [.keep [7, 6, 3, 1, 2], .keepO []] (ps := []) (e := .normal) (σ' := ⟨[], [(7, vb false), (6, V.t (T.nils)), (3, V.t (T.ptr [tl x0, ti x1])), (1, vi x2), (2, vi x3)], []⟩) (by kernel_rfl) trivial ?_
  refine WP.seq ?_
  obtain ⟨J1, hJ1, h⟩ := jn_some h
  refine WP.joinA (fun (zz : Bool) => ⟨[], [(24, vb zz), (7, vb false), (6, V.t (T.nils)), (3, V.t (T.ptr [tl x0, ti x1])), (1, vi x2), (2, vi x3)], []⟩) (fun zz => J1 zz = some (y0, y1)) ?_ ?_
  · -- to where they meet
    obtain ⟨c0, h⟩ := chk_some h
    rcases ite_some h with ⟨h1, h⟩ | ⟨h1, h⟩
    · -- yes
      refine WP.path tab_ok mixed [(13, An.call (tb (shortN x0 x1))), (15, An.b true)] [.keep [24, 7, 6, 3, 1, 2], .keepO [], .names []] (ps := [(2 ≤ 2), (C Try.prog 55 [T.agg [tl x0, ti x1]] (tb (shortN x0 x1))), ((!(shortN x0 x1)) = true)]) (e := .normal) (σ' := ⟨[], [(24, vb true), (7, vb false), (6, V.t (T.nils)), (3, V.t (T.ptr [tl x0, ti x1])), (1, vi x2), (2, vi x3)], []⟩) (by kernel_rfl) ⟨by decide, (isShort_C x0 x1 c0), h1, trivial⟩ ?_
      exact ⟨(true), h, rfl⟩
    · -- no
      obtain ⟨c1, h⟩ := chk_some h
      rcases ite_some h with ⟨h2, h⟩ | ⟨h2, h⟩
      · -- yes
        refine WP.path tab_ok mixed [(13, An.call (tb (shortN x0 x1))), (15, An.b false), (18, An.call (tb (opB x0 x2))), (21, An.b true)] [.keep [24, 7, 6, 3, 1, 2], .keepO [], .names []] (ps := [(2 ≤ 2), (C Try.prog 55 [T.agg [tl x0, ti x1]] (tb (shortN x0 x1))), ((!(shortN x0 x1)) = false), (2 ≤ 2), (C Try.prog 56 [T.agg [tl x0, ti x1], ti x2] (tb (opB x0 x2))), ((!(opB x0 x2)) = true)]) (e := .normal) (σ' := ⟨[], [(24, vb true), (7, vb false), (6, V.t (T.nils)), (3, V.t (T.ptr [tl x0, ti x1])), (1, vi x2), (2, vi x3)], []⟩) (by kernel_rfl) ⟨by decide, (isShort_C x0 x1 c0), h1, by decide, (isOpen_C x0 x1 x2 c1), h2, trivial⟩ ?_
        exact ⟨(true), h, rfl⟩
      · -- no
        refine WP.path tab_ok mixed [(13, An.call (tb (shortN x0 x1))), (15, An.b false), (18, An.call (tb (opB x0 x2))), (21, An.b false)] [.keep [24, 7, 6, 3, 1, 2], .keepO [], .names []] (ps := [(2 ≤ 2), (C Try.prog 55 [T.agg [tl x0, ti x1]] (tb (shortN x0 x1))), ((!(shortN x0 x1)) = false), (2 ≤ 2), (C Try.prog 56 [T.agg [tl x0, ti x1], ti x2] (tb (opB x0 x2))), ((!(opB x0 x2)) = false), (True)]) (e := .normal) (σ' := ⟨[], [(24, vb (decide (x3 < (-1 : Int)))), (7, vb false), (6, V.t (T.nils)), (3, V.t (T.ptr [tl x0, ti x1])), (1, vi x2), (2, vi x3)], []⟩) (by kernel_rfl) ⟨by decide, (isShort_C x0 x1 c0), h1, by decide, (isOpen_C x0 x1 x2 c1), h2, trivial, trivial⟩ ?_
        exact ⟨(decide (x3 < (-1 : Int))), h, rfl⟩
  · -- from there
    intro v24 h0
    have h := (show J1 v24 = some (y0, y1) from h0)
    rw [hJ1] at h
    rcases ite_some h with ⟨h3, h⟩ | ⟨h3, h⟩
    · -- yes
      refine WP.cond (b := v24) rfl (fun _ => ?_) (fun hh => by rw [h3] at hh; cases hh)
      simp only [Option.some.injEq, Prod.mk.injEq] at h
      obtain ⟨rfl, rfl⟩ := h
      exact WP.pathG tab_ok mixed [] [.keep [6, 7], .keepO [], .names []] [] _ (r' := V.tup [V.own 9000 2 (List.length ([] : List (Int × Bool))), vb false]) (ps := []) (r := V.t (T.tup [T.nils, tb false])) (N := []) (O := []) [(9000, 44)] (by kernel_rfl) trivial ⟨(by first | rfl | (simp; done)), (WkT.refl _), trivial⟩ rfl rfl (fun _ h => h)
    · -- no
      refine WP.cond (b := v24) rfl (fun hh => by rw [h3] at hh; cases hh) (fun _ => ?_)
      refine WP.path tab_ok mixed [] [.keep [7, 6, 3, 1, 2], .keepO []] (ps := []) (e := .normal) (σ' := ⟨[], [(7, vb false), (6, V.t (T.nils)), (3, V.t (T.ptr [tl x0, ti x1])), (1, vi x2), (2, vi x3)], []⟩) (by kernel_rfl) trivial ?_
      refine WP.seq ?_
      obtain ⟨r25, c0, h⟩ := bnd1_some h
      refine WP.path tab_ok mixed [(25, An.callG [(9000, 10250)] [] [] (V.agg [V.mapr 9000]) [(9000, Tl.Obj.map (mpI r25))]), (26, An.id 2026), (8, An.id 2008)] [.keep [9, 8, 7, 6, 3, 1, 2], .keepO [2008, 2026, 10250]] (ps := [(CG Try.prog 57 [] [] (V.agg [V.mapr 9000]) [(9000, Tl.Obj.map (mpI r25))]), (True), (0 = 0 * 2), ((0 + 1 ≤ 1 ∧ 1 = 1))]) (e := .normal) (σ' := ⟨[2008, 2026, 10250], [(9, V.own 2026 2 0), (8, V.ref 2008 0), (7, vb false), (6, V.t (T.nils)), (3, V.t (T.ptr [tl x0, ti x1])), (1, vi x2), (2, vi x3)], [(2008, ov 79 [V.mapr 10250]), (2026, oc 44 []), (10250, Tl.Obj.map (mpI r25))]⟩) (by kernel_rfl) ⟨(F_impl_newLesser_W  r25 c0), trivial, by decide, by decide, trivial⟩ ?_
      obtain ⟨J1, hJ1, h⟩ := jn_some h
      refine WP.joinA (fun (zz : (List (Int × Bool))) => ⟨[2026], [(9, V.own 2026 2 (List.length zz)), (7, vb false), (6, V.t (T.nils)), (2, vi x3)], [(2026, oc 44 (List.flatMap askedC zz))]⟩) (fun zz => J1 zz = some (y0, y1)) ?_ ?_
      · -- to where they meet
        refine WP.seq ?_
        refine WP.path tab_ok mixed [(10, An.id 2010)] [.keep [10, 9, 8, 7, 6, 1, 2], .keepO [2008, 2010, 2026, 10250]] (ps := [(2 ≤ 2), ((0 + 2 ≤ 2 ∧ 2 = 2))]) (e := .normal) (σ' := ⟨[2010, 2008, 2026, 10250], [(10, V.ref 2010 0), (9, V.own 2026 2 0), (8, V.ref 2008 0), (7, vb false), (6, V.t (T.nils)), (1, vi x2), (2, vi x3)], [(2008, ov 79 [V.mapr 10250]), (2010, oc 26 [tl x0, ti x1]), (2026, oc 44 []), (10250, Tl.Obj.map (mpI r25))]⟩) (by kernel_rfl) ⟨by decide, by decide, trivial⟩ ?_
        refine WP.block ?_
        refine WP.wk [.keep [10, 9, 8, 7, 6, 1, 2], .keepO [2008, 2010, 2026, 10250], .names [(2008, 2008), (2010, 2010), (2026, 2026), (10250, 10250)]] (σ' := ⟨[2008, 2010, 2026, 10250], [(10, V.ref 2010 0), (9, V.own 2026 2 0), (8, V.ref 2008 0), (7, vb false), (6, V.t (T.nils)), (1, vi x2), (2, vi x3)], [(2008, ov 79 [V.mapr 10250]), (2010, oc 26 [tl x0, ti x1]), (2026, oc 44 []), (10250, Tl.Obj.map (mpI r25))]⟩) (ps := []) (by kernel_rfl) trivial ?_
        refine WP.st (σ' := ⟨[2008, 2010, 2026, 10250], [(10, V.ref 2010 0), (9, V.own 2026 2 (List.length ([] : List (Int × Bool)))), (8, V.ref 2008 0), (7, vb false), (6, V.t (T.nils)), (1, vi x2), (2, vi x3)], [(2008, ov 79 [V.mapr 10250]), (2010, oc 26 [tl x0, ti x1]), (2026, oc 44 (List.flatMap askedC ([] : List (Int × Bool)))), (10250, Tl.Obj.map (mpI r25))]⟩) (by first | rfl | (simp only [tlS, tl, vl, vo, oc, ov, tbl, vbl, ty, vy] <;> rfl) | (simp <;> omega) | (simp []; done) | (rw [List.take_of_length_le (by simp [])] <;> rfl)) ?_
        refine WP.loop (α := Nat × (List Int) × (List (Int × Bool)) × (List (Int × Int))) (fun zz => ⟨[2008, 2010, 2026, 10250], [(10, V.ref 2010 0), (9, V.own 2026 2 (List.length zz.2.2.1)), (8, V.ref 2008 0), (7, vb false), (6, V.t (T.nils)), (1, vi x2), (2, vi x3)], [(2008, ov 79 [V.mapr 10250]), (2010, oc 26 [tl zz.2.1, ti x1]), (2026, oc 44 (List.flatMap askedC zz.2.2.1)), (10250, Tl.Obj.map (mpI zz.2.2.2))]⟩) (fun zz => F_impl_LessPlay_L1 x1 x2 x3 J1 zz.1 zz.2.1 zz.2.2.1 zz.2.2.2 = some (y0, y1)) (fun zz => zz.1) (fuel, x0, ([] : List (Int × Bool)), r25) h ?_
        rintro ⟨n, o10, o26, o10250⟩ h0
        have h := (show F_impl_LessPlay_L1 x1 x2 x3 J1 n o10 o26 o10250 = some (y0, y1) from h0)
        rcases n with _ | n
        · rw [F_impl_LessPlay_L1] at h; cases h
        · rw [F_impl_LessPlay_L1] at h
          refine WP.seq ?_
          refine WP.seq ?_
          obtain ⟨c1, h⟩ := chk_some h
          refine WP.path tab_ok mixed [(29, An.callG [(9000, 10290)] [V.t (T.agg [tl o10, ti x1])] [] (vo 9000 (List.length (openN o10))) [(9000, oc 3 (List.map (T.int .i64) (openN o10)))])] [.keep [31, 10, 9, 8, 7, 6, 1, 2], .keepO [2008, 2010, 2026, 10250]] (ps := [(0 + 2 ≤ 2), (CG Try.prog 58 [V.t (T.agg [tl o10, ti x1])] [] (vo 9000 (List.length (openN o10))) [(9000, oc 3 (List.map (T.int .i64) (openN o10)))]), (WkT (T.agg [tl o10, ti x1]) (T.agg [tl o10, ti x1])), (True)]) (e := .normal) (σ' := ⟨[10290, 2008, 2010, 2026, 10250], [(31, vb (decide (((List.length (openN o10) : Nat) : Int) > (1 : Int)))), (10, V.ref 2010 0), (9, V.own 2026 2 (List.length o26)), (8, V.ref 2008 0), (7, vb false), (6, V.t (T.nils)), (1, vi x2), (2, vi x3)], [(2008, ov 79 [V.mapr 10250]), (2010, oc 26 [tl o10, ti x1]), (2026, oc 44 (List.flatMap askedC o26)), (10250, Tl.Obj.map (mpI o10250))]⟩) (by kernel_rfl) ⟨by decide, (open_C_G o10 x1 c1), WkT.refl _, trivial, trivial⟩ ?_
          rcases ite_some h with ⟨h4, h⟩ | ⟨h4, h⟩
          · -- yes
            refine WP.cond (b := decide (((List.length (openN o10) : Nat) : Int) > (1 : Int))) rfl (fun _ => ?_) (fun hh => by rw [h4] at hh; cases hh)
            refine WP.path tab_ok mixed [] [.keep [10, 9, 8, 7, 6, 1, 2], .keepO [2008, 2010, 2026, 10250]] (ps := []) (e := .normal) (σ' := ⟨[10290, 2008, 2010, 2026, 10250], [(10, V.ref 2010 0), (9, V.own 2026 2 (List.length o26)), (8, V.ref 2008 0), (7, vb false), (6, V.t (T.nils)), (1, vi x2), (2, vi x3)], [(2008, ov 79 [V.mapr 10250]), (2010, oc 26 [tl o10, ti x1]), (2026, oc 44 (List.flatMap askedC o26)), (10250, Tl.Obj.map (mpI o10250))]⟩) (by kernel_rfl) trivial ?_
            refine WP.seq ?_
            refine WP.block ?_
            refine WP.seq ?_
            obtain ⟨r34, r34b, c2, h⟩ := bnd2_some h
            obtain ⟨r35, c3, h⟩ := bnd1_some h
            refine WP.path tab_ok mixed [(34, An.callG [(500, 10250)] [V.agg [V.mapr 500], V.t (T.agg [tl o10, ti x1])] [(500, Tl.Obj.map (mpI o10250))] (vi r34) [(500, Tl.Obj.map (mpI r34b))]), (35, An.call (ti r35)), (11, An.id 2011)] [.keep [11, 10, 9, 8, 7, 6, 1, 2], .keepO [2008, 2010, 2011, 2026, 10250]] (ps := [(0 + 1 ≤ 1), (0 + 2 ≤ 2), (CG Try.prog 60 [V.agg [V.mapr 500], V.t (T.agg [tl o10, ti x1])] [(500, Tl.Obj.map (mpI o10250))] (vi r34) [(500, Tl.Obj.map (mpI r34b))]), ((V.agg [V.mapr 500]).ren (renF [(500, 10250)]) = V.agg [V.mapr 10250]), (WkT (T.agg [tl o10, ti x1]) (T.agg [tl o10, ti x1])), ((Tl.Obj.map (mpI o10250)) = (Tl.Obj.map (mpI o10250)).ren (renF [(500, 10250)])), (C Try.prog 59 [ti r34] (ti r35)), ((1 = 1 ∧ 0 + 1 ≤ 2) ∧ True), ((0 + 2 ≤ 2 ∧ 2 = 2))]) (e := .normal) (σ' := ⟨[2011, 10290, 2008, 2010, 2026, 10250], [(11, V.ref 2011 0), (10, V.ref 2010 0), (9, V.own 2026 2 (List.length o26)), (8, V.ref 2008 0), (7, vb false), (6, V.t (T.nils)), (1, vi x2), (2, vi x3)], [(2008, ov 79 [V.mapr 10250]), (2010, oc 26 [tl o10, ti x1]), (2011, oc 44 [ti r35, tb false]), (2026, oc 44 (List.flatMap askedC o26)), (10250, Tl.Obj.map (mpI r34b))]⟩) (by kernel_rfl) ⟨by decide, by decide, (F_impl_lesser_best_W o10250 o10 x1 r34 r34b c2), by first | rfl | (simp [V.ren, V.renL, renF, lk]; done) | (simp [V.ren, V.renL, renF, lk]; omega), WkT.refl _, by first | rfl | (simp only [tlS]; rfl) | (simp [Tl.Obj.ren, V.ren, V.renL, renF, lk]; done), (F_impl_less_W r34 r35 c3), ⟨⟨by first | rfl | (simp; done) | (simp []; done) | omega, by first | decide | (simp; done) | (simp []; done) | omega | (simp only [tlL]; omega) | (simp; omega)⟩, trivial⟩, by decide, trivial⟩ ?_
            refine WP.seq ?_
            obtain ⟨c4, h⟩ := chk_some h
            refine WP.path tab_ok mixed [(40, An.call (tb (hasB r35 x2)))] [.keep [11, 10, 9, 8, 7, 6, 1, 2], .keepO [2008, 2010, 2011, 2026, 10250]] (ps := [(True), (C Try.prog 61 [ti r35, ti x2] (tb (hasB r35 x2))), (True), (True), (1 < 2)]) (e := .normal) (σ' := ⟨[2011, 10290, 2008, 2010, 2026, 10250], [(11, V.ref 2011 0), (10, V.ref 2010 0), (9, V.own 2026 2 (List.length o26)), (8, V.ref 2008 0), (7, vb false), (6, V.t (T.nils)), (1, vi x2), (2, vi x3)], [(2008, ov 79 [V.mapr 10250]), (2010, oc 26 [tl o10, ti x1]), (2011, oc 44 [ti r35, tb (!((hasB r35 x2) == (((List.length o26 : Nat) : Int) == x3)))]), (2026, oc 44 (List.flatMap askedC o26)), (10250, Tl.Obj.map (mpI r34b))]⟩) (by kernel_rfl) ⟨trivial, (has_C r35 x2 c4), trivial, trivial, by decide, trivial⟩ ?_
            refine WP.seq ?_
            obtain ⟨c5, h⟩ := chk_some h
            refine WP.path tab_ok mixed [(49, An.call (T.agg [tl (ansN x1 r35 (!((hasB r35 x2) == (((List.length o26 : Nat) : Int) == x3))) o10), ti x1]))] [.keep [11, 10, 9, 8, 7, 6, 1, 2], .keepO [2008, 2010, 2011, 2026, 10250]] (ps := [(0 + 2 ≤ 2), (0 + 2 ≤ 2), (C Try.prog 62 [T.agg [tl o10, ti x1], T.agg [ti r35, tb (!((hasB r35 x2) == (((List.length o26 : Nat) : Int) == x3)))]] (T.agg [tl (ansN x1 r35 (!((hasB r35 x2) == (((List.length o26 : Nat) : Int) == x3))) o10), ti x1])), ((0 + 2 ≤ 2 ∧ 2 = 2))]) (e := .normal) (σ' := ⟨[2011, 10290, 2008, 2010, 2026, 10250], [(11, V.ref 2011 0), (10, V.ref 2010 0), (9, V.own 2026 2 (List.length o26)), (8, V.ref 2008 0), (7, vb false), (6, V.t (T.nils)), (1, vi x2), (2, vi x3)], [(2008, ov 79 [V.mapr 10250]), (2010, oc 26 [tl (ansN x1 r35 (!((hasB r35 x2) == (((List.length o26 : Nat) : Int) == x3))) o10), ti x1]), (2011, oc 44 [ti r35, tb (!((hasB r35 x2) == (((List.length o26 : Nat) : Int) == x3)))]), (2026, oc 44 (List.flatMap askedC o26)), (10250, Tl.Obj.map (mpI r34b))]⟩) (by kernel_rfl) ⟨by decide, by decide, (answered_C o10 x1 r35 (!((hasB r35 x2) == (((List.length o26 : Nat) : Int) == x3))) c5), by decide, trivial⟩ ?_
            refine WP.seq ?_
            refine WP.seq ?_
            obtain ⟨c6, h⟩ := chk_some h
            refine WP.path tab_ok mixed [(52, An.call (tb (opB (ansN x1 r35 (!((hasB r35 x2) == (((List.length o26 : Nat) : Int) == x3))) o10) x2)))] [.keep [53, 11, 10, 9, 8, 7, 6, 1, 2], .keepO [2008, 2010, 2011, 2026, 10250]] (ps := [(0 + 2 ≤ 2), (C Try.prog 56 [T.agg [tl (ansN x1 r35 (!((hasB r35 x2) == (((List.length o26 : Nat) : Int) == x3))) o10), ti x1], ti x2] (tb (opB (ansN x1 r35 (!((hasB r35 x2) == (((List.length o26 : Nat) : Int) == x3))) o10) x2)))]) (e := .normal) (σ' := ⟨[2011, 10290, 2008, 2010, 2026, 10250], [(53, vb (!(opB (ansN x1 r35 (!((hasB r35 x2) == (((List.length o26 : Nat) : Int) == x3))) o10) x2))), (11, V.ref 2011 0), (10, V.ref 2010 0), (9, V.own 2026 2 (List.length o26)), (8, V.ref 2008 0), (7, vb false), (6, V.t (T.nils)), (1, vi x2), (2, vi x3)], [(2008, ov 79 [V.mapr 10250]), (2010, oc 26 [tl (ansN x1 r35 (!((hasB r35 x2) == (((List.length o26 : Nat) : Int) == x3))) o10), ti x1]), (2011, oc 44 [ti r35, tb (!((hasB r35 x2) == (((List.length o26 : Nat) : Int) == x3)))]), (2026, oc 44 (List.flatMap askedC o26)), (10250, Tl.Obj.map (mpI r34b))]⟩) (by kernel_rfl) ⟨by decide, (isOpen_C (ansN x1 r35 (!((hasB r35 x2) == (((List.length o26 : Nat) : Int) == x3))) o10) x1 x2 c6), trivial⟩ ?_
            rcases ite_some h with ⟨h5, h⟩ | ⟨h5, h⟩
            · -- yes
              refine WP.cond (b := !(opB (ansN x1 r35 (!((hasB r35 x2) == (((List.length o26 : Nat) : Int) == x3))) o10) x2)) rfl (fun _ => ?_) (fun hh => by rw [h5] at hh; cases hh)
              simp only [Option.some.injEq, Prod.mk.injEq] at h
              obtain ⟨rfl, rfl⟩ := h
              exact WP.pathG tab_ok mixed [] [.keep [6, 7], .keepO [], .names []] [] _ (r' := V.tup [V.own 9000 2 (List.length ([] : List (Int × Bool))), vb false]) (ps := []) (r := V.t (T.tup [T.nils, tb false])) (N := []) (O := []) [(9000, 44)] (by kernel_rfl) trivial ⟨(by first | rfl | (simp; done)), (WkT.refl _), trivial⟩ rfl rfl (fun _ h => h)
            · -- no
              refine WP.cond (b := !(opB (ansN x1 r35 (!((hasB r35 x2) == (((List.length o26 : Nat) : Int) == x3))) o10) x2)) rfl (fun hh => by rw [h5] at hh; cases hh) (fun _ => ?_)
              refine WP.path tab_ok mixed [] [.keep [11, 10, 9, 8, 7, 6, 1, 2], .keepO [2008, 2010, 2011, 2026, 10250]] (ps := []) (e := .normal) (σ' := ⟨[2011, 10290, 2008, 2010, 2026, 10250], [(11, V.ref 2011 0), (10, V.ref 2010 0), (9, V.own 2026 2 (List.length o26)), (8, V.ref 2008 0), (7, vb false), (6, V.t (T.nils)), (1, vi x2), (2, vi x3)], [(2008, ov 79 [V.mapr 10250]), (2010, oc 26 [tl (ansN x1 r35 (!((hasB r35 x2) == (((List.length o26 : Nat) : Int) == x3))) o10), ti x1]), (2011, oc 44 [ti r35, tb (!((hasB r35 x2) == (((List.length o26 : Nat) : Int) == x3)))]), (2026, oc 44 (List.flatMap askedC o26)), (10250, Tl.Obj.map (mpI r34b))]⟩) (by kernel_rfl) trivial ?_
              obtain ⟨c7, h⟩ := chk_some h
              refine WP.path tab_ok mixed [(56, An.fz), (57, An.id 2057)] [.keep [9, 10, 8, 7, 6, 1, 2], .keepO [2008, 2010, 2057, 10250]] (ps := [(0 + 2 ≤ 2), ((2 = 2 ∧ 0 + 2 ≤ 2) ∧ True), (2 = 1 * 2), (True), (List.length (List.flatMap askedC o26) = (List.length o26) * 2), ((((List.length o26) + 1) * 16 ≤ 140737488355328 ∧ (List.length o26) + 1 ≤ maxLen))]) (e := .normal) (σ' := ⟨[2057, 2011, 10290, 2008, 2010, 2026, 10250], [(9, V.own 2057 2 ((List.length o26) + 1)), (10, V.ref 2010 0), (8, V.ref 2008 0), (7, vb false), (6, V.t (T.nils)), (1, vi x2), (2, vi x3)], [(2008, ov 79 [V.mapr 10250]), (2010, oc 26 [tl (ansN x1 r35 (!((hasB r35 x2) == (((List.length o26 : Nat) : Int) == x3))) o10), ti x1]), (2057, oc 44 ((List.flatMap askedC o26) ++ [ti r35, tb (!((hasB r35 x2) == (((List.length o26 : Nat) : Int) == x3)))])), (10250, Tl.Obj.map (mpI r34b))]⟩) (by kernel_rfl) ⟨by decide, ⟨⟨by first | rfl | (simp; done) | (simp []; done) | omega, by first | decide | (simp; done) | (simp []; done) | omega | (simp only [tlL]; omega) | (simp; omega)⟩, trivial⟩, by decide, trivial, by first | exact len_asked _ | (rw [len_asked]; first | done | omega | (simp; done) | (simp only [tlL]; omega) | (simp; omega)), c7, trivial⟩ ?_
              refine WP.path tab_ok mixed [(10, An.id 3010)] [.keep [10, 9, 8, 7, 6, 1, 2], .keepO [2008, 3010, 2057, 10250], .names [(2008, 2008), (3010, 2010), (2057, 2026), (10250, 10250)]] (ps := [(0 + 2 ≤ 2), ((0 + 2 ≤ 2 ∧ 2 = 2))]) (e := .normal) (σ' := ⟨[2008, 2010, 2026, 10250], [(10, V.ref 2010 0), (9, V.own 2026 2 ((List.length o26) + 1)), (8, V.ref 2008 0), (7, vb false), (6, V.t (T.nils)), (1, vi x2), (2, vi x3)], [(2008, ov 79 [V.mapr 10250]), (2010, oc 26 [tl (ansN x1 r35 (!((hasB r35 x2) == (((List.length o26 : Nat) : Int) == x3))) o10), ti x1]), (2026, oc 44 ((List.flatMap askedC o26) ++ [ti r35, tb (!((hasB r35 x2) == (((List.length o26 : Nat) : Int) == x3)))])), (10250, Tl.Obj.map (mpI r34b))]⟩) (by kernel_rfl) ⟨by decide, by decide, trivial⟩ ?_
              exact ⟨(n, ansN x1 r35 (!((hasB r35 x2) == (((List.length o26 : Nat) : Int) == x3))) o10, o26 ++ [(r35, !((hasB r35 x2) == (((List.length o26 : Nat) : Int) == x3)))], r34b), h, Nat.lt_succ_self _, (by first | rfl | (simp only [tlS, tl, vl, vo, oc, ov, tbl, vbl, ty, vy] <;> rfl) | (simp <;> omega) | (simp []; done) | (rw [List.take_of_length_le (by simp [])] <;> rfl))⟩
          · -- no
            refine WP.cond (b := decide (((List.length (openN o10) : Nat) : Int) > (1 : Int))) rfl (fun hh => by rw [h4] at hh; cases hh) (fun _ => ?_)
            refine WP.path tab_ok mixed [] [.keep [9, 7, 6, 2], .keepO [2026], .names [(2026, 2026)]] (ps := []) (e := (.exit 0)) (σ' := ⟨[2026], [(9, V.own 2026 2 (List.length o26)), (7, vb false), (6, V.t (T.nils)), (2, vi x3)], [(2026, oc 44 (List.flatMap askedC o26))]⟩) (by kernel_rfl) trivial ?_
            exact ⟨(o26), h, rfl⟩
      · -- from there
        intro o26 h0
        have h := (show J1 o26 = some (y0, y1) from h0)
        rw [hJ1] at h
        refine WP.seq ?_
        refine WP.seq ?_
        refine WP.path tab_ok mixed [] [.keep [62, 9, 7, 6], .keepO [2026]] (ps := [(True)]) (e := .normal) (σ' := ⟨[2026], [(62, vb (decide (x3 ≥ ((List.length o26 : Nat) : Int)))), (9, V.own 2026 2 (List.length o26)), (7, vb false), (6, V.t (T.nils))], [(2026, oc 44 (List.flatMap askedC o26))]⟩) (by kernel_rfl) ⟨trivial, trivial⟩ ?_
        rcases ite_some h with ⟨h6, h⟩ | ⟨h6, h⟩
        · -- yes
          refine WP.cond (b := decide (x3 ≥ ((List.length o26 : Nat) : Int))) rfl (fun _ => ?_) (fun hh => by rw [h6] at hh; cases hh)
          simp only [Option.some.injEq, Prod.mk.injEq] at h
          obtain ⟨rfl, rfl⟩ := h
          exact WP.pathG tab_ok mixed [] [.keep [6, 7], .keepO [], .names []] [] _ (r' := V.tup [V.own 9000 2 (List.length ([] : List (Int × Bool))), vb false]) (ps := []) (r := V.t (T.tup [T.nils, tb false])) (N := []) (O := []) [(9000, 44)] (by kernel_rfl) trivial ⟨(by first | rfl | (simp; done)), (WkT.refl _), trivial⟩ rfl rfl (fun _ h => h)
        · -- no
          refine WP.cond (b := decide (x3 ≥ ((List.length o26 : Nat) : Int))) rfl (fun hh => by rw [h6] at hh; cases hh) (fun _ => ?_)
          refine WP.path tab_ok mixed [] [.keep [9, 7, 6], .keepO [2026]] (ps := []) (e := .normal) (σ' := ⟨[2026], [(9, V.own 2026 2 (List.length o26)), (7, vb false), (6, V.t (T.nils))], [(2026, oc 44 (List.flatMap askedC o26))]⟩) (by kernel_rfl) trivial ?_
          simp only [Option.some.injEq, Prod.mk.injEq] at h
          obtain ⟨rfl, rfl⟩ := h
          exact WP.pathG tab_ok mixed [] [.keep [6, 7], .keepO [2026], .names [(2026, 9000)]] [9000] _ (r' := V.tup [V.own 9000 2 (List.length o26), vb true]) (ps := []) (r := V.tup [V.own 9000 2 (List.length o26), vb true]) (N := [9000]) (O := [(9000, oc 44 (List.flatMap askedC o26))]) [] (by kernel_rfl) trivial ⟨rfl, (WkT.refl _), trivial⟩ rfl rfl (fun _ h => h)
theorem F_impl_LessPlay_W_C (x0 : List Int) (x1 : Int) (x2 : Int) (x3 : Int) (y0 : List (Int × Bool)) (y1 : Bool) (h : F_impl_LessPlay x0 x1 x2 x3 = some (y0, y1)) : C Try.prog 8 [T.agg [tl x0, ti x1], ti x2, ti x3] (T.tup [T.list (List.length y0) 2 (List.flatMap askedC y0), tb y1]) :=
  CG.toC (ps := [(List.length (List.flatMap askedC y0) = (List.length y0) * 2)]) (F_impl_LessPlay_W  x0 x1 x2 x3 y0 y1 h) (by rfl) ⟨by first | exact len_asked _ | (rw [len_asked]; first | done | omega | (simp; done) | (simp; omega)), trivial⟩
theorem F_spec_l6After_W (x0 : List Int) (x1 : Int) (x2 : Int) (x3 : Bool) (y0 : List Int) (y1 : Int) (h : F_spec_l6After x0 x1 x2 x3 = some (y0, y1)) : CG Try.prog 68 [V.t (T.agg [tl x0, ti x1]), vi x2, vb x3] [] (V.agg [vo 9000 (List.length y0), vi y1]) [(9000, oc 3 (List.map (T.int .i64) y0))] := by
  unfold F_spec_l6After at h
  refine CG.intro (tab := tab) tab_ok (fn := Try.f68) Try.func68 (by kernel_rfl) rfl (Nat.le_of_ble_eq_true rfl) (by kernel_rfl) ?_
  obtain ⟨c0, h⟩ := chk_some h
  obtain ⟨c1, h⟩ := chk_some h
  obtain ⟨n10, c2, h⟩ := nam_some h
  obtain ⟨c3, h⟩ := chk_some h
  simp only [Option.some.injEq, Prod.mk.injEq] at h
  obtain ⟨rfl, rfl⟩ := h
  exact WP.pathG tab_ok mixed [(3, An.fz), (6, An.id 2006), (9, An.v (T.int .i64 ((1 : Int) * 2 ^ Int.toNat x2))), (10, An.v (ti n10)), (12, An.callG [(9000, 10120)] [V.t (T.agg [tl x0, ti x1]), vi n10, vb x3] [] (V.agg [vo 9000 (List.length (ansN x1 n10 x3 x0)), vi x1]) [(9000, oc 3 (List.map (T.int .i64) (ansN x1 n10 x3 x0)))])] [.keep [6], .keepO [10120, 2006], .names [(10120, 9000), (2006, 2006)]] [9000] _ (r' := V.agg [vo 9000 (List.length (ansN x1 n10 x3 x0)), vi x1]) (ps := [(2 ≤ 2), (0 ≤ x2), (T.int .i64 (IntKind.wrap .i64 ((1 : Int) * 2 ^ (min (Int.toNat x2) 64))) = T.int .i64 ((1 : Int) * 2 ^ Int.toNat x2)), (True), (T.int .i64 (IntKind.wrap .i64 (((1 : Int) * 2 ^ Int.toNat x2) - (1 : Int))) = ti n10), (CG Try.prog 125 [V.t (T.agg [tl x0, ti x1]), vi n10, vb x3] [] (V.agg [vo 9000 (List.length (ansN x1 n10 x3 x0)), vi x1]) [(9000, oc 3 (List.map (T.int .i64) (ansN x1 n10 x3 x0)))]), (WkT (T.agg [tl x0, ti x1]) (T.agg [tl x0, ti x1])), (WkT (ti n10) (ti n10)), (WkT (tb x3) (tb x3)), ((0 + 2 ≤ 2 ∧ 2 = 2)), (0 + 2 ≤ 2)]) (r := V.agg [vo 9000 (List.length (ansN x1 n10 x3 x0)), vi x1]) (N := [9000, 2006]) (O := [(9000, oc 3 (List.map (T.int .i64) (ansN x1 n10 x3 x0)))]) [] (by kernel_rfl) ⟨by decide, c0.1, shl_told c0, trivial, Eq.trans (wrapI c1) (congrArg (ti) c2), (l2After_C_G x0 x1 n10 x3 c3), WkT.refl _, WkT.refl _, WkT.refl _, by decide, by decide, trivial⟩ ⟨rfl, (WkT.refl _), trivial⟩ rfl rfl (fun _ h => h)
theorem F_spec_l6After_W_C (x0 : List Int) (x1 : Int) (x2 : Int) (x3 : Bool) (y0 : List Int) (y1 : Int) (h : F_spec_l6After x0 x1 x2 x3 = some (y0, y1)) : C Try.prog 68 [T.agg [tl x0, ti x1], ti x2, tb x3] (T.agg [tl y0, ti y1]) :=
  CG.toC (ps := [(List.length (List.map (T.int .i64) y0) = (List.length y0) * 1)]) (F_spec_l6After_W  x0 x1 x2 x3 y0 y1 h) (by rfl) ⟨by first | rfl | omega | (simp <;> omega) | (simp [hl] <;> omega), trivial⟩
theorem F_spec_l2Start_W (x0 : Int) (x1 : Int) (y0 : List Int) (y1 : Int) (h : F_spec_l2Start x0 x1 = some (y0, y1)) : CG Try.prog 163 [vi x0, vi x1] [] (V.agg [vo 9000 (List.length y0), vi y1]) [(9000, oc 3 (List.map (T.int .i64) y0))] := by
  unfold F_spec_l2Start at h
  refine CG.intro (tab := tab) tab_ok (fn := Try.f163) Try.func163 (by kernel_rfl) rfl (Nat.le_of_ble_eq_true rfl) (by kernel_rfl) ?_
  obtain ⟨c0, h⟩ := chk_some h
  simp only [Option.some.injEq, Prod.mk.injEq] at h
  obtain ⟨rfl, rfl⟩ := h
  exact WP.pathG tab_ok mixed [(4, An.id 2004), (6, An.id 2006)] [.keep [4], .keepO [2006, 2004], .names [(2006, 9000), (2004, 2004)]] [9000] _ (r' := V.agg [vo 9000 (List.length (List.replicate (Int.toNat x0) (0 : Int))), vi x1]) (ps := [((0 ≤ x0 ∧ x0 ≤ x0 ∧ (8 : Int) * x0 ≤ 281474976710656 ∧ x0 ≤ (maxLen : Int))), ((1 = 1 ∧ 0 + 1 ≤ 2) ∧ (1 = 1 ∧ 1 + 1 ≤ 2) ∧ True), ((0 + 2 ≤ 2 ∧ 2 = 2)), (0 + 2 ≤ 2)]) (r := V.agg [vo 9000 (Int.toNat x0), vi x1]) (N := [9000, 2004]) (O := [(9000, oc 3 (List.replicate (Int.toNat x0) (ti 0)))]) [] (by kernel_rfl) ⟨c0, ⟨⟨by decide, by decide⟩, ⟨by decide, by decide⟩, trivial⟩, by decide, by decide, trivial⟩ ⟨(congrArg (V.own 9000 1) (by first | rfl | (simp only [tlS, tl, vl, vo, oc, ov, tbl, vbl, ty, vy] <;> rfl) | (simp <;> omega) | (simp []; done) | (rw [List.take_of_length_le (by simp [])] <;> rfl))), (WkT.refl _), trivial⟩ rfl (by first | rfl | (simp only [tlS, tl, vl, vo, oc, ov, tbl, vbl, ty, vy] <;> rfl) | (simp <;> omega) | (simp []; done) | (rw [List.take_of_length_le (by simp [])] <;> rfl)) (fun _ h => h)
theorem F_spec_l2Start_W_C (x0 : Int) (x1 : Int) (y0 : List Int) (y1 : Int) (h : F_spec_l2Start x0 x1 = some (y0, y1)) : C Try.prog 163 [ti x0, ti x1] (T.agg [tl y0, ti y1]) :=
  CG.toC (ps := [(List.length (List.map (T.int .i64) y0) = (List.length y0) * 1)]) (F_spec_l2Start_W  x0 x1 y0 y1 h) (by rfl) ⟨by first | rfl | omega | (simp <;> omega) | (simp [hl] <;> omega), trivial⟩
theorem F_spec_l6Of_W (x0 : Int) (x1 : Int) (x2 : Int) (y0 : List Int) (y1 : Int) (h : F_spec_l6Of x0 x1 x2 = some (y0, y1)) : CG Try.prog 122 [vi x0, vi x1, vi x2] [] (V.agg [vo 9000 (List.length y0), vi y1]) [(9000, oc 3 (List.map (T.int .i64) y0))] := by
  unfold F_spec_l6Of at h
  refine CG.intro (tab := tab) tab_ok (fn := Try.f122) Try.func122 (by kernel_rfl) rfl (Nat.le_of_ble_eq_true rfl) (by kernel_rfl) ?_
  refine WP.seq ?_
  refine WP.path tab_ok mixed [(6, An.id 2006)] [.keep [6, 0, 1, 2], .keepO [2006]] (ps := []) (e := .normal) (σ' := ⟨[2006], [(6, V.ref 2006 0), (0, vi x0), (1, vi x1), (2, vi x2)], [(2006, oc 26 [T.nils, ti 0])]⟩) (by kernel_rfl) trivial ?_
  refine WP.seq ?_
  obtain ⟨r11, r11b, c0, h⟩ := bnd2_some h
  refine WP.path tab_ok mixed [(11, An.callG [(9000, 10110)] [vi x1, vi x2] [] (V.agg [vo 9000 (List.length r11), vi r11b]) [(9000, oc 3 (List.map (T.int .i64) r11))]), (7, An.id 2007)] [.keep [7, 6, 0, 1, 2], .keepO [2006, 2007, 10110]] (ps := [(CG Try.prog 163 [vi x1, vi x2] [] (V.agg [vo 9000 (List.length r11), vi r11b]) [(9000, oc 3 (List.map (T.int .i64) r11))]), (WkT (ti x1) (ti x1)), (WkT (ti x2) (ti x2)), ((0 + 2 ≤ 2 ∧ 2 = 2))]) (e := .normal) (σ' := ⟨[2007, 10110, 2006], [(7, V.ref 2007 0), (6, V.ref 2006 0), (0, vi x0), (1, vi x1), (2, vi x2)], [(2006, oc 26 [T.nils, ti 0]), (2007, ov 26 [vo 10110 (List.length r11), vi r11b]), (10110, oc 3 (List.map (T.int .i64) r11))]⟩) (by kernel_rfl) ⟨(F_spec_l2Start_W x1 x2 r11 r11b c0), WkT.refl _, WkT.refl _, by decide, trivial⟩ ?_
  obtain ⟨J1, hJ1, h⟩ := jn_some h
  refine WP.joinA (fun (zz : (List Int)) => ⟨[2006, 2007, 10110], [(7, V.ref 2007 0), (6, V.ref 2006 0)], [(2006, oc 26 [T.nils, ti 0]), (2007, ov 26 [vo 10110 (List.length zz), vi r11b]), (10110, oc 3 (List.map (T.int .i64) zz))]⟩) (fun zz => J1 zz = some (y0, y1)) ?_ ?_
  · -- to where they meet
    refine WP.seq ?_
    obtain ⟨c1, h⟩ := chk_some h
    refine WP.path tab_ok mixed [(13, An.v (T.int .i64 (x1 - (1 : Int))))] [.keep [8, 7, 6, 0, 2], .keepO [2006, 2007, 10110]] (ps := [(True), (T.int .i64 (IntKind.wrap .i64 (x1 - (1 : Int))) = T.int .i64 (x1 - (1 : Int)))]) (e := .normal) (σ' := ⟨[2007, 10110, 2006], [(8, vi (x1 - (1 : Int))), (7, V.ref 2007 0), (6, V.ref 2006 0), (0, vi x0), (2, vi x2)], [(2006, oc 26 [T.nils, ti 0]), (2007, ov 26 [vo 10110 (List.length r11), vi r11b]), (10110, oc 3 (List.map (T.int .i64) r11))]⟩) (by kernel_rfl) ⟨trivial, wrapI c1, trivial⟩ ?_
    refine WP.block ?_
    refine WP.wk [.keep [8, 7, 6, 0, 2], .keepO [2006, 2007, 10110], .names [(2006, 2006), (2007, 2007), (10110, 10110)]] (σ' := ⟨[2006, 2007, 10110], [(8, vi (x1 - (1 : Int))), (7, V.ref 2007 0), (6, V.ref 2006 0), (0, vi x0), (2, vi x2)], [(2006, oc 26 [T.nils, ti 0]), (2007, ov 26 [vo 10110 (List.length r11), vi r11b]), (10110, oc 3 (List.map (T.int .i64) r11))]⟩) (ps := []) (by kernel_rfl) trivial ?_
    refine WP.loop (α := Nat × (List Int) × Int × Int) (fun zz => ⟨[2006, 2007, 10110], [(8, vi zz.2.2.1), (7, V.ref 2007 0), (6, V.ref 2006 0), (0, vi zz.2.2.2), (2, vi x2)], [(2006, oc 26 [T.nils, ti 0]), (2007, ov 26 [vo 10110 (List.length zz.2.1), vi r11b]), (10110, oc 3 (List.map (T.int .i64) zz.2.1))]⟩) (fun zz => F_spec_l6Of_L1 x2 J1 zz.1 zz.2.1 zz.2.2.1 zz.2.2.2 = some (y0, y1)) (fun zz => zz.1) (fuel, r11, (x1 - (1 : Int)), x0) h ?_
    rintro ⟨n, o10110, v8, v0⟩ h0
    have h := (show F_spec_l6Of_L1 x2 J1 n o10110 v8 v0 = some (y0, y1) from h0)
    rcases n with _ | n
    · rw [F_spec_l6Of_L1] at h; cases h
    · rw [F_spec_l6Of_L1] at h
      refine WP.seq ?_
      refine WP.seq ?_
      refine WP.path tab_ok mixed [] [.keep [15, 8, 7, 6, 0, 2], .keepO [2006, 2007, 10110]] (ps := [(True)]) (e := .normal) (σ' := ⟨[2006, 2007, 10110], [(15, vb (decide (v8 ≥ (0 : Int)))), (8, vi v8), (7, V.ref 2007 0), (6, V.ref 2006 0), (0, vi v0), (2, vi x2)], [(2006, oc 26 [T.nils, ti 0]), (2007, ov 26 [vo 10110 (List.length o10110), vi r11b]), (10110, oc 3 (List.map (T.int .i64) o10110))]⟩) (by kernel_rfl) ⟨trivial, trivial⟩ ?_
      rcases ite_some h with ⟨h1, h⟩ | ⟨h1, h⟩
      · -- yes
        refine WP.cond (b := decide (v8 ≥ (0 : Int))) rfl (fun _ => ?_) (fun hh => by rw [h1] at hh; cases hh)
        refine WP.path tab_ok mixed [] [.keep [8, 7, 6, 0, 2], .keepO [2006, 2007, 10110]] (ps := []) (e := .normal) (σ' := ⟨[2006, 2007, 10110], [(8, vi v8), (7, V.ref 2007 0), (6, V.ref 2006 0), (0, vi v0), (2, vi x2)], [(2006, oc 26 [T.nils, ti 0]), (2007, ov 26 [vo 10110 (List.length o10110), vi r11b]), (10110, oc 3 (List.map (T.int .i64) o10110))]⟩) (by kernel_rfl) trivial ?_
        refine WP.seq ?_
        refine WP.block ?_
        obtain ⟨c2, h⟩ := chk_some h
        obtain ⟨c3, h⟩ := chk_some h
        obtain ⟨c4, h⟩ := chk_some h
        obtain ⟨n25, c5, h⟩ := nam_some h
        obtain ⟨c6, h⟩ := chk_some h
        obtain ⟨c7, h⟩ := chk_some h
        refine WP.path tab_ok mixed [(23, An.v (T.int .i64 (x2 + (2 : Int)))), (25, An.v (ti n25)), (29, An.v (T.int .i64 (x2 + (2 : Int)))), (30, An.v (T.int .i64 (Int.tdiv v0 (x2 + (2 : Int)))))] [.keep [0, 8, 7, 6, 2], .keepO [2006, 2007, 10110]] (ps := [(True), (True), (T.int .i64 (IntKind.wrap .i64 (x2 + (2 : Int))) = T.int .i64 (x2 + (2 : Int))), ((x2 + (2 : Int)) ≠ 0), (True), (T.int .i64 (IntKind.wrap .i64 ((Int.tmod v0 (x2 + (2 : Int))) - (1 : Int))) = ti n25), ((0 ≤ v8 ∧ v8 < ((List.length o10110 : Nat) : Int))), ((Int.toNat v8) * 1 < List.length (List.map (T.int .i64) o10110)), (True), (T.int .i64 (IntKind.wrap .i64 (x2 + (2 : Int))) = T.int .i64 (x2 + (2 : Int))), ((x2 + (2 : Int)) ≠ 0), (T.int .i64 (IntKind.wrap .i64 (Int.tdiv v0 (x2 + (2 : Int)))) = T.int .i64 (Int.tdiv v0 (x2 + (2 : Int))))]) (e := .normal) (σ' := ⟨[2006, 2007, 10110], [(0, vi (Int.tdiv v0 (x2 + (2 : Int)))), (8, vi v8), (7, V.ref 2007 0), (6, V.ref 2006 0), (2, vi x2)], [(2006, oc 26 [T.nils, ti 0]), (2007, ov 26 [vo 10110 (List.length o10110), vi r11b]), (10110, oc 3 (List.set (List.map (T.int .i64) o10110) ((Int.toNat v8) * 1) (ti n25)))]⟩) (by kernel_rfl) ⟨trivial, trivial, wrapI c2, c3, trivial, Eq.trans (wrapI c4) (congrArg (ti) c5), c6, by first | decide | omega | (simp only [tlL] <;> omega) | (simp <;> omega) | (simp [] <;> omega), trivial, wrapI c2, c3, quo_told c7, trivial⟩ ?_
        obtain ⟨c8, h⟩ := chk_some h
        refine WP.path tab_ok mixed [(17, An.v (T.int .i64 (v8 - (1 : Int))))] [.keep [8, 7, 6, 0, 2], .keepO [2006, 2007, 10110], .names [(2006, 2006), (2007, 2007), (10110, 10110)]] (ps := [(True), (T.int .i64 (IntKind.wrap .i64 (v8 - (1 : Int))) = T.int .i64 (v8 - (1 : Int)))]) (e := .normal) (σ' := ⟨[2006, 2007, 10110], [(8, vi (v8 - (1 : Int))), (7, V.ref 2007 0), (6, V.ref 2006 0), (0, vi (Int.tdiv v0 (x2 + (2 : Int)))), (2, vi x2)], [(2006, oc 26 [T.nils, ti 0]), (2007, ov 26 [vo 10110 (List.length o10110), vi r11b]), (10110, oc 3 (List.set (List.map (T.int .i64) o10110) ((Int.toNat v8) * 1) (ti n25)))]⟩) (by kernel_rfl) ⟨trivial, wrapI c8, trivial⟩ ?_
        exact ⟨(n, List.set o10110 (Int.toNat v8) n25, (v8 - (1 : Int)), (Int.tdiv v0 (x2 + (2 : Int)))), h, Nat.lt_succ_self _, (by first | rfl | (simp only [tlS, tl, vl, vo, oc, ov, tbl, vbl, ty, vy] <;> rfl) | (simp <;> omega) | (simp []; done) | (rw [List.take_of_length_le (by simp [])] <;> rfl))⟩
      · -- no
        refine WP.cond (b := decide (v8 ≥ (0 : Int))) rfl (fun hh => by rw [h1] at hh; cases hh) (fun _ => ?_)
        refine WP.path tab_ok mixed [] [.keep [7, 6], .keepO [2006, 2007, 10110], .names [(2006, 2006), (2007, 2007), (10110, 10110)]] (ps := []) (e := (.exit 0)) (σ' := ⟨[2006, 2007, 10110], [(7, V.ref 2007 0), (6, V.ref 2006 0)], [(2006, oc 26 [T.nils, ti 0]), (2007, ov 26 [vo 10110 (List.length o10110), vi r11b]), (10110, oc 3 (List.map (T.int .i64) o10110))]⟩) (by kernel_rfl) trivial ?_
        exact ⟨(o10110), h, rfl⟩
  · -- from there
    intro o10110 h0
    have h := (show J1 o10110 = some (y0, y1) from h0)
    rw [hJ1] at h
    simp only [Option.some.injEq, Prod.mk.injEq] at h
    obtain ⟨rfl, rfl⟩ := h
    exact WP.pathG tab_ok mixed [] [.keep [6], .keepO [10110, 2006], .names [(10110, 9000), (2006, 2006)]] [9000] _ (r' := V.agg [vo 9000 (List.length o10110), vi r11b]) (ps := [(0 + 2 ≤ 2), ((0 + 2 ≤ 2 ∧ 2 = 2)), (0 + 2 ≤ 2)]) (r := V.agg [vo 9000 (List.length o10110), vi r11b]) (N := [9000, 2006]) (O := [(9000, oc 3 (List.map (T.int .i64) o10110))]) [] (by kernel_rfl) ⟨by decide, by decide, by decide, trivial⟩ ⟨rfl, (WkT.refl _), trivial⟩ rfl rfl (fun _ h => h)
theorem F_spec_l6Of_W_C (x0 : Int) (x1 : Int) (x2 : Int) (y0 : List Int) (y1 : Int) (h : F_spec_l6Of x0 x1 x2 = some (y0, y1)) : C Try.prog 122 [ti x0, ti x1, ti x2] (T.agg [tl y0, ti y1]) :=
  CG.toC (ps := [(List.length (List.map (T.int .i64) y0) = (List.length y0) * 1)]) (F_spec_l6Of_W  x0 x1 x2 y0 y1 h) (by rfl) ⟨by first | rfl | omega | (simp <;> omega) | (simp [hl] <;> omega), trivial⟩
theorem F_spec_l6Key_W (x0 : List Int) (x1 : Int) (y0 : Int) (h : F_spec_l6Key x0 x1 = some y0) : C Try.prog 123 [T.agg [tl x0, ti x1]] (ti y0) := by
  unfold F_spec_l6Key at h
  refine C.intro (tab := tab) tab_ok (fn := Try.f123) Try.func123 (by kernel_rfl) rfl (Nat.le_of_ble_eq_true rfl) ?_
  refine WP.seq ?_
  refine WP.path tab_ok mixed [(1, An.fz)] [.keep [2, 1], .keepO []] (ps := []) (e := .normal) (σ' := ⟨[], [(2, vi 0), (1, V.t (T.ptr [tl x0, ti x1]))], []⟩) (by kernel_rfl) trivial ?_
  refine WP.seq ?_
  refine WP.path tab_ok mixed [] [.keep [3, 2, 1], .keepO []] (ps := []) (e := .normal) (σ' := ⟨[], [(3, vi 0), (2, vi 0), (1, V.t (T.ptr [tl x0, ti x1]))], []⟩) (by kernel_rfl) trivial ?_
  obtain ⟨J1, hJ1, h⟩ := jn_some h
  refine WP.joinA (fun (zz : Int) => ⟨[], [(3, vi zz), (2, vi 0)], []⟩) (fun zz => J1 zz = some y0) ?_ ?_
  · -- to where they meet
    refine WP.seq ?_
    refine WP.path tab_ok mixed [] [.keep [4, 3, 2, 1], .keepO []] (ps := []) (e := .normal) (σ' := ⟨[], [(4, vi 0), (3, vi 0), (2, vi 0), (1, V.t (T.ptr [tl x0, ti x1]))], []⟩) (by kernel_rfl) trivial ?_
    refine WP.block ?_
    refine WP.wk [.keep [4, 3, 2, 1], .keepO [], .names []] (σ' := ⟨[], [(4, vi 0), (3, vi 0), (2, vi 0), (1, V.t (T.ptr [tl x0, ti x1]))], []⟩) (ps := []) (by kernel_rfl) trivial ?_
    refine WP.st (σ' := ⟨[], [(4, vi (0 : Int)), (3, vi (0 : Int)), (2, vi 0), (1, V.t (T.ptr [tl x0, ti x1]))], []⟩) (by first | rfl | (simp only [tlS, tl, vl, vo, oc, ov, tbl, vbl, ty, vy] <;> rfl) | (simp <;> omega) | (simp []; done) | (rw [List.take_of_length_le (by simp [])] <;> rfl)) ?_
    refine WP.loop (α := Nat × Int × Int) (fun zz => ⟨[], [(4, vi zz.2.1), (3, vi zz.2.2), (2, vi 0), (1, V.t (T.ptr [tl x0, ti x1]))], []⟩) (fun zz => F_spec_l6Key_L1 x0 x1 J1 zz.1 zz.2.1 zz.2.2 = some y0) (fun zz => zz.1) (fuel, (0 : Int), (0 : Int)) h ?_
    rintro ⟨n, v4, v3⟩ h0
    have h := (show F_spec_l6Key_L1 x0 x1 J1 n v4 v3 = some y0 from h0)
    rcases n with _ | n
    · rw [F_spec_l6Key_L1] at h; cases h
    · rw [F_spec_l6Key_L1] at h
      refine WP.seq ?_
      refine WP.seq ?_
      refine WP.path tab_ok mixed [] [.keep [9, 4, 3, 2, 1], .keepO []] (ps := [(True), (True)]) (e := .normal) (σ' := ⟨[], [(9, vb (decide (v4 < ((List.length x0 : Nat) : Int)))), (4, vi v4), (3, vi v3), (2, vi 0), (1, V.t (T.ptr [tl x0, ti x1]))], []⟩) (by kernel_rfl) ⟨trivial, trivial, trivial⟩ ?_
      rcases ite_some h with ⟨h1, h⟩ | ⟨h1, h⟩
      · -- yes
        refine WP.cond (b := decide (v4 < ((List.length x0 : Nat) : Int))) rfl (fun _ => ?_) (fun hh => by rw [h1] at hh; cases hh)
        refine WP.path tab_ok mixed [] [.keep [4, 3, 2, 1], .keepO []] (ps := []) (e := .normal) (σ' := ⟨[], [(4, vi v4), (3, vi v3), (2, vi 0), (1, V.t (T.ptr [tl x0, ti x1]))], []⟩) (by kernel_rfl) trivial ?_
        refine WP.seq ?_
        refine WP.block ?_
        obtain ⟨c0, h⟩ := chk_some h
        obtain ⟨c1, h⟩ := chk_some h
        obtain ⟨c2, h⟩ := chk_some h
        obtain ⟨c3, h⟩ := chk_some h
        obtain ⟨n22, c4, h⟩ := nam_some h
        obtain ⟨c5, h⟩ := chk_some h
        refine WP.path tab_ok mixed [(15, An.v (T.int .i64 (x1 + (2 : Int)))), (16, An.v (T.int .i64 (v3 * (x1 + (2 : Int))))), (21, An.v (ti (List.getD x0 (Int.toNat v4) 0))), (22, An.v (ti n22)), (23, An.v (T.int .i64 (n22 + (1 : Int))))] [.keep [3, 4, 2, 1], .keepO []] (ps := [(True), (True), (T.int .i64 (IntKind.wrap .i64 (x1 + (2 : Int))) = T.int .i64 (x1 + (2 : Int))), (True), (T.int .i64 (IntKind.wrap .i64 (v3 * (x1 + (2 : Int)))) = T.int .i64 (v3 * (x1 + (2 : Int)))), (True), ((0 ≤ v4 ∧ v4 < ((List.length x0 : Nat) : Int))), ((List.drop ((Int.toNat v4) * 1) (List.map (T.int .i64) x0) : List T)[0]? = some (ti (List.getD x0 (Int.toNat v4) 0))), (ti (List.getD x0 (Int.toNat v4) 0) = ti (List.getD x0 (Int.toNat v4) 0)), (True), (T.int .i64 (IntKind.wrap .i64 ((v3 * (x1 + (2 : Int))) + (List.getD x0 (Int.toNat v4) 0))) = ti n22), (True), (T.int .i64 (IntKind.wrap .i64 (n22 + (1 : Int))) = T.int .i64 (n22 + (1 : Int)))]) (e := .normal) (σ' := ⟨[], [(3, vi (n22 + (1 : Int))), (4, vi v4), (2, vi 0), (1, V.t (T.ptr [tl x0, ti x1]))], []⟩) (by kernel_rfl) ⟨trivial, trivial, wrapI c0, trivial, wrapI c1, trivial, c2, at1 (by simp) (by omega), rfl, trivial, Eq.trans (wrapI c3) (congrArg (ti) c4), trivial, wrapI c5, trivial⟩ ?_
        obtain ⟨c6, h⟩ := chk_some h
        refine WP.path tab_ok mixed [(11, An.v (T.int .i64 (v4 + (1 : Int))))] [.keep [4, 3, 2, 1], .keepO [], .names []] (ps := [(True), (T.int .i64 (IntKind.wrap .i64 (v4 + (1 : Int))) = T.int .i64 (v4 + (1 : Int)))]) (e := .normal) (σ' := ⟨[], [(4, vi (v4 + (1 : Int))), (3, vi (n22 + (1 : Int))), (2, vi 0), (1, V.t (T.ptr [tl x0, ti x1]))], []⟩) (by kernel_rfl) ⟨trivial, wrapI c6, trivial⟩ ?_
        exact ⟨(n, (v4 + (1 : Int)), (n22 + (1 : Int))), h, Nat.lt_succ_self _, rfl⟩
      · -- no
        refine WP.cond (b := decide (v4 < ((List.length x0 : Nat) : Int))) rfl (fun hh => by rw [h1] at hh; cases hh) (fun _ => ?_)
        refine WP.path tab_ok mixed [] [.keep [3, 2], .keepO [], .names []] (ps := []) (e := (.exit 0)) (σ' := ⟨[], [(3, vi v3), (2, vi 0)], []⟩) (by kernel_rfl) trivial ?_
        exact ⟨(v3), h, rfl⟩
  · -- from there
    intro v3 h0
    have h := (show J1 v3 = some y0 from h0)
    rw [hJ1] at h
    have h := Option.some.inj h
    subst h
    exact WP.pathW tab_ok mixed [] _ (ps := []) (r := ti v3) (by kernel_rfl) trivial (WkT.eq (y := ti v3) (WkT.refl _) rfl) (fun _ h => h)
theorem F_spec_l6Needs_W (x0 : Int) (x1 : Int) (y0 : List Int) (h : F_spec_l6Needs x0 x1 = some y0) : CG Try.prog 65 [vi x0, vi x1] [] (vo 9000 (List.length y0)) [(9000, oc 3 (List.map (T.int .i64) y0))] := by
  unfold F_spec_l6Needs at h
  refine CG.intro (tab := tab) tab_ok (fn := Try.f65) Try.func65 (by kernel_rfl) rfl (Nat.le_of_ble_eq_true rfl) (by kernel_rfl) ?_
  refine WP.seq ?_
  refine WP.path tab_ok mixed [] [.keep [4, 0, 1], .keepO []] (ps := []) (e := .normal) (σ' := ⟨[], [(4, V.t (T.nils)), (0, vi x0), (1, vi x1)], []⟩) (by kernel_rfl) trivial ?_
  refine WP.seq ?_
  refine WP.path tab_ok mixed [] [.keep [5, 4, 0, 1], .keepO []] (ps := []) (e := .normal) (σ' := ⟨[], [(5, vi 1), (4, V.t (T.nils)), (0, vi x0), (1, vi x1)], []⟩) (by kernel_rfl) trivial ?_
  obtain ⟨J1, hJ1, h⟩ := jn_some h
  refine WP.joinA (fun (zz : Int) => ⟨[], [(5, vi zz), (4, V.t (T.nils)), (0, vi x0), (1, vi x1)], []⟩) (fun zz => J1 zz = some y0) ?_ ?_
  · -- to where they meet
    refine WP.seq ?_
    refine WP.path tab_ok mixed [] [.keep [6, 5, 4, 0, 1], .keepO []] (ps := []) (e := .normal) (σ' := ⟨[], [(6, vi 0), (5, vi 1), (4, V.t (T.nils)), (0, vi x0), (1, vi x1)], []⟩) (by kernel_rfl) trivial ?_
    refine WP.block ?_
    refine WP.wk [.keep [6, 5, 4, 0, 1], .keepO [], .names []] (σ' := ⟨[], [(6, vi 0), (5, vi 1), (4, V.t (T.nils)), (0, vi x0), (1, vi x1)], []⟩) (ps := []) (by kernel_rfl) trivial ?_
    refine WP.st (σ' := ⟨[], [(6, vi (0 : Int)), (5, vi (1 : Int)), (4, V.t (T.nils)), (0, vi x0), (1, vi x1)], []⟩) (by first | rfl | (simp only [tlS, tl, vl, vo, oc, ov, tbl, vbl, ty, vy] <;> rfl) | (simp <;> omega) | (simp []; done) | (rw [List.take_of_length_le (by simp [])] <;> rfl)) ?_
    refine WP.loop (α := Nat × Int × Int) (fun zz => ⟨[], [(6, vi zz.2.1), (5, vi zz.2.2), (4, V.t (T.nils)), (0, vi x0), (1, vi x1)], []⟩) (fun zz => F_spec_l6Needs_L1 x0 x1 J1 zz.1 zz.2.1 zz.2.2 = some y0) (fun zz => zz.1) (fuel, (0 : Int), (1 : Int)) h ?_
    rintro ⟨n, v6, v5⟩ h0
    have h := (show F_spec_l6Needs_L1 x0 x1 J1 n v6 v5 = some y0 from h0)
    rcases n with _ | n
    · rw [F_spec_l6Needs_L1] at h; cases h
    · rw [F_spec_l6Needs_L1] at h
      refine WP.seq ?_
      refine WP.seq ?_
      refine WP.path tab_ok mixed [] [.keep [20, 6, 5, 4, 0, 1], .keepO []] (ps := [(True)]) (e := .normal) (σ' := ⟨[], [(20, vb (decide (v6 < x0))), (6, vi v6), (5, vi v5), (4, V.t (T.nils)), (0, vi x0), (1, vi x1)], []⟩) (by kernel_rfl) ⟨trivial, trivial⟩ ?_
      rcases ite_some h with ⟨h1, h⟩ | ⟨h1, h⟩
      · -- yes
        refine WP.cond (b := decide (v6 < x0)) rfl (fun _ => ?_) (fun hh => by rw [h1] at hh; cases hh)
        refine WP.path tab_ok mixed [] [.keep [6, 5, 4, 0, 1], .keepO []] (ps := []) (e := .normal) (σ' := ⟨[], [(6, vi v6), (5, vi v5), (4, V.t (T.nils)), (0, vi x0), (1, vi x1)], []⟩) (by kernel_rfl) trivial ?_
        refine WP.seq ?_
        refine WP.block ?_
        obtain ⟨c0, h⟩ := chk_some h
        obtain ⟨c1, h⟩ := chk_some h
        refine WP.path tab_ok mixed [(25, An.v (T.int .i64 (x1 + (2 : Int)))), (26, An.v (T.int .i64 (v5 * (x1 + (2 : Int)))))] [.keep [5, 6, 4, 0, 1], .keepO []] (ps := [(True), (T.int .i64 (IntKind.wrap .i64 (x1 + (2 : Int))) = T.int .i64 (x1 + (2 : Int))), (True), (T.int .i64 (IntKind.wrap .i64 (v5 * (x1 + (2 : Int)))) = T.int .i64 (v5 * (x1 + (2 : Int))))]) (e := .normal) (σ' := ⟨[], [(5, vi (v5 * (x1 + (2 : Int)))), (6, vi v6), (4, V.t (T.nils)), (0, vi x0), (1, vi x1)], []⟩) (by kernel_rfl) ⟨trivial, wrapI c0, trivial, wrapI c1, trivial⟩ ?_
        obtain ⟨c2, h⟩ := chk_some h
        refine WP.path tab_ok mixed [(22, An.v (T.int .i64 (v6 + (1 : Int))))] [.keep [6, 5, 4, 0, 1], .keepO [], .names []] (ps := [(True), (T.int .i64 (IntKind.wrap .i64 (v6 + (1 : Int))) = T.int .i64 (v6 + (1 : Int)))]) (e := .normal) (σ' := ⟨[], [(6, vi (v6 + (1 : Int))), (5, vi (v5 * (x1 + (2 : Int)))), (4, V.t (T.nils)), (0, vi x0), (1, vi x1)], []⟩) (by kernel_rfl) ⟨trivial, wrapI c2, trivial⟩ ?_
        exact ⟨(n, (v6 + (1 : Int)), (v5 * (x1 + (2 : Int)))), h, Nat.lt_succ_self _, rfl⟩
      · -- no
        refine WP.cond (b := decide (v6 < x0)) rfl (fun hh => by rw [h1] at hh; cases hh) (fun _ => ?_)
        refine WP.path tab_ok mixed [] [.keep [5, 4, 0, 1], .keepO [], .names []] (ps := []) (e := (.exit 0)) (σ' := ⟨[], [(5, vi v5), (4, V.t (T.nils)), (0, vi x0), (1, vi x1)], []⟩) (by kernel_rfl) trivial ?_
        exact ⟨(v5), h, rfl⟩
  · -- from there
    intro v5 h0
    have h := (show J1 v5 = some y0 from h0)
    rw [hJ1] at h
    refine WP.seq ?_
    obtain ⟨c0, h⟩ := chk_some h
    refine WP.path tab_ok mixed [(28, An.id 2028), (29, An.id 2029)] [.keep [8, 7, 5, 4, 0, 1], .keepO [2028, 2029]] (ps := [((0 ≤ v5 ∧ v5 ≤ v5 ∧ (8 : Int) * v5 ≤ 281474976710656 ∧ v5 ≤ (maxLen : Int))), (True), (0 = 0 * 1)]) (e := .normal) (σ' := ⟨[2029, 2028], [(8, vo 2029 0), (7, vo 2028 (Int.toNat v5)), (5, vi v5), (4, V.t (T.nils)), (0, vi x0), (1, vi x1)], [(2028, oc 3 (List.replicate (Int.toNat v5) (ti 0))), (2029, oc 3 [])]⟩) (by kernel_rfl) ⟨c0, trivial, by decide, trivial⟩ ?_
    obtain ⟨J1, hJ1, h⟩ := jn_some h
    refine WP.joinA (fun (zz : (List Int) × (List Int)) => ⟨[2028, 2029], [(8, vo 2029 (List.length zz.2)), (7, vo 2028 (List.length zz.1)), (4, V.t (T.nils)), (0, vi x0), (1, vi x1)], [(2028, oc 3 (List.map (T.int .i64) zz.1)), (2029, oc 3 (List.map (T.int .i64) zz.2))]⟩) (fun zz => J1 zz.1 zz.2 = some y0) ?_ ?_
    · -- to where they meet
      refine WP.seq ?_
      refine WP.path tab_ok mixed [] [.keep [9, 8, 7, 5, 4, 0, 1], .keepO [2028, 2029]] (ps := []) (e := .normal) (σ' := ⟨[2029, 2028], [(9, vi 0), (8, vo 2029 0), (7, vo 2028 (Int.toNat v5)), (5, vi v5), (4, V.t (T.nils)), (0, vi x0), (1, vi x1)], [(2028, oc 3 (List.replicate (Int.toNat v5) (ti 0))), (2029, oc 3 [])]⟩) (by kernel_rfl) trivial ?_
      refine WP.block ?_
      refine WP.wk [.keep [9, 8, 7, 5, 4, 0, 1], .keepO [2028, 2029], .names [(2028, 2028), (2029, 2029)]] (σ' := ⟨[2028, 2029], [(9, vi 0), (8, vo 2029 0), (7, vo 2028 (Int.toNat v5)), (5, vi v5), (4, V.t (T.nils)), (0, vi x0), (1, vi x1)], [(2028, oc 3 (List.replicate (Int.toNat v5) (ti 0))), (2029, oc 3 [])]⟩) (ps := []) (by kernel_rfl) trivial ?_
      refine WP.st (σ' := ⟨[2028, 2029], [(9, vi (0 : Int)), (8, vo 2029 (List.length ([] : List Int))), (7, vo 2028 (List.length (List.replicate (Int.toNat v5) (0 : Int)))), (5, vi v5), (4, V.t (T.nils)), (0, vi x0), (1, vi x1)], [(2028, oc 3 (List.map (T.int .i64) (List.replicate (Int.toNat v5) (0 : Int)))), (2029, oc 3 (List.map (T.int .i64) ([] : List Int)))]⟩) (by first | rfl | (simp only [tlS, tl, vl, vo, oc, ov, tbl, vbl, ty, vy] <;> rfl) | (simp <;> omega) | (simp []; done) | (rw [List.take_of_length_le (by simp [])] <;> rfl)) ?_
      refine WP.loop (α := Nat × (List Int) × (List Int) × Int) (fun zz => ⟨[2028, 2029], [(9, vi zz.2.2.2), (8, vo 2029 (List.length zz.2.2.1)), (7, vo 2028 (List.length zz.2.1)), (5, vi v5), (4, V.t (T.nils)), (0, vi x0), (1, vi x1)], [(2028, oc 3 (List.map (T.int .i64) zz.2.1)), (2029, oc 3 (List.map (T.int .i64) zz.2.2.1))]⟩) (fun zz => F_spec_l6Needs_L2 x0 x1 v5 J1 zz.1 zz.2.1 zz.2.2.1 zz.2.2.2 = some y0) (fun zz => zz.1) (fuel, List.replicate (Int.toNat v5) (0 : Int), ([] : List Int), (0 : Int)) h ?_
      rintro ⟨n, o28, o29, v9⟩ h0
      have h := (show F_spec_l6Needs_L2 x0 x1 v5 J1 n o28 o29 v9 = some y0 from h0)
      rcases n with _ | n
      · rw [F_spec_l6Needs_L2] at h; cases h
      · rw [F_spec_l6Needs_L2] at h
        refine WP.seq ?_
        refine WP.seq ?_
        refine WP.path tab_ok mixed [] [.keep [32, 9, 8, 7, 5, 4, 0, 1], .keepO [2028, 2029]] (ps := [(True)]) (e := .normal) (σ' := ⟨[2028, 2029], [(32, vb (decide (v9 < v5))), (9, vi v9), (8, vo 2029 (List.length o29)), (7, vo 2028 (List.length o28)), (5, vi v5), (4, V.t (T.nils)), (0, vi x0), (1, vi x1)], [(2028, oc 3 (List.map (T.int .i64) o28)), (2029, oc 3 (List.map (T.int .i64) o29))]⟩) (by kernel_rfl) ⟨trivial, trivial⟩ ?_
        rcases ite_some h with ⟨h2, h⟩ | ⟨h2, h⟩
        · -- yes
          refine WP.cond (b := decide (v9 < v5)) rfl (fun _ => ?_) (fun hh => by rw [h2] at hh; cases hh)
          refine WP.path tab_ok mixed [] [.keep [9, 8, 7, 5, 4, 0, 1], .keepO [2028, 2029]] (ps := []) (e := .normal) (σ' := ⟨[2028, 2029], [(9, vi v9), (8, vo 2029 (List.length o29)), (7, vo 2028 (List.length o28)), (5, vi v5), (4, V.t (T.nils)), (0, vi x0), (1, vi x1)], [(2028, oc 3 (List.map (T.int .i64) o28)), (2029, oc 3 (List.map (T.int .i64) o29))]⟩) (by kernel_rfl) trivial ?_
          refine WP.seq ?_
          refine WP.block ?_
          refine WP.seq ?_
          obtain ⟨c1, h⟩ := chk_some h
          refine WP.path tab_ok mixed [] [.keep [9, 8, 7, 5, 4, 0, 1], .keepO [2028, 2029]] (ps := [((0 ≤ v9 ∧ v9 < ((List.length o28 : Nat) : Int))), ((Int.toNat v9) * 1 < List.length (List.map (T.int .i64) o28))]) (e := .normal) (σ' := ⟨[2028, 2029], [(9, vi v9), (8, vo 2029 (List.length o29)), (7, vo 2028 (List.length o28)), (5, vi v5), (4, V.t (T.nils)), (0, vi x0), (1, vi x1)], [(2028, oc 3 (List.set (List.map (T.int .i64) o28) ((Int.toNat v9) * 1) (ti (-1)))), (2029, oc 3 (List.map (T.int .i64) o29))]⟩) (by kernel_rfl) ⟨c1, by first | decide | omega | (simp only [tlL] <;> omega) | (simp <;> omega) | (simp [] <;> omega), trivial⟩ ?_
          refine WP.seq ?_
          obtain ⟨r41, r41b, c2, h⟩ := bnd2_some h
          obtain ⟨c3, h⟩ := chk_some h
          refine WP.path tab_ok mixed [(41, An.callG [(9000, 10410)] [vi v9, vi x0, vi x1] [] (V.agg [vo 9000 (List.length r41), vi r41b]) [(9000, oc 3 (List.map (T.int .i64) r41))]), (42, An.call (tb (decide (((List.length (openN r41) : Nat) : Int) < (2 : Int)))))] [.keep [42, 9, 8, 7, 5, 4, 0, 1], .keepO [2028, 2029]] (ps := [(CG Try.prog 122 [vi v9, vi x0, vi x1] [] (V.agg [vo 9000 (List.length r41), vi r41b]) [(9000, oc 3 (List.map (T.int .i64) r41))]), (WkT (ti v9) (ti v9)), (WkT (ti x0) (ti x0)), (WkT (ti x1) (ti x1)), (C Try.prog 66 [T.agg [tl r41, ti r41b]] (tb (decide (((List.length (openN r41) : Nat) : Int) < (2 : Int))))), (List.length (List.map (T.int .i64) r41) = (List.length r41) * 1)]) (e := .normal) (σ' := ⟨[10410, 2028, 2029], [(42, vb (decide (((List.length (openN r41) : Nat) : Int) < (2 : Int)))), (9, vi v9), (8, vo 2029 (List.length o29)), (7, vo 2028 (List.length o28)), (5, vi v5), (4, V.t (T.nils)), (0, vi x0), (1, vi x1)], [(2028, oc 3 (List.set (List.map (T.int .i64) o28) ((Int.toNat v9) * 1) (ti (-1)))), (2029, oc 3 (List.map (T.int .i64) o29))]⟩) (by kernel_rfl) ⟨(F_spec_l6Of_W v9 x0 x1 r41 r41b c2), WkT.refl _, WkT.refl _, WkT.refl _, (l6Done_C r41 r41b c3), by first | rfl | omega | (simp only [tlL] <;> omega) | (simp <;> omega) | (simp [] <;> omega), trivial⟩ ?_
          rcases ite_some h with ⟨h3, h⟩ | ⟨h3, h⟩
          · -- yes
            refine WP.cond (b := decide (((List.length (openN r41) : Nat) : Int) < (2 : Int))) rfl (fun _ => ?_) (fun hh => by rw [h3] at hh; cases hh)
            refine WP.path tab_ok mixed [] [.keep [9, 8, 7, 5, 4, 0, 1], .keepO [2028, 2029]] (ps := [((0 ≤ v9 ∧ v9 < ((List.length o28 : Nat) : Int))), ((Int.toNat v9) * 1 < List.length (List.set (List.map (T.int .i64) o28) ((Int.toNat v9) * 1) (ti (-1))))]) (e := .normal) (σ' := ⟨[10410, 2028, 2029], [(9, vi v9), (8, vo 2029 (List.length o29)), (7, vo 2028 (List.length o28)), (5, vi v5), (4, V.t (T.nils)), (0, vi x0), (1, vi x1)], [(2028, oc 3 (List.set (List.set (List.map (T.int .i64) o28) ((Int.toNat v9) * 1) (ti (-1))) ((Int.toNat v9) * 1) (ti 0))), (2029, oc 3 (List.map (T.int .i64) o29))]⟩) (by kernel_rfl) ⟨c1, by first | decide | omega | (simp only [tlL] <;> omega) | (simp <;> omega) | (simp [] <;> omega), trivial⟩ ?_
            obtain ⟨c4, h⟩ := chk_some h
            refine WP.path tab_ok mixed [(34, An.v (T.int .i64 (v9 + (1 : Int))))] [.keep [9, 8, 7, 5, 4, 0, 1], .keepO [2028, 2029], .names [(2028, 2028), (2029, 2029)]] (ps := [(True), (T.int .i64 (IntKind.wrap .i64 (v9 + (1 : Int))) = T.int .i64 (v9 + (1 : Int)))]) (e := .normal) (σ' := ⟨[2028, 2029], [(9, vi (v9 + (1 : Int))), (8, vo 2029 (List.length o29)), (7, vo 2028 (List.length o28)), (5, vi v5), (4, V.t (T.nils)), (0, vi x0), (1, vi x1)], [(2028, oc 3 (List.set (List.set (List.map (T.int .i64) o28) ((Int.toNat v9) * 1) (ti (-1))) ((Int.toNat v9) * 1) (ti 0))), (2029, oc 3 (List.map (T.int .i64) o29))]⟩) (by kernel_rfl) ⟨trivial, wrapI c4, trivial⟩ ?_
            exact ⟨(n, List.set (List.set o28 (Int.toNat v9) (-1 : Int)) (Int.toNat v9) (0 : Int), o29, (v9 + (1 : Int))), h, Nat.lt_succ_self _, (by first | rfl | (simp only [tlS, tl, vl, vo, oc, ov, tbl, vbl, ty, vy] <;> rfl) | (simp <;> omega) | (simp []; done) | (rw [List.take_of_length_le (by simp [])] <;> rfl))⟩
          · -- no
            refine WP.cond (b := decide (((List.length (openN r41) : Nat) : Int) < (2 : Int))) rfl (fun hh => by rw [h3] at hh; cases hh) (fun _ => ?_)
            obtain ⟨c4, h⟩ := chk_some h
            refine WP.path tab_ok mixed [(48, An.fz), (49, An.id 2049)] [.keep [8, 9, 7, 5, 4, 0, 1], .keepO [2028, 2049]] (ps := [((1 = 1 ∧ 0 + 1 ≤ 1) ∧ True), (1 = 1 * 1), (True), (List.length (List.map (T.int .i64) o29) = (List.length o29) * 1), ((((List.length o29) + 1) * 8 ≤ 140737488355328 ∧ (List.length o29) + 1 ≤ maxLen))]) (e := .normal) (σ' := ⟨[2049, 10410, 2028, 2029], [(8, vo 2049 ((List.length o29) + 1)), (9, vi v9), (7, vo 2028 (List.length o28)), (5, vi v5), (4, V.t (T.nils)), (0, vi x0), (1, vi x1)], [(2028, oc 3 (List.set (List.map (T.int .i64) o28) ((Int.toNat v9) * 1) (ti (-1)))), (2049, oc 3 ((List.map (T.int .i64) o29) ++ [ti v9]))]⟩) (by kernel_rfl) ⟨⟨⟨by first | rfl | (simp; done) | (simp []; done) | omega, by first | decide | (simp; done) | (simp []; done) | omega | (simp only [tlL]; omega) | (simp; omega)⟩, trivial⟩, by decide, trivial, by first | rfl | omega | (simp only [tlL] <;> omega) | (simp <;> omega) | (simp [] <;> omega), c4, trivial⟩ ?_
            obtain ⟨c5, h⟩ := chk_some h
            refine WP.path tab_ok mixed [(34, An.v (T.int .i64 (v9 + (1 : Int))))] [.keep [9, 8, 7, 5, 4, 0, 1], .keepO [2028, 2049], .names [(2028, 2028), (2049, 2029)]] (ps := [(True), (T.int .i64 (IntKind.wrap .i64 (v9 + (1 : Int))) = T.int .i64 (v9 + (1 : Int)))]) (e := .normal) (σ' := ⟨[2028, 2029], [(9, vi (v9 + (1 : Int))), (8, vo 2029 ((List.length o29) + 1)), (7, vo 2028 (List.length o28)), (5, vi v5), (4, V.t (T.nils)), (0, vi x0), (1, vi x1)], [(2028, oc 3 (List.set (List.map (T.int .i64) o28) ((Int.toNat v9) * 1) (ti (-1)))), (2029, oc 3 ((List.map (T.int .i64) o29) ++ [ti v9]))]⟩) (by kernel_rfl) ⟨trivial, wrapI c5, trivial⟩ ?_
            exact ⟨(n, List.set o28 (Int.toNat v9) (-1 : Int), o29 ++ [v9], (v9 + (1 : Int))), h, Nat.lt_succ_self _, (by first | rfl | (simp only [tlS, tl, vl, vo, oc, ov, tbl, vbl, ty, vy] <;> rfl) | (simp <;> omega) | (simp []; done) | (rw [List.take_of_length_le (by simp [])] <;> rfl))⟩
        · -- no
          refine WP.cond (b := decide (v9 < v5)) rfl (fun hh => by rw [h2] at hh; cases hh) (fun _ => ?_)
          refine WP.path tab_ok mixed [] [.keep [8, 7, 4, 0, 1], .keepO [2028, 2029], .names [(2028, 2028), (2029, 2029)]] (ps := []) (e := (.exit 2)) (σ' := ⟨[2028, 2029], [(8, vo 2029 (List.length o29)), (7, vo 2028 (List.length o28)), (4, V.t (T.nils)), (0, vi x0), (1, vi x1)], [(2028, oc 3 (List.map (T.int .i64) o28)), (2029, oc 3 (List.map (T.int .i64) o29))]⟩) (by kernel_rfl) trivial ?_
          exact ⟨(o28, o29), h, rfl⟩
    · -- from there
      rintro ⟨o28, o29⟩ h0
      have h := (show J1 o28 o29 = some y0 from h0)
      rw [hJ1] at h
      obtain ⟨J1, hJ1, h⟩ := jn_some h
      refine WP.joinA (fun (zz : (List Int)) => ⟨[2028], [(7, vo 2028 (List.length zz)), (4, V.t (T.nils))], [(2028, oc 3 (List.map (T.int .i64) zz))]⟩) (fun zz => J1 zz = some y0) ?_ ?_
      · -- to where they meet
        refine WP.seq ?_
        refine WP.path tab_ok mixed [] [.keep [10, 8, 7, 4, 0, 1], .keepO [2028, 2029]] (ps := []) (e := .normal) (σ' := ⟨[2028, 2029], [(10, vi 1), (8, vo 2029 (List.length o29)), (7, vo 2028 (List.length o28)), (4, V.t (T.nils)), (0, vi x0), (1, vi x1)], [(2028, oc 3 (List.map (T.int .i64) o28)), (2029, oc 3 (List.map (T.int .i64) o29))]⟩) (by kernel_rfl) trivial ?_
        refine WP.block ?_
        refine WP.wk [.keep [10, 8, 7, 4, 0, 1], .keepO [2028, 2029], .names [(2028, 2028), (2029, 2029)]] (σ' := ⟨[2028, 2029], [(10, vi 1), (8, vo 2029 (List.length o29)), (7, vo 2028 (List.length o28)), (4, V.t (T.nils)), (0, vi x0), (1, vi x1)], [(2028, oc 3 (List.map (T.int .i64) o28)), (2029, oc 3 (List.map (T.int .i64) o29))]⟩) (ps := []) (by kernel_rfl) trivial ?_
        refine WP.st (σ' := ⟨[2028, 2029], [(10, vi (1 : Int)), (8, vo 2029 (List.length o29)), (7, vo 2028 (List.length o28)), (4, V.t (T.nils)), (0, vi x0), (1, vi x1)], [(2028, oc 3 (List.map (T.int .i64) o28)), (2029, oc 3 (List.map (T.int .i64) o29))]⟩) (by first | rfl | (simp only [tlS, tl, vl, vo, oc, ov, tbl, vbl, ty, vy] <;> rfl) | (simp <;> omega) | (simp []; done) | (rw [List.take_of_length_le (by simp [])] <;> rfl)) ?_
        refine WP.loop (α := Nat × (List Int) × (List Int) × Int) (fun zz => ⟨[2028, 2029], [(10, vi zz.2.2.2), (8, vo 2029 (List.length zz.2.2.1)), (7, vo 2028 (List.length zz.2.1)), (4, V.t (T.nils)), (0, vi x0), (1, vi x1)], [(2028, oc 3 (List.map (T.int .i64) zz.2.1)), (2029, oc 3 (List.map (T.int .i64) zz.2.2.1))]⟩) (fun zz => F_spec_l6Needs_L3 x0 x1 J1 zz.1 zz.2.1 zz.2.2.1 zz.2.2.2 = some y0) (fun zz => zz.1) (fuel, o28, o29, (1 : Int)) h ?_
        rintro ⟨n, o28b, o29b, v10⟩ h0
        have h := (show F_spec_l6Needs_L3 x0 x1 J1 n o28b o29b v10 = some y0 from h0)
        rcases n with _ | n
        · rw [F_spec_l6Needs_L3] at h; cases h
        · rw [F_spec_l6Needs_L3] at h
          refine WP.seq ?_
          refine WP.seq ?_
          refine WP.path tab_ok mixed [] [.keep [52, 10, 8, 7, 4, 0, 1], .keepO [2028, 2029]] (ps := [(True)]) (e := .normal) (σ' := ⟨[2028, 2029], [(52, vb (decide (((List.length o29b : Nat) : Int) > (0 : Int)))), (10, vi v10), (8, vo 2029 (List.length o29b)), (7, vo 2028 (List.length o28b)), (4, V.t (T.nils)), (0, vi x0), (1, vi x1)], [(2028, oc 3 (List.map (T.int .i64) o28b)), (2029, oc 3 (List.map (T.int .i64) o29b))]⟩) (by kernel_rfl) ⟨trivial, trivial⟩ ?_
          rcases ite_some h with ⟨h4, h⟩ | ⟨h4, h⟩
          · -- yes
            refine WP.cond (b := decide (((List.length o29b : Nat) : Int) > (0 : Int))) rfl (fun _ => ?_) (fun hh => by rw [h4] at hh; cases hh)
            refine WP.path tab_ok mixed [] [.keep [10, 8, 7, 4, 0, 1], .keepO [2028, 2029]] (ps := []) (e := .normal) (σ' := ⟨[2028, 2029], [(10, vi v10), (8, vo 2029 (List.length o29b)), (7, vo 2028 (List.length o28b)), (4, V.t (T.nils)), (0, vi x0), (1, vi x1)], [(2028, oc 3 (List.map (T.int .i64) o28b)), (2029, oc 3 (List.map (T.int .i64) o29b))]⟩) (by kernel_rfl) trivial ?_
            obtain ⟨J2, hJ2, h⟩ := jn_some h
            refine WP.joinA (fun (zz : (List Int) × (List Int)) => ⟨[2028, 2056], [(8, vo 2056 (List.length zz.2)), (10, vi v10), (7, vo 2028 (List.length zz.1)), (4, V.t (T.nils)), (0, vi x0), (1, vi x1)], [(2028, oc 3 (List.map (T.int .i64) zz.1)), (2056, oc 3 (List.map (T.int .i64) zz.2))]⟩) (fun zz => J2 zz.1 zz.2 = some y0) ?_ ?_
            · -- to where they meet
              refine WP.block ?_
              refine WP.seq ?_
              refine WP.path tab_ok mixed [(55, An.id 2055), (56, An.id 2056)] [.keep [12, 11, 10, 8, 7, 4, 0, 1], .keepO [2028, 2029, 2055, 2056]] (ps := [(True), (0 = 0 * 1), (True), (0 = 0 * 1)]) (e := .normal) (σ' := ⟨[2056, 2055, 2028, 2029], [(12, vo 2056 0), (11, vo 2055 0), (10, vi v10), (8, vo 2029 (List.length o29b)), (7, vo 2028 (List.length o28b)), (4, V.t (T.nils)), (0, vi x0), (1, vi x1)], [(2028, oc 3 (List.map (T.int .i64) o28b)), (2029, oc 3 (List.map (T.int .i64) o29b)), (2055, oc 3 []), (2056, oc 3 [])]⟩) (by kernel_rfl) ⟨trivial, by decide, trivial, by decide, trivial⟩ ?_
              obtain ⟨J3, hJ3, h⟩ := jn_some h
              refine WP.joinA (fun (zz : (List Int) × (List Int)) => ⟨[2028, 2029, 2055, 2056], [(12, vo 2056 (List.length zz.2)), (11, vo 2055 (List.length zz.1)), (10, vi v10), (8, vo 2029 (List.length o29b)), (7, vo 2028 (List.length o28b)), (4, V.t (T.nils)), (0, vi x0), (1, vi x1)], [(2028, oc 3 (List.map (T.int .i64) o28b)), (2029, oc 3 (List.map (T.int .i64) o29b)), (2055, oc 3 (List.map (T.int .i64) zz.1)), (2056, oc 3 (List.map (T.int .i64) zz.2))]⟩) (fun zz => J3 zz.1 zz.2 = some y0) ?_ ?_
              · -- to where they meet
                refine WP.seq ?_
                refine WP.path tab_ok mixed [] [.keep [13, 12, 11, 10, 8, 7, 4, 0, 1], .keepO [2028, 2029, 2055, 2056]] (ps := []) (e := .normal) (σ' := ⟨[2056, 2055, 2028, 2029], [(13, vi 0), (12, vo 2056 0), (11, vo 2055 0), (10, vi v10), (8, vo 2029 (List.length o29b)), (7, vo 2028 (List.length o28b)), (4, V.t (T.nils)), (0, vi x0), (1, vi x1)], [(2028, oc 3 (List.map (T.int .i64) o28b)), (2029, oc 3 (List.map (T.int .i64) o29b)), (2055, oc 3 []), (2056, oc 3 [])]⟩) (by kernel_rfl) trivial ?_
                refine WP.block ?_
                refine WP.wk [.keep [13, 12, 11, 10, 8, 7, 4, 0, 1], .keepO [2028, 2029, 2055, 2056], .names [(2028, 2028), (2029, 2029), (2055, 2055), (2056, 2056)]] (σ' := ⟨[2028, 2029, 2055, 2056], [(13, vi 0), (12, vo 2056 0), (11, vo 2055 0), (10, vi v10), (8, vo 2029 (List.length o29b)), (7, vo 2028 (List.length o28b)), (4, V.t (T.nils)), (0, vi x0), (1, vi x1)], [(2028, oc 3 (List.map (T.int .i64) o28b)), (2029, oc 3 (List.map (T.int .i64) o29b)), (2055, oc 3 []), (2056, oc 3 [])]⟩) (ps := []) (by kernel_rfl) trivial ?_
                refine WP.st (σ' := ⟨[2028, 2029, 2055, 2056], [(13, vi (0 : Int)), (12, vo 2056 (List.length ([] : List Int))), (11, vo 2055 (List.length ([] : List Int))), (10, vi v10), (8, vo 2029 (List.length o29b)), (7, vo 2028 (List.length o28b)), (4, V.t (T.nils)), (0, vi x0), (1, vi x1)], [(2028, oc 3 (List.map (T.int .i64) o28b)), (2029, oc 3 (List.map (T.int .i64) o29b)), (2055, oc 3 (List.map (T.int .i64) ([] : List Int))), (2056, oc 3 (List.map (T.int .i64) ([] : List Int)))]⟩) (by first | rfl | (simp only [tlS, tl, vl, vo, oc, ov, tbl, vbl, ty, vy] <;> rfl) | (simp <;> omega) | (simp []; done) | (rw [List.take_of_length_le (by simp [])] <;> rfl)) ?_
                refine WP.loop (α := Nat × (List Int) × (List Int) × Int) (fun zz => ⟨[2028, 2029, 2055, 2056], [(13, vi zz.2.2.2), (12, vo 2056 (List.length zz.2.2.1)), (11, vo 2055 (List.length zz.2.1)), (10, vi v10), (8, vo 2029 (List.length o29b)), (7, vo 2028 (List.length o28b)), (4, V.t (T.nils)), (0, vi x0), (1, vi x1)], [(2028, oc 3 (List.map (T.int .i64) o28b)), (2029, oc 3 (List.map (T.int .i64) o29b)), (2055, oc 3 (List.map (T.int .i64) zz.2.1)), (2056, oc 3 (List.map (T.int .i64) zz.2.2.1))]⟩) (fun zz => F_spec_l6Needs_L4 x0 x1 o28b o29b J3 zz.1 zz.2.1 zz.2.2.1 zz.2.2.2 = some y0) (fun zz => zz.1) (fuel, ([] : List Int), ([] : List Int), (0 : Int)) h ?_
                rintro ⟨n, o55, o56, v13⟩ h0
                have h := (show F_spec_l6Needs_L4 x0 x1 o28b o29b J3 n o55 o56 v13 = some y0 from h0)
                rcases n with _ | n
                · rw [F_spec_l6Needs_L4] at h; cases h
                · rw [F_spec_l6Needs_L4] at h
                  refine WP.seq ?_
                  refine WP.seq ?_
                  refine WP.path tab_ok mixed [] [.keep [60, 13, 12, 11, 10, 8, 7, 4, 0, 1], .keepO [2028, 2029, 2055, 2056]] (ps := [(True)]) (e := .normal) (σ' := ⟨[2028, 2029, 2055, 2056], [(60, vb (decide (v13 < ((List.length o29b : Nat) : Int)))), (13, vi v13), (12, vo 2056 (List.length o56)), (11, vo 2055 (List.length o55)), (10, vi v10), (8, vo 2029 (List.length o29b)), (7, vo 2028 (List.length o28b)), (4, V.t (T.nils)), (0, vi x0), (1, vi x1)], [(2028, oc 3 (List.map (T.int .i64) o28b)), (2029, oc 3 (List.map (T.int .i64) o29b)), (2055, oc 3 (List.map (T.int .i64) o55)), (2056, oc 3 (List.map (T.int .i64) o56))]⟩) (by kernel_rfl) ⟨trivial, trivial⟩ ?_
                  rcases ite_some h with ⟨h5, h⟩ | ⟨h5, h⟩
                  · -- yes
                    refine WP.cond (b := decide (v13 < ((List.length o29b : Nat) : Int))) rfl (fun _ => ?_) (fun hh => by rw [h5] at hh; cases hh)
                    refine WP.path tab_ok mixed [] [.keep [13, 12, 11, 10, 8, 7, 4, 0, 1], .keepO [2028, 2029, 2055, 2056]] (ps := []) (e := .normal) (σ' := ⟨[2028, 2029, 2055, 2056], [(13, vi v13), (12, vo 2056 (List.length o56)), (11, vo 2055 (List.length o55)), (10, vi v10), (8, vo 2029 (List.length o29b)), (7, vo 2028 (List.length o28b)), (4, V.t (T.nils)), (0, vi x0), (1, vi x1)], [(2028, oc 3 (List.map (T.int .i64) o28b)), (2029, oc 3 (List.map (T.int .i64) o29b)), (2055, oc 3 (List.map (T.int .i64) o55)), (2056, oc 3 (List.map (T.int .i64) o56))]⟩) (by kernel_rfl) trivial ?_
                    obtain ⟨J4, hJ4, h⟩ := jn_some h
                    refine WP.joinA (fun (zz : (List Int) × (List Int)) => ⟨[2028, 2029, 2056, 2104], [(11, vo 2104 (List.length zz.2)), (13, vi v13), (12, vo 2056 (List.length zz.1)), (10, vi v10), (8, vo 2029 (List.length o29b)), (7, vo 2028 (List.length o28b)), (4, V.t (T.nils)), (0, vi x0), (1, vi x1)], [(2028, oc 3 (List.map (T.int .i64) o28b)), (2029, oc 3 (List.map (T.int .i64) o29b)), (2056, oc 3 (List.map (T.int .i64) zz.1)), (2104, oc 3 (List.map (T.int .i64) zz.2))]⟩) (fun zz => J4 zz.1 zz.2 = some y0) ?_ ?_
                    · -- to where they meet
                      refine WP.block ?_
                      refine WP.seq ?_
                      obtain ⟨c1, h⟩ := chk_some h
                      obtain ⟨r69, r69b, c2, h⟩ := bnd2_some h
                      refine WP.path tab_ok mixed [(66, An.v (ti (List.getD o29b (Int.toNat v13) 0))), (69, An.callG [(9000, 10690)] [vi (List.getD o29b (Int.toNat v13) 0), vi x0, vi x1] [] (V.agg [vo 9000 (List.length r69), vi r69b]) [(9000, oc 3 (List.map (T.int .i64) r69))]), (14, An.id 2014)] [.keep [15, 14, 13, 12, 11, 10, 8, 7, 4, 0, 1], .keepO [2014, 2028, 2029, 2055, 2056, 10690]] (ps := [((0 ≤ v13 ∧ v13 < ((List.length o29b : Nat) : Int))), ((List.map (T.int .i64) o29b : List T)[(Int.toNat v13) * 1]? = some (ti (List.getD o29b (Int.toNat v13) 0))), (ti (List.getD o29b (Int.toNat v13) 0) = ti (List.getD o29b (Int.toNat v13) 0)), (CG Try.prog 122 [vi (List.getD o29b (Int.toNat v13) 0), vi x0, vi x1] [] (V.agg [vo 9000 (List.length r69), vi r69b]) [(9000, oc 3 (List.map (T.int .i64) r69))]), (WkT (ti (List.getD o29b (Int.toNat v13) 0)) (ti (List.getD o29b (Int.toNat v13) 0))), (WkT (ti x0) (ti x0)), (WkT (ti x1) (ti x1)), ((0 + 2 ≤ 2 ∧ 2 = 2))]) (e := .normal) (σ' := ⟨[2014, 10690, 2028, 2029, 2055, 2056], [(15, vb false), (14, V.ref 2014 0), (13, vi v13), (12, vo 2056 (List.length o56)), (11, vo 2055 (List.length o55)), (10, vi v10), (8, vo 2029 (List.length o29b)), (7, vo 2028 (List.length o28b)), (4, V.t (T.nils)), (0, vi x0), (1, vi x1)], [(2014, ov 26 [vo 10690 (List.length r69), vi r69b]), (2028, oc 3 (List.map (T.int .i64) o28b)), (2029, oc 3 (List.map (T.int .i64) o29b)), (2055, oc 3 (List.map (T.int .i64) o55)), (2056, oc 3 (List.map (T.int .i64) o56)), (10690, oc 3 (List.map (T.int .i64) r69))]⟩) (by kernel_rfl) ⟨c1, atM (by simp) (by first | omega | (simp only [tlL]; omega) | (simp; omega)), rfl, (F_spec_l6Of_W (List.getD o29b (Int.toNat v13) 0) x0 x1 r69 r69b c2), WkT.refl _, WkT.refl _, WkT.refl _, by decide, trivial⟩ ?_
                      obtain ⟨J5, hJ5, h⟩ := jn_some h
                      refine WP.joinA (fun (zz : Bool) => ⟨[2028, 2029, 2055, 2056], [(15, vb zz), (13, vi v13), (12, vo 2056 (List.length o56)), (11, vo 2055 (List.length o55)), (10, vi v10), (8, vo 2029 (List.length o29b)), (7, vo 2028 (List.length o28b)), (4, V.t (T.nils)), (0, vi x0), (1, vi x1)], [(2028, oc 3 (List.map (T.int .i64) o28b)), (2029, oc 3 (List.map (T.int .i64) o29b)), (2055, oc 3 (List.map (T.int .i64) o55)), (2056, oc 3 (List.map (T.int .i64) o56))]⟩) (fun zz => J5 zz = some y0) ?_ ?_
                      · -- to where they meet
                        refine WP.seq ?_
                        refine WP.path tab_ok mixed [] [.keep [16, 15, 14, 13, 12, 11, 10, 8, 7, 4, 0, 1], .keepO [2014, 2028, 2029, 2055, 2056, 10690]] (ps := []) (e := .normal) (σ' := ⟨[2014, 10690, 2028, 2029, 2055, 2056], [(16, vi 1), (15, vb false), (14, V.ref 2014 0), (13, vi v13), (12, vo 2056 (List.length o56)), (11, vo 2055 (List.length o55)), (10, vi v10), (8, vo 2029 (List.length o29b)), (7, vo 2028 (List.length o28b)), (4, V.t (T.nils)), (0, vi x0), (1, vi x1)], [(2014, ov 26 [vo 10690 (List.length r69), vi r69b]), (2028, oc 3 (List.map (T.int .i64) o28b)), (2029, oc 3 (List.map (T.int .i64) o29b)), (2055, oc 3 (List.map (T.int .i64) o55)), (2056, oc 3 (List.map (T.int .i64) o56)), (10690, oc 3 (List.map (T.int .i64) r69))]⟩) (by kernel_rfl) trivial ?_
                        refine WP.block ?_
                        refine WP.wk [.keep [16, 15, 14, 13, 12, 11, 10, 8, 7, 4, 0, 1], .keepO [2014, 2028, 2029, 2055, 2056, 10690], .names [(2014, 2014), (2028, 2028), (2029, 2029), (2055, 2055), (2056, 2056), (10690, 10690)]] (σ' := ⟨[2014, 2028, 2029, 2055, 2056, 10690], [(16, vi 1), (15, vb false), (14, V.ref 2014 0), (13, vi v13), (12, vo 2056 (List.length o56)), (11, vo 2055 (List.length o55)), (10, vi v10), (8, vo 2029 (List.length o29b)), (7, vo 2028 (List.length o28b)), (4, V.t (T.nils)), (0, vi x0), (1, vi x1)], [(2014, ov 26 [vo 10690 (List.length r69), vi r69b]), (2028, oc 3 (List.map (T.int .i64) o28b)), (2029, oc 3 (List.map (T.int .i64) o29b)), (2055, oc 3 (List.map (T.int .i64) o55)), (2056, oc 3 (List.map (T.int .i64) o56)), (10690, oc 3 (List.map (T.int .i64) r69))]⟩) (ps := []) (by kernel_rfl) trivial ?_
                        refine WP.st (σ' := ⟨[2014, 2028, 2029, 2055, 2056, 10690], [(16, vi (1 : Int)), (15, vb false), (14, V.ref 2014 0), (13, vi v13), (12, vo 2056 (List.length o56)), (11, vo 2055 (List.length o55)), (10, vi v10), (8, vo 2029 (List.length o29b)), (7, vo 2028 (List.length o28b)), (4, V.t (T.nils)), (0, vi x0), (1, vi x1)], [(2014, ov 26 [vo 10690 (List.length r69), vi r69b]), (2028, oc 3 (List.map (T.int .i64) o28b)), (2029, oc 3 (List.map (T.int .i64) o29b)), (2055, oc 3 (List.map (T.int .i64) o55)), (2056, oc 3 (List.map (T.int .i64) o56)), (10690, oc 3 (List.map (T.int .i64) r69))]⟩) (by first | rfl | (simp only [tlS, tl, vl, vo, oc, ov, tbl, vbl, ty, vy] <;> rfl) | (simp <;> omega) | (simp []; done) | (rw [List.take_of_length_le (by simp [])] <;> rfl)) ?_
                        refine WP.loop (α := Nat × Int × Bool) (fun zz => ⟨[2014, 2028, 2029, 2055, 2056, 10690], [(16, vi zz.2.1), (15, vb zz.2.2), (14, V.ref 2014 0), (13, vi v13), (12, vo 2056 (List.length o56)), (11, vo 2055 (List.length o55)), (10, vi v10), (8, vo 2029 (List.length o29b)), (7, vo 2028 (List.length o28b)), (4, V.t (T.nils)), (0, vi x0), (1, vi x1)], [(2014, ov 26 [vo 10690 (List.length r69), vi r69b]), (2028, oc 3 (List.map (T.int .i64) o28b)), (2029, oc 3 (List.map (T.int .i64) o29b)), (2055, oc 3 (List.map (T.int .i64) o55)), (2056, oc 3 (List.map (T.int .i64) o56)), (10690, oc 3 (List.map (T.int .i64) r69))]⟩) (fun zz => F_spec_l6Needs_L5 x0 o28b r69 r69b J5 zz.1 zz.2.1 zz.2.2 = some y0) (fun zz => zz.1) (fuel, (1 : Int), false) h ?_
                        rintro ⟨n, v16, v15⟩ h0
                        have h := (show F_spec_l6Needs_L5 x0 o28b r69 r69b J5 n v16 v15 = some y0 from h0)
                        rcases n with _ | n
                        · rw [F_spec_l6Needs_L5] at h; cases h
                        · rw [F_spec_l6Needs_L5] at h
                          refine WP.seq ?_
                          obtain ⟨J6, hJ6, h⟩ := jn_some h
                          refine WP.joinA (fun (zz : Bool) => ⟨[2014, 2028, 2029, 2055, 2056, 10690], [(76, vb zz), (16, vi v16), (15, vb v15), (14, V.ref 2014 0), (13, vi v13), (12, vo 2056 (List.length o56)), (11, vo 2055 (List.length o55)), (10, vi v10), (8, vo 2029 (List.length o29b)), (7, vo 2028 (List.length o28b)), (4, V.t (T.nils)), (0, vi x0), (1, vi x1)], [(2014, ov 26 [vo 10690 (List.length r69), vi r69b]), (2028, oc 3 (List.map (T.int .i64) o28b)), (2029, oc 3 (List.map (T.int .i64) o29b)), (2055, oc 3 (List.map (T.int .i64) o55)), (2056, oc 3 (List.map (T.int .i64) o56)), (10690, oc 3 (List.map (T.int .i64) r69))]⟩) (fun zz => J6 zz = some y0) ?_ ?_
                          · -- to where they meet
                            rcases ite_some h with ⟨h6, h⟩ | ⟨h6, h⟩
                            · -- yes
                              refine WP.path tab_ok mixed [(72, An.b true)] [.keep [76, 16, 15, 14, 13, 12, 11, 10, 8, 7, 4, 0, 1], .keepO [2014, 2028, 2029, 2055, 2056, 10690], .names [(2014, 2014), (2028, 2028), (2029, 2029), (2055, 2055), (2056, 2056), (10690, 10690)]] (ps := [(True), ((decide (v16 < x0)) = true)]) (e := .normal) (σ' := ⟨[2014, 2028, 2029, 2055, 2056, 10690], [(76, vb !v15), (16, vi v16), (15, vb v15), (14, V.ref 2014 0), (13, vi v13), (12, vo 2056 (List.length o56)), (11, vo 2055 (List.length o55)), (10, vi v10), (8, vo 2029 (List.length o29b)), (7, vo 2028 (List.length o28b)), (4, V.t (T.nils)), (0, vi x0), (1, vi x1)], [(2014, ov 26 [vo 10690 (List.length r69), vi r69b]), (2028, oc 3 (List.map (T.int .i64) o28b)), (2029, oc 3 (List.map (T.int .i64) o29b)), (2055, oc 3 (List.map (T.int .i64) o55)), (2056, oc 3 (List.map (T.int .i64) o56)), (10690, oc 3 (List.map (T.int .i64) r69))]⟩) (by kernel_rfl) ⟨trivial, h6, trivial⟩ ?_
                              exact ⟨(!v15), h, rfl⟩
                            · -- no
                              refine WP.path tab_ok mixed [(72, An.b false)] [.keep [76, 16, 15, 14, 13, 12, 11, 10, 8, 7, 4, 0, 1], .keepO [2014, 2028, 2029, 2055, 2056, 10690], .names [(2014, 2014), (2028, 2028), (2029, 2029), (2055, 2055), (2056, 2056), (10690, 10690)]] (ps := [(True), ((decide (v16 < x0)) = false)]) (e := .normal) (σ' := ⟨[2014, 2028, 2029, 2055, 2056, 10690], [(76, vb false), (16, vi v16), (15, vb v15), (14, V.ref 2014 0), (13, vi v13), (12, vo 2056 (List.length o56)), (11, vo 2055 (List.length o55)), (10, vi v10), (8, vo 2029 (List.length o29b)), (7, vo 2028 (List.length o28b)), (4, V.t (T.nils)), (0, vi x0), (1, vi x1)], [(2014, ov 26 [vo 10690 (List.length r69), vi r69b]), (2028, oc 3 (List.map (T.int .i64) o28b)), (2029, oc 3 (List.map (T.int .i64) o29b)), (2055, oc 3 (List.map (T.int .i64) o55)), (2056, oc 3 (List.map (T.int .i64) o56)), (10690, oc 3 (List.map (T.int .i64) r69))]⟩) (by kernel_rfl) ⟨trivial, h6, trivial⟩ ?_
                              exact ⟨(false), h, rfl⟩
                          · -- from there
                            intro v76 h0
                            have h := (show J6 v76 = some y0 from h0)
                            rw [hJ6] at h
                            rcases ite_some h with ⟨h7, h⟩ | ⟨h7, h⟩
                            · -- yes
                              refine WP.cond (b := v76) rfl (fun _ => ?_) (fun hh => by rw [h7] at hh; cases hh)
                              refine WP.path tab_ok mixed [] [.keep [16, 15, 14, 13, 12, 11, 10, 8, 7, 4, 0, 1], .keepO [2014, 2028, 2029, 2055, 2056, 10690]] (ps := []) (e := .normal) (σ' := ⟨[2014, 2028, 2029, 2055, 2056, 10690], [(16, vi v16), (15, vb v15), (14, V.ref 2014 0), (13, vi v13), (12, vo 2056 (List.length o56)), (11, vo 2055 (List.length o55)), (10, vi v10), (8, vo 2029 (List.length o29b)), (7, vo 2028 (List.length o28b)), (4, V.t (T.nils)), (0, vi x0), (1, vi x1)], [(2014, ov 26 [vo 10690 (List.length r69), vi r69b]), (2028, oc 3 (List.map (T.int .i64) o28b)), (2029, oc 3 (List.map (T.int .i64) o29b)), (2055, oc 3 (List.map (T.int .i64) o55)), (2056, oc 3 (List.map (T.int .i64) o56)), (10690, oc 3 (List.map (T.int .i64) r69))]⟩) (by kernel_rfl) trivial ?_
                              refine WP.seq ?_
                              refine WP.block ?_
                              obtain ⟨r82, r82b, c3, h⟩ := bnd2_some h
                              obtain ⟨r83, c4, h⟩ := bnd1_some h
                              obtain ⟨c5, h⟩ := chk_some h
                              rcases ite_some h with ⟨h8, h⟩ | ⟨h8, h⟩
                              · -- yes
                                obtain ⟨r91, r91b, c6, h⟩ := bnd2_some h
                                obtain ⟨r92, c7, h⟩ := bnd1_some h
                                obtain ⟨c8, h⟩ := chk_some h
                                refine WP.path tab_ok mixed [(82, An.callG [(9000, 10820)] [V.t (T.agg [tl r69, ti r69b]), vi v16, vb true] [] (V.agg [vo 9000 (List.length r82), vi r82b]) [(9000, oc 3 (List.map (T.int .i64) r82))]), (83, An.call (ti r83)), (85, An.v (ti (List.getD o28b (Int.toNat r83) 0))), (86, An.b true), (91, An.callG [(9000, 10910)] [V.t (T.agg [tl r69, ti r69b]), vi v16, vb false] [] (V.agg [vo 9000 (List.length r91), vi r91b]) [(9000, oc 3 (List.map (T.int .i64) r91))]), (92, An.call (ti r92)), (94, An.v (ti (List.getD o28b (Int.toNat r92) 0)))] [.keep [15, 16, 14, 13, 12, 11, 10, 8, 7, 4, 0, 1], .keepO [2014, 2028, 2029, 2055, 2056, 10690]] (ps := [(0 + 2 ≤ 2), (CG Try.prog 68 [V.t (T.agg [tl r69, ti r69b]), vi v16, vb true] [] (V.agg [vo 9000 (List.length r82), vi r82b]) [(9000, oc 3 (List.map (T.int .i64) r82))]), ((V.agg [vo 9000 (List.length r82), vi r82b]).flat = true), (flatO [(9000, oc 3 (List.map (T.int .i64) r82))] = true), (List.length (List.map (T.int .i64) r69) = (List.length r69) * 1), (WkT (T.agg [tl r69, ti r69b]) (T.agg [tl r69, ti r69b])), (WkT (ti v16) (ti v16)), (WkT (tb true) (tb true)), (C Try.prog 123 [T.agg [tl r82, ti r82b]] (ti r83)), (List.length (List.map (T.int .i64) r82) = (List.length r82) * 1), ((0 ≤ r83 ∧ r83 < ((List.length o28b : Nat) : Int))), ((List.map (T.int .i64) o28b : List T)[(Int.toNat r83) * 1]? = some (ti (List.getD o28b (Int.toNat r83) 0))), (ti (List.getD o28b (Int.toNat r83) 0) = ti (List.getD o28b (Int.toNat r83) 0)), (True), ((decide ((List.getD o28b (Int.toNat r83) 0) ≥ (0 : Int))) = true), (0 + 2 ≤ 2), (CG Try.prog 68 [V.t (T.agg [tl r69, ti r69b]), vi v16, vb false] [] (V.agg [vo 9000 (List.length r91), vi r91b]) [(9000, oc 3 (List.map (T.int .i64) r91))]), ((V.agg [vo 9000 (List.length r91), vi r91b]).flat = true), (flatO [(9000, oc 3 (List.map (T.int .i64) r91))] = true), (List.length (List.map (T.int .i64) r69) = (List.length r69) * 1), (WkT (T.agg [tl r69, ti r69b]) (T.agg [tl r69, ti r69b])), (WkT (ti v16) (ti v16)), (WkT (tb false) (tb false)), (C Try.prog 123 [T.agg [tl r91, ti r91b]] (ti r92)), (List.length (List.map (T.int .i64) r91) = (List.length r91) * 1), ((0 ≤ r92 ∧ r92 < ((List.length o28b : Nat) : Int))), ((List.map (T.int .i64) o28b : List T)[(Int.toNat r92) * 1]? = some (ti (List.getD o28b (Int.toNat r92) 0))), (ti (List.getD o28b (Int.toNat r92) 0) = ti (List.getD o28b (Int.toNat r92) 0)), (True)]) (e := .normal) (σ' := ⟨[10910, 10820, 2014, 2028, 2029, 2055, 2056, 10690], [(15, vb (decide ((List.getD o28b (Int.toNat r92) 0) ≥ (0 : Int)))), (16, vi v16), (14, V.ref 2014 0), (13, vi v13), (12, vo 2056 (List.length o56)), (11, vo 2055 (List.length o55)), (10, vi v10), (8, vo 2029 (List.length o29b)), (7, vo 2028 (List.length o28b)), (4, V.t (T.nils)), (0, vi x0), (1, vi x1)], [(2014, ov 26 [vo 10690 (List.length r69), vi r69b]), (2028, oc 3 (List.map (T.int .i64) o28b)), (2029, oc 3 (List.map (T.int .i64) o29b)), (2055, oc 3 (List.map (T.int .i64) o55)), (2056, oc 3 (List.map (T.int .i64) o56)), (10690, oc 3 (List.map (T.int .i64) r69))]⟩) (by kernel_rfl) ⟨by decide, (F_spec_l6After_W r69 r69b v16 true r82 r82b c3), by first | rfl | (simp [V.flats, V.flat, T.flats, T.flat, flats_app, flats_int, flats_bool, flats_str, flats_node, flats_asked, flats_pair, flats_recs, flats_fact, flatEs_mpB, flatEs_mpI, flatEs_mp3]; done), by first | rfl | (simp [flatO, Tl.Obj.flat, V.flats, V.flat, T.flats, T.flat, flats_app, flats_int, flats_bool, flats_str, flats_node, flats_asked, flats_pair, flats_recs, flats_fact, flatEs_mpB, flatEs_mpI, flatEs_mp3]; done), by first | rfl | omega | (simp only [tlL] <;> omega) | (simp <;> omega) | (simp [] <;> omega), WkT.refl _, WkT.refl _, WkT.refl _, (F_spec_l6Key_W r82 r82b r83 c4), by first | rfl | omega | (simp only [tlL] <;> omega) | (simp <;> omega) | (simp [] <;> omega), c5, atM (by simp) (by first | omega | (simp only [tlL]; omega) | (simp; omega)), rfl, trivial, h8, by decide, (F_spec_l6After_W r69 r69b v16 false r91 r91b c6), by first | rfl | (simp [V.flats, V.flat, T.flats, T.flat, flats_app, flats_int, flats_bool, flats_str, flats_node, flats_asked, flats_pair, flats_recs, flats_fact, flatEs_mpB, flatEs_mpI, flatEs_mp3]; done), by first | rfl | (simp [flatO, Tl.Obj.flat, V.flats, V.flat, T.flats, T.flat, flats_app, flats_int, flats_bool, flats_str, flats_node, flats_asked, flats_pair, flats_recs, flats_fact, flatEs_mpB, flatEs_mpI, flatEs_mp3]; done), by first | rfl | omega | (simp only [tlL] <;> omega) | (simp <;> omega) | (simp [] <;> omega), WkT.refl _, WkT.refl _, WkT.refl _, (F_spec_l6Key_W r91 r91b r92 c7), by first | rfl | omega | (simp only [tlL] <;> omega) | (simp <;> omega) | (simp [] <;> omega), c8, atM (by simp) (by first | omega | (simp only [tlL]; omega) | (simp; omega)), rfl, trivial, trivial⟩ ?_
                                obtain ⟨c9, h⟩ := chk_some h
                                refine WP.path tab_ok mixed [(78, An.v (T.int .i64 (v16 + (1 : Int))))] [.keep [16, 15, 14, 13, 12, 11, 10, 8, 7, 4, 0, 1], .keepO [2014, 2028, 2029, 2055, 2056, 10690], .names [(2014, 2014), (2028, 2028), (2029, 2029), (2055, 2055), (2056, 2056), (10690, 10690)]] (ps := [(True), (T.int .i64 (IntKind.wrap .i64 (v16 + (1 : Int))) = T.int .i64 (v16 + (1 : Int)))]) (e := .normal) (σ' := ⟨[2014, 2028, 2029, 2055, 2056, 10690], [(16, vi (v16 + (1 : Int))), (15, vb (decide ((List.getD o28b (Int.toNat r92) 0) ≥ (0 : Int)))), (14, V.ref 2014 0), (13, vi v13), (12, vo 2056 (List.length o56)), (11, vo 2055 (List.length o55)), (10, vi v10), (8, vo 2029 (List.length o29b)), (7, vo 2028 (List.length o28b)), (4, V.t (T.nils)), (0, vi x0), (1, vi x1)], [(2014, ov 26 [vo 10690 (List.length r69), vi r69b]), (2028, oc 3 (List.map (T.int .i64) o28b)), (2029, oc 3 (List.map (T.int .i64) o29b)), (2055, oc 3 (List.map (T.int .i64) o55)), (2056, oc 3 (List.map (T.int .i64) o56)), (10690, oc 3 (List.map (T.int .i64) r69))]⟩) (by kernel_rfl) ⟨trivial, wrapI c9, trivial⟩ ?_
                                exact ⟨(n, (v16 + (1 : Int)), decide ((List.getD o28b (Int.toNat r92) 0) ≥ (0 : Int))), h, Nat.lt_succ_self _, rfl⟩
                              · -- no
                                refine WP.path tab_ok mixed [(82, An.callG [(9000, 10820)] [V.t (T.agg [tl r69, ti r69b]), vi v16, vb true] [] (V.agg [vo 9000 (List.length r82), vi r82b]) [(9000, oc 3 (List.map (T.int .i64) r82))]), (83, An.call (ti r83)), (85, An.v (ti (List.getD o28b (Int.toNat r83) 0))), (86, An.b false)] [.keep [15, 16, 14, 13, 12, 11, 10, 8, 7, 4, 0, 1], .keepO [2014, 2028, 2029, 2055, 2056, 10690]] (ps := [(0 + 2 ≤ 2), (CG Try.prog 68 [V.t (T.agg [tl r69, ti r69b]), vi v16, vb true] [] (V.agg [vo 9000 (List.length r82), vi r82b]) [(9000, oc 3 (List.map (T.int .i64) r82))]), ((V.agg [vo 9000 (List.length r82), vi r82b]).flat = true), (flatO [(9000, oc 3 (List.map (T.int .i64) r82))] = true), (List.length (List.map (T.int .i64) r69) = (List.length r69) * 1), (WkT (T.agg [tl r69, ti r69b]) (T.agg [tl r69, ti r69b])), (WkT (ti v16) (ti v16)), (WkT (tb true) (tb true)), (C Try.prog 123 [T.agg [tl r82, ti r82b]] (ti r83)), (List.length (List.map (T.int .i64) r82) = (List.length r82) * 1), ((0 ≤ r83 ∧ r83 < ((List.length o28b : Nat) : Int))), ((List.map (T.int .i64) o28b : List T)[(Int.toNat r83) * 1]? = some (ti (List.getD o28b (Int.toNat r83) 0))), (ti (List.getD o28b (Int.toNat r83) 0) = ti (List.getD o28b (Int.toNat r83) 0)), (True), ((decide ((List.getD o28b (Int.toNat r83) 0) ≥ (0 : Int))) = false)]) (e := .normal) (σ' := ⟨[10820, 2014, 2028, 2029, 2055, 2056, 10690], [(15, vb false), (16, vi v16), (14, V.ref 2014 0), (13, vi v13), (12, vo 2056 (List.length o56)), (11, vo 2055 (List.length o55)), (10, vi v10), (8, vo 2029 (List.length o29b)), (7, vo 2028 (List.length o28b)), (4, V.t (T.nils)), (0, vi x0), (1, vi x1)], [(2014, ov 26 [vo 10690 (List.length r69), vi r69b]), (2028, oc 3 (List.map (T.int .i64) o28b)), (2029, oc 3 (List.map (T.int .i64) o29b)), (2055, oc 3 (List.map (T.int .i64) o55)), (2056, oc 3 (List.map (T.int .i64) o56)), (10690, oc 3 (List.map (T.int .i64) r69))]⟩) (by kernel_rfl) ⟨by decide, (F_spec_l6After_W r69 r69b v16 true r82 r82b c3), by first | rfl | (simp [V.flats, V.flat, T.flats, T.flat, flats_app, flats_int, flats_bool, flats_str, flats_node, flats_asked, flats_pair, flats_recs, flats_fact, flatEs_mpB, flatEs_mpI, flatEs_mp3]; done), by first | rfl | (simp [flatO, Tl.Obj.flat, V.flats, V.flat, T.flats, T.flat, flats_app, flats_int, flats_bool, flats_str, flats_node, flats_asked, flats_pair, flats_recs, flats_fact, flatEs_mpB, flatEs_mpI, flatEs_mp3]; done), by first | rfl | omega | (simp only [tlL] <;> omega) | (simp <;> omega) | (simp [] <;> omega), WkT.refl _, WkT.refl _, WkT.refl _, (F_spec_l6Key_W r82 r82b r83 c4), by first | rfl | omega | (simp only [tlL] <;> omega) | (simp <;> omega) | (simp [] <;> omega), c5, atM (by simp) (by first | omega | (simp only [tlL]; omega) | (simp; omega)), rfl, trivial, h8, trivial⟩ ?_
                                obtain ⟨c6, h⟩ := chk_some h
                                refine WP.path tab_ok mixed [(78, An.v (T.int .i64 (v16 + (1 : Int))))] [.keep [16, 15, 14, 13, 12, 11, 10, 8, 7, 4, 0, 1], .keepO [2014, 2028, 2029, 2055, 2056, 10690], .names [(2014, 2014), (2028, 2028), (2029, 2029), (2055, 2055), (2056, 2056), (10690, 10690)]] (ps := [(True), (T.int .i64 (IntKind.wrap .i64 (v16 + (1 : Int))) = T.int .i64 (v16 + (1 : Int)))]) (e := .normal) (σ' := ⟨[2014, 2028, 2029, 2055, 2056, 10690], [(16, vi (v16 + (1 : Int))), (15, vb false), (14, V.ref 2014 0), (13, vi v13), (12, vo 2056 (List.length o56)), (11, vo 2055 (List.length o55)), (10, vi v10), (8, vo 2029 (List.length o29b)), (7, vo 2028 (List.length o28b)), (4, V.t (T.nils)), (0, vi x0), (1, vi x1)], [(2014, ov 26 [vo 10690 (List.length r69), vi r69b]), (2028, oc 3 (List.map (T.int .i64) o28b)), (2029, oc 3 (List.map (T.int .i64) o29b)), (2055, oc 3 (List.map (T.int .i64) o55)), (2056, oc 3 (List.map (T.int .i64) o56)), (10690, oc 3 (List.map (T.int .i64) r69))]⟩) (by kernel_rfl) ⟨trivial, wrapI c6, trivial⟩ ?_
                                exact ⟨(n, (v16 + (1 : Int)), false), h, Nat.lt_succ_self _, rfl⟩
                            · -- no
                              refine WP.cond (b := v76) rfl (fun hh => by rw [h7] at hh; cases hh) (fun _ => ?_)
                              refine WP.path tab_ok mixed [] [.keep [15, 13, 12, 11, 10, 8, 7, 4, 0, 1], .keepO [2028, 2029, 2055, 2056], .names [(2028, 2028), (2029, 2029), (2055, 2055), (2056, 2056)]] (ps := []) (e := (.exit 8)) (σ' := ⟨[2028, 2029, 2055, 2056], [(15, vb v15), (13, vi v13), (12, vo 2056 (List.length o56)), (11, vo 2055 (List.length o55)), (10, vi v10), (8, vo 2029 (List.length o29b)), (7, vo 2028 (List.length o28b)), (4, V.t (T.nils)), (0, vi x0), (1, vi x1)], [(2028, oc 3 (List.map (T.int .i64) o28b)), (2029, oc 3 (List.map (T.int .i64) o29b)), (2055, oc 3 (List.map (T.int .i64) o55)), (2056, oc 3 (List.map (T.int .i64) o56))]⟩) (by kernel_rfl) trivial ?_
                              exact ⟨(v15), h, rfl⟩
                      · -- from there
                        intro v15 h0
                        have h := (show J5 v15 = some y0 from h0)
                        rw [hJ5] at h
                        refine WP.seq ?_
                        refine WP.path tab_ok mixed [] [.keep [97, 13, 12, 11, 10, 8, 7, 4, 0, 1], .keepO [2028, 2029, 2055, 2056]] (ps := []) (e := .normal) (σ' := ⟨[2028, 2029, 2055, 2056], [(97, vb v15), (13, vi v13), (12, vo 2056 (List.length o56)), (11, vo 2055 (List.length o55)), (10, vi v10), (8, vo 2029 (List.length o29b)), (7, vo 2028 (List.length o28b)), (4, V.t (T.nils)), (0, vi x0), (1, vi x1)], [(2028, oc 3 (List.map (T.int .i64) o28b)), (2029, oc 3 (List.map (T.int .i64) o29b)), (2055, oc 3 (List.map (T.int .i64) o55)), (2056, oc 3 (List.map (T.int .i64) o56))]⟩) (by kernel_rfl) trivial ?_
                        rcases ite_some h with ⟨h9, h⟩ | ⟨h9, h⟩
                        · -- yes
                          refine WP.cond (b := v15) rfl (fun _ => ?_) (fun hh => by rw [h9] at hh; cases hh)
                          obtain ⟨c3, h⟩ := chk_some h
                          refine WP.path tab_ok mixed [(102, An.v (ti (List.getD o29b (Int.toNat v13) 0))), (103, An.fz), (104, An.id 2104)] [.keep [11, 13, 12, 10, 8, 7, 4, 0, 1], .keepO [2028, 2029, 2056, 2104], .names [(2028, 2028), (2029, 2029), (2056, 2056), (2104, 2104)]] (ps := [((0 ≤ v13 ∧ v13 < ((List.length o29b : Nat) : Int))), ((List.map (T.int .i64) o29b : List T)[(Int.toNat v13) * 1]? = some (ti (List.getD o29b (Int.toNat v13) 0))), (ti (List.getD o29b (Int.toNat v13) 0) = ti (List.getD o29b (Int.toNat v13) 0)), ((1 = 1 ∧ 0 + 1 ≤ 1) ∧ True), (1 = 1 * 1), (True), (List.length (List.map (T.int .i64) o55) = (List.length o55) * 1), ((((List.length o55) + 1) * 8 ≤ 140737488355328 ∧ (List.length o55) + 1 ≤ maxLen))]) (e := .normal) (σ' := ⟨[2028, 2029, 2056, 2104], [(11, vo 2104 ((List.length o55) + 1)), (13, vi v13), (12, vo 2056 (List.length o56)), (10, vi v10), (8, vo 2029 (List.length o29b)), (7, vo 2028 (List.length o28b)), (4, V.t (T.nils)), (0, vi x0), (1, vi x1)], [(2028, oc 3 (List.map (T.int .i64) o28b)), (2029, oc 3 (List.map (T.int .i64) o29b)), (2056, oc 3 (List.map (T.int .i64) o56)), (2104, oc 3 ((List.map (T.int .i64) o55) ++ [ti (List.getD o29b (Int.toNat v13) 0)]))]⟩) (by kernel_rfl) ⟨c1, atM (by simp) (by first | omega | (simp only [tlL]; omega) | (simp; omega)), rfl, ⟨⟨by first | rfl | (simp; done) | (simp []; done) | omega, by first | decide | (simp; done) | (simp []; done) | omega | (simp only [tlL]; omega) | (simp; omega)⟩, trivial⟩, by decide, trivial, by first | rfl | omega | (simp only [tlL] <;> omega) | (simp <;> omega) | (simp [] <;> omega), c3, trivial⟩ ?_
                          exact ⟨(o56, o55 ++ [(List.getD o29b (Int.toNat v13) 0)]), h, (by first | rfl | (simp only [tlS, tl, vl, vo, oc, ov, tbl, vbl, ty, vy] <;> rfl) | (simp <;> omega) | (simp []; done) | (rw [List.take_of_length_le (by simp [])] <;> rfl))⟩
                        · -- no
                          refine WP.cond (b := v15) rfl (fun hh => by rw [h9] at hh; cases hh) (fun _ => ?_)
                          obtain ⟨c3, h⟩ := chk_some h
                          refine WP.path tab_ok mixed [(109, An.v (ti (List.getD o29b (Int.toNat v13) 0))), (110, An.fz), (111, An.id 2111)] [.keep [11, 13, 12, 10, 8, 7, 4, 0, 1], .keepO [2028, 2029, 2111, 2055], .names [(2028, 2028), (2029, 2029), (2111, 2056), (2055, 2104)]] (ps := [((0 ≤ v13 ∧ v13 < ((List.length o29b : Nat) : Int))), ((List.map (T.int .i64) o29b : List T)[(Int.toNat v13) * 1]? = some (ti (List.getD o29b (Int.toNat v13) 0))), (ti (List.getD o29b (Int.toNat v13) 0) = ti (List.getD o29b (Int.toNat v13) 0)), ((1 = 1 ∧ 0 + 1 ≤ 1) ∧ True), (1 = 1 * 1), (True), (List.length (List.map (T.int .i64) o56) = (List.length o56) * 1), ((((List.length o56) + 1) * 8 ≤ 140737488355328 ∧ (List.length o56) + 1 ≤ maxLen))]) (e := .normal) (σ' := ⟨[2028, 2029, 2056, 2104], [(11, vo 2104 (List.length o55)), (13, vi v13), (12, vo 2056 ((List.length o56) + 1)), (10, vi v10), (8, vo 2029 (List.length o29b)), (7, vo 2028 (List.length o28b)), (4, V.t (T.nils)), (0, vi x0), (1, vi x1)], [(2028, oc 3 (List.map (T.int .i64) o28b)), (2029, oc 3 (List.map (T.int .i64) o29b)), (2056, oc 3 ((List.map (T.int .i64) o56) ++ [ti (List.getD o29b (Int.toNat v13) 0)])), (2104, oc 3 (List.map (T.int .i64) o55))]⟩) (by kernel_rfl) ⟨c1, atM (by simp) (by first | omega | (simp only [tlL]; omega) | (simp; omega)), rfl, ⟨⟨by first | rfl | (simp; done) | (simp []; done) | omega, by first | decide | (simp; done) | (simp []; done) | omega | (simp only [tlL]; omega) | (simp; omega)⟩, trivial⟩, by decide, trivial, by first | rfl | omega | (simp only [tlL] <;> omega) | (simp <;> omega) | (simp [] <;> omega), c3, trivial⟩ ?_
                          exact ⟨(o56 ++ [(List.getD o29b (Int.toNat v13) 0)], o55), h, (by first | rfl | (simp only [tlS, tl, vl, vo, oc, ov, tbl, vbl, ty, vy] <;> rfl) | (simp <;> omega) | (simp []; done) | (rw [List.take_of_length_le (by simp [])] <;> rfl))⟩
                    · -- from there
                      rintro ⟨o56b, o104⟩ h0
                      have h := (show J4 o56b o104 = some y0 from h0)
                      rw [hJ4] at h
                      obtain ⟨c1, h⟩ := chk_some h
                      refine WP.path tab_ok mixed [(62, An.v (T.int .i64 (v13 + (1 : Int))))] [.keep [13, 12, 11, 10, 8, 7, 4, 0, 1], .keepO [2028, 2029, 2104, 2056], .names [(2028, 2028), (2029, 2029), (2104, 2055), (2056, 2056)]] (ps := [(True), (T.int .i64 (IntKind.wrap .i64 (v13 + (1 : Int))) = T.int .i64 (v13 + (1 : Int)))]) (e := .normal) (σ' := ⟨[2028, 2029, 2055, 2056], [(13, vi (v13 + (1 : Int))), (12, vo 2056 (List.length o56b)), (11, vo 2055 (List.length o104)), (10, vi v10), (8, vo 2029 (List.length o29b)), (7, vo 2028 (List.length o28b)), (4, V.t (T.nils)), (0, vi x0), (1, vi x1)], [(2028, oc 3 (List.map (T.int .i64) o28b)), (2029, oc 3 (List.map (T.int .i64) o29b)), (2055, oc 3 (List.map (T.int .i64) o104)), (2056, oc 3 (List.map (T.int .i64) o56b))]⟩) (by kernel_rfl) ⟨trivial, wrapI c1, trivial⟩ ?_
                      exact ⟨(n, o104, o56b, (v13 + (1 : Int))), h, Nat.lt_succ_self _, rfl⟩
                  · -- no
                    refine WP.cond (b := decide (v13 < ((List.length o29b : Nat) : Int))) rfl (fun hh => by rw [h5] at hh; cases hh) (fun _ => ?_)
                    refine WP.path tab_ok mixed [] [.keep [12, 11, 10, 8, 7, 4, 0, 1], .keepO [2028, 2029, 2055, 2056], .names [(2028, 2028), (2029, 2029), (2055, 2055), (2056, 2056)]] (ps := []) (e := (.exit 6)) (σ' := ⟨[2028, 2029, 2055, 2056], [(12, vo 2056 (List.length o56)), (11, vo 2055 (List.length o55)), (10, vi v10), (8, vo 2029 (List.length o29b)), (7, vo 2028 (List.length o28b)), (4, V.t (T.nils)), (0, vi x0), (1, vi x1)], [(2028, oc 3 (List.map (T.int .i64) o28b)), (2029, oc 3 (List.map (T.int .i64) o29b)), (2055, oc 3 (List.map (T.int .i64) o55)), (2056, oc 3 (List.map (T.int .i64) o56))]⟩) (by kernel_rfl) trivial ?_
                    exact ⟨(o55, o56), h, rfl⟩
              · -- from there
                rintro ⟨o55, o56⟩ h0
                have h := (show J3 o55 o56 = some y0 from h0)
                rw [hJ3] at h
                obtain ⟨J3, hJ3, h⟩ := jn_some h
                refine WP.joinA (fun (zz : (List Int)) => ⟨[2028, 2029, 2056], [(12, vo 2056 (List.length o56)), (10, vi v10), (8, vo 2029 (List.length o29b)), (7, vo 2028 (List.length zz)), (4, V.t (T.nils)), (0, vi x0), (1, vi x1)], [(2028, oc 3 (List.map (T.int .i64) zz)), (2029, oc 3 (List.map (T.int .i64) o29b)), (2056, oc 3 (List.map (T.int .i64) o56))]⟩) (fun zz => J3 zz = some y0) ?_ ?_
                · -- to where they meet
                  refine WP.seq ?_
                  refine WP.path tab_ok mixed [] [.keep [17, 12, 11, 10, 8, 7, 4, 0, 1], .keepO [2028, 2029, 2055, 2056]] (ps := []) (e := .normal) (σ' := ⟨[2028, 2029, 2055, 2056], [(17, vi 0), (12, vo 2056 (List.length o56)), (11, vo 2055 (List.length o55)), (10, vi v10), (8, vo 2029 (List.length o29b)), (7, vo 2028 (List.length o28b)), (4, V.t (T.nils)), (0, vi x0), (1, vi x1)], [(2028, oc 3 (List.map (T.int .i64) o28b)), (2029, oc 3 (List.map (T.int .i64) o29b)), (2055, oc 3 (List.map (T.int .i64) o55)), (2056, oc 3 (List.map (T.int .i64) o56))]⟩) (by kernel_rfl) trivial ?_
                  refine WP.block ?_
                  refine WP.wk [.keep [17, 12, 11, 10, 8, 7, 4, 0, 1], .keepO [2028, 2029, 2055, 2056], .names [(2028, 2028), (2029, 2029), (2055, 2055), (2056, 2056)]] (σ' := ⟨[2028, 2029, 2055, 2056], [(17, vi 0), (12, vo 2056 (List.length o56)), (11, vo 2055 (List.length o55)), (10, vi v10), (8, vo 2029 (List.length o29b)), (7, vo 2028 (List.length o28b)), (4, V.t (T.nils)), (0, vi x0), (1, vi x1)], [(2028, oc 3 (List.map (T.int .i64) o28b)), (2029, oc 3 (List.map (T.int .i64) o29b)), (2055, oc 3 (List.map (T.int .i64) o55)), (2056, oc 3 (List.map (T.int .i64) o56))]⟩) (ps := []) (by kernel_rfl) trivial ?_
                  refine WP.st (σ' := ⟨[2028, 2029, 2055, 2056], [(17, vi (0 : Int)), (12, vo 2056 (List.length o56)), (11, vo 2055 (List.length o55)), (10, vi v10), (8, vo 2029 (List.length o29b)), (7, vo 2028 (List.length o28b)), (4, V.t (T.nils)), (0, vi x0), (1, vi x1)], [(2028, oc 3 (List.map (T.int .i64) o28b)), (2029, oc 3 (List.map (T.int .i64) o29b)), (2055, oc 3 (List.map (T.int .i64) o55)), (2056, oc 3 (List.map (T.int .i64) o56))]⟩) (by first | rfl | (simp only [tlS, tl, vl, vo, oc, ov, tbl, vbl, ty, vy] <;> rfl) | (simp <;> omega) | (simp []; done) | (rw [List.take_of_length_le (by simp [])] <;> rfl)) ?_
                  refine WP.loop (α := Nat × (List Int) × Int) (fun zz => ⟨[2028, 2029, 2055, 2056], [(17, vi zz.2.2), (12, vo 2056 (List.length o56)), (11, vo 2055 (List.length o55)), (10, vi v10), (8, vo 2029 (List.length o29b)), (7, vo 2028 (List.length zz.2.1)), (4, V.t (T.nils)), (0, vi x0), (1, vi x1)], [(2028, oc 3 (List.map (T.int .i64) zz.2.1)), (2029, oc 3 (List.map (T.int .i64) o29b)), (2055, oc 3 (List.map (T.int .i64) o55)), (2056, oc 3 (List.map (T.int .i64) o56))]⟩) (fun zz => F_spec_l6Needs_L6 v10 o55 J3 zz.1 zz.2.1 zz.2.2 = some y0) (fun zz => zz.1) (fuel, o28b, (0 : Int)) h ?_
                  rintro ⟨n, o28c, v17⟩ h0
                  have h := (show F_spec_l6Needs_L6 v10 o55 J3 n o28c v17 = some y0 from h0)
                  rcases n with _ | n
                  · rw [F_spec_l6Needs_L6] at h; cases h
                  · rw [F_spec_l6Needs_L6] at h
                    refine WP.seq ?_
                    refine WP.seq ?_
                    refine WP.path tab_ok mixed [] [.keep [115, 17, 12, 11, 10, 8, 7, 4, 0, 1], .keepO [2028, 2029, 2055, 2056]] (ps := [(True)]) (e := .normal) (σ' := ⟨[2028, 2029, 2055, 2056], [(115, vb (decide (v17 < ((List.length o55 : Nat) : Int)))), (17, vi v17), (12, vo 2056 (List.length o56)), (11, vo 2055 (List.length o55)), (10, vi v10), (8, vo 2029 (List.length o29b)), (7, vo 2028 (List.length o28c)), (4, V.t (T.nils)), (0, vi x0), (1, vi x1)], [(2028, oc 3 (List.map (T.int .i64) o28c)), (2029, oc 3 (List.map (T.int .i64) o29b)), (2055, oc 3 (List.map (T.int .i64) o55)), (2056, oc 3 (List.map (T.int .i64) o56))]⟩) (by kernel_rfl) ⟨trivial, trivial⟩ ?_
                    rcases ite_some h with ⟨h10, h⟩ | ⟨h10, h⟩
                    · -- yes
                      refine WP.cond (b := decide (v17 < ((List.length o55 : Nat) : Int))) rfl (fun _ => ?_) (fun hh => by rw [h10] at hh; cases hh)
                      refine WP.path tab_ok mixed [] [.keep [17, 12, 11, 10, 8, 7, 4, 0, 1], .keepO [2028, 2029, 2055, 2056]] (ps := []) (e := .normal) (σ' := ⟨[2028, 2029, 2055, 2056], [(17, vi v17), (12, vo 2056 (List.length o56)), (11, vo 2055 (List.length o55)), (10, vi v10), (8, vo 2029 (List.length o29b)), (7, vo 2028 (List.length o28c)), (4, V.t (T.nils)), (0, vi x0), (1, vi x1)], [(2028, oc 3 (List.map (T.int .i64) o28c)), (2029, oc 3 (List.map (T.int .i64) o29b)), (2055, oc 3 (List.map (T.int .i64) o55)), (2056, oc 3 (List.map (T.int .i64) o56))]⟩) (by kernel_rfl) trivial ?_
                      refine WP.seq ?_
                      refine WP.block ?_
                      obtain ⟨c1, h⟩ := chk_some h
                      obtain ⟨c2, h⟩ := chk_some h
                      refine WP.path tab_ok mixed [(122, An.v (ti (List.getD o55 (Int.toNat v17) 0)))] [.keep [17, 12, 11, 10, 8, 7, 4, 0, 1], .keepO [2028, 2029, 2055, 2056]] (ps := [((0 ≤ v17 ∧ v17 < ((List.length o55 : Nat) : Int))), ((List.map (T.int .i64) o55 : List T)[(Int.toNat v17) * 1]? = some (ti (List.getD o55 (Int.toNat v17) 0))), (ti (List.getD o55 (Int.toNat v17) 0) = ti (List.getD o55 (Int.toNat v17) 0)), ((0 ≤ (List.getD o55 (Int.toNat v17) 0) ∧ (List.getD o55 (Int.toNat v17) 0) < ((List.length o28c : Nat) : Int))), ((Int.toNat (List.getD o55 (Int.toNat v17) 0)) * 1 < List.length (List.map (T.int .i64) o28c))]) (e := .normal) (σ' := ⟨[2028, 2029, 2055, 2056], [(17, vi v17), (12, vo 2056 (List.length o56)), (11, vo 2055 (List.length o55)), (10, vi v10), (8, vo 2029 (List.length o29b)), (7, vo 2028 (List.length o28c)), (4, V.t (T.nils)), (0, vi x0), (1, vi x1)], [(2028, oc 3 (List.set (List.map (T.int .i64) o28c) ((Int.toNat (List.getD o55 (Int.toNat v17) 0)) * 1) (ti v10))), (2029, oc 3 (List.map (T.int .i64) o29b)), (2055, oc 3 (List.map (T.int .i64) o55)), (2056, oc 3 (List.map (T.int .i64) o56))]⟩) (by kernel_rfl) ⟨c1, atM (by simp) (by first | omega | (simp only [tlL]; omega) | (simp; omega)), rfl, c2, by first | decide | omega | (simp only [tlL] <;> omega) | (simp <;> omega) | (simp [] <;> omega), trivial⟩ ?_
                      obtain ⟨c3, h⟩ := chk_some h
                      refine WP.path tab_ok mixed [(117, An.v (T.int .i64 (v17 + (1 : Int))))] [.keep [17, 12, 11, 10, 8, 7, 4, 0, 1], .keepO [2028, 2029, 2055, 2056], .names [(2028, 2028), (2029, 2029), (2055, 2055), (2056, 2056)]] (ps := [(True), (T.int .i64 (IntKind.wrap .i64 (v17 + (1 : Int))) = T.int .i64 (v17 + (1 : Int)))]) (e := .normal) (σ' := ⟨[2028, 2029, 2055, 2056], [(17, vi (v17 + (1 : Int))), (12, vo 2056 (List.length o56)), (11, vo 2055 (List.length o55)), (10, vi v10), (8, vo 2029 (List.length o29b)), (7, vo 2028 (List.length o28c)), (4, V.t (T.nils)), (0, vi x0), (1, vi x1)], [(2028, oc 3 (List.set (List.map (T.int .i64) o28c) ((Int.toNat (List.getD o55 (Int.toNat v17) 0)) * 1) (ti v10))), (2029, oc 3 (List.map (T.int .i64) o29b)), (2055, oc 3 (List.map (T.int .i64) o55)), (2056, oc 3 (List.map (T.int .i64) o56))]⟩) (by kernel_rfl) ⟨trivial, wrapI c3, trivial⟩ ?_
                      exact ⟨(n, List.set o28c (Int.toNat (List.getD o55 (Int.toNat v17) 0)) v10, (v17 + (1 : Int))), h, Nat.lt_succ_self _, (by first | rfl | (simp only [tlS, tl, vl, vo, oc, ov, tbl, vbl, ty, vy] <;> rfl) | (simp <;> omega) | (simp []; done) | (rw [List.take_of_length_le (by simp [])] <;> rfl))⟩
                    · -- no
                      refine WP.cond (b := decide (v17 < ((List.length o55 : Nat) : Int))) rfl (fun hh => by rw [h10] at hh; cases hh) (fun _ => ?_)
                      refine WP.path tab_ok mixed [] [.keep [12, 10, 8, 7, 4, 0, 1], .keepO [2028, 2029, 2056], .names [(2028, 2028), (2029, 2029), (2056, 2056)]] (ps := []) (e := (.exit 10)) (σ' := ⟨[2028, 2029, 2056], [(12, vo 2056 (List.length o56)), (10, vi v10), (8, vo 2029 (List.length o29b)), (7, vo 2028 (List.length o28c)), (4, V.t (T.nils)), (0, vi x0), (1, vi x1)], [(2028, oc 3 (List.map (T.int .i64) o28c)), (2029, oc 3 (List.map (T.int .i64) o29b)), (2056, oc 3 (List.map (T.int .i64) o56))]⟩) (by kernel_rfl) trivial ?_
                      exact ⟨(o28c), h, rfl⟩
                · -- from there
                  intro o28c h0
                  have h := (show J3 o28c = some y0 from h0)
                  rw [hJ3] at h
                  refine WP.path tab_ok mixed [] [.keep [8, 10, 7, 4, 0, 1], .keepO [2028, 2056], .names [(2028, 2028), (2056, 2056)]] (ps := []) (e := .normal) (σ' := ⟨[2028, 2056], [(8, vo 2056 (List.length o56)), (10, vi v10), (7, vo 2028 (List.length o28c)), (4, V.t (T.nils)), (0, vi x0), (1, vi x1)], [(2028, oc 3 (List.map (T.int .i64) o28c)), (2056, oc 3 (List.map (T.int .i64) o56))]⟩) (by kernel_rfl) trivial ?_
                  exact ⟨(o28c, o56), h, rfl⟩
            · -- from there
              rintro ⟨o28c, o56⟩ h0
              have h := (show J2 o28c o56 = some y0 from h0)
              rw [hJ2] at h
              obtain ⟨c1, h⟩ := chk_some h
              refine WP.path tab_ok mixed [(54, An.v (T.int .i64 (v10 + (1 : Int))))] [.keep [10, 8, 7, 4, 0, 1], .keepO [2028, 2056], .names [(2028, 2028), (2056, 2029)]] (ps := [(True), (T.int .i64 (IntKind.wrap .i64 (v10 + (1 : Int))) = T.int .i64 (v10 + (1 : Int)))]) (e := .normal) (σ' := ⟨[2028, 2029], [(10, vi (v10 + (1 : Int))), (8, vo 2029 (List.length o56)), (7, vo 2028 (List.length o28c)), (4, V.t (T.nils)), (0, vi x0), (1, vi x1)], [(2028, oc 3 (List.map (T.int .i64) o28c)), (2029, oc 3 (List.map (T.int .i64) o56))]⟩) (by kernel_rfl) ⟨trivial, wrapI c1, trivial⟩ ?_
              exact ⟨(n, o28c, o56, (v10 + (1 : Int))), h, Nat.lt_succ_self _, rfl⟩
          · -- no
            refine WP.cond (b := decide (((List.length o29b : Nat) : Int) > (0 : Int))) rfl (fun hh => by rw [h4] at hh; cases hh) (fun _ => ?_)
            refine WP.path tab_ok mixed [] [.keep [7, 4], .keepO [2028], .names [(2028, 2028)]] (ps := []) (e := (.exit 4)) (σ' := ⟨[2028], [(7, vo 2028 (List.length o28b)), (4, V.t (T.nils))], [(2028, oc 3 (List.map (T.int .i64) o28b))]⟩) (by kernel_rfl) trivial ?_
            exact ⟨(o28b), h, rfl⟩
      · -- from there
        intro o28b h0
        have h := (show J1 o28b = some y0 from h0)
        rw [hJ1] at h
        have h := Option.some.inj h
        subst h
        exact WP.pathG tab_ok mixed [] [.keep [4], .keepO [2028], .names [(2028, 9000)]] [9000] _ (r' := vo 9000 (List.length o28b)) (ps := []) (r := vo 9000 (List.length o28b)) (N := [9000]) (O := [(9000, oc 3 (List.map (T.int .i64) o28b))]) [] (by kernel_rfl) trivial ⟨rfl, trivial⟩ rfl rfl (fun _ h => h)
theorem F_spec_l6Needs_W_C (x0 : Int) (x1 : Int) (y0 : List Int) (h : F_spec_l6Needs x0 x1 = some y0) : C Try.prog 65 [ti x0, ti x1] (tl y0) :=
  CG.toC (ps := [(List.length (List.map (T.int .i64) y0) = (List.length y0) * 1)]) (F_spec_l6Needs_W  x0 x1 y0 h) (by rfl) ⟨by first | rfl | omega | (simp <;> omega) | (simp [hl] <;> omega), trivial⟩
theorem F_spec_l1Same_W (x0 : List Int) (x1 : List Int) (y0 : Bool) (h : F_spec_l1Same x0 x1 = some y0) : C Try.prog 151 [tl x0, tl x1] (tb y0) := by
  unfold F_spec_l1Same at h
  refine C.intro (tab := tab) tab_ok (fn := Try.f151) Try.func151 (by kernel_rfl) rfl (Nat.le_of_ble_eq_true rfl) ?_
  refine WP.seq ?_
  refine WP.path tab_ok mixed [] [.keep [4, 0, 1], .keepO []] (ps := []) (e := .normal) (σ' := ⟨[], [(4, vb false), (0, vl x0), (1, vl x1)], []⟩) (by kernel_rfl) trivial ?_
  refine WP.seq ?_
  refine WP.seq ?_
  refine WP.path tab_ok mixed [] [.keep [10, 4, 0, 1], .keepO []] (ps := [(True)]) (e := .normal) (σ' := ⟨[], [(10, vb (((List.length x0 : Nat) : Int) != ((List.length x1 : Nat) : Int))), (4, vb false), (0, vl x0), (1, vl x1)], []⟩) (by kernel_rfl) ⟨trivial, trivial⟩ ?_
  rcases ite_some h with ⟨h1, h⟩ | ⟨h1, h⟩
  · -- yes
    refine WP.cond (b := ((List.length x0 : Nat) : Int) != ((List.length x1 : Nat) : Int)) rfl (fun _ => ?_) (fun hh => by rw [h1] at hh; cases hh)
    have h := Option.some.inj h
    subst h
    exact WP.pathW tab_ok mixed [] _ (ps := []) (r := tb false) (by kernel_rfl) trivial (WkT.eq (y := tb false) (WkT.refl _) rfl) (fun _ h => h)
  · -- no
    refine WP.cond (b := ((List.length x0 : Nat) : Int) != ((List.length x1 : Nat) : Int)) rfl (fun hh => by rw [h1] at hh; cases hh) (fun _ => ?_)
    refine WP.path tab_ok mixed [] [.keep [4, 0, 1], .keepO []] (ps := []) (e := .normal) (σ' := ⟨[], [(4, vb false), (0, vl x0), (1, vl x1)], []⟩) (by kernel_rfl) trivial ?_
    obtain ⟨J1, hJ1, h⟩ := jn_some h
    refine WP.joinA (fun (zz : Unit) => ⟨[], [(4, vb false)], []⟩) (fun zz => J1 () = some y0) ?_ ?_
    · -- to where they meet
      refine WP.seq ?_
      refine WP.path tab_ok mixed [] [.keep [5, 4, 0, 1], .keepO []] (ps := []) (e := .normal) (σ' := ⟨[], [(5, vi 0), (4, vb false), (0, vl x0), (1, vl x1)], []⟩) (by kernel_rfl) trivial ?_
      refine WP.block ?_
      refine WP.wk [.keep [5, 4, 0, 1], .keepO [], .names []] (σ' := ⟨[], [(5, vi 0), (4, vb false), (0, vl x0), (1, vl x1)], []⟩) (ps := []) (by kernel_rfl) trivial ?_
      refine WP.st (σ' := ⟨[], [(5, vi (0 : Int)), (4, vb false), (0, vl x0), (1, vl x1)], []⟩) (by first | rfl | (simp only [tlS, tl, vl, vo, oc, ov, tbl, vbl, ty, vy] <;> rfl) | (simp <;> omega) | (simp []; done) | (rw [List.take_of_length_le (by simp [])] <;> rfl)) ?_
      refine WP.loop (α := Nat × Int) (fun zz => ⟨[], [(5, vi zz.2), (4, vb false), (0, vl x0), (1, vl x1)], []⟩) (fun zz => F_spec_l1Same_L1 x0 x1 J1 zz.1 zz.2 = some y0) (fun zz => zz.1) (fuel, (0 : Int)) h ?_
      rintro ⟨n, v5⟩ h0
      have h := (show F_spec_l1Same_L1 x0 x1 J1 n v5 = some y0 from h0)
      rcases n with _ | n
      · rw [F_spec_l1Same_L1] at h; cases h
      · rw [F_spec_l1Same_L1] at h
        refine WP.seq ?_
        refine WP.seq ?_
        refine WP.path tab_ok mixed [] [.keep [14, 5, 4, 0, 1], .keepO []] (ps := [(True)]) (e := .normal) (σ' := ⟨[], [(14, vb (decide (v5 < ((List.length x0 : Nat) : Int)))), (5, vi v5), (4, vb false), (0, vl x0), (1, vl x1)], []⟩) (by kernel_rfl) ⟨trivial, trivial⟩ ?_
        rcases ite_some h with ⟨h2, h⟩ | ⟨h2, h⟩
        · -- yes
          refine WP.cond (b := decide (v5 < ((List.length x0 : Nat) : Int))) rfl (fun _ => ?_) (fun hh => by rw [h2] at hh; cases hh)
          refine WP.path tab_ok mixed [] [.keep [5, 4, 0, 1], .keepO []] (ps := []) (e := .normal) (σ' := ⟨[], [(5, vi v5), (4, vb false), (0, vl x0), (1, vl x1)], []⟩) (by kernel_rfl) trivial ?_
          refine WP.seq ?_
          refine WP.block ?_
          refine WP.seq ?_
          obtain ⟨c0, h⟩ := chk_some h
          obtain ⟨c1, h⟩ := chk_some h
          refine WP.path tab_ok mixed [(20, An.v (ti (List.getD x0 (Int.toNat v5) 0))), (24, An.v (ti (List.getD x1 (Int.toNat v5) 0)))] [.keep [25, 5, 4, 0, 1], .keepO []] (ps := [((0 ≤ v5 ∧ v5 < ((List.length x0 : Nat) : Int))), ((List.drop ((Int.toNat v5) * 1) (List.map (T.int .i64) x0) : List T)[0]? = some (ti (List.getD x0 (Int.toNat v5) 0))), (ti (List.getD x0 (Int.toNat v5) 0) = ti (List.getD x0 (Int.toNat v5) 0)), ((0 ≤ v5 ∧ v5 < ((List.length x1 : Nat) : Int))), ((List.drop ((Int.toNat v5) * 1) (List.map (T.int .i64) x1) : List T)[0]? = some (ti (List.getD x1 (Int.toNat v5) 0))), (ti (List.getD x1 (Int.toNat v5) 0) = ti (List.getD x1 (Int.toNat v5) 0)), (True)]) (e := .normal) (σ' := ⟨[], [(25, vb ((List.getD x0 (Int.toNat v5) 0) != (List.getD x1 (Int.toNat v5) 0))), (5, vi v5), (4, vb false), (0, vl x0), (1, vl x1)], []⟩) (by kernel_rfl) ⟨c0, at1 (by simp) (by omega), rfl, c1, at1 (by simp) (by omega), rfl, trivial, trivial⟩ ?_
          rcases ite_some h with ⟨h3, h⟩ | ⟨h3, h⟩
          · -- yes
            refine WP.cond (b := (List.getD x0 (Int.toNat v5) 0) != (List.getD x1 (Int.toNat v5) 0)) rfl (fun _ => ?_) (fun hh => by rw [h3] at hh; cases hh)
            have h := Option.some.inj h
            subst h
            exact WP.pathW tab_ok mixed [] _ (ps := []) (r := tb false) (by kernel_rfl) trivial (WkT.eq (y := tb false) (WkT.refl _) rfl) (fun _ h => h)
          · -- no
            refine WP.cond (b := (List.getD x0 (Int.toNat v5) 0) != (List.getD x1 (Int.toNat v5) 0)) rfl (fun hh => by rw [h3] at hh; cases hh) (fun _ => ?_)
            refine WP.path tab_ok mixed [] [.keep [5, 4, 0, 1], .keepO []] (ps := []) (e := .normal) (σ' := ⟨[], [(5, vi v5), (4, vb false), (0, vl x0), (1, vl x1)], []⟩) (by kernel_rfl) trivial ?_
            obtain ⟨c2, h⟩ := chk_some h
            refine WP.path tab_ok mixed [(16, An.v (T.int .i64 (v5 + (1 : Int))))] [.keep [5, 4, 0, 1], .keepO [], .names []] (ps := [(True), (T.int .i64 (IntKind.wrap .i64 (v5 + (1 : Int))) = T.int .i64 (v5 + (1 : Int)))]) (e := .normal) (σ' := ⟨[], [(5, vi (v5 + (1 : Int))), (4, vb false), (0, vl x0), (1, vl x1)], []⟩) (by kernel_rfl) ⟨trivial, wrapI c2, trivial⟩ ?_
            exact ⟨(n, (v5 + (1 : Int))), h, Nat.lt_succ_self _, rfl⟩
        · -- no
          refine WP.cond (b := decide (v5 < ((List.length x0 : Nat) : Int))) rfl (fun hh => by rw [h2] at hh; cases hh) (fun _ => ?_)
          refine WP.path tab_ok mixed [] [.keep [4], .keepO [], .names []] (ps := []) (e := (.exit 0)) (σ' := ⟨[], [(4, vb false)], []⟩) (by kernel_rfl) trivial ?_
          exact ⟨(), h, rfl⟩
    · -- from there
      intro _ h0
      have h := (show J1 () = some y0 from h0)
      rw [hJ1] at h
      have h := Option.some.inj h
      subst h
      exact WP.pathW tab_ok mixed [] _ (ps := []) (r := tb true) (by kernel_rfl) trivial (WkT.eq (y := tb true) (WkT.refl _) rfl) (fun _ h => h)
theorem F_spec_l6NeedOf_W (x0 : List Int) (x1 : Int) (x2 : Int) (x3 : List Int) (y0 : Int) (h : F_spec_l6NeedOf x0 x1 x2 x3 = some y0) : C Try.prog 124 [T.agg [tl x0, ti x1], ti x2, tl x3] (ti y0) := by
  unfold F_spec_l6NeedOf at h
  refine C.intro (tab := tab) tab_ok (fn := Try.f124) Try.func124 (by kernel_rfl) rfl (Nat.le_of_ble_eq_true rfl) ?_
  refine WP.seq ?_
  refine WP.path tab_ok mixed [(3, An.fz)] [.keep [6, 3, 1, 2], .keepO []] (ps := []) (e := .normal) (σ' := ⟨[], [(6, vi 0), (3, V.t (T.ptr [tl x0, ti x1])), (1, vi x2), (2, vl x3)], []⟩) (by kernel_rfl) trivial ?_
  refine WP.seq ?_
  obtain ⟨r11, r11b, c0, h⟩ := bnd2_some h
  obtain ⟨r14, r14b, c1, h⟩ := bnd2_some h
  refine WP.path tab_ok mixed [(11, An.callG [(9000, 10110)] [V.t (T.agg [tl x0, ti x1]), vi x2, vb true] [] (V.agg [vo 9000 (List.length r11), vi r11b]) [(9000, oc 3 (List.map (T.int .i64) r11))]), (14, An.callG [(9000, 10140)] [V.t (T.agg [tl x0, ti x1]), vi x2, vb false] [] (V.agg [vo 9000 (List.length r14), vi r14b]) [(9000, oc 3 (List.map (T.int .i64) r14))]), (7, An.id 2007), (8, An.id 2008)] [.keep [8, 7, 6, 3, 2], .keepO [2007, 2008, 10110, 10140]] (ps := [(2 ≤ 2), (CG Try.prog 68 [V.t (T.agg [tl x0, ti x1]), vi x2, vb true] [] (V.agg [vo 9000 (List.length r11), vi r11b]) [(9000, oc 3 (List.map (T.int .i64) r11))]), (WkT (T.agg [tl x0, ti x1]) (T.agg [tl x0, ti x1])), (WkT (ti x2) (ti x2)), (WkT (tb true) (tb true)), (2 ≤ 2), (CG Try.prog 68 [V.t (T.agg [tl x0, ti x1]), vi x2, vb false] [] (V.agg [vo 9000 (List.length r14), vi r14b]) [(9000, oc 3 (List.map (T.int .i64) r14))]), (WkT (T.agg [tl x0, ti x1]) (T.agg [tl x0, ti x1])), (WkT (ti x2) (ti x2)), (WkT (tb false) (tb false)), ((0 + 2 ≤ 2 ∧ 2 = 2)), ((0 + 2 ≤ 2 ∧ 2 = 2))]) (e := .normal) (σ' := ⟨[2008, 2007, 10140, 10110], [(8, V.ref 2008 0), (7, V.ref 2007 0), (6, vi 0), (3, V.t (T.ptr [tl x0, ti x1])), (2, vl x3)], [(2007, ov 26 [vo 10110 (List.length r11), vi r11b]), (2008, ov 26 [vo 10140 (List.length r14), vi r14b]), (10110, oc 3 (List.map (T.int .i64) r11)), (10140, oc 3 (List.map (T.int .i64) r14))]⟩) (by kernel_rfl) ⟨by decide, (F_spec_l6After_W x0 x1 x2 true r11 r11b c0), WkT.refl _, WkT.refl _, WkT.refl _, by decide, (F_spec_l6After_W x0 x1 x2 false r14 r14b c1), WkT.refl _, WkT.refl _, WkT.refl _, by decide, by decide, trivial⟩ ?_
  refine WP.seq ?_
  obtain ⟨J1, hJ1, h⟩ := jn_some h
  refine WP.joinA (fun (zz : Bool) => ⟨[2007, 2008, 10110, 10140], [(26, vb zz), (8, V.ref 2008 0), (7, V.ref 2007 0), (6, vi 0), (2, vl x3)], [(2007, ov 26 [vo 10110 (List.length r11), vi r11b]), (2008, ov 26 [vo 10140 (List.length r14), vi r14b]), (10110, oc 3 (List.map (T.int .i64) r11)), (10140, oc 3 (List.map (T.int .i64) r14))]⟩) (fun zz => J1 zz = some y0) ?_ ?_
  · -- to where they meet
    obtain ⟨r19, c2, h⟩ := bnd1_some h
    rcases ite_some h with ⟨h1, h⟩ | ⟨h1, h⟩
    · -- yes
      refine WP.path tab_ok mixed [(19, An.call (tb r19)), (20, An.b true)] [.keep [26, 8, 7, 6, 2], .keepO [2007, 2008, 10110, 10140], .names [(2007, 2007), (2008, 2008), (10110, 10110), (10140, 10140)]] (ps := [(True), (True), (C Try.prog 151 [tl r11, tl x0] (tb r19)), (List.length (List.map (T.int .i64) r11) = (List.length r11) * 1), ((r19) = true)]) (e := .normal) (σ' := ⟨[2007, 2008, 10110, 10140], [(26, vb true), (8, V.ref 2008 0), (7, V.ref 2007 0), (6, vi 0), (2, vl x3)], [(2007, ov 26 [vo 10110 (List.length r11), vi r11b]), (2008, ov 26 [vo 10140 (List.length r14), vi r14b]), (10110, oc 3 (List.map (T.int .i64) r11)), (10140, oc 3 (List.map (T.int .i64) r14))]⟩) (by kernel_rfl) ⟨trivial, trivial, (F_spec_l1Same_W r11 x0 r19 c2), by first | rfl | omega | (simp only [tlL] <;> omega) | (simp <;> omega) | (simp [] <;> omega), h1, trivial⟩ ?_
      exact ⟨(true), h, rfl⟩
    · -- no
      obtain ⟨r25, c3, h⟩ := bnd1_some h
      refine WP.path tab_ok mixed [(19, An.call (tb r19)), (20, An.b false), (25, An.call (tb r25))] [.keep [26, 8, 7, 6, 2], .keepO [2007, 2008, 10110, 10140], .names [(2007, 2007), (2008, 2008), (10110, 10110), (10140, 10140)]] (ps := [(True), (True), (C Try.prog 151 [tl r11, tl x0] (tb r19)), (List.length (List.map (T.int .i64) r11) = (List.length r11) * 1), ((r19) = false), (True), (True), (C Try.prog 151 [tl r14, tl x0] (tb r25)), (List.length (List.map (T.int .i64) r14) = (List.length r14) * 1)]) (e := .normal) (σ' := ⟨[2007, 2008, 10110, 10140], [(26, vb r25), (8, V.ref 2008 0), (7, V.ref 2007 0), (6, vi 0), (2, vl x3)], [(2007, ov 26 [vo 10110 (List.length r11), vi r11b]), (2008, ov 26 [vo 10140 (List.length r14), vi r14b]), (10110, oc 3 (List.map (T.int .i64) r11)), (10140, oc 3 (List.map (T.int .i64) r14))]⟩) (by kernel_rfl) ⟨trivial, trivial, (F_spec_l1Same_W r11 x0 r19 c2), by first | rfl | omega | (simp only [tlL] <;> omega) | (simp <;> omega) | (simp [] <;> omega), h1, trivial, trivial, (F_spec_l1Same_W r14 x0 r25 c3), by first | rfl | omega | (simp only [tlL] <;> omega) | (simp <;> omega) | (simp [] <;> omega), trivial⟩ ?_
      exact ⟨(r25), h, rfl⟩
  · -- from there
    intro v26 h0
    have h := (show J1 v26 = some y0 from h0)
    rw [hJ1] at h
    rcases ite_some h with ⟨h2, h⟩ | ⟨h2, h⟩
    · -- yes
      refine WP.cond (b := v26) rfl (fun _ => ?_) (fun hh => by rw [h2] at hh; cases hh)
      have h := Option.some.inj h
      subst h
      exact WP.pathW tab_ok mixed [] _ (ps := []) (r := ti (-1)) (by kernel_rfl) trivial (WkT.eq (y := ti (-1)) (WkT.refl _) (by first | rfl | (simp only [tlS, tl, vl, vo, oc, ov, tbl, vbl, ty, vy] <;> rfl) | (simp <;> omega) | (simp []; done) | (rw [List.take_of_length_le (by simp [])] <;> rfl))) (fun _ h => h)
    · -- no
      refine WP.cond (b := v26) rfl (fun hh => by rw [h2] at hh; cases hh) (fun _ => ?_)
      refine WP.path tab_ok mixed [] [.keep [8, 7, 6, 2], .keepO [2007, 2008, 10110, 10140]] (ps := []) (e := .normal) (σ' := ⟨[2007, 2008, 10110, 10140], [(8, V.ref 2008 0), (7, V.ref 2007 0), (6, vi 0), (2, vl x3)], [(2007, ov 26 [vo 10110 (List.length r11), vi r11b]), (2008, ov 26 [vo 10140 (List.length r14), vi r14b]), (10110, oc 3 (List.map (T.int .i64) r11)), (10140, oc 3 (List.map (T.int .i64) r14))]⟩) (by kernel_rfl) trivial ?_
      obtain ⟨r29, c2, h⟩ := bnd1_some h
      obtain ⟨c3, h⟩ := chk_some h
      obtain ⟨r34, c4, h⟩ := bnd1_some h
      obtain ⟨c5, h⟩ := chk_some h
      obtain ⟨c6, h⟩ := chk_some h
      obtain ⟨n38, c7, h⟩ := nam_some h
      have h := Option.some.inj h
      subst h
      exact WP.pathW tab_ok mixed [(29, An.call (ti r29)), (31, An.v (ti (List.getD x3 (Int.toNat r29) 0))), (34, An.call (ti r34)), (36, An.v (ti (List.getD x3 (Int.toNat r34) 0))), (37, An.call (ti (maxN (List.getD x3 (Int.toNat r29) 0) (List.getD x3 (Int.toNat r34) 0)))), (38, An.v (ti n38))] _ (ps := [(0 + 2 ≤ 2), (C Try.prog 123 [T.agg [tl r11, ti r11b]] (ti r29)), (List.length (List.map (T.int .i64) r11) = (List.length r11) * 1), ((0 ≤ r29 ∧ r29 < ((List.length x3 : Nat) : Int))), ((List.drop ((Int.toNat r29) * 1) (List.map (T.int .i64) x3) : List T)[0]? = some (ti (List.getD x3 (Int.toNat r29) 0))), (ti (List.getD x3 (Int.toNat r29) 0) = ti (List.getD x3 (Int.toNat r29) 0)), (0 + 2 ≤ 2), (C Try.prog 123 [T.agg [tl r14, ti r14b]] (ti r34)), (List.length (List.map (T.int .i64) r14) = (List.length r14) * 1), ((0 ≤ r34 ∧ r34 < ((List.length x3 : Nat) : Int))), ((List.drop ((Int.toNat r34) * 1) (List.map (T.int .i64) x3) : List T)[0]? = some (ti (List.getD x3 (Int.toNat r34) 0))), (ti (List.getD x3 (Int.toNat r34) 0) = ti (List.getD x3 (Int.toNat r34) 0)), (C Try.prog 54 [ti (List.getD x3 (Int.toNat r29) 0), ti (List.getD x3 (Int.toNat r34) 0)] (ti (maxN (List.getD x3 (Int.toNat r29) 0) (List.getD x3 (Int.toNat r34) 0)))), (True), (T.int .i64 (IntKind.wrap .i64 ((1 : Int) + (maxN (List.getD x3 (Int.toNat r29) 0) (List.getD x3 (Int.toNat r34) 0)))) = ti n38)]) (r := ti n38) (by kernel_rfl) ⟨by decide, (F_spec_l6Key_W r11 r11b r29 c2), by first | rfl | omega | (simp only [tlL] <;> omega) | (simp <;> omega) | (simp [] <;> omega), c3, at1 (by simp) (by omega), rfl, by decide, (F_spec_l6Key_W r14 r14b r34 c4), by first | rfl | omega | (simp only [tlL] <;> omega) | (simp <;> omega) | (simp [] <;> omega), c5, at1 (by simp) (by omega), rfl, (l1Most_C (List.getD x3 (Int.toNat r29) 0) (List.getD x3 (Int.toNat r34) 0)), trivial, Eq.trans (wrapI c6) (congrArg (ti) c7), trivial⟩ (WkT.eq (y := ti n38) (WkT.refl _) rfl) (fun _ h => h)
theorem F_spec_l6Best_W (x0 : List Int) (x1 : Int) (x2 : List Int) (y0 : Int) (h : F_spec_l6Best x0 x1 x2 = some y0) : C Try.prog 67 [T.agg [tl x0, ti x1], tl x2] (ti y0) := by
  unfold F_spec_l6Best at h
  refine C.intro (tab := tab) tab_ok (fn := Try.f67) Try.func67 (by kernel_rfl) rfl (Nat.le_of_ble_eq_true rfl) ?_
  refine WP.seq ?_
  refine WP.path tab_ok mixed [(2, An.fz)] [.keep [4, 2, 1], .keepO []] (ps := []) (e := .normal) (σ' := ⟨[], [(4, vi 0), (2, V.t (T.ptr [tl x0, ti x1])), (1, vl x2)], []⟩) (by kernel_rfl) trivial ?_
  refine WP.seq ?_
  refine WP.path tab_ok mixed [] [.keep [5, 4, 2, 1], .keepO []] (ps := []) (e := .normal) (σ' := ⟨[], [(5, vi 1), (4, vi 0), (2, V.t (T.ptr [tl x0, ti x1])), (1, vl x2)], []⟩) (by kernel_rfl) trivial ?_
  obtain ⟨J1, hJ1, h⟩ := jn_some h
  refine WP.joinA (fun (zz : Int) => ⟨[], [(5, vi zz), (4, vi 0)], []⟩) (fun zz => J1 zz = some y0) ?_ ?_
  · -- to where they meet
    refine WP.block ?_
    refine WP.wk [.keep [5, 4, 2, 1], .keepO [], .names []] (σ' := ⟨[], [(5, vi 1), (4, vi 0), (2, V.t (T.ptr [tl x0, ti x1])), (1, vl x2)], []⟩) (ps := []) (by kernel_rfl) trivial ?_
    refine WP.st (σ' := ⟨[], [(5, vi (1 : Int)), (4, vi 0), (2, V.t (T.ptr [tl x0, ti x1])), (1, vl x2)], []⟩) (by first | rfl | (simp only [tlS, tl, vl, vo, oc, ov, tbl, vbl, ty, vy] <;> rfl) | (simp <;> omega) | (simp []; done) | (rw [List.take_of_length_le (by simp [])] <;> rfl)) ?_
    refine WP.loop (α := Nat × Int) (fun zz => ⟨[], [(5, vi zz.2), (4, vi 0), (2, V.t (T.ptr [tl x0, ti x1])), (1, vl x2)], []⟩) (fun zz => F_spec_l6Best_L1 x0 x1 x2 J1 zz.1 zz.2 = some y0) (fun zz => zz.1) (fuel, (1 : Int)) h ?_
    rintro ⟨n, v5⟩ h0
    have h := (show F_spec_l6Best_L1 x0 x1 x2 J1 n v5 = some y0 from h0)
    rcases n with _ | n
    · rw [F_spec_l6Best_L1] at h; cases h
    · rw [F_spec_l6Best_L1] at h
      refine WP.seq ?_
      refine WP.seq ?_
      obtain ⟨r9, c0, h⟩ := bnd1_some h
      obtain ⟨r12, c1, h⟩ := bnd1_some h
      obtain ⟨c2, h⟩ := chk_some h
      refine WP.path tab_ok mixed [(9, An.call (ti r9)), (12, An.call (ti r12)), (14, An.v (ti (List.getD x2 (Int.toNat r12) 0)))] [.keep [15, 5, 4, 2, 1], .keepO []] (ps := [(2 ≤ 2), (C Try.prog 124 [T.agg [tl x0, ti x1], ti v5, tl x2] (ti r9)), (2 ≤ 2), (C Try.prog 123 [T.agg [tl x0, ti x1]] (ti r12)), ((0 ≤ r12 ∧ r12 < ((List.length x2 : Nat) : Int))), ((List.drop ((Int.toNat r12) * 1) (List.map (T.int .i64) x2) : List T)[0]? = some (ti (List.getD x2 (Int.toNat r12) 0))), (ti (List.getD x2 (Int.toNat r12) 0) = ti (List.getD x2 (Int.toNat r12) 0)), (True)]) (e := .normal) (σ' := ⟨[], [(15, vb (r9 != (List.getD x2 (Int.toNat r12) 0))), (5, vi v5), (4, vi 0), (2, V.t (T.ptr [tl x0, ti x1])), (1, vl x2)], []⟩) (by kernel_rfl) ⟨by decide, (F_spec_l6NeedOf_W x0 x1 v5 x2 r9 c0), by decide, (F_spec_l6Key_W x0 x1 r12 c1), c2, at1 (by simp) (by omega), rfl, trivial, trivial⟩ ?_
      rcases ite_some h with ⟨h1, h⟩ | ⟨h1, h⟩
      · -- yes
        refine WP.cond (b := r9 != (List.getD x2 (Int.toNat r12) 0)) rfl (fun _ => ?_) (fun hh => by rw [h1] at hh; cases hh)
        refine WP.path tab_ok mixed [] [.keep [5, 4, 2, 1], .keepO []] (ps := []) (e := .normal) (σ' := ⟨[], [(5, vi v5), (4, vi 0), (2, V.t (T.ptr [tl x0, ti x1])), (1, vl x2)], []⟩) (by kernel_rfl) trivial ?_
        refine WP.block ?_
        obtain ⟨c3, h⟩ := chk_some h
        refine WP.path tab_ok mixed [(17, An.v (T.int .i64 (v5 + (1 : Int))))] [.keep [5, 4, 2, 1], .keepO [], .names []] (ps := [(True), (T.int .i64 (IntKind.wrap .i64 (v5 + (1 : Int))) = T.int .i64 (v5 + (1 : Int)))]) (e := .normal) (σ' := ⟨[], [(5, vi (v5 + (1 : Int))), (4, vi 0), (2, V.t (T.ptr [tl x0, ti x1])), (1, vl x2)], []⟩) (by kernel_rfl) ⟨trivial, wrapI c3, trivial⟩ ?_
        exact ⟨(n, (v5 + (1 : Int))), h, Nat.lt_succ_self _, rfl⟩
      · -- no
        refine WP.cond (b := r9 != (List.getD x2 (Int.toNat r12) 0)) rfl (fun hh => by rw [h1] at hh; cases hh) (fun _ => ?_)
        refine WP.path tab_ok mixed [] [.keep [5, 4], .keepO [], .names []] (ps := []) (e := (.exit 0)) (σ' := ⟨[], [(5, vi v5), (4, vi 0)], []⟩) (by kernel_rfl) trivial ?_
        exact ⟨(v5), h, rfl⟩
  · -- from there
    intro v5 h0
    have h := (show J1 v5 = some y0 from h0)
    rw [hJ1] at h
    have h := Option.some.inj h
    subst h
    exact WP.pathW tab_ok mixed [] _ (ps := []) (r := ti v5) (by kernel_rfl) trivial (WkT.eq (y := ti v5) (WkT.refl _) rfl) (fun _ h => h)

end Go.Proofs.Ytfbkhpfhnimnfaa.AuLessa
