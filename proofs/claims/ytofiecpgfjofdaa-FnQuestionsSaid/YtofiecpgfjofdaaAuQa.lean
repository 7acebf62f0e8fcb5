/-
  The walks: each function of the program returns what the plain function beside it returns. No statement is proved here.
-/
import Derived.Test.YtofiecpgfjofdaaTlV
import Derived.Test.YtofiecpgfjofdaaTlCI
import Derived.Test.YtofiecpgfjofdaaAuQF
import Derived.Test.YtofiecpgfjofdaaProg
import Derived.Test.YtofiecpgfjofdaaAuQO
namespace Go.Proofs.Ytofiecpgfjofdaa.AuQa
open Go Go.Tl Go.Proofs
open Go.Proofs.Ytofiecpgfjofdaa.AuQO hiding tab tab_ok mixed
set_option linter.unusedVariables false
set_option linter.unusedSimpArgs false
set_option maxRecDepth 100000
def tab : Tab := [(3, ⟨.int .i64, 1, 8, [.int .i64 0]⟩), (4, ⟨.bool, 1, 1, [.bool false]⟩), (5, ⟨.int .u8, 1, 1, [.int .u8 0]⟩), (26, ⟨.slice 3 1 8, 1, 24, [.nils]⟩), (28, ⟨.struct [(0, 1, false), (1, 1, false)], 2, 32, [.nils, .int .i64 0]⟩), (40, ⟨.slice 5 1 1, 1, 24, [.nils]⟩), (85, ⟨.struct [(0, 1, false), (1, 1, false)], 2, 16, [.int .i64 0, .bool false]⟩), (148, ⟨.pointer 151, 1, 8, [.nilp]⟩), (149, ⟨.int .u64, 1, 8, [.int .u64 0]⟩), (151, ⟨.struct [(0, 1, false), (1, 1, false), (2, 1, false)], 3, 40, [.nils, .int .i64 0, .int .u64 0]⟩)]
theorem tab_ok : chkTab Try.prog tab = true := by kernel_rfl
theorem mixed : Try.prog.follows .mixedOrders = true := by kernel_rfl
theorem F_impl_OpenNumbers_W (x0 : List Int) (x1 : Int) (y0 : List Int) (y1 : Bool) (h : F_impl_OpenNumbers x0 x1 = some (y0, y1)) : CG Try.prog 41 [V.t (T.agg [tl x0, ti x1])] [] (V.tup [vo 9000 (List.length y0), vb y1]) [(9000, oc 3 (List.map (T.int .i64) y0))] := by
  unfold F_impl_OpenNumbers at h
  refine CG.intro (tab := tab) tab_ok (fn := Try.f41) Try.func41 (by kernel_rfl) rfl (Nat.le_of_ble_eq_true rfl) (by kernel_rfl) ?_
  refine WP.seq ?_
  refine WP.path tab_ok mixed [(1, An.fz)] [.keep [3, 2, 1], .keepO []] (ps := []) (e := .normal) (σ' := ⟨[], [(3, vb false), (2, V.t (T.nils)), (1, V.t (T.ptr [tl x0, ti x1]))], []⟩) (by kernel_rfl) trivial ?_
  refine WP.seq ?_
  refine WP.seq ?_
  obtain ⟨c0, h⟩ := chk_some h
  refine WP.path tab_ok mixed [(5, An.call (tb (isStateN x0 x1)))] [.keep [6, 3, 2, 1], .keepO []] (ps := [(2 ≤ 2), (C Try.prog 99 [T.agg [tl x0, ti x1]] (tb (isStateN x0 x1)))]) (e := .normal) (σ' := ⟨[], [(6, vb (!(isStateN x0 x1))), (3, vb false), (2, V.t (T.nils)), (1, V.t (T.ptr [tl x0, ti x1]))], []⟩) (by kernel_rfl) ⟨by decide, (isState_C x0 x1 c0), trivial⟩ ?_
  rcases ite_some h with ⟨h1, h⟩ | ⟨h1, h⟩
  · -- yes
    refine WP.cond (b := !(isStateN x0 x1)) rfl (fun _ => ?_) (fun hh => by rw [h1] at hh; cases hh)
    simp only [Option.some.injEq, Prod.mk.injEq] at h
    obtain ⟨rfl, rfl⟩ := h
    exact WP.pathG tab_ok mixed [] [.keep [2, 3], .keepO [], .names []] [] _ (r' := V.tup [vo 9000 (List.length ([] : List Int)), vb false]) (ps := []) (r := V.t (T.tup [T.nils, tb false])) (N := []) (O := []) [(9000, 3)] (by kernel_rfl) trivial ⟨(by first | rfl | (simp; done)), (WkT.refl _), trivial⟩ rfl rfl (fun _ h => h)
  · -- no
    refine WP.cond (b := !(isStateN x0 x1)) rfl (fun hh => by rw [h1] at hh; cases hh) (fun _ => ?_)
    refine WP.path tab_ok mixed [] [.keep [3, 2, 1], .keepO []] (ps := []) (e := .normal) (σ' := ⟨[], [(3, vb false), (2, V.t (T.nils)), (1, V.t (T.ptr [tl x0, ti x1]))], []⟩) (by kernel_rfl) trivial ?_
    obtain ⟨c1, h⟩ := chk_some h
    simp only [Option.some.injEq, Prod.mk.injEq] at h
    obtain ⟨rfl, rfl⟩ := h
    exact WP.pathG tab_ok mixed [(8, An.callG [(9000, 10080)] [V.t (T.agg [tl x0, ti x1])] [] (vo 9000 (List.length (openN x0))) [(9000, oc 3 (List.map (T.int .i64) (openN x0)))])] [.keep [2, 3], .keepO [10080], .names [(10080, 9000)]] [9000] _ (r' := V.tup [vo 9000 (List.length (openN x0)), vb true]) (ps := [(2 ≤ 2), (CG Try.prog 153 [V.t (T.agg [tl x0, ti x1])] [] (vo 9000 (List.length (openN x0))) [(9000, oc 3 (List.map (T.int .i64) (openN x0)))]), (WkT (T.agg [tl x0, ti x1]) (T.agg [tl x0, ti x1]))]) (r := V.tup [vo 9000 (List.length (openN x0)), vb true]) (N := [9000]) (O := [(9000, oc 3 (List.map (T.int .i64) (openN x0)))]) [] (by kernel_rfl) ⟨by decide, (open_C_G x0 x1 c1), WkT.refl _, trivial⟩ ⟨rfl, (WkT.refl _), trivial⟩ rfl rfl (fun _ h => h)
theorem F_impl_OpenNumbers_W_C (x0 : List Int) (x1 : Int) (y0 : List Int) (y1 : Bool) (h : F_impl_OpenNumbers x0 x1 = some (y0, y1)) : C Try.prog 41 [T.agg [tl x0, ti x1]] (T.tup [tl y0, tb y1]) :=
  CG.toC (ps := [(List.length (List.map (T.int .i64) y0) = (List.length y0) * 1)]) (F_impl_OpenNumbers_W  x0 x1 y0 y1 h) (by rfl) ⟨by first | rfl | (simp; done) | omega | (simp; omega) | (simp [hl]; done) | (simp [hl]; omega), trivial⟩
theorem F_p_spec_l1Cur_next_W (x0 : List Int) (x1 : Int) (x2 : Int) (y0 : Int) (y1 : List Int) (y2 : Int) (y3 : Int) (h : F_p_spec_l1Cur_next x0 x1 x2 = some (y0, y1, y2, y3)) : CG Try.prog 245 [V.ref 500 0] [(500, oc 151 [ty x0, ti x1, T.int .u64 x2])] (vi y0) [(500, oc 151 [ty y1, ti y2, T.int .u64 y3])] := by
  unfold F_p_spec_l1Cur_next at h
  refine CG.intro (tab := tab) tab_ok (fn := Try.f245) Try.func245 (by kernel_rfl) rfl (Nat.le_of_ble_eq_true rfl) (by kernel_rfl) ?_
  refine WP.seq ?_
  refine WP.path tab_ok mixed [] [.keep [2, 0], .keepO [500]] (ps := []) (e := .normal) (σ' := ⟨[500], [(2, vi 0), (0, V.ref 500 0)], [(500, oc 151 [ty x0, ti x1, T.int .u64 x2])]⟩) (by kernel_rfl) trivial ?_
  refine WP.seq ?_
  refine WP.path tab_ok mixed [] [.keep [3, 2, 0], .keepO [500]] (ps := []) (e := .normal) (σ' := ⟨[500], [(3, vi 0), (2, vi 0), (0, V.ref 500 0)], [(500, oc 151 [ty x0, ti x1, T.int .u64 x2])]⟩) (by kernel_rfl) trivial ?_
  obtain ⟨J1, hJ1, h⟩ := jn_some h
  refine WP.joinA (fun (zz : Int) => ⟨[500], [(3, vi zz), (2, vi 0), (0, V.ref 500 0)], [(500, oc 151 [ty x0, ti x1, T.int .u64 x2])]⟩) (fun zz => J1 zz = some (y0, y1, y2, y3)) ?_ ?_
  · -- to where they meet
    refine WP.seq ?_
    refine WP.path tab_ok mixed [] [.keep [13, 3, 2, 0], .keepO [500]] (ps := [(True), (True), (True)]) (e := .normal) (σ' := ⟨[500], [(13, vb (decide (x1 < ((List.length x0 : Nat) : Int)))), (3, vi 0), (2, vi 0), (0, V.ref 500 0)], [(500, oc 151 [ty x0, ti x1, T.int .u64 x2])]⟩) (by kernel_rfl) ⟨trivial, trivial, trivial, trivial⟩ ?_
    rcases ite_some h with ⟨h1, h⟩ | ⟨h1, h⟩
    · -- yes
      refine WP.cond (b := decide (x1 < ((List.length x0 : Nat) : Int))) rfl (fun _ => ?_) (fun hh => by rw [h1] at hh; cases hh)
      obtain ⟨c0, h⟩ := chk_some h
      obtain ⟨c1, h⟩ := chk_some h
      refine WP.path tab_ok mixed [(23, An.v (T.int .u8 (List.getD x0 (Int.toNat x1) 0))), (24, An.v (T.int .i64 (List.getD x0 (Int.toNat x1) 0)))] [.keep [3, 2, 0], .keepO [500], .names [(500, 500)]] (ps := [(True), (True), ((0 ≤ x1 ∧ x1 < ((List.length x0 : Nat) : Int))), ((List.drop ((Int.toNat x1) * 1) (List.map (T.int .u8) x0) : List T)[0]? = some (T.int .u8 (List.getD x0 (Int.toNat x1) 0))), (T.int .u8 (List.getD x0 (Int.toNat x1) 0) = T.int .u8 (List.getD x0 (Int.toNat x1) 0)), (T.int .i64 (IntKind.wrap .i64 (List.getD x0 (Int.toNat x1) 0)) = T.int .i64 (List.getD x0 (Int.toNat x1) 0))]) (e := .normal) (σ' := ⟨[500], [(3, vi (List.getD x0 (Int.toNat x1) 0)), (2, vi 0), (0, V.ref 500 0)], [(500, oc 151 [ty x0, ti x1, T.int .u64 x2])]⟩) (by kernel_rfl) ⟨trivial, trivial, c0, at1 (by simp) (by omega), rfl, wrapI c1, trivial⟩ ?_
      exact ⟨((List.getD x0 (Int.toNat x1) 0)), h, rfl⟩
    · -- no
      refine WP.cond (b := decide (x1 < ((List.length x0 : Nat) : Int))) rfl (fun hh => by rw [h1] at hh; cases hh) (fun _ => ?_)
      refine WP.path tab_ok mixed [] [.keep [3, 2, 0], .keepO [500], .names [(500, 500)]] (ps := []) (e := .normal) (σ' := ⟨[500], [(3, vi 0), (2, vi 0), (0, V.ref 500 0)], [(500, oc 151 [ty x0, ti x1, T.int .u64 x2])]⟩) (by kernel_rfl) trivial ?_
      exact ⟨((0 : Int)), h, (by first | rfl | (simp only [tlS, tl, vl, vo, oc, ov, tbl, vbl, ty, vy]; done) | (simp only [tlS, tl, vl, vo, oc, ov, tbl, vbl, ty, vy]; rfl) | (simp; done) | (simp []; done) | (rw [List.take_of_length_le (by simp [])]; done) | (rw [List.take_of_length_le (by simp [])]; rfl) | (simp only [tlL]; omega) | (simp; omega))⟩
  · -- from there
    intro v3 h0
    have h := (show J1 v3 = some (y0, y1, y2, y3) from h0)
    rw [hJ1] at h
    refine WP.seq ?_
    obtain ⟨c0, h⟩ := chk_some h
    refine WP.path tab_ok mixed [(29, An.v (T.int .i64 (x1 + (1 : Int))))] [.keep [3, 2, 0], .keepO [500]] (ps := [(True), (True), (T.int .i64 (IntKind.wrap .i64 (x1 + (1 : Int))) = T.int .i64 (x1 + (1 : Int))), (1 < 3)]) (e := .normal) (σ' := ⟨[500], [(3, vi v3), (2, vi 0), (0, V.ref 500 0)], [(500, oc 151 [ty x0, ti (x1 + (1 : Int)), T.int .u64 x2])]⟩) (by kernel_rfl) ⟨trivial, trivial, wrapI c0, by decide, trivial⟩ ?_
    refine WP.seq ?_
    obtain ⟨n37, c1, h⟩ := nam_some h
    obtain ⟨n40, c2, h⟩ := nam_some h
    refine WP.path tab_ok mixed [(37, An.v (T.int .u64 n37)), (40, An.v (T.int .u64 n40))] [.keep [3, 2, 0], .keepO [500]] (ps := [(True), (True), (T.int .u64 (IntKind.wrap .u64 (x2 * (6364136223846793005 : Int))) = T.int .u64 n37), (True), (T.int .u64 (IntKind.wrap .u64 (n37 + (IntKind.wrap .u64 v3))) = T.int .u64 n40), (True), (2 < 3)]) (e := .normal) (σ' := ⟨[500], [(3, vi v3), (2, vi 0), (0, V.ref 500 0)], [(500, oc 151 [ty x0, ti (x1 + (1 : Int)), T.int .u64 (IntKind.wrap .u64 (n40 + (462197 : Int)))])]⟩) (by kernel_rfl) ⟨trivial, trivial, congrArg (T.int .u64) c1, trivial, congrArg (T.int .u64) c2, trivial, by decide, trivial⟩ ?_
    refine WP.seq ?_
    refine WP.seq ?_
    refine WP.path tab_ok mixed [] [.keep [53, 3, 2, 0], .keepO [500]] (ps := [(True), (True), (True)]) (e := .normal) (σ' := ⟨[500], [(53, vb (decide ((x1 + (1 : Int)) ≤ ((List.length x0 : Nat) : Int)))), (3, vi v3), (2, vi 0), (0, V.ref 500 0)], [(500, oc 151 [ty x0, ti (x1 + (1 : Int)), T.int .u64 (IntKind.wrap .u64 (n40 + (462197 : Int)))])]⟩) (by kernel_rfl) ⟨trivial, trivial, trivial, trivial⟩ ?_
    rcases ite_some h with ⟨h2, h⟩ | ⟨h2, h⟩
    · -- yes
      refine WP.cond (b := decide ((x1 + (1 : Int)) ≤ ((List.length x0 : Nat) : Int))) rfl (fun _ => ?_) (fun hh => by rw [h2] at hh; cases hh)
      simp only [Option.some.injEq, Prod.mk.injEq] at h
      obtain ⟨rfl, rfl, rfl, rfl⟩ := h
      exact WP.pathG tab_ok mixed [] [.keep [2], .keepO [500], .names [(500, 500)]] [500] _ (r' := vi v3) (ps := []) (r := vi v3) (N := [500]) (O := [(500, oc 151 [ty x0, ti (x1 + (1 : Int)), T.int .u64 (IntKind.wrap .u64 (n40 + (462197 : Int)))])]) [] (by kernel_rfl) trivial ⟨(WkT.refl _), trivial⟩ rfl rfl (fun _ h => h)
    · -- no
      refine WP.cond (b := decide ((x1 + (1 : Int)) ≤ ((List.length x0 : Nat) : Int))) rfl (fun hh => by rw [h2] at hh; cases hh) (fun _ => ?_)
      refine WP.path tab_ok mixed [] [.keep [2, 0], .keepO [500]] (ps := []) (e := .normal) (σ' := ⟨[500], [(2, vi 0), (0, V.ref 500 0)], [(500, oc 151 [ty x0, ti (x1 + (1 : Int)), T.int .u64 (IntKind.wrap .u64 (n40 + (462197 : Int)))])]⟩) (by kernel_rfl) trivial ?_
      obtain ⟨n60, c3, h⟩ := nam_some h
      obtain ⟨c4, h⟩ := chk_some h
      simp only [Option.some.injEq, Prod.mk.injEq] at h
      obtain ⟨rfl, rfl, rfl, rfl⟩ := h
      exact WP.pathG tab_ok mixed [(59, An.v (T.int .u64 ((IntKind.wrap .u64 (n40 + (462197 : Int))) / 2 ^ Int.toNat (40 : Int)))), (60, An.v (T.int .u64 n60)), (61, An.v (T.int .i64 n60))] [.keep [2], .keepO [500], .names [(500, 500)]] [500] _ (r' := vi n60) (ps := [(True), (0 ≤ (40 : Int)), (T.int .u64 (Int.fdiv (IntKind.wrap .u64 (n40 + (462197 : Int))) (2 ^ (min (Int.toNat (40 : Int)) 64))) = T.int .u64 ((IntKind.wrap .u64 (n40 + (462197 : Int))) / 2 ^ Int.toNat (40 : Int))), (True), (T.int .u64 (bits .and .u64 ((IntKind.wrap .u64 (n40 + (462197 : Int))) / 2 ^ Int.toNat (40 : Int)) (255 : Int)) = T.int .u64 n60), (T.int .i64 (IntKind.wrap .i64 n60) = T.int .i64 n60)]) (r := vi n60) (N := [500]) (O := [(500, oc 151 [ty x0, ti (x1 + (1 : Int)), T.int .u64 (IntKind.wrap .u64 (n40 + (462197 : Int)))])]) [] (by kernel_rfl) ⟨trivial, (show (0 ≤ (40 : Int) ∧ (40 : Int) < 64) by first | decide | (simp only [maxLen]; omega) | (unfold I64; omega) | (unfold I64; decide)).1, shr_told (show (0 ≤ (40 : Int) ∧ (40 : Int) < 64) by first | decide | (simp only [maxLen]; omega) | (unfold I64; omega) | (unfold I64; decide)), trivial, congrArg (T.int .u64) c3, wrapI c4, trivial⟩ ⟨(WkT.refl _), trivial⟩ rfl rfl (fun _ h => h)
theorem F_p_spec_l1Cur_pick_W (x0 : List Int) (x1 : Int) (x2 : Int) (x3 : Int) (y0 : Int) (y1 : List Int) (y2 : Int) (y3 : Int) (h : F_p_spec_l1Cur_pick x0 x1 x2 x3 = some (y0, y1, y2, y3)) : CG Try.prog 154 [V.ref 500 0, vi x3] [(500, oc 151 [ty x0, ti x1, T.int .u64 x2])] (vi y0) [(500, oc 151 [ty y1, ti y2, T.int .u64 y3])] := by
  unfold F_p_spec_l1Cur_pick at h
  refine CG.intro (tab := tab) tab_ok (fn := Try.f154) Try.func154 (by kernel_rfl) rfl (Nat.le_of_ble_eq_true rfl) (by kernel_rfl) ?_
  refine WP.seq ?_
  refine WP.path tab_ok mixed [] [.keep [4, 0, 1], .keepO [500]] (ps := []) (e := .normal) (σ' := ⟨[500], [(4, vi 0), (0, V.ref 500 0), (1, vi x3)], [(500, oc 151 [ty x0, ti x1, T.int .u64 x2])]⟩) (by kernel_rfl) trivial ?_
  refine WP.seq ?_
  refine WP.seq ?_
  refine WP.path tab_ok mixed [] [.keep [7, 4, 0, 1], .keepO [500]] (ps := [(True)]) (e := .normal) (σ' := ⟨[500], [(7, vb (decide (x3 ≤ (1 : Int)))), (4, vi 0), (0, V.ref 500 0), (1, vi x3)], [(500, oc 151 [ty x0, ti x1, T.int .u64 x2])]⟩) (by kernel_rfl) ⟨trivial, trivial⟩ ?_
  rcases ite_some h with ⟨h1, h⟩ | ⟨h1, h⟩
  · -- yes
    refine WP.cond (b := decide (x3 ≤ (1 : Int))) rfl (fun _ => ?_) (fun hh => by rw [h1] at hh; cases hh)
    simp only [Option.some.injEq, Prod.mk.injEq] at h
    obtain ⟨rfl, rfl, rfl, rfl⟩ := h
    exact WP.pathG tab_ok mixed [] [.keep [4], .keepO [500], .names [(500, 500)]] [500] _ (r' := vi (0 : Int)) (ps := []) (r := vi 0) (N := [500]) (O := [(500, oc 151 [ty x0, ti x1, T.int .u64 x2])]) [] (by kernel_rfl) trivial ⟨(WkT.eq (WkT.refl _) (by first | rfl | (simp only [tlS, tl, vl, vo, oc, ov, tbl, vbl, ty, vy]; done) | (simp only [tlS, tl, vl, vo, oc, ov, tbl, vbl, ty, vy]; rfl) | (simp; done) | (simp []; done) | (rw [List.take_of_length_le (by simp [])]; done) | (rw [List.take_of_length_le (by simp [])]; rfl) | (simp only [tlL]; omega) | (simp; omega))), trivial⟩ rfl rfl (fun _ h => h)
  · -- no
    refine WP.cond (b := decide (x3 ≤ (1 : Int))) rfl (fun hh => by rw [h1] at hh; cases hh) (fun _ => ?_)
    refine WP.path tab_ok mixed [] [.keep [4, 0, 1], .keepO [500]] (ps := []) (e := .normal) (σ' := ⟨[500], [(4, vi 0), (0, V.ref 500 0), (1, vi x3)], [(500, oc 151 [ty x0, ti x1, T.int .u64 x2])]⟩) (by kernel_rfl) trivial ?_
    refine WP.seq ?_
    obtain ⟨r9, r9b, r9c, r9d, c0, h⟩ := bnd4_some h
    refine WP.path tab_ok mixed [(9, An.callG [(500, 500)] [V.ref 500 0] [(500, oc 151 [ty x0, ti x1, T.int .u64 x2])] (vi r9) [(500, oc 151 [ty r9b, ti r9c, T.int .u64 r9d])])] [.keep [5, 4, 0, 1], .keepO [500]] (ps := [(CG Try.prog 245 [V.ref 500 0] [(500, oc 151 [ty x0, ti x1, T.int .u64 x2])] (vi r9) [(500, oc 151 [ty r9b, ti r9c, T.int .u64 r9d])]), ((V.ref 500 0).ren (renF [(500, 500)]) = V.ref 500 0), ((oc 151 [ty x0, ti x1, T.int .u64 x2]) = (oc 151 [ty x0, ti x1, T.int .u64 x2]).ren (renF [(500, 500)]))]) (e := .normal) (σ' := ⟨[500], [(5, vi r9), (4, vi 0), (0, V.ref 500 0), (1, vi x3)], [(500, oc 151 [ty r9b, ti r9c, T.int .u64 r9d])]⟩) (by kernel_rfl) ⟨(F_p_spec_l1Cur_next_W x0 x1 x2 r9 r9b r9c r9d c0), by first | rfl | (simp [V.ren, V.renL, renF, lk]; done) | (simp [V.ren, V.renL, renF, lk]; omega), by first | rfl | (simp only [tlS]; rfl) | (simp [Tl.Obj.ren, V.ren, V.renL, renF, lk]; done), trivial⟩ ?_
    obtain ⟨J1, hJ1, h⟩ := jn_some h
    refine WP.joinA (fun (zz : (List Int) × Int × Int × Int) => ⟨[500], [(5, vi zz.2.2.2), (4, vi 0), (1, vi x3)], [(500, oc 151 [ty zz.1, ti zz.2.1, T.int .u64 zz.2.2.1])]⟩) (fun zz => J1 zz.1 zz.2.1 zz.2.2.1 zz.2.2.2 = some (y0, y1, y2, y3)) ?_ ?_
    · -- to where they meet
      refine WP.seq ?_
      refine WP.path tab_ok mixed [] [.keep [11, 5, 4, 0, 1], .keepO [500]] (ps := [(True)]) (e := .normal) (σ' := ⟨[500], [(11, vb (decide (x3 > (200 : Int)))), (5, vi r9), (4, vi 0), (0, V.ref 500 0), (1, vi x3)], [(500, oc 151 [ty r9b, ti r9c, T.int .u64 r9d])]⟩) (by kernel_rfl) ⟨trivial, trivial⟩ ?_
      rcases ite_some h with ⟨h2, h⟩ | ⟨h2, h⟩
      · -- yes
        refine WP.cond (b := decide (x3 > (200 : Int))) rfl (fun _ => ?_) (fun hh => by rw [h2] at hh; cases hh)
        obtain ⟨c1, h⟩ := chk_some h
        obtain ⟨r15, r15b, r15c, r15d, c2, h⟩ := bnd4_some h
        obtain ⟨c3, h⟩ := chk_some h
        refine WP.path tab_ok mixed [(13, An.v (T.int .i64 (r9 * (256 : Int)))), (15, An.callG [(500, 500)] [V.ref 500 0] [(500, oc 151 [ty r9b, ti r9c, T.int .u64 r9d])] (vi r15) [(500, oc 151 [ty r15b, ti r15c, T.int .u64 r15d])]), (16, An.v (T.int .i64 ((r9 * (256 : Int)) + r15)))] [.keep [5, 4, 1], .keepO [500], .names [(500, 500)]] (ps := [(True), (T.int .i64 (IntKind.wrap .i64 (r9 * (256 : Int))) = T.int .i64 (r9 * (256 : Int))), (CG Try.prog 245 [V.ref 500 0] [(500, oc 151 [ty r9b, ti r9c, T.int .u64 r9d])] (vi r15) [(500, oc 151 [ty r15b, ti r15c, T.int .u64 r15d])]), ((V.ref 500 0).ren (renF [(500, 500)]) = V.ref 500 0), ((oc 151 [ty r9b, ti r9c, T.int .u64 r9d]) = (oc 151 [ty r9b, ti r9c, T.int .u64 r9d]).ren (renF [(500, 500)])), (True), (T.int .i64 (IntKind.wrap .i64 ((r9 * (256 : Int)) + r15)) = T.int .i64 ((r9 * (256 : Int)) + r15))]) (e := .normal) (σ' := ⟨[500], [(5, vi ((r9 * (256 : Int)) + r15)), (4, vi 0), (1, vi x3)], [(500, oc 151 [ty r15b, ti r15c, T.int .u64 r15d])]⟩) (by kernel_rfl) ⟨trivial, wrapI c1, (F_p_spec_l1Cur_next_W r9b r9c r9d r15 r15b r15c r15d c2), by first | rfl | (simp [V.ren, V.renL, renF, lk]; done) | (simp [V.ren, V.renL, renF, lk]; omega), by first | rfl | (simp only [tlS]; rfl) | (simp [Tl.Obj.ren, V.ren, V.renL, renF, lk]; done), trivial, wrapI c3, trivial⟩ ?_
        exact ⟨(r15b, r15c, r15d, ((r9 * (256 : Int)) + r15)), h, rfl⟩
      · -- no
        refine WP.cond (b := decide (x3 > (200 : Int))) rfl (fun hh => by rw [h2] at hh; cases hh) (fun _ => ?_)
        refine WP.path tab_ok mixed [] [.keep [5, 4, 1], .keepO [500], .names [(500, 500)]] (ps := []) (e := .normal) (σ' := ⟨[500], [(5, vi r9), (4, vi 0), (1, vi x3)], [(500, oc 151 [ty r9b, ti r9c, T.int .u64 r9d])]⟩) (by kernel_rfl) trivial ?_
        exact ⟨(r9b, r9c, r9d, r9), h, rfl⟩
    · -- from there
      rintro ⟨o500, o500b, o500c, v5⟩ h0
      have h := (show J1 o500 o500b o500c v5 = some (y0, y1, y2, y3) from h0)
      rw [hJ1] at h
      obtain ⟨c1, h⟩ := chk_some h
      simp only [Option.some.injEq, Prod.mk.injEq] at h
      obtain ⟨rfl, rfl, rfl, rfl⟩ := h
      exact WP.pathG tab_ok mixed [] [.keep [4], .keepO [500], .names [(500, 500)]] [500] _ (r' := vi (Int.tmod v5 x3)) (ps := [(x3 ≠ 0)]) (r := vi (Int.tmod v5 x3)) (N := [500]) (O := [(500, oc 151 [ty o500, ti o500b, T.int .u64 o500c])]) [] (by kernel_rfl) ⟨c1, trivial⟩ ⟨(WkT.refl _), trivial⟩ rfl rfl (fun _ h => h)
theorem F_p_spec_l1Cur_among_W (x0 : List Int) (x1 : Int) (x2 : Int) (x3 : List Int) (y0 : Int) (y1 : List Int) (y2 : Int) (y3 : Int) (h : F_p_spec_l1Cur_among x0 x1 x2 x3 = some (y0, y1, y2, y3)) : CG Try.prog 172 [V.ref 500 0, vl x3] [(500, oc 151 [ty x0, ti x1, T.int .u64 x2])] (vi y0) [(500, oc 151 [ty y1, ti y2, T.int .u64 y3])] := by
  unfold F_p_spec_l1Cur_among at h
  refine CG.intro (tab := tab) tab_ok (fn := Try.f172) Try.func172 (by kernel_rfl) rfl (Nat.le_of_ble_eq_true rfl) (by kernel_rfl) ?_
  obtain ⟨r9, r9b, r9c, r9d, c0, h⟩ := bnd4_some h
  obtain ⟨c1, h⟩ := chk_some h
  simp only [Option.some.injEq, Prod.mk.injEq] at h
  obtain ⟨rfl, rfl, rfl, rfl⟩ := h
  exact WP.pathG tab_ok mixed [(9, An.callG [(500, 500)] [V.ref 500 0, vi ((List.length x3 : Nat) : Int)] [(500, oc 151 [ty x0, ti x1, T.int .u64 x2])] (vi r9) [(500, oc 151 [ty r9b, ti r9c, T.int .u64 r9d])]), (11, An.v (ti (List.getD x3 (Int.toNat r9) 0)))] [.keep [4], .keepO [500], .names [(500, 500)]] [500] _ (r' := vi (List.getD x3 (Int.toNat r9) 0)) (ps := [(CG Try.prog 154 [V.ref 500 0, vi ((List.length x3 : Nat) : Int)] [(500, oc 151 [ty x0, ti x1, T.int .u64 x2])] (vi r9) [(500, oc 151 [ty r9b, ti r9c, T.int .u64 r9d])]), ((V.ref 500 0).ren (renF [(500, 500)]) = V.ref 500 0), (WkT (ti ((List.length x3 : Nat) : Int)) (ti ((List.length x3 : Nat) : Int))), ((oc 151 [ty x0, ti x1, T.int .u64 x2]) = (oc 151 [ty x0, ti x1, T.int .u64 x2]).ren (renF [(500, 500)])), ((0 ≤ r9 ∧ r9 < ((List.length x3 : Nat) : Int))), ((List.drop ((Int.toNat r9) * 1) (List.map (T.int .i64) x3) : List T)[0]? = some (ti (List.getD x3 (Int.toNat r9) 0))), (ti (List.getD x3 (Int.toNat r9) 0) = ti (List.getD x3 (Int.toNat r9) 0))]) (r := vi (List.getD x3 (Int.toNat r9) 0)) (N := [500]) (O := [(500, oc 151 [ty r9b, ti r9c, T.int .u64 r9d])]) [] (by kernel_rfl) ⟨(F_p_spec_l1Cur_pick_W x0 x1 x2 ((List.length x3 : Nat) : Int) r9 r9b r9c r9d c0), by first | rfl | (simp [V.ren, V.renL, renF, lk]; done) | (simp [V.ren, V.renL, renF, lk]; omega), WkT.refl _, by first | rfl | (simp only [tlS]; rfl) | (simp [Tl.Obj.ren, V.ren, V.renL, renF, lk]; done), c1, at1 (by simp) (by omega), rfl, trivial⟩ ⟨(WkT.refl _), trivial⟩ rfl rfl (fun _ h => h)
theorem F_p_spec_l1Cur_many_W (x0 : List Int) (x1 : Int) (x2 : Int) (y0 : Int) (y1 : List Int) (y2 : Int) (y3 : Int) (h : F_p_spec_l1Cur_many x0 x1 x2 = some (y0, y1, y2, y3)) : CG Try.prog 147 [V.ref 500 0] [(500, oc 151 [ty x0, ti x1, T.int .u64 x2])] (vi y0) [(500, oc 151 [ty y1, ti y2, T.int .u64 y3])] := by
  unfold F_p_spec_l1Cur_many at h
  refine CG.intro (tab := tab) tab_ok (fn := Try.f147) Try.func147 (by kernel_rfl) rfl (Nat.le_of_ble_eq_true rfl) (by kernel_rfl) ?_
  obtain ⟨r5, r5b, r5c, r5d, c0, h⟩ := bnd4_some h
  simp only [Option.some.injEq, Prod.mk.injEq] at h
  obtain ⟨rfl, rfl, rfl, rfl⟩ := h
  exact WP.pathG tab_ok mixed [(4, An.fz), (5, An.callG [(500, 500)] [V.ref 500 0, vl [(4 : Int), (6 : Int), (8 : Int), (3 : Int), (5 : Int), (2 : Int), (7 : Int), (12 : Int), (1 : Int), (0 : Int), (13 : Int), (4 : Int), (6 : Int), (8 : Int), (3 : Int), (5 : Int)]] [(500, oc 151 [ty x0, ti x1, T.int .u64 x2])] (vi r5) [(500, oc 151 [ty r5b, ti r5c, T.int .u64 r5d])])] [.keep [2], .keepO [500], .names [(500, 500)]] [500] _ (r' := vi r5) (ps := [((1 = 1 ∧ 0 + 1 ≤ 16) ∧ (1 = 1 ∧ 1 + 1 ≤ 16) ∧ (1 = 1 ∧ 2 + 1 ≤ 16) ∧ (1 = 1 ∧ 3 + 1 ≤ 16) ∧ (1 = 1 ∧ 4 + 1 ≤ 16) ∧ (1 = 1 ∧ 5 + 1 ≤ 16) ∧ (1 = 1 ∧ 6 + 1 ≤ 16) ∧ (1 = 1 ∧ 7 + 1 ≤ 16) ∧ (1 = 1 ∧ 8 + 1 ≤ 16) ∧ (1 = 1 ∧ 9 + 1 ≤ 16) ∧ (1 = 1 ∧ 10 + 1 ≤ 16) ∧ (1 = 1 ∧ 11 + 1 ≤ 16) ∧ (1 = 1 ∧ 12 + 1 ≤ 16) ∧ (1 = 1 ∧ 13 + 1 ≤ 16) ∧ (1 = 1 ∧ 14 + 1 ≤ 16) ∧ (1 = 1 ∧ 15 + 1 ≤ 16) ∧ True), (16 = 16 * 1), (CG Try.prog 172 [V.ref 500 0, vl [(4 : Int), (6 : Int), (8 : Int), (3 : Int), (5 : Int), (2 : Int), (7 : Int), (12 : Int), (1 : Int), (0 : Int), (13 : Int), (4 : Int), (6 : Int), (8 : Int), (3 : Int), (5 : Int)]] [(500, oc 151 [ty x0, ti x1, T.int .u64 x2])] (vi r5) [(500, oc 151 [ty r5b, ti r5c, T.int .u64 r5d])]), ((V.ref 500 0).ren (renF [(500, 500)]) = V.ref 500 0), (WkT (T.list 16 1 [ti 4, ti 6, ti 8, ti 3, ti 5, ti 2, ti 7, ti 12, ti 1, ti 0, ti 13, ti 4, ti 6, ti 8, ti 3, ti 5]) (tl [(4 : Int), (6 : Int), (8 : Int), (3 : Int), (5 : Int), (2 : Int), (7 : Int), (12 : Int), (1 : Int), (0 : Int), (13 : Int), (4 : Int), (6 : Int), (8 : Int), (3 : Int), (5 : Int)])), ((oc 151 [ty x0, ti x1, T.int .u64 x2]) = (oc 151 [ty x0, ti x1, T.int .u64 x2]).ren (renF [(500, 500)]))]) (r := vi r5) (N := [500]) (O := [(500, oc 151 [ty r5b, ti r5c, T.int .u64 r5d])]) [] (by kernel_rfl) ⟨⟨⟨by first | rfl | (simp; done) | (simp []; done) | omega, by first | decide | (simp; done) | (simp []; done) | omega | (simp only [tlL]; omega) | (simp; omega)⟩, ⟨by first | rfl | (simp; done) | (simp []; done) | omega, by first | decide | (simp; done) | (simp []; done) | omega | (simp only [tlL]; omega) | (simp; omega)⟩, ⟨by first | rfl | (simp; done) | (simp []; done) | omega, by first | decide | (simp; done) | (simp []; done) | omega | (simp only [tlL]; omega) | (simp; omega)⟩, ⟨by first | rfl | (simp; done) | (simp []; done) | omega, by first | decide | (simp; done) | (simp []; done) | omega | (simp only [tlL]; omega) | (simp; omega)⟩, ⟨by first | rfl | (simp; done) | (simp []; done) | omega, by first | decide | (simp; done) | (simp []; done) | omega | (simp only [tlL]; omega) | (simp; omega)⟩, ⟨by first | rfl | (simp; done) | (simp []; done) | omega, by first | decide | (simp; done) | (simp []; done) | omega | (simp only [tlL]; omega) | (simp; omega)⟩, ⟨by first | rfl | (simp; done) | (simp []; done) | omega, by first | decide | (simp; done) | (simp []; done) | omega | (simp only [tlL]; omega) | (simp; omega)⟩, ⟨by first | rfl | (simp; done) | (simp []; done) | omega, by first | decide | (simp; done) | (simp []; done) | omega | (simp only [tlL]; omega) | (simp; omega)⟩, ⟨by first | rfl | (simp; done) | (simp []; done) | omega, by first | decide | (simp; done) | (simp []; done) | omega | (simp only [tlL]; omega) | (simp; omega)⟩, ⟨by first | rfl | (simp; done) | (simp []; done) | omega, by first | decide | (simp; done) | (simp []; done) | omega | (simp only [tlL]; omega) | (simp; omega)⟩, ⟨by first | rfl | (simp; done) | (simp []; done) | omega, by first | decide | (simp; done) | (simp []; done) | omega | (simp only [tlL]; omega) | (simp; omega)⟩, ⟨by first | rfl | (simp; done) | (simp []; done) | omega, by first | decide | (simp; done) | (simp []; done) | omega | (simp only [tlL]; omega) | (simp; omega)⟩, ⟨by first | rfl | (simp; done) | (simp []; done) | omega, by first | decide | (simp; done) | (simp []; done) | omega | (simp only [tlL]; omega) | (simp; omega)⟩, ⟨by first | rfl | (simp; done) | (simp []; done) | omega, by first | decide | (simp; done) | (simp []; done) | omega | (simp only [tlL]; omega) | (simp; omega)⟩, ⟨by first | rfl | (simp; done) | (simp []; done) | omega, by first | decide | (simp; done) | (simp []; done) | omega | (simp only [tlL]; omega) | (simp; omega)⟩, ⟨by first | rfl | (simp; done) | (simp []; done) | omega, by first | decide | (simp; done) | (simp []; done) | omega | (simp only [tlL]; omega) | (simp; omega)⟩, trivial⟩, by decide, (F_p_spec_l1Cur_among_W x0 x1 x2 [(4 : Int), (6 : Int), (8 : Int), (3 : Int), (5 : Int), (2 : Int), (7 : Int), (12 : Int), (1 : Int), (0 : Int), (13 : Int), (4 : Int), (6 : Int), (8 : Int), (3 : Int), (5 : Int)] r5 r5b r5c r5d c0), by first | rfl | (simp [V.ren, V.renL, renF, lk]; done) | (simp [V.ren, V.renL, renF, lk]; omega), WkT.eq (WkT.refl _) (by first | rfl | (simp only [tlS, tl, vl, vo, oc, ov, tbl, vbl, ty, vy]; done) | (simp only [tlS, tl, vl, vo, oc, ov, tbl, vbl, ty, vy]; rfl) | (simp; done) | (simp []; done) | (rw [List.take_of_length_le (by simp [])]; done) | (rw [List.take_of_length_le (by simp [])]; rfl) | (simp only [tlL]; omega) | (simp; omega)), by first | rfl | (simp only [tlS]; rfl) | (simp [Tl.Obj.ren, V.ren, V.renL, renF, lk]; done), trivial⟩ ⟨(WkT.refl _), trivial⟩ rfl rfl (fun _ h => h)
theorem F_p_spec_l1Cur_one_W (x0 : List Int) (x1 : Int) (x2 : Int) (x3 : Int) (y0 : Bool) (y1 : List Int) (y2 : Int) (y3 : Int) (h : F_p_spec_l1Cur_one x0 x1 x2 x3 = some (y0, y1, y2, y3)) : CG Try.prog 205 [V.ref 500 0, vi x3] [(500, oc 151 [ty x0, ti x1, T.int .u64 x2])] (vb y0) [(500, oc 151 [ty y1, ti y2, T.int .u64 y3])] := by
  unfold F_p_spec_l1Cur_one at h
  refine CG.intro (tab := tab) tab_ok (fn := Try.f205) Try.func205 (by kernel_rfl) rfl (Nat.le_of_ble_eq_true rfl) (by kernel_rfl) ?_
  obtain ⟨r7, r7b, r7c, r7d, c0, h⟩ := bnd4_some h
  simp only [Option.some.injEq, Prod.mk.injEq] at h
  obtain ⟨rfl, rfl, rfl, rfl⟩ := h
  exact WP.pathG tab_ok mixed [(7, An.callG [(500, 500)] [V.ref 500 0, vi x3] [(500, oc 151 [ty x0, ti x1, T.int .u64 x2])] (vi r7) [(500, oc 151 [ty r7b, ti r7c, T.int .u64 r7d])])] [.keep [4], .keepO [500], .names [(500, 500)]] [500] _ (r' := vb (r7 == (0 : Int))) (ps := [(CG Try.prog 154 [V.ref 500 0, vi x3] [(500, oc 151 [ty x0, ti x1, T.int .u64 x2])] (vi r7) [(500, oc 151 [ty r7b, ti r7c, T.int .u64 r7d])]), ((V.ref 500 0).ren (renF [(500, 500)]) = V.ref 500 0), (WkT (ti x3) (ti x3)), ((oc 151 [ty x0, ti x1, T.int .u64 x2]) = (oc 151 [ty x0, ti x1, T.int .u64 x2]).ren (renF [(500, 500)])), (True)]) (r := vb (r7 == (0 : Int))) (N := [500]) (O := [(500, oc 151 [ty r7b, ti r7c, T.int .u64 r7d])]) [] (by kernel_rfl) ⟨(F_p_spec_l1Cur_pick_W x0 x1 x2 x3 r7 r7b r7c r7d c0), by first | rfl | (simp [V.ren, V.renL, renF, lk]; done) | (simp [V.ren, V.renL, renF, lk]; omega), WkT.refl _, by first | rfl | (simp only [tlS]; rfl) | (simp [Tl.Obj.ren, V.ren, V.renL, renF, lk]; done), trivial, trivial⟩ ⟨(WkT.refl _), trivial⟩ rfl rfl (fun _ h => h)
theorem F_p_spec_l1Cur_question_W (x0 : List Int) (x1 : Int) (x2 : Int) (x3 : Int) (y0 : Int) (y1 : List Int) (y2 : Int) (y3 : Int) (h : F_p_spec_l1Cur_question x0 x1 x2 x3 = some (y0, y1, y2, y3)) : CG Try.prog 171 [V.ref 500 0, vi x3] [(500, oc 151 [ty x0, ti x1, T.int .u64 x2])] (vi y0) [(500, oc 151 [ty y1, ti y2, T.int .u64 y3])] := by
  unfold F_p_spec_l1Cur_question at h
  refine CG.intro (tab := tab) tab_ok (fn := Try.f171) Try.func171 (by kernel_rfl) rfl (Nat.le_of_ble_eq_true rfl) (by kernel_rfl) ?_
  refine WP.seq ?_
  refine WP.path tab_ok mixed [] [.keep [4, 0, 1], .keepO [500]] (ps := []) (e := .normal) (σ' := ⟨[500], [(4, vi 0), (0, V.ref 500 0), (1, vi x3)], [(500, oc 151 [ty x0, ti x1, T.int .u64 x2])]⟩) (by kernel_rfl) trivial ?_
  refine WP.seq ?_
  refine WP.seq ?_
  obtain ⟨r6, r6b, r6c, r6d, c0, h⟩ := bnd4_some h
  refine WP.path tab_ok mixed [(6, An.callG [(500, 500)] [V.ref 500 0, vi 24] [(500, oc 151 [ty x0, ti x1, T.int .u64 x2])] (vb r6) [(500, oc 151 [ty r6b, ti r6c, T.int .u64 r6d])])] [.keep [6, 4, 0, 1], .keepO [500]] (ps := [(CG Try.prog 205 [V.ref 500 0, vi 24] [(500, oc 151 [ty x0, ti x1, T.int .u64 x2])] (vb r6) [(500, oc 151 [ty r6b, ti r6c, T.int .u64 r6d])]), ((V.ref 500 0).ren (renF [(500, 500)]) = V.ref 500 0), (WkT (ti 24) (ti 24)), ((oc 151 [ty x0, ti x1, T.int .u64 x2]) = (oc 151 [ty x0, ti x1, T.int .u64 x2]).ren (renF [(500, 500)]))]) (e := .normal) (σ' := ⟨[500], [(6, vb r6), (4, vi 0), (0, V.ref 500 0), (1, vi x3)], [(500, oc 151 [ty r6b, ti r6c, T.int .u64 r6d])]⟩) (by kernel_rfl) ⟨(F_p_spec_l1Cur_one_W x0 x1 x2 (24 : Int) r6 r6b r6c r6d c0), by first | rfl | (simp [V.ren, V.renL, renF, lk]; done) | (simp [V.ren, V.renL, renF, lk]; omega), WkT.refl _, by first | rfl | (simp only [tlS]; rfl) | (simp [Tl.Obj.ren, V.ren, V.renL, renF, lk]; done), trivial⟩ ?_
  rcases ite_some h with ⟨h1, h⟩ | ⟨h1, h⟩
  · -- yes
    refine WP.cond (b := r6) rfl (fun _ => ?_) (fun hh => by rw [h1] at hh; cases hh)
    obtain ⟨c1, h⟩ := chk_some h
    obtain ⟨r13, r13b, r13c, r13d, c2, h⟩ := bnd4_some h
    simp only [Option.some.injEq, Prod.mk.injEq] at h
    obtain ⟨rfl, rfl, rfl, rfl⟩ := h
    exact WP.pathG tab_ok mixed [(9, An.call (ti (minN x3 (13 : Int)))), (10, An.call (ti (maxN (0 : Int) (minN x3 (13 : Int))))), (11, An.v (T.int .i64 ((1 : Int) * 2 ^ Int.toNat (maxN (0 : Int) (minN x3 (13 : Int)))))), (12, An.fz), (13, An.callG [(500, 500)] [V.ref 500 0, vl [(-1 : Int), ((1 : Int) * 2 ^ Int.toNat (maxN (0 : Int) (minN x3 (13 : Int)))), (4611686018427387904 : Int)]] [(500, oc 151 [ty r6b, ti r6c, T.int .u64 r6d])] (vi r13) [(500, oc 151 [ty r13b, ti r13c, T.int .u64 r13d])])] [.keep [4], .keepO [500], .names [(500, 500)]] [500] _ (r' := vi r13) (ps := [(C Try.prog 196 [ti x3, ti 13] (ti (minN x3 (13 : Int)))), (C Try.prog 155 [ti 0, ti (minN x3 (13 : Int))] (ti (maxN (0 : Int) (minN x3 (13 : Int))))), (0 ≤ (maxN (0 : Int) (minN x3 (13 : Int)))), (T.int .i64 (IntKind.wrap .i64 ((1 : Int) * 2 ^ (min (Int.toNat (maxN (0 : Int) (minN x3 (13 : Int)))) 64))) = T.int .i64 ((1 : Int) * 2 ^ Int.toNat (maxN (0 : Int) (minN x3 (13 : Int))))), ((1 = 1 ∧ 0 + 1 ≤ 3) ∧ (1 = 1 ∧ 1 + 1 ≤ 3) ∧ (1 = 1 ∧ 2 + 1 ≤ 3) ∧ True), (3 = 3 * 1), (CG Try.prog 172 [V.ref 500 0, vl [(-1 : Int), ((1 : Int) * 2 ^ Int.toNat (maxN (0 : Int) (minN x3 (13 : Int)))), (4611686018427387904 : Int)]] [(500, oc 151 [ty r6b, ti r6c, T.int .u64 r6d])] (vi r13) [(500, oc 151 [ty r13b, ti r13c, T.int .u64 r13d])]), ((V.ref 500 0).ren (renF [(500, 500)]) = V.ref 500 0), (WkT (T.list 3 1 [ti (-1), ti ((1 : Int) * 2 ^ Int.toNat (maxN (0 : Int) (minN x3 (13 : Int)))), ti 4611686018427387904]) (tl [(-1 : Int), ((1 : Int) * 2 ^ Int.toNat (maxN (0 : Int) (minN x3 (13 : Int)))), (4611686018427387904 : Int)])), ((oc 151 [ty r6b, ti r6c, T.int .u64 r6d]) = (oc 151 [ty r6b, ti r6c, T.int .u64 r6d]).ren (renF [(500, 500)]))]) (r := vi r13) (N := [500]) (O := [(500, oc 151 [ty r13b, ti r13c, T.int .u64 r13d])]) [] (by kernel_rfl) ⟨(by have hh := (l1Least_C x3 (13 : Int)); simpa using hh), (by have hh := (l1Most_C (0 : Int) (minN x3 (13 : Int))); simpa using hh), c1.1, shl_told c1, ⟨⟨by first | rfl | (simp; done) | (simp []; done) | omega, by first | decide | (simp; done) | (simp []; done) | omega | (simp only [tlL]; omega) | (simp; omega)⟩, ⟨by first | rfl | (simp; done) | (simp []; done) | omega, by first | decide | (simp; done) | (simp []; done) | omega | (simp only [tlL]; omega) | (simp; omega)⟩, ⟨by first | rfl | (simp; done) | (simp []; done) | omega, by first | decide | (simp; done) | (simp []; done) | omega | (simp only [tlL]; omega) | (simp; omega)⟩, trivial⟩, by decide, (F_p_spec_l1Cur_among_W r6b r6c r6d [(-1 : Int), ((1 : Int) * 2 ^ Int.toNat (maxN (0 : Int) (minN x3 (13 : Int)))), (4611686018427387904 : Int)] r13 r13b r13c r13d c2), by first | rfl | (simp [V.ren, V.renL, renF, lk]; done) | (simp [V.ren, V.renL, renF, lk]; omega), WkT.eq (WkT.refl _) (by first | rfl | (simp only [tlS, tl, vl, vo, oc, ov, tbl, vbl, ty, vy]; done) | (simp only [tlS, tl, vl, vo, oc, ov, tbl, vbl, ty, vy]; rfl) | (simp; done) | (simp []; done) | (rw [List.take_of_length_le (by simp [])]; done) | (rw [List.take_of_length_le (by simp [])]; rfl) | (simp only [tlL]; omega) | (simp; omega)), by first | rfl | (simp only [tlS]; rfl) | (simp [Tl.Obj.ren, V.ren, V.renL, renF, lk]; done), trivial⟩ ⟨(WkT.refl _), trivial⟩ rfl rfl (fun _ h => h)
  · -- no
    refine WP.cond (b := r6) rfl (fun hh => by rw [h1] at hh; cases hh) (fun _ => ?_)
    refine WP.path tab_ok mixed [] [.keep [4, 0, 1], .keepO [500]] (ps := []) (e := .normal) (σ' := ⟨[500], [(4, vi 0), (0, V.ref 500 0), (1, vi x3)], [(500, oc 151 [ty r6b, ti r6c, T.int .u64 r6d])]⟩) (by kernel_rfl) trivial ?_
    obtain ⟨c1, h⟩ := chk_some h
    obtain ⟨r19, r19b, r19c, r19d, c2, h⟩ := bnd4_some h
    simp only [Option.some.injEq, Prod.mk.injEq] at h
    obtain ⟨rfl, rfl, rfl, rfl⟩ := h
    exact WP.pathG tab_ok mixed [(16, An.call (ti (minN x3 (12 : Int)))), (17, An.call (ti (maxN (0 : Int) (minN x3 (12 : Int))))), (18, An.v (T.int .i64 ((1 : Int) * 2 ^ Int.toNat (maxN (0 : Int) (minN x3 (12 : Int)))))), (19, An.callG [(500, 500)] [V.ref 500 0, vi ((1 : Int) * 2 ^ Int.toNat (maxN (0 : Int) (minN x3 (12 : Int))))] [(500, oc 151 [ty r6b, ti r6c, T.int .u64 r6d])] (vi r19) [(500, oc 151 [ty r19b, ti r19c, T.int .u64 r19d])])] [.keep [4], .keepO [500], .names [(500, 500)]] [500] _ (r' := vi r19) (ps := [(C Try.prog 196 [ti x3, ti 12] (ti (minN x3 (12 : Int)))), (C Try.prog 155 [ti 0, ti (minN x3 (12 : Int))] (ti (maxN (0 : Int) (minN x3 (12 : Int))))), (0 ≤ (maxN (0 : Int) (minN x3 (12 : Int)))), (T.int .i64 (IntKind.wrap .i64 ((1 : Int) * 2 ^ (min (Int.toNat (maxN (0 : Int) (minN x3 (12 : Int)))) 64))) = T.int .i64 ((1 : Int) * 2 ^ Int.toNat (maxN (0 : Int) (minN x3 (12 : Int))))), (CG Try.prog 154 [V.ref 500 0, vi ((1 : Int) * 2 ^ Int.toNat (maxN (0 : Int) (minN x3 (12 : Int))))] [(500, oc 151 [ty r6b, ti r6c, T.int .u64 r6d])] (vi r19) [(500, oc 151 [ty r19b, ti r19c, T.int .u64 r19d])]), ((V.ref 500 0).ren (renF [(500, 500)]) = V.ref 500 0), (WkT (ti ((1 : Int) * 2 ^ Int.toNat (maxN (0 : Int) (minN x3 (12 : Int))))) (ti ((1 : Int) * 2 ^ Int.toNat (maxN (0 : Int) (minN x3 (12 : Int)))))), ((oc 151 [ty r6b, ti r6c, T.int .u64 r6d]) = (oc 151 [ty r6b, ti r6c, T.int .u64 r6d]).ren (renF [(500, 500)]))]) (r := vi r19) (N := [500]) (O := [(500, oc 151 [ty r19b, ti r19c, T.int .u64 r19d])]) [] (by kernel_rfl) ⟨(by have hh := (l1Least_C x3 (12 : Int)); simpa using hh), (by have hh := (l1Most_C (0 : Int) (minN x3 (12 : Int))); simpa using hh), c1.1, shl_told c1, (F_p_spec_l1Cur_pick_W r6b r6c r6d ((1 : Int) * 2 ^ Int.toNat (maxN (0 : Int) (minN x3 (12 : Int)))) r19 r19b r19c r19d c2), by first | rfl | (simp [V.ren, V.renL, renF, lk]; done) | (simp [V.ren, V.renL, renF, lk]; omega), WkT.refl _, by first | rfl | (simp only [tlS]; rfl) | (simp [Tl.Obj.ren, V.ren, V.renL, renF, lk]; done), trivial⟩ ⟨(WkT.refl _), trivial⟩ rfl rfl (fun _ h => h)
theorem F_spec_DrawOtherQuestion_W (x0 : List Int) (y0 : Int) (y1 : Int) (h : F_spec_DrawOtherQuestion x0 = some (y0, y1)) : C Try.prog 88 [ty x0] (T.tup [ti y0, ti y1]) := by
  unfold F_spec_DrawOtherQuestion at h
  refine C.intro (tab := tab) tab_ok (fn := Try.f88) Try.func88 (by kernel_rfl) rfl (Nat.le_of_ble_eq_true rfl) ?_
  obtain ⟨r10, r10b, r10c, r10d, c0, h⟩ := bnd4_some h
  obtain ⟨r14, r14b, r14c, r14d, c1, h⟩ := bnd4_some h
  simp only [Option.some.injEq, Prod.mk.injEq] at h
  obtain ⟨rfl, rfl⟩ := h
  exact WP.pathW tab_ok mixed [(8, An.id 2008), (10, An.callG [(500, 2008)] [V.ref 500 0] [(500, oc 151 [ty x0, ti 0, T.int .u64 0])] (vi r10) [(500, oc 151 [ty r10b, ti r10c, T.int .u64 r10d])]), (14, An.callG [(500, 2008)] [V.ref 500 0, vi r10] [(500, oc 151 [ty r10b, ti r10c, T.int .u64 r10d])] (vi r14) [(500, oc 151 [ty r14b, ti r14c, T.int .u64 r14d])])] _ (ps := [((1 = 1 ∧ 0 + 1 ≤ 3) ∧ True), (CG Try.prog 147 [V.ref 500 0] [(500, oc 151 [ty x0, ti 0, T.int .u64 0])] (vi r10) [(500, oc 151 [ty r10b, ti r10c, T.int .u64 r10d])]), ((V.ref 500 0).ren (renF [(500, 2008)]) = V.ref 2008 0), ((oc 151 [ty x0, ti 0, T.int .u64 0]) = (oc 151 [ty x0, ti 0, T.int .u64 0]).ren (renF [(500, 2008)])), (CG Try.prog 171 [V.ref 500 0, vi r10] [(500, oc 151 [ty r10b, ti r10c, T.int .u64 r10d])] (vi r14) [(500, oc 151 [ty r14b, ti r14c, T.int .u64 r14d])]), ((V.ref 500 0).ren (renF [(500, 2008)]) = V.ref 2008 0), (WkT (ti r10) (ti r10)), ((oc 151 [ty r10b, ti r10c, T.int .u64 r10d]) = (oc 151 [ty r10b, ti r10c, T.int .u64 r10d]).ren (renF [(500, 2008)]))]) (r := T.tup [ti r10, ti r14]) (by kernel_rfl) ⟨⟨⟨by first | rfl | (simp; done) | (simp []; done) | omega, by first | decide | (simp; done) | (simp []; done) | omega | (simp only [tlL]; omega) | (simp; omega)⟩, trivial⟩, (F_p_spec_l1Cur_many_W x0 (0 : Int) (0 : Int) r10 r10b r10c r10d c0), by first | rfl | (simp [V.ren, V.renL, renF, lk]; done) | (simp [V.ren, V.renL, renF, lk]; omega), by first | rfl | (simp only [tlS]; rfl) | (simp [Tl.Obj.ren, V.ren, V.renL, renF, lk]; done), (F_p_spec_l1Cur_question_W r10b r10c r10d r10 r14 r14b r14c r14d c1), by first | rfl | (simp [V.ren, V.renL, renF, lk]; done) | (simp [V.ren, V.renL, renF, lk]; omega), WkT.refl _, by first | rfl | (simp only [tlS]; rfl) | (simp [Tl.Obj.ren, V.ren, V.renL, renF, lk]; done), trivial⟩ (WkT.eq (y := T.tup [ti r10, ti r14]) (WkT.refl _) rfl) (fun _ h => h)
theorem F_spec_OtherQuestion_W (x0 : Int) (x1 : Int) (y0 : Int) (y1 : Bool) (h : F_spec_OtherQuestion x0 x1 = some (y0, y1)) : C Try.prog 90 [ti x0, ti x1] (T.tup [ti y0, tb y1]) := by
  unfold F_spec_OtherQuestion at h
  refine C.intro (tab := tab) tab_ok (fn := Try.f90) Try.func90 (by kernel_rfl) rfl (Nat.le_of_ble_eq_true rfl) ?_
  refine WP.seq ?_
  refine WP.path tab_ok mixed [] [.keep [5, 4, 0, 1], .keepO []] (ps := []) (e := .normal) (σ' := ⟨[], [(5, vb false), (4, vi 0), (0, vi x0), (1, vi x1)], []⟩) (by kernel_rfl) trivial ?_
  refine WP.seq ?_
  refine WP.seq ?_
  refine WP.path tab_ok mixed [(8, An.call (tb (isQ x0 x1)))] [.keep [9, 5, 4, 0, 1], .keepO []] (ps := [(C Try.prog 176 [ti x0, ti x1] (tb (isQ x0 x1)))]) (e := .normal) (σ' := ⟨[], [(9, vb (!(isQ x0 x1))), (5, vb false), (4, vi 0), (0, vi x0), (1, vi x1)], []⟩) (by kernel_rfl) ⟨(l2Asks_C x0 x1), trivial⟩ ?_
  rcases ite_some h with ⟨h1, h⟩ | ⟨h1, h⟩
  · -- yes
    refine WP.cond (b := !(isQ x0 x1)) rfl (fun _ => ?_) (fun hh => by rw [h1] at hh; cases hh)
    simp only [Option.some.injEq, Prod.mk.injEq] at h
    obtain ⟨rfl, rfl⟩ := h
    exact WP.pathW tab_ok mixed [] _ (ps := []) (r := T.tup [ti 0, tb false]) (by kernel_rfl) trivial (WkT.eq (y := T.tup [ti 0, tb false]) (WkT.refl _) (by first | rfl | (simp only [tlS, tl, vl, vo, oc, ov, tbl, vbl, ty, vy]; done) | (simp only [tlS, tl, vl, vo, oc, ov, tbl, vbl, ty, vy]; rfl) | (simp; done) | (simp []; done) | (rw [List.take_of_length_le (by simp [])]; done) | (rw [List.take_of_length_le (by simp [])]; rfl) | (simp only [tlL]; omega) | (simp; omega))) (fun _ h => h)
  · -- no
    refine WP.cond (b := !(isQ x0 x1)) rfl (fun hh => by rw [h1] at hh; cases hh) (fun _ => ?_)
    refine WP.path tab_ok mixed [] [.keep [5, 4, 0, 1], .keepO []] (ps := []) (e := .normal) (σ' := ⟨[], [(5, vb false), (4, vi 0), (0, vi x0), (1, vi x1)], []⟩) (by kernel_rfl) trivial ?_
    obtain ⟨c0, h⟩ := chk_some h
    obtain ⟨c1, h⟩ := chk_some h
    obtain ⟨n12, c2, h⟩ := nam_some h
    obtain ⟨c3, h⟩ := chk_some h
    simp only [Option.some.injEq, Prod.mk.injEq] at h
    obtain ⟨rfl, rfl⟩ := h
    exact WP.pathW tab_ok mixed [(11, An.v (T.int .i64 ((1 : Int) * 2 ^ Int.toNat x0))), (12, An.v (ti n12)), (14, An.v (T.int .i64 (n12 - x1)))] _ (ps := [(0 ≤ x0), (T.int .i64 (IntKind.wrap .i64 ((1 : Int) * 2 ^ (min (Int.toNat x0) 64))) = T.int .i64 ((1 : Int) * 2 ^ Int.toNat x0)), (True), (T.int .i64 (IntKind.wrap .i64 (((1 : Int) * 2 ^ Int.toNat x0) - (1 : Int))) = ti n12), (True), (T.int .i64 (IntKind.wrap .i64 (n12 - x1)) = T.int .i64 (n12 - x1))]) (r := T.tup [ti (n12 - x1), tb true]) (by kernel_rfl) ⟨c0.1, shl_told c0, trivial, Eq.trans (wrapI c1) (congrArg (ti) c2), trivial, wrapI c3, trivial⟩ (WkT.eq (y := T.tup [ti (n12 - x1), tb true]) (WkT.refl _) rfl) (fun _ h => h)
theorem F_impl_NumbersOf_W (x0 : Int) (x1 : Int) (y0 : List Int) (y1 : Bool) (h : F_impl_NumbersOf x0 x1 = some (y0, y1)) : CG Try.prog 91 [vi x0, vi x1] [] (V.tup [vo 9000 (List.length y0), vb y1]) [(9000, oc 3 (List.map (T.int .i64) y0))] := by
  unfold F_impl_NumbersOf at h
  refine CG.intro (tab := tab) tab_ok (fn := Try.f91) Try.func91 (by kernel_rfl) rfl (Nat.le_of_ble_eq_true rfl) (by kernel_rfl) ?_
  refine WP.seq ?_
  refine WP.path tab_ok mixed [] [.keep [5, 4, 0, 1], .keepO []] (ps := []) (e := .normal) (σ' := ⟨[], [(5, vb false), (4, V.t (T.nils)), (0, vi x0), (1, vi x1)], []⟩) (by kernel_rfl) trivial ?_
  refine WP.seq ?_
  refine WP.seq ?_
  refine WP.path tab_ok mixed [(10, An.call (tb (isQ x0 x1)))] [.keep [11, 5, 4, 0, 1], .keepO []] (ps := [(C Try.prog 173 [ti x0, ti x1] (tb (isQ x0 x1)))]) (e := .normal) (σ' := ⟨[], [(11, vb (!(isQ x0 x1))), (5, vb false), (4, V.t (T.nils)), (0, vi x0), (1, vi x1)], []⟩) (by kernel_rfl) ⟨(isQuestion_C x0 x1), trivial⟩ ?_
  rcases ite_some h with ⟨h1, h⟩ | ⟨h1, h⟩
  · -- yes
    refine WP.cond (b := !(isQ x0 x1)) rfl (fun _ => ?_) (fun hh => by rw [h1] at hh; cases hh)
    simp only [Option.some.injEq, Prod.mk.injEq] at h
    obtain ⟨rfl, rfl⟩ := h
    exact WP.pathG tab_ok mixed [] [.keep [4, 5], .keepO [], .names []] [] _ (r' := V.tup [vo 9000 (List.length ([] : List Int)), vb false]) (ps := []) (r := V.t (T.tup [T.nils, tb false])) (N := []) (O := []) [(9000, 3)] (by kernel_rfl) trivial ⟨(by first | rfl | (simp; done)), (WkT.refl _), trivial⟩ rfl rfl (fun _ h => h)
  · -- no
    refine WP.cond (b := !(isQ x0 x1)) rfl (fun hh => by rw [h1] at hh; cases hh) (fun _ => ?_)
    refine WP.path tab_ok mixed [] [.keep [5, 4, 0, 1], .keepO []] (ps := []) (e := .normal) (σ' := ⟨[], [(5, vb false), (4, V.t (T.nils)), (0, vi x0), (1, vi x1)], []⟩) (by kernel_rfl) trivial ?_
    refine WP.seq ?_
    refine WP.path tab_ok mixed [(12, An.id 2012)] [.keep [6, 5, 4, 0, 1], .keepO [2012]] (ps := [(True), (0 = 0 * 1)]) (e := .normal) (σ' := ⟨[2012], [(6, vo 2012 0), (5, vb false), (4, V.t (T.nils)), (0, vi x0), (1, vi x1)], [(2012, oc 3 [])]⟩) (by kernel_rfl) ⟨trivial, by decide, trivial⟩ ?_
    obtain ⟨J1, hJ1, h⟩ := jn_some h
    refine WP.joinA (fun (zz : (List Int)) => ⟨[2012], [(6, vo 2012 (List.length zz)), (5, vb false), (4, V.t (T.nils))], [(2012, oc 3 (List.map (T.int .i64) zz))]⟩) (fun zz => J1 zz = some (y0, y1)) ?_ ?_
    · -- to where they meet
      refine WP.seq ?_
      refine WP.path tab_ok mixed [] [.keep [14, 13, 6, 5, 4, 1], .keepO [2012]] (ps := []) (e := .normal) (σ' := ⟨[2012], [(14, vi 0), (13, vi x0), (6, vo 2012 0), (5, vb false), (4, V.t (T.nils)), (1, vi x1)], [(2012, oc 3 [])]⟩) (by kernel_rfl) trivial ?_
      refine WP.block ?_
      refine WP.wk [.keep [14, 13, 6, 5, 4, 1], .keepO [2012], .names [(2012, 2012)]] (σ' := ⟨[2012], [(14, vi 0), (13, vi x0), (6, vo 2012 0), (5, vb false), (4, V.t (T.nils)), (1, vi x1)], [(2012, oc 3 [])]⟩) (ps := []) (by kernel_rfl) trivial ?_
      refine WP.st (σ' := ⟨[2012], [(14, vi (0 : Int)), (13, vi x0), (6, vo 2012 (List.length ([] : List Int))), (5, vb false), (4, V.t (T.nils)), (1, vi x1)], [(2012, oc 3 (List.map (T.int .i64) ([] : List Int)))]⟩) (by first | rfl | (simp only [tlS, tl, vl, vo, oc, ov, tbl, vbl, ty, vy]; done) | (simp only [tlS, tl, vl, vo, oc, ov, tbl, vbl, ty, vy]; rfl) | (simp; done) | (simp []; done) | (rw [List.take_of_length_le (by simp [])]; done) | (rw [List.take_of_length_le (by simp [])]; rfl) | (simp only [tlL]; omega) | (simp; omega)) ?_
      refine WP.loop (α := Nat × (List Int) × Int) (fun zz => ⟨[2012], [(14, vi zz.2.2), (13, vi x0), (6, vo 2012 (List.length zz.2.1)), (5, vb false), (4, V.t (T.nils)), (1, vi x1)], [(2012, oc 3 (List.map (T.int .i64) zz.2.1))]⟩) (fun zz => F_impl_NumbersOf_L1 x0 x1 J1 zz.1 zz.2.1 zz.2.2 = some (y0, y1)) (fun zz => zz.1) (fuel, ([] : List Int), (0 : Int)) h ?_
      rintro ⟨n, o12, v14⟩ h0
      have h := (show F_impl_NumbersOf_L1 x0 x1 J1 n o12 v14 = some (y0, y1) from h0)
      rcases n with _ | n
      · rw [F_impl_NumbersOf_L1] at h; cases h
      · rw [F_impl_NumbersOf_L1] at h
        refine WP.seq ?_
        refine WP.path tab_ok mixed [] [.keep [15, 14, 13, 6, 5, 4, 1], .keepO [2012]] (ps := [(True)]) (e := .normal) (σ' := ⟨[2012], [(15, vb (decide (v14 < x0))), (14, vi v14), (13, vi x0), (6, vo 2012 (List.length o12)), (5, vb false), (4, V.t (T.nils)), (1, vi x1)], [(2012, oc 3 (List.map (T.int .i64) o12))]⟩) (by kernel_rfl) ⟨trivial, trivial⟩ ?_
        refine WP.seq ?_
        rcases ite_some h with ⟨h2, h⟩ | ⟨h2, h⟩
        · -- yes
          refine WP.cond (b := decide (v14 < x0)) rfl (fun _ => ?_) (fun hh => by rw [h2] at hh; cases hh)
          refine WP.path tab_ok mixed [] [.keep [14, 13, 6, 5, 4, 1], .keepO [2012]] (ps := []) (e := .normal) (σ' := ⟨[2012], [(14, vi v14), (13, vi x0), (6, vo 2012 (List.length o12)), (5, vb false), (4, V.t (T.nils)), (1, vi x1)], [(2012, oc 3 (List.map (T.int .i64) o12))]⟩) (by kernel_rfl) trivial ?_
          refine WP.seq ?_
          refine WP.block ?_
          refine WP.seq ?_
          refine WP.path tab_ok mixed [] [.keep [7, 14, 13, 6, 5, 4, 1], .keepO [2012]] (ps := []) (e := .normal) (σ' := ⟨[2012], [(7, vi v14), (14, vi v14), (13, vi x0), (6, vo 2012 (List.length o12)), (5, vb false), (4, V.t (T.nils)), (1, vi x1)], [(2012, oc 3 (List.map (T.int .i64) o12))]⟩) (by kernel_rfl) trivial ?_
          refine WP.seq ?_
          obtain ⟨c0, h⟩ := chk_some h
          refine WP.path tab_ok mixed [(19, An.call (tb (hasB x1 v14)))] [.keep [19, 7, 14, 13, 6, 5, 4, 1], .keepO [2012]] (ps := [(C Try.prog 214 [ti x1, ti v14] (tb (hasB x1 v14)))]) (e := .normal) (σ' := ⟨[2012], [(19, vb (hasB x1 v14)), (7, vi v14), (14, vi v14), (13, vi x0), (6, vo 2012 (List.length o12)), (5, vb false), (4, V.t (T.nils)), (1, vi x1)], [(2012, oc 3 (List.map (T.int .i64) o12))]⟩) (by kernel_rfl) ⟨(has_C x1 v14 c0), trivial⟩ ?_
          rcases ite_some h with ⟨h3, h⟩ | ⟨h3, h⟩
          · -- yes
            refine WP.cond (b := hasB x1 v14) rfl (fun _ => ?_) (fun hh => by rw [h3] at hh; cases hh)
            obtain ⟨c1, h⟩ := chk_some h
            refine WP.path tab_ok mixed [(22, An.fz), (23, An.id 2023)] [.keep [6, 14, 13, 5, 4, 1], .keepO [2023]] (ps := [((1 = 1 ∧ 0 + 1 ≤ 1) ∧ True), (1 = 1 * 1), (True), (List.length (List.map (T.int .i64) o12) = (List.length o12) * 1), ((((List.length o12) + 1) * 8 ≤ 140737488355328 ∧ (List.length o12) + 1 ≤ maxLen))]) (e := .normal) (σ' := ⟨[2023, 2012], [(6, vo 2023 ((List.length o12) + 1)), (14, vi v14), (13, vi x0), (5, vb false), (4, V.t (T.nils)), (1, vi x1)], [(2023, oc 3 ((List.map (T.int .i64) o12) ++ [ti v14]))]⟩) (by kernel_rfl) ⟨⟨⟨by first | rfl | (simp; done) | (simp []; done) | omega, by first | decide | (simp; done) | (simp []; done) | omega | (simp only [tlL]; omega) | (simp; omega)⟩, trivial⟩, by decide, trivial, by first | rfl | (simp; done) | omega | (simp only [tlL]; omega) | (simp; omega) | (simp []; done) | (simp []; omega), c1, trivial⟩ ?_
            obtain ⟨c2, h⟩ := chk_some h
            refine WP.path tab_ok mixed [(24, An.v (T.int .i64 (v14 + (1 : Int))))] [.keep [14, 13, 6, 5, 4, 1], .keepO [2023], .names [(2023, 2012)]] (ps := [(True), (T.int .i64 (IntKind.wrap .i64 (v14 + (1 : Int))) = T.int .i64 (v14 + (1 : Int)))]) (e := .normal) (σ' := ⟨[2012], [(14, vi (v14 + (1 : Int))), (13, vi x0), (6, vo 2012 ((List.length o12) + 1)), (5, vb false), (4, V.t (T.nils)), (1, vi x1)], [(2012, oc 3 ((List.map (T.int .i64) o12) ++ [ti v14]))]⟩) (by kernel_rfl) ⟨trivial, wrapI c2, trivial⟩ ?_
            exact ⟨(n, o12 ++ [v14], (v14 + (1 : Int))), h, Nat.lt_succ_self _, (by first | rfl | (simp only [tlS, tl, vl, vo, oc, ov, tbl, vbl, ty, vy]; done) | (simp only [tlS, tl, vl, vo, oc, ov, tbl, vbl, ty, vy]; rfl) | (simp; done) | (simp []; done) | (rw [List.take_of_length_le (by simp [])]; done) | (rw [List.take_of_length_le (by simp [])]; rfl) | (simp only [tlL]; omega) | (simp; omega))⟩
          · -- no
            refine WP.cond (b := hasB x1 v14) rfl (fun hh => by rw [h3] at hh; cases hh) (fun _ => ?_)
            refine WP.path tab_ok mixed [] [.keep [14, 13, 6, 5, 4, 1], .keepO [2012]] (ps := []) (e := .normal) (σ' := ⟨[2012], [(14, vi v14), (13, vi x0), (6, vo 2012 (List.length o12)), (5, vb false), (4, V.t (T.nils)), (1, vi x1)], [(2012, oc 3 (List.map (T.int .i64) o12))]⟩) (by kernel_rfl) trivial ?_
            obtain ⟨c1, h⟩ := chk_some h
            refine WP.path tab_ok mixed [(24, An.v (T.int .i64 (v14 + (1 : Int))))] [.keep [14, 13, 6, 5, 4, 1], .keepO [2012], .names [(2012, 2012)]] (ps := [(True), (T.int .i64 (IntKind.wrap .i64 (v14 + (1 : Int))) = T.int .i64 (v14 + (1 : Int)))]) (e := .normal) (σ' := ⟨[2012], [(14, vi (v14 + (1 : Int))), (13, vi x0), (6, vo 2012 (List.length o12)), (5, vb false), (4, V.t (T.nils)), (1, vi x1)], [(2012, oc 3 (List.map (T.int .i64) o12))]⟩) (by kernel_rfl) ⟨trivial, wrapI c1, trivial⟩ ?_
            exact ⟨(n, o12, (v14 + (1 : Int))), h, Nat.lt_succ_self _, rfl⟩
        · -- no
          refine WP.cond (b := decide (v14 < x0)) rfl (fun hh => by rw [h2] at hh; cases hh) (fun _ => ?_)
          refine WP.path tab_ok mixed [] [.keep [6, 5, 4], .keepO [2012], .names [(2012, 2012)]] (ps := []) (e := (.exit 0)) (σ' := ⟨[2012], [(6, vo 2012 (List.length o12)), (5, vb false), (4, V.t (T.nils))], [(2012, oc 3 (List.map (T.int .i64) o12))]⟩) (by kernel_rfl) trivial ?_
          exact ⟨(o12), h, rfl⟩
    · -- from there
      intro o12 h0
      have h := (show J1 o12 = some (y0, y1) from h0)
      rw [hJ1] at h
      simp only [Option.some.injEq, Prod.mk.injEq] at h
      obtain ⟨rfl, rfl⟩ := h
      exact WP.pathG tab_ok mixed [] [.keep [4, 5], .keepO [2012], .names [(2012, 9000)]] [9000] _ (r' := V.tup [vo 9000 (List.length o12), vb true]) (ps := []) (r := V.tup [vo 9000 (List.length o12), vb true]) (N := [9000]) (O := [(9000, oc 3 (List.map (T.int .i64) o12))]) [] (by kernel_rfl) trivial ⟨rfl, (WkT.refl _), trivial⟩ rfl rfl (fun _ h => h)
theorem F_impl_NumbersOf_W_C (x0 : Int) (x1 : Int) (y0 : List Int) (y1 : Bool) (h : F_impl_NumbersOf x0 x1 = some (y0, y1)) : C Try.prog 91 [ti x0, ti x1] (T.tup [tl y0, tb y1]) :=
  CG.toC (ps := [(List.length (List.map (T.int .i64) y0) = (List.length y0) * 1)]) (F_impl_NumbersOf_W  x0 x1 y0 y1 h) (by rfl) ⟨by first | rfl | (simp; done) | omega | (simp; omega) | (simp [hl]; done) | (simp [hl]; omega), trivial⟩
theorem F_spec_l2NumbersOf_W (x0 : Int) (x1 : Int) (y0 : List Int) (h : F_spec_l2NumbersOf x0 x1 = some y0) : CG Try.prog 215 [vi x0, vi x1] [] (vo 9000 (List.length y0)) [(9000, oc 3 (List.map (T.int .i64) y0))] := by
  unfold F_spec_l2NumbersOf at h
  refine CG.intro (tab := tab) tab_ok (fn := Try.f215) Try.func215 (by kernel_rfl) rfl (Nat.le_of_ble_eq_true rfl) (by kernel_rfl) ?_
  refine WP.seq ?_
  refine WP.path tab_ok mixed [] [.keep [4, 0, 1], .keepO []] (ps := []) (e := .normal) (σ' := ⟨[], [(4, V.t (T.nils)), (0, vi x0), (1, vi x1)], []⟩) (by kernel_rfl) trivial ?_
  refine WP.seq ?_
  refine WP.path tab_ok mixed [(7, An.id 2007)] [.keep [5, 4, 0, 1], .keepO [2007]] (ps := [(True), (0 = 0 * 1)]) (e := .normal) (σ' := ⟨[2007], [(5, vo 2007 0), (4, V.t (T.nils)), (0, vi x0), (1, vi x1)], [(2007, oc 3 [])]⟩) (by kernel_rfl) ⟨trivial, by decide, trivial⟩ ?_
  obtain ⟨J1, hJ1, h⟩ := jn_some h
  refine WP.joinA (fun (zz : (List Int)) => ⟨[2007], [(5, vo 2007 (List.length zz)), (4, V.t (T.nils))], [(2007, oc 3 (List.map (T.int .i64) zz))]⟩) (fun zz => J1 zz = some y0) ?_ ?_
  · -- to where they meet
    refine WP.seq ?_
    refine WP.path tab_ok mixed [] [.keep [6, 5, 4, 0, 1], .keepO [2007]] (ps := []) (e := .normal) (σ' := ⟨[2007], [(6, vi 0), (5, vo 2007 0), (4, V.t (T.nils)), (0, vi x0), (1, vi x1)], [(2007, oc 3 [])]⟩) (by kernel_rfl) trivial ?_
    refine WP.block ?_
    refine WP.wk [.keep [6, 5, 4, 0, 1], .keepO [2007], .names [(2007, 2007)]] (σ' := ⟨[2007], [(6, vi 0), (5, vo 2007 0), (4, V.t (T.nils)), (0, vi x0), (1, vi x1)], [(2007, oc 3 [])]⟩) (ps := []) (by kernel_rfl) trivial ?_
    refine WP.st (σ' := ⟨[2007], [(6, vi (0 : Int)), (5, vo 2007 (List.length ([] : List Int))), (4, V.t (T.nils)), (0, vi x0), (1, vi x1)], [(2007, oc 3 (List.map (T.int .i64) ([] : List Int)))]⟩) (by first | rfl | (simp only [tlS, tl, vl, vo, oc, ov, tbl, vbl, ty, vy]; done) | (simp only [tlS, tl, vl, vo, oc, ov, tbl, vbl, ty, vy]; rfl) | (simp; done) | (simp []; done) | (rw [List.take_of_length_le (by simp [])]; done) | (rw [List.take_of_length_le (by simp [])]; rfl) | (simp only [tlL]; omega) | (simp; omega)) ?_
    refine WP.loop (α := Nat × (List Int) × Int) (fun zz => ⟨[2007], [(6, vi zz.2.2), (5, vo 2007 (List.length zz.2.1)), (4, V.t (T.nils)), (0, vi x0), (1, vi x1)], [(2007, oc 3 (List.map (T.int .i64) zz.2.1))]⟩) (fun zz => F_spec_l2NumbersOf_L1 x0 x1 J1 zz.1 zz.2.1 zz.2.2 = some y0) (fun zz => zz.1) (fuel, ([] : List Int), (0 : Int)) h ?_
    rintro ⟨n, o7, v6⟩ h0
    have h := (show F_spec_l2NumbersOf_L1 x0 x1 J1 n o7 v6 = some y0 from h0)
    rcases n with _ | n
    · rw [F_spec_l2NumbersOf_L1] at h; cases h
    · rw [F_spec_l2NumbersOf_L1] at h
      refine WP.seq ?_
      refine WP.seq ?_
      refine WP.path tab_ok mixed [] [.keep [10, 6, 5, 4, 0, 1], .keepO [2007]] (ps := [(True)]) (e := .normal) (σ' := ⟨[2007], [(10, vb (decide (v6 < x0))), (6, vi v6), (5, vo 2007 (List.length o7)), (4, V.t (T.nils)), (0, vi x0), (1, vi x1)], [(2007, oc 3 (List.map (T.int .i64) o7))]⟩) (by kernel_rfl) ⟨trivial, trivial⟩ ?_
      rcases ite_some h with ⟨h1, h⟩ | ⟨h1, h⟩
      · -- yes
        refine WP.cond (b := decide (v6 < x0)) rfl (fun _ => ?_) (fun hh => by rw [h1] at hh; cases hh)
        refine WP.path tab_ok mixed [] [.keep [6, 5, 4, 0, 1], .keepO [2007]] (ps := []) (e := .normal) (σ' := ⟨[2007], [(6, vi v6), (5, vo 2007 (List.length o7)), (4, V.t (T.nils)), (0, vi x0), (1, vi x1)], [(2007, oc 3 (List.map (T.int .i64) o7))]⟩) (by kernel_rfl) trivial ?_
        refine WP.seq ?_
        refine WP.block ?_
        refine WP.seq ?_
        obtain ⟨c0, h⟩ := chk_some h
        obtain ⟨n16, c1, h⟩ := nam_some h
        refine WP.path tab_ok mixed [(15, An.v (T.int .i64 (x1 / 2 ^ Int.toNat v6))), (16, An.v (ti n16))] [.keep [17, 6, 5, 4, 0, 1], .keepO [2007]] (ps := [(0 ≤ v6), (T.int .i64 (Int.fdiv x1 (2 ^ (min (Int.toNat v6) 64))) = T.int .i64 (x1 / 2 ^ Int.toNat v6)), (True), (ti (bits .and .i64 (x1 / 2 ^ Int.toNat v6) (1 : Int)) = ti n16), (True)]) (e := .normal) (σ' := ⟨[2007], [(17, vb (n16 == (1 : Int))), (6, vi v6), (5, vo 2007 (List.length o7)), (4, V.t (T.nils)), (0, vi x0), (1, vi x1)], [(2007, oc 3 (List.map (T.int .i64) o7))]⟩) (by kernel_rfl) ⟨c0.1, shr_told c0, trivial, congrArg (ti) c1, trivial, trivial⟩ ?_
        rcases ite_some h with ⟨h2, h⟩ | ⟨h2, h⟩
        · -- yes
          refine WP.cond (b := n16 == (1 : Int)) rfl (fun _ => ?_) (fun hh => by rw [h2] at hh; cases hh)
          obtain ⟨c2, h⟩ := chk_some h
          refine WP.path tab_ok mixed [(20, An.fz), (21, An.id 2021)] [.keep [5, 6, 4, 0, 1], .keepO [2021]] (ps := [((1 = 1 ∧ 0 + 1 ≤ 1) ∧ True), (1 = 1 * 1), (True), (List.length (List.map (T.int .i64) o7) = (List.length o7) * 1), ((((List.length o7) + 1) * 8 ≤ 140737488355328 ∧ (List.length o7) + 1 ≤ maxLen))]) (e := .normal) (σ' := ⟨[2021, 2007], [(5, vo 2021 ((List.length o7) + 1)), (6, vi v6), (4, V.t (T.nils)), (0, vi x0), (1, vi x1)], [(2021, oc 3 ((List.map (T.int .i64) o7) ++ [ti v6]))]⟩) (by kernel_rfl) ⟨⟨⟨by first | rfl | (simp; done) | (simp []; done) | omega, by first | decide | (simp; done) | (simp []; done) | omega | (simp only [tlL]; omega) | (simp; omega)⟩, trivial⟩, by decide, trivial, by first | rfl | (simp; done) | omega | (simp only [tlL]; omega) | (simp; omega) | (simp []; done) | (simp []; omega), c2, trivial⟩ ?_
          obtain ⟨c3, h⟩ := chk_some h
          refine WP.path tab_ok mixed [(12, An.v (T.int .i64 (v6 + (1 : Int))))] [.keep [6, 5, 4, 0, 1], .keepO [2021], .names [(2021, 2007)]] (ps := [(True), (T.int .i64 (IntKind.wrap .i64 (v6 + (1 : Int))) = T.int .i64 (v6 + (1 : Int)))]) (e := .normal) (σ' := ⟨[2007], [(6, vi (v6 + (1 : Int))), (5, vo 2007 ((List.length o7) + 1)), (4, V.t (T.nils)), (0, vi x0), (1, vi x1)], [(2007, oc 3 ((List.map (T.int .i64) o7) ++ [ti v6]))]⟩) (by kernel_rfl) ⟨trivial, wrapI c3, trivial⟩ ?_
          exact ⟨(n, o7 ++ [v6], (v6 + (1 : Int))), h, Nat.lt_succ_self _, (by first | rfl | (simp only [tlS, tl, vl, vo, oc, ov, tbl, vbl, ty, vy]; done) | (simp only [tlS, tl, vl, vo, oc, ov, tbl, vbl, ty, vy]; rfl) | (simp; done) | (simp []; done) | (rw [List.take_of_length_le (by simp [])]; done) | (rw [List.take_of_length_le (by simp [])]; rfl) | (simp only [tlL]; omega) | (simp; omega))⟩
        · -- no
          refine WP.cond (b := n16 == (1 : Int)) rfl (fun hh => by rw [h2] at hh; cases hh) (fun _ => ?_)
          refine WP.path tab_ok mixed [] [.keep [6, 5, 4, 0, 1], .keepO [2007]] (ps := []) (e := .normal) (σ' := ⟨[2007], [(6, vi v6), (5, vo 2007 (List.length o7)), (4, V.t (T.nils)), (0, vi x0), (1, vi x1)], [(2007, oc 3 (List.map (T.int .i64) o7))]⟩) (by kernel_rfl) trivial ?_
          obtain ⟨c2, h⟩ := chk_some h
          refine WP.path tab_ok mixed [(12, An.v (T.int .i64 (v6 + (1 : Int))))] [.keep [6, 5, 4, 0, 1], .keepO [2007], .names [(2007, 2007)]] (ps := [(True), (T.int .i64 (IntKind.wrap .i64 (v6 + (1 : Int))) = T.int .i64 (v6 + (1 : Int)))]) (e := .normal) (σ' := ⟨[2007], [(6, vi (v6 + (1 : Int))), (5, vo 2007 (List.length o7)), (4, V.t (T.nils)), (0, vi x0), (1, vi x1)], [(2007, oc 3 (List.map (T.int .i64) o7))]⟩) (by kernel_rfl) ⟨trivial, wrapI c2, trivial⟩ ?_
          exact ⟨(n, o7, (v6 + (1 : Int))), h, Nat.lt_succ_self _, rfl⟩
      · -- no
        refine WP.cond (b := decide (v6 < x0)) rfl (fun hh => by rw [h1] at hh; cases hh) (fun _ => ?_)
        refine WP.path tab_ok mixed [] [.keep [5, 4], .keepO [2007], .names [(2007, 2007)]] (ps := []) (e := (.exit 0)) (σ' := ⟨[2007], [(5, vo 2007 (List.length o7)), (4, V.t (T.nils))], [(2007, oc 3 (List.map (T.int .i64) o7))]⟩) (by kernel_rfl) trivial ?_
        exact ⟨(o7), h, rfl⟩
  · -- from there
    intro o7 h0
    have h := (show J1 o7 = some y0 from h0)
    rw [hJ1] at h
    have h := Option.some.inj h
    subst h
    exact WP.pathG tab_ok mixed [] [.keep [4], .keepO [2007], .names [(2007, 9000)]] [9000] _ (r' := vo 9000 (List.length o7)) (ps := []) (r := vo 9000 (List.length o7)) (N := [9000]) (O := [(9000, oc 3 (List.map (T.int .i64) o7))]) [] (by kernel_rfl) trivial ⟨rfl, trivial⟩ rfl rfl (fun _ h => h)
theorem F_spec_l2NumbersOf_W_C (x0 : Int) (x1 : Int) (y0 : List Int) (h : F_spec_l2NumbersOf x0 x1 = some y0) : C Try.prog 215 [ti x0, ti x1] (tl y0) :=
  CG.toC (ps := [(List.length (List.map (T.int .i64) y0) = (List.length y0) * 1)]) (F_spec_l2NumbersOf_W  x0 x1 y0 h) (by rfl) ⟨by first | rfl | (simp; done) | omega | (simp; omega) | (simp [hl]; done) | (simp [hl]; omega), trivial⟩
theorem F_spec_NumbersOf_W (x0 : Int) (x1 : Int) (y0 : List Int) (y1 : Bool) (h : F_spec_NumbersOf x0 x1 = some (y0, y1)) : CG Try.prog 92 [vi x0, vi x1] [] (V.tup [vo 9000 (List.length y0), vb y1]) [(9000, oc 3 (List.map (T.int .i64) y0))] := by
  unfold F_spec_NumbersOf at h
  refine CG.intro (tab := tab) tab_ok (fn := Try.f92) Try.func92 (by kernel_rfl) rfl (Nat.le_of_ble_eq_true rfl) (by kernel_rfl) ?_
  refine WP.seq ?_
  refine WP.path tab_ok mixed [] [.keep [5, 4, 0, 1], .keepO []] (ps := []) (e := .normal) (σ' := ⟨[], [(5, vb false), (4, V.t (T.nils)), (0, vi x0), (1, vi x1)], []⟩) (by kernel_rfl) trivial ?_
  refine WP.seq ?_
  refine WP.seq ?_
  refine WP.path tab_ok mixed [(8, An.call (tb (isQ x0 x1)))] [.keep [9, 5, 4, 0, 1], .keepO []] (ps := [(C Try.prog 176 [ti x0, ti x1] (tb (isQ x0 x1)))]) (e := .normal) (σ' := ⟨[], [(9, vb (!(isQ x0 x1))), (5, vb false), (4, V.t (T.nils)), (0, vi x0), (1, vi x1)], []⟩) (by kernel_rfl) ⟨(l2Asks_C x0 x1), trivial⟩ ?_
  rcases ite_some h with ⟨h1, h⟩ | ⟨h1, h⟩
  · -- yes
    refine WP.cond (b := !(isQ x0 x1)) rfl (fun _ => ?_) (fun hh => by rw [h1] at hh; cases hh)
    simp only [Option.some.injEq, Prod.mk.injEq] at h
    obtain ⟨rfl, rfl⟩ := h
    exact WP.pathG tab_ok mixed [(10, An.id 2010)] [.keep [4, 5], .keepO [2010], .names [(2010, 9000)]] [9000] _ (r' := V.tup [vo 9000 (List.length []), vb false]) (ps := [(True), (0 = 0 * 1)]) (r := V.tup [vo 9000 0, vb false]) (N := [9000]) (O := [(9000, oc 3 [])]) [] (by kernel_rfl) ⟨trivial, by decide, trivial⟩ ⟨(congrArg (V.own 9000 1) (by first | rfl | (simp only [tlS, tl, vl, vo, oc, ov, tbl, vbl, ty, vy]; done) | (simp only [tlS, tl, vl, vo, oc, ov, tbl, vbl, ty, vy]; rfl) | (simp; done) | (simp []; done) | (rw [List.take_of_length_le (by simp [])]; done) | (rw [List.take_of_length_le (by simp [])]; rfl) | (simp only [tlL]; omega) | (simp only [tlL]; omega) | (simp; omega))), (WkT.refl _), trivial⟩ rfl (by first | rfl | (simp only [tlS, tl, vl, vo, oc, ov, tbl, vbl, ty, vy]; done) | (simp only [tlS, tl, vl, vo, oc, ov, tbl, vbl, ty, vy]; rfl) | (simp; done) | (simp []; done) | (rw [List.take_of_length_le (by simp [])]; done) | (rw [List.take_of_length_le (by simp [])]; rfl) | (simp only [tlL]; omega) | (simp; omega)) (fun _ h => h)
  · -- no
    refine WP.cond (b := !(isQ x0 x1)) rfl (fun hh => by rw [h1] at hh; cases hh) (fun _ => ?_)
    refine WP.path tab_ok mixed [] [.keep [5, 4, 0, 1], .keepO []] (ps := []) (e := .normal) (σ' := ⟨[], [(5, vb false), (4, V.t (T.nils)), (0, vi x0), (1, vi x1)], []⟩) (by kernel_rfl) trivial ?_
    obtain ⟨r13, c0, h⟩ := bnd1_some h
    simp only [Option.some.injEq, Prod.mk.injEq] at h
    obtain ⟨rfl, rfl⟩ := h
    exact WP.pathG tab_ok mixed [(13, An.callG [(9000, 10130)] [vi x0, vi x1] [] (vo 9000 (List.length r13)) [(9000, oc 3 (List.map (T.int .i64) r13))])] [.keep [4, 5], .keepO [10130], .names [(10130, 9000)]] [9000] _ (r' := V.tup [vo 9000 (List.length r13), vb true]) (ps := [(CG Try.prog 215 [vi x0, vi x1] [] (vo 9000 (List.length r13)) [(9000, oc 3 (List.map (T.int .i64) r13))]), (WkT (ti x0) (ti x0)), (WkT (ti x1) (ti x1))]) (r := V.tup [vo 9000 (List.length r13), vb true]) (N := [9000]) (O := [(9000, oc 3 (List.map (T.int .i64) r13))]) [] (by kernel_rfl) ⟨(F_spec_l2NumbersOf_W x0 x1 r13 c0), WkT.refl _, WkT.refl _, trivial⟩ ⟨rfl, (WkT.refl _), trivial⟩ rfl rfl (fun _ h => h)
theorem F_spec_NumbersOf_W_C (x0 : Int) (x1 : Int) (y0 : List Int) (y1 : Bool) (h : F_spec_NumbersOf x0 x1 = some (y0, y1)) : C Try.prog 92 [ti x0, ti x1] (T.tup [tl y0, tb y1]) :=
  CG.toC (ps := [(List.length (List.map (T.int .i64) y0) = (List.length y0) * 1)]) (F_spec_NumbersOf_W  x0 x1 y0 y1 h) (by rfl) ⟨by first | rfl | (simp; done) | omega | (simp; omega) | (simp [hl]; done) | (simp [hl]; omega), trivial⟩
theorem F_laws_rInts_W (x0 : List Int) (x1 : List Int) (y0 : Bool) (h : F_laws_rInts x0 x1 = some y0) : C Try.prog 93 [tl x0, tl x1] (tb y0) := by
  unfold F_laws_rInts at h
  refine C.intro (tab := tab) tab_ok (fn := Try.f93) Try.func93 (by kernel_rfl) rfl (Nat.le_of_ble_eq_true rfl) ?_
  refine WP.seq ?_
  refine WP.path tab_ok mixed [] [.keep [4, 0, 1], .keepO []] (ps := []) (e := .normal) (σ' := ⟨[], [(4, vb false), (0, vl x0), (1, vl x1)], []⟩) (by kernel_rfl) trivial ?_
  refine WP.seq ?_
  refine WP.seq ?_
  refine WP.path tab_ok mixed [] [.keep [10, 4, 0, 1], .keepO []] (ps := [(True)]) (e := .normal) (σ' := ⟨[], [(10, vb (((List.length x0 : Nat) : Int) != ((List.length x1 : Nat) : Int))), (4, vb false), (0, vl x0), (1, vl x1)], []⟩) (by kernel_rfl) ⟨trivial, trivial⟩ ?_
  rcases ite_some h with ⟨h1, h⟩ | ⟨h1, h⟩
  · -- yes
    refine WP.cond (b := ((List.length x0 : Nat) : Int) != ((List.length x1 : Nat) : Int)) rfl (fun _ => ?_) (fun hh => by rw [h1] at hh; cases hh)
    have h := Option.some.inj h
    subst h
    exact WP.pathW tab_ok mixed [] _ (ps := []) (r := tb false) (by kernel_rfl) trivial (WkT.eq (y := tb false) (WkT.refl _) rfl) (fun _ h => h)
  · -- no
    refine WP.cond (b := ((List.length x0 : Nat) : Int) != ((List.length x1 : Nat) : Int)) rfl (fun hh => by rw [h1] at hh; cases hh) (fun _ => ?_)
    refine WP.path tab_ok mixed [] [.keep [4, 0, 1], .keepO []] (ps := []) (e := .normal) (σ' := ⟨[], [(4, vb false), (0, vl x0), (1, vl x1)], []⟩) (by kernel_rfl) trivial ?_
    obtain ⟨J1, hJ1, h⟩ := jn_some h
    refine WP.joinA (fun (zz : Unit) => ⟨[], [(4, vb false)], []⟩) (fun zz => J1 () = some y0) ?_ ?_
    · -- to where they meet
      refine WP.seq ?_
      refine WP.path tab_ok mixed [] [.keep [5, 4, 0, 1], .keepO []] (ps := []) (e := .normal) (σ' := ⟨[], [(5, vi 0), (4, vb false), (0, vl x0), (1, vl x1)], []⟩) (by kernel_rfl) trivial ?_
      refine WP.block ?_
      refine WP.wk [.keep [5, 4, 0, 1], .keepO [], .names []] (σ' := ⟨[], [(5, vi 0), (4, vb false), (0, vl x0), (1, vl x1)], []⟩) (ps := []) (by kernel_rfl) trivial ?_
      refine WP.st (σ' := ⟨[], [(5, vi (0 : Int)), (4, vb false), (0, vl x0), (1, vl x1)], []⟩) (by first | rfl | (simp only [tlS, tl, vl, vo, oc, ov, tbl, vbl, ty, vy]; done) | (simp only [tlS, tl, vl, vo, oc, ov, tbl, vbl, ty, vy]; rfl) | (simp; done) | (simp []; done) | (rw [List.take_of_length_le (by simp [])]; done) | (rw [List.take_of_length_le (by simp [])]; rfl) | (simp only [tlL]; omega) | (simp; omega)) ?_
      refine WP.loop (α := Nat × Int) (fun zz => ⟨[], [(5, vi zz.2), (4, vb false), (0, vl x0), (1, vl x1)], []⟩) (fun zz => F_laws_rInts_L1 x0 x1 J1 zz.1 zz.2 = some y0) (fun zz => zz.1) (fuel, (0 : Int)) h ?_
      rintro ⟨n, v5⟩ h0
      have h := (show F_laws_rInts_L1 x0 x1 J1 n v5 = some y0 from h0)
      rcases n with _ | n
      · rw [F_laws_rInts_L1] at h; cases h
      · rw [F_laws_rInts_L1] at h
        refine WP.seq ?_
        refine WP.seq ?_
        refine WP.path tab_ok mixed [] [.keep [14, 5, 4, 0, 1], .keepO []] (ps := [(True)]) (e := .normal) (σ' := ⟨[], [(14, vb (decide (v5 < ((List.length x0 : Nat) : Int)))), (5, vi v5), (4, vb false), (0, vl x0), (1, vl x1)], []⟩) (by kernel_rfl) ⟨trivial, trivial⟩ ?_
        rcases ite_some h with ⟨h2, h⟩ | ⟨h2, h⟩
        · -- yes
          refine WP.cond (b := decide (v5 < ((List.length x0 : Nat) : Int))) rfl (fun _ => ?_) (fun hh => by rw [h2] at hh; cases hh)
          refine WP.path tab_ok mixed [] [.keep [5, 4, 0, 1], .keepO []] (ps := []) (e := .normal) (σ' := ⟨[], [(5, vi v5), (4, vb false), (0, vl x0), (1, vl x1)], []⟩) (by kernel_rfl) trivial ?_
          refine WP.seq ?_
          refine WP.block ?_
          refine WP.seq ?_
          obtain ⟨c0, h⟩ := chk_some h
          obtain ⟨c1, h⟩ := chk_some h
          refine WP.path tab_ok mixed [(20, An.v (ti (List.getD x0 (Int.toNat v5) 0))), (24, An.v (ti (List.getD x1 (Int.toNat v5) 0)))] [.keep [25, 5, 4, 0, 1], .keepO []] (ps := [((0 ≤ v5 ∧ v5 < ((List.length x0 : Nat) : Int))), ((List.drop ((Int.toNat v5) * 1) (List.map (T.int .i64) x0) : List T)[0]? = some (ti (List.getD x0 (Int.toNat v5) 0))), (ti (List.getD x0 (Int.toNat v5) 0) = ti (List.getD x0 (Int.toNat v5) 0)), ((0 ≤ v5 ∧ v5 < ((List.length x1 : Nat) : Int))), ((List.drop ((Int.toNat v5) * 1) (List.map (T.int .i64) x1) : List T)[0]? = some (ti (List.getD x1 (Int.toNat v5) 0))), (ti (List.getD x1 (Int.toNat v5) 0) = ti (List.getD x1 (Int.toNat v5) 0)), (True)]) (e := .normal) (σ' := ⟨[], [(25, vb ((List.getD x0 (Int.toNat v5) 0) != (List.getD x1 (Int.toNat v5) 0))), (5, vi v5), (4, vb false), (0, vl x0), (1, vl x1)], []⟩) (by kernel_rfl) ⟨c0, at1 (by simp) (by omega), rfl, c1, at1 (by simp) (by omega), rfl, trivial, trivial⟩ ?_
          rcases ite_some h with ⟨h3, h⟩ | ⟨h3, h⟩
          · -- yes
            refine WP.cond (b := (List.getD x0 (Int.toNat v5) 0) != (List.getD x1 (Int.toNat v5) 0)) rfl (fun _ => ?_) (fun hh => by rw [h3] at hh; cases hh)
            have h := Option.some.inj h
            subst h
            exact WP.pathW tab_ok mixed [] _ (ps := []) (r := tb false) (by kernel_rfl) trivial (WkT.eq (y := tb false) (WkT.refl _) rfl) (fun _ h => h)
          · -- no
            refine WP.cond (b := (List.getD x0 (Int.toNat v5) 0) != (List.getD x1 (Int.toNat v5) 0)) rfl (fun hh => by rw [h3] at hh; cases hh) (fun _ => ?_)
            refine WP.path tab_ok mixed [] [.keep [5, 4, 0, 1], .keepO []] (ps := []) (e := .normal) (σ' := ⟨[], [(5, vi v5), (4, vb false), (0, vl x0), (1, vl x1)], []⟩) (by kernel_rfl) trivial ?_
            obtain ⟨c2, h⟩ := chk_some h
            refine WP.path tab_ok mixed [(16, An.v (T.int .i64 (v5 + (1 : Int))))] [.keep [5, 4, 0, 1], .keepO [], .names []] (ps := [(True), (T.int .i64 (IntKind.wrap .i64 (v5 + (1 : Int))) = T.int .i64 (v5 + (1 : Int)))]) (e := .normal) (σ' := ⟨[], [(5, vi (v5 + (1 : Int))), (4, vb false), (0, vl x0), (1, vl x1)], []⟩) (by kernel_rfl) ⟨trivial, wrapI c2, trivial⟩ ?_
            exact ⟨(n, (v5 + (1 : Int))), h, Nat.lt_succ_self _, rfl⟩
        · -- no
          refine WP.cond (b := decide (v5 < ((List.length x0 : Nat) : Int))) rfl (fun hh => by rw [h2] at hh; cases hh) (fun _ => ?_)
          refine WP.path tab_ok mixed [] [.keep [4], .keepO [], .names []] (ps := []) (e := (.exit 0)) (σ' := ⟨[], [(4, vb false)], []⟩) (by kernel_rfl) trivial ?_
          exact ⟨(), h, rfl⟩
    · -- from there
      intro _ h0
      have h := (show J1 () = some y0 from h0)
      rw [hJ1] at h
      have h := Option.some.inj h
      subst h
      exact WP.pathW tab_ok mixed [] _ (ps := []) (r := tb true) (by kernel_rfl) trivial (WkT.eq (y := tb true) (WkT.refl _) rfl) (fun _ h => h)
theorem F_spec_DrawQuestionOf_W (x0 : List Int) (y0 : Int) (y1 : List Int) (h : F_spec_DrawQuestionOf x0 = some (y0, y1)) : CG Try.prog 94 [vy x0] [] (V.tup [vi y0, vo 9000 (List.length y1)]) [(9000, oc 3 (List.map (T.int .i64) y1))] := by
  unfold F_spec_DrawQuestionOf at h
  refine CG.intro (tab := tab) tab_ok (fn := Try.f94) Try.func94 (by kernel_rfl) rfl (Nat.le_of_ble_eq_true rfl) (by kernel_rfl) ?_
  refine WP.seq ?_
  refine WP.path tab_ok mixed [] [.keep [3, 2, 0], .keepO []] (ps := []) (e := .normal) (σ' := ⟨[], [(3, V.t (T.nils)), (2, vi 0), (0, vy x0)], []⟩) (by kernel_rfl) trivial ?_
  refine WP.seq ?_
  refine WP.path tab_ok mixed [(10, An.id 2010)] [.keep [4, 3, 2], .keepO [2010]] (ps := [((1 = 1 ∧ 0 + 1 ≤ 3) ∧ True)]) (e := .normal) (σ' := ⟨[2010], [(4, V.ref 2010 0), (3, V.t (T.nils)), (2, vi 0)], [(2010, oc 151 [ty x0, ti 0, T.int .u64 0])]⟩) (by kernel_rfl) ⟨⟨⟨by first | rfl | (simp; done) | (simp []; done) | omega, by first | decide | (simp; done) | (simp []; done) | omega | (simp only [tlL]; omega) | (simp; omega)⟩, trivial⟩, trivial⟩ ?_
  refine WP.seq ?_
  obtain ⟨r12, r12b, r12c, r12d, c0, h⟩ := bnd4_some h
  refine WP.path tab_ok mixed [(12, An.callG [(500, 2010)] [V.ref 500 0] [(500, oc 151 [ty x0, ti 0, T.int .u64 0])] (vi r12) [(500, oc 151 [ty r12b, ti r12c, T.int .u64 r12d])])] [.keep [5, 4, 3, 2], .keepO [2010]] (ps := [(CG Try.prog 147 [V.ref 500 0] [(500, oc 151 [ty x0, ti 0, T.int .u64 0])] (vi r12) [(500, oc 151 [ty r12b, ti r12c, T.int .u64 r12d])]), ((V.ref 500 0).ren (renF [(500, 2010)]) = V.ref 2010 0), ((oc 151 [ty x0, ti 0, T.int .u64 0]) = (oc 151 [ty x0, ti 0, T.int .u64 0]).ren (renF [(500, 2010)]))]) (e := .normal) (σ' := ⟨[2010], [(5, vi r12), (4, V.ref 2010 0), (3, V.t (T.nils)), (2, vi 0)], [(2010, oc 151 [ty r12b, ti r12c, T.int .u64 r12d])]⟩) (by kernel_rfl) ⟨(F_p_spec_l1Cur_many_W x0 (0 : Int) (0 : Int) r12 r12b r12c r12d c0), by first | rfl | (simp [V.ren, V.renL, renF, lk]; done) | (simp [V.ren, V.renL, renF, lk]; omega), by first | rfl | (simp only [tlS]; rfl) | (simp [Tl.Obj.ren, V.ren, V.renL, renF, lk]; done), trivial⟩ ?_
  refine WP.seq ?_
  refine WP.path tab_ok mixed [(13, An.id 2013)] [.keep [6, 5, 4, 3, 2], .keepO [2010, 2013]] (ps := [(True), (0 = 0 * 1)]) (e := .normal) (σ' := ⟨[2013, 2010], [(6, vo 2013 0), (5, vi r12), (4, V.ref 2010 0), (3, V.t (T.nils)), (2, vi 0)], [(2010, oc 151 [ty r12b, ti r12c, T.int .u64 r12d]), (2013, oc 3 [])]⟩) (by kernel_rfl) ⟨trivial, by decide, trivial⟩ ?_
  obtain ⟨J1, hJ1, h⟩ := jn_some h
  refine WP.joinA (fun (zz : (List Int) × Int × Int × (List Int)) => ⟨[2010, 2013], [(6, vo 2013 (List.length zz.2.2.2)), (5, vi r12), (4, V.ref 2010 0), (3, V.t (T.nils)), (2, vi 0)], [(2010, oc 151 [ty zz.1, ti zz.2.1, T.int .u64 zz.2.2.1]), (2013, oc 3 (List.map (T.int .i64) zz.2.2.2))]⟩) (fun zz => J1 zz.1 zz.2.1 zz.2.2.1 zz.2.2.2 = some (y0, y1)) ?_ ?_
  · -- to where they meet
    refine WP.seq ?_
    obtain ⟨r16, r16b, r16c, r16d, c1, h⟩ := bnd4_some h
    refine WP.path tab_ok mixed [(15, An.fz), (16, An.callG [(500, 2010)] [V.ref 500 0, vl [(2 : Int), (3 : Int), (1 : Int), (0 : Int), (5 : Int), (24 : Int)]] [(500, oc 151 [ty r12b, ti r12c, T.int .u64 r12d])] (vi r16) [(500, oc 151 [ty r16b, ti r16c, T.int .u64 r16d])])] [.keep [7, 6, 5, 4, 3, 2], .keepO [2010, 2013]] (ps := [((1 = 1 ∧ 0 + 1 ≤ 6) ∧ (1 = 1 ∧ 1 + 1 ≤ 6) ∧ (1 = 1 ∧ 2 + 1 ≤ 6) ∧ (1 = 1 ∧ 3 + 1 ≤ 6) ∧ (1 = 1 ∧ 4 + 1 ≤ 6) ∧ (1 = 1 ∧ 5 + 1 ≤ 6) ∧ True), (6 = 6 * 1), (CG Try.prog 172 [V.ref 500 0, vl [(2 : Int), (3 : Int), (1 : Int), (0 : Int), (5 : Int), (24 : Int)]] [(500, oc 151 [ty r12b, ti r12c, T.int .u64 r12d])] (vi r16) [(500, oc 151 [ty r16b, ti r16c, T.int .u64 r16d])]), ((V.ref 500 0).ren (renF [(500, 2010)]) = V.ref 2010 0), (WkT (T.list 6 1 [ti 2, ti 3, ti 1, ti 0, ti 5, ti 24]) (tl [(2 : Int), (3 : Int), (1 : Int), (0 : Int), (5 : Int), (24 : Int)])), ((oc 151 [ty r12b, ti r12c, T.int .u64 r12d]) = (oc 151 [ty r12b, ti r12c, T.int .u64 r12d]).ren (renF [(500, 2010)]))]) (e := .normal) (σ' := ⟨[2013, 2010], [(7, vi r16), (6, vo 2013 0), (5, vi r12), (4, V.ref 2010 0), (3, V.t (T.nils)), (2, vi 0)], [(2010, oc 151 [ty r16b, ti r16c, T.int .u64 r16d]), (2013, oc 3 [])]⟩) (by kernel_rfl) ⟨⟨⟨by first | rfl | (simp; done) | (simp []; done) | omega, by first | decide | (simp; done) | (simp []; done) | omega | (simp only [tlL]; omega) | (simp; omega)⟩, ⟨by first | rfl | (simp; done) | (simp []; done) | omega, by first | decide | (simp; done) | (simp []; done) | omega | (simp only [tlL]; omega) | (simp; omega)⟩, ⟨by first | rfl | (simp; done) | (simp []; done) | omega, by first | decide | (simp; done) | (simp []; done) | omega | (simp only [tlL]; omega) | (simp; omega)⟩, ⟨by first | rfl | (simp; done) | (simp []; done) | omega, by first | decide | (simp; done) | (simp []; done) | omega | (simp only [tlL]; omega) | (simp; omega)⟩, ⟨by first | rfl | (simp; done) | (simp []; done) | omega, by first | decide | (simp; done) | (simp []; done) | omega | (simp only [tlL]; omega) | (simp; omega)⟩, ⟨by first | rfl | (simp; done) | (simp []; done) | omega, by first | decide | (simp; done) | (simp []; done) | omega | (simp only [tlL]; omega) | (simp; omega)⟩, trivial⟩, by decide, (F_p_spec_l1Cur_among_W r12b r12c r12d [(2 : Int), (3 : Int), (1 : Int), (0 : Int), (5 : Int), (24 : Int)] r16 r16b r16c r16d c1), by first | rfl | (simp [V.ren, V.renL, renF, lk]; done) | (simp [V.ren, V.renL, renF, lk]; omega), WkT.eq (WkT.refl _) (by first | rfl | (simp only [tlS, tl, vl, vo, oc, ov, tbl, vbl, ty, vy]; done) | (simp only [tlS, tl, vl, vo, oc, ov, tbl, vbl, ty, vy]; rfl) | (simp; done) | (simp []; done) | (rw [List.take_of_length_le (by simp [])]; done) | (rw [List.take_of_length_le (by simp [])]; rfl) | (simp only [tlL]; omega) | (simp; omega)), by first | rfl | (simp only [tlS]; rfl) | (simp [Tl.Obj.ren, V.ren, V.renL, renF, lk]; done), trivial⟩ ?_
    refine WP.block ?_
    refine WP.wk [.keep [7, 6, 5, 4, 3, 2], .keepO [2010, 2013], .names [(2010, 2010), (2013, 2013)]] (σ' := ⟨[2010, 2013], [(7, vi r16), (6, vo 2013 0), (5, vi r12), (4, V.ref 2010 0), (3, V.t (T.nils)), (2, vi 0)], [(2010, oc 151 [ty r16b, ti r16c, T.int .u64 r16d]), (2013, oc 3 [])]⟩) (ps := []) (by kernel_rfl) trivial ?_
    refine WP.st (σ' := ⟨[2010, 2013], [(7, vi r16), (6, vo 2013 (List.length ([] : List Int))), (5, vi r12), (4, V.ref 2010 0), (3, V.t (T.nils)), (2, vi 0)], [(2010, oc 151 [ty r16b, ti r16c, T.int .u64 r16d]), (2013, oc 3 (List.map (T.int .i64) ([] : List Int)))]⟩) (by first | rfl | (simp only [tlS, tl, vl, vo, oc, ov, tbl, vbl, ty, vy]; done) | (simp only [tlS, tl, vl, vo, oc, ov, tbl, vbl, ty, vy]; rfl) | (simp; done) | (simp []; done) | (rw [List.take_of_length_le (by simp [])]; done) | (rw [List.take_of_length_le (by simp [])]; rfl) | (simp only [tlL]; omega) | (simp; omega)) ?_
    refine WP.loop (α := Nat × (List Int) × Int × Int × (List Int) × Int) (fun zz => ⟨[2010, 2013], [(7, vi zz.2.2.2.2.2), (6, vo 2013 (List.length zz.2.2.2.2.1)), (5, vi r12), (4, V.ref 2010 0), (3, V.t (T.nils)), (2, vi 0)], [(2010, oc 151 [ty zz.2.1, ti zz.2.2.1, T.int .u64 zz.2.2.2.1]), (2013, oc 3 (List.map (T.int .i64) zz.2.2.2.2.1))]⟩) (fun zz => F_spec_DrawQuestionOf_L1 r12 J1 zz.1 zz.2.1 zz.2.2.1 zz.2.2.2.1 zz.2.2.2.2.1 zz.2.2.2.2.2 = some (y0, y1)) (fun zz => zz.1) (fuel, r16b, r16c, r16d, ([] : List Int), r16) h ?_
    rintro ⟨n, o10, o10b, o10c, o13, v7⟩ h0
    have h := (show F_spec_DrawQuestionOf_L1 r12 J1 n o10 o10b o10c o13 v7 = some (y0, y1) from h0)
    rcases n with _ | n
    · rw [F_spec_DrawQuestionOf_L1] at h; cases h
    · rw [F_spec_DrawQuestionOf_L1] at h
      refine WP.seq ?_
      refine WP.seq ?_
      refine WP.path tab_ok mixed [] [.keep [18, 7, 6, 5, 4, 3, 2], .keepO [2010, 2013]] (ps := [(True)]) (e := .normal) (σ' := ⟨[2010, 2013], [(18, vb (decide (v7 > (0 : Int)))), (7, vi v7), (6, vo 2013 (List.length o13)), (5, vi r12), (4, V.ref 2010 0), (3, V.t (T.nils)), (2, vi 0)], [(2010, oc 151 [ty o10, ti o10b, T.int .u64 o10c]), (2013, oc 3 (List.map (T.int .i64) o13))]⟩) (by kernel_rfl) ⟨trivial, trivial⟩ ?_
      rcases ite_some h with ⟨h1, h⟩ | ⟨h1, h⟩
      · -- yes
        refine WP.cond (b := decide (v7 > (0 : Int))) rfl (fun _ => ?_) (fun hh => by rw [h1] at hh; cases hh)
        refine WP.path tab_ok mixed [] [.keep [7, 6, 5, 4, 3, 2], .keepO [2010, 2013]] (ps := []) (e := .normal) (σ' := ⟨[2010, 2013], [(7, vi v7), (6, vo 2013 (List.length o13)), (5, vi r12), (4, V.ref 2010 0), (3, V.t (T.nils)), (2, vi 0)], [(2010, oc 151 [ty o10, ti o10b, T.int .u64 o10c]), (2013, oc 3 (List.map (T.int .i64) o13))]⟩) (by kernel_rfl) trivial ?_
        refine WP.seq ?_
        refine WP.block ?_
        obtain ⟨r25, r25b, r25c, r25d, c2, h⟩ := bnd4_some h
        obtain ⟨c3, h⟩ := chk_some h
        refine WP.path tab_ok mixed [(24, An.call (ti (maxN (1 : Int) r12))), (25, An.callG [(500, 2010)] [V.ref 500 0, vi (maxN (1 : Int) r12)] [(500, oc 151 [ty o10, ti o10b, T.int .u64 o10c])] (vi r25) [(500, oc 151 [ty r25b, ti r25c, T.int .u64 r25d])]), (26, An.fz), (27, An.id 2027)] [.keep [6, 7, 5, 4, 3, 2], .keepO [2010, 2027]] (ps := [(C Try.prog 155 [ti 1, ti r12] (ti (maxN (1 : Int) r12))), (CG Try.prog 154 [V.ref 500 0, vi (maxN (1 : Int) r12)] [(500, oc 151 [ty o10, ti o10b, T.int .u64 o10c])] (vi r25) [(500, oc 151 [ty r25b, ti r25c, T.int .u64 r25d])]), ((V.ref 500 0).ren (renF [(500, 2010)]) = V.ref 2010 0), (WkT (ti (maxN (1 : Int) r12)) (ti (maxN (1 : Int) r12))), ((oc 151 [ty o10, ti o10b, T.int .u64 o10c]) = (oc 151 [ty o10, ti o10b, T.int .u64 o10c]).ren (renF [(500, 2010)])), ((1 = 1 ∧ 0 + 1 ≤ 1) ∧ True), (1 = 1 * 1), (True), (List.length (List.map (T.int .i64) o13) = (List.length o13) * 1), ((((List.length o13) + 1) * 8 ≤ 140737488355328 ∧ (List.length o13) + 1 ≤ maxLen))]) (e := .normal) (σ' := ⟨[2027, 2010, 2013], [(6, vo 2027 ((List.length o13) + 1)), (7, vi v7), (5, vi r12), (4, V.ref 2010 0), (3, V.t (T.nils)), (2, vi 0)], [(2010, oc 151 [ty r25b, ti r25c, T.int .u64 r25d]), (2027, oc 3 ((List.map (T.int .i64) o13) ++ [ti r25]))]⟩) (by kernel_rfl) ⟨(by have hh := (l1Most_C (1 : Int) r12); simpa using hh), (F_p_spec_l1Cur_pick_W o10 o10b o10c (maxN (1 : Int) r12) r25 r25b r25c r25d c2), by first | rfl | (simp [V.ren, V.renL, renF, lk]; done) | (simp [V.ren, V.renL, renF, lk]; omega), WkT.refl _, by first | rfl | (simp only [tlS]; rfl) | (simp [Tl.Obj.ren, V.ren, V.renL, renF, lk]; done), ⟨⟨by first | rfl | (simp; done) | (simp []; done) | omega, by first | decide | (simp; done) | (simp []; done) | omega | (simp only [tlL]; omega) | (simp; omega)⟩, trivial⟩, by decide, trivial, by first | rfl | (simp; done) | omega | (simp only [tlL]; omega) | (simp; omega) | (simp []; done) | (simp []; omega), c3, trivial⟩ ?_
        obtain ⟨c4, h⟩ := chk_some h
        refine WP.path tab_ok mixed [(20, An.v (T.int .i64 (v7 - (1 : Int))))] [.keep [7, 6, 5, 4, 3, 2], .keepO [2010, 2027], .names [(2010, 2010), (2027, 2013)]] (ps := [(True), (T.int .i64 (IntKind.wrap .i64 (v7 - (1 : Int))) = T.int .i64 (v7 - (1 : Int)))]) (e := .normal) (σ' := ⟨[2010, 2013], [(7, vi (v7 - (1 : Int))), (6, vo 2013 ((List.length o13) + 1)), (5, vi r12), (4, V.ref 2010 0), (3, V.t (T.nils)), (2, vi 0)], [(2010, oc 151 [ty r25b, ti r25c, T.int .u64 r25d]), (2013, oc 3 ((List.map (T.int .i64) o13) ++ [ti r25]))]⟩) (by kernel_rfl) ⟨trivial, wrapI c4, trivial⟩ ?_
        exact ⟨(n, r25b, r25c, r25d, o13 ++ [r25], (v7 - (1 : Int))), h, Nat.lt_succ_self _, (by first | rfl | (simp only [tlS, tl, vl, vo, oc, ov, tbl, vbl, ty, vy]; done) | (simp only [tlS, tl, vl, vo, oc, ov, tbl, vbl, ty, vy]; rfl) | (simp; done) | (simp []; done) | (rw [List.take_of_length_le (by simp [])]; done) | (rw [List.take_of_length_le (by simp [])]; rfl) | (simp only [tlL]; omega) | (simp; omega))⟩
      · -- no
        refine WP.cond (b := decide (v7 > (0 : Int))) rfl (fun hh => by rw [h1] at hh; cases hh) (fun _ => ?_)
        refine WP.path tab_ok mixed [] [.keep [6, 5, 4, 3, 2], .keepO [2010, 2013], .names [(2010, 2010), (2013, 2013)]] (ps := []) (e := (.exit 0)) (σ' := ⟨[2010, 2013], [(6, vo 2013 (List.length o13)), (5, vi r12), (4, V.ref 2010 0), (3, V.t (T.nils)), (2, vi 0)], [(2010, oc 151 [ty o10, ti o10b, T.int .u64 o10c]), (2013, oc 3 (List.map (T.int .i64) o13))]⟩) (by kernel_rfl) trivial ?_
        exact ⟨(o10, o10b, o10c, o13), h, rfl⟩
  · -- from there
    rintro ⟨o10, o10b, o10c, o13⟩ h0
    have h := (show J1 o10 o10b o10c o13 = some (y0, y1) from h0)
    rw [hJ1] at h
    obtain ⟨J1, hJ1, h⟩ := jn_some h
    refine WP.joinA (fun (zz : (List Int)) => ⟨[2036], [(6, vo 2036 (List.length zz)), (5, vi r12), (3, V.t (T.nils)), (2, vi 0)], [(2036, oc 3 (List.map (T.int .i64) zz))]⟩) (fun zz => J1 zz = some (y0, y1)) ?_ ?_
    · -- to where they meet
      refine WP.seq ?_
      obtain ⟨r29, r29b, r29c, r29d, c1, h⟩ := bnd4_some h
      refine WP.path tab_ok mixed [(29, An.callG [(500, 2010)] [V.ref 500 0, vi 16] [(500, oc 151 [ty o10, ti o10b, T.int .u64 o10c])] (vb r29) [(500, oc 151 [ty r29b, ti r29c, T.int .u64 r29d])])] [.keep [29, 6, 5, 4, 3, 2], .keepO [2010, 2013]] (ps := [(CG Try.prog 205 [V.ref 500 0, vi 16] [(500, oc 151 [ty o10, ti o10b, T.int .u64 o10c])] (vb r29) [(500, oc 151 [ty r29b, ti r29c, T.int .u64 r29d])]), ((V.ref 500 0).ren (renF [(500, 2010)]) = V.ref 2010 0), (WkT (ti 16) (ti 16)), ((oc 151 [ty o10, ti o10b, T.int .u64 o10c]) = (oc 151 [ty o10, ti o10b, T.int .u64 o10c]).ren (renF [(500, 2010)]))]) (e := .normal) (σ' := ⟨[2010, 2013], [(29, vb r29), (6, vo 2013 (List.length o13)), (5, vi r12), (4, V.ref 2010 0), (3, V.t (T.nils)), (2, vi 0)], [(2010, oc 151 [ty r29b, ti r29c, T.int .u64 r29d]), (2013, oc 3 (List.map (T.int .i64) o13))]⟩) (by kernel_rfl) ⟨(F_p_spec_l1Cur_one_W o10 o10b o10c (16 : Int) r29 r29b r29c r29d c1), by first | rfl | (simp [V.ren, V.renL, renF, lk]; done) | (simp [V.ren, V.renL, renF, lk]; omega), WkT.refl _, by first | rfl | (simp only [tlS]; rfl) | (simp [Tl.Obj.ren, V.ren, V.renL, renF, lk]; done), trivial⟩ ?_
      rcases ite_some h with ⟨h2, h⟩ | ⟨h2, h⟩
      · -- yes
        refine WP.cond (b := r29) rfl (fun _ => ?_) (fun hh => by rw [h2] at hh; cases hh)
        obtain ⟨r34, r34b, r34c, r34d, c2, h⟩ := bnd4_some h
        obtain ⟨c3, h⟩ := chk_some h
        refine WP.path tab_ok mixed [(33, An.fz), (34, An.callG [(500, 2010)] [V.ref 500 0, vl [(-1 : Int), r12, (0 : Int)]] [(500, oc 151 [ty r29b, ti r29c, T.int .u64 r29d])] (vi r34) [(500, oc 151 [ty r34b, ti r34c, T.int .u64 r34d])]), (35, An.fz), (36, An.id 2036)] [.keep [6, 5, 3, 2], .keepO [2036], .names [(2036, 2036)]] (ps := [((1 = 1 ∧ 0 + 1 ≤ 3) ∧ (1 = 1 ∧ 1 + 1 ≤ 3) ∧ (1 = 1 ∧ 2 + 1 ≤ 3) ∧ True), (3 = 3 * 1), (CG Try.prog 172 [V.ref 500 0, vl [(-1 : Int), r12, (0 : Int)]] [(500, oc 151 [ty r29b, ti r29c, T.int .u64 r29d])] (vi r34) [(500, oc 151 [ty r34b, ti r34c, T.int .u64 r34d])]), ((V.ref 500 0).ren (renF [(500, 2010)]) = V.ref 2010 0), (WkT (T.list 3 1 [ti (-1), ti r12, ti 0]) (tl [(-1 : Int), r12, (0 : Int)])), ((oc 151 [ty r29b, ti r29c, T.int .u64 r29d]) = (oc 151 [ty r29b, ti r29c, T.int .u64 r29d]).ren (renF [(500, 2010)])), ((1 = 1 ∧ 0 + 1 ≤ 1) ∧ True), (1 = 1 * 1), (True), (List.length (List.map (T.int .i64) o13) = (List.length o13) * 1), ((((List.length o13) + 1) * 8 ≤ 140737488355328 ∧ (List.length o13) + 1 ≤ maxLen))]) (e := .normal) (σ' := ⟨[2036], [(6, vo 2036 ((List.length o13) + 1)), (5, vi r12), (3, V.t (T.nils)), (2, vi 0)], [(2036, oc 3 ((List.map (T.int .i64) o13) ++ [ti r34]))]⟩) (by kernel_rfl) ⟨⟨⟨by first | rfl | (simp; done) | (simp []; done) | omega, by first | decide | (simp; done) | (simp []; done) | omega | (simp only [tlL]; omega) | (simp; omega)⟩, ⟨by first | rfl | (simp; done) | (simp []; done) | omega, by first | decide | (simp; done) | (simp []; done) | omega | (simp only [tlL]; omega) | (simp; omega)⟩, ⟨by first | rfl | (simp; done) | (simp []; done) | omega, by first | decide | (simp; done) | (simp []; done) | omega | (simp only [tlL]; omega) | (simp; omega)⟩, trivial⟩, by decide, (F_p_spec_l1Cur_among_W r29b r29c r29d [(-1 : Int), r12, (0 : Int)] r34 r34b r34c r34d c2), by first | rfl | (simp [V.ren, V.renL, renF, lk]; done) | (simp [V.ren, V.renL, renF, lk]; omega), WkT.eq (WkT.refl _) (by first | rfl | (simp only [tlS, tl, vl, vo, oc, ov, tbl, vbl, ty, vy]; done) | (simp only [tlS, tl, vl, vo, oc, ov, tbl, vbl, ty, vy]; rfl) | (simp; done) | (simp []; done) | (rw [List.take_of_length_le (by simp [])]; done) | (rw [List.take_of_length_le (by simp [])]; rfl) | (simp only [tlL]; omega) | (simp; omega)), by first | rfl | (simp only [tlS]; rfl) | (simp [Tl.Obj.ren, V.ren, V.renL, renF, lk]; done), ⟨⟨by first | rfl | (simp; done) | (simp []; done) | omega, by first | decide | (simp; done) | (simp []; done) | omega | (simp only [tlL]; omega) | (simp; omega)⟩, trivial⟩, by decide, trivial, by first | rfl | (simp; done) | omega | (simp only [tlL]; omega) | (simp; omega) | (simp []; done) | (simp []; omega), c3, trivial⟩ ?_
        exact ⟨(o13 ++ [r34]), h, (by first | rfl | (simp only [tlS, tl, vl, vo, oc, ov, tbl, vbl, ty, vy]; done) | (simp only [tlS, tl, vl, vo, oc, ov, tbl, vbl, ty, vy]; rfl) | (simp; done) | (simp []; done) | (rw [List.take_of_length_le (by simp [])]; done) | (rw [List.take_of_length_le (by simp [])]; rfl) | (simp only [tlL]; omega) | (simp; omega))⟩
      · -- no
        refine WP.cond (b := r29) rfl (fun hh => by rw [h2] at hh; cases hh) (fun _ => ?_)
        refine WP.path tab_ok mixed [] [.keep [6, 5, 3, 2], .keepO [2013], .names [(2013, 2036)]] (ps := []) (e := .normal) (σ' := ⟨[2036], [(6, vo 2036 (List.length o13)), (5, vi r12), (3, V.t (T.nils)), (2, vi 0)], [(2036, oc 3 (List.map (T.int .i64) o13))]⟩) (by kernel_rfl) trivial ?_
        exact ⟨(o13), h, rfl⟩
    · -- from there
      intro o36 h0
      have h := (show J1 o36 = some (y0, y1) from h0)
      rw [hJ1] at h
      simp only [Option.some.injEq, Prod.mk.injEq] at h
      obtain ⟨rfl, rfl⟩ := h
      exact WP.pathG tab_ok mixed [] [.keep [2, 3], .keepO [2036], .names [(2036, 9000)]] [9000] _ (r' := V.tup [vi r12, vo 9000 (List.length o36)]) (ps := []) (r := V.tup [vi r12, vo 9000 (List.length o36)]) (N := [9000]) (O := [(9000, oc 3 (List.map (T.int .i64) o36))]) [] (by kernel_rfl) trivial ⟨(WkT.refl _), rfl, trivial⟩ rfl rfl (fun _ h => h)
theorem F_spec_DrawQuestionOf_W_C (x0 : List Int) (y0 : Int) (y1 : List Int) (h : F_spec_DrawQuestionOf x0 = some (y0, y1)) : C Try.prog 94 [ty x0] (T.tup [ti y0, tl y1]) :=
  CG.toC (ps := [(List.length (List.map (T.int .i64) y1) = (List.length y1) * 1)]) (F_spec_DrawQuestionOf_W  x0 y0 y1 h) (by rfl) ⟨by first | rfl | (simp; done) | omega | (simp; omega) | (simp [hl]; done) | (simp [hl]; omega), trivial⟩
theorem F_impl_QuestionOf_W (x0 : Int) (x1 : List Int) (y0 : Int) (y1 : Bool) (h : F_impl_QuestionOf x0 x1 = some (y0, y1)) : C Try.prog 95 [ti x0, tl x1] (T.tup [ti y0, tb y1]) := by
  unfold F_impl_QuestionOf at h
  refine C.intro (tab := tab) tab_ok (fn := Try.f95) Try.func95 (by kernel_rfl) rfl (Nat.le_of_ble_eq_true rfl) ?_
  refine WP.seq ?_
  refine WP.path tab_ok mixed [] [.keep [5, 4, 0, 1], .keepO []] (ps := []) (e := .normal) (σ' := ⟨[], [(5, vb false), (4, vi 0), (0, vi x0), (1, vl x1)], []⟩) (by kernel_rfl) trivial ?_
  refine WP.seq ?_
  obtain ⟨J1, hJ1, h⟩ := jn_some h
  refine WP.joinA (fun (zz : Bool) => ⟨[], [(16, vb zz), (5, vb false), (4, vi 0), (0, vi x0), (1, vl x1)], []⟩) (fun zz => J1 zz = some (y0, y1)) ?_ ?_
  · -- to where they meet
    rcases ite_some h with ⟨h1, h⟩ | ⟨h1, h⟩
    · -- yes
      refine WP.path tab_ok mixed [(10, An.call (tb (decide (1 ≤ x0) && decide (x0 ≤ 12)))), (12, An.b true)] [.keep [16, 5, 4, 0, 1], .keepO [], .names []] (ps := [(C Try.prog 163 [ti x0] (tb (decide (1 ≤ x0) && decide (x0 ≤ 12)))), ((!(decide (1 ≤ x0) && decide (x0 ≤ 12))) = true)]) (e := .normal) (σ' := ⟨[], [(16, vb true), (5, vb false), (4, vi 0), (0, vi x0), (1, vl x1)], []⟩) (by kernel_rfl) ⟨(isCount_C x0), h1, trivial⟩ ?_
      exact ⟨(true), h, rfl⟩
    · -- no
      refine WP.path tab_ok mixed [(10, An.call (tb (decide (1 ≤ x0) && decide (x0 ≤ 12)))), (12, An.b false)] [.keep [16, 5, 4, 0, 1], .keepO [], .names []] (ps := [(C Try.prog 163 [ti x0] (tb (decide (1 ≤ x0) && decide (x0 ≤ 12)))), ((!(decide (1 ≤ x0) && decide (x0 ≤ 12))) = false), (True)]) (e := .normal) (σ' := ⟨[], [(16, vb (decide (((List.length x1 : Nat) : Int) > (24 : Int)))), (5, vb false), (4, vi 0), (0, vi x0), (1, vl x1)], []⟩) (by kernel_rfl) ⟨(isCount_C x0), h1, trivial, trivial⟩ ?_
      exact ⟨(decide (((List.length x1 : Nat) : Int) > (24 : Int))), h, rfl⟩
  · -- from there
    intro v16 h0
    have h := (show J1 v16 = some (y0, y1) from h0)
    rw [hJ1] at h
    rcases ite_some h with ⟨h2, h⟩ | ⟨h2, h⟩
    · -- yes
      refine WP.cond (b := v16) rfl (fun _ => ?_) (fun hh => by rw [h2] at hh; cases hh)
      simp only [Option.some.injEq, Prod.mk.injEq] at h
      obtain ⟨rfl, rfl⟩ := h
      exact WP.pathW tab_ok mixed [] _ (ps := []) (r := T.tup [ti 0, tb false]) (by kernel_rfl) trivial (WkT.eq (y := T.tup [ti 0, tb false]) (WkT.refl _) (by first | rfl | (simp only [tlS, tl, vl, vo, oc, ov, tbl, vbl, ty, vy]; done) | (simp only [tlS, tl, vl, vo, oc, ov, tbl, vbl, ty, vy]; rfl) | (simp; done) | (simp []; done) | (rw [List.take_of_length_le (by simp [])]; done) | (rw [List.take_of_length_le (by simp [])]; rfl) | (simp only [tlL]; omega) | (simp; omega))) (fun _ h => h)
    · -- no
      refine WP.cond (b := v16) rfl (fun hh => by rw [h2] at hh; cases hh) (fun _ => ?_)
      refine WP.path tab_ok mixed [] [.keep [5, 4, 0, 1], .keepO []] (ps := []) (e := .normal) (σ' := ⟨[], [(5, vb false), (4, vi 0), (0, vi x0), (1, vl x1)], []⟩) (by kernel_rfl) trivial ?_
      refine WP.seq ?_
      refine WP.path tab_ok mixed [] [.keep [6, 5, 4, 0, 1], .keepO []] (ps := []) (e := .normal) (σ' := ⟨[], [(6, vi 0), (5, vb false), (4, vi 0), (0, vi x0), (1, vl x1)], []⟩) (by kernel_rfl) trivial ?_
      obtain ⟨J1, hJ1, h⟩ := jn_some h
      refine WP.joinA (fun (zz : Int) => ⟨[], [(6, vi zz), (5, vb false), (4, vi 0)], []⟩) (fun zz => J1 zz = some (y0, y1)) ?_ ?_
      · -- to where they meet
        refine WP.seq ?_
        refine WP.path tab_ok mixed [] [.keep [19, 18, 17, 6, 5, 4, 0], .keepO []] (ps := []) (e := .normal) (σ' := ⟨[], [(19, vi 0), (18, vi ((List.length x1 : Nat) : Int)), (17, vl x1), (6, vi 0), (5, vb false), (4, vi 0), (0, vi x0)], []⟩) (by kernel_rfl) trivial ?_
        refine WP.block ?_
        refine WP.wk [.keep [19, 18, 17, 6, 5, 4, 0], .keepO [], .names []] (σ' := ⟨[], [(19, vi 0), (18, vi ((List.length x1 : Nat) : Int)), (17, vl x1), (6, vi 0), (5, vb false), (4, vi 0), (0, vi x0)], []⟩) (ps := []) (by kernel_rfl) trivial ?_
        refine WP.st (σ' := ⟨[], [(19, vi (0 : Int)), (18, vi ((List.length x1 : Nat) : Int)), (17, vl x1), (6, vi (0 : Int)), (5, vb false), (4, vi 0), (0, vi x0)], []⟩) (by first | rfl | (simp only [tlS, tl, vl, vo, oc, ov, tbl, vbl, ty, vy]; done) | (simp only [tlS, tl, vl, vo, oc, ov, tbl, vbl, ty, vy]; rfl) | (simp; done) | (simp []; done) | (rw [List.take_of_length_le (by simp [])]; done) | (rw [List.take_of_length_le (by simp [])]; rfl) | (simp only [tlL]; omega) | (simp; omega)) ?_
        refine WP.loop (α := Nat × Int × Int) (fun zz => ⟨[], [(19, vi zz.2.1), (18, vi ((List.length x1 : Nat) : Int)), (17, vl x1), (6, vi zz.2.2), (5, vb false), (4, vi 0), (0, vi x0)], []⟩) (fun zz => F_impl_QuestionOf_L1 x0 x1 J1 zz.1 zz.2.1 zz.2.2 = some (y0, y1)) (fun zz => zz.1) (fuel, (0 : Int), (0 : Int)) h ?_
        rintro ⟨n, v19, v6⟩ h0
        have h := (show F_impl_QuestionOf_L1 x0 x1 J1 n v19 v6 = some (y0, y1) from h0)
        rcases n with _ | n
        · rw [F_impl_QuestionOf_L1] at h; cases h
        · rw [F_impl_QuestionOf_L1] at h
          refine WP.seq ?_
          refine WP.path tab_ok mixed [] [.keep [20, 19, 18, 17, 6, 5, 4, 0], .keepO []] (ps := [(True)]) (e := .normal) (σ' := ⟨[], [(20, vb (decide (v19 < ((List.length x1 : Nat) : Int)))), (19, vi v19), (18, vi ((List.length x1 : Nat) : Int)), (17, vl x1), (6, vi v6), (5, vb false), (4, vi 0), (0, vi x0)], []⟩) (by kernel_rfl) ⟨trivial, trivial⟩ ?_
          refine WP.seq ?_
          rcases ite_some h with ⟨h3, h⟩ | ⟨h3, h⟩
          · -- yes
            refine WP.cond (b := decide (v19 < ((List.length x1 : Nat) : Int))) rfl (fun _ => ?_) (fun hh => by rw [h3] at hh; cases hh)
            refine WP.path tab_ok mixed [] [.keep [19, 18, 17, 6, 5, 4, 0], .keepO []] (ps := []) (e := .normal) (σ' := ⟨[], [(19, vi v19), (18, vi ((List.length x1 : Nat) : Int)), (17, vl x1), (6, vi v6), (5, vb false), (4, vi 0), (0, vi x0)], []⟩) (by kernel_rfl) trivial ?_
            refine WP.seq ?_
            refine WP.block ?_
            refine WP.seq ?_
            obtain ⟨c0, h⟩ := chk_some h
            refine WP.path tab_ok mixed [(22, An.v (ti (List.getD x1 (Int.toNat v19) 0)))] [.keep [8, 19, 18, 17, 6, 5, 4, 0], .keepO []] (ps := [((0 ≤ v19 ∧ v19 < ((List.length x1 : Nat) : Int))), ((List.drop ((Int.toNat v19) * 1) (List.map (T.int .i64) x1) : List T)[0]? = some (ti (List.getD x1 (Int.toNat v19) 0))), (ti (List.getD x1 (Int.toNat v19) 0) = ti (List.getD x1 (Int.toNat v19) 0))]) (e := .normal) (σ' := ⟨[], [(8, vi (List.getD x1 (Int.toNat v19) 0)), (19, vi v19), (18, vi ((List.length x1 : Nat) : Int)), (17, vl x1), (6, vi v6), (5, vb false), (4, vi 0), (0, vi x0)], []⟩) (by kernel_rfl) ⟨c0, at1 (by simp) (by omega), rfl, trivial⟩ ?_
            refine WP.seq ?_
            refine WP.seq ?_
            refine WP.path tab_ok mixed [(25, An.call (tb (numB x0 (List.getD x1 (Int.toNat v19) 0))))] [.keep [26, 8, 19, 18, 17, 6, 5, 4, 0], .keepO []] (ps := [(C Try.prog 156 [ti x0, ti (List.getD x1 (Int.toNat v19) 0)] (tb (numB x0 (List.getD x1 (Int.toNat v19) 0))))]) (e := .normal) (σ' := ⟨[], [(26, vb (!(numB x0 (List.getD x1 (Int.toNat v19) 0)))), (8, vi (List.getD x1 (Int.toNat v19) 0)), (19, vi v19), (18, vi ((List.length x1 : Nat) : Int)), (17, vl x1), (6, vi v6), (5, vb false), (4, vi 0), (0, vi x0)], []⟩) (by kernel_rfl) ⟨(isNumber_C x0 (List.getD x1 (Int.toNat v19) 0)), trivial⟩ ?_
            rcases ite_some h with ⟨h4, h⟩ | ⟨h4, h⟩
            · -- yes
              refine WP.cond (b := !(numB x0 (List.getD x1 (Int.toNat v19) 0))) rfl (fun _ => ?_) (fun hh => by rw [h4] at hh; cases hh)
              simp only [Option.some.injEq, Prod.mk.injEq] at h
              obtain ⟨rfl, rfl⟩ := h
              exact WP.pathW tab_ok mixed [] _ (ps := []) (r := T.tup [ti 0, tb false]) (by kernel_rfl) trivial (WkT.eq (y := T.tup [ti 0, tb false]) (WkT.refl _) (by first | rfl | (simp only [tlS, tl, vl, vo, oc, ov, tbl, vbl, ty, vy]; done) | (simp only [tlS, tl, vl, vo, oc, ov, tbl, vbl, ty, vy]; rfl) | (simp; done) | (simp []; done) | (rw [List.take_of_length_le (by simp [])]; done) | (rw [List.take_of_length_le (by simp [])]; rfl) | (simp only [tlL]; omega) | (simp; omega))) (fun _ h => h)
            · -- no
              refine WP.cond (b := !(numB x0 (List.getD x1 (Int.toNat v19) 0))) rfl (fun hh => by rw [h4] at hh; cases hh) (fun _ => ?_)
              refine WP.path tab_ok mixed [] [.keep [8, 19, 18, 17, 6, 5, 4, 0], .keepO []] (ps := []) (e := .normal) (σ' := ⟨[], [(8, vi (List.getD x1 (Int.toNat v19) 0)), (19, vi v19), (18, vi ((List.length x1 : Nat) : Int)), (17, vl x1), (6, vi v6), (5, vb false), (4, vi 0), (0, vi x0)], []⟩) (by kernel_rfl) trivial ?_
              obtain ⟨c1, h⟩ := chk_some h
              obtain ⟨n30, c2, h⟩ := nam_some h
              refine WP.path tab_ok mixed [(29, An.v (T.int .i64 ((1 : Int) * 2 ^ Int.toNat (List.getD x1 (Int.toNat v19) 0)))), (30, An.v (ti n30))] [.keep [6, 19, 18, 17, 5, 4, 0], .keepO []] (ps := [(0 ≤ (List.getD x1 (Int.toNat v19) 0)), (T.int .i64 (IntKind.wrap .i64 ((1 : Int) * 2 ^ (min (Int.toNat (List.getD x1 (Int.toNat v19) 0)) 64))) = T.int .i64 ((1 : Int) * 2 ^ Int.toNat (List.getD x1 (Int.toNat v19) 0))), (True), (ti (bits .or .i64 v6 ((1 : Int) * 2 ^ Int.toNat (List.getD x1 (Int.toNat v19) 0))) = ti n30)]) (e := .normal) (σ' := ⟨[], [(6, vi n30), (19, vi v19), (18, vi ((List.length x1 : Nat) : Int)), (17, vl x1), (5, vb false), (4, vi 0), (0, vi x0)], []⟩) (by kernel_rfl) ⟨c1.1, shl_told c1, trivial, congrArg (ti) c2, trivial⟩ ?_
              obtain ⟨c3, h⟩ := chk_some h
              refine WP.path tab_ok mixed [(31, An.v (T.int .i64 (v19 + (1 : Int))))] [.keep [19, 18, 17, 6, 5, 4, 0], .keepO [], .names []] (ps := [(True), (T.int .i64 (IntKind.wrap .i64 (v19 + (1 : Int))) = T.int .i64 (v19 + (1 : Int)))]) (e := .normal) (σ' := ⟨[], [(19, vi (v19 + (1 : Int))), (18, vi ((List.length x1 : Nat) : Int)), (17, vl x1), (6, vi n30), (5, vb false), (4, vi 0), (0, vi x0)], []⟩) (by kernel_rfl) ⟨trivial, wrapI c3, trivial⟩ ?_
              exact ⟨(n, (v19 + (1 : Int)), n30), h, Nat.lt_succ_self _, rfl⟩
          · -- no
            refine WP.cond (b := decide (v19 < ((List.length x1 : Nat) : Int))) rfl (fun hh => by rw [h3] at hh; cases hh) (fun _ => ?_)
            refine WP.path tab_ok mixed [] [.keep [6, 5, 4], .keepO [], .names []] (ps := []) (e := (.exit 0)) (σ' := ⟨[], [(6, vi v6), (5, vb false), (4, vi 0)], []⟩) (by kernel_rfl) trivial ?_
            exact ⟨(v6), h, rfl⟩
      · -- from there
        intro v6 h0
        have h := (show J1 v6 = some (y0, y1) from h0)
        rw [hJ1] at h
        simp only [Option.some.injEq, Prod.mk.injEq] at h
        obtain ⟨rfl, rfl⟩ := h
        exact WP.pathW tab_ok mixed [] _ (ps := []) (r := T.tup [ti v6, tb true]) (by kernel_rfl) trivial (WkT.eq (y := T.tup [ti v6, tb true]) (WkT.refl _) rfl) (fun _ h => h)
theorem F_spec_QuestionOf_W (x0 : Int) (x1 : List Int) (y0 : Int) (y1 : Bool) (h : F_spec_QuestionOf x0 x1 = some (y0, y1)) : C Try.prog 96 [ti x0, tl x1] (T.tup [ti y0, tb y1]) := by
  unfold F_spec_QuestionOf at h
  refine C.intro (tab := tab) tab_ok (fn := Try.f96) Try.func96 (by kernel_rfl) rfl (Nat.le_of_ble_eq_true rfl) ?_
  refine WP.seq ?_
  refine WP.path tab_ok mixed [] [.keep [5, 4, 0, 1], .keepO []] (ps := []) (e := .normal) (σ' := ⟨[], [(5, vb false), (4, vi 0), (0, vi x0), (1, vl x1)], []⟩) (by kernel_rfl) trivial ?_
  refine WP.seq ?_
  obtain ⟨J1, hJ1, h⟩ := jn_some h
  refine WP.joinA (fun (zz : Bool) => ⟨[], [(15, vb zz), (5, vb false), (4, vi 0), (0, vi x0), (1, vl x1)], []⟩) (fun zz => J1 zz = some (y0, y1)) ?_ ?_
  · -- to where they meet
    rcases ite_some h with ⟨h1, h⟩ | ⟨h1, h⟩
    · -- yes
      refine WP.path tab_ok mixed [(9, An.call (tb (decide (x0 ≥ 1) && decide (x0 ≤ 12)))), (11, An.b true)] [.keep [15, 5, 4, 0, 1], .keepO [], .names []] (ps := [(C Try.prog 167 [ti x0] (tb (decide (x0 ≥ 1) && decide (x0 ≤ 12)))), ((!(decide (x0 ≥ 1) && decide (x0 ≤ 12))) = true)]) (e := .normal) (σ' := ⟨[], [(15, vb true), (5, vb false), (4, vi 0), (0, vi x0), (1, vl x1)], []⟩) (by kernel_rfl) ⟨(l2Numbers_C x0), h1, trivial⟩ ?_
      exact ⟨(true), h, rfl⟩
    · -- no
      refine WP.path tab_ok mixed [(9, An.call (tb (decide (x0 ≥ 1) && decide (x0 ≤ 12)))), (11, An.b false)] [.keep [15, 5, 4, 0, 1], .keepO [], .names []] (ps := [(C Try.prog 167 [ti x0] (tb (decide (x0 ≥ 1) && decide (x0 ≤ 12)))), ((!(decide (x0 ≥ 1) && decide (x0 ≤ 12))) = false), (True)]) (e := .normal) (σ' := ⟨[], [(15, vb (decide (((List.length x1 : Nat) : Int) > (24 : Int)))), (5, vb false), (4, vi 0), (0, vi x0), (1, vl x1)], []⟩) (by kernel_rfl) ⟨(l2Numbers_C x0), h1, trivial, trivial⟩ ?_
      exact ⟨(decide (((List.length x1 : Nat) : Int) > (24 : Int))), h, rfl⟩
  · -- from there
    intro v15 h0
    have h := (show J1 v15 = some (y0, y1) from h0)
    rw [hJ1] at h
    rcases ite_some h with ⟨h2, h⟩ | ⟨h2, h⟩
    · -- yes
      refine WP.cond (b := v15) rfl (fun _ => ?_) (fun hh => by rw [h2] at hh; cases hh)
      simp only [Option.some.injEq, Prod.mk.injEq] at h
      obtain ⟨rfl, rfl⟩ := h
      exact WP.pathW tab_ok mixed [] _ (ps := []) (r := T.tup [ti 0, tb false]) (by kernel_rfl) trivial (WkT.eq (y := T.tup [ti 0, tb false]) (WkT.refl _) (by first | rfl | (simp only [tlS, tl, vl, vo, oc, ov, tbl, vbl, ty, vy]; done) | (simp only [tlS, tl, vl, vo, oc, ov, tbl, vbl, ty, vy]; rfl) | (simp; done) | (simp []; done) | (rw [List.take_of_length_le (by simp [])]; done) | (rw [List.take_of_length_le (by simp [])]; rfl) | (simp only [tlL]; omega) | (simp; omega))) (fun _ h => h)
    · -- no
      refine WP.cond (b := v15) rfl (fun hh => by rw [h2] at hh; cases hh) (fun _ => ?_)
      refine WP.path tab_ok mixed [] [.keep [5, 4, 0, 1], .keepO []] (ps := []) (e := .normal) (σ' := ⟨[], [(5, vb false), (4, vi 0), (0, vi x0), (1, vl x1)], []⟩) (by kernel_rfl) trivial ?_
      refine WP.seq ?_
      refine WP.path tab_ok mixed [] [.keep [6, 5, 4, 0, 1], .keepO []] (ps := []) (e := .normal) (σ' := ⟨[], [(6, vi 0), (5, vb false), (4, vi 0), (0, vi x0), (1, vl x1)], []⟩) (by kernel_rfl) trivial ?_
      obtain ⟨J1, hJ1, h⟩ := jn_some h
      refine WP.joinA (fun (zz : Int) => ⟨[], [(6, vi zz), (5, vb false), (4, vi 0)], []⟩) (fun zz => J1 zz = some (y0, y1)) ?_ ?_
      · -- to where they meet
        refine WP.seq ?_
        refine WP.path tab_ok mixed [] [.keep [7, 6, 5, 4, 0, 1], .keepO []] (ps := []) (e := .normal) (σ' := ⟨[], [(7, vi 0), (6, vi 0), (5, vb false), (4, vi 0), (0, vi x0), (1, vl x1)], []⟩) (by kernel_rfl) trivial ?_
        refine WP.block ?_
        refine WP.wk [.keep [7, 6, 5, 4, 0, 1], .keepO [], .names []] (σ' := ⟨[], [(7, vi 0), (6, vi 0), (5, vb false), (4, vi 0), (0, vi x0), (1, vl x1)], []⟩) (ps := []) (by kernel_rfl) trivial ?_
        refine WP.st (σ' := ⟨[], [(7, vi (0 : Int)), (6, vi (0 : Int)), (5, vb false), (4, vi 0), (0, vi x0), (1, vl x1)], []⟩) (by first | rfl | (simp only [tlS, tl, vl, vo, oc, ov, tbl, vbl, ty, vy]; done) | (simp only [tlS, tl, vl, vo, oc, ov, tbl, vbl, ty, vy]; rfl) | (simp; done) | (simp []; done) | (rw [List.take_of_length_le (by simp [])]; done) | (rw [List.take_of_length_le (by simp [])]; rfl) | (simp only [tlL]; omega) | (simp; omega)) ?_
        refine WP.loop (α := Nat × Int × Int) (fun zz => ⟨[], [(7, vi zz.2.1), (6, vi zz.2.2), (5, vb false), (4, vi 0), (0, vi x0), (1, vl x1)], []⟩) (fun zz => F_spec_QuestionOf_L1 x0 x1 J1 zz.1 zz.2.1 zz.2.2 = some (y0, y1)) (fun zz => zz.1) (fuel, (0 : Int), (0 : Int)) h ?_
        rintro ⟨n, v7, v6⟩ h0
        have h := (show F_spec_QuestionOf_L1 x0 x1 J1 n v7 v6 = some (y0, y1) from h0)
        rcases n with _ | n
        · rw [F_spec_QuestionOf_L1] at h; cases h
        · rw [F_spec_QuestionOf_L1] at h
          refine WP.seq ?_
          refine WP.seq ?_
          refine WP.path tab_ok mixed [] [.keep [19, 7, 6, 5, 4, 0, 1], .keepO []] (ps := [(True)]) (e := .normal) (σ' := ⟨[], [(19, vb (decide (v7 < ((List.length x1 : Nat) : Int)))), (7, vi v7), (6, vi v6), (5, vb false), (4, vi 0), (0, vi x0), (1, vl x1)], []⟩) (by kernel_rfl) ⟨trivial, trivial⟩ ?_
          rcases ite_some h with ⟨h3, h⟩ | ⟨h3, h⟩
          · -- yes
            refine WP.cond (b := decide (v7 < ((List.length x1 : Nat) : Int))) rfl (fun _ => ?_) (fun hh => by rw [h3] at hh; cases hh)
            refine WP.path tab_ok mixed [] [.keep [7, 6, 5, 4, 0, 1], .keepO []] (ps := []) (e := .normal) (σ' := ⟨[], [(7, vi v7), (6, vi v6), (5, vb false), (4, vi 0), (0, vi x0), (1, vl x1)], []⟩) (by kernel_rfl) trivial ?_
            refine WP.seq ?_
            refine WP.block ?_
            refine WP.seq ?_
            refine WP.seq ?_
            obtain ⟨c0, h⟩ := chk_some h
            obtain ⟨c1, h⟩ := chk_some h
            refine WP.path tab_ok mixed [(25, An.v (ti (List.getD x1 (Int.toNat v7) 0))), (27, An.v (T.int .i64 (x0 - (1 : Int)))), (28, An.call (tb (decide ((List.getD x1 (Int.toNat v7) 0) ≥ (0 : Int)) && decide ((List.getD x1 (Int.toNat v7) 0) ≤ (x0 - (1 : Int))))))] [.keep [29, 7, 6, 5, 4, 0, 1], .keepO []] (ps := [((0 ≤ v7 ∧ v7 < ((List.length x1 : Nat) : Int))), ((List.drop ((Int.toNat v7) * 1) (List.map (T.int .i64) x1) : List T)[0]? = some (ti (List.getD x1 (Int.toNat v7) 0))), (ti (List.getD x1 (Int.toNat v7) 0) = ti (List.getD x1 (Int.toNat v7) 0)), (True), (T.int .i64 (IntKind.wrap .i64 (x0 - (1 : Int))) = T.int .i64 (x0 - (1 : Int))), (C Try.prog 135 [ti (List.getD x1 (Int.toNat v7) 0), ti 0, ti (x0 - (1 : Int))] (tb (decide ((List.getD x1 (Int.toNat v7) 0) ≥ (0 : Int)) && decide ((List.getD x1 (Int.toNat v7) 0) ≤ (x0 - (1 : Int))))))]) (e := .normal) (σ' := ⟨[], [(29, vb (!(decide ((List.getD x1 (Int.toNat v7) 0) ≥ (0 : Int)) && decide ((List.getD x1 (Int.toNat v7) 0) ≤ (x0 - (1 : Int)))))), (7, vi v7), (6, vi v6), (5, vb false), (4, vi 0), (0, vi x0), (1, vl x1)], []⟩) (by kernel_rfl) ⟨c0, at1 (by simp) (by omega), rfl, trivial, wrapI c1, (by have hh := (l1In_C (List.getD x1 (Int.toNat v7) 0) (0 : Int) (x0 - (1 : Int))); simpa using hh), trivial⟩ ?_
            rcases ite_some h with ⟨h4, h⟩ | ⟨h4, h⟩
            · -- yes
              refine WP.cond (b := !(decide ((List.getD x1 (Int.toNat v7) 0) ≥ (0 : Int)) && decide ((List.getD x1 (Int.toNat v7) 0) ≤ (x0 - (1 : Int))))) rfl (fun _ => ?_) (fun hh => by rw [h4] at hh; cases hh)
              simp only [Option.some.injEq, Prod.mk.injEq] at h
              obtain ⟨rfl, rfl⟩ := h
              exact WP.pathW tab_ok mixed [] _ (ps := []) (r := T.tup [ti 0, tb false]) (by kernel_rfl) trivial (WkT.eq (y := T.tup [ti 0, tb false]) (WkT.refl _) (by first | rfl | (simp only [tlS, tl, vl, vo, oc, ov, tbl, vbl, ty, vy]; done) | (simp only [tlS, tl, vl, vo, oc, ov, tbl, vbl, ty, vy]; rfl) | (simp; done) | (simp []; done) | (rw [List.take_of_length_le (by simp [])]; done) | (rw [List.take_of_length_le (by simp [])]; rfl) | (simp only [tlL]; omega) | (simp; omega))) (fun _ h => h)
            · -- no
              refine WP.cond (b := !(decide ((List.getD x1 (Int.toNat v7) 0) ≥ (0 : Int)) && decide ((List.getD x1 (Int.toNat v7) 0) ≤ (x0 - (1 : Int))))) rfl (fun hh => by rw [h4] at hh; cases hh) (fun _ => ?_)
              refine WP.path tab_ok mixed [] [.keep [7, 6, 5, 4, 0, 1], .keepO []] (ps := []) (e := .normal) (σ' := ⟨[], [(7, vi v7), (6, vi v6), (5, vb false), (4, vi 0), (0, vi x0), (1, vl x1)], []⟩) (by kernel_rfl) trivial ?_
              obtain ⟨c2, h⟩ := chk_some h
              obtain ⟨n36, c3, h⟩ := nam_some h
              refine WP.path tab_ok mixed [(34, An.v (ti (List.getD x1 (Int.toNat v7) 0))), (35, An.v (T.int .i64 ((1 : Int) * 2 ^ Int.toNat (List.getD x1 (Int.toNat v7) 0)))), (36, An.v (ti n36))] [.keep [6, 7, 5, 4, 0, 1], .keepO []] (ps := [((0 ≤ v7 ∧ v7 < ((List.length x1 : Nat) : Int))), ((List.drop ((Int.toNat v7) * 1) (List.map (T.int .i64) x1) : List T)[0]? = some (ti (List.getD x1 (Int.toNat v7) 0))), (ti (List.getD x1 (Int.toNat v7) 0) = ti (List.getD x1 (Int.toNat v7) 0)), (0 ≤ (List.getD x1 (Int.toNat v7) 0)), (T.int .i64 (IntKind.wrap .i64 ((1 : Int) * 2 ^ (min (Int.toNat (List.getD x1 (Int.toNat v7) 0)) 64))) = T.int .i64 ((1 : Int) * 2 ^ Int.toNat (List.getD x1 (Int.toNat v7) 0))), (True), (ti (bits .or .i64 v6 ((1 : Int) * 2 ^ Int.toNat (List.getD x1 (Int.toNat v7) 0))) = ti n36)]) (e := .normal) (σ' := ⟨[], [(6, vi n36), (7, vi v7), (5, vb false), (4, vi 0), (0, vi x0), (1, vl x1)], []⟩) (by kernel_rfl) ⟨c0, at1 (by simp) (by omega), rfl, c2.1, shl_told c2, trivial, congrArg (ti) c3, trivial⟩ ?_
              obtain ⟨c4, h⟩ := chk_some h
              refine WP.path tab_ok mixed [(21, An.v (T.int .i64 (v7 + (1 : Int))))] [.keep [7, 6, 5, 4, 0, 1], .keepO [], .names []] (ps := [(True), (T.int .i64 (IntKind.wrap .i64 (v7 + (1 : Int))) = T.int .i64 (v7 + (1 : Int)))]) (e := .normal) (σ' := ⟨[], [(7, vi (v7 + (1 : Int))), (6, vi n36), (5, vb false), (4, vi 0), (0, vi x0), (1, vl x1)], []⟩) (by kernel_rfl) ⟨trivial, wrapI c4, trivial⟩ ?_
              exact ⟨(n, (v7 + (1 : Int)), n36), h, Nat.lt_succ_self _, rfl⟩
          · -- no
            refine WP.cond (b := decide (v7 < ((List.length x1 : Nat) : Int))) rfl (fun hh => by rw [h3] at hh; cases hh) (fun _ => ?_)
            refine WP.path tab_ok mixed [] [.keep [6, 5, 4], .keepO [], .names []] (ps := []) (e := (.exit 0)) (σ' := ⟨[], [(6, vi v6), (5, vb false), (4, vi 0)], []⟩) (by kernel_rfl) trivial ?_
            exact ⟨(v6), h, rfl⟩
      · -- from there
        intro v6 h0
        have h := (show J1 v6 = some (y0, y1) from h0)
        rw [hJ1] at h
        simp only [Option.some.injEq, Prod.mk.injEq] at h
        obtain ⟨rfl, rfl⟩ := h
        exact WP.pathW tab_ok mixed [] _ (ps := []) (r := T.tup [ti v6, tb true]) (by kernel_rfl) trivial (WkT.eq (y := T.tup [ti v6, tb true]) (WkT.refl _) rfl) (fun _ h => h)
theorem F_p_spec_l1Cur_lies_W (x0 : List Int) (x1 : Int) (x2 : Int) (y0 : Int) (y1 : List Int) (y2 : Int) (y3 : Int) (h : F_p_spec_l1Cur_lies x0 x1 x2 = some (y0, y1, y2, y3)) : CG Try.prog 149 [V.ref 500 0] [(500, oc 151 [ty x0, ti x1, T.int .u64 x2])] (vi y0) [(500, oc 151 [ty y1, ti y2, T.int .u64 y3])] := by
  unfold F_p_spec_l1Cur_lies at h
  refine CG.intro (tab := tab) tab_ok (fn := Try.f149) Try.func149 (by kernel_rfl) rfl (Nat.le_of_ble_eq_true rfl) (by kernel_rfl) ?_
  obtain ⟨r5, r5b, r5c, r5d, c0, h⟩ := bnd4_some h
  simp only [Option.some.injEq, Prod.mk.injEq] at h
  obtain ⟨rfl, rfl, rfl, rfl⟩ := h
  exact WP.pathG tab_ok mixed [(4, An.fz), (5, An.callG [(500, 500)] [V.ref 500 0, vl [(1 : Int), (1 : Int), (2 : Int), (0 : Int), (1 : Int), (2 : Int), (1 : Int), (3 : Int), (-1 : Int), (1 : Int), (2 : Int), (0 : Int)]] [(500, oc 151 [ty x0, ti x1, T.int .u64 x2])] (vi r5) [(500, oc 151 [ty r5b, ti r5c, T.int .u64 r5d])])] [.keep [2], .keepO [500], .names [(500, 500)]] [500] _ (r' := vi r5) (ps := [((1 = 1 ∧ 0 + 1 ≤ 12) ∧ (1 = 1 ∧ 1 + 1 ≤ 12) ∧ (1 = 1 ∧ 2 + 1 ≤ 12) ∧ (1 = 1 ∧ 3 + 1 ≤ 12) ∧ (1 = 1 ∧ 4 + 1 ≤ 12) ∧ (1 = 1 ∧ 5 + 1 ≤ 12) ∧ (1 = 1 ∧ 6 + 1 ≤ 12) ∧ (1 = 1 ∧ 7 + 1 ≤ 12) ∧ (1 = 1 ∧ 8 + 1 ≤ 12) ∧ (1 = 1 ∧ 9 + 1 ≤ 12) ∧ (1 = 1 ∧ 10 + 1 ≤ 12) ∧ (1 = 1 ∧ 11 + 1 ≤ 12) ∧ True), (12 = 12 * 1), (CG Try.prog 172 [V.ref 500 0, vl [(1 : Int), (1 : Int), (2 : Int), (0 : Int), (1 : Int), (2 : Int), (1 : Int), (3 : Int), (-1 : Int), (1 : Int), (2 : Int), (0 : Int)]] [(500, oc 151 [ty x0, ti x1, T.int .u64 x2])] (vi r5) [(500, oc 151 [ty r5b, ti r5c, T.int .u64 r5d])]), ((V.ref 500 0).ren (renF [(500, 500)]) = V.ref 500 0), (WkT (T.list 12 1 [ti 1, ti 1, ti 2, ti 0, ti 1, ti 2, ti 1, ti 3, ti (-1), ti 1, ti 2, ti 0]) (tl [(1 : Int), (1 : Int), (2 : Int), (0 : Int), (1 : Int), (2 : Int), (1 : Int), (3 : Int), (-1 : Int), (1 : Int), (2 : Int), (0 : Int)])), ((oc 151 [ty x0, ti x1, T.int .u64 x2]) = (oc 151 [ty x0, ti x1, T.int .u64 x2]).ren (renF [(500, 500)]))]) (r := vi r5) (N := [500]) (O := [(500, oc 151 [ty r5b, ti r5c, T.int .u64 r5d])]) [] (by kernel_rfl) ⟨⟨⟨by first | rfl | (simp; done) | (simp []; done) | omega, by first | decide | (simp; done) | (simp []; done) | omega | (simp only [tlL]; omega) | (simp; omega)⟩, ⟨by first | rfl | (simp; done) | (simp []; done) | omega, by first | decide | (simp; done) | (simp []; done) | omega | (simp only [tlL]; omega) | (simp; omega)⟩, ⟨by first | rfl | (simp; done) | (simp []; done) | omega, by first | decide | (simp; done) | (simp []; done) | omega | (simp only [tlL]; omega) | (simp; omega)⟩, ⟨by first | rfl | (simp; done) | (simp []; done) | omega, by first | decide | (simp; done) | (simp []; done) | omega | (simp only [tlL]; omega) | (simp; omega)⟩, ⟨by first | rfl | (simp; done) | (simp []; done) | omega, by first | decide | (simp; done) | (simp []; done) | omega | (simp only [tlL]; omega) | (simp; omega)⟩, ⟨by first | rfl | (simp; done) | (simp []; done) | omega, by first | decide | (simp; done) | (simp []; done) | omega | (simp only [tlL]; omega) | (simp; omega)⟩, ⟨by first | rfl | (simp; done) | (simp []; done) | omega, by first | decide | (simp; done) | (simp []; done) | omega | (simp only [tlL]; omega) | (simp; omega)⟩, ⟨by first | rfl | (simp; done) | (simp []; done) | omega, by first | decide | (simp; done) | (simp []; done) | omega | (simp only [tlL]; omega) | (simp; omega)⟩, ⟨by first | rfl | (simp; done) | (simp []; done) | omega, by first | decide | (simp; done) | (simp []; done) | omega | (simp only [tlL]; omega) | (simp; omega)⟩, ⟨by first | rfl | (simp; done) | (simp []; done) | omega, by first | decide | (simp; done) | (simp []; done) | omega | (simp only [tlL]; omega) | (simp; omega)⟩, ⟨by first | rfl | (simp; done) | (simp []; done) | omega, by first | decide | (simp; done) | (simp []; done) | omega | (simp only [tlL]; omega) | (simp; omega)⟩, ⟨by first | rfl | (simp; done) | (simp []; done) | omega, by first | decide | (simp; done) | (simp []; done) | omega | (simp only [tlL]; omega) | (simp; omega)⟩, trivial⟩, by decide, (F_p_spec_l1Cur_among_W x0 x1 x2 [(1 : Int), (1 : Int), (2 : Int), (0 : Int), (1 : Int), (2 : Int), (1 : Int), (3 : Int), (-1 : Int), (1 : Int), (2 : Int), (0 : Int)] r5 r5b r5c r5d c0), by first | rfl | (simp [V.ren, V.renL, renF, lk]; done) | (simp [V.ren, V.renL, renF, lk]; omega), WkT.eq (WkT.refl _) (by first | rfl | (simp only [tlS, tl, vl, vo, oc, ov, tbl, vbl, ty, vy]; done) | (simp only [tlS, tl, vl, vo, oc, ov, tbl, vbl, ty, vy]; rfl) | (simp; done) | (simp []; done) | (rw [List.take_of_length_le (by simp [])]; done) | (rw [List.take_of_length_le (by simp [])]; rfl) | (simp only [tlL]; omega) | (simp; omega)), by first | rfl | (simp only [tlS]; rfl) | (simp [Tl.Obj.ren, V.ren, V.renL, renF, lk]; done), trivial⟩ ⟨(WkT.refl _), trivial⟩ rfl rfl (fun _ h => h)
theorem F_p_spec_l1Cur_state_W (x0 : List Int) (x1 : Int) (x2 : Int) (y0 : List Int) (y1 : Int) (y2 : List Int) (y3 : Int) (y4 : Int) (h : F_p_spec_l1Cur_state x0 x1 x2 = some (y0, y1, y2, y3, y4)) : CG Try.prog 183 [V.ref 500 0] [(500, oc 151 [ty x0, ti x1, T.int .u64 x2])] (V.agg [vo 9000 (List.length y0), vi y1]) [(500, oc 151 [ty y2, ti y3, T.int .u64 y4]), (9000, oc 3 (List.map (T.int .i64) y0))] := by
  unfold F_p_spec_l1Cur_state at h
  refine CG.intro (tab := tab) tab_ok (fn := Try.f183) Try.func183 (by kernel_rfl) rfl (Nat.le_of_ble_eq_true rfl) (by kernel_rfl) ?_
  refine WP.seq ?_
  refine WP.path tab_ok mixed [(2, An.id 2002)] [.keep [2, 0], .keepO [500, 2002]] (ps := []) (e := .normal) (σ' := ⟨[2002, 500], [(2, V.ref 2002 0), (0, V.ref 500 0)], [(500, oc 151 [ty x0, ti x1, T.int .u64 x2]), (2002, oc 28 [T.nils, ti 0])]⟩) (by kernel_rfl) trivial ?_
  refine WP.seq ?_
  obtain ⟨r9, r9b, r9c, r9d, c0, h⟩ := bnd4_some h
  obtain ⟨r11, r11b, r11c, r11d, c1, h⟩ := bnd4_some h
  refine WP.path tab_ok mixed [(9, An.callG [(500, 500)] [V.ref 500 0] [(500, oc 151 [ty x0, ti x1, T.int .u64 x2])] (vi r9) [(500, oc 151 [ty r9b, ti r9c, T.int .u64 r9d])]), (11, An.callG [(500, 500)] [V.ref 500 0] [(500, oc 151 [ty r9b, ti r9c, T.int .u64 r9d])] (vi r11) [(500, oc 151 [ty r11b, ti r11c, T.int .u64 r11d])])] [.keep [4, 3, 2, 0], .keepO [500, 2002]] (ps := [(CG Try.prog 149 [V.ref 500 0] [(500, oc 151 [ty x0, ti x1, T.int .u64 x2])] (vi r9) [(500, oc 151 [ty r9b, ti r9c, T.int .u64 r9d])]), ((V.ref 500 0).ren (renF [(500, 500)]) = V.ref 500 0), ((oc 151 [ty x0, ti x1, T.int .u64 x2]) = (oc 151 [ty x0, ti x1, T.int .u64 x2]).ren (renF [(500, 500)])), (CG Try.prog 147 [V.ref 500 0] [(500, oc 151 [ty r9b, ti r9c, T.int .u64 r9d])] (vi r11) [(500, oc 151 [ty r11b, ti r11c, T.int .u64 r11d])]), ((V.ref 500 0).ren (renF [(500, 500)]) = V.ref 500 0), ((oc 151 [ty r9b, ti r9c, T.int .u64 r9d]) = (oc 151 [ty r9b, ti r9c, T.int .u64 r9d]).ren (renF [(500, 500)]))]) (e := .normal) (σ' := ⟨[2002, 500], [(4, vi r11), (3, vi r9), (2, V.ref 2002 0), (0, V.ref 500 0)], [(500, oc 151 [ty r11b, ti r11c, T.int .u64 r11d]), (2002, oc 28 [T.nils, ti 0])]⟩) (by kernel_rfl) ⟨(F_p_spec_l1Cur_lies_W x0 x1 x2 r9 r9b r9c r9d c0), by first | rfl | (simp [V.ren, V.renL, renF, lk]; done) | (simp [V.ren, V.renL, renF, lk]; omega), by first | rfl | (simp only [tlS]; rfl) | (simp [Tl.Obj.ren, V.ren, V.renL, renF, lk]; done), (F_p_spec_l1Cur_many_W r9b r9c r9d r11 r11b r11c r11d c1), by first | rfl | (simp [V.ren, V.renL, renF, lk]; done) | (simp [V.ren, V.renL, renF, lk]; omega), by first | rfl | (simp only [tlS]; rfl) | (simp [Tl.Obj.ren, V.ren, V.renL, renF, lk]; done), trivial⟩ ?_
  refine WP.seq ?_
  refine WP.path tab_ok mixed [(12, An.id 2012), (5, An.id 2005)] [.keep [5, 4, 3, 2, 0], .keepO [500, 2002, 2005, 2012]] (ps := [(True), (0 = 0 * 1), ((1 = 1 ∧ 0 + 1 ≤ 2) ∧ (1 = 1 ∧ 1 + 1 ≤ 2) ∧ True), ((0 + 2 ≤ 2 ∧ 2 = 2))]) (e := .normal) (σ' := ⟨[2005, 2012, 2002, 500], [(5, V.ref 2005 0), (4, vi r11), (3, vi r9), (2, V.ref 2002 0), (0, V.ref 500 0)], [(500, oc 151 [ty r11b, ti r11c, T.int .u64 r11d]), (2002, oc 28 [T.nils, ti 0]), (2005, ov 28 [vo 2012 0, vi r9]), (2012, oc 3 [])]⟩) (by kernel_rfl) ⟨trivial, by decide, ⟨⟨by decide, by decide⟩, ⟨by decide, by decide⟩, trivial⟩, by decide, trivial⟩ ?_
  obtain ⟨J1, hJ1, h⟩ := jn_some h
  refine WP.joinA (fun (zz : (List Int) × Int × Int × (List Int)) => ⟨[500, 2002, 2005, 2012], [(5, V.ref 2005 0), (4, vi r11), (3, vi r9), (2, V.ref 2002 0), (0, V.ref 500 0)], [(500, oc 151 [ty zz.1, ti zz.2.1, T.int .u64 zz.2.2.1]), (2002, oc 28 [T.nils, ti 0]), (2005, ov 28 [vo 2012 (List.length zz.2.2.2), vi r9]), (2012, oc 3 (List.map (T.int .i64) zz.2.2.2))]⟩) (fun zz => J1 zz.1 zz.2.1 zz.2.2.1 zz.2.2.2 = some (y0, y1, y2, y3, y4)) ?_ ?_
  · -- to where they meet
    refine WP.seq ?_
    refine WP.path tab_ok mixed [] [.keep [6, 5, 4, 3, 2, 0], .keepO [500, 2002, 2005, 2012]] (ps := []) (e := .normal) (σ' := ⟨[2005, 2012, 2002, 500], [(6, vi 0), (5, V.ref 2005 0), (4, vi r11), (3, vi r9), (2, V.ref 2002 0), (0, V.ref 500 0)], [(500, oc 151 [ty r11b, ti r11c, T.int .u64 r11d]), (2002, oc 28 [T.nils, ti 0]), (2005, ov 28 [vo 2012 0, vi r9]), (2012, oc 3 [])]⟩) (by kernel_rfl) trivial ?_
    refine WP.block ?_
    refine WP.wk [.keep [6, 5, 4, 3, 2, 0], .keepO [500, 2002, 2005, 2012], .names [(500, 500), (2002, 2002), (2005, 2005), (2012, 2012)]] (σ' := ⟨[500, 2002, 2005, 2012], [(6, vi 0), (5, V.ref 2005 0), (4, vi r11), (3, vi r9), (2, V.ref 2002 0), (0, V.ref 500 0)], [(500, oc 151 [ty r11b, ti r11c, T.int .u64 r11d]), (2002, oc 28 [T.nils, ti 0]), (2005, ov 28 [vo 2012 0, vi r9]), (2012, oc 3 [])]⟩) (ps := []) (by kernel_rfl) trivial ?_
    refine WP.st (σ' := ⟨[500, 2002, 2005, 2012], [(6, vi (0 : Int)), (5, V.ref 2005 0), (4, vi r11), (3, vi r9), (2, V.ref 2002 0), (0, V.ref 500 0)], [(500, oc 151 [ty r11b, ti r11c, T.int .u64 r11d]), (2002, oc 28 [T.nils, ti 0]), (2005, ov 28 [vo 2012 (List.length ([] : List Int)), vi r9]), (2012, oc 3 (List.map (T.int .i64) ([] : List Int)))]⟩) (by first | rfl | (simp only [tlS, tl, vl, vo, oc, ov, tbl, vbl, ty, vy]; done) | (simp only [tlS, tl, vl, vo, oc, ov, tbl, vbl, ty, vy]; rfl) | (simp; done) | (simp []; done) | (rw [List.take_of_length_le (by simp [])]; done) | (rw [List.take_of_length_le (by simp [])]; rfl) | (simp only [tlL]; omega) | (simp; omega)) ?_
    refine WP.loop (α := Nat × (List Int) × Int × Int × (List Int) × Int) (fun zz => ⟨[500, 2002, 2005, 2012], [(6, vi zz.2.2.2.2.2), (5, V.ref 2005 0), (4, vi r11), (3, vi r9), (2, V.ref 2002 0), (0, V.ref 500 0)], [(500, oc 151 [ty zz.2.1, ti zz.2.2.1, T.int .u64 zz.2.2.2.1]), (2002, oc 28 [T.nils, ti 0]), (2005, ov 28 [vo 2012 (List.length zz.2.2.2.2.1), vi r9]), (2012, oc 3 (List.map (T.int .i64) zz.2.2.2.2.1))]⟩) (fun zz => F_p_spec_l1Cur_state_L1 r9 r11 J1 zz.1 zz.2.1 zz.2.2.1 zz.2.2.2.1 zz.2.2.2.2.1 zz.2.2.2.2.2 = some (y0, y1, y2, y3, y4)) (fun zz => zz.1) (fuel, r11b, r11c, r11d, ([] : List Int), (0 : Int)) h ?_
    rintro ⟨n, o500, o500b, o500c, o12, v6⟩ h0
    have h := (show F_p_spec_l1Cur_state_L1 r9 r11 J1 n o500 o500b o500c o12 v6 = some (y0, y1, y2, y3, y4) from h0)
    rcases n with _ | n
    · rw [F_p_spec_l1Cur_state_L1] at h; cases h
    · rw [F_p_spec_l1Cur_state_L1] at h
      refine WP.seq ?_
      refine WP.seq ?_
      refine WP.path tab_ok mixed [] [.keep [17, 6, 5, 4, 3, 2, 0], .keepO [500, 2002, 2005, 2012]] (ps := [(True)]) (e := .normal) (σ' := ⟨[500, 2002, 2005, 2012], [(17, vb (decide (v6 < r11))), (6, vi v6), (5, V.ref 2005 0), (4, vi r11), (3, vi r9), (2, V.ref 2002 0), (0, V.ref 500 0)], [(500, oc 151 [ty o500, ti o500b, T.int .u64 o500c]), (2002, oc 28 [T.nils, ti 0]), (2005, ov 28 [vo 2012 (List.length o12), vi r9]), (2012, oc 3 (List.map (T.int .i64) o12))]⟩) (by kernel_rfl) ⟨trivial, trivial⟩ ?_
      rcases ite_some h with ⟨h1, h⟩ | ⟨h1, h⟩
      · -- yes
        refine WP.cond (b := decide (v6 < r11)) rfl (fun _ => ?_) (fun hh => by rw [h1] at hh; cases hh)
        refine WP.path tab_ok mixed [] [.keep [6, 5, 4, 3, 2, 0], .keepO [500, 2002, 2005, 2012]] (ps := []) (e := .normal) (σ' := ⟨[500, 2002, 2005, 2012], [(6, vi v6), (5, V.ref 2005 0), (4, vi r11), (3, vi r9), (2, V.ref 2002 0), (0, V.ref 500 0)], [(500, oc 151 [ty o500, ti o500b, T.int .u64 o500c]), (2002, oc 28 [T.nils, ti 0]), (2005, ov 28 [vo 2012 (List.length o12), vi r9]), (2012, oc 3 (List.map (T.int .i64) o12))]⟩) (by kernel_rfl) trivial ?_
        refine WP.seq ?_
        refine WP.block ?_
        obtain ⟨c2, h⟩ := chk_some h
        obtain ⟨r26, r26b, r26c, r26d, c3, h⟩ := bnd4_some h
        obtain ⟨r28, r28b, r28c, r28d, c4, h⟩ := bnd4_some h
        obtain ⟨c5, h⟩ := chk_some h
        obtain ⟨c6, h⟩ := chk_some h
        obtain ⟨c7, h⟩ := chk_some h
        refine WP.path tab_ok mixed [(24, An.v (T.int .i64 (r9 + (2 : Int)))), (25, An.call (ti (maxN (1 : Int) (r9 + (2 : Int))))), (26, An.callG [(500, 500)] [V.ref 500 0, vi (maxN (1 : Int) (r9 + (2 : Int)))] [(500, oc 151 [ty o500, ti o500b, T.int .u64 o500c])] (vi r26) [(500, oc 151 [ty r26b, ti r26c, T.int .u64 r26d])]), (28, An.callG [(500, 500)] [V.ref 500 0, vi 6] [(500, oc 151 [ty r26b, ti r26c, T.int .u64 r26d])] (vi r28) [(500, oc 151 [ty r28b, ti r28c, T.int .u64 r28d])]), (29, An.v (T.int .i64 (Int.tdiv r28 (5 : Int)))), (30, An.v (T.int .i64 (r26 - (Int.tdiv r28 (5 : Int))))), (31, An.fz), (32, An.id 2032)] [.keep [6, 5, 4, 3, 2, 0], .keepO [500, 2002, 2005, 2032]] (ps := [(True), (True), (T.int .i64 (IntKind.wrap .i64 (r9 + (2 : Int))) = T.int .i64 (r9 + (2 : Int))), (C Try.prog 155 [ti 1, ti (r9 + (2 : Int))] (ti (maxN (1 : Int) (r9 + (2 : Int))))), (CG Try.prog 154 [V.ref 500 0, vi (maxN (1 : Int) (r9 + (2 : Int)))] [(500, oc 151 [ty o500, ti o500b, T.int .u64 o500c])] (vi r26) [(500, oc 151 [ty r26b, ti r26c, T.int .u64 r26d])]), ((V.ref 500 0).ren (renF [(500, 500)]) = V.ref 500 0), (WkT (ti (maxN (1 : Int) (r9 + (2 : Int)))) (ti (maxN (1 : Int) (r9 + (2 : Int))))), ((oc 151 [ty o500, ti o500b, T.int .u64 o500c]) = (oc 151 [ty o500, ti o500b, T.int .u64 o500c]).ren (renF [(500, 500)])), (CG Try.prog 154 [V.ref 500 0, vi 6] [(500, oc 151 [ty r26b, ti r26c, T.int .u64 r26d])] (vi r28) [(500, oc 151 [ty r28b, ti r28c, T.int .u64 r28d])]), ((V.ref 500 0).ren (renF [(500, 500)]) = V.ref 500 0), (WkT (ti 6) (ti 6)), ((oc 151 [ty r26b, ti r26c, T.int .u64 r26d]) = (oc 151 [ty r26b, ti r26c, T.int .u64 r26d]).ren (renF [(500, 500)])), ((5 : Int) ≠ 0), (T.int .i64 (IntKind.wrap .i64 (Int.tdiv r28 (5 : Int))) = T.int .i64 (Int.tdiv r28 (5 : Int))), (True), (T.int .i64 (IntKind.wrap .i64 (r26 - (Int.tdiv r28 (5 : Int)))) = T.int .i64 (r26 - (Int.tdiv r28 (5 : Int)))), ((1 = 1 ∧ 0 + 1 ≤ 1) ∧ True), (1 = 1 * 1), (True), (List.length (List.map (T.int .i64) o12) = (List.length o12) * 1), ((((List.length o12) + 1) * 8 ≤ 140737488355328 ∧ (List.length o12) + 1 ≤ maxLen)), (0 < 2)]) (e := .normal) (σ' := ⟨[2032, 500, 2002, 2005, 2012], [(6, vi v6), (5, V.ref 2005 0), (4, vi r11), (3, vi r9), (2, V.ref 2002 0), (0, V.ref 500 0)], [(500, oc 151 [ty r28b, ti r28c, T.int .u64 r28d]), (2002, oc 28 [T.nils, ti 0]), (2005, ov 28 [vo 2032 ((List.length o12) + 1), vi r9]), (2032, oc 3 ((List.map (T.int .i64) o12) ++ [ti (r26 - (Int.tdiv r28 (5 : Int)))]))]⟩) (by kernel_rfl) ⟨trivial, trivial, wrapI c2, (by have hh := (l1Most_C (1 : Int) (r9 + (2 : Int))); simpa using hh), (F_p_spec_l1Cur_pick_W o500 o500b o500c (maxN (1 : Int) (r9 + (2 : Int))) r26 r26b r26c r26d c3), by first | rfl | (simp [V.ren, V.renL, renF, lk]; done) | (simp [V.ren, V.renL, renF, lk]; omega), WkT.refl _, by first | rfl | (simp only [tlS]; rfl) | (simp [Tl.Obj.ren, V.ren, V.renL, renF, lk]; done), (F_p_spec_l1Cur_pick_W r26b r26c r26d (6 : Int) r28 r28b r28c r28d c4), by first | rfl | (simp [V.ren, V.renL, renF, lk]; done) | (simp [V.ren, V.renL, renF, lk]; omega), WkT.refl _, by first | rfl | (simp only [tlS]; rfl) | (simp [Tl.Obj.ren, V.ren, V.renL, renF, lk]; done), (show (5 : Int) ≠ 0 by first | decide | (simp only [maxLen]; omega) | (unfold I64; omega) | (unfold I64; decide)), quo_told c5, trivial, wrapI c6, ⟨⟨by first | rfl | (simp; done) | (simp []; done) | omega, by first | decide | (simp; done) | (simp []; done) | omega | (simp only [tlL]; omega) | (simp; omega)⟩, trivial⟩, by decide, trivial, by first | rfl | (simp; done) | omega | (simp only [tlL]; omega) | (simp; omega) | (simp []; done) | (simp []; omega), c7, by decide, trivial⟩ ?_
        obtain ⟨c8, h⟩ := chk_some h
        refine WP.path tab_ok mixed [(19, An.v (T.int .i64 (v6 + (1 : Int))))] [.keep [6, 5, 4, 3, 2, 0], .keepO [500, 2002, 2005, 2032], .names [(500, 500), (2002, 2002), (2005, 2005), (2032, 2012)]] (ps := [(True), (T.int .i64 (IntKind.wrap .i64 (v6 + (1 : Int))) = T.int .i64 (v6 + (1 : Int)))]) (e := .normal) (σ' := ⟨[500, 2002, 2005, 2012], [(6, vi (v6 + (1 : Int))), (5, V.ref 2005 0), (4, vi r11), (3, vi r9), (2, V.ref 2002 0), (0, V.ref 500 0)], [(500, oc 151 [ty r28b, ti r28c, T.int .u64 r28d]), (2002, oc 28 [T.nils, ti 0]), (2005, ov 28 [vo 2012 ((List.length o12) + 1), vi r9]), (2012, oc 3 ((List.map (T.int .i64) o12) ++ [ti (r26 - (Int.tdiv r28 (5 : Int)))]))]⟩) (by kernel_rfl) ⟨trivial, wrapI c8, trivial⟩ ?_
        exact ⟨(n, r28b, r28c, r28d, o12 ++ [(r26 - (Int.tdiv r28 (5 : Int)))], (v6 + (1 : Int))), h, Nat.lt_succ_self _, (by first | rfl | (simp only [tlS, tl, vl, vo, oc, ov, tbl, vbl, ty, vy]; done) | (simp only [tlS, tl, vl, vo, oc, ov, tbl, vbl, ty, vy]; rfl) | (simp; done) | (simp []; done) | (rw [List.take_of_length_le (by simp [])]; done) | (rw [List.take_of_length_le (by simp [])]; rfl) | (simp only [tlL]; omega) | (simp; omega))⟩
      · -- no
        refine WP.cond (b := decide (v6 < r11)) rfl (fun hh => by rw [h1] at hh; cases hh) (fun _ => ?_)
        refine WP.path tab_ok mixed [] [.keep [5, 4, 3, 2, 0], .keepO [500, 2002, 2005, 2012], .names [(500, 500), (2002, 2002), (2005, 2005), (2012, 2012)]] (ps := []) (e := (.exit 0)) (σ' := ⟨[500, 2002, 2005, 2012], [(5, V.ref 2005 0), (4, vi r11), (3, vi r9), (2, V.ref 2002 0), (0, V.ref 500 0)], [(500, oc 151 [ty o500, ti o500b, T.int .u64 o500c]), (2002, oc 28 [T.nils, ti 0]), (2005, ov 28 [vo 2012 (List.length o12), vi r9]), (2012, oc 3 (List.map (T.int .i64) o12))]⟩) (by kernel_rfl) trivial ?_
        exact ⟨(o500, o500b, o500c, o12), h, rfl⟩
  · -- from there
    rintro ⟨o500, o500b, o500c, o12⟩ h0
    have h := (show J1 o500 o500b o500c o12 = some (y0, y1, y2, y3, y4) from h0)
    rw [hJ1] at h
    obtain ⟨J1, hJ1, h⟩ := jn_some h
    refine WP.joinA (fun (zz : (List Int) × Int × Int × (List Int)) => ⟨[500, 2002, 2005, 2012], [(5, V.ref 2005 0), (2, V.ref 2002 0)], [(500, oc 151 [ty zz.1, ti zz.2.1, T.int .u64 zz.2.2.1]), (2002, oc 28 [T.nils, ti 0]), (2005, ov 28 [vo 2012 (List.length zz.2.2.2), vi r9]), (2012, oc 3 (List.map (T.int .i64) zz.2.2.2))]⟩) (fun zz => J1 zz.1 zz.2.1 zz.2.2.1 zz.2.2.2 = some (y0, y1, y2, y3, y4)) ?_ ?_
    · -- to where they meet
      refine WP.seq ?_
      refine WP.path tab_ok mixed [] [.keep [7, 5, 4, 3, 2, 0], .keepO [500, 2002, 2005, 2012]] (ps := []) (e := .normal) (σ' := ⟨[500, 2002, 2005, 2012], [(7, vi 0), (5, V.ref 2005 0), (4, vi r11), (3, vi r9), (2, V.ref 2002 0), (0, V.ref 500 0)], [(500, oc 151 [ty o500, ti o500b, T.int .u64 o500c]), (2002, oc 28 [T.nils, ti 0]), (2005, ov 28 [vo 2012 (List.length o12), vi r9]), (2012, oc 3 (List.map (T.int .i64) o12))]⟩) (by kernel_rfl) trivial ?_
      refine WP.block ?_
      refine WP.wk [.keep [7, 5, 4, 3, 2, 0], .keepO [500, 2002, 2005, 2012], .names [(500, 500), (2002, 2002), (2005, 2005), (2012, 2012)]] (σ' := ⟨[500, 2002, 2005, 2012], [(7, vi 0), (5, V.ref 2005 0), (4, vi r11), (3, vi r9), (2, V.ref 2002 0), (0, V.ref 500 0)], [(500, oc 151 [ty o500, ti o500b, T.int .u64 o500c]), (2002, oc 28 [T.nils, ti 0]), (2005, ov 28 [vo 2012 (List.length o12), vi r9]), (2012, oc 3 (List.map (T.int .i64) o12))]⟩) (ps := []) (by kernel_rfl) trivial ?_
      refine WP.st (σ' := ⟨[500, 2002, 2005, 2012], [(7, vi (0 : Int)), (5, V.ref 2005 0), (4, vi r11), (3, vi r9), (2, V.ref 2002 0), (0, V.ref 500 0)], [(500, oc 151 [ty o500, ti o500b, T.int .u64 o500c]), (2002, oc 28 [T.nils, ti 0]), (2005, ov 28 [vo 2012 (List.length o12), vi r9]), (2012, oc 3 (List.map (T.int .i64) o12))]⟩) (by first | rfl | (simp only [tlS, tl, vl, vo, oc, ov, tbl, vbl, ty, vy]; done) | (simp only [tlS, tl, vl, vo, oc, ov, tbl, vbl, ty, vy]; rfl) | (simp; done) | (simp []; done) | (rw [List.take_of_length_le (by simp [])]; done) | (rw [List.take_of_length_le (by simp [])]; rfl) | (simp only [tlL]; omega) | (simp; omega)) ?_
      refine WP.loop (α := Nat × (List Int) × Int × Int × (List Int) × Int) (fun zz => ⟨[500, 2002, 2005, 2012], [(7, vi zz.2.2.2.2.2), (5, V.ref 2005 0), (4, vi r11), (3, vi r9), (2, V.ref 2002 0), (0, V.ref 500 0)], [(500, oc 151 [ty zz.2.1, ti zz.2.2.1, T.int .u64 zz.2.2.2.1]), (2002, oc 28 [T.nils, ti 0]), (2005, ov 28 [vo 2012 (List.length zz.2.2.2.2.1), vi r9]), (2012, oc 3 (List.map (T.int .i64) zz.2.2.2.2.1))]⟩) (fun zz => F_p_spec_l1Cur_state_L2 r9 r11 J1 zz.1 zz.2.1 zz.2.2.1 zz.2.2.2.1 zz.2.2.2.2.1 zz.2.2.2.2.2 = some (y0, y1, y2, y3, y4)) (fun zz => zz.1) (fuel, o500, o500b, o500c, o12, (0 : Int)) h ?_
      rintro ⟨n, o500d, o500e, o500g, o12b, v7⟩ h0
      have h := (show F_p_spec_l1Cur_state_L2 r9 r11 J1 n o500d o500e o500g o12b v7 = some (y0, y1, y2, y3, y4) from h0)
      rcases n with _ | n
      · rw [F_p_spec_l1Cur_state_L2] at h; cases h
      · rw [F_p_spec_l1Cur_state_L2] at h
        refine WP.seq ?_
        refine WP.seq ?_
        refine WP.path tab_ok mixed [] [.keep [36, 7, 5, 4, 3, 2, 0], .keepO [500, 2002, 2005, 2012]] (ps := [(True)]) (e := .normal) (σ' := ⟨[500, 2002, 2005, 2012], [(36, vb (decide (v7 < r11))), (7, vi v7), (5, V.ref 2005 0), (4, vi r11), (3, vi r9), (2, V.ref 2002 0), (0, V.ref 500 0)], [(500, oc 151 [ty o500d, ti o500e, T.int .u64 o500g]), (2002, oc 28 [T.nils, ti 0]), (2005, ov 28 [vo 2012 (List.length o12b), vi r9]), (2012, oc 3 (List.map (T.int .i64) o12b))]⟩) (by kernel_rfl) ⟨trivial, trivial⟩ ?_
        rcases ite_some h with ⟨h2, h⟩ | ⟨h2, h⟩
        · -- yes
          refine WP.cond (b := decide (v7 < r11)) rfl (fun _ => ?_) (fun hh => by rw [h2] at hh; cases hh)
          refine WP.path tab_ok mixed [] [.keep [7, 5, 4, 3, 2, 0], .keepO [500, 2002, 2005, 2012]] (ps := []) (e := .normal) (σ' := ⟨[500, 2002, 2005, 2012], [(7, vi v7), (5, V.ref 2005 0), (4, vi r11), (3, vi r9), (2, V.ref 2002 0), (0, V.ref 500 0)], [(500, oc 151 [ty o500d, ti o500e, T.int .u64 o500g]), (2002, oc 28 [T.nils, ti 0]), (2005, ov 28 [vo 2012 (List.length o12b), vi r9]), (2012, oc 3 (List.map (T.int .i64) o12b))]⟩) (by kernel_rfl) trivial ?_
          refine WP.seq ?_
          refine WP.block ?_
          obtain ⟨J2, hJ2, h⟩ := jn_some h
          refine WP.joinA (fun (zz : (List Int) × Int × Int × Bool) => ⟨[500, 2002, 2005, 2012], [(50, vb zz.2.2.2), (7, vi v7), (5, V.ref 2005 0), (4, vi r11), (3, vi r9), (2, V.ref 2002 0), (0, V.ref 500 0)], [(500, oc 151 [ty zz.1, ti zz.2.1, T.int .u64 zz.2.2.1]), (2002, oc 28 [T.nils, ti 0]), (2005, ov 28 [vo 2012 (List.length o12b), vi r9]), (2012, oc 3 (List.map (T.int .i64) o12b))]⟩) (fun zz => J2 zz.1 zz.2.1 zz.2.2.1 zz.2.2.2 = some (y0, y1, y2, y3, y4)) ?_ ?_
          · -- to where they meet
            obtain ⟨c2, h⟩ := chk_some h
            rcases ite_some h with ⟨h3, h⟩ | ⟨h3, h⟩
            · -- yes
              obtain ⟨r48, r48b, r48c, r48d, c3, h⟩ := bnd4_some h
              refine WP.path tab_ok mixed [(43, An.v (ti (List.getD o12b (Int.toNat v7) 0))), (45, An.b true), (48, An.callG [(500, 500)] [V.ref 500 0, vi 30] [(500, oc 151 [ty o500d, ti o500e, T.int .u64 o500g])] (vb r48) [(500, oc 151 [ty r48b, ti r48c, T.int .u64 r48d])])] [.keep [50, 7, 5, 4, 3, 2, 0], .keepO [500, 2002, 2005, 2012], .names [(500, 500), (2002, 2002), (2005, 2005), (2012, 2012)]] (ps := [(True), ((0 ≤ v7 ∧ v7 < ((List.length o12b : Nat) : Int))), ((List.map (T.int .i64) o12b : List T)[(Int.toNat v7) * 1]? = some (ti (List.getD o12b (Int.toNat v7) 0))), (ti (List.getD o12b (Int.toNat v7) 0) = ti (List.getD o12b (Int.toNat v7) 0)), (True), ((decide ((List.getD o12b (Int.toNat v7) 0) > r9)) = true), (CG Try.prog 205 [V.ref 500 0, vi 30] [(500, oc 151 [ty o500d, ti o500e, T.int .u64 o500g])] (vb r48) [(500, oc 151 [ty r48b, ti r48c, T.int .u64 r48d])]), ((V.ref 500 0).ren (renF [(500, 500)]) = V.ref 500 0), (WkT (ti 30) (ti 30)), ((oc 151 [ty o500d, ti o500e, T.int .u64 o500g]) = (oc 151 [ty o500d, ti o500e, T.int .u64 o500g]).ren (renF [(500, 500)]))]) (e := .normal) (σ' := ⟨[500, 2002, 2005, 2012], [(50, vb !r48), (7, vi v7), (5, V.ref 2005 0), (4, vi r11), (3, vi r9), (2, V.ref 2002 0), (0, V.ref 500 0)], [(500, oc 151 [ty r48b, ti r48c, T.int .u64 r48d]), (2002, oc 28 [T.nils, ti 0]), (2005, ov 28 [vo 2012 (List.length o12b), vi r9]), (2012, oc 3 (List.map (T.int .i64) o12b))]⟩) (by kernel_rfl) ⟨trivial, c2, atM (by simp) (by first | omega | (simp only [tlL]; omega) | (simp; omega)), rfl, trivial, h3, (F_p_spec_l1Cur_one_W o500d o500e o500g (30 : Int) r48 r48b r48c r48d c3), by first | rfl | (simp [V.ren, V.renL, renF, lk]; done) | (simp [V.ren, V.renL, renF, lk]; omega), WkT.refl _, by first | rfl | (simp only [tlS]; rfl) | (simp [Tl.Obj.ren, V.ren, V.renL, renF, lk]; done), trivial⟩ ?_
              exact ⟨(r48b, r48c, r48d, !r48), h, rfl⟩
            · -- no
              refine WP.path tab_ok mixed [(43, An.v (ti (List.getD o12b (Int.toNat v7) 0))), (45, An.b false)] [.keep [50, 7, 5, 4, 3, 2, 0], .keepO [500, 2002, 2005, 2012], .names [(500, 500), (2002, 2002), (2005, 2005), (2012, 2012)]] (ps := [(True), ((0 ≤ v7 ∧ v7 < ((List.length o12b : Nat) : Int))), ((List.map (T.int .i64) o12b : List T)[(Int.toNat v7) * 1]? = some (ti (List.getD o12b (Int.toNat v7) 0))), (ti (List.getD o12b (Int.toNat v7) 0) = ti (List.getD o12b (Int.toNat v7) 0)), (True), ((decide ((List.getD o12b (Int.toNat v7) 0) > r9)) = false)]) (e := .normal) (σ' := ⟨[500, 2002, 2005, 2012], [(50, vb false), (7, vi v7), (5, V.ref 2005 0), (4, vi r11), (3, vi r9), (2, V.ref 2002 0), (0, V.ref 500 0)], [(500, oc 151 [ty o500d, ti o500e, T.int .u64 o500g]), (2002, oc 28 [T.nils, ti 0]), (2005, ov 28 [vo 2012 (List.length o12b), vi r9]), (2012, oc 3 (List.map (T.int .i64) o12b))]⟩) (by kernel_rfl) ⟨trivial, c2, atM (by simp) (by first | omega | (simp only [tlL]; omega) | (simp; omega)), rfl, trivial, h3, trivial⟩ ?_
              exact ⟨(o500d, o500e, o500g, false), h, rfl⟩
          · -- from there
            rintro ⟨o500i, o500j, o500k, v50⟩ h0
            have h := (show J2 o500i o500j o500k v50 = some (y0, y1, y2, y3, y4) from h0)
            rw [hJ2] at h
            rcases ite_some h with ⟨h4, h⟩ | ⟨h4, h⟩
            · -- yes
              refine WP.cond (b := v50) rfl (fun _ => ?_) (fun hh => by rw [h4] at hh; cases hh)
              obtain ⟨c2, h⟩ := chk_some h
              refine WP.path tab_ok mixed [] [.keep [7, 5, 4, 3, 2, 0], .keepO [500, 2002, 2005, 2012]] (ps := [(True), ((0 ≤ v7 ∧ v7 < ((List.length o12b : Nat) : Int))), ((Int.toNat v7) * 1 < List.length (List.map (T.int .i64) o12b))]) (e := .normal) (σ' := ⟨[500, 2002, 2005, 2012], [(7, vi v7), (5, V.ref 2005 0), (4, vi r11), (3, vi r9), (2, V.ref 2002 0), (0, V.ref 500 0)], [(500, oc 151 [ty o500i, ti o500j, T.int .u64 o500k]), (2002, oc 28 [T.nils, ti 0]), (2005, ov 28 [vo 2012 (List.length o12b), vi r9]), (2012, oc 3 (List.set (List.map (T.int .i64) o12b) ((Int.toNat v7) * 1) (ti (-1))))]⟩) (by kernel_rfl) ⟨trivial, c2, by first | decide | omega | (simp only [tlL]; omega) | (simp; omega) | (simp []; done) | (simp []; omega), trivial⟩ ?_
              obtain ⟨c3, h⟩ := chk_some h
              refine WP.path tab_ok mixed [(38, An.v (T.int .i64 (v7 + (1 : Int))))] [.keep [7, 5, 4, 3, 2, 0], .keepO [500, 2002, 2005, 2012], .names [(500, 500), (2002, 2002), (2005, 2005), (2012, 2012)]] (ps := [(True), (T.int .i64 (IntKind.wrap .i64 (v7 + (1 : Int))) = T.int .i64 (v7 + (1 : Int)))]) (e := .normal) (σ' := ⟨[500, 2002, 2005, 2012], [(7, vi (v7 + (1 : Int))), (5, V.ref 2005 0), (4, vi r11), (3, vi r9), (2, V.ref 2002 0), (0, V.ref 500 0)], [(500, oc 151 [ty o500i, ti o500j, T.int .u64 o500k]), (2002, oc 28 [T.nils, ti 0]), (2005, ov 28 [vo 2012 (List.length o12b), vi r9]), (2012, oc 3 (List.set (List.map (T.int .i64) o12b) ((Int.toNat v7) * 1) (ti (-1))))]⟩) (by kernel_rfl) ⟨trivial, wrapI c3, trivial⟩ ?_
              exact ⟨(n, o500i, o500j, o500k, List.set o12b (Int.toNat v7) (-1 : Int), (v7 + (1 : Int))), h, Nat.lt_succ_self _, (by first | rfl | (simp only [tlS, tl, vl, vo, oc, ov, tbl, vbl, ty, vy]; done) | (simp only [tlS, tl, vl, vo, oc, ov, tbl, vbl, ty, vy]; rfl) | (simp; done) | (simp []; done) | (rw [List.take_of_length_le (by simp [])]; done) | (rw [List.take_of_length_le (by simp [])]; rfl) | (simp only [tlL]; omega) | (simp; omega))⟩
            · -- no
              refine WP.cond (b := v50) rfl (fun hh => by rw [h4] at hh; cases hh) (fun _ => ?_)
              refine WP.path tab_ok mixed [] [.keep [7, 5, 4, 3, 2, 0], .keepO [500, 2002, 2005, 2012]] (ps := []) (e := .normal) (σ' := ⟨[500, 2002, 2005, 2012], [(7, vi v7), (5, V.ref 2005 0), (4, vi r11), (3, vi r9), (2, V.ref 2002 0), (0, V.ref 500 0)], [(500, oc 151 [ty o500i, ti o500j, T.int .u64 o500k]), (2002, oc 28 [T.nils, ti 0]), (2005, ov 28 [vo 2012 (List.length o12b), vi r9]), (2012, oc 3 (List.map (T.int .i64) o12b))]⟩) (by kernel_rfl) trivial ?_
              obtain ⟨c2, h⟩ := chk_some h
              refine WP.path tab_ok mixed [(38, An.v (T.int .i64 (v7 + (1 : Int))))] [.keep [7, 5, 4, 3, 2, 0], .keepO [500, 2002, 2005, 2012], .names [(500, 500), (2002, 2002), (2005, 2005), (2012, 2012)]] (ps := [(True), (T.int .i64 (IntKind.wrap .i64 (v7 + (1 : Int))) = T.int .i64 (v7 + (1 : Int)))]) (e := .normal) (σ' := ⟨[500, 2002, 2005, 2012], [(7, vi (v7 + (1 : Int))), (5, V.ref 2005 0), (4, vi r11), (3, vi r9), (2, V.ref 2002 0), (0, V.ref 500 0)], [(500, oc 151 [ty o500i, ti o500j, T.int .u64 o500k]), (2002, oc 28 [T.nils, ti 0]), (2005, ov 28 [vo 2012 (List.length o12b), vi r9]), (2012, oc 3 (List.map (T.int .i64) o12b))]⟩) (by kernel_rfl) ⟨trivial, wrapI c2, trivial⟩ ?_
              exact ⟨(n, o500i, o500j, o500k, o12b, (v7 + (1 : Int))), h, Nat.lt_succ_self _, rfl⟩
        · -- no
          refine WP.cond (b := decide (v7 < r11)) rfl (fun hh => by rw [h2] at hh; cases hh) (fun _ => ?_)
          refine WP.path tab_ok mixed [] [.keep [5, 2], .keepO [500, 2002, 2005, 2012], .names [(500, 500), (2002, 2002), (2005, 2005), (2012, 2012)]] (ps := []) (e := (.exit 2)) (σ' := ⟨[500, 2002, 2005, 2012], [(5, V.ref 2005 0), (2, V.ref 2002 0)], [(500, oc 151 [ty o500d, ti o500e, T.int .u64 o500g]), (2002, oc 28 [T.nils, ti 0]), (2005, ov 28 [vo 2012 (List.length o12b), vi r9]), (2012, oc 3 (List.map (T.int .i64) o12b))]⟩) (by kernel_rfl) trivial ?_
          exact ⟨(o500d, o500e, o500g, o12b), h, rfl⟩
    · -- from there
      rintro ⟨o500d, o500e, o500g, o12b⟩ h0
      have h := (show J1 o500d o500e o500g o12b = some (y0, y1, y2, y3, y4) from h0)
      rw [hJ1] at h
      simp only [Option.some.injEq, Prod.mk.injEq] at h
      obtain ⟨rfl, rfl, rfl, rfl, rfl⟩ := h
      exact WP.pathG tab_ok mixed [] [.keep [2], .keepO [500, 2012, 2002], .names [(500, 500), (2012, 9000), (2002, 2002)]] [500, 9000] _ (r' := V.agg [vo 9000 (List.length o12b), vi r9]) (ps := [(0 + 2 ≤ 2), ((0 + 2 ≤ 2 ∧ 2 = 2)), (0 + 2 ≤ 2)]) (r := V.agg [vo 9000 (List.length o12b), vi r9]) (N := [500, 9000, 2002]) (O := [(500, oc 151 [ty o500d, ti o500e, T.int .u64 o500g]), (9000, oc 3 (List.map (T.int .i64) o12b))]) [] (by kernel_rfl) ⟨by decide, by decide, by decide, trivial⟩ ⟨rfl, (WkT.refl _), trivial⟩ rfl rfl (fun _ h => h)
theorem F_spec_DrawIsState_W (x0 : List Int) (y0 : List Int) (y1 : Int) (h : F_spec_DrawIsState x0 = some (y0, y1)) : CG Try.prog 216 [vy x0] [] (V.agg [vo 9000 (List.length y0), vi y1]) [(9000, oc 3 (List.map (T.int .i64) y0))] := by
  unfold F_spec_DrawIsState at h
  refine CG.intro (tab := tab) tab_ok (fn := Try.f216) Try.func216 (by kernel_rfl) rfl (Nat.le_of_ble_eq_true rfl) (by kernel_rfl) ?_
  obtain ⟨r8, r8b, r8c, r8d, r8e, c0, h⟩ := bnd5_some h
  simp only [Option.some.injEq, Prod.mk.injEq] at h
  obtain ⟨rfl, rfl⟩ := h
  exact WP.pathG tab_ok mixed [(2, An.id 2002), (6, An.id 2006), (8, An.callG [(500, 2006), (9000, 10080)] [V.ref 500 0] [(500, oc 151 [ty x0, ti 0, T.int .u64 0])] (V.agg [vo 9000 (List.length r8), vi r8b]) [(500, oc 151 [ty r8c, ti r8d, T.int .u64 r8e]), (9000, oc 3 (List.map (T.int .i64) r8))])] [.keep [2], .keepO [10080, 2002], .names [(10080, 9000), (2002, 2002)]] [9000] _ (r' := V.agg [vo 9000 (List.length r8), vi r8b]) (ps := [((1 = 1 ∧ 0 + 1 ≤ 3) ∧ True), (CG Try.prog 183 [V.ref 500 0] [(500, oc 151 [ty x0, ti 0, T.int .u64 0])] (V.agg [vo 9000 (List.length r8), vi r8b]) [(500, oc 151 [ty r8c, ti r8d, T.int .u64 r8e]), (9000, oc 3 (List.map (T.int .i64) r8))]), ((V.ref 500 0).ren (renF [(500, 2006), (9000, 10080)]) = V.ref 2006 0), ((oc 151 [ty x0, ti 0, T.int .u64 0]) = (oc 151 [ty x0, ti 0, T.int .u64 0]).ren (renF [(500, 2006), (9000, 10080)])), ((0 + 2 ≤ 2 ∧ 2 = 2)), (0 + 2 ≤ 2)]) (r := V.agg [vo 9000 (List.length r8), vi r8b]) (N := [9000, 2002]) (O := [(9000, oc 3 (List.map (T.int .i64) r8))]) [] (by kernel_rfl) ⟨⟨⟨by first | rfl | (simp; done) | (simp []; done) | omega, by first | decide | (simp; done) | (simp []; done) | omega | (simp only [tlL]; omega) | (simp; omega)⟩, trivial⟩, (F_p_spec_l1Cur_state_W x0 (0 : Int) (0 : Int) r8 r8b r8c r8d r8e c0), by first | rfl | (simp [V.ren, V.renL, renF, lk]; done) | (simp [V.ren, V.renL, renF, lk]; omega), by first | rfl | (simp only [tlS]; rfl) | (simp [Tl.Obj.ren, V.ren, V.renL, renF, lk]; done), by decide, by decide, trivial⟩ ⟨rfl, (WkT.refl _), trivial⟩ rfl rfl (fun _ h => h)
theorem F_spec_DrawIsState_W_C (x0 : List Int) (y0 : List Int) (y1 : Int) (h : F_spec_DrawIsState x0 = some (y0, y1)) : C Try.prog 216 [ty x0] (T.agg [tl y0, ti y1]) :=
  CG.toC (ps := [(List.length (List.map (T.int .i64) y0) = (List.length y0) * 1)]) (F_spec_DrawIsState_W  x0 y0 y1 h) (by rfl) ⟨by first | rfl | (simp; done) | omega | (simp; omega) | (simp [hl]; done) | (simp [hl]; omega), trivial⟩
theorem F_spec_DrawOpenNumbers_W (x0 : List Int) (y0 : List Int) (y1 : Int) (h : F_spec_DrawOpenNumbers x0 = some (y0, y1)) : CG Try.prog 97 [vy x0] [] (V.agg [vo 9000 (List.length y0), vi y1]) [(9000, oc 3 (List.map (T.int .i64) y0))] := by
  unfold F_spec_DrawOpenNumbers at h
  refine CG.intro (tab := tab) tab_ok (fn := Try.f97) Try.func97 (by kernel_rfl) rfl (Nat.le_of_ble_eq_true rfl) (by kernel_rfl) ?_
  obtain ⟨r4, r4b, c0, h⟩ := bnd2_some h
  simp only [Option.some.injEq, Prod.mk.injEq] at h
  obtain ⟨rfl, rfl⟩ := h
  exact WP.pathG tab_ok mixed [(2, An.id 2002), (4, An.callG [(9000, 10040)] [vy x0] [] (V.agg [vo 9000 (List.length r4), vi r4b]) [(9000, oc 3 (List.map (T.int .i64) r4))])] [.keep [2], .keepO [10040, 2002], .names [(10040, 9000), (2002, 2002)]] [9000] _ (r' := V.agg [vo 9000 (List.length r4), vi r4b]) (ps := [(CG Try.prog 216 [vy x0] [] (V.agg [vo 9000 (List.length r4), vi r4b]) [(9000, oc 3 (List.map (T.int .i64) r4))]), (WkT (ty x0) (ty x0)), ((0 + 2 ≤ 2 ∧ 2 = 2)), (0 + 2 ≤ 2)]) (r := V.agg [vo 9000 (List.length r4), vi r4b]) (N := [9000, 2002]) (O := [(9000, oc 3 (List.map (T.int .i64) r4))]) [] (by kernel_rfl) ⟨(F_spec_DrawIsState_W x0 r4 r4b c0), WkT.refl _, by decide, by decide, trivial⟩ ⟨rfl, (WkT.refl _), trivial⟩ rfl rfl (fun _ h => h)
theorem F_spec_DrawOpenNumbers_W_C (x0 : List Int) (y0 : List Int) (y1 : Int) (h : F_spec_DrawOpenNumbers x0 = some (y0, y1)) : C Try.prog 97 [ty x0] (T.agg [tl y0, ti y1]) :=
  CG.toC (ps := [(List.length (List.map (T.int .i64) y0) = (List.length y0) * 1)]) (F_spec_DrawOpenNumbers_W  x0 y0 y1 h) (by rfl) ⟨by first | rfl | (simp; done) | omega | (simp; omega) | (simp [hl]; done) | (simp [hl]; omega), trivial⟩
theorem F_spec_l2Open_W (x0 : List Int) (x1 : Int) (y0 : List Int) (h : F_spec_l2Open x0 x1 = some y0) : CG Try.prog 169 [V.t (T.agg [tl x0, ti x1])] [] (vo 9000 (List.length y0)) [(9000, oc 3 (List.map (T.int .i64) y0))] := by
  unfold F_spec_l2Open at h
  refine CG.intro (tab := tab) tab_ok (fn := Try.f169) Try.func169 (by kernel_rfl) rfl (Nat.le_of_ble_eq_true rfl) (by kernel_rfl) ?_
  refine WP.seq ?_
  refine WP.path tab_ok mixed [(1, An.fz)] [.keep [2, 1], .keepO []] (ps := []) (e := .normal) (σ' := ⟨[], [(2, V.t (T.nils)), (1, V.t (T.ptr [tl x0, ti x1]))], []⟩) (by kernel_rfl) trivial ?_
  refine WP.seq ?_
  refine WP.path tab_ok mixed [(5, An.id 2005)] [.keep [3, 2, 1], .keepO [2005]] (ps := [(True), (0 = 0 * 1)]) (e := .normal) (σ' := ⟨[2005], [(3, vo 2005 0), (2, V.t (T.nils)), (1, V.t (T.ptr [tl x0, ti x1]))], [(2005, oc 3 [])]⟩) (by kernel_rfl) ⟨trivial, by decide, trivial⟩ ?_
  obtain ⟨J1, hJ1, h⟩ := jn_some h
  refine WP.joinA (fun (zz : (List Int)) => ⟨[2005], [(3, vo 2005 (List.length zz)), (2, V.t (T.nils))], [(2005, oc 3 (List.map (T.int .i64) zz))]⟩) (fun zz => J1 zz = some y0) ?_ ?_
  · -- to where they meet
    refine WP.seq ?_
    refine WP.path tab_ok mixed [] [.keep [4, 3, 2, 1], .keepO [2005]] (ps := []) (e := .normal) (σ' := ⟨[2005], [(4, vi 0), (3, vo 2005 0), (2, V.t (T.nils)), (1, V.t (T.ptr [tl x0, ti x1]))], [(2005, oc 3 [])]⟩) (by kernel_rfl) trivial ?_
    refine WP.block ?_
    refine WP.wk [.keep [4, 3, 2, 1], .keepO [2005], .names [(2005, 2005)]] (σ' := ⟨[2005], [(4, vi 0), (3, vo 2005 0), (2, V.t (T.nils)), (1, V.t (T.ptr [tl x0, ti x1]))], [(2005, oc 3 [])]⟩) (ps := []) (by kernel_rfl) trivial ?_
    refine WP.st (σ' := ⟨[2005], [(4, vi (0 : Int)), (3, vo 2005 (List.length ([] : List Int))), (2, V.t (T.nils)), (1, V.t (T.ptr [tl x0, ti x1]))], [(2005, oc 3 (List.map (T.int .i64) ([] : List Int)))]⟩) (by first | rfl | (simp only [tlS, tl, vl, vo, oc, ov, tbl, vbl, ty, vy]; done) | (simp only [tlS, tl, vl, vo, oc, ov, tbl, vbl, ty, vy]; rfl) | (simp; done) | (simp []; done) | (rw [List.take_of_length_le (by simp [])]; done) | (rw [List.take_of_length_le (by simp [])]; rfl) | (simp only [tlL]; omega) | (simp; omega)) ?_
    refine WP.loop (α := Nat × (List Int) × Int) (fun zz => ⟨[2005], [(4, vi zz.2.2), (3, vo 2005 (List.length zz.2.1)), (2, V.t (T.nils)), (1, V.t (T.ptr [tl x0, ti x1]))], [(2005, oc 3 (List.map (T.int .i64) zz.2.1))]⟩) (fun zz => F_spec_l2Open_L1 x0 J1 zz.1 zz.2.1 zz.2.2 = some y0) (fun zz => zz.1) (fuel, ([] : List Int), (0 : Int)) h ?_
    rintro ⟨n, o5, v4⟩ h0
    have h := (show F_spec_l2Open_L1 x0 J1 n o5 v4 = some y0 from h0)
    rcases n with _ | n
    · rw [F_spec_l2Open_L1] at h; cases h
    · rw [F_spec_l2Open_L1] at h
      refine WP.seq ?_
      refine WP.seq ?_
      refine WP.path tab_ok mixed [] [.keep [10, 4, 3, 2, 1], .keepO [2005]] (ps := [(True), (True)]) (e := .normal) (σ' := ⟨[2005], [(10, vb (decide (v4 < ((List.length x0 : Nat) : Int)))), (4, vi v4), (3, vo 2005 (List.length o5)), (2, V.t (T.nils)), (1, V.t (T.ptr [tl x0, ti x1]))], [(2005, oc 3 (List.map (T.int .i64) o5))]⟩) (by kernel_rfl) ⟨trivial, trivial, trivial⟩ ?_
      rcases ite_some h with ⟨h1, h⟩ | ⟨h1, h⟩
      · -- yes
        refine WP.cond (b := decide (v4 < ((List.length x0 : Nat) : Int))) rfl (fun _ => ?_) (fun hh => by rw [h1] at hh; cases hh)
        refine WP.path tab_ok mixed [] [.keep [4, 3, 2, 1], .keepO [2005]] (ps := []) (e := .normal) (σ' := ⟨[2005], [(4, vi v4), (3, vo 2005 (List.length o5)), (2, V.t (T.nils)), (1, V.t (T.ptr [tl x0, ti x1]))], [(2005, oc 3 (List.map (T.int .i64) o5))]⟩) (by kernel_rfl) trivial ?_
        refine WP.seq ?_
        refine WP.block ?_
        refine WP.seq ?_
        obtain ⟨c0, h⟩ := chk_some h
        refine WP.path tab_ok mixed [(17, An.v (ti (List.getD x0 (Int.toNat v4) 0)))] [.keep [18, 4, 3, 2, 1], .keepO [2005]] (ps := [(True), ((0 ≤ v4 ∧ v4 < ((List.length x0 : Nat) : Int))), ((List.drop ((Int.toNat v4) * 1) (List.map (T.int .i64) x0) : List T)[0]? = some (ti (List.getD x0 (Int.toNat v4) 0))), (ti (List.getD x0 (Int.toNat v4) 0) = ti (List.getD x0 (Int.toNat v4) 0)), (True)]) (e := .normal) (σ' := ⟨[2005], [(18, vb (decide ((List.getD x0 (Int.toNat v4) 0) ≥ (0 : Int)))), (4, vi v4), (3, vo 2005 (List.length o5)), (2, V.t (T.nils)), (1, V.t (T.ptr [tl x0, ti x1]))], [(2005, oc 3 (List.map (T.int .i64) o5))]⟩) (by kernel_rfl) ⟨trivial, c0, at1 (by simp) (by omega), rfl, trivial, trivial⟩ ?_
        rcases ite_some h with ⟨h2, h⟩ | ⟨h2, h⟩
        · -- yes
          refine WP.cond (b := decide ((List.getD x0 (Int.toNat v4) 0) ≥ (0 : Int))) rfl (fun _ => ?_) (fun hh => by rw [h2] at hh; cases hh)
          obtain ⟨c1, h⟩ := chk_some h
          refine WP.path tab_ok mixed [(21, An.fz), (22, An.id 2022)] [.keep [3, 4, 2, 1], .keepO [2022]] (ps := [((1 = 1 ∧ 0 + 1 ≤ 1) ∧ True), (1 = 1 * 1), (True), (List.length (List.map (T.int .i64) o5) = (List.length o5) * 1), ((((List.length o5) + 1) * 8 ≤ 140737488355328 ∧ (List.length o5) + 1 ≤ maxLen))]) (e := .normal) (σ' := ⟨[2022, 2005], [(3, vo 2022 ((List.length o5) + 1)), (4, vi v4), (2, V.t (T.nils)), (1, V.t (T.ptr [tl x0, ti x1]))], [(2022, oc 3 ((List.map (T.int .i64) o5) ++ [ti v4]))]⟩) (by kernel_rfl) ⟨⟨⟨by first | rfl | (simp; done) | (simp []; done) | omega, by first | decide | (simp; done) | (simp []; done) | omega | (simp only [tlL]; omega) | (simp; omega)⟩, trivial⟩, by decide, trivial, by first | rfl | (simp; done) | omega | (simp only [tlL]; omega) | (simp; omega) | (simp []; done) | (simp []; omega), c1, trivial⟩ ?_
          obtain ⟨c2, h⟩ := chk_some h
          refine WP.path tab_ok mixed [(12, An.v (T.int .i64 (v4 + (1 : Int))))] [.keep [4, 3, 2, 1], .keepO [2022], .names [(2022, 2005)]] (ps := [(True), (T.int .i64 (IntKind.wrap .i64 (v4 + (1 : Int))) = T.int .i64 (v4 + (1 : Int)))]) (e := .normal) (σ' := ⟨[2005], [(4, vi (v4 + (1 : Int))), (3, vo 2005 ((List.length o5) + 1)), (2, V.t (T.nils)), (1, V.t (T.ptr [tl x0, ti x1]))], [(2005, oc 3 ((List.map (T.int .i64) o5) ++ [ti v4]))]⟩) (by kernel_rfl) ⟨trivial, wrapI c2, trivial⟩ ?_
          exact ⟨(n, o5 ++ [v4], (v4 + (1 : Int))), h, Nat.lt_succ_self _, (by first | rfl | (simp only [tlS, tl, vl, vo, oc, ov, tbl, vbl, ty, vy]; done) | (simp only [tlS, tl, vl, vo, oc, ov, tbl, vbl, ty, vy]; rfl) | (simp; done) | (simp []; done) | (rw [List.take_of_length_le (by simp [])]; done) | (rw [List.take_of_length_le (by simp [])]; rfl) | (simp only [tlL]; omega) | (simp; omega))⟩
        · -- no
          refine WP.cond (b := decide ((List.getD x0 (Int.toNat v4) 0) ≥ (0 : Int))) rfl (fun hh => by rw [h2] at hh; cases hh) (fun _ => ?_)
          refine WP.path tab_ok mixed [] [.keep [4, 3, 2, 1], .keepO [2005]] (ps := []) (e := .normal) (σ' := ⟨[2005], [(4, vi v4), (3, vo 2005 (List.length o5)), (2, V.t (T.nils)), (1, V.t (T.ptr [tl x0, ti x1]))], [(2005, oc 3 (List.map (T.int .i64) o5))]⟩) (by kernel_rfl) trivial ?_
          obtain ⟨c1, h⟩ := chk_some h
          refine WP.path tab_ok mixed [(12, An.v (T.int .i64 (v4 + (1 : Int))))] [.keep [4, 3, 2, 1], .keepO [2005], .names [(2005, 2005)]] (ps := [(True), (T.int .i64 (IntKind.wrap .i64 (v4 + (1 : Int))) = T.int .i64 (v4 + (1 : Int)))]) (e := .normal) (σ' := ⟨[2005], [(4, vi (v4 + (1 : Int))), (3, vo 2005 (List.length o5)), (2, V.t (T.nils)), (1, V.t (T.ptr [tl x0, ti x1]))], [(2005, oc 3 (List.map (T.int .i64) o5))]⟩) (by kernel_rfl) ⟨trivial, wrapI c1, trivial⟩ ?_
          exact ⟨(n, o5, (v4 + (1 : Int))), h, Nat.lt_succ_self _, rfl⟩
      · -- no
        refine WP.cond (b := decide (v4 < ((List.length x0 : Nat) : Int))) rfl (fun hh => by rw [h1] at hh; cases hh) (fun _ => ?_)
        refine WP.path tab_ok mixed [] [.keep [3, 2], .keepO [2005], .names [(2005, 2005)]] (ps := []) (e := (.exit 0)) (σ' := ⟨[2005], [(3, vo 2005 (List.length o5)), (2, V.t (T.nils))], [(2005, oc 3 (List.map (T.int .i64) o5))]⟩) (by kernel_rfl) trivial ?_
        exact ⟨(o5), h, rfl⟩
  · -- from there
    intro o5 h0
    have h := (show J1 o5 = some y0 from h0)
    rw [hJ1] at h
    have h := Option.some.inj h
    subst h
    exact WP.pathG tab_ok mixed [] [.keep [2], .keepO [2005], .names [(2005, 9000)]] [9000] _ (r' := vo 9000 (List.length o5)) (ps := []) (r := vo 9000 (List.length o5)) (N := [9000]) (O := [(9000, oc 3 (List.map (T.int .i64) o5))]) [] (by kernel_rfl) trivial ⟨rfl, trivial⟩ rfl rfl (fun _ h => h)
theorem F_spec_l2Open_W_C (x0 : List Int) (x1 : Int) (y0 : List Int) (h : F_spec_l2Open x0 x1 = some y0) : C Try.prog 169 [T.agg [tl x0, ti x1]] (tl y0) :=
  CG.toC (ps := [(List.length (List.map (T.int .i64) y0) = (List.length y0) * 1)]) (F_spec_l2Open_W  x0 x1 y0 h) (by rfl) ⟨by first | rfl | (simp; done) | omega | (simp; omega) | (simp [hl]; done) | (simp [hl]; omega), trivial⟩
theorem F_spec_OpenNumbers_W (x0 : List Int) (x1 : Int) (y0 : List Int) (y1 : Bool) (h : F_spec_OpenNumbers x0 x1 = some (y0, y1)) : CG Try.prog 98 [V.t (T.agg [tl x0, ti x1])] [] (V.tup [vo 9000 (List.length y0), vb y1]) [(9000, oc 3 (List.map (T.int .i64) y0))] := by
  unfold F_spec_OpenNumbers at h
  refine CG.intro (tab := tab) tab_ok (fn := Try.f98) Try.func98 (by kernel_rfl) rfl (Nat.le_of_ble_eq_true rfl) (by kernel_rfl) ?_
  refine WP.seq ?_
  refine WP.path tab_ok mixed [(1, An.fz)] [.keep [3, 2, 1], .keepO []] (ps := []) (e := .normal) (σ' := ⟨[], [(3, vb false), (2, V.t (T.nils)), (1, V.t (T.ptr [tl x0, ti x1]))], []⟩) (by kernel_rfl) trivial ?_
  refine WP.seq ?_
  refine WP.seq ?_
  obtain ⟨c0, h⟩ := chk_some h
  refine WP.path tab_ok mixed [(5, An.call (tb (isStateN x0 x1)))] [.keep [6, 3, 2, 1], .keepO []] (ps := [(2 ≤ 2), (C Try.prog 187 [T.agg [tl x0, ti x1]] (tb (isStateN x0 x1)))]) (e := .normal) (σ' := ⟨[], [(6, vb (!(isStateN x0 x1))), (3, vb false), (2, V.t (T.nils)), (1, V.t (T.ptr [tl x0, ti x1]))], []⟩) (by kernel_rfl) ⟨by decide, (l2State_C x0 x1 c0), trivial⟩ ?_
  rcases ite_some h with ⟨h1, h⟩ | ⟨h1, h⟩
  · -- yes
    refine WP.cond (b := !(isStateN x0 x1)) rfl (fun _ => ?_) (fun hh => by rw [h1] at hh; cases hh)
    simp only [Option.some.injEq, Prod.mk.injEq] at h
    obtain ⟨rfl, rfl⟩ := h
    exact WP.pathG tab_ok mixed [(7, An.id 2007)] [.keep [2, 3], .keepO [2007], .names [(2007, 9000)]] [9000] _ (r' := V.tup [vo 9000 (List.length []), vb false]) (ps := [(True), (0 = 0 * 1)]) (r := V.tup [vo 9000 0, vb false]) (N := [9000]) (O := [(9000, oc 3 [])]) [] (by kernel_rfl) ⟨trivial, by decide, trivial⟩ ⟨(congrArg (V.own 9000 1) (by first | rfl | (simp only [tlS, tl, vl, vo, oc, ov, tbl, vbl, ty, vy]; done) | (simp only [tlS, tl, vl, vo, oc, ov, tbl, vbl, ty, vy]; rfl) | (simp; done) | (simp []; done) | (rw [List.take_of_length_le (by simp [])]; done) | (rw [List.take_of_length_le (by simp [])]; rfl) | (simp only [tlL]; omega) | (simp only [tlL]; omega) | (simp; omega))), (WkT.refl _), trivial⟩ rfl (by first | rfl | (simp only [tlS, tl, vl, vo, oc, ov, tbl, vbl, ty, vy]; done) | (simp only [tlS, tl, vl, vo, oc, ov, tbl, vbl, ty, vy]; rfl) | (simp; done) | (simp []; done) | (rw [List.take_of_length_le (by simp [])]; done) | (rw [List.take_of_length_le (by simp [])]; rfl) | (simp only [tlL]; omega) | (simp; omega)) (fun _ h => h)
  · -- no
    refine WP.cond (b := !(isStateN x0 x1)) rfl (fun hh => by rw [h1] at hh; cases hh) (fun _ => ?_)
    refine WP.path tab_ok mixed [] [.keep [3, 2, 1], .keepO []] (ps := []) (e := .normal) (σ' := ⟨[], [(3, vb false), (2, V.t (T.nils)), (1, V.t (T.ptr [tl x0, ti x1]))], []⟩) (by kernel_rfl) trivial ?_
    obtain ⟨r9, c1, h⟩ := bnd1_some h
    simp only [Option.some.injEq, Prod.mk.injEq] at h
    obtain ⟨rfl, rfl⟩ := h
    exact WP.pathG tab_ok mixed [(9, An.callG [(9000, 10090)] [V.t (T.agg [tl x0, ti x1])] [] (vo 9000 (List.length r9)) [(9000, oc 3 (List.map (T.int .i64) r9))])] [.keep [2, 3], .keepO [10090], .names [(10090, 9000)]] [9000] _ (r' := V.tup [vo 9000 (List.length r9), vb true]) (ps := [(2 ≤ 2), (CG Try.prog 169 [V.t (T.agg [tl x0, ti x1])] [] (vo 9000 (List.length r9)) [(9000, oc 3 (List.map (T.int .i64) r9))]), (WkT (T.agg [tl x0, ti x1]) (T.agg [tl x0, ti x1]))]) (r := V.tup [vo 9000 (List.length r9), vb true]) (N := [9000]) (O := [(9000, oc 3 (List.map (T.int .i64) r9))]) [] (by kernel_rfl) ⟨by decide, (F_spec_l2Open_W x0 x1 r9 c1), WkT.refl _, trivial⟩ ⟨rfl, (WkT.refl _), trivial⟩ rfl rfl (fun _ h => h)
theorem F_spec_OpenNumbers_W_C (x0 : List Int) (x1 : Int) (y0 : List Int) (y1 : Bool) (h : F_spec_OpenNumbers x0 x1 = some (y0, y1)) : C Try.prog 98 [T.agg [tl x0, ti x1]] (T.tup [tl y0, tb y1]) :=
  CG.toC (ps := [(List.length (List.map (T.int .i64) y0) = (List.length y0) * 1)]) (F_spec_OpenNumbers_W  x0 x1 y0 y1 h) (by rfl) ⟨by first | rfl | (simp; done) | omega | (simp; omega) | (simp [hl]; done) | (simp [hl]; omega), trivial⟩
theorem F_impl_State_counts_W (x0 : List Int) (x1 : Int) (y0 : List Int) (h : F_impl_State_counts x0 x1 = some y0) : CG Try.prog 219 [V.t (T.agg [tl x0, ti x1])] [] (vo 9000 (List.length y0)) [(9000, oc 3 (List.map (T.int .i64) y0))] := by
  unfold F_impl_State_counts at h
  refine CG.intro (tab := tab) tab_ok (fn := Try.f219) Try.func219 (by kernel_rfl) rfl (Nat.le_of_ble_eq_true rfl) (by kernel_rfl) ?_
  refine WP.seq ?_
  refine WP.path tab_ok mixed [(1, An.fz)] [.keep [2, 1], .keepO []] (ps := []) (e := .normal) (σ' := ⟨[], [(2, V.t (T.nils)), (1, V.t (T.ptr [tl x0, ti x1]))], []⟩) (by kernel_rfl) trivial ?_
  refine WP.seq ?_
  obtain ⟨c0, h⟩ := chk_some h
  obtain ⟨c1, h⟩ := chk_some h
  refine WP.path tab_ok mixed [(8, An.v (T.int .i64 (x1 + (1 : Int)))), (9, An.id 2009)] [.keep [3, 2, 1], .keepO [2009]] (ps := [(True), (True), (T.int .i64 (IntKind.wrap .i64 (x1 + (1 : Int))) = T.int .i64 (x1 + (1 : Int))), ((0 ≤ (x1 + (1 : Int)) ∧ (x1 + (1 : Int)) ≤ (x1 + (1 : Int)) ∧ (8 : Int) * (x1 + (1 : Int)) ≤ 281474976710656 ∧ (x1 + (1 : Int)) ≤ (maxLen : Int)))]) (e := .normal) (σ' := ⟨[2009], [(3, vo 2009 (Int.toNat (x1 + (1 : Int)))), (2, V.t (T.nils)), (1, V.t (T.ptr [tl x0, ti x1]))], [(2009, oc 3 (List.replicate (Int.toNat (x1 + (1 : Int))) (ti 0)))]⟩) (by kernel_rfl) ⟨trivial, trivial, wrapI c0, c1, trivial⟩ ?_
  obtain ⟨J1, hJ1, h⟩ := jn_some h
  refine WP.joinA (fun (zz : (List Int)) => ⟨[2009], [(3, vo 2009 (List.length zz)), (2, V.t (T.nils))], [(2009, oc 3 (List.map (T.int .i64) zz))]⟩) (fun zz => J1 zz = some y0) ?_ ?_
  · -- to where they meet
    refine WP.seq ?_
    refine WP.path tab_ok mixed [] [.keep [13, 12, 11, 3, 2], .keepO [2009]] (ps := [(True)]) (e := .normal) (σ' := ⟨[2009], [(13, vi 0), (12, vi ((List.length x0 : Nat) : Int)), (11, vl x0), (3, vo 2009 (Int.toNat (x1 + (1 : Int)))), (2, V.t (T.nils))], [(2009, oc 3 (List.replicate (Int.toNat (x1 + (1 : Int))) (ti 0)))]⟩) (by kernel_rfl) ⟨trivial, trivial⟩ ?_
    refine WP.block ?_
    refine WP.wk [.keep [13, 12, 11, 3, 2], .keepO [2009], .names [(2009, 2009)]] (σ' := ⟨[2009], [(13, vi 0), (12, vi ((List.length x0 : Nat) : Int)), (11, vl x0), (3, vo 2009 (Int.toNat (x1 + (1 : Int)))), (2, V.t (T.nils))], [(2009, oc 3 (List.replicate (Int.toNat (x1 + (1 : Int))) (ti 0)))]⟩) (ps := []) (by kernel_rfl) trivial ?_
    refine WP.st (σ' := ⟨[2009], [(13, vi (0 : Int)), (12, vi ((List.length x0 : Nat) : Int)), (11, vl x0), (3, vo 2009 (List.length (List.replicate (Int.toNat (x1 + (1 : Int))) (0 : Int)))), (2, V.t (T.nils))], [(2009, oc 3 (List.map (T.int .i64) (List.replicate (Int.toNat (x1 + (1 : Int))) (0 : Int))))]⟩) (by first | rfl | (simp only [tlS, tl, vl, vo, oc, ov, tbl, vbl, ty, vy]; done) | (simp only [tlS, tl, vl, vo, oc, ov, tbl, vbl, ty, vy]; rfl) | (simp; done) | (simp []; done) | (rw [List.take_of_length_le (by simp [])]; done) | (rw [List.take_of_length_le (by simp [])]; rfl) | (simp only [tlL]; omega) | (simp; omega)) ?_
    refine WP.loop (α := Nat × (List Int) × Int) (fun zz => ⟨[2009], [(13, vi zz.2.2), (12, vi ((List.length x0 : Nat) : Int)), (11, vl x0), (3, vo 2009 (List.length zz.2.1)), (2, V.t (T.nils))], [(2009, oc 3 (List.map (T.int .i64) zz.2.1))]⟩) (fun zz => F_impl_State_counts_L1 x0 J1 zz.1 zz.2.1 zz.2.2 = some y0) (fun zz => zz.1) (fuel, List.replicate (Int.toNat (x1 + (1 : Int))) (0 : Int), (0 : Int)) h ?_
    rintro ⟨n, o9, v13⟩ h0
    have h := (show F_impl_State_counts_L1 x0 J1 n o9 v13 = some y0 from h0)
    rcases n with _ | n
    · rw [F_impl_State_counts_L1] at h; cases h
    · rw [F_impl_State_counts_L1] at h
      refine WP.seq ?_
      refine WP.path tab_ok mixed [] [.keep [14, 13, 12, 11, 3, 2], .keepO [2009]] (ps := [(True)]) (e := .normal) (σ' := ⟨[2009], [(14, vb (decide (v13 < ((List.length x0 : Nat) : Int)))), (13, vi v13), (12, vi ((List.length x0 : Nat) : Int)), (11, vl x0), (3, vo 2009 (List.length o9)), (2, V.t (T.nils))], [(2009, oc 3 (List.map (T.int .i64) o9))]⟩) (by kernel_rfl) ⟨trivial, trivial⟩ ?_
      refine WP.seq ?_
      rcases ite_some h with ⟨h1, h⟩ | ⟨h1, h⟩
      · -- yes
        refine WP.cond (b := decide (v13 < ((List.length x0 : Nat) : Int))) rfl (fun _ => ?_) (fun hh => by rw [h1] at hh; cases hh)
        refine WP.path tab_ok mixed [] [.keep [13, 12, 11, 3, 2], .keepO [2009]] (ps := []) (e := .normal) (σ' := ⟨[2009], [(13, vi v13), (12, vi ((List.length x0 : Nat) : Int)), (11, vl x0), (3, vo 2009 (List.length o9)), (2, V.t (T.nils))], [(2009, oc 3 (List.map (T.int .i64) o9))]⟩) (by kernel_rfl) trivial ?_
        refine WP.seq ?_
        refine WP.block ?_
        refine WP.seq ?_
        obtain ⟨c2, h⟩ := chk_some h
        refine WP.path tab_ok mixed [(16, An.v (ti (List.getD x0 (Int.toNat v13) 0)))] [.keep [5, 13, 12, 11, 3, 2], .keepO [2009]] (ps := [((0 ≤ v13 ∧ v13 < ((List.length x0 : Nat) : Int))), ((List.drop ((Int.toNat v13) * 1) (List.map (T.int .i64) x0) : List T)[0]? = some (ti (List.getD x0 (Int.toNat v13) 0))), (ti (List.getD x0 (Int.toNat v13) 0) = ti (List.getD x0 (Int.toNat v13) 0))]) (e := .normal) (σ' := ⟨[2009], [(5, vi (List.getD x0 (Int.toNat v13) 0)), (13, vi v13), (12, vi ((List.length x0 : Nat) : Int)), (11, vl x0), (3, vo 2009 (List.length o9)), (2, V.t (T.nils))], [(2009, oc 3 (List.map (T.int .i64) o9))]⟩) (by kernel_rfl) ⟨c2, at1 (by simp) (by omega), rfl, trivial⟩ ?_
        refine WP.seq ?_
        refine WP.path tab_ok mixed [] [.keep [18, 5, 13, 12, 11, 3, 2], .keepO [2009]] (ps := [(True)]) (e := .normal) (σ' := ⟨[2009], [(18, vb (decide ((List.getD x0 (Int.toNat v13) 0) ≥ (0 : Int)))), (5, vi (List.getD x0 (Int.toNat v13) 0)), (13, vi v13), (12, vi ((List.length x0 : Nat) : Int)), (11, vl x0), (3, vo 2009 (List.length o9)), (2, V.t (T.nils))], [(2009, oc 3 (List.map (T.int .i64) o9))]⟩) (by kernel_rfl) ⟨trivial, trivial⟩ ?_
        rcases ite_some h with ⟨h2, h⟩ | ⟨h2, h⟩
        · -- yes
          refine WP.cond (b := decide ((List.getD x0 (Int.toNat v13) 0) ≥ (0 : Int))) rfl (fun _ => ?_) (fun hh => by rw [h2] at hh; cases hh)
          obtain ⟨c3, h⟩ := chk_some h
          obtain ⟨c4, h⟩ := chk_some h
          obtain ⟨n23, c5, h⟩ := nam_some h
          refine WP.path tab_ok mixed [(22, An.v (ti (List.getD o9 (Int.toNat (List.getD x0 (Int.toNat v13) 0)) 0))), (23, An.v (ti n23))] [.keep [13, 12, 11, 3, 2], .keepO [2009]] (ps := [((0 ≤ (List.getD x0 (Int.toNat v13) 0) ∧ (List.getD x0 (Int.toNat v13) 0) < ((List.length o9 : Nat) : Int))), ((List.map (T.int .i64) o9 : List T)[(Int.toNat (List.getD x0 (Int.toNat v13) 0)) * 1]? = some (ti (List.getD o9 (Int.toNat (List.getD x0 (Int.toNat v13) 0)) 0))), (ti (List.getD o9 (Int.toNat (List.getD x0 (Int.toNat v13) 0)) 0) = ti (List.getD o9 (Int.toNat (List.getD x0 (Int.toNat v13) 0)) 0)), (True), (T.int .i64 (IntKind.wrap .i64 ((List.getD o9 (Int.toNat (List.getD x0 (Int.toNat v13) 0)) 0) + (1 : Int))) = ti n23), ((0 ≤ (List.getD x0 (Int.toNat v13) 0) ∧ (List.getD x0 (Int.toNat v13) 0) < ((List.length o9 : Nat) : Int))), ((Int.toNat (List.getD x0 (Int.toNat v13) 0)) * 1 < List.length (List.map (T.int .i64) o9))]) (e := .normal) (σ' := ⟨[2009], [(13, vi v13), (12, vi ((List.length x0 : Nat) : Int)), (11, vl x0), (3, vo 2009 (List.length o9)), (2, V.t (T.nils))], [(2009, oc 3 (List.set (List.map (T.int .i64) o9) ((Int.toNat (List.getD x0 (Int.toNat v13) 0)) * 1) (ti n23)))]⟩) (by kernel_rfl) ⟨c3, atM (by simp) (by first | omega | (simp only [tlL]; omega) | (simp; omega)), rfl, trivial, Eq.trans (wrapI c4) (congrArg (ti) c5), c3, by first | decide | omega | (simp only [tlL]; omega) | (simp; omega) | (simp []; done) | (simp []; omega), trivial⟩ ?_
          obtain ⟨c6, h⟩ := chk_some h
          refine WP.path tab_ok mixed [(25, An.v (T.int .i64 (v13 + (1 : Int))))] [.keep [13, 12, 11, 3, 2], .keepO [2009], .names [(2009, 2009)]] (ps := [(True), (T.int .i64 (IntKind.wrap .i64 (v13 + (1 : Int))) = T.int .i64 (v13 + (1 : Int)))]) (e := .normal) (σ' := ⟨[2009], [(13, vi (v13 + (1 : Int))), (12, vi ((List.length x0 : Nat) : Int)), (11, vl x0), (3, vo 2009 (List.length o9)), (2, V.t (T.nils))], [(2009, oc 3 (List.set (List.map (T.int .i64) o9) ((Int.toNat (List.getD x0 (Int.toNat v13) 0)) * 1) (ti n23)))]⟩) (by kernel_rfl) ⟨trivial, wrapI c6, trivial⟩ ?_
          exact ⟨(n, List.set o9 (Int.toNat (List.getD x0 (Int.toNat v13) 0)) n23, (v13 + (1 : Int))), h, Nat.lt_succ_self _, (by first | rfl | (simp only [tlS, tl, vl, vo, oc, ov, tbl, vbl, ty, vy]; done) | (simp only [tlS, tl, vl, vo, oc, ov, tbl, vbl, ty, vy]; rfl) | (simp; done) | (simp []; done) | (rw [List.take_of_length_le (by simp [])]; done) | (rw [List.take_of_length_le (by simp [])]; rfl) | (simp only [tlL]; omega) | (simp; omega))⟩
        · -- no
          refine WP.cond (b := decide ((List.getD x0 (Int.toNat v13) 0) ≥ (0 : Int))) rfl (fun hh => by rw [h2] at hh; cases hh) (fun _ => ?_)
          refine WP.path tab_ok mixed [] [.keep [13, 12, 11, 3, 2], .keepO [2009]] (ps := []) (e := .normal) (σ' := ⟨[2009], [(13, vi v13), (12, vi ((List.length x0 : Nat) : Int)), (11, vl x0), (3, vo 2009 (List.length o9)), (2, V.t (T.nils))], [(2009, oc 3 (List.map (T.int .i64) o9))]⟩) (by kernel_rfl) trivial ?_
          obtain ⟨c3, h⟩ := chk_some h
          refine WP.path tab_ok mixed [(25, An.v (T.int .i64 (v13 + (1 : Int))))] [.keep [13, 12, 11, 3, 2], .keepO [2009], .names [(2009, 2009)]] (ps := [(True), (T.int .i64 (IntKind.wrap .i64 (v13 + (1 : Int))) = T.int .i64 (v13 + (1 : Int)))]) (e := .normal) (σ' := ⟨[2009], [(13, vi (v13 + (1 : Int))), (12, vi ((List.length x0 : Nat) : Int)), (11, vl x0), (3, vo 2009 (List.length o9)), (2, V.t (T.nils))], [(2009, oc 3 (List.map (T.int .i64) o9))]⟩) (by kernel_rfl) ⟨trivial, wrapI c3, trivial⟩ ?_
          exact ⟨(n, o9, (v13 + (1 : Int))), h, Nat.lt_succ_self _, rfl⟩
      · -- no
        refine WP.cond (b := decide (v13 < ((List.length x0 : Nat) : Int))) rfl (fun hh => by rw [h1] at hh; cases hh) (fun _ => ?_)
        refine WP.path tab_ok mixed [] [.keep [3, 2], .keepO [2009], .names [(2009, 2009)]] (ps := []) (e := (.exit 0)) (σ' := ⟨[2009], [(3, vo 2009 (List.length o9)), (2, V.t (T.nils))], [(2009, oc 3 (List.map (T.int .i64) o9))]⟩) (by kernel_rfl) trivial ?_
        exact ⟨(o9), h, rfl⟩
  · -- from there
    intro o9 h0
    have h := (show J1 o9 = some y0 from h0)
    rw [hJ1] at h
    have h := Option.some.inj h
    subst h
    exact WP.pathG tab_ok mixed [] [.keep [2], .keepO [2009], .names [(2009, 9000)]] [9000] _ (r' := vo 9000 (List.length o9)) (ps := []) (r := vo 9000 (List.length o9)) (N := [9000]) (O := [(9000, oc 3 (List.map (T.int .i64) o9))]) [] (by kernel_rfl) trivial ⟨rfl, trivial⟩ rfl rfl (fun _ h => h)
theorem F_impl_State_counts_W_C (x0 : List Int) (x1 : Int) (y0 : List Int) (h : F_impl_State_counts x0 x1 = some y0) : C Try.prog 219 [T.agg [tl x0, ti x1]] (tl y0) :=
  CG.toC (ps := [(List.length (List.map (T.int .i64) y0) = (List.length y0) * 1)]) (F_impl_State_counts_W  x0 x1 y0 h) (by rfl) ⟨by first | rfl | (simp; done) | omega | (simp; omega) | (simp [hl]; done) | (simp [hl]; omega), trivial⟩
theorem F_impl_CountsOf_W (x0 : List Int) (x1 : Int) (y0 : List Int) (y1 : Bool) (h : F_impl_CountsOf x0 x1 = some (y0, y1)) : CG Try.prog 100 [V.t (T.agg [tl x0, ti x1])] [] (V.tup [vo 9000 (List.length y0), vb y1]) [(9000, oc 3 (List.map (T.int .i64) y0))] := by
  unfold F_impl_CountsOf at h
  refine CG.intro (tab := tab) tab_ok (fn := Try.f100) Try.func100 (by kernel_rfl) rfl (Nat.le_of_ble_eq_true rfl) (by kernel_rfl) ?_
  refine WP.seq ?_
  refine WP.path tab_ok mixed [(1, An.fz)] [.keep [3, 2, 1], .keepO []] (ps := []) (e := .normal) (σ' := ⟨[], [(3, vb false), (2, V.t (T.nils)), (1, V.t (T.ptr [tl x0, ti x1]))], []⟩) (by kernel_rfl) trivial ?_
  refine WP.seq ?_
  refine WP.seq ?_
  obtain ⟨c0, h⟩ := chk_some h
  refine WP.path tab_ok mixed [(5, An.call (tb (isStateN x0 x1)))] [.keep [6, 3, 2, 1], .keepO []] (ps := [(2 ≤ 2), (C Try.prog 99 [T.agg [tl x0, ti x1]] (tb (isStateN x0 x1)))]) (e := .normal) (σ' := ⟨[], [(6, vb (!(isStateN x0 x1))), (3, vb false), (2, V.t (T.nils)), (1, V.t (T.ptr [tl x0, ti x1]))], []⟩) (by kernel_rfl) ⟨by decide, (isState_C x0 x1 c0), trivial⟩ ?_
  rcases ite_some h with ⟨h1, h⟩ | ⟨h1, h⟩
  · -- yes
    refine WP.cond (b := !(isStateN x0 x1)) rfl (fun _ => ?_) (fun hh => by rw [h1] at hh; cases hh)
    simp only [Option.some.injEq, Prod.mk.injEq] at h
    obtain ⟨rfl, rfl⟩ := h
    exact WP.pathG tab_ok mixed [] [.keep [2, 3], .keepO [], .names []] [] _ (r' := V.tup [vo 9000 (List.length ([] : List Int)), vb false]) (ps := []) (r := V.t (T.tup [T.nils, tb false])) (N := []) (O := []) [(9000, 3)] (by kernel_rfl) trivial ⟨(by first | rfl | (simp; done)), (WkT.refl _), trivial⟩ rfl rfl (fun _ h => h)
  · -- no
    refine WP.cond (b := !(isStateN x0 x1)) rfl (fun hh => by rw [h1] at hh; cases hh) (fun _ => ?_)
    refine WP.path tab_ok mixed [] [.keep [3, 2, 1], .keepO []] (ps := []) (e := .normal) (σ' := ⟨[], [(3, vb false), (2, V.t (T.nils)), (1, V.t (T.ptr [tl x0, ti x1]))], []⟩) (by kernel_rfl) trivial ?_
    obtain ⟨r8, c1, h⟩ := bnd1_some h
    simp only [Option.some.injEq, Prod.mk.injEq] at h
    obtain ⟨rfl, rfl⟩ := h
    exact WP.pathG tab_ok mixed [(8, An.callG [(9000, 10080)] [V.t (T.agg [tl x0, ti x1])] [] (vo 9000 (List.length r8)) [(9000, oc 3 (List.map (T.int .i64) r8))])] [.keep [2, 3], .keepO [10080], .names [(10080, 9000)]] [9000] _ (r' := V.tup [vo 9000 (List.length r8), vb true]) (ps := [(2 ≤ 2), (CG Try.prog 219 [V.t (T.agg [tl x0, ti x1])] [] (vo 9000 (List.length r8)) [(9000, oc 3 (List.map (T.int .i64) r8))]), (WkT (T.agg [tl x0, ti x1]) (T.agg [tl x0, ti x1]))]) (r := V.tup [vo 9000 (List.length r8), vb true]) (N := [9000]) (O := [(9000, oc 3 (List.map (T.int .i64) r8))]) [] (by kernel_rfl) ⟨by decide, (F_impl_State_counts_W x0 x1 r8 c1), WkT.refl _, trivial⟩ ⟨rfl, (WkT.refl _), trivial⟩ rfl rfl (fun _ h => h)
theorem F_impl_CountsOf_W_C (x0 : List Int) (x1 : Int) (y0 : List Int) (y1 : Bool) (h : F_impl_CountsOf x0 x1 = some (y0, y1)) : C Try.prog 100 [T.agg [tl x0, ti x1]] (T.tup [tl y0, tb y1]) :=
  CG.toC (ps := [(List.length (List.map (T.int .i64) y0) = (List.length y0) * 1)]) (F_impl_CountsOf_W  x0 x1 y0 y1 h) (by rfl) ⟨by first | rfl | (simp; done) | omega | (simp; omega) | (simp [hl]; done) | (simp [hl]; omega), trivial⟩
theorem F_spec_l2Counts_W (x0 : List Int) (x1 : Int) (y0 : List Int) (h : F_spec_l2Counts x0 x1 = some y0) : CG Try.prog 220 [V.t (T.agg [tl x0, ti x1])] [] (vo 9000 (List.length y0)) [(9000, oc 3 (List.map (T.int .i64) y0))] := by
  unfold F_spec_l2Counts at h
  refine CG.intro (tab := tab) tab_ok (fn := Try.f220) Try.func220 (by kernel_rfl) rfl (Nat.le_of_ble_eq_true rfl) (by kernel_rfl) ?_
  refine WP.seq ?_
  refine WP.path tab_ok mixed [(1, An.fz)] [.keep [2, 1], .keepO []] (ps := []) (e := .normal) (σ' := ⟨[], [(2, V.t (T.nils)), (1, V.t (T.ptr [tl x0, ti x1]))], []⟩) (by kernel_rfl) trivial ?_
  refine WP.seq ?_
  obtain ⟨c0, h⟩ := chk_some h
  obtain ⟨c1, h⟩ := chk_some h
  refine WP.path tab_ok mixed [(7, An.v (T.int .i64 (x1 + (1 : Int)))), (8, An.id 2008)] [.keep [3, 2, 1], .keepO [2008]] (ps := [(True), (True), (T.int .i64 (IntKind.wrap .i64 (x1 + (1 : Int))) = T.int .i64 (x1 + (1 : Int))), ((0 ≤ (x1 + (1 : Int)) ∧ (x1 + (1 : Int)) ≤ (x1 + (1 : Int)) ∧ (8 : Int) * (x1 + (1 : Int)) ≤ 281474976710656 ∧ (x1 + (1 : Int)) ≤ (maxLen : Int)))]) (e := .normal) (σ' := ⟨[2008], [(3, vo 2008 (Int.toNat (x1 + (1 : Int)))), (2, V.t (T.nils)), (1, V.t (T.ptr [tl x0, ti x1]))], [(2008, oc 3 (List.replicate (Int.toNat (x1 + (1 : Int))) (ti 0)))]⟩) (by kernel_rfl) ⟨trivial, trivial, wrapI c0, c1, trivial⟩ ?_
  obtain ⟨J1, hJ1, h⟩ := jn_some h
  refine WP.joinA (fun (zz : (List Int)) => ⟨[2008], [(3, vo 2008 (List.length zz)), (2, V.t (T.nils))], [(2008, oc 3 (List.map (T.int .i64) zz))]⟩) (fun zz => J1 zz = some y0) ?_ ?_
  · -- to where they meet
    refine WP.seq ?_
    refine WP.path tab_ok mixed [] [.keep [4, 3, 2, 1], .keepO [2008]] (ps := []) (e := .normal) (σ' := ⟨[2008], [(4, vi 0), (3, vo 2008 (Int.toNat (x1 + (1 : Int)))), (2, V.t (T.nils)), (1, V.t (T.ptr [tl x0, ti x1]))], [(2008, oc 3 (List.replicate (Int.toNat (x1 + (1 : Int))) (ti 0)))]⟩) (by kernel_rfl) trivial ?_
    refine WP.block ?_
    refine WP.wk [.keep [4, 3, 2, 1], .keepO [2008], .names [(2008, 2008)]] (σ' := ⟨[2008], [(4, vi 0), (3, vo 2008 (Int.toNat (x1 + (1 : Int)))), (2, V.t (T.nils)), (1, V.t (T.ptr [tl x0, ti x1]))], [(2008, oc 3 (List.replicate (Int.toNat (x1 + (1 : Int))) (ti 0)))]⟩) (ps := []) (by kernel_rfl) trivial ?_
    refine WP.st (σ' := ⟨[2008], [(4, vi (0 : Int)), (3, vo 2008 (List.length (List.replicate (Int.toNat (x1 + (1 : Int))) (0 : Int)))), (2, V.t (T.nils)), (1, V.t (T.ptr [tl x0, ti x1]))], [(2008, oc 3 (List.map (T.int .i64) (List.replicate (Int.toNat (x1 + (1 : Int))) (0 : Int))))]⟩) (by first | rfl | (simp only [tlS, tl, vl, vo, oc, ov, tbl, vbl, ty, vy]; done) | (simp only [tlS, tl, vl, vo, oc, ov, tbl, vbl, ty, vy]; rfl) | (simp; done) | (simp []; done) | (rw [List.take_of_length_le (by simp [])]; done) | (rw [List.take_of_length_le (by simp [])]; rfl) | (simp only [tlL]; omega) | (simp; omega)) ?_
    refine WP.loop (α := Nat × (List Int) × Int) (fun zz => ⟨[2008], [(4, vi zz.2.2), (3, vo 2008 (List.length zz.2.1)), (2, V.t (T.nils)), (1, V.t (T.ptr [tl x0, ti x1]))], [(2008, oc 3 (List.map (T.int .i64) zz.2.1))]⟩) (fun zz => F_spec_l2Counts_L1 x0 J1 zz.1 zz.2.1 zz.2.2 = some y0) (fun zz => zz.1) (fuel, List.replicate (Int.toNat (x1 + (1 : Int))) (0 : Int), (0 : Int)) h ?_
    rintro ⟨n, o8, v4⟩ h0
    have h := (show F_spec_l2Counts_L1 x0 J1 n o8 v4 = some y0 from h0)
    rcases n with _ | n
    · rw [F_spec_l2Counts_L1] at h; cases h
    · rw [F_spec_l2Counts_L1] at h
      refine WP.seq ?_
      refine WP.seq ?_
      refine WP.path tab_ok mixed [] [.keep [13, 4, 3, 2, 1], .keepO [2008]] (ps := [(True), (True)]) (e := .normal) (σ' := ⟨[2008], [(13, vb (decide (v4 < ((List.length x0 : Nat) : Int)))), (4, vi v4), (3, vo 2008 (List.length o8)), (2, V.t (T.nils)), (1, V.t (T.ptr [tl x0, ti x1]))], [(2008, oc 3 (List.map (T.int .i64) o8))]⟩) (by kernel_rfl) ⟨trivial, trivial, trivial⟩ ?_
      rcases ite_some h with ⟨h1, h⟩ | ⟨h1, h⟩
      · -- yes
        refine WP.cond (b := decide (v4 < ((List.length x0 : Nat) : Int))) rfl (fun _ => ?_) (fun hh => by rw [h1] at hh; cases hh)
        refine WP.path tab_ok mixed [] [.keep [4, 3, 2, 1], .keepO [2008]] (ps := []) (e := .normal) (σ' := ⟨[2008], [(4, vi v4), (3, vo 2008 (List.length o8)), (2, V.t (T.nils)), (1, V.t (T.ptr [tl x0, ti x1]))], [(2008, oc 3 (List.map (T.int .i64) o8))]⟩) (by kernel_rfl) trivial ?_
        refine WP.seq ?_
        refine WP.block ?_
        refine WP.seq ?_
        obtain ⟨c2, h⟩ := chk_some h
        refine WP.path tab_ok mixed [(20, An.v (ti (List.getD x0 (Int.toNat v4) 0)))] [.keep [21, 4, 3, 2, 1], .keepO [2008]] (ps := [(True), ((0 ≤ v4 ∧ v4 < ((List.length x0 : Nat) : Int))), ((List.drop ((Int.toNat v4) * 1) (List.map (T.int .i64) x0) : List T)[0]? = some (ti (List.getD x0 (Int.toNat v4) 0))), (ti (List.getD x0 (Int.toNat v4) 0) = ti (List.getD x0 (Int.toNat v4) 0)), (True)]) (e := .normal) (σ' := ⟨[2008], [(21, vb (decide ((List.getD x0 (Int.toNat v4) 0) ≥ (0 : Int)))), (4, vi v4), (3, vo 2008 (List.length o8)), (2, V.t (T.nils)), (1, V.t (T.ptr [tl x0, ti x1]))], [(2008, oc 3 (List.map (T.int .i64) o8))]⟩) (by kernel_rfl) ⟨trivial, c2, at1 (by simp) (by omega), rfl, trivial, trivial⟩ ?_
        rcases ite_some h with ⟨h2, h⟩ | ⟨h2, h⟩
        · -- yes
          refine WP.cond (b := decide ((List.getD x0 (Int.toNat v4) 0) ≥ (0 : Int))) rfl (fun _ => ?_) (fun hh => by rw [h2] at hh; cases hh)
          obtain ⟨c3, h⟩ := chk_some h
          obtain ⟨c4, h⟩ := chk_some h
          obtain ⟨n30, c5, h⟩ := nam_some h
          refine WP.path tab_ok mixed [(27, An.v (ti (List.getD x0 (Int.toNat v4) 0))), (29, An.v (ti (List.getD o8 (Int.toNat (List.getD x0 (Int.toNat v4) 0)) 0))), (30, An.v (ti n30))] [.keep [4, 3, 2, 1], .keepO [2008]] (ps := [(True), ((0 ≤ v4 ∧ v4 < ((List.length x0 : Nat) : Int))), ((List.drop ((Int.toNat v4) * 1) (List.map (T.int .i64) x0) : List T)[0]? = some (ti (List.getD x0 (Int.toNat v4) 0))), (ti (List.getD x0 (Int.toNat v4) 0) = ti (List.getD x0 (Int.toNat v4) 0)), ((0 ≤ (List.getD x0 (Int.toNat v4) 0) ∧ (List.getD x0 (Int.toNat v4) 0) < ((List.length o8 : Nat) : Int))), ((List.map (T.int .i64) o8 : List T)[(Int.toNat (List.getD x0 (Int.toNat v4) 0)) * 1]? = some (ti (List.getD o8 (Int.toNat (List.getD x0 (Int.toNat v4) 0)) 0))), (ti (List.getD o8 (Int.toNat (List.getD x0 (Int.toNat v4) 0)) 0) = ti (List.getD o8 (Int.toNat (List.getD x0 (Int.toNat v4) 0)) 0)), (True), (T.int .i64 (IntKind.wrap .i64 ((List.getD o8 (Int.toNat (List.getD x0 (Int.toNat v4) 0)) 0) + (1 : Int))) = ti n30), ((0 ≤ (List.getD x0 (Int.toNat v4) 0) ∧ (List.getD x0 (Int.toNat v4) 0) < ((List.length o8 : Nat) : Int))), ((Int.toNat (List.getD x0 (Int.toNat v4) 0)) * 1 < List.length (List.map (T.int .i64) o8))]) (e := .normal) (σ' := ⟨[2008], [(4, vi v4), (3, vo 2008 (List.length o8)), (2, V.t (T.nils)), (1, V.t (T.ptr [tl x0, ti x1]))], [(2008, oc 3 (List.set (List.map (T.int .i64) o8) ((Int.toNat (List.getD x0 (Int.toNat v4) 0)) * 1) (ti n30)))]⟩) (by kernel_rfl) ⟨trivial, c2, at1 (by simp) (by omega), rfl, c3, atM (by simp) (by first | omega | (simp only [tlL]; omega) | (simp; omega)), rfl, trivial, Eq.trans (wrapI c4) (congrArg (ti) c5), c3, by first | decide | omega | (simp only [tlL]; omega) | (simp; omega) | (simp []; done) | (simp []; omega), trivial⟩ ?_
          obtain ⟨c6, h⟩ := chk_some h
          refine WP.path tab_ok mixed [(15, An.v (T.int .i64 (v4 + (1 : Int))))] [.keep [4, 3, 2, 1], .keepO [2008], .names [(2008, 2008)]] (ps := [(True), (T.int .i64 (IntKind.wrap .i64 (v4 + (1 : Int))) = T.int .i64 (v4 + (1 : Int)))]) (e := .normal) (σ' := ⟨[2008], [(4, vi (v4 + (1 : Int))), (3, vo 2008 (List.length o8)), (2, V.t (T.nils)), (1, V.t (T.ptr [tl x0, ti x1]))], [(2008, oc 3 (List.set (List.map (T.int .i64) o8) ((Int.toNat (List.getD x0 (Int.toNat v4) 0)) * 1) (ti n30)))]⟩) (by kernel_rfl) ⟨trivial, wrapI c6, trivial⟩ ?_
          exact ⟨(n, List.set o8 (Int.toNat (List.getD x0 (Int.toNat v4) 0)) n30, (v4 + (1 : Int))), h, Nat.lt_succ_self _, (by first | rfl | (simp only [tlS, tl, vl, vo, oc, ov, tbl, vbl, ty, vy]; done) | (simp only [tlS, tl, vl, vo, oc, ov, tbl, vbl, ty, vy]; rfl) | (simp; done) | (simp []; done) | (rw [List.take_of_length_le (by simp [])]; done) | (rw [List.take_of_length_le (by simp [])]; rfl) | (simp only [tlL]; omega) | (simp; omega))⟩
        · -- no
          refine WP.cond (b := decide ((List.getD x0 (Int.toNat v4) 0) ≥ (0 : Int))) rfl (fun hh => by rw [h2] at hh; cases hh) (fun _ => ?_)
          refine WP.path tab_ok mixed [] [.keep [4, 3, 2, 1], .keepO [2008]] (ps := []) (e := .normal) (σ' := ⟨[2008], [(4, vi v4), (3, vo 2008 (List.length o8)), (2, V.t (T.nils)), (1, V.t (T.ptr [tl x0, ti x1]))], [(2008, oc 3 (List.map (T.int .i64) o8))]⟩) (by kernel_rfl) trivial ?_
          obtain ⟨c3, h⟩ := chk_some h
          refine WP.path tab_ok mixed [(15, An.v (T.int .i64 (v4 + (1 : Int))))] [.keep [4, 3, 2, 1], .keepO [2008], .names [(2008, 2008)]] (ps := [(True), (T.int .i64 (IntKind.wrap .i64 (v4 + (1 : Int))) = T.int .i64 (v4 + (1 : Int)))]) (e := .normal) (σ' := ⟨[2008], [(4, vi (v4 + (1 : Int))), (3, vo 2008 (List.length o8)), (2, V.t (T.nils)), (1, V.t (T.ptr [tl x0, ti x1]))], [(2008, oc 3 (List.map (T.int .i64) o8))]⟩) (by kernel_rfl) ⟨trivial, wrapI c3, trivial⟩ ?_
          exact ⟨(n, o8, (v4 + (1 : Int))), h, Nat.lt_succ_self _, rfl⟩
      · -- no
        refine WP.cond (b := decide (v4 < ((List.length x0 : Nat) : Int))) rfl (fun hh => by rw [h1] at hh; cases hh) (fun _ => ?_)
        refine WP.path tab_ok mixed [] [.keep [3, 2], .keepO [2008], .names [(2008, 2008)]] (ps := []) (e := (.exit 0)) (σ' := ⟨[2008], [(3, vo 2008 (List.length o8)), (2, V.t (T.nils))], [(2008, oc 3 (List.map (T.int .i64) o8))]⟩) (by kernel_rfl) trivial ?_
        exact ⟨(o8), h, rfl⟩
  · -- from there
    intro o8 h0
    have h := (show J1 o8 = some y0 from h0)
    rw [hJ1] at h
    have h := Option.some.inj h
    subst h
    exact WP.pathG tab_ok mixed [] [.keep [2], .keepO [2008], .names [(2008, 9000)]] [9000] _ (r' := vo 9000 (List.length o8)) (ps := []) (r := vo 9000 (List.length o8)) (N := [9000]) (O := [(9000, oc 3 (List.map (T.int .i64) o8))]) [] (by kernel_rfl) trivial ⟨rfl, trivial⟩ rfl rfl (fun _ h => h)
theorem F_spec_l2Counts_W_C (x0 : List Int) (x1 : Int) (y0 : List Int) (h : F_spec_l2Counts x0 x1 = some y0) : C Try.prog 220 [T.agg [tl x0, ti x1]] (tl y0) :=
  CG.toC (ps := [(List.length (List.map (T.int .i64) y0) = (List.length y0) * 1)]) (F_spec_l2Counts_W  x0 x1 y0 h) (by rfl) ⟨by first | rfl | (simp; done) | omega | (simp; omega) | (simp [hl]; done) | (simp [hl]; omega), trivial⟩
theorem F_spec_CountsOf_W (x0 : List Int) (x1 : Int) (y0 : List Int) (y1 : Bool) (h : F_spec_CountsOf x0 x1 = some (y0, y1)) : CG Try.prog 101 [V.t (T.agg [tl x0, ti x1])] [] (V.tup [vo 9000 (List.length y0), vb y1]) [(9000, oc 3 (List.map (T.int .i64) y0))] := by
  unfold F_spec_CountsOf at h
  refine CG.intro (tab := tab) tab_ok (fn := Try.f101) Try.func101 (by kernel_rfl) rfl (Nat.le_of_ble_eq_true rfl) (by kernel_rfl) ?_
  refine WP.seq ?_
  refine WP.path tab_ok mixed [(1, An.fz)] [.keep [3, 2, 1], .keepO []] (ps := []) (e := .normal) (σ' := ⟨[], [(3, vb false), (2, V.t (T.nils)), (1, V.t (T.ptr [tl x0, ti x1]))], []⟩) (by kernel_rfl) trivial ?_
  refine WP.seq ?_
  refine WP.seq ?_
  obtain ⟨c0, h⟩ := chk_some h
  refine WP.path tab_ok mixed [(5, An.call (tb (isStateN x0 x1)))] [.keep [6, 3, 2, 1], .keepO []] (ps := [(2 ≤ 2), (C Try.prog 187 [T.agg [tl x0, ti x1]] (tb (isStateN x0 x1)))]) (e := .normal) (σ' := ⟨[], [(6, vb (!(isStateN x0 x1))), (3, vb false), (2, V.t (T.nils)), (1, V.t (T.ptr [tl x0, ti x1]))], []⟩) (by kernel_rfl) ⟨by decide, (l2State_C x0 x1 c0), trivial⟩ ?_
  rcases ite_some h with ⟨h1, h⟩ | ⟨h1, h⟩
  · -- yes
    refine WP.cond (b := !(isStateN x0 x1)) rfl (fun _ => ?_) (fun hh => by rw [h1] at hh; cases hh)
    simp only [Option.some.injEq, Prod.mk.injEq] at h
    obtain ⟨rfl, rfl⟩ := h
    exact WP.pathG tab_ok mixed [(7, An.id 2007)] [.keep [2, 3], .keepO [2007], .names [(2007, 9000)]] [9000] _ (r' := V.tup [vo 9000 (List.length []), vb false]) (ps := [(True), (0 = 0 * 1)]) (r := V.tup [vo 9000 0, vb false]) (N := [9000]) (O := [(9000, oc 3 [])]) [] (by kernel_rfl) ⟨trivial, by decide, trivial⟩ ⟨(congrArg (V.own 9000 1) (by first | rfl | (simp only [tlS, tl, vl, vo, oc, ov, tbl, vbl, ty, vy]; done) | (simp only [tlS, tl, vl, vo, oc, ov, tbl, vbl, ty, vy]; rfl) | (simp; done) | (simp []; done) | (rw [List.take_of_length_le (by simp [])]; done) | (rw [List.take_of_length_le (by simp [])]; rfl) | (simp only [tlL]; omega) | (simp only [tlL]; omega) | (simp; omega))), (WkT.refl _), trivial⟩ rfl (by first | rfl | (simp only [tlS, tl, vl, vo, oc, ov, tbl, vbl, ty, vy]; done) | (simp only [tlS, tl, vl, vo, oc, ov, tbl, vbl, ty, vy]; rfl) | (simp; done) | (simp []; done) | (rw [List.take_of_length_le (by simp [])]; done) | (rw [List.take_of_length_le (by simp [])]; rfl) | (simp only [tlL]; omega) | (simp; omega)) (fun _ h => h)
  · -- no
    refine WP.cond (b := !(isStateN x0 x1)) rfl (fun hh => by rw [h1] at hh; cases hh) (fun _ => ?_)
    refine WP.path tab_ok mixed [] [.keep [3, 2, 1], .keepO []] (ps := []) (e := .normal) (σ' := ⟨[], [(3, vb false), (2, V.t (T.nils)), (1, V.t (T.ptr [tl x0, ti x1]))], []⟩) (by kernel_rfl) trivial ?_
    obtain ⟨r9, c1, h⟩ := bnd1_some h
    simp only [Option.some.injEq, Prod.mk.injEq] at h
    obtain ⟨rfl, rfl⟩ := h
    exact WP.pathG tab_ok mixed [(9, An.callG [(9000, 10090)] [V.t (T.agg [tl x0, ti x1])] [] (vo 9000 (List.length r9)) [(9000, oc 3 (List.map (T.int .i64) r9))])] [.keep [2, 3], .keepO [10090], .names [(10090, 9000)]] [9000] _ (r' := V.tup [vo 9000 (List.length r9), vb true]) (ps := [(2 ≤ 2), (CG Try.prog 220 [V.t (T.agg [tl x0, ti x1])] [] (vo 9000 (List.length r9)) [(9000, oc 3 (List.map (T.int .i64) r9))]), (WkT (T.agg [tl x0, ti x1]) (T.agg [tl x0, ti x1]))]) (r := V.tup [vo 9000 (List.length r9), vb true]) (N := [9000]) (O := [(9000, oc 3 (List.map (T.int .i64) r9))]) [] (by kernel_rfl) ⟨by decide, (F_spec_l2Counts_W x0 x1 r9 c1), WkT.refl _, trivial⟩ ⟨rfl, (WkT.refl _), trivial⟩ rfl rfl (fun _ h => h)
theorem F_spec_CountsOf_W_C (x0 : List Int) (x1 : Int) (y0 : List Int) (y1 : Bool) (h : F_spec_CountsOf x0 x1 = some (y0, y1)) : C Try.prog 101 [T.agg [tl x0, ti x1]] (T.tup [tl y0, tb y1]) :=
  CG.toC (ps := [(List.length (List.map (T.int .i64) y0) = (List.length y0) * 1)]) (F_spec_CountsOf_W  x0 x1 y0 y1 h) (by rfl) ⟨by first | rfl | (simp; done) | omega | (simp; omega) | (simp [hl]; done) | (simp [hl]; omega), trivial⟩
theorem F_spec_DrawToldNumber_W (x0 : List Int) (y0 : List Int) (y1 : Int) (h : F_spec_DrawToldNumber x0 = some (y0, y1)) : CG Try.prog 102 [vy x0] [] (V.agg [vo 9000 (List.length y0), vi y1]) [(9000, oc 3 (List.map (T.int .i64) y0))] := by
  unfold F_spec_DrawToldNumber at h
  refine CG.intro (tab := tab) tab_ok (fn := Try.f102) Try.func102 (by kernel_rfl) rfl (Nat.le_of_ble_eq_true rfl) (by kernel_rfl) ?_
  refine WP.seq ?_
  refine WP.path tab_ok mixed [(2, An.id 2002)] [.keep [2, 0], .keepO [2002]] (ps := []) (e := .normal) (σ' := ⟨[2002], [(2, V.ref 2002 0), (0, vy x0)], [(2002, oc 28 [T.nils, ti 0])]⟩) (by kernel_rfl) trivial ?_
  refine WP.seq ?_
  refine WP.path tab_ok mixed [(9, An.id 2009)] [.keep [3, 2], .keepO [2002, 2009]] (ps := [((1 = 1 ∧ 0 + 1 ≤ 3) ∧ True)]) (e := .normal) (σ' := ⟨[2009, 2002], [(3, V.ref 2009 0), (2, V.ref 2002 0)], [(2002, oc 28 [T.nils, ti 0]), (2009, oc 151 [ty x0, ti 0, T.int .u64 0])]⟩) (by kernel_rfl) ⟨⟨⟨by first | rfl | (simp; done) | (simp []; done) | omega, by first | decide | (simp; done) | (simp []; done) | omega | (simp only [tlL]; omega) | (simp; omega)⟩, trivial⟩, trivial⟩ ?_
  refine WP.seq ?_
  obtain ⟨r11, r11b, r11c, r11d, r11e, c0, h⟩ := bnd5_some h
  refine WP.path tab_ok mixed [(11, An.callG [(500, 2009), (9000, 10110)] [V.ref 500 0] [(500, oc 151 [ty x0, ti 0, T.int .u64 0])] (V.agg [vo 9000 (List.length r11), vi r11b]) [(500, oc 151 [ty r11c, ti r11d, T.int .u64 r11e]), (9000, oc 3 (List.map (T.int .i64) r11))]), (4, An.id 2004)] [.keep [4, 3, 2], .keepO [2002, 2004, 2009, 10110]] (ps := [(CG Try.prog 183 [V.ref 500 0] [(500, oc 151 [ty x0, ti 0, T.int .u64 0])] (V.agg [vo 9000 (List.length r11), vi r11b]) [(500, oc 151 [ty r11c, ti r11d, T.int .u64 r11e]), (9000, oc 3 (List.map (T.int .i64) r11))]), ((V.ref 500 0).ren (renF [(500, 2009), (9000, 10110)]) = V.ref 2009 0), ((oc 151 [ty x0, ti 0, T.int .u64 0]) = (oc 151 [ty x0, ti 0, T.int .u64 0]).ren (renF [(500, 2009), (9000, 10110)])), ((0 + 2 ≤ 2 ∧ 2 = 2))]) (e := .normal) (σ' := ⟨[2004, 10110, 2009, 2002], [(4, V.ref 2004 0), (3, V.ref 2009 0), (2, V.ref 2002 0)], [(2002, oc 28 [T.nils, ti 0]), (2004, ov 28 [vo 10110 (List.length r11), vi r11b]), (2009, oc 151 [ty r11c, ti r11d, T.int .u64 r11e]), (10110, oc 3 (List.map (T.int .i64) r11))]⟩) (by kernel_rfl) ⟨(F_p_spec_l1Cur_state_W x0 (0 : Int) (0 : Int) r11 r11b r11c r11d r11e c0), by first | rfl | (simp [V.ren, V.renL, renF, lk]; done) | (simp [V.ren, V.renL, renF, lk]; omega), by first | rfl | (simp only [tlS]; rfl) | (simp [Tl.Obj.ren, V.ren, V.renL, renF, lk]; done), by decide, trivial⟩ ?_
  obtain ⟨J1, hJ1, h⟩ := jn_some h
  refine WP.joinA (fun (zz : (List Int)) => ⟨[2002, 2004, 10110], [(4, V.ref 2004 0), (2, V.ref 2002 0)], [(2002, oc 28 [T.nils, ti 0]), (2004, ov 28 [vo 10110 (List.length zz), vi r11b]), (10110, oc 3 (List.map (T.int .i64) zz))]⟩) (fun zz => J1 zz = some (y0, y1)) ?_ ?_
  · -- to where they meet
    obtain ⟨J2, hJ2, h⟩ := jn_some h
    refine WP.joinA (fun (zz : (List Int) × Int × Int × Bool) => ⟨[2002, 2004, 2009, 10110], [(19, vb zz.2.2.2), (4, V.ref 2004 0), (3, V.ref 2009 0), (2, V.ref 2002 0)], [(2002, oc 28 [T.nils, ti 0]), (2004, ov 28 [vo 10110 (List.length r11), vi r11b]), (2009, oc 151 [ty zz.1, ti zz.2.1, T.int .u64 zz.2.2.1]), (10110, oc 3 (List.map (T.int .i64) r11))]⟩) (fun zz => J2 zz.1 zz.2.1 zz.2.2.1 zz.2.2.2 = some (y0, y1)) ?_ ?_
    · -- to where they meet
      rcases ite_some h with ⟨h1, h⟩ | ⟨h1, h⟩
      · -- yes
        obtain ⟨r18, r18b, r18c, r18d, c1, h⟩ := bnd4_some h
        refine WP.path tab_ok mixed [(15, An.b true), (18, An.callG [(500, 2009)] [V.ref 500 0, vi 2] [(500, oc 151 [ty r11c, ti r11d, T.int .u64 r11e])] (vb r18) [(500, oc 151 [ty r18b, ti r18c, T.int .u64 r18d])])] [.keep [19, 4, 3, 2], .keepO [2002, 2004, 2009, 10110], .names [(2002, 2002), (2004, 2004), (2009, 2009), (10110, 10110)]] (ps := [(True), (True), ((decide (((List.length r11 : Nat) : Int) > (0 : Int))) = true), (CG Try.prog 205 [V.ref 500 0, vi 2] [(500, oc 151 [ty r11c, ti r11d, T.int .u64 r11e])] (vb r18) [(500, oc 151 [ty r18b, ti r18c, T.int .u64 r18d])]), ((V.ref 500 0).ren (renF [(500, 2009)]) = V.ref 2009 0), (WkT (ti 2) (ti 2)), ((oc 151 [ty r11c, ti r11d, T.int .u64 r11e]) = (oc 151 [ty r11c, ti r11d, T.int .u64 r11e]).ren (renF [(500, 2009)]))]) (e := .normal) (σ' := ⟨[2002, 2004, 2009, 10110], [(19, vb r18), (4, V.ref 2004 0), (3, V.ref 2009 0), (2, V.ref 2002 0)], [(2002, oc 28 [T.nils, ti 0]), (2004, ov 28 [vo 10110 (List.length r11), vi r11b]), (2009, oc 151 [ty r18b, ti r18c, T.int .u64 r18d]), (10110, oc 3 (List.map (T.int .i64) r11))]⟩) (by kernel_rfl) ⟨trivial, trivial, h1, (F_p_spec_l1Cur_one_W r11c r11d r11e (2 : Int) r18 r18b r18c r18d c1), by first | rfl | (simp [V.ren, V.renL, renF, lk]; done) | (simp [V.ren, V.renL, renF, lk]; omega), WkT.refl _, by first | rfl | (simp only [tlS]; rfl) | (simp [Tl.Obj.ren, V.ren, V.renL, renF, lk]; done), trivial⟩ ?_
        exact ⟨(r18b, r18c, r18d, r18), h, rfl⟩
      · -- no
        refine WP.path tab_ok mixed [(15, An.b false)] [.keep [19, 4, 3, 2], .keepO [2002, 2004, 2009, 10110], .names [(2002, 2002), (2004, 2004), (2009, 2009), (10110, 10110)]] (ps := [(True), (True), ((decide (((List.length r11 : Nat) : Int) > (0 : Int))) = false)]) (e := .normal) (σ' := ⟨[2002, 2004, 2009, 10110], [(19, vb false), (4, V.ref 2004 0), (3, V.ref 2009 0), (2, V.ref 2002 0)], [(2002, oc 28 [T.nils, ti 0]), (2004, ov 28 [vo 10110 (List.length r11), vi r11b]), (2009, oc 151 [ty r11c, ti r11d, T.int .u64 r11e]), (10110, oc 3 (List.map (T.int .i64) r11))]⟩) (by kernel_rfl) ⟨trivial, trivial, h1, trivial⟩ ?_
        exact ⟨(r11c, r11d, r11e, false), h, rfl⟩
    · -- from there
      rintro ⟨o9, o9b, o9c, v19⟩ h0
      have h := (show J2 o9 o9b o9c v19 = some (y0, y1) from h0)
      rw [hJ2] at h
      rcases ite_some h with ⟨h2, h⟩ | ⟨h2, h⟩
      · -- yes
        refine WP.cond (b := v19) rfl (fun _ => ?_) (fun hh => by rw [h2] at hh; cases hh)
        refine WP.seq ?_
        obtain ⟨r24, r24b, r24c, r24d, c1, h⟩ := bnd4_some h
        refine WP.path tab_ok mixed [(24, An.callG [(500, 2009)] [V.ref 500 0, vi ((List.length r11 : Nat) : Int)] [(500, oc 151 [ty o9, ti o9b, T.int .u64 o9c])] (vi r24) [(500, oc 151 [ty r24b, ti r24c, T.int .u64 r24d])])] [.keep [5, 4, 2], .keepO [2002, 2004, 10110]] (ps := [(True), (CG Try.prog 154 [V.ref 500 0, vi ((List.length r11 : Nat) : Int)] [(500, oc 151 [ty o9, ti o9b, T.int .u64 o9c])] (vi r24) [(500, oc 151 [ty r24b, ti r24c, T.int .u64 r24d])]), ((V.ref 500 0).ren (renF [(500, 2009)]) = V.ref 2009 0), (WkT (ti ((List.length r11 : Nat) : Int)) (ti ((List.length r11 : Nat) : Int))), ((oc 151 [ty o9, ti o9b, T.int .u64 o9c]) = (oc 151 [ty o9, ti o9b, T.int .u64 o9c]).ren (renF [(500, 2009)]))]) (e := .normal) (σ' := ⟨[2002, 2004, 2009, 10110], [(5, vi r24), (4, V.ref 2004 0), (2, V.ref 2002 0)], [(2002, oc 28 [T.nils, ti 0]), (2004, ov 28 [vo 10110 (List.length r11), vi r11b]), (10110, oc 3 (List.map (T.int .i64) r11))]⟩) (by kernel_rfl) ⟨trivial, (F_p_spec_l1Cur_pick_W o9 o9b o9c ((List.length r11 : Nat) : Int) r24 r24b r24c r24d c1), by first | rfl | (simp [V.ren, V.renL, renF, lk]; done) | (simp [V.ren, V.renL, renF, lk]; omega), WkT.refl _, by first | rfl | (simp only [tlS]; rfl) | (simp [Tl.Obj.ren, V.ren, V.renL, renF, lk]; done), trivial⟩ ?_
        refine WP.seq ?_
        refine WP.path tab_ok mixed [] [.keep [6, 5, 4, 2], .keepO [2002, 2004, 10110]] (ps := []) (e := .normal) (σ' := ⟨[2002, 2004, 2009, 10110], [(6, vi 0), (5, vi r24), (4, V.ref 2004 0), (2, V.ref 2002 0)], [(2002, oc 28 [T.nils, ti 0]), (2004, ov 28 [vo 10110 (List.length r11), vi r11b]), (10110, oc 3 (List.map (T.int .i64) r11))]⟩) (by kernel_rfl) trivial ?_
        refine WP.block ?_
        refine WP.wk [.keep [6, 5, 4, 2], .keepO [2002, 2004, 10110], .names [(2002, 2002), (2004, 2004), (10110, 10110)]] (σ' := ⟨[2002, 2004, 10110], [(6, vi 0), (5, vi r24), (4, V.ref 2004 0), (2, V.ref 2002 0)], [(2002, oc 28 [T.nils, ti 0]), (2004, ov 28 [vo 10110 (List.length r11), vi r11b]), (10110, oc 3 (List.map (T.int .i64) r11))]⟩) (ps := []) (by kernel_rfl) trivial ?_
        refine WP.st (σ' := ⟨[2002, 2004, 10110], [(6, vi (0 : Int)), (5, vi r24), (4, V.ref 2004 0), (2, V.ref 2002 0)], [(2002, oc 28 [T.nils, ti 0]), (2004, ov 28 [vo 10110 (List.length r11), vi r11b]), (10110, oc 3 (List.map (T.int .i64) r11))]⟩) (by first | rfl | (simp only [tlS, tl, vl, vo, oc, ov, tbl, vbl, ty, vy]; done) | (simp only [tlS, tl, vl, vo, oc, ov, tbl, vbl, ty, vy]; rfl) | (simp; done) | (simp []; done) | (rw [List.take_of_length_le (by simp [])]; done) | (rw [List.take_of_length_le (by simp [])]; rfl) | (simp only [tlL]; omega) | (simp; omega)) ?_
        refine WP.loop (α := Nat × (List Int) × Int) (fun zz => ⟨[2002, 2004, 10110], [(6, vi zz.2.2), (5, vi r24), (4, V.ref 2004 0), (2, V.ref 2002 0)], [(2002, oc 28 [T.nils, ti 0]), (2004, ov 28 [vo 10110 (List.length zz.2.1), vi r11b]), (10110, oc 3 (List.map (T.int .i64) zz.2.1))]⟩) (fun zz => F_spec_DrawToldNumber_L1 J1 r24 zz.1 zz.2.1 zz.2.2 = some (y0, y1)) (fun zz => zz.1) (fuel, r11, (0 : Int)) h ?_
        rintro ⟨n, o10110, v6⟩ h0
        have h := (show F_spec_DrawToldNumber_L1 J1 r24 n o10110 v6 = some (y0, y1) from h0)
        rcases n with _ | n
        · rw [F_spec_DrawToldNumber_L1] at h; cases h
        · rw [F_spec_DrawToldNumber_L1] at h
          refine WP.seq ?_
          refine WP.seq ?_
          refine WP.path tab_ok mixed [] [.keep [29, 6, 5, 4, 2], .keepO [2002, 2004, 10110]] (ps := [(True), (True)]) (e := .normal) (σ' := ⟨[2002, 2004, 10110], [(29, vb (decide (v6 < ((List.length o10110 : Nat) : Int)))), (6, vi v6), (5, vi r24), (4, V.ref 2004 0), (2, V.ref 2002 0)], [(2002, oc 28 [T.nils, ti 0]), (2004, ov 28 [vo 10110 (List.length o10110), vi r11b]), (10110, oc 3 (List.map (T.int .i64) o10110))]⟩) (by kernel_rfl) ⟨trivial, trivial, trivial⟩ ?_
          rcases ite_some h with ⟨h3, h⟩ | ⟨h3, h⟩
          · -- yes
            refine WP.cond (b := decide (v6 < ((List.length o10110 : Nat) : Int))) rfl (fun _ => ?_) (fun hh => by rw [h3] at hh; cases hh)
            refine WP.path tab_ok mixed [] [.keep [6, 5, 4, 2], .keepO [2002, 2004, 10110]] (ps := []) (e := .normal) (σ' := ⟨[2002, 2004, 10110], [(6, vi v6), (5, vi r24), (4, V.ref 2004 0), (2, V.ref 2002 0)], [(2002, oc 28 [T.nils, ti 0]), (2004, ov 28 [vo 10110 (List.length o10110), vi r11b]), (10110, oc 3 (List.map (T.int .i64) o10110))]⟩) (by kernel_rfl) trivial ?_
            refine WP.seq ?_
            refine WP.block ?_
            refine WP.seq ?_
            refine WP.path tab_ok mixed [] [.keep [34, 6, 5, 4, 2], .keepO [2002, 2004, 10110]] (ps := [(True)]) (e := .normal) (σ' := ⟨[2002, 2004, 10110], [(34, vb (v6 != r24)), (6, vi v6), (5, vi r24), (4, V.ref 2004 0), (2, V.ref 2002 0)], [(2002, oc 28 [T.nils, ti 0]), (2004, ov 28 [vo 10110 (List.length o10110), vi r11b]), (10110, oc 3 (List.map (T.int .i64) o10110))]⟩) (by kernel_rfl) ⟨trivial, trivial⟩ ?_
            rcases ite_some h with ⟨h4, h⟩ | ⟨h4, h⟩
            · -- yes
              refine WP.cond (b := v6 != r24) rfl (fun _ => ?_) (fun hh => by rw [h4] at hh; cases hh)
              obtain ⟨c2, h⟩ := chk_some h
              refine WP.path tab_ok mixed [] [.keep [6, 5, 4, 2], .keepO [2002, 2004, 10110]] (ps := [(True), ((0 ≤ v6 ∧ v6 < ((List.length o10110 : Nat) : Int))), ((Int.toNat v6) * 1 < List.length (List.map (T.int .i64) o10110))]) (e := .normal) (σ' := ⟨[2002, 2004, 10110], [(6, vi v6), (5, vi r24), (4, V.ref 2004 0), (2, V.ref 2002 0)], [(2002, oc 28 [T.nils, ti 0]), (2004, ov 28 [vo 10110 (List.length o10110), vi r11b]), (10110, oc 3 (List.set (List.map (T.int .i64) o10110) ((Int.toNat v6) * 1) (ti (-1))))]⟩) (by kernel_rfl) ⟨trivial, c2, by first | decide | omega | (simp only [tlL]; omega) | (simp; omega) | (simp []; done) | (simp []; omega), trivial⟩ ?_
              obtain ⟨c3, h⟩ := chk_some h
              refine WP.path tab_ok mixed [(31, An.v (T.int .i64 (v6 + (1 : Int))))] [.keep [6, 5, 4, 2], .keepO [2002, 2004, 10110], .names [(2002, 2002), (2004, 2004), (10110, 10110)]] (ps := [(True), (T.int .i64 (IntKind.wrap .i64 (v6 + (1 : Int))) = T.int .i64 (v6 + (1 : Int)))]) (e := .normal) (σ' := ⟨[2002, 2004, 10110], [(6, vi (v6 + (1 : Int))), (5, vi r24), (4, V.ref 2004 0), (2, V.ref 2002 0)], [(2002, oc 28 [T.nils, ti 0]), (2004, ov 28 [vo 10110 (List.length o10110), vi r11b]), (10110, oc 3 (List.set (List.map (T.int .i64) o10110) ((Int.toNat v6) * 1) (ti (-1))))]⟩) (by kernel_rfl) ⟨trivial, wrapI c3, trivial⟩ ?_
              exact ⟨(n, List.set o10110 (Int.toNat v6) (-1 : Int), (v6 + (1 : Int))), h, Nat.lt_succ_self _, (by first | rfl | (simp only [tlS, tl, vl, vo, oc, ov, tbl, vbl, ty, vy]; done) | (simp only [tlS, tl, vl, vo, oc, ov, tbl, vbl, ty, vy]; rfl) | (simp; done) | (simp []; done) | (rw [List.take_of_length_le (by simp [])]; done) | (rw [List.take_of_length_le (by simp [])]; rfl) | (simp only [tlL]; omega) | (simp; omega))⟩
            · -- no
              refine WP.cond (b := v6 != r24) rfl (fun hh => by rw [h4] at hh; cases hh) (fun _ => ?_)
              refine WP.path tab_ok mixed [] [.keep [6, 5, 4, 2], .keepO [2002, 2004, 10110]] (ps := []) (e := .normal) (σ' := ⟨[2002, 2004, 10110], [(6, vi v6), (5, vi r24), (4, V.ref 2004 0), (2, V.ref 2002 0)], [(2002, oc 28 [T.nils, ti 0]), (2004, ov 28 [vo 10110 (List.length o10110), vi r11b]), (10110, oc 3 (List.map (T.int .i64) o10110))]⟩) (by kernel_rfl) trivial ?_
              obtain ⟨c2, h⟩ := chk_some h
              refine WP.path tab_ok mixed [(31, An.v (T.int .i64 (v6 + (1 : Int))))] [.keep [6, 5, 4, 2], .keepO [2002, 2004, 10110], .names [(2002, 2002), (2004, 2004), (10110, 10110)]] (ps := [(True), (T.int .i64 (IntKind.wrap .i64 (v6 + (1 : Int))) = T.int .i64 (v6 + (1 : Int)))]) (e := .normal) (σ' := ⟨[2002, 2004, 10110], [(6, vi (v6 + (1 : Int))), (5, vi r24), (4, V.ref 2004 0), (2, V.ref 2002 0)], [(2002, oc 28 [T.nils, ti 0]), (2004, ov 28 [vo 10110 (List.length o10110), vi r11b]), (10110, oc 3 (List.map (T.int .i64) o10110))]⟩) (by kernel_rfl) ⟨trivial, wrapI c2, trivial⟩ ?_
              exact ⟨(n, o10110, (v6 + (1 : Int))), h, Nat.lt_succ_self _, rfl⟩
          · -- no
            refine WP.cond (b := decide (v6 < ((List.length o10110 : Nat) : Int))) rfl (fun hh => by rw [h3] at hh; cases hh) (fun _ => ?_)
            refine WP.path tab_ok mixed [] [.keep [4, 2], .keepO [2002, 2004, 10110], .names [(2002, 2002), (2004, 2004), (10110, 10110)]] (ps := []) (e := (.exit 0)) (σ' := ⟨[2002, 2004, 10110], [(4, V.ref 2004 0), (2, V.ref 2002 0)], [(2002, oc 28 [T.nils, ti 0]), (2004, ov 28 [vo 10110 (List.length o10110), vi r11b]), (10110, oc 3 (List.map (T.int .i64) o10110))]⟩) (by kernel_rfl) trivial ?_
            exact ⟨(o10110), h, rfl⟩
      · -- no
        refine WP.cond (b := v19) rfl (fun hh => by rw [h2] at hh; cases hh) (fun _ => ?_)
        refine WP.path tab_ok mixed [] [.keep [4, 2], .keepO [2002, 2004, 10110], .names [(2002, 2002), (2004, 2004), (10110, 10110)]] (ps := []) (e := .normal) (σ' := ⟨[2002, 2004, 10110], [(4, V.ref 2004 0), (2, V.ref 2002 0)], [(2002, oc 28 [T.nils, ti 0]), (2004, ov 28 [vo 10110 (List.length r11), vi r11b]), (10110, oc 3 (List.map (T.int .i64) r11))]⟩) (by kernel_rfl) trivial ?_
        exact ⟨(r11), h, rfl⟩
  · -- from there
    intro o10110 h0
    have h := (show J1 o10110 = some (y0, y1) from h0)
    rw [hJ1] at h
    simp only [Option.some.injEq, Prod.mk.injEq] at h
    obtain ⟨rfl, rfl⟩ := h
    exact WP.pathG tab_ok mixed [] [.keep [2], .keepO [10110, 2002], .names [(10110, 9000), (2002, 2002)]] [9000] _ (r' := V.agg [vo 9000 (List.length o10110), vi r11b]) (ps := [(0 + 2 ≤ 2), ((0 + 2 ≤ 2 ∧ 2 = 2)), (0 + 2 ≤ 2)]) (r := V.agg [vo 9000 (List.length o10110), vi r11b]) (N := [9000, 2002]) (O := [(9000, oc 3 (List.map (T.int .i64) o10110))]) [] (by kernel_rfl) ⟨by decide, by decide, by decide, trivial⟩ ⟨rfl, (WkT.refl _), trivial⟩ rfl rfl (fun _ h => h)
theorem F_spec_DrawToldNumber_W_C (x0 : List Int) (y0 : List Int) (y1 : Int) (h : F_spec_DrawToldNumber x0 = some (y0, y1)) : C Try.prog 102 [ty x0] (T.agg [tl y0, ti y1]) :=
  CG.toC (ps := [(List.length (List.map (T.int .i64) y0) = (List.length y0) * 1)]) (F_spec_DrawToldNumber_W  x0 y0 y1 h) (by rfl) ⟨by first | rfl | (simp; done) | omega | (simp; omega) | (simp [hl]; done) | (simp [hl]; omega), trivial⟩
theorem F_impl_ToldNumber_W (x0 : List Int) (x1 : Int) (y0 : Int) (y1 : Bool) (h : F_impl_ToldNumber x0 x1 = some (y0, y1)) : C Try.prog 103 [T.agg [tl x0, ti x1]] (T.tup [ti y0, tb y1]) := by
  unfold F_impl_ToldNumber at h
  refine C.intro (tab := tab) tab_ok (fn := Try.f103) Try.func103 (by kernel_rfl) rfl (Nat.le_of_ble_eq_true rfl) ?_
  refine WP.seq ?_
  refine WP.path tab_ok mixed [(1, An.fz)] [.keep [3, 2, 1], .keepO []] (ps := []) (e := .normal) (σ' := ⟨[], [(3, vb false), (2, vi 0), (1, V.t (T.ptr [tl x0, ti x1]))], []⟩) (by kernel_rfl) trivial ?_
  refine WP.seq ?_
  obtain ⟨c0, h⟩ := chk_some h
  refine WP.path tab_ok mixed [(6, An.callG [(9000, 10060)] [V.t (T.agg [tl x0, ti x1])] [] (vo 9000 (List.length (openN x0))) [(9000, oc 3 (List.map (T.int .i64) (openN x0)))])] [.keep [4, 3, 2, 1], .keepO [10060]] (ps := [(2 ≤ 2), (CG Try.prog 153 [V.t (T.agg [tl x0, ti x1])] [] (vo 9000 (List.length (openN x0))) [(9000, oc 3 (List.map (T.int .i64) (openN x0)))]), (WkT (T.agg [tl x0, ti x1]) (T.agg [tl x0, ti x1]))]) (e := .normal) (σ' := ⟨[10060], [(4, vo 10060 (List.length (openN x0))), (3, vb false), (2, vi 0), (1, V.t (T.ptr [tl x0, ti x1]))], [(10060, oc 3 (List.map (T.int .i64) (openN x0)))]⟩) (by kernel_rfl) ⟨by decide, (open_C_G x0 x1 c0), WkT.refl _, trivial⟩ ?_
  refine WP.seq ?_
  obtain ⟨J1, hJ1, h⟩ := jn_some h
  refine WP.joinA (fun (zz : Bool) => ⟨[10060], [(14, vb zz), (4, vo 10060 (List.length (openN x0))), (3, vb false), (2, vi 0)], [(10060, oc 3 (List.map (T.int .i64) (openN x0)))]⟩) (fun zz => J1 zz = some (y0, y1)) ?_ ?_
  · -- to where they meet
    obtain ⟨c1, h⟩ := chk_some h
    rcases ite_some h with ⟨h1, h⟩ | ⟨h1, h⟩
    · -- yes
      refine WP.path tab_ok mixed [(8, An.call (tb (isStateN x0 x1))), (10, An.b true)] [.keep [14, 4, 3, 2], .keepO [10060], .names [(10060, 10060)]] (ps := [(2 ≤ 2), (C Try.prog 99 [T.agg [tl x0, ti x1]] (tb (isStateN x0 x1))), ((!(isStateN x0 x1)) = true)]) (e := .normal) (σ' := ⟨[10060], [(14, vb true), (4, vo 10060 (List.length (openN x0))), (3, vb false), (2, vi 0)], [(10060, oc 3 (List.map (T.int .i64) (openN x0)))]⟩) (by kernel_rfl) ⟨by decide, (isState_C x0 x1 c1), h1, trivial⟩ ?_
      exact ⟨(true), h, rfl⟩
    · -- no
      refine WP.path tab_ok mixed [(8, An.call (tb (isStateN x0 x1))), (10, An.b false)] [.keep [14, 4, 3, 2], .keepO [10060], .names [(10060, 10060)]] (ps := [(2 ≤ 2), (C Try.prog 99 [T.agg [tl x0, ti x1]] (tb (isStateN x0 x1))), ((!(isStateN x0 x1)) = false), (True)]) (e := .normal) (σ' := ⟨[10060], [(14, vb (((List.length (openN x0) : Nat) : Int) != (1 : Int))), (4, vo 10060 (List.length (openN x0))), (3, vb false), (2, vi 0)], [(10060, oc 3 (List.map (T.int .i64) (openN x0)))]⟩) (by kernel_rfl) ⟨by decide, (isState_C x0 x1 c1), h1, trivial, trivial⟩ ?_
      exact ⟨(((List.length (openN x0) : Nat) : Int) != (1 : Int)), h, rfl⟩
  · -- from there
    intro v14 h0
    have h := (show J1 v14 = some (y0, y1) from h0)
    rw [hJ1] at h
    rcases ite_some h with ⟨h2, h⟩ | ⟨h2, h⟩
    · -- yes
      refine WP.cond (b := v14) rfl (fun _ => ?_) (fun hh => by rw [h2] at hh; cases hh)
      simp only [Option.some.injEq, Prod.mk.injEq] at h
      obtain ⟨rfl, rfl⟩ := h
      exact WP.pathW tab_ok mixed [] _ (ps := []) (r := T.tup [ti 0, tb false]) (by kernel_rfl) trivial (WkT.eq (y := T.tup [ti 0, tb false]) (WkT.refl _) (by first | rfl | (simp only [tlS, tl, vl, vo, oc, ov, tbl, vbl, ty, vy]; done) | (simp only [tlS, tl, vl, vo, oc, ov, tbl, vbl, ty, vy]; rfl) | (simp; done) | (simp []; done) | (rw [List.take_of_length_le (by simp [])]; done) | (rw [List.take_of_length_le (by simp [])]; rfl) | (simp only [tlL]; omega) | (simp; omega))) (fun _ h => h)
    · -- no
      refine WP.cond (b := v14) rfl (fun hh => by rw [h2] at hh; cases hh) (fun _ => ?_)
      refine WP.path tab_ok mixed [] [.keep [4, 3, 2], .keepO [10060]] (ps := []) (e := .normal) (σ' := ⟨[10060], [(4, vo 10060 (List.length (openN x0))), (3, vb false), (2, vi 0)], [(10060, oc 3 (List.map (T.int .i64) (openN x0)))]⟩) (by kernel_rfl) trivial ?_
      obtain ⟨c1, h⟩ := chk_some h
      simp only [Option.some.injEq, Prod.mk.injEq] at h
      obtain ⟨rfl, rfl⟩ := h
      exact WP.pathW tab_ok mixed [(17, An.v (ti (List.getD (openN x0) 0 0)))] _ (ps := [((0 ≤ (0 : Int) ∧ (0 : Int) < ((List.length (openN x0) : Nat) : Int))), ((List.map (T.int .i64) (openN x0) : List T)[0]? = some (ti (List.getD (openN x0) 0 0))), (ti (List.getD (openN x0) 0 0) = ti (List.getD (openN x0) 0 0))]) (r := T.tup [ti (List.getD (openN x0) 0 0), tb true]) (by kernel_rfl) ⟨c1, atM (by simp) (by omega), rfl, trivial⟩ (WkT.eq (y := T.tup [ti (List.getD (openN x0) 0 0), tb true]) (WkT.refl _) rfl) (fun _ h => h)
theorem F_spec_l2Told_W (x0 : List Int) (x1 : Int) (y0 : Int) (h : F_spec_l2Told x0 x1 = some y0) : C Try.prog 221 [T.agg [tl x0, ti x1]] (ti y0) := by
  unfold F_spec_l2Told at h
  refine C.intro (tab := tab) tab_ok (fn := Try.f221) Try.func221 (by kernel_rfl) rfl (Nat.le_of_ble_eq_true rfl) ?_
  refine WP.seq ?_
  refine WP.path tab_ok mixed [(1, An.fz)] [.keep [2, 1], .keepO []] (ps := []) (e := .normal) (σ' := ⟨[], [(2, vi 0), (1, V.t (T.ptr [tl x0, ti x1]))], []⟩) (by kernel_rfl) trivial ?_
  refine WP.seq ?_
  refine WP.seq ?_
  obtain ⟨r5, c0, h⟩ := bnd1_some h
  refine WP.path tab_ok mixed [(5, An.callG [(9000, 10050)] [V.t (T.agg [tl x0, ti x1])] [] (vo 9000 (List.length r5)) [(9000, oc 3 (List.map (T.int .i64) r5))])] [.keep [3, 2], .keepO [10050]] (ps := [(2 ≤ 2), (CG Try.prog 169 [V.t (T.agg [tl x0, ti x1])] [] (vo 9000 (List.length r5)) [(9000, oc 3 (List.map (T.int .i64) r5))]), (WkT (T.agg [tl x0, ti x1]) (T.agg [tl x0, ti x1]))]) (e := .normal) (σ' := ⟨[10050], [(3, vo 10050 (List.length r5)), (2, vi 0)], [(10050, oc 3 (List.map (T.int .i64) r5))]⟩) (by kernel_rfl) ⟨by decide, (F_spec_l2Open_W x0 x1 r5 c0), WkT.refl _, trivial⟩ ?_
  refine WP.seq ?_
  refine WP.path tab_ok mixed [] [.keep [8, 3, 2], .keepO [10050]] (ps := [(True)]) (e := .normal) (σ' := ⟨[10050], [(8, vb (((List.length r5 : Nat) : Int) == (1 : Int))), (3, vo 10050 (List.length r5)), (2, vi 0)], [(10050, oc 3 (List.map (T.int .i64) r5))]⟩) (by kernel_rfl) ⟨trivial, trivial⟩ ?_
  rcases ite_some h with ⟨h1, h⟩ | ⟨h1, h⟩
  · -- yes
    refine WP.cond (b := ((List.length r5 : Nat) : Int) == (1 : Int)) rfl (fun _ => ?_) (fun hh => by rw [h1] at hh; cases hh)
    obtain ⟨c1, h⟩ := chk_some h
    have h := Option.some.inj h
    subst h
    exact WP.pathW tab_ok mixed [(11, An.v (ti (List.getD r5 0 0)))] _ (ps := [((0 ≤ (0 : Int) ∧ (0 : Int) < ((List.length r5 : Nat) : Int))), ((List.map (T.int .i64) r5 : List T)[0]? = some (ti (List.getD r5 0 0))), (ti (List.getD r5 0 0) = ti (List.getD r5 0 0))]) (r := ti (List.getD r5 0 0)) (by kernel_rfl) ⟨c1, atM (by simp) (by omega), rfl, trivial⟩ (WkT.eq (y := ti (List.getD r5 0 0)) (WkT.refl _) rfl) (fun _ h => h)
  · -- no
    refine WP.cond (b := ((List.length r5 : Nat) : Int) == (1 : Int)) rfl (fun hh => by rw [h1] at hh; cases hh) (fun _ => ?_)
    refine WP.path tab_ok mixed [] [.keep [2], .keepO []] (ps := []) (e := .normal) (σ' := ⟨[10050], [(2, vi 0)], []⟩) (by kernel_rfl) trivial ?_
    have h := Option.some.inj h
    subst h
    exact WP.pathW tab_ok mixed [] _ (ps := []) (r := ti (-1)) (by kernel_rfl) trivial (WkT.eq (y := ti (-1)) (WkT.refl _) (by first | rfl | (simp only [tlS, tl, vl, vo, oc, ov, tbl, vbl, ty, vy]; done) | (simp only [tlS, tl, vl, vo, oc, ov, tbl, vbl, ty, vy]; rfl) | (simp; done) | (simp []; done) | (rw [List.take_of_length_le (by simp [])]; done) | (rw [List.take_of_length_le (by simp [])]; rfl) | (simp only [tlL]; omega) | (simp; omega))) (fun _ h => h)
theorem F_spec_ToldNumber_W (x0 : List Int) (x1 : Int) (y0 : Int) (y1 : Bool) (h : F_spec_ToldNumber x0 x1 = some (y0, y1)) : C Try.prog 104 [T.agg [tl x0, ti x1]] (T.tup [ti y0, tb y1]) := by
  unfold F_spec_ToldNumber at h
  refine C.intro (tab := tab) tab_ok (fn := Try.f104) Try.func104 (by kernel_rfl) rfl (Nat.le_of_ble_eq_true rfl) ?_
  refine WP.seq ?_
  refine WP.path tab_ok mixed [(1, An.fz)] [.keep [3, 2, 1], .keepO []] (ps := []) (e := .normal) (σ' := ⟨[], [(3, vb false), (2, vi 0), (1, V.t (T.ptr [tl x0, ti x1]))], []⟩) (by kernel_rfl) trivial ?_
  refine WP.seq ?_
  refine WP.seq ?_
  obtain ⟨c0, h⟩ := chk_some h
  refine WP.path tab_ok mixed [(6, An.call (tb (isStateN x0 x1)))] [.keep [7, 3, 2, 1], .keepO []] (ps := [(2 ≤ 2), (C Try.prog 187 [T.agg [tl x0, ti x1]] (tb (isStateN x0 x1)))]) (e := .normal) (σ' := ⟨[], [(7, vb (!(isStateN x0 x1))), (3, vb false), (2, vi 0), (1, V.t (T.ptr [tl x0, ti x1]))], []⟩) (by kernel_rfl) ⟨by decide, (l2State_C x0 x1 c0), trivial⟩ ?_
  rcases ite_some h with ⟨h1, h⟩ | ⟨h1, h⟩
  · -- yes
    refine WP.cond (b := !(isStateN x0 x1)) rfl (fun _ => ?_) (fun hh => by rw [h1] at hh; cases hh)
    simp only [Option.some.injEq, Prod.mk.injEq] at h
    obtain ⟨rfl, rfl⟩ := h
    exact WP.pathW tab_ok mixed [] _ (ps := []) (r := T.tup [ti 0, tb false]) (by kernel_rfl) trivial (WkT.eq (y := T.tup [ti 0, tb false]) (WkT.refl _) (by first | rfl | (simp only [tlS, tl, vl, vo, oc, ov, tbl, vbl, ty, vy]; done) | (simp only [tlS, tl, vl, vo, oc, ov, tbl, vbl, ty, vy]; rfl) | (simp; done) | (simp []; done) | (rw [List.take_of_length_le (by simp [])]; done) | (rw [List.take_of_length_le (by simp [])]; rfl) | (simp only [tlL]; omega) | (simp; omega))) (fun _ h => h)
  · -- no
    refine WP.cond (b := !(isStateN x0 x1)) rfl (fun hh => by rw [h1] at hh; cases hh) (fun _ => ?_)
    refine WP.path tab_ok mixed [] [.keep [3, 2, 1], .keepO []] (ps := []) (e := .normal) (σ' := ⟨[], [(3, vb false), (2, vi 0), (1, V.t (T.ptr [tl x0, ti x1]))], []⟩) (by kernel_rfl) trivial ?_
    obtain ⟨r9, c1, h⟩ := bnd1_some h
    simp only [Option.some.injEq, Prod.mk.injEq] at h
    obtain ⟨rfl, rfl⟩ := h
    exact WP.pathW tab_ok mixed [(9, An.call (ti r9)), (11, An.call (ti (maxN r9 (0 : Int))))] _ (ps := [(2 ≤ 2), (C Try.prog 221 [T.agg [tl x0, ti x1]] (ti r9)), (C Try.prog 155 [ti r9, ti 0] (ti (maxN r9 (0 : Int)))), (True)]) (r := T.tup [ti (maxN r9 (0 : Int)), tb (decide (r9 ≥ (0 : Int)))]) (by kernel_rfl) ⟨by decide, (F_spec_l2Told_W x0 x1 r9 c1), (by have hh := (l1Most_C r9 (0 : Int)); simpa using hh), trivial, trivial⟩ (WkT.eq (y := T.tup [ti (maxN r9 (0 : Int)), tb (decide (r9 ≥ (0 : Int)))]) (WkT.refl _) rfl) (fun _ h => h)
theorem F_spec_DrawAnswerState_W (x0 : List Int) (y0 : List Int) (y1 : Int) (y2 : Int) (y3 : Bool) (h : F_spec_DrawAnswerState x0 = some (y0, y1, y2, y3)) : CG Try.prog 201 [vy x0] [] (V.tup [V.agg [vo 9000 (List.length y0), vi y1], V.t (T.agg [ti y2, tb y3])]) [(9000, oc 3 (List.map (T.int .i64) y0))] := by
  unfold F_spec_DrawAnswerState at h
  refine CG.intro (tab := tab) tab_ok (fn := Try.f201) Try.func201 (by kernel_rfl) rfl (Nat.le_of_ble_eq_true rfl) (by kernel_rfl) ?_
  obtain ⟨r11, r11b, r11c, r11d, r11e, c0, h⟩ := bnd5_some h
  obtain ⟨r13, r13b, r13c, r13d, c1, h⟩ := bnd4_some h
  obtain ⟨r19, r19b, r19c, r19d, c2, h⟩ := bnd4_some h
  simp only [Option.some.injEq, Prod.mk.injEq] at h
  obtain ⟨rfl, rfl, rfl, rfl⟩ := h
  exact WP.pathG tab_ok mixed [(2, An.id 2002), (3, An.id 2003), (9, An.id 2009), (11, An.callG [(500, 2009), (9000, 10110)] [V.ref 500 0] [(500, oc 151 [ty x0, ti 0, T.int .u64 0])] (V.agg [vo 9000 (List.length r11), vi r11b]) [(500, oc 151 [ty r11c, ti r11d, T.int .u64 r11e]), (9000, oc 3 (List.map (T.int .i64) r11))]), (5, An.id 2005), (13, An.callG [(500, 2009)] [V.ref 500 0, vi 2] [(500, oc 151 [ty r11c, ti r11d, T.int .u64 r11e])] (vb r13) [(500, oc 151 [ty r13b, ti r13c, T.int .u64 r13d])]), (19, An.callG [(500, 2009)] [V.ref 500 0, vi ((List.length r11 : Nat) : Int)] [(500, oc 151 [ty r13b, ti r13c, T.int .u64 r13d])] (vi r19) [(500, oc 151 [ty r19b, ti r19c, T.int .u64 r19d])])] [.keep [2, 3], .keepO [10110, 2002, 2003], .names [(10110, 9000), (2002, 2002), (2003, 2003)]] [9000] _ (r' := V.tup [V.agg [vo 9000 (List.length r11), vi r11b], V.t (T.agg [ti r19, tb r13])]) (ps := [((1 = 1 ∧ 0 + 1 ≤ 3) ∧ True), (CG Try.prog 183 [V.ref 500 0] [(500, oc 151 [ty x0, ti 0, T.int .u64 0])] (V.agg [vo 9000 (List.length r11), vi r11b]) [(500, oc 151 [ty r11c, ti r11d, T.int .u64 r11e]), (9000, oc 3 (List.map (T.int .i64) r11))]), ((V.ref 500 0).ren (renF [(500, 2009), (9000, 10110)]) = V.ref 2009 0), ((oc 151 [ty x0, ti 0, T.int .u64 0]) = (oc 151 [ty x0, ti 0, T.int .u64 0]).ren (renF [(500, 2009), (9000, 10110)])), ((0 + 2 ≤ 2 ∧ 2 = 2)), (CG Try.prog 205 [V.ref 500 0, vi 2] [(500, oc 151 [ty r11c, ti r11d, T.int .u64 r11e])] (vb r13) [(500, oc 151 [ty r13b, ti r13c, T.int .u64 r13d])]), ((V.ref 500 0).ren (renF [(500, 2009)]) = V.ref 2009 0), (WkT (ti 2) (ti 2)), ((oc 151 [ty r11c, ti r11d, T.int .u64 r11e]) = (oc 151 [ty r11c, ti r11d, T.int .u64 r11e]).ren (renF [(500, 2009)])), (0 + 2 ≤ 2), (True), (CG Try.prog 171 [V.ref 500 0, vi ((List.length r11 : Nat) : Int)] [(500, oc 151 [ty r13b, ti r13c, T.int .u64 r13d])] (vi r19) [(500, oc 151 [ty r19b, ti r19c, T.int .u64 r19d])]), ((V.ref 500 0).ren (renF [(500, 2009)]) = V.ref 2009 0), (WkT (ti ((List.length r11 : Nat) : Int)) (ti ((List.length r11 : Nat) : Int))), ((oc 151 [ty r13b, ti r13c, T.int .u64 r13d]) = (oc 151 [ty r13b, ti r13c, T.int .u64 r13d]).ren (renF [(500, 2009)])), ((1 = 1 ∧ 0 + 1 ≤ 2) ∧ (1 = 1 ∧ 1 + 1 ≤ 2) ∧ True), ((0 + 2 ≤ 2 ∧ 2 = 2)), ((0 + 2 ≤ 2 ∧ 2 = 2)), (0 + 2 ≤ 2), (0 + 2 ≤ 2)]) (r := V.tup [V.agg [vo 9000 (List.length r11), vi r11b], V.t (T.agg [ti r19, tb r13])]) (N := [9000, 2002, 2003]) (O := [(9000, oc 3 (List.map (T.int .i64) r11))]) [] (by kernel_rfl) ⟨⟨⟨by first | rfl | (simp; done) | (simp []; done) | omega, by first | decide | (simp; done) | (simp []; done) | omega | (simp only [tlL]; omega) | (simp; omega)⟩, trivial⟩, (F_p_spec_l1Cur_state_W x0 (0 : Int) (0 : Int) r11 r11b r11c r11d r11e c0), by first | rfl | (simp [V.ren, V.renL, renF, lk]; done) | (simp [V.ren, V.renL, renF, lk]; omega), by first | rfl | (simp only [tlS]; rfl) | (simp [Tl.Obj.ren, V.ren, V.renL, renF, lk]; done), by decide, (F_p_spec_l1Cur_one_W r11c r11d r11e (2 : Int) r13 r13b r13c r13d c1), by first | rfl | (simp [V.ren, V.renL, renF, lk]; done) | (simp [V.ren, V.renL, renF, lk]; omega), WkT.refl _, by first | rfl | (simp only [tlS]; rfl) | (simp [Tl.Obj.ren, V.ren, V.renL, renF, lk]; done), by decide, trivial, (F_p_spec_l1Cur_question_W r13b r13c r13d ((List.length r11 : Nat) : Int) r19 r19b r19c r19d c2), by first | rfl | (simp [V.ren, V.renL, renF, lk]; done) | (simp [V.ren, V.renL, renF, lk]; omega), WkT.refl _, by first | rfl | (simp only [tlS]; rfl) | (simp [Tl.Obj.ren, V.ren, V.renL, renF, lk]; done), ⟨⟨by first | rfl | (simp; done) | (simp []; done) | omega, by first | decide | (simp; done) | (simp []; done) | omega | (simp only [tlL]; omega) | (simp; omega)⟩, ⟨by first | rfl | (simp; done) | (simp []; done) | omega, by first | decide | (simp; done) | (simp []; done) | omega | (simp only [tlL]; omega) | (simp; omega)⟩, trivial⟩, by decide, by decide, by decide, by first | decide | omega | (simp only [tlL]; omega) | (simp; omega) | (simp []; done) | (simp []; omega), trivial⟩ ⟨rfl, (WkT.refl _), (WkT.refl _), trivial⟩ rfl rfl (fun _ h => h)
theorem F_spec_DrawAnswerState_W_C (x0 : List Int) (y0 : List Int) (y1 : Int) (y2 : Int) (y3 : Bool) (h : F_spec_DrawAnswerState x0 = some (y0, y1, y2, y3)) : C Try.prog 201 [ty x0] (T.tup [T.agg [tl y0, ti y1], T.agg [ti y2, tb y3]]) :=
  CG.toC (ps := [(List.length (List.map (T.int .i64) y0) = (List.length y0) * 1)]) (F_spec_DrawAnswerState_W  x0 y0 y1 y2 y3 h) (by rfl) ⟨by first | rfl | (simp; done) | omega | (simp; omega) | (simp [hl]; done) | (simp [hl]; omega), trivial⟩
theorem F_spec_DrawVainQuestion_W (x0 : List Int) (y0 : List Int) (y1 : Int) (y2 : Int) (h : F_spec_DrawVainQuestion x0 = some (y0, y1, y2)) : CG Try.prog 105 [vy x0] [] (V.tup [V.agg [vo 9000 (List.length y0), vi y1], vi y2]) [(9000, oc 3 (List.map (T.int .i64) y0))] := by
  unfold F_spec_DrawVainQuestion at h
  refine CG.intro (tab := tab) tab_ok (fn := Try.f105) Try.func105 (by kernel_rfl) rfl (Nat.le_of_ble_eq_true rfl) (by kernel_rfl) ?_
  obtain ⟨r8, r8b, r8c, r8d, c0, h⟩ := bnd4_some h
  simp only [Option.some.injEq, Prod.mk.injEq] at h
  obtain ⟨rfl, rfl, rfl⟩ := h
  exact WP.pathG tab_ok mixed [(2, An.id 2002), (8, An.callG [(9000, 10080)] [vy x0] [] (V.tup [V.agg [vo 9000 (List.length r8), vi r8b], V.t (T.agg [ti r8c, tb r8d])]) [(9000, oc 3 (List.map (T.int .i64) r8))]), (4, An.id 2004), (5, An.id 2005)] [.keep [2, 3], .keepO [10080, 2002], .names [(10080, 9000), (2002, 2002)]] [9000] _ (r' := V.tup [V.agg [vo 9000 (List.length r8), vi r8b], vi r8c]) (ps := [(CG Try.prog 201 [vy x0] [] (V.tup [V.agg [vo 9000 (List.length r8), vi r8b], V.t (T.agg [ti r8c, tb r8d])]) [(9000, oc 3 (List.map (T.int .i64) r8))]), (WkT (ty x0) (ty x0)), ((0 + 2 ≤ 2 ∧ 2 = 2)), ((0 + 2 ≤ 2 ∧ 2 = 2)), (0 + 2 ≤ 2), (True), ((0 + 2 ≤ 2 ∧ 2 = 2)), (0 + 2 ≤ 2)]) (r := V.tup [V.agg [vo 9000 (List.length r8), vi r8b], vi r8c]) (N := [9000, 2002]) (O := [(9000, oc 3 (List.map (T.int .i64) r8))]) [] (by kernel_rfl) ⟨(F_spec_DrawAnswerState_W x0 r8 r8b r8c r8d c0), WkT.refl _, by decide, by decide, by decide, trivial, by decide, by decide, trivial⟩ ⟨rfl, (WkT.refl _), (WkT.refl _), trivial⟩ rfl rfl (fun _ h => h)
theorem F_spec_DrawVainQuestion_W_C (x0 : List Int) (y0 : List Int) (y1 : Int) (y2 : Int) (h : F_spec_DrawVainQuestion x0 = some (y0, y1, y2)) : C Try.prog 105 [ty x0] (T.tup [T.agg [tl y0, ti y1], ti y2]) :=
  CG.toC (ps := [(List.length (List.map (T.int .i64) y0) = (List.length y0) * 1)]) (F_spec_DrawVainQuestion_W  x0 y0 y1 y2 h) (by rfl) ⟨by first | rfl | (simp; done) | omega | (simp; omega) | (simp [hl]; done) | (simp [hl]; omega), trivial⟩
theorem F_impl_State_isVain_W (x0 : List Int) (x1 : Int) (x2 : Int) (y0 : Bool) (h : F_impl_State_isVain x0 x1 x2 = some y0) : C Try.prog 222 [T.agg [tl x0, ti x1], ti x2] (tb y0) := by
  unfold F_impl_State_isVain at h
  refine C.intro (tab := tab) tab_ok (fn := Try.f222) Try.func222 (by kernel_rfl) rfl (Nat.le_of_ble_eq_true rfl) ?_
  refine WP.seq ?_
  refine WP.path tab_ok mixed [(2, An.fz)] [.keep [4, 2, 1], .keepO []] (ps := []) (e := .normal) (σ' := ⟨[], [(4, vb false), (2, V.t (T.ptr [tl x0, ti x1])), (1, vi x2)], []⟩) (by kernel_rfl) trivial ?_
  refine WP.seq ?_
  refine WP.path tab_ok mixed [] [.keep [5, 4, 2, 1], .keepO []] (ps := []) (e := .normal) (σ' := ⟨[], [(5, vi 0), (4, vb false), (2, V.t (T.ptr [tl x0, ti x1])), (1, vi x2)], []⟩) (by kernel_rfl) trivial ?_
  refine WP.seq ?_
  obtain ⟨c0, h⟩ := chk_some h
  refine WP.path tab_ok mixed [(10, An.callG [(9000, 10100)] [V.t (T.agg [tl x0, ti x1])] [] (vo 9000 (List.length (openN x0))) [(9000, oc 3 (List.map (T.int .i64) (openN x0)))])] [.keep [6, 5, 4, 1], .keepO [10100]] (ps := [(2 ≤ 2), (CG Try.prog 153 [V.t (T.agg [tl x0, ti x1])] [] (vo 9000 (List.length (openN x0))) [(9000, oc 3 (List.map (T.int .i64) (openN x0)))]), (WkT (T.agg [tl x0, ti x1]) (T.agg [tl x0, ti x1]))]) (e := .normal) (σ' := ⟨[10100], [(6, vo 10100 (List.length (openN x0))), (5, vi 0), (4, vb false), (1, vi x2)], [(10100, oc 3 (List.map (T.int .i64) (openN x0)))]⟩) (by kernel_rfl) ⟨by decide, (open_C_G x0 x1 c0), WkT.refl _, trivial⟩ ?_
  obtain ⟨J1, hJ1, h⟩ := jn_some h
  refine WP.joinA (fun (zz : Int) => ⟨[10100], [(6, vo 10100 (List.length (openN x0))), (5, vi zz), (4, vb false)], [(10100, oc 3 (List.map (T.int .i64) (openN x0)))]⟩) (fun zz => J1 zz = some y0) ?_ ?_
  · -- to where they meet
    refine WP.seq ?_
    refine WP.path tab_ok mixed [] [.keep [13, 12, 11, 6, 5, 4, 1], .keepO [10100]] (ps := []) (e := .normal) (σ' := ⟨[10100], [(13, vi 0), (12, vi ((List.length (openN x0) : Nat) : Int)), (11, vo 10100 (List.length (openN x0))), (6, vo 10100 (List.length (openN x0))), (5, vi 0), (4, vb false), (1, vi x2)], [(10100, oc 3 (List.map (T.int .i64) (openN x0)))]⟩) (by kernel_rfl) trivial ?_
    refine WP.block ?_
    refine WP.wk [.keep [13, 12, 11, 6, 5, 4, 1], .keepO [10100], .names [(10100, 10100)]] (σ' := ⟨[10100], [(13, vi 0), (12, vi ((List.length (openN x0) : Nat) : Int)), (11, vo 10100 (List.length (openN x0))), (6, vo 10100 (List.length (openN x0))), (5, vi 0), (4, vb false), (1, vi x2)], [(10100, oc 3 (List.map (T.int .i64) (openN x0)))]⟩) (ps := []) (by kernel_rfl) trivial ?_
    refine WP.st (σ' := ⟨[10100], [(13, vi (0 : Int)), (12, vi ((List.length (openN x0) : Nat) : Int)), (11, vo 10100 (List.length (openN x0))), (6, vo 10100 (List.length (openN x0))), (5, vi (0 : Int)), (4, vb false), (1, vi x2)], [(10100, oc 3 (List.map (T.int .i64) (openN x0)))]⟩) (by first | rfl | (simp only [tlS, tl, vl, vo, oc, ov, tbl, vbl, ty, vy]; done) | (simp only [tlS, tl, vl, vo, oc, ov, tbl, vbl, ty, vy]; rfl) | (simp; done) | (simp []; done) | (rw [List.take_of_length_le (by simp [])]; done) | (rw [List.take_of_length_le (by simp [])]; rfl) | (simp only [tlL]; omega) | (simp; omega)) ?_
    refine WP.loop (α := Nat × Int × Int) (fun zz => ⟨[10100], [(13, vi zz.2.1), (12, vi ((List.length (openN x0) : Nat) : Int)), (11, vo 10100 (List.length (openN x0))), (6, vo 10100 (List.length (openN x0))), (5, vi zz.2.2), (4, vb false), (1, vi x2)], [(10100, oc 3 (List.map (T.int .i64) (openN x0)))]⟩) (fun zz => F_impl_State_isVain_L1 x0 x2 J1 zz.1 zz.2.1 zz.2.2 = some y0) (fun zz => zz.1) (fuel, (0 : Int), (0 : Int)) h ?_
    rintro ⟨n, v13, v5⟩ h0
    have h := (show F_impl_State_isVain_L1 x0 x2 J1 n v13 v5 = some y0 from h0)
    rcases n with _ | n
    · rw [F_impl_State_isVain_L1] at h; cases h
    · rw [F_impl_State_isVain_L1] at h
      refine WP.seq ?_
      refine WP.path tab_ok mixed [] [.keep [14, 13, 12, 11, 6, 5, 4, 1], .keepO [10100]] (ps := [(True)]) (e := .normal) (σ' := ⟨[10100], [(14, vb (decide (v13 < ((List.length (openN x0) : Nat) : Int)))), (13, vi v13), (12, vi ((List.length (openN x0) : Nat) : Int)), (11, vo 10100 (List.length (openN x0))), (6, vo 10100 (List.length (openN x0))), (5, vi v5), (4, vb false), (1, vi x2)], [(10100, oc 3 (List.map (T.int .i64) (openN x0)))]⟩) (by kernel_rfl) ⟨trivial, trivial⟩ ?_
      refine WP.seq ?_
      rcases ite_some h with ⟨h1, h⟩ | ⟨h1, h⟩
      · -- yes
        refine WP.cond (b := decide (v13 < ((List.length (openN x0) : Nat) : Int))) rfl (fun _ => ?_) (fun hh => by rw [h1] at hh; cases hh)
        refine WP.path tab_ok mixed [] [.keep [13, 12, 11, 6, 5, 4, 1], .keepO [10100]] (ps := []) (e := .normal) (σ' := ⟨[10100], [(13, vi v13), (12, vi ((List.length (openN x0) : Nat) : Int)), (11, vo 10100 (List.length (openN x0))), (6, vo 10100 (List.length (openN x0))), (5, vi v5), (4, vb false), (1, vi x2)], [(10100, oc 3 (List.map (T.int .i64) (openN x0)))]⟩) (by kernel_rfl) trivial ?_
        refine WP.seq ?_
        refine WP.block ?_
        refine WP.seq ?_
        obtain ⟨c1, h⟩ := chk_some h
        refine WP.path tab_ok mixed [(16, An.v (ti (List.getD (openN x0) (Int.toNat v13) 0)))] [.keep [8, 13, 12, 11, 6, 5, 4, 1], .keepO [10100]] (ps := [((0 ≤ v13 ∧ v13 < ((List.length (openN x0) : Nat) : Int))), ((List.map (T.int .i64) (openN x0) : List T)[(Int.toNat v13) * 1]? = some (ti (List.getD (openN x0) (Int.toNat v13) 0))), (ti (List.getD (openN x0) (Int.toNat v13) 0) = ti (List.getD (openN x0) (Int.toNat v13) 0))]) (e := .normal) (σ' := ⟨[10100], [(8, vi (List.getD (openN x0) (Int.toNat v13) 0)), (13, vi v13), (12, vi ((List.length (openN x0) : Nat) : Int)), (11, vo 10100 (List.length (openN x0))), (6, vo 10100 (List.length (openN x0))), (5, vi v5), (4, vb false), (1, vi x2)], [(10100, oc 3 (List.map (T.int .i64) (openN x0)))]⟩) (by kernel_rfl) ⟨c1, atM (by simp) (by first | omega | (simp only [tlL]; omega) | (simp; omega)), rfl, trivial⟩ ?_
        refine WP.seq ?_
        obtain ⟨c2, h⟩ := chk_some h
        refine WP.path tab_ok mixed [(19, An.call (tb (hasB x2 (List.getD (openN x0) (Int.toNat v13) 0))))] [.keep [19, 13, 12, 11, 6, 5, 4, 1], .keepO [10100]] (ps := [(C Try.prog 214 [ti x2, ti (List.getD (openN x0) (Int.toNat v13) 0)] (tb (hasB x2 (List.getD (openN x0) (Int.toNat v13) 0))))]) (e := .normal) (σ' := ⟨[10100], [(19, vb (hasB x2 (List.getD (openN x0) (Int.toNat v13) 0))), (13, vi v13), (12, vi ((List.length (openN x0) : Nat) : Int)), (11, vo 10100 (List.length (openN x0))), (6, vo 10100 (List.length (openN x0))), (5, vi v5), (4, vb false), (1, vi x2)], [(10100, oc 3 (List.map (T.int .i64) (openN x0)))]⟩) (by kernel_rfl) ⟨(has_C x2 (List.getD (openN x0) (Int.toNat v13) 0) c2), trivial⟩ ?_
        rcases ite_some h with ⟨h2, h⟩ | ⟨h2, h⟩
        · -- yes
          refine WP.cond (b := hasB x2 (List.getD (openN x0) (Int.toNat v13) 0)) rfl (fun _ => ?_) (fun hh => by rw [h2] at hh; cases hh)
          obtain ⟨c3, h⟩ := chk_some h
          refine WP.path tab_ok mixed [(21, An.v (T.int .i64 (v5 + (1 : Int))))] [.keep [5, 13, 12, 11, 6, 4, 1], .keepO [10100]] (ps := [(True), (T.int .i64 (IntKind.wrap .i64 (v5 + (1 : Int))) = T.int .i64 (v5 + (1 : Int)))]) (e := .normal) (σ' := ⟨[10100], [(5, vi (v5 + (1 : Int))), (13, vi v13), (12, vi ((List.length (openN x0) : Nat) : Int)), (11, vo 10100 (List.length (openN x0))), (6, vo 10100 (List.length (openN x0))), (4, vb false), (1, vi x2)], [(10100, oc 3 (List.map (T.int .i64) (openN x0)))]⟩) (by kernel_rfl) ⟨trivial, wrapI c3, trivial⟩ ?_
          obtain ⟨c4, h⟩ := chk_some h
          refine WP.path tab_ok mixed [(22, An.v (T.int .i64 (v13 + (1 : Int))))] [.keep [13, 12, 11, 6, 5, 4, 1], .keepO [10100], .names [(10100, 10100)]] (ps := [(True), (T.int .i64 (IntKind.wrap .i64 (v13 + (1 : Int))) = T.int .i64 (v13 + (1 : Int)))]) (e := .normal) (σ' := ⟨[10100], [(13, vi (v13 + (1 : Int))), (12, vi ((List.length (openN x0) : Nat) : Int)), (11, vo 10100 (List.length (openN x0))), (6, vo 10100 (List.length (openN x0))), (5, vi (v5 + (1 : Int))), (4, vb false), (1, vi x2)], [(10100, oc 3 (List.map (T.int .i64) (openN x0)))]⟩) (by kernel_rfl) ⟨trivial, wrapI c4, trivial⟩ ?_
          exact ⟨(n, (v13 + (1 : Int)), (v5 + (1 : Int))), h, Nat.lt_succ_self _, rfl⟩
        · -- no
          refine WP.cond (b := hasB x2 (List.getD (openN x0) (Int.toNat v13) 0)) rfl (fun hh => by rw [h2] at hh; cases hh) (fun _ => ?_)
          refine WP.path tab_ok mixed [] [.keep [13, 12, 11, 6, 5, 4, 1], .keepO [10100]] (ps := []) (e := .normal) (σ' := ⟨[10100], [(13, vi v13), (12, vi ((List.length (openN x0) : Nat) : Int)), (11, vo 10100 (List.length (openN x0))), (6, vo 10100 (List.length (openN x0))), (5, vi v5), (4, vb false), (1, vi x2)], [(10100, oc 3 (List.map (T.int .i64) (openN x0)))]⟩) (by kernel_rfl) trivial ?_
          obtain ⟨c3, h⟩ := chk_some h
          refine WP.path tab_ok mixed [(22, An.v (T.int .i64 (v13 + (1 : Int))))] [.keep [13, 12, 11, 6, 5, 4, 1], .keepO [10100], .names [(10100, 10100)]] (ps := [(True), (T.int .i64 (IntKind.wrap .i64 (v13 + (1 : Int))) = T.int .i64 (v13 + (1 : Int)))]) (e := .normal) (σ' := ⟨[10100], [(13, vi (v13 + (1 : Int))), (12, vi ((List.length (openN x0) : Nat) : Int)), (11, vo 10100 (List.length (openN x0))), (6, vo 10100 (List.length (openN x0))), (5, vi v5), (4, vb false), (1, vi x2)], [(10100, oc 3 (List.map (T.int .i64) (openN x0)))]⟩) (by kernel_rfl) ⟨trivial, wrapI c3, trivial⟩ ?_
          exact ⟨(n, (v13 + (1 : Int)), v5), h, Nat.lt_succ_self _, rfl⟩
      · -- no
        refine WP.cond (b := decide (v13 < ((List.length (openN x0) : Nat) : Int))) rfl (fun hh => by rw [h1] at hh; cases hh) (fun _ => ?_)
        refine WP.path tab_ok mixed [] [.keep [6, 5, 4], .keepO [10100], .names [(10100, 10100)]] (ps := []) (e := (.exit 0)) (σ' := ⟨[10100], [(6, vo 10100 (List.length (openN x0))), (5, vi v5), (4, vb false)], [(10100, oc 3 (List.map (T.int .i64) (openN x0)))]⟩) (by kernel_rfl) trivial ?_
        exact ⟨(v5), h, rfl⟩
  · -- from there
    intro v5 h0
    have h := (show J1 v5 = some y0 from h0)
    rw [hJ1] at h
    rcases ite_some h with ⟨h3, h⟩ | ⟨h3, h⟩
    · -- yes
      have h := Option.some.inj h
      subst h
      exact WP.pathW tab_ok mixed [(24, An.b true)] _ (ps := [(True), ((v5 == (0 : Int)) = true)]) (r := tb true) (by kernel_rfl) ⟨trivial, h3, trivial⟩ (WkT.eq (y := tb true) (WkT.refl _) rfl) (fun _ h => h)
    · -- no
      have h := Option.some.inj h
      subst h
      exact WP.pathW tab_ok mixed [(24, An.b false)] _ (ps := [(True), ((v5 == (0 : Int)) = false), (True)]) (r := tb (v5 == ((List.length (openN x0) : Nat) : Int))) (by kernel_rfl) ⟨trivial, h3, trivial, trivial⟩ (WkT.eq (y := tb (v5 == ((List.length (openN x0) : Nat) : Int))) (WkT.refl _) rfl) (fun _ h => h)
theorem F_impl_VainQuestion_W (x0 : List Int) (x1 : Int) (x2 : Int) (y0 : Bool) (y1 : Bool) (h : F_impl_VainQuestion x0 x1 x2 = some (y0, y1)) : C Try.prog 106 [T.agg [tl x0, ti x1], ti x2] (T.tup [tb y0, tb y1]) := by
  unfold F_impl_VainQuestion at h
  refine C.intro (tab := tab) tab_ok (fn := Try.f106) Try.func106 (by kernel_rfl) rfl (Nat.le_of_ble_eq_true rfl) ?_
  refine WP.seq ?_
  refine WP.path tab_ok mixed [(2, An.fz)] [.keep [5, 4, 2, 1], .keepO []] (ps := []) (e := .normal) (σ' := ⟨[], [(5, vb false), (4, vb false), (2, V.t (T.ptr [tl x0, ti x1])), (1, vi x2)], []⟩) (by kernel_rfl) trivial ?_
  refine WP.seq ?_
  obtain ⟨J1, hJ1, h⟩ := jn_some h
  refine WP.joinA (fun (zz : Bool) => ⟨[], [(16, vb zz), (5, vb false), (4, vb false), (2, V.t (T.ptr [tl x0, ti x1])), (1, vi x2)], []⟩) (fun zz => J1 zz = some (y0, y1)) ?_ ?_
  · -- to where they meet
    obtain ⟨c0, h⟩ := chk_some h
    rcases ite_some h with ⟨h1, h⟩ | ⟨h1, h⟩
    · -- yes
      refine WP.path tab_ok mixed [(7, An.call (tb (isStateN x0 x1))), (9, An.b true)] [.keep [16, 5, 4, 2, 1], .keepO [], .names []] (ps := [(2 ≤ 2), (C Try.prog 99 [T.agg [tl x0, ti x1]] (tb (isStateN x0 x1))), ((!(isStateN x0 x1)) = true)]) (e := .normal) (σ' := ⟨[], [(16, vb true), (5, vb false), (4, vb false), (2, V.t (T.ptr [tl x0, ti x1])), (1, vi x2)], []⟩) (by kernel_rfl) ⟨by decide, (isState_C x0 x1 c0), h1, trivial⟩ ?_
      exact ⟨(true), h, rfl⟩
    · -- no
      refine WP.path tab_ok mixed [(7, An.call (tb (isStateN x0 x1))), (9, An.b false), (14, An.call (tb (isQ ((List.length x0 : Nat) : Int) x2)))] [.keep [16, 5, 4, 2, 1], .keepO [], .names []] (ps := [(2 ≤ 2), (C Try.prog 99 [T.agg [tl x0, ti x1]] (tb (isStateN x0 x1))), ((!(isStateN x0 x1)) = false), (True), (C Try.prog 173 [ti ((List.length x0 : Nat) : Int), ti x2] (tb (isQ ((List.length x0 : Nat) : Int) x2)))]) (e := .normal) (σ' := ⟨[], [(16, vb (!(isQ ((List.length x0 : Nat) : Int) x2))), (5, vb false), (4, vb false), (2, V.t (T.ptr [tl x0, ti x1])), (1, vi x2)], []⟩) (by kernel_rfl) ⟨by decide, (isState_C x0 x1 c0), h1, trivial, (isQuestion_C ((List.length x0 : Nat) : Int) x2), trivial⟩ ?_
      exact ⟨(!(isQ ((List.length x0 : Nat) : Int) x2)), h, rfl⟩
  · -- from there
    intro v16 h0
    have h := (show J1 v16 = some (y0, y1) from h0)
    rw [hJ1] at h
    rcases ite_some h with ⟨h2, h⟩ | ⟨h2, h⟩
    · -- yes
      refine WP.cond (b := v16) rfl (fun _ => ?_) (fun hh => by rw [h2] at hh; cases hh)
      simp only [Option.some.injEq, Prod.mk.injEq] at h
      obtain ⟨rfl, rfl⟩ := h
      exact WP.pathW tab_ok mixed [] _ (ps := []) (r := T.tup [tb false, tb false]) (by kernel_rfl) trivial (WkT.eq (y := T.tup [tb false, tb false]) (WkT.refl _) rfl) (fun _ h => h)
    · -- no
      refine WP.cond (b := v16) rfl (fun hh => by rw [h2] at hh; cases hh) (fun _ => ?_)
      refine WP.path tab_ok mixed [] [.keep [5, 4, 2, 1], .keepO []] (ps := []) (e := .normal) (σ' := ⟨[], [(5, vb false), (4, vb false), (2, V.t (T.ptr [tl x0, ti x1])), (1, vi x2)], []⟩) (by kernel_rfl) trivial ?_
      obtain ⟨r19, c0, h⟩ := bnd1_some h
      simp only [Option.some.injEq, Prod.mk.injEq] at h
      obtain ⟨rfl, rfl⟩ := h
      exact WP.pathW tab_ok mixed [(19, An.call (tb r19))] _ (ps := [(2 ≤ 2), (C Try.prog 222 [T.agg [tl x0, ti x1], ti x2] (tb r19))]) (r := T.tup [tb r19, tb true]) (by kernel_rfl) ⟨by decide, (F_impl_State_isVain_W x0 x1 x2 r19 c0), trivial⟩ (WkT.eq (y := T.tup [tb r19, tb true]) (WkT.refl _) rfl) (fun _ h => h)
theorem F_spec_l2Vain_W (x0 : List Int) (x1 : Int) (x2 : Int) (y0 : Bool) (h : F_spec_l2Vain x0 x1 x2 = some y0) : C Try.prog 223 [T.agg [tl x0, ti x1], ti x2] (tb y0) := by
  unfold F_spec_l2Vain at h
  refine C.intro (tab := tab) tab_ok (fn := Try.f223) Try.func223 (by kernel_rfl) rfl (Nat.le_of_ble_eq_true rfl) ?_
  refine WP.seq ?_
  refine WP.path tab_ok mixed [(2, An.fz)] [.keep [4, 2, 1], .keepO []] (ps := []) (e := .normal) (σ' := ⟨[], [(4, vb false), (2, V.t (T.ptr [tl x0, ti x1])), (1, vi x2)], []⟩) (by kernel_rfl) trivial ?_
  refine WP.seq ?_
  obtain ⟨r9, c0, h⟩ := bnd1_some h
  refine WP.path tab_ok mixed [(9, An.callG [(9000, 10090)] [V.t (T.agg [tl x0, ti x1])] [] (vo 9000 (List.length r9)) [(9000, oc 3 (List.map (T.int .i64) r9))])] [.keep [6, 5, 4, 1], .keepO [10090]] (ps := [(2 ≤ 2), (CG Try.prog 169 [V.t (T.agg [tl x0, ti x1])] [] (vo 9000 (List.length r9)) [(9000, oc 3 (List.map (T.int .i64) r9))]), (WkT (T.agg [tl x0, ti x1]) (T.agg [tl x0, ti x1]))]) (e := .normal) (σ' := ⟨[10090], [(6, vi 0), (5, vo 10090 (List.length r9)), (4, vb false), (1, vi x2)], [(10090, oc 3 (List.map (T.int .i64) r9))]⟩) (by kernel_rfl) ⟨by decide, (F_spec_l2Open_W x0 x1 r9 c0), WkT.refl _, trivial⟩ ?_
  obtain ⟨J1, hJ1, h⟩ := jn_some h
  refine WP.joinA (fun (zz : Int) => ⟨[10090], [(6, vi zz), (5, vo 10090 (List.length r9)), (4, vb false)], [(10090, oc 3 (List.map (T.int .i64) r9))]⟩) (fun zz => J1 zz = some y0) ?_ ?_
  · -- to where they meet
    refine WP.seq ?_
    refine WP.path tab_ok mixed [] [.keep [7, 6, 5, 4, 1], .keepO [10090]] (ps := []) (e := .normal) (σ' := ⟨[10090], [(7, vi 0), (6, vi 0), (5, vo 10090 (List.length r9)), (4, vb false), (1, vi x2)], [(10090, oc 3 (List.map (T.int .i64) r9))]⟩) (by kernel_rfl) trivial ?_
    refine WP.block ?_
    refine WP.wk [.keep [7, 6, 5, 4, 1], .keepO [10090], .names [(10090, 10090)]] (σ' := ⟨[10090], [(7, vi 0), (6, vi 0), (5, vo 10090 (List.length r9)), (4, vb false), (1, vi x2)], [(10090, oc 3 (List.map (T.int .i64) r9))]⟩) (ps := []) (by kernel_rfl) trivial ?_
    refine WP.st (σ' := ⟨[10090], [(7, vi (0 : Int)), (6, vi (0 : Int)), (5, vo 10090 (List.length r9)), (4, vb false), (1, vi x2)], [(10090, oc 3 (List.map (T.int .i64) r9))]⟩) (by first | rfl | (simp only [tlS, tl, vl, vo, oc, ov, tbl, vbl, ty, vy]; done) | (simp only [tlS, tl, vl, vo, oc, ov, tbl, vbl, ty, vy]; rfl) | (simp; done) | (simp []; done) | (rw [List.take_of_length_le (by simp [])]; done) | (rw [List.take_of_length_le (by simp [])]; rfl) | (simp only [tlL]; omega) | (simp; omega)) ?_
    refine WP.loop (α := Nat × Int × Int) (fun zz => ⟨[10090], [(7, vi zz.2.1), (6, vi zz.2.2), (5, vo 10090 (List.length r9)), (4, vb false), (1, vi x2)], [(10090, oc 3 (List.map (T.int .i64) r9))]⟩) (fun zz => F_spec_l2Vain_L1 x2 r9 J1 zz.1 zz.2.1 zz.2.2 = some y0) (fun zz => zz.1) (fuel, (0 : Int), (0 : Int)) h ?_
    rintro ⟨n, v7, v6⟩ h0
    have h := (show F_spec_l2Vain_L1 x2 r9 J1 n v7 v6 = some y0 from h0)
    rcases n with _ | n
    · rw [F_spec_l2Vain_L1] at h; cases h
    · rw [F_spec_l2Vain_L1] at h
      refine WP.seq ?_
      refine WP.seq ?_
      refine WP.path tab_ok mixed [] [.keep [13, 7, 6, 5, 4, 1], .keepO [10090]] (ps := [(True)]) (e := .normal) (σ' := ⟨[10090], [(13, vb (decide (v7 < ((List.length r9 : Nat) : Int)))), (7, vi v7), (6, vi v6), (5, vo 10090 (List.length r9)), (4, vb false), (1, vi x2)], [(10090, oc 3 (List.map (T.int .i64) r9))]⟩) (by kernel_rfl) ⟨trivial, trivial⟩ ?_
      rcases ite_some h with ⟨h1, h⟩ | ⟨h1, h⟩
      · -- yes
        refine WP.cond (b := decide (v7 < ((List.length r9 : Nat) : Int))) rfl (fun _ => ?_) (fun hh => by rw [h1] at hh; cases hh)
        refine WP.path tab_ok mixed [] [.keep [7, 6, 5, 4, 1], .keepO [10090]] (ps := []) (e := .normal) (σ' := ⟨[10090], [(7, vi v7), (6, vi v6), (5, vo 10090 (List.length r9)), (4, vb false), (1, vi x2)], [(10090, oc 3 (List.map (T.int .i64) r9))]⟩) (by kernel_rfl) trivial ?_
        refine WP.seq ?_
        refine WP.block ?_
        obtain ⟨c1, h⟩ := chk_some h
        obtain ⟨c2, h⟩ := chk_some h
        obtain ⟨n23, c3, h⟩ := nam_some h
        obtain ⟨c4, h⟩ := chk_some h
        refine WP.path tab_ok mixed [(21, An.v (ti (List.getD r9 (Int.toNat v7) 0))), (22, An.v (T.int .i64 (x2 / 2 ^ Int.toNat (List.getD r9 (Int.toNat v7) 0)))), (23, An.v (ti n23)), (24, An.v (T.int .i64 (v6 + n23)))] [.keep [6, 7, 5, 4, 1], .keepO [10090]] (ps := [((0 ≤ v7 ∧ v7 < ((List.length r9 : Nat) : Int))), ((List.map (T.int .i64) r9 : List T)[(Int.toNat v7) * 1]? = some (ti (List.getD r9 (Int.toNat v7) 0))), (ti (List.getD r9 (Int.toNat v7) 0) = ti (List.getD r9 (Int.toNat v7) 0)), (0 ≤ (List.getD r9 (Int.toNat v7) 0)), (T.int .i64 (Int.fdiv x2 (2 ^ (min (Int.toNat (List.getD r9 (Int.toNat v7) 0)) 64))) = T.int .i64 (x2 / 2 ^ Int.toNat (List.getD r9 (Int.toNat v7) 0))), (True), (ti (bits .and .i64 (x2 / 2 ^ Int.toNat (List.getD r9 (Int.toNat v7) 0)) (1 : Int)) = ti n23), (True), (T.int .i64 (IntKind.wrap .i64 (v6 + n23)) = T.int .i64 (v6 + n23))]) (e := .normal) (σ' := ⟨[10090], [(6, vi (v6 + n23)), (7, vi v7), (5, vo 10090 (List.length r9)), (4, vb false), (1, vi x2)], [(10090, oc 3 (List.map (T.int .i64) r9))]⟩) (by kernel_rfl) ⟨c1, atM (by simp) (by first | omega | (simp only [tlL]; omega) | (simp; omega)), rfl, c2.1, shr_told c2, trivial, congrArg (ti) c3, trivial, wrapI c4, trivial⟩ ?_
        obtain ⟨c5, h⟩ := chk_some h
        refine WP.path tab_ok mixed [(15, An.v (T.int .i64 (v7 + (1 : Int))))] [.keep [7, 6, 5, 4, 1], .keepO [10090], .names [(10090, 10090)]] (ps := [(True), (T.int .i64 (IntKind.wrap .i64 (v7 + (1 : Int))) = T.int .i64 (v7 + (1 : Int)))]) (e := .normal) (σ' := ⟨[10090], [(7, vi (v7 + (1 : Int))), (6, vi (v6 + n23)), (5, vo 10090 (List.length r9)), (4, vb false), (1, vi x2)], [(10090, oc 3 (List.map (T.int .i64) r9))]⟩) (by kernel_rfl) ⟨trivial, wrapI c5, trivial⟩ ?_
        exact ⟨(n, (v7 + (1 : Int)), (v6 + n23)), h, Nat.lt_succ_self _, rfl⟩
      · -- no
        refine WP.cond (b := decide (v7 < ((List.length r9 : Nat) : Int))) rfl (fun hh => by rw [h1] at hh; cases hh) (fun _ => ?_)
        refine WP.path tab_ok mixed [] [.keep [6, 5, 4], .keepO [10090], .names [(10090, 10090)]] (ps := []) (e := (.exit 0)) (σ' := ⟨[10090], [(6, vi v6), (5, vo 10090 (List.length r9)), (4, vb false)], [(10090, oc 3 (List.map (T.int .i64) r9))]⟩) (by kernel_rfl) trivial ?_
        exact ⟨(v6), h, rfl⟩
  · -- from there
    intro v6 h0
    have h := (show J1 v6 = some y0 from h0)
    rw [hJ1] at h
    rcases ite_some h with ⟨h2, h⟩ | ⟨h2, h⟩
    · -- yes
      have h := Option.some.inj h
      subst h
      exact WP.pathW tab_ok mixed [(26, An.b true)] _ (ps := [(True), ((v6 == (0 : Int)) = true)]) (r := tb true) (by kernel_rfl) ⟨trivial, h2, trivial⟩ (WkT.eq (y := tb true) (WkT.refl _) rfl) (fun _ h => h)
    · -- no
      have h := Option.some.inj h
      subst h
      exact WP.pathW tab_ok mixed [(26, An.b false)] _ (ps := [(True), ((v6 == (0 : Int)) = false), (True)]) (r := tb (v6 == ((List.length r9 : Nat) : Int))) (by kernel_rfl) ⟨trivial, h2, trivial, trivial⟩ (WkT.eq (y := tb (v6 == ((List.length r9 : Nat) : Int))) (WkT.refl _) rfl) (fun _ h => h)
theorem F_spec_VainQuestion_W (x0 : List Int) (x1 : Int) (x2 : Int) (y0 : Bool) (y1 : Bool) (h : F_spec_VainQuestion x0 x1 x2 = some (y0, y1)) : C Try.prog 107 [T.agg [tl x0, ti x1], ti x2] (T.tup [tb y0, tb y1]) := by
  unfold F_spec_VainQuestion at h
  refine C.intro (tab := tab) tab_ok (fn := Try.f107) Try.func107 (by kernel_rfl) rfl (Nat.le_of_ble_eq_true rfl) ?_
  refine WP.seq ?_
  refine WP.path tab_ok mixed [(2, An.fz)] [.keep [5, 4, 2, 1], .keepO []] (ps := []) (e := .normal) (σ' := ⟨[], [(5, vb false), (4, vb false), (2, V.t (T.ptr [tl x0, ti x1])), (1, vi x2)], []⟩) (by kernel_rfl) trivial ?_
  refine WP.seq ?_
  obtain ⟨J1, hJ1, h⟩ := jn_some h
  refine WP.joinA (fun (zz : Bool) => ⟨[], [(14, vb zz), (5, vb false), (4, vb false), (2, V.t (T.ptr [tl x0, ti x1])), (1, vi x2)], []⟩) (fun zz => J1 zz = some (y0, y1)) ?_ ?_
  · -- to where they meet
    obtain ⟨c0, h⟩ := chk_some h
    rcases ite_some h with ⟨h1, h⟩ | ⟨h1, h⟩
    · -- yes
      refine WP.path tab_ok mixed [(7, An.call (tb (isStateN x0 x1))), (9, An.b true)] [.keep [14, 5, 4, 2, 1], .keepO [], .names []] (ps := [(2 ≤ 2), (C Try.prog 187 [T.agg [tl x0, ti x1]] (tb (isStateN x0 x1))), ((!(isStateN x0 x1)) = true)]) (e := .normal) (σ' := ⟨[], [(14, vb true), (5, vb false), (4, vb false), (2, V.t (T.ptr [tl x0, ti x1])), (1, vi x2)], []⟩) (by kernel_rfl) ⟨by decide, (l2State_C x0 x1 c0), h1, trivial⟩ ?_
      exact ⟨(true), h, rfl⟩
    · -- no
      refine WP.path tab_ok mixed [(7, An.call (tb (isStateN x0 x1))), (9, An.b false), (12, An.call (tb (isQ ((List.length x0 : Nat) : Int) x2)))] [.keep [14, 5, 4, 2, 1], .keepO [], .names []] (ps := [(2 ≤ 2), (C Try.prog 187 [T.agg [tl x0, ti x1]] (tb (isStateN x0 x1))), ((!(isStateN x0 x1)) = false), (2 ≤ 2), (C Try.prog 202 [T.agg [tl x0, ti x1], ti x2] (tb (isQ ((List.length x0 : Nat) : Int) x2)))]) (e := .normal) (σ' := ⟨[], [(14, vb (!(isQ ((List.length x0 : Nat) : Int) x2))), (5, vb false), (4, vb false), (2, V.t (T.ptr [tl x0, ti x1])), (1, vi x2)], []⟩) (by kernel_rfl) ⟨by decide, (l2State_C x0 x1 c0), h1, by decide, (l2Question_C x0 x1 x2 c0), trivial⟩ ?_
      exact ⟨(!(isQ ((List.length x0 : Nat) : Int) x2)), h, rfl⟩
  · -- from there
    intro v14 h0
    have h := (show J1 v14 = some (y0, y1) from h0)
    rw [hJ1] at h
    rcases ite_some h with ⟨h2, h⟩ | ⟨h2, h⟩
    · -- yes
      refine WP.cond (b := v14) rfl (fun _ => ?_) (fun hh => by rw [h2] at hh; cases hh)
      simp only [Option.some.injEq, Prod.mk.injEq] at h
      obtain ⟨rfl, rfl⟩ := h
      exact WP.pathW tab_ok mixed [] _ (ps := []) (r := T.tup [tb false, tb false]) (by kernel_rfl) trivial (WkT.eq (y := T.tup [tb false, tb false]) (WkT.refl _) rfl) (fun _ h => h)
    · -- no
      refine WP.cond (b := v14) rfl (fun hh => by rw [h2] at hh; cases hh) (fun _ => ?_)
      refine WP.path tab_ok mixed [] [.keep [5, 4, 2, 1], .keepO []] (ps := []) (e := .normal) (σ' := ⟨[], [(5, vb false), (4, vb false), (2, V.t (T.ptr [tl x0, ti x1])), (1, vi x2)], []⟩) (by kernel_rfl) trivial ?_
      obtain ⟨r17, c0, h⟩ := bnd1_some h
      simp only [Option.some.injEq, Prod.mk.injEq] at h
      obtain ⟨rfl, rfl⟩ := h
      exact WP.pathW tab_ok mixed [(17, An.call (tb r17))] _ (ps := [(2 ≤ 2), (C Try.prog 223 [T.agg [tl x0, ti x1], ti x2] (tb r17))]) (r := T.tup [tb r17, tb true]) (by kernel_rfl) ⟨by decide, (F_spec_l2Vain_W x0 x1 x2 r17 c0), trivial⟩ (WkT.eq (y := T.tup [tb r17, tb true]) (WkT.refl _) rfl) (fun _ h => h)
theorem F_laws_rHas_W (x0 : List Int) (x1 : Int) (y0 : Bool) (h : F_laws_rHas x0 x1 = some y0) : C Try.prog 108 [tl x0, ti x1] (tb y0) := by
  unfold F_laws_rHas at h
  refine C.intro (tab := tab) tab_ok (fn := Try.f108) Try.func108 (by kernel_rfl) rfl (Nat.le_of_ble_eq_true rfl) ?_
  refine WP.seq ?_
  refine WP.path tab_ok mixed [] [.keep [4, 0, 1], .keepO []] (ps := []) (e := .normal) (σ' := ⟨[], [(4, vb false), (0, vl x0), (1, vi x1)], []⟩) (by kernel_rfl) trivial ?_
  obtain ⟨J1, hJ1, h⟩ := jn_some h
  refine WP.joinA (fun (zz : Unit) => ⟨[], [(4, vb false)], []⟩) (fun zz => J1 () = some y0) ?_ ?_
  · -- to where they meet
    refine WP.seq ?_
    refine WP.path tab_ok mixed [] [.keep [5, 4, 0, 1], .keepO []] (ps := []) (e := .normal) (σ' := ⟨[], [(5, vi 0), (4, vb false), (0, vl x0), (1, vi x1)], []⟩) (by kernel_rfl) trivial ?_
    refine WP.block ?_
    refine WP.wk [.keep [5, 4, 0, 1], .keepO [], .names []] (σ' := ⟨[], [(5, vi 0), (4, vb false), (0, vl x0), (1, vi x1)], []⟩) (ps := []) (by kernel_rfl) trivial ?_
    refine WP.st (σ' := ⟨[], [(5, vi (0 : Int)), (4, vb false), (0, vl x0), (1, vi x1)], []⟩) (by first | rfl | (simp only [tlS, tl, vl, vo, oc, ov, tbl, vbl, ty, vy]; done) | (simp only [tlS, tl, vl, vo, oc, ov, tbl, vbl, ty, vy]; rfl) | (simp; done) | (simp []; done) | (rw [List.take_of_length_le (by simp [])]; done) | (rw [List.take_of_length_le (by simp [])]; rfl) | (simp only [tlL]; omega) | (simp; omega)) ?_
    refine WP.loop (α := Nat × Int) (fun zz => ⟨[], [(5, vi zz.2), (4, vb false), (0, vl x0), (1, vi x1)], []⟩) (fun zz => F_laws_rHas_L1 x0 x1 J1 zz.1 zz.2 = some y0) (fun zz => zz.1) (fuel, (0 : Int)) h ?_
    rintro ⟨n, v5⟩ h0
    have h := (show F_laws_rHas_L1 x0 x1 J1 n v5 = some y0 from h0)
    rcases n with _ | n
    · rw [F_laws_rHas_L1] at h; cases h
    · rw [F_laws_rHas_L1] at h
      refine WP.seq ?_
      refine WP.seq ?_
      refine WP.path tab_ok mixed [] [.keep [9, 5, 4, 0, 1], .keepO []] (ps := [(True)]) (e := .normal) (σ' := ⟨[], [(9, vb (decide (v5 < ((List.length x0 : Nat) : Int)))), (5, vi v5), (4, vb false), (0, vl x0), (1, vi x1)], []⟩) (by kernel_rfl) ⟨trivial, trivial⟩ ?_
      rcases ite_some h with ⟨h1, h⟩ | ⟨h1, h⟩
      · -- yes
        refine WP.cond (b := decide (v5 < ((List.length x0 : Nat) : Int))) rfl (fun _ => ?_) (fun hh => by rw [h1] at hh; cases hh)
        refine WP.path tab_ok mixed [] [.keep [5, 4, 0, 1], .keepO []] (ps := []) (e := .normal) (σ' := ⟨[], [(5, vi v5), (4, vb false), (0, vl x0), (1, vi x1)], []⟩) (by kernel_rfl) trivial ?_
        refine WP.seq ?_
        refine WP.block ?_
        refine WP.seq ?_
        obtain ⟨c0, h⟩ := chk_some h
        refine WP.path tab_ok mixed [(15, An.v (ti (List.getD x0 (Int.toNat v5) 0)))] [.keep [17, 5, 4, 0, 1], .keepO []] (ps := [((0 ≤ v5 ∧ v5 < ((List.length x0 : Nat) : Int))), ((List.drop ((Int.toNat v5) * 1) (List.map (T.int .i64) x0) : List T)[0]? = some (ti (List.getD x0 (Int.toNat v5) 0))), (ti (List.getD x0 (Int.toNat v5) 0) = ti (List.getD x0 (Int.toNat v5) 0)), (True)]) (e := .normal) (σ' := ⟨[], [(17, vb ((List.getD x0 (Int.toNat v5) 0) == x1)), (5, vi v5), (4, vb false), (0, vl x0), (1, vi x1)], []⟩) (by kernel_rfl) ⟨c0, at1 (by simp) (by omega), rfl, trivial, trivial⟩ ?_
        rcases ite_some h with ⟨h2, h⟩ | ⟨h2, h⟩
        · -- yes
          refine WP.cond (b := (List.getD x0 (Int.toNat v5) 0) == x1) rfl (fun _ => ?_) (fun hh => by rw [h2] at hh; cases hh)
          have h := Option.some.inj h
          subst h
          exact WP.pathW tab_ok mixed [] _ (ps := []) (r := tb true) (by kernel_rfl) trivial (WkT.eq (y := tb true) (WkT.refl _) rfl) (fun _ h => h)
        · -- no
          refine WP.cond (b := (List.getD x0 (Int.toNat v5) 0) == x1) rfl (fun hh => by rw [h2] at hh; cases hh) (fun _ => ?_)
          refine WP.path tab_ok mixed [] [.keep [5, 4, 0, 1], .keepO []] (ps := []) (e := .normal) (σ' := ⟨[], [(5, vi v5), (4, vb false), (0, vl x0), (1, vi x1)], []⟩) (by kernel_rfl) trivial ?_
          obtain ⟨c1, h⟩ := chk_some h
          refine WP.path tab_ok mixed [(11, An.v (T.int .i64 (v5 + (1 : Int))))] [.keep [5, 4, 0, 1], .keepO [], .names []] (ps := [(True), (T.int .i64 (IntKind.wrap .i64 (v5 + (1 : Int))) = T.int .i64 (v5 + (1 : Int)))]) (e := .normal) (σ' := ⟨[], [(5, vi (v5 + (1 : Int))), (4, vb false), (0, vl x0), (1, vi x1)], []⟩) (by kernel_rfl) ⟨trivial, wrapI c1, trivial⟩ ?_
          exact ⟨(n, (v5 + (1 : Int))), h, Nat.lt_succ_self _, rfl⟩
      · -- no
        refine WP.cond (b := decide (v5 < ((List.length x0 : Nat) : Int))) rfl (fun hh => by rw [h1] at hh; cases hh) (fun _ => ?_)
        refine WP.path tab_ok mixed [] [.keep [4], .keepO [], .names []] (ps := []) (e := (.exit 0)) (σ' := ⟨[], [(4, vb false)], []⟩) (by kernel_rfl) trivial ?_
        exact ⟨(), h, rfl⟩
  · -- from there
    intro _ h0
    have h := (show J1 () = some y0 from h0)
    rw [hJ1] at h
    have h := Option.some.inj h
    subst h
    exact WP.pathW tab_ok mixed [] _ (ps := []) (r := tb false) (by kernel_rfl) trivial (WkT.eq (y := tb false) (WkT.refl _) rfl) (fun _ h => h)

end Go.Proofs.Ytofiecpgfjofdaa.AuQa
