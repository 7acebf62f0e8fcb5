/-
  The walks: each function of the program returns what the plain function beside it returns. No statement is proved here.
-/
import Derived.Test.YtopodonemnnjdaaTlGroupc


import Derived.Test.YtopodonemnnjdaaAuHoF
import Derived.Test.YtopodonemnnjdaaProg
import Derived.Test.YtopodonemnnjdaaAuHoO
import Derived.Test.YtopodonemnnjdaaAuHoa
namespace Go.Proofs.Ytopodonemnnjdaa.AuHo
open Go Go.Tl Go.Proofs
open Go.Proofs.Ytopodonemnnjdaa.AuHoO hiding tab tab_ok mixed
open Go.Proofs.Ytopodonemnnjdaa.AuHoa hiding tab tab_ok mixed
set_option linter.unusedVariables false
set_option linter.unusedSimpArgs false
set_option maxRecDepth 100000
def tab : Tab := [(3, ⟨.int .i64, 1, 8, [.int .i64 0]⟩), (4, ⟨.bool, 1, 1, [.bool false]⟩), (5, ⟨.int .u8, 1, 1, [.int .u8 0]⟩), (22, ⟨.slice 5 1 1, 1, 24, [.nils]⟩), (24, ⟨.slice 3 1 8, 1, 24, [.nils]⟩), (26, ⟨.struct [(0, 1, false), (1, 1, false)], 2, 32, [.nils, .int .i64 0]⟩), (29, ⟨.slice 4 1 1, 1, 24, [.nils]⟩), (58, ⟨.func, 1, 8, [.nilf]⟩), (87, ⟨.pointer 90, 1, 8, [.nilp]⟩), (88, ⟨.int .u64, 1, 8, [.int .u64 0]⟩), (90, ⟨.struct [(0, 1, false), (1, 1, false), (2, 1, false)], 3, 40, [.nils, .int .i64 0, .int .u64 0]⟩), (101, ⟨.struct [(0, 1, false), (1, 1, false)], 2, 16, [.int .i64 0, .bool false]⟩)]
theorem tab_ok : chkTab Try.prog tab = true := by kernel_rfl
theorem mixed : Try.prog.follows .mixedOrders = true := by kernel_rfl
theorem F_spec_LongestHold_W (x0 : List Int) (x1 : Int) (x2 : List Int) (y0 : Int) (y1 : Bool) (h : F_spec_LongestHold x0 x1 x2 = some (y0, y1)) : C Try.prog 17 [T.agg [tl x0, ti x1], tl x2] (T.tup [ti y0, tb y1]) := by
  unfold F_spec_LongestHold at h
  refine C.intro (tab := tab) tab_ok (fn := Try.f17) Try.func17 (by kernel_rfl) rfl (Nat.le_of_ble_eq_true rfl) ?_
  refine WP.seq ?_
  refine WP.path tab_ok mixed [(2, An.fz)] [.keep [5, 4, 2, 1], .keepO []] (ps := []) (e := .normal) (σ' := ⟨[], [(5, vb false), (4, vi 0), (2, V.t (T.ptr [tl x0, ti x1])), (1, vl x2)], []⟩) (by kernel_rfl) trivial ?_
  refine WP.seq ?_
  refine WP.seq ?_
  obtain ⟨r9, c0, h⟩ := bnd1_some h
  refine WP.path tab_ok mixed [(9, An.call (tb r9))] [.keep [10, 5, 4, 2, 1], .keepO []] (ps := [(2 ≤ 2), (C Try.prog 43 [T.agg [tl x0, ti x1], tl x2] (tb r9))]) (e := .normal) (σ' := ⟨[], [(10, vb (!r9)), (5, vb false), (4, vi 0), (2, V.t (T.ptr [tl x0, ti x1])), (1, vl x2)], []⟩) (by kernel_rfl) ⟨by decide, (F_spec_l8Good_W x0 x1 x2 r9 c0), trivial⟩ ?_
  rcases ite_some h with ⟨h1, h⟩ | ⟨h1, h⟩
  · -- yes
    refine WP.cond (b := !r9) rfl (fun _ => ?_) (fun hh => by rw [h1] at hh; cases hh)
    simp only [Option.some.injEq, Prod.mk.injEq] at h
    obtain ⟨rfl, rfl⟩ := h
    exact WP.pathW tab_ok mixed [] _ (ps := []) (r := T.tup [ti 0, tb false]) (by kernel_rfl) trivial (WkT.eq (y := T.tup [ti 0, tb false]) (WkT.refl _) (by first | rfl | (simp only [tlS, tl, vl, vo, oc, ov, tbl, vbl, ty, vy] <;> rfl) | (simp <;> omega) | (simp []; done) | (rw [List.take_of_length_le (by simp [])] <;> rfl) | (simp [List.take_of_length_le]; done))) (fun _ h => h)
  · -- no
    refine WP.cond (b := !r9) rfl (fun hh => by rw [h1] at hh; cases hh) (fun _ => ?_)
    refine WP.path tab_ok mixed [] [.keep [5, 4, 2, 1], .keepO []] (ps := []) (e := .normal) (σ' := ⟨[], [(5, vb false), (4, vi 0), (2, V.t (T.ptr [tl x0, ti x1])), (1, vl x2)], []⟩) (by kernel_rfl) trivial ?_
    refine WP.seq ?_
    refine WP.path tab_ok mixed [] [.keep [6, 5, 4, 2, 1], .keepO []] (ps := []) (e := .normal) (σ' := ⟨[], [(6, vi ((List.length x2 : Nat) : Int)), (5, vb false), (4, vi 0), (2, V.t (T.ptr [tl x0, ti x1])), (1, vl x2)], []⟩) (by kernel_rfl) trivial ?_
    obtain ⟨J1, hJ1, h⟩ := jn_some h
    refine WP.joinA (fun (zz : Int) => ⟨[], [(6, vi zz), (5, vb false), (4, vi 0)], []⟩) (fun zz => J1 zz = some (y0, y1)) ?_ ?_
    · -- to where they meet
      refine WP.block ?_
      refine WP.wk [.keep [6, 5, 4, 2, 1], .keepO [], .names []] (σ' := ⟨[], [(6, vi ((List.length x2 : Nat) : Int)), (5, vb false), (4, vi 0), (2, V.t (T.ptr [tl x0, ti x1])), (1, vl x2)], []⟩) (ps := []) (by kernel_rfl) trivial ?_
      refine WP.loop (α := Nat × Int) (fun zz => ⟨[], [(6, vi zz.2), (5, vb false), (4, vi 0), (2, V.t (T.ptr [tl x0, ti x1])), (1, vl x2)], []⟩) (fun zz => F_spec_LongestHold_L1 x0 x1 x2 J1 zz.1 zz.2 = some (y0, y1)) (fun zz => zz.1) (fuel, ((List.length x2 : Nat) : Int)) h ?_
      rintro ⟨n, v6⟩ h0
      have h := (show F_spec_LongestHold_L1 x0 x1 x2 J1 n v6 = some (y0, y1) from h0)
      rcases n with _ | n
      · rw [F_spec_LongestHold_L1] at h; cases h
      · rw [F_spec_LongestHold_L1] at h
        refine WP.seq ?_
        obtain ⟨J2, hJ2, h⟩ := jn_some h
        refine WP.joinA (fun (zz : Bool) => ⟨[], [(21, vb zz), (6, vi v6), (5, vb false), (4, vi 0), (2, V.t (T.ptr [tl x0, ti x1])), (1, vl x2)], []⟩) (fun zz => J2 zz = some (y0, y1)) ?_ ?_
        · -- to where they meet
          rcases ite_some h with ⟨h2, h⟩ | ⟨h2, h⟩
          · -- yes
            obtain ⟨c1, h⟩ := chk_some h
            obtain ⟨r20, c2, h⟩ := bnd1_some h
            refine WP.path tab_ok mixed [(14, An.b true), (19, An.v (tl (List.take (Int.toNat v6 - Int.toNat (0 : Int)) (List.drop (Int.toNat (0 : Int)) x2)))), (20, An.call (tb r20))] [.keep [21, 6, 5, 4, 2, 1], .keepO [], .names []] (ps := [(True), ((decide (v6 ≥ (0 : Int))) = true), (2 ≤ 2), ((0 ≤ (0 : Int) ∧ (0 : Int) ≤ v6 ∧ v6 ≤ ((List.length x2 : Nat) : Int))), (T.list ((Int.toNat v6) - 0) 1 (List.take (((Int.toNat v6) - 0) * 1) (List.map (T.int .i64) x2)) = tl (List.take (Int.toNat v6 - Int.toNat (0 : Int)) (List.drop (Int.toNat (0 : Int)) x2))), (C Try.prog 48 [T.agg [tl x0, ti x1], tl (List.take (Int.toNat v6 - Int.toNat (0 : Int)) (List.drop (Int.toNat (0 : Int)) x2))] (tb r20))]) (e := .normal) (σ' := ⟨[], [(21, vb r20), (6, vi v6), (5, vb false), (4, vi 0), (2, V.t (T.ptr [tl x0, ti x1])), (1, vl x2)], []⟩) (by kernel_rfl) ⟨trivial, h2, by decide, c1, sl1z (l := (0 : Int)) (h := v6) c1 (by first | rfl | (simp; done) | omega) (by first | rfl | omega | (simp; done)) (by first | rfl | omega | (simp; done)), (F_spec_l8Tell_W x0 x1 (List.take (Int.toNat v6 - Int.toNat (0 : Int)) (List.drop (Int.toNat (0 : Int)) x2)) r20 c2), trivial⟩ ?_
            exact ⟨(r20), h, rfl⟩
          · -- no
            refine WP.path tab_ok mixed [(14, An.b false)] [.keep [21, 6, 5, 4, 2, 1], .keepO [], .names []] (ps := [(True), ((decide (v6 ≥ (0 : Int))) = false)]) (e := .normal) (σ' := ⟨[], [(21, vb false), (6, vi v6), (5, vb false), (4, vi 0), (2, V.t (T.ptr [tl x0, ti x1])), (1, vl x2)], []⟩) (by kernel_rfl) ⟨trivial, h2, trivial⟩ ?_
            exact ⟨(false), h, rfl⟩
        · -- from there
          intro v21 h0
          have h := (show J2 v21 = some (y0, y1) from h0)
          rw [hJ2] at h
          rcases ite_some h with ⟨h3, h⟩ | ⟨h3, h⟩
          · -- yes
            refine WP.cond (b := v21) rfl (fun _ => ?_) (fun hh => by rw [h3] at hh; cases hh)
            refine WP.path tab_ok mixed [] [.keep [6, 5, 4, 2, 1], .keepO []] (ps := []) (e := .normal) (σ' := ⟨[], [(6, vi v6), (5, vb false), (4, vi 0), (2, V.t (T.ptr [tl x0, ti x1])), (1, vl x2)], []⟩) (by kernel_rfl) trivial ?_
            refine WP.block ?_
            obtain ⟨c1, h⟩ := chk_some h
            refine WP.path tab_ok mixed [(23, An.v (T.int .i64 (v6 - (1 : Int))))] [.keep [6, 5, 4, 2, 1], .keepO [], .names []] (ps := [(True), (T.int .i64 (IntKind.wrap .i64 (v6 - (1 : Int))) = T.int .i64 (v6 - (1 : Int)))]) (e := .normal) (σ' := ⟨[], [(6, vi (v6 - (1 : Int))), (5, vb false), (4, vi 0), (2, V.t (T.ptr [tl x0, ti x1])), (1, vl x2)], []⟩) (by kernel_rfl) ⟨trivial, wrapI c1, trivial⟩ ?_
            exact ⟨(n, (v6 - (1 : Int))), h, Nat.lt_succ_self _, rfl⟩
          · -- no
            refine WP.cond (b := v21) rfl (fun hh => by rw [h3] at hh; cases hh) (fun _ => ?_)
            refine WP.path tab_ok mixed [] [.keep [6, 5, 4], .keepO [], .names []] (ps := []) (e := (.exit 0)) (σ' := ⟨[], [(6, vi v6), (5, vb false), (4, vi 0)], []⟩) (by kernel_rfl) trivial ?_
            exact ⟨(v6), h, rfl⟩
    · -- from there
      intro v6 h0
      have h := (show J1 v6 = some (y0, y1) from h0)
      rw [hJ1] at h
      simp only [Option.some.injEq, Prod.mk.injEq] at h
      obtain ⟨rfl, rfl⟩ := h
      exact WP.pathW tab_ok mixed [] _ (ps := []) (r := T.tup [ti v6, tb true]) (by kernel_rfl) trivial (WkT.eq (y := T.tup [ti v6, tb true]) (WkT.refl _) rfl) (fun _ h => h)
theorem F_impl_MostKept_1_W (x0 : List Bool) (x1 : Int) (x2 : Int) (x3 : List Bool) (y0 : Int) (y1 : List Bool) (h : F_impl_MostKept_1 x0 x1 x2 x3 = some (y0, y1)) : CG Try.prog 49 [vbl x0, vi x1, V.ref 500 0, V.ref 501 0] [(500, oc 3 [ti x2]), (501, ov 29 [vbl x3])] (V.t (T.tup [])) [(500, oc 3 [ti y0]), (501, ov 29 [vbl y1])] := by
  unfold F_impl_MostKept_1 at h
  refine CG.intro (tab := tab) tab_ok (fn := Try.f49) Try.func49 (by kernel_rfl) rfl (Nat.le_of_ble_eq_true rfl) (by kernel_rfl) ?_
  refine WP.seq ?_
  refine WP.path tab_ok mixed [] [.keep [8, 0, 1, 2, 3], .keepO [500, 501]] (ps := [(True), (True)]) (e := .normal) (σ' := ⟨[500, 501], [(8, vb (decide (x1 > x2))), (0, vbl x0), (1, vi x1), (2, V.ref 500 0), (3, V.ref 501 0)], [(500, oc 3 [ti x2]), (501, ov 29 [vbl x3])]⟩) (by kernel_rfl) ⟨trivial, trivial, trivial⟩ ?_
  rcases ite_some h with ⟨h1, h⟩ | ⟨h1, h⟩
  · -- yes
    refine WP.cond (b := decide (x1 > x2)) rfl (fun _ => ?_) (fun hh => by rw [h1] at hh; cases hh)
    simp only [Option.some.injEq, Prod.mk.injEq] at h
    obtain ⟨rfl, rfl⟩ := h
    exact WP.pathGn tab_ok mixed [] [.keep [], .keepO [500, 501], .names [(500, 500), (501, 501)]] [500, 501] _ (r' := V.t (T.tup [])) (ps := [(0 < 1), (0 < 1)]) (r := V.t (T.tup [])) (N := [500, 501]) (O := [(500, oc 3 [ti x1]), (501, ov 29 [vbl x0])]) [] (by kernel_rfl) ⟨by decide, by decide, trivial⟩ ⟨(WkT.refl _), trivial⟩ rfl rfl (fun _ h => h)
  · -- no
    refine WP.cond (b := decide (x1 > x2)) rfl (fun hh => by rw [h1] at hh; cases hh) (fun _ => ?_)
    simp only [Option.some.injEq, Prod.mk.injEq] at h
    obtain ⟨rfl, rfl⟩ := h
    exact WP.pathGn tab_ok mixed [] [.keep [], .keepO [500, 501], .names [(500, 500), (501, 501)]] [500, 501] _ (r' := V.t (T.tup [])) (ps := []) (r := V.t (T.tup [])) (N := [500, 501]) (O := [(500, oc 3 [ti x2]), (501, ov 29 [vbl x3])]) [] (by kernel_rfl) trivial ⟨(WkT.refl _), trivial⟩ rfl rfl (fun _ h => h)
theorem F_impl_State_lists_49_W (x0 : List Int) (x1 : Int) (x2 : List Int) (x3 : Int) (y0 : Int) (y1 : List Bool) (h : F_impl_State_lists_49 x0 x1 x2 x3 = some (y0, y1)) : CG Try.prog 41 [V.t (T.agg [tl x0, ti x1]), vl x2, V.fn 49 [V.ref 500 0, V.ref 501 0]] [(500, oc 3 [ti x3]), (501, oc 29 [T.nils])] (V.t (T.tup [])) [(500, oc 3 [ti y0]), (501, ov 29 [vbl y1])] := by
  unfold F_impl_State_lists_49 at h
  refine CG.intro (tab := tab) tab_ok (fn := Try.f41) Try.func41 (by kernel_rfl) rfl (Nat.le_of_ble_eq_true rfl) (by kernel_rfl) ?_
  refine WP.seq ?_
  refine WP.path tab_ok mixed [(3, An.fz)] [.keep [3, 1, 2], .adoptO 501 [vbl ([] : List Bool)] [], .keepO [500, 501]] (ps := [((WkT (T.nils) (tbl ([] : List Bool))))]) (e := .normal) (σ' := ⟨[500, 501], [(3, V.t (T.ptr [tl x0, ti x1])), (1, vl x2), (2, V.fn 49 [V.ref 500 0, V.ref 501 0])], [(500, oc 3 [ti x3]), (501, ov 29 [vbl ([] : List Bool)])]⟩) (by kernel_rfl) ⟨WkT.nil _, trivial⟩ ?_
  refine WP.seq ?_
  refine WP.path tab_ok mixed [] [.keep [6, 3, 1, 2], .keepO [500, 501]] (ps := []) (e := .normal) (σ' := ⟨[500, 501], [(6, vi ((List.length x2 : Nat) : Int)), (3, V.t (T.ptr [tl x0, ti x1])), (1, vl x2), (2, V.fn 49 [V.ref 500 0, V.ref 501 0])], [(500, oc 3 [ti x3]), (501, ov 29 [vbl ([] : List Bool)])]⟩) (by kernel_rfl) trivial ?_
  refine WP.seq ?_
  obtain ⟨c0, h⟩ := chk_some h
  refine WP.path tab_ok mixed [(13, An.v (T.int .i64 ((1 : Int) * 2 ^ Int.toNat ((List.length x2 : Nat) : Int))))] [.keep [14, 13, 6, 3, 1, 2], .keepO [500, 501]] (ps := [(0 ≤ ((List.length x2 : Nat) : Int)), (T.int .i64 (IntKind.wrap .i64 ((1 : Int) * 2 ^ (min (Int.toNat ((List.length x2 : Nat) : Int)) 64))) = T.int .i64 ((1 : Int) * 2 ^ Int.toNat ((List.length x2 : Nat) : Int)))]) (e := .normal) (σ' := ⟨[500, 501], [(14, vi 0), (13, vi ((1 : Int) * 2 ^ Int.toNat ((List.length x2 : Nat) : Int))), (6, vi ((List.length x2 : Nat) : Int)), (3, V.t (T.ptr [tl x0, ti x1])), (1, vl x2), (2, V.fn 49 [V.ref 500 0, V.ref 501 0])], [(500, oc 3 [ti x3]), (501, ov 29 [vbl ([] : List Bool)])]⟩) (by kernel_rfl) ⟨c0.1, shl_told c0, trivial⟩ ?_
  refine WP.block ?_
  refine WP.wk [.keep [14, 13, 6, 3, 1, 2], .keepO [500, 501], .names [(500, 500), (501, 501)]] (σ' := ⟨[500, 501], [(14, vi 0), (13, vi ((1 : Int) * 2 ^ Int.toNat ((List.length x2 : Nat) : Int))), (6, vi ((List.length x2 : Nat) : Int)), (3, V.t (T.ptr [tl x0, ti x1])), (1, vl x2), (2, V.fn 49 [V.ref 500 0, V.ref 501 0])], [(500, oc 3 [ti x3]), (501, ov 29 [vbl ([] : List Bool)])]⟩) (ps := []) (by kernel_rfl) trivial ?_
  refine WP.st (σ' := ⟨[500, 501], [(14, vi (0 : Int)), (13, vi ((1 : Int) * 2 ^ Int.toNat ((List.length x2 : Nat) : Int))), (6, vi ((List.length x2 : Nat) : Int)), (3, V.t (T.ptr [tl x0, ti x1])), (1, vl x2), (2, V.fn 49 [V.ref 500 0, V.ref 501 0])], [(500, oc 3 [ti x3]), (501, ov 29 [vbl ([] : List Bool)])]⟩) (by first | rfl | (simp only [tlS, tl, vl, vo, oc, ov, tbl, vbl, ty, vy] <;> rfl) | (simp <;> omega) | (simp []; done) | (rw [List.take_of_length_le (by simp [])] <;> rfl) | (simp [List.take_of_length_le]; done)) ?_
  refine WP.loop (α := Nat × Int × (List Bool) × Int) (fun zz => ⟨[500, 501], [(14, vi zz.2.2.2), (13, vi ((1 : Int) * 2 ^ Int.toNat ((List.length x2 : Nat) : Int))), (6, vi ((List.length x2 : Nat) : Int)), (3, V.t (T.ptr [tl x0, ti x1])), (1, vl x2), (2, V.fn 49 [V.ref 500 0, V.ref 501 0])], [(500, oc 3 [ti zz.2.1]), (501, ov 29 [vbl zz.2.2.1])]⟩) (fun zz => F_impl_State_lists_49_L1 x0 x1 x2 zz.1 zz.2.1 zz.2.2.1 zz.2.2.2 = some (y0, y1)) (fun zz => zz.1) (fuel, x3, ([] : List Bool), (0 : Int)) h ?_
  rintro ⟨n, o500, o501, v14⟩ h0
  have h := (show F_impl_State_lists_49_L1 x0 x1 x2 n o500 o501 v14 = some (y0, y1) from h0)
  rcases n with _ | n
  · rw [F_impl_State_lists_49_L1] at h; cases h
  · rw [F_impl_State_lists_49_L1] at h
    refine WP.seq ?_
    refine WP.path tab_ok mixed [] [.keep [15, 14, 13, 6, 3, 1, 2], .keepO [500, 501]] (ps := [(True)]) (e := .normal) (σ' := ⟨[500, 501], [(15, vb (decide (v14 < ((1 : Int) * 2 ^ Int.toNat ((List.length x2 : Nat) : Int))))), (14, vi v14), (13, vi ((1 : Int) * 2 ^ Int.toNat ((List.length x2 : Nat) : Int))), (6, vi ((List.length x2 : Nat) : Int)), (3, V.t (T.ptr [tl x0, ti x1])), (1, vl x2), (2, V.fn 49 [V.ref 500 0, V.ref 501 0])], [(500, oc 3 [ti o500]), (501, ov 29 [vbl o501])]⟩) (by kernel_rfl) ⟨trivial, trivial⟩ ?_
    refine WP.seq ?_
    rcases ite_some h with ⟨h1, h⟩ | ⟨h1, h⟩
    · -- yes
      refine WP.cond (b := decide (v14 < ((1 : Int) * 2 ^ Int.toNat ((List.length x2 : Nat) : Int)))) rfl (fun _ => ?_) (fun hh => by rw [h1] at hh; cases hh)
      refine WP.path tab_ok mixed [] [.keep [14, 13, 6, 3, 1, 2], .keepO [500, 501]] (ps := []) (e := .normal) (σ' := ⟨[500, 501], [(14, vi v14), (13, vi ((1 : Int) * 2 ^ Int.toNat ((List.length x2 : Nat) : Int))), (6, vi ((List.length x2 : Nat) : Int)), (3, V.t (T.ptr [tl x0, ti x1])), (1, vl x2), (2, V.fn 49 [V.ref 500 0, V.ref 501 0])], [(500, oc 3 [ti o500]), (501, ov 29 [vbl o501])]⟩) (by kernel_rfl) trivial ?_
      obtain ⟨J1, hJ1, h⟩ := jn_some h
      refine WP.joinA (fun (zz : Int × (List Bool)) => ⟨[500, 501], [(14, vi v14), (13, vi ((1 : Int) * 2 ^ Int.toNat ((List.length x2 : Nat) : Int))), (6, vi ((List.length x2 : Nat) : Int)), (3, V.t (T.ptr [tl x0, ti x1])), (1, vl x2), (2, V.fn 49 [V.ref 500 0, V.ref 501 0])], [(500, oc 3 [ti zz.1]), (501, ov 29 [vbl zz.2])]⟩) (fun zz => J1 zz.1 zz.2 = some (y0, y1)) ?_ ?_
      · -- to where they meet
        refine WP.block ?_
        refine WP.seq ?_
        refine WP.path tab_ok mixed [] [.keep [7, 14, 13, 6, 3, 1, 2], .keepO [500, 501]] (ps := []) (e := .normal) (σ' := ⟨[500, 501], [(7, vi v14), (14, vi v14), (13, vi ((1 : Int) * 2 ^ Int.toNat ((List.length x2 : Nat) : Int))), (6, vi ((List.length x2 : Nat) : Int)), (3, V.t (T.ptr [tl x0, ti x1])), (1, vl x2), (2, V.fn 49 [V.ref 500 0, V.ref 501 0])], [(500, oc 3 [ti o500]), (501, ov 29 [vbl o501])]⟩) (by kernel_rfl) trivial ?_
        refine WP.seq ?_
        refine WP.path tab_ok mixed [(17, An.id 2017)] [.keep [8, 7, 14, 13, 6, 3, 1, 2], .keepO [500, 501, 2017]] (ps := [(True), (0 = 0 * 1)]) (e := .normal) (σ' := ⟨[2017, 500, 501], [(8, vo 2017 0), (7, vi v14), (14, vi v14), (13, vi ((1 : Int) * 2 ^ Int.toNat ((List.length x2 : Nat) : Int))), (6, vi ((List.length x2 : Nat) : Int)), (3, V.t (T.ptr [tl x0, ti x1])), (1, vl x2), (2, V.fn 49 [V.ref 500 0, V.ref 501 0])], [(500, oc 3 [ti o500]), (501, ov 29 [vbl o501]), (2017, oc 4 [])]⟩) (by kernel_rfl) ⟨trivial, by decide, trivial⟩ ?_
        obtain ⟨J2, hJ2, h⟩ := jn_some h
        refine WP.joinA (fun (zz : (List Bool)) => ⟨[500, 501, 2017], [(8, vo 2017 (List.length zz)), (14, vi v14), (13, vi ((1 : Int) * 2 ^ Int.toNat ((List.length x2 : Nat) : Int))), (6, vi ((List.length x2 : Nat) : Int)), (3, V.t (T.ptr [tl x0, ti x1])), (1, vl x2), (2, V.fn 49 [V.ref 500 0, V.ref 501 0])], [(500, oc 3 [ti o500]), (501, ov 29 [vbl o501]), (2017, oc 4 (List.map T.bool zz))]⟩) (fun zz => J2 zz = some (y0, y1)) ?_ ?_
        · -- to where they meet
          refine WP.seq ?_
          refine WP.path tab_ok mixed [] [.keep [19, 18, 8, 7, 14, 13, 6, 3, 1, 2], .keepO [500, 501, 2017]] (ps := []) (e := .normal) (σ' := ⟨[2017, 500, 501], [(19, vi 0), (18, vi ((List.length x2 : Nat) : Int)), (8, vo 2017 0), (7, vi v14), (14, vi v14), (13, vi ((1 : Int) * 2 ^ Int.toNat ((List.length x2 : Nat) : Int))), (6, vi ((List.length x2 : Nat) : Int)), (3, V.t (T.ptr [tl x0, ti x1])), (1, vl x2), (2, V.fn 49 [V.ref 500 0, V.ref 501 0])], [(500, oc 3 [ti o500]), (501, ov 29 [vbl o501]), (2017, oc 4 [])]⟩) (by kernel_rfl) trivial ?_
          refine WP.block ?_
          refine WP.wk [.keep [19, 18, 8, 7, 14, 13, 6, 3, 1, 2], .keepO [500, 501, 2017], .names [(500, 500), (501, 501), (2017, 2017)]] (σ' := ⟨[500, 501, 2017], [(19, vi 0), (18, vi ((List.length x2 : Nat) : Int)), (8, vo 2017 0), (7, vi v14), (14, vi v14), (13, vi ((1 : Int) * 2 ^ Int.toNat ((List.length x2 : Nat) : Int))), (6, vi ((List.length x2 : Nat) : Int)), (3, V.t (T.ptr [tl x0, ti x1])), (1, vl x2), (2, V.fn 49 [V.ref 500 0, V.ref 501 0])], [(500, oc 3 [ti o500]), (501, ov 29 [vbl o501]), (2017, oc 4 [])]⟩) (ps := []) (by kernel_rfl) trivial ?_
          refine WP.st (σ' := ⟨[500, 501, 2017], [(19, vi (0 : Int)), (18, vi ((List.length x2 : Nat) : Int)), (8, vo 2017 (List.length ([] : List Bool))), (7, vi v14), (14, vi v14), (13, vi ((1 : Int) * 2 ^ Int.toNat ((List.length x2 : Nat) : Int))), (6, vi ((List.length x2 : Nat) : Int)), (3, V.t (T.ptr [tl x0, ti x1])), (1, vl x2), (2, V.fn 49 [V.ref 500 0, V.ref 501 0])], [(500, oc 3 [ti o500]), (501, ov 29 [vbl o501]), (2017, oc 4 (List.map T.bool ([] : List Bool)))]⟩) (by first | rfl | (simp only [tlS, tl, vl, vo, oc, ov, tbl, vbl, ty, vy] <;> rfl) | (simp <;> omega) | (simp []; done) | (rw [List.take_of_length_le (by simp [])] <;> rfl) | (simp [List.take_of_length_le]; done)) ?_
          refine WP.loop (α := Nat × (List Bool) × Int) (fun zz => ⟨[500, 501, 2017], [(19, vi zz.2.2), (18, vi ((List.length x2 : Nat) : Int)), (8, vo 2017 (List.length zz.2.1)), (7, vi v14), (14, vi v14), (13, vi ((1 : Int) * 2 ^ Int.toNat ((List.length x2 : Nat) : Int))), (6, vi ((List.length x2 : Nat) : Int)), (3, V.t (T.ptr [tl x0, ti x1])), (1, vl x2), (2, V.fn 49 [V.ref 500 0, V.ref 501 0])], [(500, oc 3 [ti o500]), (501, ov 29 [vbl o501]), (2017, oc 4 (List.map T.bool zz.2.1))]⟩) (fun zz => F_impl_State_lists_49_L2 x2 v14 J2 zz.1 zz.2.1 zz.2.2 = some (y0, y1)) (fun zz => zz.1) (fuel, ([] : List Bool), (0 : Int)) h ?_
          rintro ⟨n, o17, v19⟩ h0
          have h := (show F_impl_State_lists_49_L2 x2 v14 J2 n o17 v19 = some (y0, y1) from h0)
          rcases n with _ | n
          · rw [F_impl_State_lists_49_L2] at h; cases h
          · rw [F_impl_State_lists_49_L2] at h
            refine WP.seq ?_
            refine WP.path tab_ok mixed [] [.keep [20, 19, 18, 8, 7, 14, 13, 6, 3, 1, 2], .keepO [500, 501, 2017]] (ps := [(True)]) (e := .normal) (σ' := ⟨[500, 501, 2017], [(20, vb (decide (v19 < ((List.length x2 : Nat) : Int)))), (19, vi v19), (18, vi ((List.length x2 : Nat) : Int)), (8, vo 2017 (List.length o17)), (7, vi v14), (14, vi v14), (13, vi ((1 : Int) * 2 ^ Int.toNat ((List.length x2 : Nat) : Int))), (6, vi ((List.length x2 : Nat) : Int)), (3, V.t (T.ptr [tl x0, ti x1])), (1, vl x2), (2, V.fn 49 [V.ref 500 0, V.ref 501 0])], [(500, oc 3 [ti o500]), (501, ov 29 [vbl o501]), (2017, oc 4 (List.map T.bool o17))]⟩) (by kernel_rfl) ⟨trivial, trivial⟩ ?_
            refine WP.seq ?_
            rcases ite_some h with ⟨h2, h⟩ | ⟨h2, h⟩
            · -- yes
              refine WP.cond (b := decide (v19 < ((List.length x2 : Nat) : Int))) rfl (fun _ => ?_) (fun hh => by rw [h2] at hh; cases hh)
              refine WP.path tab_ok mixed [] [.keep [19, 18, 8, 7, 14, 13, 6, 3, 1, 2], .keepO [500, 501, 2017]] (ps := []) (e := .normal) (σ' := ⟨[500, 501, 2017], [(19, vi v19), (18, vi ((List.length x2 : Nat) : Int)), (8, vo 2017 (List.length o17)), (7, vi v14), (14, vi v14), (13, vi ((1 : Int) * 2 ^ Int.toNat ((List.length x2 : Nat) : Int))), (6, vi ((List.length x2 : Nat) : Int)), (3, V.t (T.ptr [tl x0, ti x1])), (1, vl x2), (2, V.fn 49 [V.ref 500 0, V.ref 501 0])], [(500, oc 3 [ti o500]), (501, ov 29 [vbl o501]), (2017, oc 4 (List.map T.bool o17))]⟩) (by kernel_rfl) trivial ?_
              refine WP.seq ?_
              refine WP.block ?_
              obtain ⟨c1, h⟩ := chk_some h
              obtain ⟨n25, c2, h⟩ := nam_some h
              obtain ⟨c3, h⟩ := chk_some h
              obtain ⟨c4, h⟩ := chk_some h
              obtain ⟨c5, h⟩ := chk_some h
              refine WP.path tab_ok mixed [(25, An.v (ti n25)), (27, An.v (T.int .i64 (n25 - v19))), (28, An.call (tb (hasB v14 (n25 - v19)))), (29, An.fz), (30, An.id 2030)] [.keep [8, 19, 18, 7, 14, 13, 6, 3, 1, 2], .keepO [500, 501, 2030]] (ps := [(True), (T.int .i64 (IntKind.wrap .i64 (((List.length x2 : Nat) : Int) - (1 : Int))) = ti n25), (True), (T.int .i64 (IntKind.wrap .i64 (n25 - v19)) = T.int .i64 (n25 - v19)), (C Try.prog 90 [ti v14, ti (n25 - v19)] (tb (hasB v14 (n25 - v19)))), ((1 = 1 ∧ 0 + 1 ≤ 1) ∧ True), (1 = 1 * 1), (True), (List.length (List.map T.bool o17) = (List.length o17) * 1), ((((List.length o17) + 1) * 1 ≤ 140737488355328 ∧ (List.length o17) + 1 ≤ maxLen))]) (e := .normal) (σ' := ⟨[2030, 500, 501, 2017], [(8, vo 2030 ((List.length o17) + 1)), (19, vi v19), (18, vi ((List.length x2 : Nat) : Int)), (7, vi v14), (14, vi v14), (13, vi ((1 : Int) * 2 ^ Int.toNat ((List.length x2 : Nat) : Int))), (6, vi ((List.length x2 : Nat) : Int)), (3, V.t (T.ptr [tl x0, ti x1])), (1, vl x2), (2, V.fn 49 [V.ref 500 0, V.ref 501 0])], [(500, oc 3 [ti o500]), (501, ov 29 [vbl o501]), (2030, oc 4 ((List.map T.bool o17) ++ [tb (hasB v14 (n25 - v19))]))]⟩) (by kernel_rfl) ⟨trivial, Eq.trans (wrapI c1) (congrArg (ti) c2), trivial, wrapI c3, (has_C v14 (n25 - v19) c4), ⟨⟨by first | rfl | (simp; done) | (simp []; done) | omega, by first | decide | (simp; done) | (simp []; done) | omega | (simp only [tlL]; omega) | (simp; omega)⟩, trivial⟩, by decide, trivial, by first | rfl | omega | (simp only [tlL] <;> omega) | (simp <;> omega) | (simp [] <;> omega), c5, trivial⟩ ?_
              obtain ⟨c6, h⟩ := chk_some h
              refine WP.path tab_ok mixed [(31, An.v (T.int .i64 (v19 + (1 : Int))))] [.keep [19, 18, 8, 7, 14, 13, 6, 3, 1, 2], .keepO [500, 501, 2030], .names [(500, 500), (501, 501), (2030, 2017)]] (ps := [(True), (T.int .i64 (IntKind.wrap .i64 (v19 + (1 : Int))) = T.int .i64 (v19 + (1 : Int)))]) (e := .normal) (σ' := ⟨[500, 501, 2017], [(19, vi (v19 + (1 : Int))), (18, vi ((List.length x2 : Nat) : Int)), (8, vo 2017 ((List.length o17) + 1)), (7, vi v14), (14, vi v14), (13, vi ((1 : Int) * 2 ^ Int.toNat ((List.length x2 : Nat) : Int))), (6, vi ((List.length x2 : Nat) : Int)), (3, V.t (T.ptr [tl x0, ti x1])), (1, vl x2), (2, V.fn 49 [V.ref 500 0, V.ref 501 0])], [(500, oc 3 [ti o500]), (501, ov 29 [vbl o501]), (2017, oc 4 ((List.map T.bool o17) ++ [tb (hasB v14 (n25 - v19))]))]⟩) (by kernel_rfl) ⟨trivial, wrapI c6, trivial⟩ ?_
              exact ⟨(n, o17 ++ [hasB v14 (n25 - v19)], (v19 + (1 : Int))), h, Nat.lt_succ_self _, (by first | rfl | (simp only [tlS, tl, vl, vo, oc, ov, tbl, vbl, ty, vy] <;> rfl) | (simp <;> omega) | (simp []; done) | (rw [List.take_of_length_le (by simp [])] <;> rfl) | (simp [List.take_of_length_le]; done))⟩
            · -- no
              refine WP.cond (b := decide (v19 < ((List.length x2 : Nat) : Int))) rfl (fun hh => by rw [h2] at hh; cases hh) (fun _ => ?_)
              refine WP.path tab_ok mixed [] [.keep [8, 14, 13, 6, 3, 1, 2], .keepO [500, 501, 2017], .names [(500, 500), (501, 501), (2017, 2017)]] (ps := []) (e := (.exit 2)) (σ' := ⟨[500, 501, 2017], [(8, vo 2017 (List.length o17)), (14, vi v14), (13, vi ((1 : Int) * 2 ^ Int.toNat ((List.length x2 : Nat) : Int))), (6, vi ((List.length x2 : Nat) : Int)), (3, V.t (T.ptr [tl x0, ti x1])), (1, vl x2), (2, V.fn 49 [V.ref 500 0, V.ref 501 0])], [(500, oc 3 [ti o500]), (501, ov 29 [vbl o501]), (2017, oc 4 (List.map T.bool o17))]⟩) (by kernel_rfl) trivial ?_
              exact ⟨(o17), h, rfl⟩
        · -- from there
          intro o17 h0
          have h := (show J2 o17 = some (y0, y1) from h0)
          rw [hJ2] at h
          refine WP.wk [.freeze 2017] (ps := [List.length (List.map T.bool o17) = (List.length o17) * 1]) (σ' := ⟨[500, 501, 2017], [(8, vbl o17), (14, vi v14), (13, vi ((1 : Int) * 2 ^ Int.toNat ((List.length x2 : Nat) : Int))), (6, vi ((List.length x2 : Nat) : Int)), (3, V.t (T.ptr [tl x0, ti x1])), (1, vl x2), (2, V.fn 49 [V.ref 500 0, V.ref 501 0])], [(500, oc 3 [ti o500]), (501, ov 29 [vbl o501])]⟩) (by kernel_rfl) ⟨by first | rfl | omega | (simp <;> omega) | (simp [hl] <;> omega), trivial⟩ ?_
          obtain ⟨r37, r37b, c1, h⟩ := bnd2_some h
          obtain ⟨c2, h⟩ := chk_some h
          obtain ⟨r40, r40b, c3, h⟩ := bnd2_some h
          refine WP.path tab_ok mixed [(37, An.callG [] [V.t (T.agg [tl x0, ti x1]), vl x2, vbl o17] [] (V.t (T.agg [tl r37, ti r37b])) []), (38, An.callG [(9000, 10380)] [V.t (T.agg [tl r37, ti r37b])] [] (vo 9000 (List.length (openN r37))) [(9000, oc 3 (List.map (T.int .i64) (openN r37)))]), (40, An.callG [(500, 500), (501, 501)] [vbl o17, vi ((List.length (openN r37) : Nat) : Int), V.ref 500 0, V.ref 501 0] [(500, oc 3 [ti o500]), (501, ov 29 [vbl o501])] (V.t (T.tup [])) [(500, oc 3 [ti r40]), (501, ov 29 [vbl r40b])])] [.keep [14, 13, 6, 3, 1, 2], .keepO [500, 501], .names [(500, 500), (501, 501)]] (ps := [(2 ≤ 2), (CG Try.prog 52 [V.t (T.agg [tl x0, ti x1]), vl x2, vbl o17] [] (V.t (T.agg [tl r37, ti r37b])) []), (WkT (T.agg [tl x0, ti x1]) (T.agg [tl x0, ti x1])), (WkT (tl x2) (tl x2)), (WkT (tbl o17) (tbl o17)), (CG Try.prog 57 [V.t (T.agg [tl r37, ti r37b])] [] (vo 9000 (List.length (openN r37))) [(9000, oc 3 (List.map (T.int .i64) (openN r37)))]), (WkT (T.agg [tl r37, ti r37b]) (T.agg [tl r37, ti r37b])), (CG Try.prog 49 [vbl o17, vi ((List.length (openN r37) : Nat) : Int), V.ref 500 0, V.ref 501 0] [(500, oc 3 [ti o500]), (501, ov 29 [vbl o501])] (V.t (T.tup [])) [(500, oc 3 [ti r40]), (501, ov 29 [vbl r40b])]), (WkT (tbl o17) (tbl o17)), (WkT (ti ((List.length (openN r37) : Nat) : Int)) (ti ((List.length (openN r37) : Nat) : Int))), ((V.ref 500 0).ren (renF [(500, 500), (501, 501)]) = V.ref 500 0), ((V.ref 501 0).ren (renF [(500, 500), (501, 501)]) = V.ref 501 0), ((oc 3 [ti o500]) = (oc 3 [ti o500]).ren (renF [(500, 500), (501, 501)])), ((ov 29 [vbl o501]) = (ov 29 [vbl o501]).ren (renF [(500, 500), (501, 501)]))]) (e := .normal) (σ' := ⟨[500, 501], [(14, vi v14), (13, vi ((1 : Int) * 2 ^ Int.toNat ((List.length x2 : Nat) : Int))), (6, vi ((List.length x2 : Nat) : Int)), (3, V.t (T.ptr [tl x0, ti x1])), (1, vl x2), (2, V.fn 49 [V.ref 500 0, V.ref 501 0])], [(500, oc 3 [ti r40]), (501, ov 29 [vbl r40b])]⟩) (by kernel_rfl) ⟨by decide, (F_impl_State_told_W x0 x1 x2 o17 r37 r37b c1), WkT.refl _, WkT.refl _, WkT.refl _, (open_C_G r37 r37b c2), WkT.refl _, (F_impl_MostKept_1_W o17 ((List.length (openN r37) : Nat) : Int) o500 o501 r40 r40b c3), WkT.refl _, WkT.refl _, by first | rfl | (simp [V.ren, V.renL, renF, lk]; done) | (simp [V.ren, V.renL, renF, lk]; omega), by first | rfl | (simp [V.ren, V.renL, renF, lk]; done) | (simp [V.ren, V.renL, renF, lk]; omega), by first | rfl | (simp only [tlS]; rfl) | (simp [Tl.Obj.ren, V.ren, V.renL, renF, lk]; done), by first | rfl | (simp only [tlS]; rfl) | (simp [Tl.Obj.ren, V.ren, V.renL, renF, lk]; done), trivial⟩ ?_
          exact ⟨(r40, r40b), h, rfl⟩
      · -- from there
        rintro ⟨o500b, o501b⟩ h0
        have h := (show J1 o500b o501b = some (y0, y1) from h0)
        rw [hJ1] at h
        obtain ⟨c1, h⟩ := chk_some h
        refine WP.path tab_ok mixed [(41, An.v (T.int .i64 (v14 + (1 : Int))))] [.keep [14, 13, 6, 3, 1, 2], .keepO [500, 501], .names [(500, 500), (501, 501)]] (ps := [(True), (T.int .i64 (IntKind.wrap .i64 (v14 + (1 : Int))) = T.int .i64 (v14 + (1 : Int)))]) (e := .normal) (σ' := ⟨[500, 501], [(14, vi (v14 + (1 : Int))), (13, vi ((1 : Int) * 2 ^ Int.toNat ((List.length x2 : Nat) : Int))), (6, vi ((List.length x2 : Nat) : Int)), (3, V.t (T.ptr [tl x0, ti x1])), (1, vl x2), (2, V.fn 49 [V.ref 500 0, V.ref 501 0])], [(500, oc 3 [ti o500b]), (501, ov 29 [vbl o501b])]⟩) (by kernel_rfl) ⟨trivial, wrapI c1, trivial⟩ ?_
        exact ⟨(n, o500b, o501b, (v14 + (1 : Int))), h, Nat.lt_succ_self _, rfl⟩
    · -- no
      refine WP.cond (b := decide (v14 < ((1 : Int) * 2 ^ Int.toNat ((List.length x2 : Nat) : Int)))) rfl (fun hh => by rw [h1] at hh; cases hh) (fun _ => ?_)
      simp only [Option.some.injEq, Prod.mk.injEq] at h
      obtain ⟨rfl, rfl⟩ := h
      exact WP.pathGx 0 tab_ok mixed [] [.keep [], .keepO [500, 501], .names [(500, 500), (501, 501)]] [500, 501] _ (r' := V.t (T.tup [])) (ps := []) (r := V.t (T.tup [])) (N := [500, 501]) (O := [(500, oc 3 [ti o500]), (501, ov 29 [vbl o501])]) [] (by kernel_rfl) trivial ⟨(WkT.refl _), trivial⟩ rfl rfl (fun _ h => h)
theorem F_impl_MostKept_W (x0 : List Int) (x1 : Int) (x2 : List Int) (y0 : Int) (y1 : List Bool) (y2 : Bool) (h : F_impl_MostKept x0 x1 x2 = some (y0, y1, y2)) : CG Try.prog 18 [V.t (T.agg [tl x0, ti x1]), vl x2] [] (V.t (T.tup [ti y0, tbl y1, tb y2])) [] := by
  unfold F_impl_MostKept at h
  refine CG.intro (tab := tab) tab_ok (fn := Try.f18) Try.func18 (by kernel_rfl) rfl (Nat.le_of_ble_eq_true rfl) (by kernel_rfl) ?_
  refine WP.seq ?_
  refine WP.path tab_ok mixed [(2, An.fz)] [.keep [6, 5, 4, 2, 1], .keepO []] (ps := []) (e := .normal) (σ' := ⟨[], [(6, vb false), (5, V.t (T.nils)), (4, vi 0), (2, V.t (T.ptr [tl x0, ti x1])), (1, vl x2)], []⟩) (by kernel_rfl) trivial ?_
  refine WP.seq ?_
  refine WP.seq ?_
  obtain ⟨r11, c0, h⟩ := bnd1_some h
  refine WP.path tab_ok mixed [(11, An.call (tb r11))] [.keep [12, 6, 5, 4, 2, 1], .keepO []] (ps := [(2 ≤ 2), (C Try.prog 40 [T.agg [tl x0, ti x1], tl x2] (tb r11))]) (e := .normal) (σ' := ⟨[], [(12, vb (!r11)), (6, vb false), (5, V.t (T.nils)), (4, vi 0), (2, V.t (T.ptr [tl x0, ti x1])), (1, vl x2)], []⟩) (by kernel_rfl) ⟨by decide, (F_impl_areListed_W x0 x1 x2 r11 c0), trivial⟩ ?_
  rcases ite_some h with ⟨h1, h⟩ | ⟨h1, h⟩
  · -- yes
    refine WP.cond (b := !r11) rfl (fun _ => ?_) (fun hh => by rw [h1] at hh; cases hh)
    simp only [Option.some.injEq, Prod.mk.injEq] at h
    obtain ⟨rfl, rfl, rfl⟩ := h
    exact WP.pathG tab_ok mixed [] [.keep [4, 5, 6], .keepO [], .names []] [] _ (r' := V.t (T.tup [ti (0 : Int), tbl [], tb false])) (ps := []) (r := V.t (T.tup [ti 0, T.nils, tb false])) (N := []) (O := []) [] (by kernel_rfl) trivial ⟨(WkT.tup (WkL.cons (WkT.eq (WkT.refl _) (by first | rfl | (simp only [tlS, tl, vl, vo, oc, ov, tbl, vbl, ty, vy] <;> rfl) | (simp <;> omega) | (simp []; done) | (rw [List.take_of_length_le (by simp [])] <;> rfl) | (simp [List.take_of_length_le]; done))) (WkL.cons (WkT.nil _) (WkL.cons (WkT.refl _) WkL.nil)))), trivial⟩ rfl rfl (fun _ h => h)
  · -- no
    refine WP.cond (b := !r11) rfl (fun hh => by rw [h1] at hh; cases hh) (fun _ => ?_)
    refine WP.path tab_ok mixed [] [.keep [6, 5, 4, 2, 1], .keepO []] (ps := []) (e := .normal) (σ' := ⟨[], [(6, vb false), (5, V.t (T.nils)), (4, vi 0), (2, V.t (T.ptr [tl x0, ti x1])), (1, vl x2)], []⟩) (by kernel_rfl) trivial ?_
    obtain ⟨r16, r16b, c1, h⟩ := bnd2_some h
    simp only [Option.some.injEq, Prod.mk.injEq] at h
    obtain ⟨rfl, rfl, rfl⟩ := h
    exact WP.pathG tab_ok mixed [(7, An.id 2007), (8, An.id 2008), (16, An.callG [(500, 2007), (501, 2008)] [V.t (T.agg [tl x0, ti x1]), vl x2, V.fn 49 [V.ref 500 0, V.ref 501 0]] [(500, oc 3 [ti (-1)]), (501, oc 29 [T.nils])] (V.t (T.tup [])) [(500, oc 3 [ti r16]), (501, ov 29 [vbl r16b])])] [.keep [4, 5, 6], .keepO [], .names []] [] _ (r' := V.t (T.tup [ti r16, tbl r16b, tb true])) (ps := [(0 < 1), (0 < 1), (2 ≤ 2), (CG Try.prog 41 [V.t (T.agg [tl x0, ti x1]), vl x2, V.fn 49 [V.ref 500 0, V.ref 501 0]] [(500, oc 3 [ti (-1)]), (501, oc 29 [T.nils])] (V.t (T.tup [])) [(500, oc 3 [ti r16]), (501, ov 29 [vbl r16b])]), (WkT (T.agg [tl x0, ti x1]) (T.agg [tl x0, ti x1])), (WkT (tl x2) (tl x2)), ((V.fn 49 [V.ref 500 0, V.ref 501 0]).ren (renF [(500, 2007), (501, 2008)]) = V.fn 49 [V.ref 2007 0, V.ref 2008 0]), ((oc 3 [ti (-1)]) = (oc 3 [ti (-1)]).ren (renF [(500, 2007), (501, 2008)])), ((oc 29 [T.nils]) = (oc 29 [T.nils]).ren (renF [(500, 2007), (501, 2008)])), (True), (True)]) (r := V.t (T.tup [ti r16, tbl r16b, tb true])) (N := []) (O := []) [] (by kernel_rfl) ⟨by decide, by decide, by decide, (F_impl_State_lists_49_W x0 x1 x2 (-1 : Int) r16 r16b c1), WkT.refl _, WkT.refl _, by first | rfl | (simp [V.ren, V.renL, renF, lk]; done) | (simp [V.ren, V.renL, renF, lk]; omega), by first | rfl | (simp only [tlS]; rfl) | (simp [Tl.Obj.ren, V.ren, V.renL, renF, lk]; done), by first | rfl | (simp only [tlS]; rfl) | (simp [Tl.Obj.ren, V.ren, V.renL, renF, lk]; done), trivial, trivial, trivial⟩ ⟨(WkT.refl _), trivial⟩ rfl rfl (fun _ h => h)
theorem F_impl_MostKept_W_C (x0 : List Int) (x1 : Int) (x2 : List Int) (y0 : Int) (y1 : List Bool) (y2 : Bool) (h : F_impl_MostKept x0 x1 x2 = some (y0, y1, y2)) : C Try.prog 18 [T.agg [tl x0, ti x1], tl x2] (T.tup [ti y0, tbl y1, tb y2]) :=
  CG.toC (ps := []) (F_impl_MostKept_W  x0 x1 x2 y0 y1 y2 h) (by rfl) trivial
theorem F_spec_MostKept_W (x0 : List Int) (x1 : Int) (x2 : List Int) (y0 : Int) (y1 : List Bool) (y2 : Bool) (h : F_spec_MostKept x0 x1 x2 = some (y0, y1, y2)) : CG Try.prog 19 [V.t (T.agg [tl x0, ti x1]), vl x2] [] (V.tup [vi y0, vo 9000 (List.length y1), vb y2]) [(9000, oc 4 (List.map T.bool y1))] := by
  unfold F_spec_MostKept at h
  refine CG.intro (tab := tab) tab_ok (fn := Try.f19) Try.func19 (by kernel_rfl) rfl (Nat.le_of_ble_eq_true rfl) (by kernel_rfl) ?_
  refine WP.seq ?_
  refine WP.path tab_ok mixed [(2, An.fz)] [.keep [6, 5, 4, 2, 1], .keepO []] (ps := []) (e := .normal) (σ' := ⟨[], [(6, vb false), (5, V.t (T.nils)), (4, vi 0), (2, V.t (T.ptr [tl x0, ti x1])), (1, vl x2)], []⟩) (by kernel_rfl) trivial ?_
  refine WP.seq ?_
  refine WP.seq ?_
  obtain ⟨r13, c0, h⟩ := bnd1_some h
  refine WP.path tab_ok mixed [(13, An.call (tb r13))] [.keep [14, 6, 5, 4, 2, 1], .keepO []] (ps := [(2 ≤ 2), (C Try.prog 43 [T.agg [tl x0, ti x1], tl x2] (tb r13))]) (e := .normal) (σ' := ⟨[], [(14, vb (!r13)), (6, vb false), (5, V.t (T.nils)), (4, vi 0), (2, V.t (T.ptr [tl x0, ti x1])), (1, vl x2)], []⟩) (by kernel_rfl) ⟨by decide, (F_spec_l8Good_W x0 x1 x2 r13 c0), trivial⟩ ?_
  rcases ite_some h with ⟨h1, h⟩ | ⟨h1, h⟩
  · -- yes
    refine WP.cond (b := !r13) rfl (fun _ => ?_) (fun hh => by rw [h1] at hh; cases hh)
    simp only [Option.some.injEq, Prod.mk.injEq] at h
    obtain ⟨rfl, rfl, rfl⟩ := h
    exact WP.pathG tab_ok mixed [(15, An.id 2015)] [.keep [4, 5, 6], .keepO [2015], .names [(2015, 9000)]] [9000] _ (r' := V.tup [vi (0 : Int), vo 9000 (List.length []), vb false]) (ps := [(True), (0 = 0 * 1)]) (r := V.tup [vi 0, vo 9000 0, vb false]) (N := [9000]) (O := [(9000, oc 4 [])]) [] (by kernel_rfl) ⟨trivial, by decide, trivial⟩ ⟨(WkT.eq (WkT.refl _) (by first | rfl | (simp only [tlS, tl, vl, vo, oc, ov, tbl, vbl, ty, vy] <;> rfl) | (simp <;> omega) | (simp []; done) | (rw [List.take_of_length_le (by simp [])] <;> rfl) | (simp [List.take_of_length_le]; done))), (congrArg (V.own 9000 1) (by first | rfl | (simp only [tlS, tl, vl, vo, oc, ov, tbl, vbl, ty, vy] <;> rfl) | (simp <;> omega) | (simp []; done) | (rw [List.take_of_length_le (by simp [])] <;> rfl) | (simp [List.take_of_length_le]; done))), (WkT.refl _), trivial⟩ rfl (by first | rfl | (simp only [tlS, tl, vl, vo, oc, ov, tbl, vbl, ty, vy] <;> rfl) | (simp <;> omega) | (simp []; done) | (rw [List.take_of_length_le (by simp [])] <;> rfl) | (simp [List.take_of_length_le]; done)) (fun _ h => h)
  · -- no
    refine WP.cond (b := !r13) rfl (fun hh => by rw [h1] at hh; cases hh) (fun _ => ?_)
    refine WP.path tab_ok mixed [] [.keep [6, 5, 4, 2, 1], .keepO []] (ps := []) (e := .normal) (σ' := ⟨[], [(6, vb false), (5, V.t (T.nils)), (4, vi 0), (2, V.t (T.ptr [tl x0, ti x1])), (1, vl x2)], []⟩) (by kernel_rfl) trivial ?_
    refine WP.seq ?_
    refine WP.path tab_ok mixed [] [.keep [8, 7, 6, 5, 4, 2, 1], .keepO []] (ps := []) (e := .normal) (σ' := ⟨[], [(8, vi (-1)), (7, vi 0), (6, vb false), (5, V.t (T.nils)), (4, vi 0), (2, V.t (T.ptr [tl x0, ti x1])), (1, vl x2)], []⟩) (by kernel_rfl) trivial ?_
    obtain ⟨J1, hJ1, h⟩ := jn_some h
    refine WP.joinA (fun (zz : Int × Int) => ⟨[], [(8, vi zz.1), (7, vi zz.2), (6, vb false), (5, V.t (T.nils)), (4, vi 0), (1, vl x2)], []⟩) (fun zz => J1 zz.1 zz.2 = some (y0, y1, y2)) ?_ ?_
    · -- to where they meet
      refine WP.seq ?_
      refine WP.path tab_ok mixed [] [.keep [9, 8, 7, 6, 5, 4, 2, 1], .keepO []] (ps := []) (e := .normal) (σ' := ⟨[], [(9, vi 0), (8, vi (-1)), (7, vi 0), (6, vb false), (5, V.t (T.nils)), (4, vi 0), (2, V.t (T.ptr [tl x0, ti x1])), (1, vl x2)], []⟩) (by kernel_rfl) trivial ?_
      refine WP.block ?_
      refine WP.wk [.keep [9, 8, 7, 6, 5, 4, 2, 1], .keepO [], .names []] (σ' := ⟨[], [(9, vi 0), (8, vi (-1)), (7, vi 0), (6, vb false), (5, V.t (T.nils)), (4, vi 0), (2, V.t (T.ptr [tl x0, ti x1])), (1, vl x2)], []⟩) (ps := []) (by kernel_rfl) trivial ?_
      refine WP.st (σ' := ⟨[], [(9, vi (0 : Int)), (8, vi (-1 : Int)), (7, vi (0 : Int)), (6, vb false), (5, V.t (T.nils)), (4, vi 0), (2, V.t (T.ptr [tl x0, ti x1])), (1, vl x2)], []⟩) (by first | rfl | (simp only [tlS, tl, vl, vo, oc, ov, tbl, vbl, ty, vy] <;> rfl) | (simp <;> omega) | (simp []; done) | (rw [List.take_of_length_le (by simp [])] <;> rfl) | (simp [List.take_of_length_le]; done)) ?_
      refine WP.loop (α := Nat × Int × Int × Int) (fun zz => ⟨[], [(9, vi zz.2.1), (8, vi zz.2.2.1), (7, vi zz.2.2.2), (6, vb false), (5, V.t (T.nils)), (4, vi 0), (2, V.t (T.ptr [tl x0, ti x1])), (1, vl x2)], []⟩) (fun zz => F_spec_MostKept_L1 x0 x1 x2 J1 zz.1 zz.2.1 zz.2.2.1 zz.2.2.2 = some (y0, y1, y2)) (fun zz => zz.1) (fuel, (0 : Int), (-1 : Int), (0 : Int)) h ?_
      rintro ⟨n, v9, v8, v7⟩ h0
      have h := (show F_spec_MostKept_L1 x0 x1 x2 J1 n v9 v8 v7 = some (y0, y1, y2) from h0)
      rcases n with _ | n
      · rw [F_spec_MostKept_L1] at h; cases h
      · rw [F_spec_MostKept_L1] at h
        refine WP.seq ?_
        refine WP.seq ?_
        obtain ⟨c1, h⟩ := chk_some h
        refine WP.path tab_ok mixed [(19, An.v (T.int .i64 ((1 : Int) * 2 ^ Int.toNat ((List.length x2 : Nat) : Int))))] [.keep [20, 9, 8, 7, 6, 5, 4, 2, 1], .keepO []] (ps := [(0 ≤ ((List.length x2 : Nat) : Int)), (T.int .i64 (IntKind.wrap .i64 ((1 : Int) * 2 ^ (min (Int.toNat ((List.length x2 : Nat) : Int)) 64))) = T.int .i64 ((1 : Int) * 2 ^ Int.toNat ((List.length x2 : Nat) : Int))), (True)]) (e := .normal) (σ' := ⟨[], [(20, vb (decide (v9 < ((1 : Int) * 2 ^ Int.toNat ((List.length x2 : Nat) : Int))))), (9, vi v9), (8, vi v8), (7, vi v7), (6, vb false), (5, V.t (T.nils)), (4, vi 0), (2, V.t (T.ptr [tl x0, ti x1])), (1, vl x2)], []⟩) (by kernel_rfl) ⟨c1.1, shl_told c1, trivial, trivial⟩ ?_
        rcases ite_some h with ⟨h2, h⟩ | ⟨h2, h⟩
        · -- yes
          refine WP.cond (b := decide (v9 < ((1 : Int) * 2 ^ Int.toNat ((List.length x2 : Nat) : Int)))) rfl (fun _ => ?_) (fun hh => by rw [h2] at hh; cases hh)
          refine WP.path tab_ok mixed [] [.keep [9, 8, 7, 6, 5, 4, 2, 1], .keepO []] (ps := []) (e := .normal) (σ' := ⟨[], [(9, vi v9), (8, vi v8), (7, vi v7), (6, vb false), (5, V.t (T.nils)), (4, vi 0), (2, V.t (T.ptr [tl x0, ti x1])), (1, vl x2)], []⟩) (by kernel_rfl) trivial ?_
          refine WP.seq ?_
          refine WP.block ?_
          refine WP.seq ?_
          obtain ⟨r26, c2, h⟩ := bnd1_some h
          refine WP.path tab_ok mixed [(26, An.call (ti r26))] [.keep [10, 9, 8, 7, 6, 5, 4, 2, 1], .keepO []] (ps := [(2 ≤ 2), (C Try.prog 44 [T.agg [tl x0, ti x1], tl x2, ti v9] (ti r26))]) (e := .normal) (σ' := ⟨[], [(10, vi r26), (9, vi v9), (8, vi v8), (7, vi v7), (6, vb false), (5, V.t (T.nils)), (4, vi 0), (2, V.t (T.ptr [tl x0, ti x1])), (1, vl x2)], []⟩) (by kernel_rfl) ⟨by decide, (F_spec_l8Left_W x0 x1 x2 v9 r26 c2), trivial⟩ ?_
          refine WP.seq ?_
          refine WP.path tab_ok mixed [] [.keep [29, 10, 9, 8, 7, 6, 5, 4, 2, 1], .keepO []] (ps := [(True)]) (e := .normal) (σ' := ⟨[], [(29, vb (decide (r26 > v8))), (10, vi r26), (9, vi v9), (8, vi v8), (7, vi v7), (6, vb false), (5, V.t (T.nils)), (4, vi 0), (2, V.t (T.ptr [tl x0, ti x1])), (1, vl x2)], []⟩) (by kernel_rfl) ⟨trivial, trivial⟩ ?_
          rcases ite_some h with ⟨h3, h⟩ | ⟨h3, h⟩
          · -- yes
            refine WP.cond (b := decide (r26 > v8)) rfl (fun _ => ?_) (fun hh => by rw [h3] at hh; cases hh)
            refine WP.path tab_ok mixed [] [.keep [7, 8, 9, 6, 5, 4, 2, 1], .keepO []] (ps := []) (e := .normal) (σ' := ⟨[], [(7, vi v9), (8, vi r26), (9, vi v9), (6, vb false), (5, V.t (T.nils)), (4, vi 0), (2, V.t (T.ptr [tl x0, ti x1])), (1, vl x2)], []⟩) (by kernel_rfl) trivial ?_
            obtain ⟨c3, h⟩ := chk_some h
            refine WP.path tab_ok mixed [(22, An.v (T.int .i64 (v9 + (1 : Int))))] [.keep [9, 8, 7, 6, 5, 4, 2, 1], .keepO [], .names []] (ps := [(True), (T.int .i64 (IntKind.wrap .i64 (v9 + (1 : Int))) = T.int .i64 (v9 + (1 : Int)))]) (e := .normal) (σ' := ⟨[], [(9, vi (v9 + (1 : Int))), (8, vi r26), (7, vi v9), (6, vb false), (5, V.t (T.nils)), (4, vi 0), (2, V.t (T.ptr [tl x0, ti x1])), (1, vl x2)], []⟩) (by kernel_rfl) ⟨trivial, wrapI c3, trivial⟩ ?_
            exact ⟨(n, (v9 + (1 : Int)), r26, v9), h, Nat.lt_succ_self _, rfl⟩
          · -- no
            refine WP.cond (b := decide (r26 > v8)) rfl (fun hh => by rw [h3] at hh; cases hh) (fun _ => ?_)
            refine WP.path tab_ok mixed [] [.keep [9, 8, 7, 6, 5, 4, 2, 1], .keepO []] (ps := []) (e := .normal) (σ' := ⟨[], [(9, vi v9), (8, vi v8), (7, vi v7), (6, vb false), (5, V.t (T.nils)), (4, vi 0), (2, V.t (T.ptr [tl x0, ti x1])), (1, vl x2)], []⟩) (by kernel_rfl) trivial ?_
            obtain ⟨c3, h⟩ := chk_some h
            refine WP.path tab_ok mixed [(22, An.v (T.int .i64 (v9 + (1 : Int))))] [.keep [9, 8, 7, 6, 5, 4, 2, 1], .keepO [], .names []] (ps := [(True), (T.int .i64 (IntKind.wrap .i64 (v9 + (1 : Int))) = T.int .i64 (v9 + (1 : Int)))]) (e := .normal) (σ' := ⟨[], [(9, vi (v9 + (1 : Int))), (8, vi v8), (7, vi v7), (6, vb false), (5, V.t (T.nils)), (4, vi 0), (2, V.t (T.ptr [tl x0, ti x1])), (1, vl x2)], []⟩) (by kernel_rfl) ⟨trivial, wrapI c3, trivial⟩ ?_
            exact ⟨(n, (v9 + (1 : Int)), v8, v7), h, Nat.lt_succ_self _, rfl⟩
        · -- no
          refine WP.cond (b := decide (v9 < ((1 : Int) * 2 ^ Int.toNat ((List.length x2 : Nat) : Int)))) rfl (fun hh => by rw [h2] at hh; cases hh) (fun _ => ?_)
          refine WP.path tab_ok mixed [] [.keep [8, 7, 6, 5, 4, 1], .keepO [], .names []] (ps := []) (e := (.exit 0)) (σ' := ⟨[], [(8, vi v8), (7, vi v7), (6, vb false), (5, V.t (T.nils)), (4, vi 0), (1, vl x2)], []⟩) (by kernel_rfl) trivial ?_
          exact ⟨(v8, v7), h, rfl⟩
    · -- from there
      rintro ⟨v8, v7⟩ h0
      have h := (show J1 v8 v7 = some (y0, y1, y2) from h0)
      rw [hJ1] at h
      obtain ⟨r36, c1, h⟩ := bnd1_some h
      simp only [Option.some.injEq, Prod.mk.injEq] at h
      obtain ⟨rfl, rfl, rfl⟩ := h
      exact WP.pathG tab_ok mixed [(36, An.callG [(9000, 10360)] [vi v7, vi ((List.length x2 : Nat) : Int)] [] (vo 9000 (List.length r36)) [(9000, oc 4 (List.map T.bool r36))])] [.keep [4, 5, 6], .keepO [10360], .names [(10360, 9000)]] [9000] _ (r' := V.tup [vi v8, vo 9000 (List.length r36), vb true]) (ps := [(CG Try.prog 45 [vi v7, vi ((List.length x2 : Nat) : Int)] [] (vo 9000 (List.length r36)) [(9000, oc 4 (List.map T.bool r36))]), (WkT (ti v7) (ti v7)), (WkT (ti ((List.length x2 : Nat) : Int)) (ti ((List.length x2 : Nat) : Int)))]) (r := V.tup [vi v8, vo 9000 (List.length r36), vb true]) (N := [9000]) (O := [(9000, oc 4 (List.map T.bool r36))]) [] (by kernel_rfl) ⟨(F_spec_l8Answers_W v7 ((List.length x2 : Nat) : Int) r36 c1), WkT.refl _, WkT.refl _, trivial⟩ ⟨(WkT.refl _), rfl, (WkT.refl _), trivial⟩ rfl rfl (fun _ h => h)
theorem F_spec_MostKept_W_C (x0 : List Int) (x1 : Int) (x2 : List Int) (y0 : Int) (y1 : List Bool) (y2 : Bool) (h : F_spec_MostKept x0 x1 x2 = some (y0, y1, y2)) : C Try.prog 19 [T.agg [tl x0, ti x1], tl x2] (T.tup [ti y0, tbl y1, tb y2]) :=
  CG.toC (ps := [(List.length (List.map T.bool y1) = (List.length y1) * 1)]) (F_spec_MostKept_W  x0 x1 x2 y0 y1 y2 h) (by rfl) ⟨by first | rfl | omega | (simp <;> omega) | (simp [hl] <;> omega), trivial⟩
theorem F_impl_without_W (x0 : List Int) (x1 : Int) (y0 : List Int) (h : F_impl_without x0 x1 = some y0) : CG Try.prog 50 [vl x0, vi x1] [] (vo 9000 (List.length y0)) [(9000, oc 3 (List.map (T.int .i64) y0))] := by
  unfold F_impl_without at h
  refine CG.intro (tab := tab) tab_ok (fn := Try.f50) Try.func50 (by kernel_rfl) rfl (Nat.le_of_ble_eq_true rfl) (by kernel_rfl) ?_
  obtain ⟨c0, h⟩ := chk_some h
  obtain ⟨c1, h⟩ := chk_some h
  obtain ⟨c2, h⟩ := chk_some h
  have h := Option.some.inj h
  subst h
  exact WP.pathG tab_ok mixed [(6, An.callG [(9000, 10060)] [vl x0] [] (vo 9000 (List.length x0)) [(9000, oc 3 (List.map (T.int .i64) x0))]), (9, An.v (T.int .i64 (x1 + (1 : Int)))), (10, An.callG [(500, 10060)] [vo 500 (List.length x0), vi x1, vi (x1 + (1 : Int))] [(500, oc 3 (List.map (T.int .i64) x0))] (vo 500 (List.length (x0.take x1.toNat ++ x0.drop (x1 + (1 : Int)).toNat))) [(500, oc 3 (List.map (T.int .i64) (x0.take x1.toNat ++ x0.drop (x1 + (1 : Int)).toNat)))])] [.keep [4], .keepO [10060], .names [(10060, 9000)]] [9000] _ (r' := vo 9000 (List.length (x0.take x1.toNat ++ x0.drop (x1 + (1 : Int)).toNat))) (ps := [(CG Try.prog 94 [vl x0] [] (vo 9000 (List.length x0)) [(9000, oc 3 (List.map (T.int .i64) x0))]), (WkT (tl x0) (tl x0)), (True), (T.int .i64 (IntKind.wrap .i64 (x1 + (1 : Int))) = T.int .i64 (x1 + (1 : Int))), (CG Try.prog 93 [vo 500 (List.length x0), vi x1, vi (x1 + (1 : Int))] [(500, oc 3 (List.map (T.int .i64) x0))] (vo 500 (List.length (x0.take x1.toNat ++ x0.drop (x1 + (1 : Int)).toNat))) [(500, oc 3 (List.map (T.int .i64) (x0.take x1.toNat ++ x0.drop (x1 + (1 : Int)).toNat)))]), ((vo 500 (List.length x0)).ren (renF [(500, 10060)]) = vo 10060 (List.length x0)), (WkT (ti x1) (ti x1)), (WkT (ti (x1 + (1 : Int))) (ti (x1 + (1 : Int)))), ((oc 3 (List.map (T.int .i64) x0)) = (oc 3 (List.map (T.int .i64) x0)).ren (renF [(500, 10060)]))]) (r := vo 9000 (List.length (x0.take x1.toNat ++ x0.drop (x1 + (1 : Int)).toNat))) (N := [9000]) (O := [(9000, oc 3 (List.map (T.int .i64) (x0.take x1.toNat ++ x0.drop (x1 + (1 : Int)).toNat)))]) [] (by kernel_rfl) ⟨(clone_C_G x0 c0), WkT.refl _, trivial, wrapI c1, (delete_C_G 3 x0 x1 (x1 + (1 : Int)) c2), by first | rfl | (simp [V.ren, V.renL, renF, lk]; done) | (simp [V.ren, V.renL, renF, lk]; omega), WkT.refl _, WkT.refl _, by first | rfl | (simp [Tl.Obj.ren, V.ren, V.renL, renF, lk]; done), trivial⟩ ⟨rfl, trivial⟩ rfl rfl (fun _ h => h)
theorem F_impl_without_W_C (x0 : List Int) (x1 : Int) (y0 : List Int) (h : F_impl_without x0 x1 = some y0) : C Try.prog 50 [tl x0, ti x1] (tl y0) :=
  CG.toC (ps := [(List.length (List.map (T.int .i64) y0) = (List.length y0) * 1)]) (F_impl_without_W  x0 x1 y0 h) (by rfl) ⟨by first | rfl | omega | (simp <;> omega) | (simp [hl] <;> omega), trivial⟩
theorem F_impl_NeedlessQuestions_W (x0 : List Int) (x1 : Int) (x2 : List Int) (y0 : List Int) (y1 : Bool) (h : F_impl_NeedlessQuestions x0 x1 x2 = some (y0, y1)) : CG Try.prog 20 [V.t (T.agg [tl x0, ti x1]), vl x2] [] (V.tup [vo 9000 (List.length y0), vb y1]) [(9000, oc 3 (List.map (T.int .i64) y0))] := by
  unfold F_impl_NeedlessQuestions at h
  refine CG.intro (tab := tab) tab_ok (fn := Try.f20) Try.func20 (by kernel_rfl) rfl (Nat.le_of_ble_eq_true rfl) (by kernel_rfl) ?_
  refine WP.seq ?_
  refine WP.path tab_ok mixed [(2, An.fz)] [.keep [5, 4, 2, 1], .keepO []] (ps := []) (e := .normal) (σ' := ⟨[], [(5, vb false), (4, V.t (T.nils)), (2, V.t (T.ptr [tl x0, ti x1])), (1, vl x2)], []⟩) (by kernel_rfl) trivial ?_
  refine WP.seq ?_
  refine WP.seq ?_
  obtain ⟨r13, r13b, c0, h⟩ := bnd2_some h
  refine WP.path tab_ok mixed [(13, An.call (T.tup [tb r13, tb r13b]))] [.keep [7, 6, 5, 4, 2, 1], .keepO []] (ps := [(2 ≤ 2), (C Try.prog 14 [T.agg [tl x0, ti x1], tl x2] (T.tup [tb r13, tb r13b]))]) (e := .normal) (σ' := ⟨[], [(7, vb r13b), (6, vb r13), (5, vb false), (4, V.t (T.nils)), (2, V.t (T.ptr [tl x0, ti x1])), (1, vl x2)], []⟩) (by kernel_rfl) ⟨by decide, (F_impl_DoTell_W x0 x1 x2 r13 r13b c0), trivial⟩ ?_
  obtain ⟨J1, hJ1, h⟩ := jn_some h
  refine WP.joinA (fun (zz : Bool) => ⟨[], [(21, vb zz), (5, vb false), (4, V.t (T.nils)), (2, V.t (T.ptr [tl x0, ti x1])), (1, vl x2)], []⟩) (fun zz => J1 zz = some (y0, y1)) ?_ ?_
  · -- to where they meet
    rcases ite_some h with ⟨h1, h⟩ | ⟨h1, h⟩
    · -- yes
      refine WP.path tab_ok mixed [(18, An.b true)] [.keep [21, 5, 4, 2, 1], .keepO [], .names []] (ps := [((!r13b) = true)]) (e := .normal) (σ' := ⟨[], [(21, vb true), (5, vb false), (4, V.t (T.nils)), (2, V.t (T.ptr [tl x0, ti x1])), (1, vl x2)], []⟩) (by kernel_rfl) ⟨h1, trivial⟩ ?_
      exact ⟨(true), h, rfl⟩
    · -- no
      refine WP.path tab_ok mixed [(18, An.b false)] [.keep [21, 5, 4, 2, 1], .keepO [], .names []] (ps := [((!r13b) = false)]) (e := .normal) (σ' := ⟨[], [(21, vb (!r13)), (5, vb false), (4, V.t (T.nils)), (2, V.t (T.ptr [tl x0, ti x1])), (1, vl x2)], []⟩) (by kernel_rfl) ⟨h1, trivial⟩ ?_
      exact ⟨(!r13), h, rfl⟩
  · -- from there
    intro v21 h0
    have h := (show J1 v21 = some (y0, y1) from h0)
    rw [hJ1] at h
    rcases ite_some h with ⟨h2, h⟩ | ⟨h2, h⟩
    · -- yes
      refine WP.cond (b := v21) rfl (fun _ => ?_) (fun hh => by rw [h2] at hh; cases hh)
      simp only [Option.some.injEq, Prod.mk.injEq] at h
      obtain ⟨rfl, rfl⟩ := h
      exact WP.pathG tab_ok mixed [] [.keep [4, 5], .keepO [], .names []] [] _ (r' := V.tup [vo 9000 (List.length ([] : List Int)), vb false]) (ps := []) (r := V.t (T.tup [T.nils, tb false])) (N := []) (O := []) [(9000, 3)] (by kernel_rfl) trivial ⟨(by first | rfl | (simp; done)), (WkT.refl _), trivial⟩ rfl rfl (fun _ h => h)
    · -- no
      refine WP.cond (b := v21) rfl (fun hh => by rw [h2] at hh; cases hh) (fun _ => ?_)
      refine WP.path tab_ok mixed [] [.keep [5, 4, 2, 1], .keepO []] (ps := []) (e := .normal) (σ' := ⟨[], [(5, vb false), (4, V.t (T.nils)), (2, V.t (T.ptr [tl x0, ti x1])), (1, vl x2)], []⟩) (by kernel_rfl) trivial ?_
      refine WP.seq ?_
      refine WP.path tab_ok mixed [(22, An.id 2022)] [.keep [8, 5, 4, 2, 1], .keepO [2022]] (ps := [(True), (0 = 0 * 1)]) (e := .normal) (σ' := ⟨[2022], [(8, vo 2022 0), (5, vb false), (4, V.t (T.nils)), (2, V.t (T.ptr [tl x0, ti x1])), (1, vl x2)], [(2022, oc 3 [])]⟩) (by kernel_rfl) ⟨trivial, by decide, trivial⟩ ?_
      obtain ⟨J1, hJ1, h⟩ := jn_some h
      refine WP.joinA (fun (zz : (List Int)) => ⟨[2022], [(8, vo 2022 (List.length zz)), (5, vb false), (4, V.t (T.nils))], [(2022, oc 3 (List.map (T.int .i64) zz))]⟩) (fun zz => J1 zz = some (y0, y1)) ?_ ?_
      · -- to where they meet
        refine WP.seq ?_
        refine WP.path tab_ok mixed [] [.keep [25, 24, 8, 5, 4, 2, 1], .keepO [2022]] (ps := []) (e := .normal) (σ' := ⟨[2022], [(25, vi 0), (24, vi ((List.length x2 : Nat) : Int)), (8, vo 2022 0), (5, vb false), (4, V.t (T.nils)), (2, V.t (T.ptr [tl x0, ti x1])), (1, vl x2)], [(2022, oc 3 [])]⟩) (by kernel_rfl) trivial ?_
        refine WP.block ?_
        refine WP.wk [.keep [25, 24, 8, 5, 4, 2, 1], .keepO [2022], .names [(2022, 2022)]] (σ' := ⟨[2022], [(25, vi 0), (24, vi ((List.length x2 : Nat) : Int)), (8, vo 2022 0), (5, vb false), (4, V.t (T.nils)), (2, V.t (T.ptr [tl x0, ti x1])), (1, vl x2)], [(2022, oc 3 [])]⟩) (ps := []) (by kernel_rfl) trivial ?_
        refine WP.st (σ' := ⟨[2022], [(25, vi (0 : Int)), (24, vi ((List.length x2 : Nat) : Int)), (8, vo 2022 (List.length ([] : List Int))), (5, vb false), (4, V.t (T.nils)), (2, V.t (T.ptr [tl x0, ti x1])), (1, vl x2)], [(2022, oc 3 (List.map (T.int .i64) ([] : List Int)))]⟩) (by first | rfl | (simp only [tlS, tl, vl, vo, oc, ov, tbl, vbl, ty, vy] <;> rfl) | (simp <;> omega) | (simp []; done) | (rw [List.take_of_length_le (by simp [])] <;> rfl) | (simp [List.take_of_length_le]; done)) ?_
        refine WP.loop (α := Nat × (List Int) × Int) (fun zz => ⟨[2022], [(25, vi zz.2.2), (24, vi ((List.length x2 : Nat) : Int)), (8, vo 2022 (List.length zz.2.1)), (5, vb false), (4, V.t (T.nils)), (2, V.t (T.ptr [tl x0, ti x1])), (1, vl x2)], [(2022, oc 3 (List.map (T.int .i64) zz.2.1))]⟩) (fun zz => F_impl_NeedlessQuestions_L1 x0 x1 x2 J1 zz.1 zz.2.1 zz.2.2 = some (y0, y1)) (fun zz => zz.1) (fuel, ([] : List Int), (0 : Int)) h ?_
        rintro ⟨n, o22, v25⟩ h0
        have h := (show F_impl_NeedlessQuestions_L1 x0 x1 x2 J1 n o22 v25 = some (y0, y1) from h0)
        rcases n with _ | n
        · rw [F_impl_NeedlessQuestions_L1] at h; cases h
        · rw [F_impl_NeedlessQuestions_L1] at h
          refine WP.seq ?_
          refine WP.path tab_ok mixed [] [.keep [26, 25, 24, 8, 5, 4, 2, 1], .keepO [2022]] (ps := [(True)]) (e := .normal) (σ' := ⟨[2022], [(26, vb (decide (v25 < ((List.length x2 : Nat) : Int)))), (25, vi v25), (24, vi ((List.length x2 : Nat) : Int)), (8, vo 2022 (List.length o22)), (5, vb false), (4, V.t (T.nils)), (2, V.t (T.ptr [tl x0, ti x1])), (1, vl x2)], [(2022, oc 3 (List.map (T.int .i64) o22))]⟩) (by kernel_rfl) ⟨trivial, trivial⟩ ?_
          refine WP.seq ?_
          rcases ite_some h with ⟨h3, h⟩ | ⟨h3, h⟩
          · -- yes
            refine WP.cond (b := decide (v25 < ((List.length x2 : Nat) : Int))) rfl (fun _ => ?_) (fun hh => by rw [h3] at hh; cases hh)
            refine WP.path tab_ok mixed [] [.keep [25, 24, 8, 5, 4, 2, 1], .keepO [2022]] (ps := []) (e := .normal) (σ' := ⟨[2022], [(25, vi v25), (24, vi ((List.length x2 : Nat) : Int)), (8, vo 2022 (List.length o22)), (5, vb false), (4, V.t (T.nils)), (2, V.t (T.ptr [tl x0, ti x1])), (1, vl x2)], [(2022, oc 3 (List.map (T.int .i64) o22))]⟩) (by kernel_rfl) trivial ?_
            refine WP.seq ?_
            refine WP.block ?_
            refine WP.seq ?_
            refine WP.path tab_ok mixed [] [.keep [9, 25, 24, 8, 5, 4, 2, 1], .keepO [2022]] (ps := []) (e := .normal) (σ' := ⟨[2022], [(9, vi v25), (25, vi v25), (24, vi ((List.length x2 : Nat) : Int)), (8, vo 2022 (List.length o22)), (5, vb false), (4, V.t (T.nils)), (2, V.t (T.ptr [tl x0, ti x1])), (1, vl x2)], [(2022, oc 3 (List.map (T.int .i64) o22))]⟩) (by kernel_rfl) trivial ?_
            refine WP.seq ?_
            obtain ⟨r31, c1, h⟩ := bnd1_some h
            obtain ⟨r32, c2, h⟩ := bnd1_some h
            refine WP.path tab_ok mixed [(31, An.callG [(9000, 10310)] [vl x2, vi v25] [] (vo 9000 (List.length r31)) [(9000, oc 3 (List.map (T.int .i64) r31))]), (32, An.call (ti r32))] [.keep [33, 9, 25, 24, 8, 5, 4, 2, 1], .keepO [2022]] (ps := [(2 ≤ 2), (CG Try.prog 50 [vl x2, vi v25] [] (vo 9000 (List.length r31)) [(9000, oc 3 (List.map (T.int .i64) r31))]), (WkT (tl x2) (tl x2)), (WkT (ti v25) (ti v25)), (C Try.prog 46 [T.agg [tl x0, ti x1], tl r31, ti 2] (ti r32)), (List.length (List.map (T.int .i64) r31) = (List.length r31) * 1), (True)]) (e := .normal) (σ' := ⟨[10310, 2022], [(33, vb (r32 == (0 : Int))), (9, vi v25), (25, vi v25), (24, vi ((List.length x2 : Nat) : Int)), (8, vo 2022 (List.length o22)), (5, vb false), (4, V.t (T.nils)), (2, V.t (T.ptr [tl x0, ti x1])), (1, vl x2)], [(2022, oc 3 (List.map (T.int .i64) o22))]⟩) (by kernel_rfl) ⟨by decide, (F_impl_without_W x2 v25 r31 c1), WkT.refl _, WkT.refl _, (F_impl_State_count_W x0 x1 r31 (2 : Int) r32 c2), by first | rfl | omega | (simp only [tlL] <;> omega) | (simp <;> omega) | (simp [] <;> omega), trivial, trivial⟩ ?_
            rcases ite_some h with ⟨h4, h⟩ | ⟨h4, h⟩
            · -- yes
              refine WP.cond (b := r32 == (0 : Int)) rfl (fun _ => ?_) (fun hh => by rw [h4] at hh; cases hh)
              obtain ⟨c3, h⟩ := chk_some h
              refine WP.path tab_ok mixed [(36, An.fz), (37, An.id 2037)] [.keep [8, 25, 24, 5, 4, 2, 1], .keepO [2037]] (ps := [((1 = 1 ∧ 0 + 1 ≤ 1) ∧ True), (1 = 1 * 1), (True), (List.length (List.map (T.int .i64) o22) = (List.length o22) * 1), ((((List.length o22) + 1) * 8 ≤ 140737488355328 ∧ (List.length o22) + 1 ≤ maxLen))]) (e := .normal) (σ' := ⟨[2037, 10310, 2022], [(8, vo 2037 ((List.length o22) + 1)), (25, vi v25), (24, vi ((List.length x2 : Nat) : Int)), (5, vb false), (4, V.t (T.nils)), (2, V.t (T.ptr [tl x0, ti x1])), (1, vl x2)], [(2037, oc 3 ((List.map (T.int .i64) o22) ++ [ti v25]))]⟩) (by kernel_rfl) ⟨⟨⟨by first | rfl | (simp; done) | (simp []; done) | omega, by first | decide | (simp; done) | (simp []; done) | omega | (simp only [tlL]; omega) | (simp; omega)⟩, trivial⟩, by decide, trivial, by first | rfl | omega | (simp only [tlL] <;> omega) | (simp <;> omega) | (simp [] <;> omega), c3, trivial⟩ ?_
              obtain ⟨c4, h⟩ := chk_some h
              refine WP.path tab_ok mixed [(38, An.v (T.int .i64 (v25 + (1 : Int))))] [.keep [25, 24, 8, 5, 4, 2, 1], .keepO [2037], .names [(2037, 2022)]] (ps := [(True), (T.int .i64 (IntKind.wrap .i64 (v25 + (1 : Int))) = T.int .i64 (v25 + (1 : Int)))]) (e := .normal) (σ' := ⟨[2022], [(25, vi (v25 + (1 : Int))), (24, vi ((List.length x2 : Nat) : Int)), (8, vo 2022 ((List.length o22) + 1)), (5, vb false), (4, V.t (T.nils)), (2, V.t (T.ptr [tl x0, ti x1])), (1, vl x2)], [(2022, oc 3 ((List.map (T.int .i64) o22) ++ [ti v25]))]⟩) (by kernel_rfl) ⟨trivial, wrapI c4, trivial⟩ ?_
              exact ⟨(n, o22 ++ [v25], (v25 + (1 : Int))), h, Nat.lt_succ_self _, (by first | rfl | (simp only [tlS, tl, vl, vo, oc, ov, tbl, vbl, ty, vy] <;> rfl) | (simp <;> omega) | (simp []; done) | (rw [List.take_of_length_le (by simp [])] <;> rfl) | (simp [List.take_of_length_le]; done))⟩
            · -- no
              refine WP.cond (b := r32 == (0 : Int)) rfl (fun hh => by rw [h4] at hh; cases hh) (fun _ => ?_)
              refine WP.path tab_ok mixed [] [.keep [25, 24, 8, 5, 4, 2, 1], .keepO [2022]] (ps := []) (e := .normal) (σ' := ⟨[10310, 2022], [(25, vi v25), (24, vi ((List.length x2 : Nat) : Int)), (8, vo 2022 (List.length o22)), (5, vb false), (4, V.t (T.nils)), (2, V.t (T.ptr [tl x0, ti x1])), (1, vl x2)], [(2022, oc 3 (List.map (T.int .i64) o22))]⟩) (by kernel_rfl) trivial ?_
              obtain ⟨c3, h⟩ := chk_some h
              refine WP.path tab_ok mixed [(38, An.v (T.int .i64 (v25 + (1 : Int))))] [.keep [25, 24, 8, 5, 4, 2, 1], .keepO [2022], .names [(2022, 2022)]] (ps := [(True), (T.int .i64 (IntKind.wrap .i64 (v25 + (1 : Int))) = T.int .i64 (v25 + (1 : Int)))]) (e := .normal) (σ' := ⟨[2022], [(25, vi (v25 + (1 : Int))), (24, vi ((List.length x2 : Nat) : Int)), (8, vo 2022 (List.length o22)), (5, vb false), (4, V.t (T.nils)), (2, V.t (T.ptr [tl x0, ti x1])), (1, vl x2)], [(2022, oc 3 (List.map (T.int .i64) o22))]⟩) (by kernel_rfl) ⟨trivial, wrapI c3, trivial⟩ ?_
              exact ⟨(n, o22, (v25 + (1 : Int))), h, Nat.lt_succ_self _, rfl⟩
          · -- no
            refine WP.cond (b := decide (v25 < ((List.length x2 : Nat) : Int))) rfl (fun hh => by rw [h3] at hh; cases hh) (fun _ => ?_)
            refine WP.path tab_ok mixed [] [.keep [8, 5, 4], .keepO [2022], .names [(2022, 2022)]] (ps := []) (e := (.exit 0)) (σ' := ⟨[2022], [(8, vo 2022 (List.length o22)), (5, vb false), (4, V.t (T.nils))], [(2022, oc 3 (List.map (T.int .i64) o22))]⟩) (by kernel_rfl) trivial ?_
            exact ⟨(o22), h, rfl⟩
      · -- from there
        intro o22 h0
        have h := (show J1 o22 = some (y0, y1) from h0)
        rw [hJ1] at h
        simp only [Option.some.injEq, Prod.mk.injEq] at h
        obtain ⟨rfl, rfl⟩ := h
        exact WP.pathG tab_ok mixed [] [.keep [4, 5], .keepO [2022], .names [(2022, 9000)]] [9000] _ (r' := V.tup [vo 9000 (List.length o22), vb true]) (ps := []) (r := V.tup [vo 9000 (List.length o22), vb true]) (N := [9000]) (O := [(9000, oc 3 (List.map (T.int .i64) o22))]) [] (by kernel_rfl) trivial ⟨rfl, (WkT.refl _), trivial⟩ rfl rfl (fun _ h => h)
theorem F_impl_NeedlessQuestions_W_C (x0 : List Int) (x1 : Int) (x2 : List Int) (y0 : List Int) (y1 : Bool) (h : F_impl_NeedlessQuestions x0 x1 x2 = some (y0, y1)) : C Try.prog 20 [T.agg [tl x0, ti x1], tl x2] (T.tup [tl y0, tb y1]) :=
  CG.toC (ps := [(List.length (List.map (T.int .i64) y0) = (List.length y0) * 1)]) (F_impl_NeedlessQuestions_W  x0 x1 x2 y0 y1 h) (by rfl) ⟨by first | rfl | omega | (simp <;> omega) | (simp [hl] <;> omega), trivial⟩
theorem F_spec_NeedlessQuestions_W (x0 : List Int) (x1 : Int) (x2 : List Int) (y0 : List Int) (y1 : Bool) (h : F_spec_NeedlessQuestions x0 x1 x2 = some (y0, y1)) : CG Try.prog 21 [V.t (T.agg [tl x0, ti x1]), vl x2] [] (V.tup [vo 9000 (List.length y0), vb y1]) [(9000, oc 3 (List.map (T.int .i64) y0))] := by
  unfold F_spec_NeedlessQuestions at h
  refine CG.intro (tab := tab) tab_ok (fn := Try.f21) Try.func21 (by kernel_rfl) rfl (Nat.le_of_ble_eq_true rfl) (by kernel_rfl) ?_
  refine WP.seq ?_
  refine WP.path tab_ok mixed [(2, An.fz)] [.keep [5, 4, 2, 1], .keepO []] (ps := []) (e := .normal) (σ' := ⟨[], [(5, vb false), (4, V.t (T.nils)), (2, V.t (T.ptr [tl x0, ti x1])), (1, vl x2)], []⟩) (by kernel_rfl) trivial ?_
  refine WP.seq ?_
  refine WP.path tab_ok mixed [(8, An.id 2008)] [.keep [6, 5, 4, 2, 1], .keepO [2008]] (ps := [(True), (0 = 0 * 1)]) (e := .normal) (σ' := ⟨[2008], [(6, vo 2008 0), (5, vb false), (4, V.t (T.nils)), (2, V.t (T.ptr [tl x0, ti x1])), (1, vl x2)], [(2008, oc 3 [])]⟩) (by kernel_rfl) ⟨trivial, by decide, trivial⟩ ?_
  refine WP.seq ?_
  obtain ⟨J1, hJ1, h⟩ := jn_some h
  refine WP.joinA (fun (zz : Bool) => ⟨[2008], [(18, vb zz), (6, vo 2008 0), (5, vb false), (4, V.t (T.nils)), (2, V.t (T.ptr [tl x0, ti x1])), (1, vl x2)], [(2008, oc 3 [])]⟩) (fun zz => J1 zz = some (y0, y1)) ?_ ?_
  · -- to where they meet
    obtain ⟨r11, c0, h⟩ := bnd1_some h
    rcases ite_some h with ⟨h1, h⟩ | ⟨h1, h⟩
    · -- yes
      refine WP.path tab_ok mixed [(11, An.call (tb r11)), (13, An.b true)] [.keep [18, 6, 5, 4, 2, 1], .keepO [2008], .names [(2008, 2008)]] (ps := [(2 ≤ 2), (C Try.prog 43 [T.agg [tl x0, ti x1], tl x2] (tb r11)), ((!r11) = true)]) (e := .normal) (σ' := ⟨[2008], [(18, vb true), (6, vo 2008 0), (5, vb false), (4, V.t (T.nils)), (2, V.t (T.ptr [tl x0, ti x1])), (1, vl x2)], [(2008, oc 3 [])]⟩) (by kernel_rfl) ⟨by decide, (F_spec_l8Good_W x0 x1 x2 r11 c0), h1, trivial⟩ ?_
      exact ⟨(true), h, rfl⟩
    · -- no
      obtain ⟨r16, c1, h⟩ := bnd1_some h
      refine WP.path tab_ok mixed [(11, An.call (tb r11)), (13, An.b false), (16, An.call (tb r16))] [.keep [18, 6, 5, 4, 2, 1], .keepO [2008], .names [(2008, 2008)]] (ps := [(2 ≤ 2), (C Try.prog 43 [T.agg [tl x0, ti x1], tl x2] (tb r11)), ((!r11) = false), (2 ≤ 2), (C Try.prog 48 [T.agg [tl x0, ti x1], tl x2] (tb r16))]) (e := .normal) (σ' := ⟨[2008], [(18, vb (!r16)), (6, vo 2008 0), (5, vb false), (4, V.t (T.nils)), (2, V.t (T.ptr [tl x0, ti x1])), (1, vl x2)], [(2008, oc 3 [])]⟩) (by kernel_rfl) ⟨by decide, (F_spec_l8Good_W x0 x1 x2 r11 c0), h1, by decide, (F_spec_l8Tell_W x0 x1 x2 r16 c1), trivial⟩ ?_
      exact ⟨(!r16), h, rfl⟩
  · -- from there
    intro v18 h0
    have h := (show J1 v18 = some (y0, y1) from h0)
    rw [hJ1] at h
    rcases ite_some h with ⟨h2, h⟩ | ⟨h2, h⟩
    · -- yes
      refine WP.cond (b := v18) rfl (fun _ => ?_) (fun hh => by rw [h2] at hh; cases hh)
      simp only [Option.some.injEq, Prod.mk.injEq] at h
      obtain ⟨rfl, rfl⟩ := h
      exact WP.pathG tab_ok mixed [] [.keep [4, 5], .keepO [2008], .names [(2008, 9000)]] [9000] _ (r' := V.tup [vo 9000 (List.length []), vb false]) (ps := []) (r := V.tup [vo 9000 0, vb false]) (N := [9000]) (O := [(9000, oc 3 [])]) [] (by kernel_rfl) trivial ⟨(congrArg (V.own 9000 1) (by first | rfl | (simp only [tlS, tl, vl, vo, oc, ov, tbl, vbl, ty, vy] <;> rfl) | (simp <;> omega) | (simp []; done) | (rw [List.take_of_length_le (by simp [])] <;> rfl) | (simp [List.take_of_length_le]; done))), (WkT.refl _), trivial⟩ rfl (by first | rfl | (simp only [tlS, tl, vl, vo, oc, ov, tbl, vbl, ty, vy] <;> rfl) | (simp <;> omega) | (simp []; done) | (rw [List.take_of_length_le (by simp [])] <;> rfl) | (simp [List.take_of_length_le]; done)) (fun _ h => h)
    · -- no
      refine WP.cond (b := v18) rfl (fun hh => by rw [h2] at hh; cases hh) (fun _ => ?_)
      refine WP.path tab_ok mixed [] [.keep [6, 5, 4, 2, 1], .keepO [2008]] (ps := []) (e := .normal) (σ' := ⟨[2008], [(6, vo 2008 0), (5, vb false), (4, V.t (T.nils)), (2, V.t (T.ptr [tl x0, ti x1])), (1, vl x2)], [(2008, oc 3 [])]⟩) (by kernel_rfl) trivial ?_
      obtain ⟨J1, hJ1, h⟩ := jn_some h
      refine WP.joinA (fun (zz : (List Int)) => ⟨[2008], [(6, vo 2008 (List.length zz)), (5, vb false), (4, V.t (T.nils))], [(2008, oc 3 (List.map (T.int .i64) zz))]⟩) (fun zz => J1 zz = some (y0, y1)) ?_ ?_
      · -- to where they meet
        refine WP.seq ?_
        refine WP.path tab_ok mixed [] [.keep [7, 6, 5, 4, 2, 1], .keepO [2008]] (ps := []) (e := .normal) (σ' := ⟨[2008], [(7, vi 0), (6, vo 2008 0), (5, vb false), (4, V.t (T.nils)), (2, V.t (T.ptr [tl x0, ti x1])), (1, vl x2)], [(2008, oc 3 [])]⟩) (by kernel_rfl) trivial ?_
        refine WP.block ?_
        refine WP.wk [.keep [7, 6, 5, 4, 2, 1], .keepO [2008], .names [(2008, 2008)]] (σ' := ⟨[2008], [(7, vi 0), (6, vo 2008 0), (5, vb false), (4, V.t (T.nils)), (2, V.t (T.ptr [tl x0, ti x1])), (1, vl x2)], [(2008, oc 3 [])]⟩) (ps := []) (by kernel_rfl) trivial ?_
        refine WP.st (σ' := ⟨[2008], [(7, vi (0 : Int)), (6, vo 2008 (List.length ([] : List Int))), (5, vb false), (4, V.t (T.nils)), (2, V.t (T.ptr [tl x0, ti x1])), (1, vl x2)], [(2008, oc 3 (List.map (T.int .i64) ([] : List Int)))]⟩) (by first | rfl | (simp only [tlS, tl, vl, vo, oc, ov, tbl, vbl, ty, vy] <;> rfl) | (simp <;> omega) | (simp []; done) | (rw [List.take_of_length_le (by simp [])] <;> rfl) | (simp [List.take_of_length_le]; done)) ?_
        refine WP.loop (α := Nat × (List Int) × Int) (fun zz => ⟨[2008], [(7, vi zz.2.2), (6, vo 2008 (List.length zz.2.1)), (5, vb false), (4, V.t (T.nils)), (2, V.t (T.ptr [tl x0, ti x1])), (1, vl x2)], [(2008, oc 3 (List.map (T.int .i64) zz.2.1))]⟩) (fun zz => F_spec_NeedlessQuestions_L1 x0 x1 x2 J1 zz.1 zz.2.1 zz.2.2 = some (y0, y1)) (fun zz => zz.1) (fuel, ([] : List Int), (0 : Int)) h ?_
        rintro ⟨n, o8, v7⟩ h0
        have h := (show F_spec_NeedlessQuestions_L1 x0 x1 x2 J1 n o8 v7 = some (y0, y1) from h0)
        rcases n with _ | n
        · rw [F_spec_NeedlessQuestions_L1] at h; cases h
        · rw [F_spec_NeedlessQuestions_L1] at h
          refine WP.seq ?_
          refine WP.seq ?_
          refine WP.path tab_ok mixed [] [.keep [23, 7, 6, 5, 4, 2, 1], .keepO [2008]] (ps := [(True)]) (e := .normal) (σ' := ⟨[2008], [(23, vb (decide (v7 < ((List.length x2 : Nat) : Int)))), (7, vi v7), (6, vo 2008 (List.length o8)), (5, vb false), (4, V.t (T.nils)), (2, V.t (T.ptr [tl x0, ti x1])), (1, vl x2)], [(2008, oc 3 (List.map (T.int .i64) o8))]⟩) (by kernel_rfl) ⟨trivial, trivial⟩ ?_
          rcases ite_some h with ⟨h3, h⟩ | ⟨h3, h⟩
          · -- yes
            refine WP.cond (b := decide (v7 < ((List.length x2 : Nat) : Int))) rfl (fun _ => ?_) (fun hh => by rw [h3] at hh; cases hh)
            refine WP.path tab_ok mixed [] [.keep [7, 6, 5, 4, 2, 1], .keepO [2008]] (ps := []) (e := .normal) (σ' := ⟨[2008], [(7, vi v7), (6, vo 2008 (List.length o8)), (5, vb false), (4, V.t (T.nils)), (2, V.t (T.ptr [tl x0, ti x1])), (1, vl x2)], [(2008, oc 3 (List.map (T.int .i64) o8))]⟩) (by kernel_rfl) trivial ?_
            refine WP.seq ?_
            refine WP.block ?_
            refine WP.seq ?_
            obtain ⟨c0, h⟩ := chk_some h
            obtain ⟨c1, h⟩ := chk_some h
            obtain ⟨c2, h⟩ := chk_some h
            obtain ⟨c3, h⟩ := chk_some h
            obtain ⟨c4, h⟩ := chk_some h
            obtain ⟨r36, c5, h⟩ := bnd1_some h
            refine WP.path tab_ok mixed [(29, An.v (tl (List.take (Int.toNat v7 - Int.toNat (0 : Int)) (List.drop (Int.toNat (0 : Int)) x2)))), (30, An.callG [(9000, 10300)] [vl (List.take (Int.toNat v7 - Int.toNat (0 : Int)) (List.drop (Int.toNat (0 : Int)) x2))] [] (vo 9000 (List.length (List.take (Int.toNat v7 - Int.toNat (0 : Int)) (List.drop (Int.toNat (0 : Int)) x2)))) [(9000, oc 3 (List.map (T.int .i64) (List.take (Int.toNat v7 - Int.toNat (0 : Int)) (List.drop (Int.toNat (0 : Int)) x2))))]), (33, An.v (T.int .i64 (v7 + (1 : Int)))), (34, An.v (tl (List.take (Int.toNat ((List.length x2 : Nat) : Int) - Int.toNat (v7 + (1 : Int))) (List.drop (Int.toNat (v7 + (1 : Int))) x2)))), (35, An.id 2035), (36, An.callW [T.agg [tl x0, ti x1], tl ((List.take (Int.toNat v7 - Int.toNat (0 : Int)) (List.drop (Int.toNat (0 : Int)) x2)) ++ (List.take (Int.toNat ((List.length x2 : Nat) : Int) - Int.toNat (v7 + (1 : Int))) (List.drop (Int.toNat (v7 + (1 : Int))) x2)))] (tb r36))] [.keep [36, 7, 6, 5, 4, 2, 1], .keepO [2008]] (ps := [(2 ≤ 2), ((0 ≤ (0 : Int) ∧ (0 : Int) ≤ v7 ∧ v7 ≤ ((List.length x2 : Nat) : Int))), (T.list ((Int.toNat v7) - 0) 1 (List.take (((Int.toNat v7) - 0) * 1) (List.map (T.int .i64) x2)) = tl (List.take (Int.toNat v7 - Int.toNat (0 : Int)) (List.drop (Int.toNat (0 : Int)) x2))), (CG Try.prog 51 [vl (List.take (Int.toNat v7 - Int.toNat (0 : Int)) (List.drop (Int.toNat (0 : Int)) x2))] [] (vo 9000 (List.length (List.take (Int.toNat v7 - Int.toNat (0 : Int)) (List.drop (Int.toNat (0 : Int)) x2)))) [(9000, oc 3 (List.map (T.int .i64) (List.take (Int.toNat v7 - Int.toNat (0 : Int)) (List.drop (Int.toNat (0 : Int)) x2))))]), (WkT (tl (List.take (Int.toNat v7 - Int.toNat (0 : Int)) (List.drop (Int.toNat (0 : Int)) x2))) (tl (List.take (Int.toNat v7 - Int.toNat (0 : Int)) (List.drop (Int.toNat (0 : Int)) x2)))), (True), (T.int .i64 (IntKind.wrap .i64 (v7 + (1 : Int))) = T.int .i64 (v7 + (1 : Int))), ((0 ≤ (v7 + (1 : Int)) ∧ (v7 + (1 : Int)) ≤ ((List.length x2 : Nat) : Int) ∧ ((List.length x2 : Nat) : Int) ≤ ((List.length x2 : Nat) : Int))), (T.list ((Int.toNat ((List.length x2 : Nat) : Int)) - (Int.toNat (v7 + (1 : Int)))) 1 (List.take (((Int.toNat ((List.length x2 : Nat) : Int)) - (Int.toNat (v7 + (1 : Int)))) * 1) (List.drop ((Int.toNat (v7 + (1 : Int))) * 1) (List.map (T.int .i64) x2))) = tl (List.take (Int.toNat ((List.length x2 : Nat) : Int) - Int.toNat (v7 + (1 : Int))) (List.drop (Int.toNat (v7 + (1 : Int))) x2))), (True), (List.length (List.map (T.int .i64) (List.take (Int.toNat v7 - Int.toNat (0 : Int)) (List.drop (Int.toNat (0 : Int)) x2))) = (List.length (List.take (Int.toNat v7 - Int.toNat (0 : Int)) (List.drop (Int.toNat (0 : Int)) x2))) * 1), ((((List.length (List.take (Int.toNat v7 - Int.toNat (0 : Int)) (List.drop (Int.toNat (0 : Int)) x2))) + (List.length (List.take (Int.toNat ((List.length x2 : Nat) : Int) - Int.toNat (v7 + (1 : Int))) (List.drop (Int.toNat (v7 + (1 : Int))) x2)))) * 8 ≤ 140737488355328 ∧ (List.length (List.take (Int.toNat v7 - Int.toNat (0 : Int)) (List.drop (Int.toNat (0 : Int)) x2))) + (List.length (List.take (Int.toNat ((List.length x2 : Nat) : Int) - Int.toNat (v7 + (1 : Int))) (List.drop (Int.toNat (v7 + (1 : Int))) x2))) ≤ maxLen)), (C Try.prog 48 [T.agg [tl x0, ti x1], tl ((List.take (Int.toNat v7 - Int.toNat (0 : Int)) (List.drop (Int.toNat (0 : Int)) x2)) ++ (List.take (Int.toNat ((List.length x2 : Nat) : Int) - Int.toNat (v7 + (1 : Int))) (List.drop (Int.toNat (v7 + (1 : Int))) x2)))] (tb r36)), (WkL [T.agg [tl x0, ti x1], T.list ((List.length (List.take (Int.toNat v7 - Int.toNat (0 : Int)) (List.drop (Int.toNat (0 : Int)) x2))) + (List.length (List.take (Int.toNat ((List.length x2 : Nat) : Int) - Int.toNat (v7 + (1 : Int))) (List.drop (Int.toNat (v7 + (1 : Int))) x2)))) 1 ((List.map (T.int .i64) (List.take (Int.toNat v7 - Int.toNat (0 : Int)) (List.drop (Int.toNat (0 : Int)) x2))) ++ (List.map (T.int .i64) (List.take (Int.toNat ((List.length x2 : Nat) : Int) - Int.toNat (v7 + (1 : Int))) (List.drop (Int.toNat (v7 + (1 : Int))) x2))))] [T.agg [tl x0, ti x1], tl ((List.take (Int.toNat v7 - Int.toNat (0 : Int)) (List.drop (Int.toNat (0 : Int)) x2)) ++ (List.take (Int.toNat ((List.length x2 : Nat) : Int) - Int.toNat (v7 + (1 : Int))) (List.drop (Int.toNat (v7 + (1 : Int))) x2)))]), (List.length ((List.map (T.int .i64) (List.take (Int.toNat v7 - Int.toNat (0 : Int)) (List.drop (Int.toNat (0 : Int)) x2))) ++ (List.map (T.int .i64) (List.take (Int.toNat ((List.length x2 : Nat) : Int) - Int.toNat (v7 + (1 : Int))) (List.drop (Int.toNat (v7 + (1 : Int))) x2)))) = ((List.length (List.take (Int.toNat v7 - Int.toNat (0 : Int)) (List.drop (Int.toNat (0 : Int)) x2))) + (List.length (List.take (Int.toNat ((List.length x2 : Nat) : Int) - Int.toNat (v7 + (1 : Int))) (List.drop (Int.toNat (v7 + (1 : Int))) x2)))) * 1)]) (e := .normal) (σ' := ⟨[2035, 10300, 2008], [(36, vb r36), (7, vi v7), (6, vo 2008 (List.length o8)), (5, vb false), (4, V.t (T.nils)), (2, V.t (T.ptr [tl x0, ti x1])), (1, vl x2)], [(2008, oc 3 (List.map (T.int .i64) o8))]⟩) (by kernel_rfl) ⟨by decide, c0, sl1z (l := (0 : Int)) (h := v7) c0 (by first | rfl | (simp; done) | omega) (by first | rfl | omega | (simp; done)) (by first | rfl | omega | (simp; done)), (l1Own_C_G (List.take (Int.toNat v7 - Int.toNat (0 : Int)) (List.drop (Int.toNat (0 : Int)) x2)) c1), WkT.refl _, trivial, wrapI c2, c3, sl1 (l := (v7 + (1 : Int))) (h := ((List.length x2 : Nat) : Int)) c3 (by first | rfl | (simp; done) | omega) (by first | rfl | omega | (simp; done)) (by first | rfl | omega | (simp; done)), trivial, by first | rfl | omega | (simp only [tlL] <;> omega) | (simp <;> omega) | (simp [] <;> omega), c4, (F_spec_l8Tell_W x0 x1 ((List.take (Int.toNat v7 - Int.toNat (0 : Int)) (List.drop (Int.toNat (0 : Int)) x2)) ++ (List.take (Int.toNat ((List.length x2 : Nat) : Int) - Int.toNat (v7 + (1 : Int))) (List.drop (Int.toNat (v7 + (1 : Int))) x2))) r36 c5), (WkL.cons (WkT.refl _) (WkL.cons (WkT.eq (WkT.refl _) (by first | rfl | (simp only [tlS, tl, vl, vo, oc, ov, tbl, vbl, ty, vy] <;> rfl) | (simp <;> omega) | (simp []; done) | (rw [List.take_of_length_le (by simp [])] <;> rfl) | (simp [List.take_of_length_le]; done))) WkL.nil)), by first | rfl | omega | (simp only [tlL] <;> omega) | (simp <;> omega) | (simp [] <;> omega), trivial⟩ ?_
            rcases ite_some h with ⟨h4, h⟩ | ⟨h4, h⟩
            · -- yes
              refine WP.cond (b := r36) rfl (fun _ => ?_) (fun hh => by rw [h4] at hh; cases hh)
              obtain ⟨c6, h⟩ := chk_some h
              refine WP.path tab_ok mixed [(39, An.fz), (40, An.id 2040)] [.keep [6, 7, 5, 4, 2, 1], .keepO [2040]] (ps := [((1 = 1 ∧ 0 + 1 ≤ 1) ∧ True), (1 = 1 * 1), (True), (List.length (List.map (T.int .i64) o8) = (List.length o8) * 1), ((((List.length o8) + 1) * 8 ≤ 140737488355328 ∧ (List.length o8) + 1 ≤ maxLen))]) (e := .normal) (σ' := ⟨[2040, 2035, 10300, 2008], [(6, vo 2040 ((List.length o8) + 1)), (7, vi v7), (5, vb false), (4, V.t (T.nils)), (2, V.t (T.ptr [tl x0, ti x1])), (1, vl x2)], [(2040, oc 3 ((List.map (T.int .i64) o8) ++ [ti v7]))]⟩) (by kernel_rfl) ⟨⟨⟨by first | rfl | (simp; done) | (simp []; done) | omega, by first | decide | (simp; done) | (simp []; done) | omega | (simp only [tlL]; omega) | (simp; omega)⟩, trivial⟩, by decide, trivial, by first | rfl | omega | (simp only [tlL] <;> omega) | (simp <;> omega) | (simp [] <;> omega), c6, trivial⟩ ?_
              refine WP.path tab_ok mixed [(25, An.v (T.int .i64 (v7 + (1 : Int))))] [.keep [7, 6, 5, 4, 2, 1], .keepO [2040], .names [(2040, 2008)]] (ps := [(True), (T.int .i64 (IntKind.wrap .i64 (v7 + (1 : Int))) = T.int .i64 (v7 + (1 : Int)))]) (e := .normal) (σ' := ⟨[2008], [(7, vi (v7 + (1 : Int))), (6, vo 2008 ((List.length o8) + 1)), (5, vb false), (4, V.t (T.nils)), (2, V.t (T.ptr [tl x0, ti x1])), (1, vl x2)], [(2008, oc 3 ((List.map (T.int .i64) o8) ++ [ti v7]))]⟩) (by kernel_rfl) ⟨trivial, wrapI c2, trivial⟩ ?_
              exact ⟨(n, o8 ++ [v7], (v7 + (1 : Int))), h, Nat.lt_succ_self _, (by first | rfl | (simp only [tlS, tl, vl, vo, oc, ov, tbl, vbl, ty, vy] <;> rfl) | (simp <;> omega) | (simp []; done) | (rw [List.take_of_length_le (by simp [])] <;> rfl) | (simp [List.take_of_length_le]; done))⟩
            · -- no
              refine WP.cond (b := r36) rfl (fun hh => by rw [h4] at hh; cases hh) (fun _ => ?_)
              refine WP.path tab_ok mixed [] [.keep [7, 6, 5, 4, 2, 1], .keepO [2008]] (ps := []) (e := .normal) (σ' := ⟨[2035, 10300, 2008], [(7, vi v7), (6, vo 2008 (List.length o8)), (5, vb false), (4, V.t (T.nils)), (2, V.t (T.ptr [tl x0, ti x1])), (1, vl x2)], [(2008, oc 3 (List.map (T.int .i64) o8))]⟩) (by kernel_rfl) trivial ?_
              refine WP.path tab_ok mixed [(25, An.v (T.int .i64 (v7 + (1 : Int))))] [.keep [7, 6, 5, 4, 2, 1], .keepO [2008], .names [(2008, 2008)]] (ps := [(True), (T.int .i64 (IntKind.wrap .i64 (v7 + (1 : Int))) = T.int .i64 (v7 + (1 : Int)))]) (e := .normal) (σ' := ⟨[2008], [(7, vi (v7 + (1 : Int))), (6, vo 2008 (List.length o8)), (5, vb false), (4, V.t (T.nils)), (2, V.t (T.ptr [tl x0, ti x1])), (1, vl x2)], [(2008, oc 3 (List.map (T.int .i64) o8))]⟩) (by kernel_rfl) ⟨trivial, wrapI c2, trivial⟩ ?_
              exact ⟨(n, o8, (v7 + (1 : Int))), h, Nat.lt_succ_self _, rfl⟩
          · -- no
            refine WP.cond (b := decide (v7 < ((List.length x2 : Nat) : Int))) rfl (fun hh => by rw [h3] at hh; cases hh) (fun _ => ?_)
            refine WP.path tab_ok mixed [] [.keep [6, 5, 4], .keepO [2008], .names [(2008, 2008)]] (ps := []) (e := (.exit 0)) (σ' := ⟨[2008], [(6, vo 2008 (List.length o8)), (5, vb false), (4, V.t (T.nils))], [(2008, oc 3 (List.map (T.int .i64) o8))]⟩) (by kernel_rfl) trivial ?_
            exact ⟨(o8), h, rfl⟩
      · -- from there
        intro o8 h0
        have h := (show J1 o8 = some (y0, y1) from h0)
        rw [hJ1] at h
        simp only [Option.some.injEq, Prod.mk.injEq] at h
        obtain ⟨rfl, rfl⟩ := h
        exact WP.pathG tab_ok mixed [] [.keep [4, 5], .keepO [2008], .names [(2008, 9000)]] [9000] _ (r' := V.tup [vo 9000 (List.length o8), vb true]) (ps := []) (r := V.tup [vo 9000 (List.length o8), vb true]) (N := [9000]) (O := [(9000, oc 3 (List.map (T.int .i64) o8))]) [] (by kernel_rfl) trivial ⟨rfl, (WkT.refl _), trivial⟩ rfl rfl (fun _ h => h)
theorem F_spec_NeedlessQuestions_W_C (x0 : List Int) (x1 : Int) (x2 : List Int) (y0 : List Int) (y1 : Bool) (h : F_spec_NeedlessQuestions x0 x1 x2 = some (y0, y1)) : C Try.prog 21 [T.agg [tl x0, ti x1], tl x2] (T.tup [tl y0, tb y1]) :=
  CG.toC (ps := [(List.length (List.map (T.int .i64) y0) = (List.length y0) * 1)]) (F_spec_NeedlessQuestions_W  x0 x1 x2 y0 y1 h) (by rfl) ⟨by first | rfl | omega | (simp <;> omega) | (simp [hl] <;> omega), trivial⟩
theorem F_laws_rInts_W (x0 : List Int) (x1 : List Int) (y0 : Bool) (h : F_laws_rInts x0 x1 = some y0) : C Try.prog 22 [tl x0, tl x1] (tb y0) := by
  unfold F_laws_rInts at h
  refine C.intro (tab := tab) tab_ok (fn := Try.f22) Try.func22 (by kernel_rfl) rfl (Nat.le_of_ble_eq_true rfl) ?_
  refine WP.seq ?_
  refine WP.path tab_ok mixed [] [.keep [4, 0, 1], .keepO []] (ps := []) (e := .normal) (σ' := ⟨[], [(4, vb false), (0, vl x0), (1, vl x1)], []⟩) (by kernel_rfl) trivial ?_
  refine WP.seq ?_
  refine WP.seq ?_
  refine WP.path tab_ok mixed [] [.keep [10, 4, 0, 1], .keepO []] (ps := [(True)]) (e := .normal) (σ' := ⟨[], [(10, vb (((List.length x0 : Nat) : Int) != ((List.length x1 : Nat) : Int))), (4, vb false), (0, vl x0), (1, vl x1)], []⟩) (by kernel_rfl) ⟨trivial, trivial⟩ ?_
  rcases ite_some h with ⟨h1, h⟩ | ⟨h1, h⟩
  · -- yes
    refine WP.cond (b := ((List.length x0 : Nat) : Int) != ((List.length x1 : Nat) : Int)) rfl (fun _ => ?_) (fun hh => by rw [h1] at hh; cases hh)
    have h := Option.some.inj h
    subst h
    exact WP.pathW tab_ok mixed [] _ (ps := []) (r := tb false) (by kernel_rfl) trivial (WkT.eq (y := tb false) (WkT.refl _) rfl) (fun _ h => h)
  · -- no
    refine WP.cond (b := ((List.length x0 : Nat) : Int) != ((List.length x1 : Nat) : Int)) rfl (fun hh => by rw [h1] at hh; cases hh) (fun _ => ?_)
    refine WP.path tab_ok mixed [] [.keep [4, 0, 1], .keepO []] (ps := []) (e := .normal) (σ' := ⟨[], [(4, vb false), (0, vl x0), (1, vl x1)], []⟩) (by kernel_rfl) trivial ?_
    obtain ⟨J1, hJ1, h⟩ := jn_some h
    refine WP.joinA (fun (zz : Unit) => ⟨[], [(4, vb false)], []⟩) (fun zz => J1 () = some y0) ?_ ?_
    · -- to where they meet
      refine WP.seq ?_
      refine WP.path tab_ok mixed [] [.keep [5, 4, 0, 1], .keepO []] (ps := []) (e := .normal) (σ' := ⟨[], [(5, vi 0), (4, vb false), (0, vl x0), (1, vl x1)], []⟩) (by kernel_rfl) trivial ?_
      refine WP.block ?_
      refine WP.wk [.keep [5, 4, 0, 1], .keepO [], .names []] (σ' := ⟨[], [(5, vi 0), (4, vb false), (0, vl x0), (1, vl x1)], []⟩) (ps := []) (by kernel_rfl) trivial ?_
      refine WP.st (σ' := ⟨[], [(5, vi (0 : Int)), (4, vb false), (0, vl x0), (1, vl x1)], []⟩) (by first | rfl | (simp only [tlS, tl, vl, vo, oc, ov, tbl, vbl, ty, vy] <;> rfl) | (simp <;> omega) | (simp []; done) | (rw [List.take_of_length_le (by simp [])] <;> rfl) | (simp [List.take_of_length_le]; done)) ?_
      refine WP.loop (α := Nat × Int) (fun zz => ⟨[], [(5, vi zz.2), (4, vb false), (0, vl x0), (1, vl x1)], []⟩) (fun zz => F_laws_rInts_L1 x0 x1 J1 zz.1 zz.2 = some y0) (fun zz => zz.1) (fuel, (0 : Int)) h ?_
      rintro ⟨n, v5⟩ h0
      have h := (show F_laws_rInts_L1 x0 x1 J1 n v5 = some y0 from h0)
      rcases n with _ | n
      · rw [F_laws_rInts_L1] at h; cases h
      · rw [F_laws_rInts_L1] at h
        refine WP.seq ?_
        refine WP.seq ?_
        refine WP.path tab_ok mixed [] [.keep [14, 5, 4, 0, 1], .keepO []] (ps := [(True)]) (e := .normal) (σ' := ⟨[], [(14, vb (decide (v5 < ((List.length x0 : Nat) : Int)))), (5, vi v5), (4, vb false), (0, vl x0), (1, vl x1)], []⟩) (by kernel_rfl) ⟨trivial, trivial⟩ ?_
        rcases ite_some h with ⟨h2, h⟩ | ⟨h2, h⟩
        · -- yes
          refine WP.cond (b := decide (v5 < ((List.length x0 : Nat) : Int))) rfl (fun _ => ?_) (fun hh => by rw [h2] at hh; cases hh)
          refine WP.path tab_ok mixed [] [.keep [5, 4, 0, 1], .keepO []] (ps := []) (e := .normal) (σ' := ⟨[], [(5, vi v5), (4, vb false), (0, vl x0), (1, vl x1)], []⟩) (by kernel_rfl) trivial ?_
          refine WP.seq ?_
          refine WP.block ?_
          refine WP.seq ?_
          obtain ⟨c0, h⟩ := chk_some h
          obtain ⟨c1, h⟩ := chk_some h
          refine WP.path tab_ok mixed [(20, An.v (ti (List.getD x0 (Int.toNat v5) 0))), (24, An.v (ti (List.getD x1 (Int.toNat v5) 0)))] [.keep [25, 5, 4, 0, 1], .keepO []] (ps := [((0 ≤ v5 ∧ v5 < ((List.length x0 : Nat) : Int))), ((List.drop ((Int.toNat v5) * 1) (List.map (T.int .i64) x0) : List T)[0]? = some (ti (List.getD x0 (Int.toNat v5) 0))), (ti (List.getD x0 (Int.toNat v5) 0) = ti (List.getD x0 (Int.toNat v5) 0)), ((0 ≤ v5 ∧ v5 < ((List.length x1 : Nat) : Int))), ((List.drop ((Int.toNat v5) * 1) (List.map (T.int .i64) x1) : List T)[0]? = some (ti (List.getD x1 (Int.toNat v5) 0))), (ti (List.getD x1 (Int.toNat v5) 0) = ti (List.getD x1 (Int.toNat v5) 0)), (True)]) (e := .normal) (σ' := ⟨[], [(25, vb ((List.getD x0 (Int.toNat v5) 0) != (List.getD x1 (Int.toNat v5) 0))), (5, vi v5), (4, vb false), (0, vl x0), (1, vl x1)], []⟩) (by kernel_rfl) ⟨c0, at1 (by simp) (by omega), rfl, c1, at1 (by simp) (by omega), rfl, trivial, trivial⟩ ?_
          rcases ite_some h with ⟨h3, h⟩ | ⟨h3, h⟩
          · -- yes
            refine WP.cond (b := (List.getD x0 (Int.toNat v5) 0) != (List.getD x1 (Int.toNat v5) 0)) rfl (fun _ => ?_) (fun hh => by rw [h3] at hh; cases hh)
            have h := Option.some.inj h
            subst h
            exact WP.pathW tab_ok mixed [] _ (ps := []) (r := tb false) (by kernel_rfl) trivial (WkT.eq (y := tb false) (WkT.refl _) rfl) (fun _ h => h)
          · -- no
            refine WP.cond (b := (List.getD x0 (Int.toNat v5) 0) != (List.getD x1 (Int.toNat v5) 0)) rfl (fun hh => by rw [h3] at hh; cases hh) (fun _ => ?_)
            refine WP.path tab_ok mixed [] [.keep [5, 4, 0, 1], .keepO []] (ps := []) (e := .normal) (σ' := ⟨[], [(5, vi v5), (4, vb false), (0, vl x0), (1, vl x1)], []⟩) (by kernel_rfl) trivial ?_
            obtain ⟨c2, h⟩ := chk_some h
            refine WP.path tab_ok mixed [(16, An.v (T.int .i64 (v5 + (1 : Int))))] [.keep [5, 4, 0, 1], .keepO [], .names []] (ps := [(True), (T.int .i64 (IntKind.wrap .i64 (v5 + (1 : Int))) = T.int .i64 (v5 + (1 : Int)))]) (e := .normal) (σ' := ⟨[], [(5, vi (v5 + (1 : Int))), (4, vb false), (0, vl x0), (1, vl x1)], []⟩) (by kernel_rfl) ⟨trivial, wrapI c2, trivial⟩ ?_
            exact ⟨(n, (v5 + (1 : Int))), h, Nat.lt_succ_self _, rfl⟩
        · -- no
          refine WP.cond (b := decide (v5 < ((List.length x0 : Nat) : Int))) rfl (fun hh => by rw [h2] at hh; cases hh) (fun _ => ?_)
          refine WP.path tab_ok mixed [] [.keep [4], .keepO [], .names []] (ps := []) (e := (.exit 0)) (σ' := ⟨[], [(4, vb false)], []⟩) (by kernel_rfl) trivial ?_
          exact ⟨(), h, rfl⟩
    · -- from there
      intro _ h0
      have h := (show J1 () = some y0 from h0)
      rw [hJ1] at h
      have h := Option.some.inj h
      subst h
      exact WP.pathW tab_ok mixed [] _ (ps := []) (r := tb true) (by kernel_rfl) trivial (WkT.eq (y := tb true) (WkT.refl _) rfl) (fun _ h => h)
theorem F_impl_AnswerList_W (x0 : List Int) (x1 : Int) (x2 : List Int) (x3 : List Bool) (y0 : List Int) (y1 : Int) (y2 : Bool) (h : F_impl_AnswerList x0 x1 x2 x3 = some (y0, y1, y2)) : CG Try.prog 23 [V.t (T.agg [tl x0, ti x1]), vl x2, vbl x3] [] (V.tup [V.agg [vo 9000 (List.length y0), vi y1], vb y2]) [(9000, oc 3 (List.map (T.int .i64) y0))] := by
  unfold F_impl_AnswerList at h
  refine CG.intro (tab := tab) tab_ok (fn := Try.f23) Try.func23 (by kernel_rfl) rfl (Nat.le_of_ble_eq_true rfl) (by kernel_rfl) ?_
  refine WP.seq ?_
  refine WP.path tab_ok mixed [(3, An.fz), (6, An.id 2006)] [.keep [7, 6, 3, 1, 2], .keepO [2006]] (ps := []) (e := .normal) (σ' := ⟨[2006], [(7, vb false), (6, V.ref 2006 0), (3, V.t (T.ptr [tl x0, ti x1])), (1, vl x2), (2, vbl x3)], [(2006, oc 26 [T.nils, ti 0])]⟩) (by kernel_rfl) trivial ?_
  refine WP.seq ?_
  obtain ⟨J1, hJ1, h⟩ := jn_some h
  refine WP.joinA (fun (zz : Bool) => ⟨[2006], [(18, vb zz), (7, vb false), (6, V.ref 2006 0), (3, V.t (T.ptr [tl x0, ti x1])), (1, vl x2), (2, vbl x3)], [(2006, oc 26 [T.nils, ti 0])]⟩) (fun zz => J1 zz = some (y0, y1, y2)) ?_ ?_
  · -- to where they meet
    obtain ⟨r10, c0, h⟩ := bnd1_some h
    rcases ite_some h with ⟨h1, h⟩ | ⟨h1, h⟩
    · -- yes
      refine WP.path tab_ok mixed [(10, An.call (tb r10)), (12, An.b true)] [.keep [18, 7, 6, 3, 1, 2], .keepO [2006], .names [(2006, 2006)]] (ps := [(2 ≤ 2), (C Try.prog 40 [T.agg [tl x0, ti x1], tl x2] (tb r10)), ((!r10) = true)]) (e := .normal) (σ' := ⟨[2006], [(18, vb true), (7, vb false), (6, V.ref 2006 0), (3, V.t (T.ptr [tl x0, ti x1])), (1, vl x2), (2, vbl x3)], [(2006, oc 26 [T.nils, ti 0])]⟩) (by kernel_rfl) ⟨by decide, (F_impl_areListed_W x0 x1 x2 r10 c0), h1, trivial⟩ ?_
      exact ⟨(true), h, rfl⟩
    · -- no
      refine WP.path tab_ok mixed [(10, An.call (tb r10)), (12, An.b false)] [.keep [18, 7, 6, 3, 1, 2], .keepO [2006], .names [(2006, 2006)]] (ps := [(2 ≤ 2), (C Try.prog 40 [T.agg [tl x0, ti x1], tl x2] (tb r10)), ((!r10) = false), (True)]) (e := .normal) (σ' := ⟨[2006], [(18, vb (((List.length x3 : Nat) : Int) != ((List.length x2 : Nat) : Int))), (7, vb false), (6, V.ref 2006 0), (3, V.t (T.ptr [tl x0, ti x1])), (1, vl x2), (2, vbl x3)], [(2006, oc 26 [T.nils, ti 0])]⟩) (by kernel_rfl) ⟨by decide, (F_impl_areListed_W x0 x1 x2 r10 c0), h1, trivial, trivial⟩ ?_
      exact ⟨(((List.length x3 : Nat) : Int) != ((List.length x2 : Nat) : Int)), h, rfl⟩
  · -- from there
    intro v18 h0
    have h := (show J1 v18 = some (y0, y1, y2) from h0)
    rw [hJ1] at h
    rcases ite_some h with ⟨h2, h⟩ | ⟨h2, h⟩
    · -- yes
      refine WP.cond (b := v18) rfl (fun _ => ?_) (fun hh => by rw [h2] at hh; cases hh)
      simp only [Option.some.injEq, Prod.mk.injEq] at h
      obtain ⟨rfl, rfl, rfl⟩ := h
      exact WP.pathG tab_ok mixed [] [.keep [6, 7], .keepO [2006], .names [(2006, 2006)]] [] _ (r' := V.tup [V.agg [vo 9000 (List.length ([] : List Int)), vi (0 : Int)], vb false]) (ps := [(True), ((0 + 2 ≤ 2 ∧ 2 = 2)), (0 + 2 ≤ 2)]) (r := V.t (T.tup [T.agg [T.nils, ti 0], tb false])) (N := [2006]) (O := []) [(9000, 3)] (by kernel_rfl) ⟨trivial, by decide, by first | decide | omega | (simp only [tlL] <;> omega) | (simp <;> omega) | (simp [] <;> omega), trivial⟩ ⟨(by first | rfl | (simp; done)), (WkT.eq (WkT.refl _) (by first | rfl | (simp only [tlS, tl, vl, vo, oc, ov, tbl, vbl, ty, vy] <;> rfl) | (simp <;> omega) | (simp []; done) | (rw [List.take_of_length_le (by simp [])] <;> rfl) | (simp [List.take_of_length_le]; done))), (WkT.refl _), trivial⟩ rfl rfl (fun _ h => h)
    · -- no
      refine WP.cond (b := v18) rfl (fun hh => by rw [h2] at hh; cases hh) (fun _ => ?_)
      refine WP.path tab_ok mixed [] [.keep [7, 6, 3, 1, 2], .keepO [2006]] (ps := []) (e := .normal) (σ' := ⟨[2006], [(7, vb false), (6, V.ref 2006 0), (3, V.t (T.ptr [tl x0, ti x1])), (1, vl x2), (2, vbl x3)], [(2006, oc 26 [T.nils, ti 0])]⟩) (by kernel_rfl) trivial ?_
      obtain ⟨c0, h⟩ := chk_some h
      obtain ⟨r24, r24b, c1, h⟩ := bnd2_some h
      obtain ⟨c2, h⟩ := chk_some h
      simp only [Option.some.injEq, Prod.mk.injEq] at h
      obtain ⟨rfl, rfl, rfl⟩ := h
      exact WP.pathG tab_ok mixed [(23, An.call (tbl x3)), (24, An.call (T.agg [tl r24, ti r24b])), (25, An.callG [(9000, 10250)] [V.t (T.agg [tl r24, ti r24b]), V.t (T.fn 55 [] [])] [] (V.agg [vo 9000 (List.length (afterN r24b (fun (x : Nat) => false) r24)), vi r24b]) [(9000, oc 3 (List.map (T.int .i64) (afterN r24b (fun (x : Nat) => false) r24)))])] [.keep [6, 7], .keepO [10250, 2006], .names [(10250, 9000), (2006, 2006)]] [9000] _ (r' := V.tup [V.agg [vo 9000 (List.length (afterN r24b (fun (x : Nat) => false) r24)), vi r24b], vb true]) (ps := [(2 ≤ 2), (C Try.prog 53 [tbl x3] (tbl x3)), (C Try.prog 52 [T.agg [tl x0, ti x1], tl x2, tbl x3] (T.agg [tl r24, ti r24b])), (CG Try.prog 54 [V.t (T.agg [tl r24, ti r24b]), V.t (T.fn 55 [] [])] [] (V.agg [vo 9000 (List.length (afterN r24b (fun (x : Nat) => false) r24)), vi r24b]) [(9000, oc 3 (List.map (T.int .i64) (afterN r24b (fun (x : Nat) => false) r24)))]), (WkT (T.agg [tl r24, ti r24b]) (T.agg [tl r24, ti r24b])), (WkT (T.fn 55 [] []) (T.fn 55 [] [])), ((0 + 2 ≤ 2 ∧ 2 = 2)), (0 + 2 ≤ 2)]) (r := V.tup [V.agg [vo 9000 (List.length (afterN r24b (fun (x : Nat) => false) r24)), vi r24b], vb true]) (N := [9000, 2006]) (O := [(9000, oc 3 (List.map (T.int .i64) (afterN r24b (fun (x : Nat) => false) r24)))]) [] (by kernel_rfl) ⟨by decide, (cloneB_C x3 c0), (F_impl_State_told_W_C x0 x1 x2 x3 r24 r24b c1), (after_C_G r24 r24b 55 [] [] (fun (x : Nat) => false) (fun x => (answerList1_C (x : Int))) c2), WkT.refl _, WkT.refl _, by decide, by decide, trivial⟩ ⟨rfl, (WkT.refl _), (WkT.refl _), trivial⟩ rfl rfl (fun _ h => h)
theorem F_impl_AnswerList_W_C (x0 : List Int) (x1 : Int) (x2 : List Int) (x3 : List Bool) (y0 : List Int) (y1 : Int) (y2 : Bool) (h : F_impl_AnswerList x0 x1 x2 x3 = some (y0, y1, y2)) : C Try.prog 23 [T.agg [tl x0, ti x1], tl x2, tbl x3] (T.tup [T.agg [tl y0, ti y1], tb y2]) :=
  CG.toC (ps := [(List.length (List.map (T.int .i64) y0) = (List.length y0) * 1)]) (F_impl_AnswerList_W  x0 x1 x2 x3 y0 y1 y2 h) (by rfl) ⟨by first | rfl | omega | (simp <;> omega) | (simp [hl] <;> omega), trivial⟩
theorem F_impl_OpenNumbers_W (x0 : List Int) (x1 : Int) (y0 : List Int) (y1 : Bool) (h : F_impl_OpenNumbers x0 x1 = some (y0, y1)) : CG Try.prog 24 [V.t (T.agg [tl x0, ti x1])] [] (V.tup [vo 9000 (List.length y0), vb y1]) [(9000, oc 3 (List.map (T.int .i64) y0))] := by
  unfold F_impl_OpenNumbers at h
  refine CG.intro (tab := tab) tab_ok (fn := Try.f24) Try.func24 (by kernel_rfl) rfl (Nat.le_of_ble_eq_true rfl) (by kernel_rfl) ?_
  refine WP.seq ?_
  refine WP.path tab_ok mixed [(1, An.fz)] [.keep [3, 2, 1], .keepO []] (ps := []) (e := .normal) (σ' := ⟨[], [(3, vb false), (2, V.t (T.nils)), (1, V.t (T.ptr [tl x0, ti x1]))], []⟩) (by kernel_rfl) trivial ?_
  refine WP.seq ?_
  refine WP.seq ?_
  obtain ⟨c0, h⟩ := chk_some h
  refine WP.path tab_ok mixed [(5, An.call (tb (isStateN x0 x1)))] [.keep [6, 3, 2, 1], .keepO []] (ps := [(2 ≤ 2), (C Try.prog 56 [T.agg [tl x0, ti x1]] (tb (isStateN x0 x1)))]) (e := .normal) (σ' := ⟨[], [(6, vb (!(isStateN x0 x1))), (3, vb false), (2, V.t (T.nils)), (1, V.t (T.ptr [tl x0, ti x1]))], []⟩) (by kernel_rfl) ⟨by decide, (isState_C x0 x1 c0), trivial⟩ ?_
  rcases ite_some h with ⟨h1, h⟩ | ⟨h1, h⟩
  · -- yes
    refine WP.cond (b := !(isStateN x0 x1)) rfl (fun _ => ?_) (fun hh => by rw [h1] at hh; cases hh)
    simp only [Option.some.injEq, Prod.mk.injEq] at h
    obtain ⟨rfl, rfl⟩ := h
    exact WP.pathG tab_ok mixed [] [.keep [2, 3], .keepO [], .names []] [] _ (r' := V.tup [vo 9000 (List.length ([] : List Int)), vb false]) (ps := []) (r := V.t (T.tup [T.nils, tb false])) (N := []) (O := []) [(9000, 3)] (by kernel_rfl) trivial ⟨(by first | rfl | (simp; done)), (WkT.refl _), trivial⟩ rfl rfl (fun _ h => h)
  · -- no
    refine WP.cond (b := !(isStateN x0 x1)) rfl (fun hh => by rw [h1] at hh; cases hh) (fun _ => ?_)
    refine WP.path tab_ok mixed [] [.keep [3, 2, 1], .keepO []] (ps := []) (e := .normal) (σ' := ⟨[], [(3, vb false), (2, V.t (T.nils)), (1, V.t (T.ptr [tl x0, ti x1]))], []⟩) (by kernel_rfl) trivial ?_
    obtain ⟨c1, h⟩ := chk_some h
    simp only [Option.some.injEq, Prod.mk.injEq] at h
    obtain ⟨rfl, rfl⟩ := h
    exact WP.pathG tab_ok mixed [(8, An.callG [(9000, 10080)] [V.t (T.agg [tl x0, ti x1])] [] (vo 9000 (List.length (openN x0))) [(9000, oc 3 (List.map (T.int .i64) (openN x0)))])] [.keep [2, 3], .keepO [10080], .names [(10080, 9000)]] [9000] _ (r' := V.tup [vo 9000 (List.length (openN x0)), vb true]) (ps := [(2 ≤ 2), (CG Try.prog 57 [V.t (T.agg [tl x0, ti x1])] [] (vo 9000 (List.length (openN x0))) [(9000, oc 3 (List.map (T.int .i64) (openN x0)))]), (WkT (T.agg [tl x0, ti x1]) (T.agg [tl x0, ti x1]))]) (r := V.tup [vo 9000 (List.length (openN x0)), vb true]) (N := [9000]) (O := [(9000, oc 3 (List.map (T.int .i64) (openN x0)))]) [] (by kernel_rfl) ⟨by decide, (open_C_G x0 x1 c1), WkT.refl _, trivial⟩ ⟨rfl, (WkT.refl _), trivial⟩ rfl rfl (fun _ h => h)
theorem F_impl_OpenNumbers_W_C (x0 : List Int) (x1 : Int) (y0 : List Int) (y1 : Bool) (h : F_impl_OpenNumbers x0 x1 = some (y0, y1)) : C Try.prog 24 [T.agg [tl x0, ti x1]] (T.tup [tl y0, tb y1]) :=
  CG.toC (ps := [(List.length (List.map (T.int .i64) y0) = (List.length y0) * 1)]) (F_impl_OpenNumbers_W  x0 x1 y0 y1 h) (by rfl) ⟨by first | rfl | omega | (simp <;> omega) | (simp [hl] <;> omega), trivial⟩
theorem F_laws_FnHolding_W (x0 : List Int) (y0 : Bool) (h : F_laws_FnHolding x0 = some y0) : C Try.prog 3 [ty x0] (tb y0) := by
  unfold F_laws_FnHolding at h
  refine C.intro (tab := tab) tab_ok (fn := Try.f3) Try.func3 (by kernel_rfl) rfl (Nat.le_of_ble_eq_true rfl) ?_
  refine WP.seq ?_
  refine WP.path tab_ok mixed [] [.keep [2, 0], .keepO []] (ps := []) (e := .normal) (σ' := ⟨[], [(2, vb false), (0, vy x0)], []⟩) (by kernel_rfl) trivial ?_
  refine WP.seq ?_
  refine WP.seq ?_
  obtain ⟨c0, h⟩ := chk_some h
  refine WP.path tab_ok mixed [(48, An.call (tb (decide (((List.length x0 : Nat) : Int) > (65536 : Int)))))] [.keep [48, 2, 0], .keepO []] (ps := [(C Try.prog 5 [ty x0] (tb (decide (((List.length x0 : Nat) : Int) > (65536 : Int)))))]) (e := .normal) (σ' := ⟨[], [(48, vb (decide (((List.length x0 : Nat) : Int) > (65536 : Int)))), (2, vb false), (0, vy x0)], []⟩) (by kernel_rfl) ⟨(rBig_C x0 c0), trivial⟩ ?_
  rcases ite_some h with ⟨h1, h⟩ | ⟨h1, h⟩
  · -- yes
    refine WP.cond (b := decide (((List.length x0 : Nat) : Int) > (65536 : Int))) rfl (fun _ => ?_) (fun hh => by rw [h1] at hh; cases hh)
    have h := Option.some.inj h
    subst h
    exact WP.pathW tab_ok mixed [] _ (ps := []) (r := tb true) (by kernel_rfl) trivial (WkT.eq (y := tb true) (WkT.refl _) rfl) (fun _ h => h)
  · -- no
    refine WP.cond (b := decide (((List.length x0 : Nat) : Int) > (65536 : Int))) rfl (fun hh => by rw [h1] at hh; cases hh) (fun _ => ?_)
    refine WP.path tab_ok mixed [] [.keep [2, 0], .keepO []] (ps := []) (e := .normal) (σ' := ⟨[], [(2, vb false), (0, vy x0)], []⟩) (by kernel_rfl) trivial ?_
    refine WP.seq ?_
    obtain ⟨r51, r51b, r51c, c1, h⟩ := bnd3_some h
    refine WP.path tab_ok mixed [(51, An.call (T.tup [T.agg [tl r51, ti r51b], tl r51c])), (3, An.id 2003)] [.keep [4, 3, 2], .keepO [2003]] (ps := [(C Try.prog 6 [ty x0] (T.tup [T.agg [tl r51, ti r51b], tl r51c])), ((0 + 2 ≤ 2 ∧ 2 = 2))]) (e := .normal) (σ' := ⟨[2003], [(4, vl r51c), (3, V.ref 2003 0), (2, vb false)], [(2003, oc 26 [tl r51, ti r51b])]⟩) (by kernel_rfl) ⟨(F_spec_DrawFirstHolding_W_C x0 r51 r51b r51c c1), by decide, trivial⟩ ?_
    refine WP.seq ?_
    obtain ⟨r57, r57b, c2, h⟩ := bnd2_some h
    refine WP.path tab_ok mixed [(57, An.call (T.tup [tbl r57, tb r57b]))] [.keep [6, 5, 4, 3, 2], .keepO [2003]] (ps := [(0 + 2 ≤ 2), (C Try.prog 7 [T.agg [tl r51, ti r51b], tl r51c] (T.tup [tbl r57, tb r57b]))]) (e := .normal) (σ' := ⟨[2003], [(6, vb r57b), (5, vbl r57), (4, vl r51c), (3, V.ref 2003 0), (2, vb false)], [(2003, oc 26 [tl r51, ti r51b])]⟩) (by kernel_rfl) ⟨by decide, (F_impl_FirstHolding_W_C r51 r51b r51c r57 r57b c2), trivial⟩ ?_
    refine WP.seq ?_
    refine WP.seq ?_
    obtain ⟨r63, r63b, c3, h⟩ := bnd2_some h
    refine WP.path tab_ok mixed [(63, An.call (T.tup [tbl r63, tb r63b]))] [.keep [8, 7, 6, 5, 4, 3, 2], .keepO [2003]] (ps := [(0 + 2 ≤ 2), (C Try.prog 8 [T.agg [tl r51, ti r51b], tl r51c] (T.tup [tbl r63, tb r63b]))]) (e := .normal) (σ' := ⟨[2003], [(8, vb r63b), (7, vbl r63), (6, vb r57b), (5, vbl r57), (4, vl r51c), (3, V.ref 2003 0), (2, vb false)], [(2003, oc 26 [tl r51, ti r51b])]⟩) (by kernel_rfl) ⟨by decide, (F_spec_FirstHolding_W_C r51 r51b r51c r63 r63b c3), trivial⟩ ?_
    obtain ⟨J1, hJ1, h⟩ := jn_some h
    refine WP.joinA (fun (zz : Bool) => ⟨[2003], [(74, vb zz), (6, vb r57b), (5, vbl r57), (4, vl r51c), (3, V.ref 2003 0), (2, vb false)], [(2003, oc 26 [tl r51, ti r51b])]⟩) (fun zz => J1 zz = some y0) ?_ ?_
    · -- to where they meet
      rcases ite_some h with ⟨h2, h⟩ | ⟨h2, h⟩
      · -- yes
        refine WP.path tab_ok mixed [(68, An.b true)] [.keep [74, 6, 5, 4, 3, 2], .keepO [2003], .names [(2003, 2003)]] (ps := [(True), ((!(r57b == r63b)) = true)]) (e := .normal) (σ' := ⟨[2003], [(74, vb true), (6, vb r57b), (5, vbl r57), (4, vl r51c), (3, V.ref 2003 0), (2, vb false)], [(2003, oc 26 [tl r51, ti r51b])]⟩) (by kernel_rfl) ⟨trivial, h2, trivial⟩ ?_
        exact ⟨(true), h, rfl⟩
      · -- no
        obtain ⟨r72, c4, h⟩ := bnd1_some h
        refine WP.path tab_ok mixed [(68, An.b false), (72, An.call (tb r72))] [.keep [74, 6, 5, 4, 3, 2], .keepO [2003], .names [(2003, 2003)]] (ps := [(True), ((!(r57b == r63b)) = false), (C Try.prog 9 [tbl r57, tbl r63] (tb r72))]) (e := .normal) (σ' := ⟨[2003], [(74, vb (!r72)), (6, vb r57b), (5, vbl r57), (4, vl r51c), (3, V.ref 2003 0), (2, vb false)], [(2003, oc 26 [tl r51, ti r51b])]⟩) (by kernel_rfl) ⟨trivial, h2, (F_laws_rBools_W r57 r63 r72 c4), trivial⟩ ?_
        exact ⟨(!r72), h, rfl⟩
    · -- from there
      intro v74 h0
      have h := (show J1 v74 = some y0 from h0)
      rw [hJ1] at h
      rcases ite_some h with ⟨h3, h⟩ | ⟨h3, h⟩
      · -- yes
        refine WP.cond (b := v74) rfl (fun _ => ?_) (fun hh => by rw [h3] at hh; cases hh)
        have h := Option.some.inj h
        subst h
        exact WP.pathW tab_ok mixed [] _ (ps := []) (r := tb false) (by kernel_rfl) trivial (WkT.eq (y := tb false) (WkT.refl _) rfl) (fun _ h => h)
      · -- no
        refine WP.cond (b := v74) rfl (fun hh => by rw [h3] at hh; cases hh) (fun _ => ?_)
        refine WP.path tab_ok mixed [] [.keep [6, 5, 4, 3, 2], .keepO [2003]] (ps := []) (e := .normal) (σ' := ⟨[2003], [(6, vb r57b), (5, vbl r57), (4, vl r51c), (3, V.ref 2003 0), (2, vb false)], [(2003, oc 26 [tl r51, ti r51b])]⟩) (by kernel_rfl) trivial ?_
        refine WP.seq ?_
        obtain ⟨r78, r78b, c4, h⟩ := bnd2_some h
        refine WP.path tab_ok mixed [(78, An.call (T.tup [ti r78, tb r78b]))] [.keep [10, 9, 6, 5, 4, 3, 2], .keepO [2003]] (ps := [(0 + 2 ≤ 2), (C Try.prog 10 [T.agg [tl r51, ti r51b], tl r51c] (T.tup [ti r78, tb r78b]))]) (e := .normal) (σ' := ⟨[2003], [(10, vb r78b), (9, vi r78), (6, vb r57b), (5, vbl r57), (4, vl r51c), (3, V.ref 2003 0), (2, vb false)], [(2003, oc 26 [tl r51, ti r51b])]⟩) (by kernel_rfl) ⟨by decide, (F_impl_CountFair_W r51 r51b r51c r78 r78b c4), trivial⟩ ?_
        refine WP.seq ?_
        refine WP.seq ?_
        obtain ⟨r84, r84b, c5, h⟩ := bnd2_some h
        refine WP.path tab_ok mixed [(84, An.call (T.tup [ti r84, tb r84b]))] [.keep [12, 11, 10, 9, 6, 5, 4, 3, 2], .keepO [2003]] (ps := [(0 + 2 ≤ 2), (C Try.prog 11 [T.agg [tl r51, ti r51b], tl r51c] (T.tup [ti r84, tb r84b]))]) (e := .normal) (σ' := ⟨[2003], [(12, vb r84b), (11, vi r84), (10, vb r78b), (9, vi r78), (6, vb r57b), (5, vbl r57), (4, vl r51c), (3, V.ref 2003 0), (2, vb false)], [(2003, oc 26 [tl r51, ti r51b])]⟩) (by kernel_rfl) ⟨by decide, (F_spec_CountFair_W r51 r51b r51c r84 r84b c5), trivial⟩ ?_
        obtain ⟨J1, hJ1, h⟩ := jn_some h
        refine WP.joinA (fun (zz : Bool) => ⟨[2003], [(94, vb zz), (10, vb r78b), (9, vi r78), (6, vb r57b), (5, vbl r57), (4, vl r51c), (3, V.ref 2003 0), (2, vb false)], [(2003, oc 26 [tl r51, ti r51b])]⟩) (fun zz => J1 zz = some y0) ?_ ?_
        · -- to where they meet
          rcases ite_some h with ⟨h4, h⟩ | ⟨h4, h⟩
          · -- yes
            refine WP.path tab_ok mixed [(89, An.b true)] [.keep [94, 10, 9, 6, 5, 4, 3, 2], .keepO [2003], .names [(2003, 2003)]] (ps := [(True), ((r78 != r84) = true)]) (e := .normal) (σ' := ⟨[2003], [(94, vb true), (10, vb r78b), (9, vi r78), (6, vb r57b), (5, vbl r57), (4, vl r51c), (3, V.ref 2003 0), (2, vb false)], [(2003, oc 26 [tl r51, ti r51b])]⟩) (by kernel_rfl) ⟨trivial, h4, trivial⟩ ?_
            exact ⟨(true), h, rfl⟩
          · -- no
            refine WP.path tab_ok mixed [(89, An.b false)] [.keep [94, 10, 9, 6, 5, 4, 3, 2], .keepO [2003], .names [(2003, 2003)]] (ps := [(True), ((r78 != r84) = false), (True)]) (e := .normal) (σ' := ⟨[2003], [(94, vb (!(r78b == r84b))), (10, vb r78b), (9, vi r78), (6, vb r57b), (5, vbl r57), (4, vl r51c), (3, V.ref 2003 0), (2, vb false)], [(2003, oc 26 [tl r51, ti r51b])]⟩) (by kernel_rfl) ⟨trivial, h4, trivial, trivial⟩ ?_
            exact ⟨(!(r78b == r84b)), h, rfl⟩
        · -- from there
          intro v94 h0
          have h := (show J1 v94 = some y0 from h0)
          rw [hJ1] at h
          rcases ite_some h with ⟨h5, h⟩ | ⟨h5, h⟩
          · -- yes
            refine WP.cond (b := v94) rfl (fun _ => ?_) (fun hh => by rw [h5] at hh; cases hh)
            have h := Option.some.inj h
            subst h
            exact WP.pathW tab_ok mixed [] _ (ps := []) (r := tb false) (by kernel_rfl) trivial (WkT.eq (y := tb false) (WkT.refl _) rfl) (fun _ h => h)
          · -- no
            refine WP.cond (b := v94) rfl (fun hh => by rw [h5] at hh; cases hh) (fun _ => ?_)
            refine WP.path tab_ok mixed [] [.keep [10, 9, 6, 5, 4, 3, 2], .keepO [2003]] (ps := []) (e := .normal) (σ' := ⟨[2003], [(10, vb r78b), (9, vi r78), (6, vb r57b), (5, vbl r57), (4, vl r51c), (3, V.ref 2003 0), (2, vb false)], [(2003, oc 26 [tl r51, ti r51b])]⟩) (by kernel_rfl) trivial ?_
            refine WP.seq ?_
            obtain ⟨r98, r98b, c6, h⟩ := bnd2_some h
            refine WP.path tab_ok mixed [(98, An.call (T.tup [ti r98, tb r98b]))] [.keep [14, 13, 10, 9, 6, 5, 4, 3, 2], .keepO [2003]] (ps := [(0 + 2 ≤ 2), (C Try.prog 12 [T.agg [tl r51, ti r51b], tl r51c] (T.tup [ti r98, tb r98b]))]) (e := .normal) (σ' := ⟨[2003], [(14, vb r98b), (13, vi r98), (10, vb r78b), (9, vi r78), (6, vb r57b), (5, vbl r57), (4, vl r51c), (3, V.ref 2003 0), (2, vb false)], [(2003, oc 26 [tl r51, ti r51b])]⟩) (by kernel_rfl) ⟨by decide, (F_impl_CountHolding_W r51 r51b r51c r98 r98b c6), trivial⟩ ?_
            refine WP.seq ?_
            refine WP.seq ?_
            obtain ⟨r104, r104b, c7, h⟩ := bnd2_some h
            refine WP.path tab_ok mixed [(104, An.call (T.tup [ti r104, tb r104b]))] [.keep [16, 15, 14, 13, 10, 9, 6, 5, 4, 3, 2], .keepO [2003]] (ps := [(0 + 2 ≤ 2), (C Try.prog 13 [T.agg [tl r51, ti r51b], tl r51c] (T.tup [ti r104, tb r104b]))]) (e := .normal) (σ' := ⟨[2003], [(16, vb r104b), (15, vi r104), (14, vb r98b), (13, vi r98), (10, vb r78b), (9, vi r78), (6, vb r57b), (5, vbl r57), (4, vl r51c), (3, V.ref 2003 0), (2, vb false)], [(2003, oc 26 [tl r51, ti r51b])]⟩) (by kernel_rfl) ⟨by decide, (F_spec_CountHolding_W r51 r51b r51c r104 r104b c7), trivial⟩ ?_
            obtain ⟨J1, hJ1, h⟩ := jn_some h
            refine WP.joinA (fun (zz : Bool) => ⟨[2003], [(133, vb zz), (13, vi r98), (10, vb r78b), (6, vb r57b), (5, vbl r57), (4, vl r51c), (3, V.ref 2003 0), (2, vb false)], [(2003, oc 26 [tl r51, ti r51b])]⟩) (fun zz => J1 zz = some y0) ?_ ?_
            · -- to where they meet
              rcases ite_some h with ⟨h6, h⟩ | ⟨h6, h⟩
              · -- yes
                refine WP.path tab_ok mixed [(109, An.b true)] [.keep [133, 13, 10, 6, 5, 4, 3, 2], .keepO [2003], .names [(2003, 2003)]] (ps := [(True), ((r98 != r104) = true)]) (e := .normal) (σ' := ⟨[2003], [(133, vb true), (13, vi r98), (10, vb r78b), (6, vb r57b), (5, vbl r57), (4, vl r51c), (3, V.ref 2003 0), (2, vb false)], [(2003, oc 26 [tl r51, ti r51b])]⟩) (by kernel_rfl) ⟨trivial, h6, trivial⟩ ?_
                exact ⟨(true), h, rfl⟩
              · -- no
                rcases ite_some h with ⟨h7, h⟩ | ⟨h7, h⟩
                · -- yes
                  refine WP.path tab_ok mixed [(109, An.b false), (113, An.b true)] [.keep [133, 13, 10, 6, 5, 4, 3, 2], .keepO [2003], .names [(2003, 2003)]] (ps := [(True), ((r98 != r104) = false), (True), ((!(r98b == r104b)) = true)]) (e := .normal) (σ' := ⟨[2003], [(133, vb true), (13, vi r98), (10, vb r78b), (6, vb r57b), (5, vbl r57), (4, vl r51c), (3, V.ref 2003 0), (2, vb false)], [(2003, oc 26 [tl r51, ti r51b])]⟩) (by kernel_rfl) ⟨trivial, h6, trivial, h7, trivial⟩ ?_
                  exact ⟨(true), h, rfl⟩
                · -- no
                  rcases ite_some h with ⟨h8, h⟩ | ⟨h8, h⟩
                  · -- yes
                    refine WP.path tab_ok mixed [(109, An.b false), (113, An.b false), (118, An.b true)] [.keep [133, 13, 10, 6, 5, 4, 3, 2], .keepO [2003], .names [(2003, 2003)]] (ps := [(True), ((r98 != r104) = false), (True), ((!(r98b == r104b)) = false), (True), ((!(r98b == r78b)) = true)]) (e := .normal) (σ' := ⟨[2003], [(133, vb true), (13, vi r98), (10, vb r78b), (6, vb r57b), (5, vbl r57), (4, vl r51c), (3, V.ref 2003 0), (2, vb false)], [(2003, oc 26 [tl r51, ti r51b])]⟩) (by kernel_rfl) ⟨trivial, h6, trivial, h7, trivial, h8, trivial⟩ ?_
                    exact ⟨(true), h, rfl⟩
                  · -- no
                    rcases ite_some h with ⟨h9, h⟩ | ⟨h9, h⟩
                    · -- yes
                      refine WP.path tab_ok mixed [(109, An.b false), (113, An.b false), (118, An.b false), (123, An.b true)] [.keep [133, 13, 10, 6, 5, 4, 3, 2], .keepO [2003], .names [(2003, 2003)]] (ps := [(True), ((r98 != r104) = false), (True), ((!(r98b == r104b)) = false), (True), ((!(r98b == r78b)) = false), (True), ((decide (r98 > r78)) = true)]) (e := .normal) (σ' := ⟨[2003], [(133, vb true), (13, vi r98), (10, vb r78b), (6, vb r57b), (5, vbl r57), (4, vl r51c), (3, V.ref 2003 0), (2, vb false)], [(2003, oc 26 [tl r51, ti r51b])]⟩) (by kernel_rfl) ⟨trivial, h6, trivial, h7, trivial, h8, trivial, h9, trivial⟩ ?_
                      exact ⟨(true), h, rfl⟩
                    · -- no
                      rcases ite_some h with ⟨h10, h⟩ | ⟨h10, h⟩
                      · -- yes
                        refine WP.path tab_ok mixed [(109, An.b false), (113, An.b false), (118, An.b false), (123, An.b false), (127, An.b true)] [.keep [133, 13, 10, 6, 5, 4, 3, 2], .keepO [2003], .names [(2003, 2003)]] (ps := [(True), ((r98 != r104) = false), (True), ((!(r98b == r104b)) = false), (True), ((!(r98b == r78b)) = false), (True), ((decide (r98 > r78)) = false), ((r98b) = true), (True), (True)]) (e := .normal) (σ' := ⟨[2003], [(133, vb (!(r57b == (decide (r98 > (0 : Int)))))), (13, vi r98), (10, vb r78b), (6, vb r57b), (5, vbl r57), (4, vl r51c), (3, V.ref 2003 0), (2, vb false)], [(2003, oc 26 [tl r51, ti r51b])]⟩) (by kernel_rfl) ⟨trivial, h6, trivial, h7, trivial, h8, trivial, h9, h10, trivial, trivial, trivial⟩ ?_
                        exact ⟨(!(r57b == (decide (r98 > (0 : Int))))), h, rfl⟩
                      · -- no
                        refine WP.path tab_ok mixed [(109, An.b false), (113, An.b false), (118, An.b false), (123, An.b false), (127, An.b false)] [.keep [133, 13, 10, 6, 5, 4, 3, 2], .keepO [2003], .names [(2003, 2003)]] (ps := [(True), ((r98 != r104) = false), (True), ((!(r98b == r104b)) = false), (True), ((!(r98b == r78b)) = false), (True), ((decide (r98 > r78)) = false), ((r98b) = false)]) (e := .normal) (σ' := ⟨[2003], [(133, vb false), (13, vi r98), (10, vb r78b), (6, vb r57b), (5, vbl r57), (4, vl r51c), (3, V.ref 2003 0), (2, vb false)], [(2003, oc 26 [tl r51, ti r51b])]⟩) (by kernel_rfl) ⟨trivial, h6, trivial, h7, trivial, h8, trivial, h9, h10, trivial⟩ ?_
                        exact ⟨(false), h, rfl⟩
            · -- from there
              intro v133 h0
              have h := (show J1 v133 = some y0 from h0)
              rw [hJ1] at h
              rcases ite_some h with ⟨h11, h⟩ | ⟨h11, h⟩
              · -- yes
                refine WP.cond (b := v133) rfl (fun _ => ?_) (fun hh => by rw [h11] at hh; cases hh)
                have h := Option.some.inj h
                subst h
                exact WP.pathW tab_ok mixed [] _ (ps := []) (r := tb false) (by kernel_rfl) trivial (WkT.eq (y := tb false) (WkT.refl _) rfl) (fun _ h => h)
              · -- no
                refine WP.cond (b := v133) rfl (fun hh => by rw [h11] at hh; cases hh) (fun _ => ?_)
                refine WP.path tab_ok mixed [] [.keep [13, 10, 6, 5, 4, 3, 2], .keepO [2003]] (ps := []) (e := .normal) (σ' := ⟨[2003], [(13, vi r98), (10, vb r78b), (6, vb r57b), (5, vbl r57), (4, vl r51c), (3, V.ref 2003 0), (2, vb false)], [(2003, oc 26 [tl r51, ti r51b])]⟩) (by kernel_rfl) trivial ?_
                refine WP.seq ?_
                obtain ⟨r137, r137b, c8, h⟩ := bnd2_some h
                refine WP.path tab_ok mixed [(137, An.call (T.tup [tb r137, tb r137b]))] [.keep [18, 17, 13, 10, 6, 5, 4, 3, 2], .keepO [2003]] (ps := [(0 + 2 ≤ 2), (C Try.prog 14 [T.agg [tl r51, ti r51b], tl r51c] (T.tup [tb r137, tb r137b]))]) (e := .normal) (σ' := ⟨[2003], [(18, vb r137b), (17, vb r137), (13, vi r98), (10, vb r78b), (6, vb r57b), (5, vbl r57), (4, vl r51c), (3, V.ref 2003 0), (2, vb false)], [(2003, oc 26 [tl r51, ti r51b])]⟩) (by kernel_rfl) ⟨by decide, (F_impl_DoTell_W r51 r51b r51c r137 r137b c8), trivial⟩ ?_
                refine WP.seq ?_
                refine WP.seq ?_
                obtain ⟨r143, r143b, c9, h⟩ := bnd2_some h
                refine WP.path tab_ok mixed [(143, An.call (T.tup [tb r143, tb r143b]))] [.keep [20, 19, 18, 17, 13, 10, 6, 5, 4, 3, 2], .keepO [2003]] (ps := [(0 + 2 ≤ 2), (C Try.prog 15 [T.agg [tl r51, ti r51b], tl r51c] (T.tup [tb r143, tb r143b]))]) (e := .normal) (σ' := ⟨[2003], [(20, vb r143b), (19, vb r143), (18, vb r137b), (17, vb r137), (13, vi r98), (10, vb r78b), (6, vb r57b), (5, vbl r57), (4, vl r51c), (3, V.ref 2003 0), (2, vb false)], [(2003, oc 26 [tl r51, ti r51b])]⟩) (by kernel_rfl) ⟨by decide, (F_spec_DoTell_W r51 r51b r51c r143 r143b c9), trivial⟩ ?_
                obtain ⟨J1, hJ1, h⟩ := jn_some h
                refine WP.joinA (fun (zz : Bool) => ⟨[2003], [(167, vb zz), (18, vb r137b), (17, vb r137), (10, vb r78b), (6, vb r57b), (5, vbl r57), (4, vl r51c), (3, V.ref 2003 0), (2, vb false)], [(2003, oc 26 [tl r51, ti r51b])]⟩) (fun zz => J1 zz = some y0) ?_ ?_
                · -- to where they meet
                  rcases ite_some h with ⟨h12, h⟩ | ⟨h12, h⟩
                  · -- yes
                    refine WP.path tab_ok mixed [(148, An.b true)] [.keep [167, 18, 17, 10, 6, 5, 4, 3, 2], .keepO [2003], .names [(2003, 2003)]] (ps := [(True), ((!(r137 == r143)) = true)]) (e := .normal) (σ' := ⟨[2003], [(167, vb true), (18, vb r137b), (17, vb r137), (10, vb r78b), (6, vb r57b), (5, vbl r57), (4, vl r51c), (3, V.ref 2003 0), (2, vb false)], [(2003, oc 26 [tl r51, ti r51b])]⟩) (by kernel_rfl) ⟨trivial, h12, trivial⟩ ?_
                    exact ⟨(true), h, rfl⟩
                  · -- no
                    rcases ite_some h with ⟨h13, h⟩ | ⟨h13, h⟩
                    · -- yes
                      refine WP.path tab_ok mixed [(148, An.b false), (152, An.b true)] [.keep [167, 18, 17, 10, 6, 5, 4, 3, 2], .keepO [2003], .names [(2003, 2003)]] (ps := [(True), ((!(r137 == r143)) = false), (True), ((!(r137b == r143b)) = true)]) (e := .normal) (σ' := ⟨[2003], [(167, vb true), (18, vb r137b), (17, vb r137), (10, vb r78b), (6, vb r57b), (5, vbl r57), (4, vl r51c), (3, V.ref 2003 0), (2, vb false)], [(2003, oc 26 [tl r51, ti r51b])]⟩) (by kernel_rfl) ⟨trivial, h12, trivial, h13, trivial⟩ ?_
                      exact ⟨(true), h, rfl⟩
                    · -- no
                      rcases ite_some h with ⟨h14, h⟩ | ⟨h14, h⟩
                      · -- yes
                        refine WP.path tab_ok mixed [(148, An.b false), (152, An.b false), (157, An.b true)] [.keep [167, 18, 17, 10, 6, 5, 4, 3, 2], .keepO [2003], .names [(2003, 2003)]] (ps := [(True), ((!(r137 == r143)) = false), (True), ((!(r137b == r143b)) = false), (True), ((!(r137b == r78b)) = true)]) (e := .normal) (σ' := ⟨[2003], [(167, vb true), (18, vb r137b), (17, vb r137), (10, vb r78b), (6, vb r57b), (5, vbl r57), (4, vl r51c), (3, V.ref 2003 0), (2, vb false)], [(2003, oc 26 [tl r51, ti r51b])]⟩) (by kernel_rfl) ⟨trivial, h12, trivial, h13, trivial, h14, trivial⟩ ?_
                        exact ⟨(true), h, rfl⟩
                      · -- no
                        rcases ite_some h with ⟨h15, h⟩ | ⟨h15, h⟩
                        · -- yes
                          refine WP.path tab_ok mixed [(148, An.b false), (152, An.b false), (157, An.b false), (161, An.b true)] [.keep [167, 18, 17, 10, 6, 5, 4, 3, 2], .keepO [2003], .names [(2003, 2003)]] (ps := [(True), ((!(r137 == r143)) = false), (True), ((!(r137b == r143b)) = false), (True), ((!(r137b == r78b)) = false), ((r137b) = true), (True), (True)]) (e := .normal) (σ' := ⟨[2003], [(167, vb (!(r137 == (r98 == (0 : Int))))), (18, vb r137b), (17, vb r137), (10, vb r78b), (6, vb r57b), (5, vbl r57), (4, vl r51c), (3, V.ref 2003 0), (2, vb false)], [(2003, oc 26 [tl r51, ti r51b])]⟩) (by kernel_rfl) ⟨trivial, h12, trivial, h13, trivial, h14, h15, trivial, trivial, trivial⟩ ?_
                          exact ⟨(!(r137 == (r98 == (0 : Int)))), h, rfl⟩
                        · -- no
                          refine WP.path tab_ok mixed [(148, An.b false), (152, An.b false), (157, An.b false), (161, An.b false)] [.keep [167, 18, 17, 10, 6, 5, 4, 3, 2], .keepO [2003], .names [(2003, 2003)]] (ps := [(True), ((!(r137 == r143)) = false), (True), ((!(r137b == r143b)) = false), (True), ((!(r137b == r78b)) = false), ((r137b) = false)]) (e := .normal) (σ' := ⟨[2003], [(167, vb false), (18, vb r137b), (17, vb r137), (10, vb r78b), (6, vb r57b), (5, vbl r57), (4, vl r51c), (3, V.ref 2003 0), (2, vb false)], [(2003, oc 26 [tl r51, ti r51b])]⟩) (by kernel_rfl) ⟨trivial, h12, trivial, h13, trivial, h14, h15, trivial⟩ ?_
                          exact ⟨(false), h, rfl⟩
                · -- from there
                  intro v167 h0
                  have h := (show J1 v167 = some y0 from h0)
                  rw [hJ1] at h
                  rcases ite_some h with ⟨h16, h⟩ | ⟨h16, h⟩
                  · -- yes
                    refine WP.cond (b := v167) rfl (fun _ => ?_) (fun hh => by rw [h16] at hh; cases hh)
                    have h := Option.some.inj h
                    subst h
                    exact WP.pathW tab_ok mixed [] _ (ps := []) (r := tb false) (by kernel_rfl) trivial (WkT.eq (y := tb false) (WkT.refl _) rfl) (fun _ h => h)
                  · -- no
                    refine WP.cond (b := v167) rfl (fun hh => by rw [h16] at hh; cases hh) (fun _ => ?_)
                    refine WP.path tab_ok mixed [] [.keep [18, 17, 10, 6, 5, 4, 3, 2], .keepO [2003]] (ps := []) (e := .normal) (σ' := ⟨[2003], [(18, vb r137b), (17, vb r137), (10, vb r78b), (6, vb r57b), (5, vbl r57), (4, vl r51c), (3, V.ref 2003 0), (2, vb false)], [(2003, oc 26 [tl r51, ti r51b])]⟩) (by kernel_rfl) trivial ?_
                    refine WP.seq ?_
                    obtain ⟨r171, r171b, c10, h⟩ := bnd2_some h
                    refine WP.path tab_ok mixed [(171, An.call (T.tup [ti r171, tb r171b]))] [.keep [22, 21, 18, 17, 10, 6, 5, 4, 3, 2], .keepO [2003]] (ps := [(0 + 2 ≤ 2), (C Try.prog 16 [T.agg [tl r51, ti r51b], tl r51c] (T.tup [ti r171, tb r171b]))]) (e := .normal) (σ' := ⟨[2003], [(22, vb r171b), (21, vi r171), (18, vb r137b), (17, vb r137), (10, vb r78b), (6, vb r57b), (5, vbl r57), (4, vl r51c), (3, V.ref 2003 0), (2, vb false)], [(2003, oc 26 [tl r51, ti r51b])]⟩) (by kernel_rfl) ⟨by decide, (F_impl_LongestHold_W r51 r51b r51c r171 r171b c10), trivial⟩ ?_
                    refine WP.seq ?_
                    refine WP.seq ?_
                    obtain ⟨r177, r177b, c11, h⟩ := bnd2_some h
                    refine WP.path tab_ok mixed [(177, An.call (T.tup [ti r177, tb r177b]))] [.keep [24, 23, 22, 21, 18, 17, 10, 6, 5, 4, 3, 2], .keepO [2003]] (ps := [(0 + 2 ≤ 2), (C Try.prog 17 [T.agg [tl r51, ti r51b], tl r51c] (T.tup [ti r177, tb r177b]))]) (e := .normal) (σ' := ⟨[2003], [(24, vb r177b), (23, vi r177), (22, vb r171b), (21, vi r171), (18, vb r137b), (17, vb r137), (10, vb r78b), (6, vb r57b), (5, vbl r57), (4, vl r51c), (3, V.ref 2003 0), (2, vb false)], [(2003, oc 26 [tl r51, ti r51b])]⟩) (by kernel_rfl) ⟨by decide, (F_spec_LongestHold_W r51 r51b r51c r177 r177b c11), trivial⟩ ?_
                    obtain ⟨J1, hJ1, h⟩ := jn_some h
                    refine WP.joinA (fun (zz : Bool) => ⟨[2003], [(203, vb zz), (18, vb r137b), (17, vb r137), (10, vb r78b), (6, vb r57b), (5, vbl r57), (4, vl r51c), (3, V.ref 2003 0), (2, vb false)], [(2003, oc 26 [tl r51, ti r51b])]⟩) (fun zz => J1 zz = some y0) ?_ ?_
                    · -- to where they meet
                      rcases ite_some h with ⟨h17, h⟩ | ⟨h17, h⟩
                      · -- yes
                        refine WP.path tab_ok mixed [(182, An.b true)] [.keep [203, 18, 17, 10, 6, 5, 4, 3, 2], .keepO [2003], .names [(2003, 2003)]] (ps := [(True), ((r171 != r177) = true)]) (e := .normal) (σ' := ⟨[2003], [(203, vb true), (18, vb r137b), (17, vb r137), (10, vb r78b), (6, vb r57b), (5, vbl r57), (4, vl r51c), (3, V.ref 2003 0), (2, vb false)], [(2003, oc 26 [tl r51, ti r51b])]⟩) (by kernel_rfl) ⟨trivial, h17, trivial⟩ ?_
                        exact ⟨(true), h, rfl⟩
                      · -- no
                        rcases ite_some h with ⟨h18, h⟩ | ⟨h18, h⟩
                        · -- yes
                          refine WP.path tab_ok mixed [(182, An.b false), (186, An.b true)] [.keep [203, 18, 17, 10, 6, 5, 4, 3, 2], .keepO [2003], .names [(2003, 2003)]] (ps := [(True), ((r171 != r177) = false), (True), ((!(r171b == r177b)) = true)]) (e := .normal) (σ' := ⟨[2003], [(203, vb true), (18, vb r137b), (17, vb r137), (10, vb r78b), (6, vb r57b), (5, vbl r57), (4, vl r51c), (3, V.ref 2003 0), (2, vb false)], [(2003, oc 26 [tl r51, ti r51b])]⟩) (by kernel_rfl) ⟨trivial, h17, trivial, h18, trivial⟩ ?_
                          exact ⟨(true), h, rfl⟩
                        · -- no
                          rcases ite_some h with ⟨h19, h⟩ | ⟨h19, h⟩
                          · -- yes
                            refine WP.path tab_ok mixed [(182, An.b false), (186, An.b false), (191, An.b true)] [.keep [203, 18, 17, 10, 6, 5, 4, 3, 2], .keepO [2003], .names [(2003, 2003)]] (ps := [(True), ((r171 != r177) = false), (True), ((!(r171b == r177b)) = false), (True), ((!(r171b == r78b)) = true)]) (e := .normal) (σ' := ⟨[2003], [(203, vb true), (18, vb r137b), (17, vb r137), (10, vb r78b), (6, vb r57b), (5, vbl r57), (4, vl r51c), (3, V.ref 2003 0), (2, vb false)], [(2003, oc 26 [tl r51, ti r51b])]⟩) (by kernel_rfl) ⟨trivial, h17, trivial, h18, trivial, h19, trivial⟩ ?_
                            exact ⟨(true), h, rfl⟩
                          · -- no
                            rcases ite_some h with ⟨h20, h⟩ | ⟨h20, h⟩
                            · -- yes
                              refine WP.path tab_ok mixed [(182, An.b false), (186, An.b false), (191, An.b false), (195, An.b true)] [.keep [203, 18, 17, 10, 6, 5, 4, 3, 2], .keepO [2003], .names [(2003, 2003)]] (ps := [(True), ((r171 != r177) = false), (True), ((!(r171b == r177b)) = false), (True), ((!(r171b == r78b)) = false), ((r171b) = true), (True), (True)]) (e := .normal) (σ' := ⟨[2003], [(203, vb (!((r171 == ((List.length r51c : Nat) : Int)) == r57b))), (18, vb r137b), (17, vb r137), (10, vb r78b), (6, vb r57b), (5, vbl r57), (4, vl r51c), (3, V.ref 2003 0), (2, vb false)], [(2003, oc 26 [tl r51, ti r51b])]⟩) (by kernel_rfl) ⟨trivial, h17, trivial, h18, trivial, h19, h20, trivial, trivial, trivial⟩ ?_
                              exact ⟨(!((r171 == ((List.length r51c : Nat) : Int)) == r57b)), h, rfl⟩
                            · -- no
                              refine WP.path tab_ok mixed [(182, An.b false), (186, An.b false), (191, An.b false), (195, An.b false)] [.keep [203, 18, 17, 10, 6, 5, 4, 3, 2], .keepO [2003], .names [(2003, 2003)]] (ps := [(True), ((r171 != r177) = false), (True), ((!(r171b == r177b)) = false), (True), ((!(r171b == r78b)) = false), ((r171b) = false)]) (e := .normal) (σ' := ⟨[2003], [(203, vb false), (18, vb r137b), (17, vb r137), (10, vb r78b), (6, vb r57b), (5, vbl r57), (4, vl r51c), (3, V.ref 2003 0), (2, vb false)], [(2003, oc 26 [tl r51, ti r51b])]⟩) (by kernel_rfl) ⟨trivial, h17, trivial, h18, trivial, h19, h20, trivial⟩ ?_
                              exact ⟨(false), h, rfl⟩
                    · -- from there
                      intro v203 h0
                      have h := (show J1 v203 = some y0 from h0)
                      rw [hJ1] at h
                      rcases ite_some h with ⟨h21, h⟩ | ⟨h21, h⟩
                      · -- yes
                        refine WP.cond (b := v203) rfl (fun _ => ?_) (fun hh => by rw [h21] at hh; cases hh)
                        have h := Option.some.inj h
                        subst h
                        exact WP.pathW tab_ok mixed [] _ (ps := []) (r := tb false) (by kernel_rfl) trivial (WkT.eq (y := tb false) (WkT.refl _) rfl) (fun _ h => h)
                      · -- no
                        refine WP.cond (b := v203) rfl (fun hh => by rw [h21] at hh; cases hh) (fun _ => ?_)
                        refine WP.path tab_ok mixed [] [.keep [18, 17, 10, 6, 5, 4, 3, 2], .keepO [2003]] (ps := []) (e := .normal) (σ' := ⟨[2003], [(18, vb r137b), (17, vb r137), (10, vb r78b), (6, vb r57b), (5, vbl r57), (4, vl r51c), (3, V.ref 2003 0), (2, vb false)], [(2003, oc 26 [tl r51, ti r51b])]⟩) (by kernel_rfl) trivial ?_
                        refine WP.seq ?_
                        obtain ⟨r207, r207b, r207c, c12, h⟩ := bnd3_some h
                        refine WP.path tab_ok mixed [(207, An.call (T.tup [ti r207, tbl r207b, tb r207c]))] [.keep [27, 26, 25, 18, 17, 10, 6, 5, 4, 3, 2], .keepO [2003]] (ps := [(0 + 2 ≤ 2), (C Try.prog 18 [T.agg [tl r51, ti r51b], tl r51c] (T.tup [ti r207, tbl r207b, tb r207c]))]) (e := .normal) (σ' := ⟨[2003], [(27, vb r207c), (26, vbl r207b), (25, vi r207), (18, vb r137b), (17, vb r137), (10, vb r78b), (6, vb r57b), (5, vbl r57), (4, vl r51c), (3, V.ref 2003 0), (2, vb false)], [(2003, oc 26 [tl r51, ti r51b])]⟩) (by kernel_rfl) ⟨by decide, (F_impl_MostKept_W_C r51 r51b r51c r207 r207b r207c c12), trivial⟩ ?_
                        refine WP.seq ?_
                        refine WP.seq ?_
                        obtain ⟨r214, r214b, r214c, c13, h⟩ := bnd3_some h
                        refine WP.path tab_ok mixed [(214, An.call (T.tup [ti r214, tbl r214b, tb r214c]))] [.keep [30, 29, 28, 27, 26, 25, 18, 17, 10, 6, 5, 4, 3, 2], .keepO [2003]] (ps := [(0 + 2 ≤ 2), (C Try.prog 19 [T.agg [tl r51, ti r51b], tl r51c] (T.tup [ti r214, tbl r214b, tb r214c]))]) (e := .normal) (σ' := ⟨[2003], [(30, vb r214c), (29, vbl r214b), (28, vi r214), (27, vb r207c), (26, vbl r207b), (25, vi r207), (18, vb r137b), (17, vb r137), (10, vb r78b), (6, vb r57b), (5, vbl r57), (4, vl r51c), (3, V.ref 2003 0), (2, vb false)], [(2003, oc 26 [tl r51, ti r51b])]⟩) (by kernel_rfl) ⟨by decide, (F_spec_MostKept_W_C r51 r51b r51c r214 r214b r214c c13), trivial⟩ ?_
                        obtain ⟨J1, hJ1, h⟩ := jn_some h
                        refine WP.joinA (fun (zz : Bool) => ⟨[2003], [(236, vb zz), (27, vb r207c), (26, vbl r207b), (25, vi r207), (18, vb r137b), (17, vb r137), (6, vb r57b), (5, vbl r57), (4, vl r51c), (3, V.ref 2003 0), (2, vb false)], [(2003, oc 26 [tl r51, ti r51b])]⟩) (fun zz => J1 zz = some y0) ?_ ?_
                        · -- to where they meet
                          rcases ite_some h with ⟨h22, h⟩ | ⟨h22, h⟩
                          · -- yes
                            refine WP.path tab_ok mixed [(220, An.b true)] [.keep [236, 27, 26, 25, 18, 17, 6, 5, 4, 3, 2], .keepO [2003], .names [(2003, 2003)]] (ps := [(True), ((r207 != r214) = true)]) (e := .normal) (σ' := ⟨[2003], [(236, vb true), (27, vb r207c), (26, vbl r207b), (25, vi r207), (18, vb r137b), (17, vb r137), (6, vb r57b), (5, vbl r57), (4, vl r51c), (3, V.ref 2003 0), (2, vb false)], [(2003, oc 26 [tl r51, ti r51b])]⟩) (by kernel_rfl) ⟨trivial, h22, trivial⟩ ?_
                            exact ⟨(true), h, rfl⟩
                          · -- no
                            rcases ite_some h with ⟨h23, h⟩ | ⟨h23, h⟩
                            · -- yes
                              refine WP.path tab_ok mixed [(220, An.b false), (224, An.b true)] [.keep [236, 27, 26, 25, 18, 17, 6, 5, 4, 3, 2], .keepO [2003], .names [(2003, 2003)]] (ps := [(True), ((r207 != r214) = false), (True), ((!(r207c == r214c)) = true)]) (e := .normal) (σ' := ⟨[2003], [(236, vb true), (27, vb r207c), (26, vbl r207b), (25, vi r207), (18, vb r137b), (17, vb r137), (6, vb r57b), (5, vbl r57), (4, vl r51c), (3, V.ref 2003 0), (2, vb false)], [(2003, oc 26 [tl r51, ti r51b])]⟩) (by kernel_rfl) ⟨trivial, h22, trivial, h23, trivial⟩ ?_
                              exact ⟨(true), h, rfl⟩
                            · -- no
                              rcases ite_some h with ⟨h24, h⟩ | ⟨h24, h⟩
                              · -- yes
                                refine WP.path tab_ok mixed [(220, An.b false), (224, An.b false), (229, An.b true)] [.keep [236, 27, 26, 25, 18, 17, 6, 5, 4, 3, 2], .keepO [2003], .names [(2003, 2003)]] (ps := [(True), ((r207 != r214) = false), (True), ((!(r207c == r214c)) = false), (True), ((!(r207c == r78b)) = true)]) (e := .normal) (σ' := ⟨[2003], [(236, vb true), (27, vb r207c), (26, vbl r207b), (25, vi r207), (18, vb r137b), (17, vb r137), (6, vb r57b), (5, vbl r57), (4, vl r51c), (3, V.ref 2003 0), (2, vb false)], [(2003, oc 26 [tl r51, ti r51b])]⟩) (by kernel_rfl) ⟨trivial, h22, trivial, h23, trivial, h24, trivial⟩ ?_
                                exact ⟨(true), h, rfl⟩
                              · -- no
                                obtain ⟨r234, c14, h⟩ := bnd1_some h
                                refine WP.path tab_ok mixed [(220, An.b false), (224, An.b false), (229, An.b false), (234, An.call (tb r234))] [.keep [236, 27, 26, 25, 18, 17, 6, 5, 4, 3, 2], .keepO [2003], .names [(2003, 2003)]] (ps := [(True), ((r207 != r214) = false), (True), ((!(r207c == r214c)) = false), (True), ((!(r207c == r78b)) = false), (C Try.prog 9 [tbl r207b, tbl r214b] (tb r234))]) (e := .normal) (σ' := ⟨[2003], [(236, vb (!r234)), (27, vb r207c), (26, vbl r207b), (25, vi r207), (18, vb r137b), (17, vb r137), (6, vb r57b), (5, vbl r57), (4, vl r51c), (3, V.ref 2003 0), (2, vb false)], [(2003, oc 26 [tl r51, ti r51b])]⟩) (by kernel_rfl) ⟨trivial, h22, trivial, h23, trivial, h24, (F_laws_rBools_W r207b r214b r234 c14), trivial⟩ ?_
                                exact ⟨(!r234), h, rfl⟩
                        · -- from there
                          intro v236 h0
                          have h := (show J1 v236 = some y0 from h0)
                          rw [hJ1] at h
                          rcases ite_some h with ⟨h25, h⟩ | ⟨h25, h⟩
                          · -- yes
                            refine WP.cond (b := v236) rfl (fun _ => ?_) (fun hh => by rw [h25] at hh; cases hh)
                            have h := Option.some.inj h
                            subst h
                            exact WP.pathW tab_ok mixed [] _ (ps := []) (r := tb false) (by kernel_rfl) trivial (WkT.eq (y := tb false) (WkT.refl _) rfl) (fun _ h => h)
                          · -- no
                            refine WP.cond (b := v236) rfl (fun hh => by rw [h25] at hh; cases hh) (fun _ => ?_)
                            refine WP.path tab_ok mixed [] [.keep [27, 26, 25, 18, 17, 6, 5, 4, 3, 2], .keepO [2003]] (ps := []) (e := .normal) (σ' := ⟨[2003], [(27, vb r207c), (26, vbl r207b), (25, vi r207), (18, vb r137b), (17, vb r137), (6, vb r57b), (5, vbl r57), (4, vl r51c), (3, V.ref 2003 0), (2, vb false)], [(2003, oc 26 [tl r51, ti r51b])]⟩) (by kernel_rfl) trivial ?_
                            refine WP.seq ?_
                            obtain ⟨r240, r240b, c14, h⟩ := bnd2_some h
                            refine WP.path tab_ok mixed [(240, An.call (T.tup [tl r240, tb r240b]))] [.keep [32, 31, 27, 26, 25, 18, 17, 6, 5, 4, 3, 2], .keepO [2003]] (ps := [(0 + 2 ≤ 2), (C Try.prog 20 [T.agg [tl r51, ti r51b], tl r51c] (T.tup [tl r240, tb r240b]))]) (e := .normal) (σ' := ⟨[2003], [(32, vb r240b), (31, vl r240), (27, vb r207c), (26, vbl r207b), (25, vi r207), (18, vb r137b), (17, vb r137), (6, vb r57b), (5, vbl r57), (4, vl r51c), (3, V.ref 2003 0), (2, vb false)], [(2003, oc 26 [tl r51, ti r51b])]⟩) (by kernel_rfl) ⟨by decide, (F_impl_NeedlessQuestions_W_C r51 r51b r51c r240 r240b c14), trivial⟩ ?_
                            refine WP.seq ?_
                            refine WP.seq ?_
                            obtain ⟨r246, r246b, c15, h⟩ := bnd2_some h
                            refine WP.path tab_ok mixed [(246, An.call (T.tup [tl r246, tb r246b]))] [.keep [34, 33, 32, 31, 27, 26, 25, 18, 17, 6, 5, 4, 3, 2], .keepO [2003]] (ps := [(0 + 2 ≤ 2), (C Try.prog 21 [T.agg [tl r51, ti r51b], tl r51c] (T.tup [tl r246, tb r246b]))]) (e := .normal) (σ' := ⟨[2003], [(34, vb r246b), (33, vl r246), (32, vb r240b), (31, vl r240), (27, vb r207c), (26, vbl r207b), (25, vi r207), (18, vb r137b), (17, vb r137), (6, vb r57b), (5, vbl r57), (4, vl r51c), (3, V.ref 2003 0), (2, vb false)], [(2003, oc 26 [tl r51, ti r51b])]⟩) (by kernel_rfl) ⟨by decide, (F_spec_NeedlessQuestions_W_C r51 r51b r51c r246 r246b c15), trivial⟩ ?_
                            obtain ⟨J1, hJ1, h⟩ := jn_some h
                            refine WP.joinA (fun (zz : Bool) => ⟨[2003], [(265, vb zz), (31, vl r240), (27, vb r207c), (26, vbl r207b), (25, vi r207), (6, vb r57b), (5, vbl r57), (4, vl r51c), (3, V.ref 2003 0), (2, vb false)], [(2003, oc 26 [tl r51, ti r51b])]⟩) (fun zz => J1 zz = some y0) ?_ ?_
                            · -- to where they meet
                              rcases ite_some h with ⟨h26, h⟩ | ⟨h26, h⟩
                              · -- yes
                                refine WP.path tab_ok mixed [(251, An.b true)] [.keep [265, 31, 27, 26, 25, 6, 5, 4, 3, 2], .keepO [2003], .names [(2003, 2003)]] (ps := [(True), ((!(r240b == r246b)) = true)]) (e := .normal) (σ' := ⟨[2003], [(265, vb true), (31, vl r240), (27, vb r207c), (26, vbl r207b), (25, vi r207), (6, vb r57b), (5, vbl r57), (4, vl r51c), (3, V.ref 2003 0), (2, vb false)], [(2003, oc 26 [tl r51, ti r51b])]⟩) (by kernel_rfl) ⟨trivial, h26, trivial⟩ ?_
                                exact ⟨(true), h, rfl⟩
                              · -- no
                                rcases ite_some h with ⟨h27, h⟩ | ⟨h27, h⟩
                                · -- yes
                                  rcases ite_some h with ⟨h28, h⟩ | ⟨h28, h⟩
                                  · -- yes
                                    refine WP.path tab_ok mixed [(251, An.b false), (255, An.b true), (258, An.b true)] [.keep [265, 31, 27, 26, 25, 6, 5, 4, 3, 2], .keepO [2003], .names [(2003, 2003)]] (ps := [(True), ((!(r240b == r246b)) = false), ((r137b) = true), (True), ((!(r240b == r137)) = true)]) (e := .normal) (σ' := ⟨[2003], [(265, vb true), (31, vl r240), (27, vb r207c), (26, vbl r207b), (25, vi r207), (6, vb r57b), (5, vbl r57), (4, vl r51c), (3, V.ref 2003 0), (2, vb false)], [(2003, oc 26 [tl r51, ti r51b])]⟩) (by kernel_rfl) ⟨trivial, h26, h27, trivial, h28, trivial⟩ ?_
                                    exact ⟨(true), h, rfl⟩
                                  · -- no
                                    obtain ⟨r263, c16, h⟩ := bnd1_some h
                                    refine WP.path tab_ok mixed [(251, An.b false), (255, An.b true), (258, An.b false), (263, An.call (tb r263))] [.keep [265, 31, 27, 26, 25, 6, 5, 4, 3, 2], .keepO [2003], .names [(2003, 2003)]] (ps := [(True), ((!(r240b == r246b)) = false), ((r137b) = true), (True), ((!(r240b == r137)) = false), (C Try.prog 22 [tl r240, tl r246] (tb r263))]) (e := .normal) (σ' := ⟨[2003], [(265, vb (!r263)), (31, vl r240), (27, vb r207c), (26, vbl r207b), (25, vi r207), (6, vb r57b), (5, vbl r57), (4, vl r51c), (3, V.ref 2003 0), (2, vb false)], [(2003, oc 26 [tl r51, ti r51b])]⟩) (by kernel_rfl) ⟨trivial, h26, h27, trivial, h28, (F_laws_rInts_W r240 r246 r263 c16), trivial⟩ ?_
                                    exact ⟨(!r263), h, rfl⟩
                                · -- no
                                  rcases ite_some h with ⟨h29, h⟩ | ⟨h29, h⟩
                                  · -- yes
                                    refine WP.path tab_ok mixed [(251, An.b false), (255, An.b false), (258, An.b true)] [.keep [265, 31, 27, 26, 25, 6, 5, 4, 3, 2], .keepO [2003], .names [(2003, 2003)]] (ps := [(True), ((!(r240b == r246b)) = false), ((r137b) = false), (True), ((!(r240b == false)) = true)]) (e := .normal) (σ' := ⟨[2003], [(265, vb true), (31, vl r240), (27, vb r207c), (26, vbl r207b), (25, vi r207), (6, vb r57b), (5, vbl r57), (4, vl r51c), (3, V.ref 2003 0), (2, vb false)], [(2003, oc 26 [tl r51, ti r51b])]⟩) (by kernel_rfl) ⟨trivial, h26, h27, trivial, h29, trivial⟩ ?_
                                    exact ⟨(true), h, rfl⟩
                                  · -- no
                                    obtain ⟨r263, c16, h⟩ := bnd1_some h
                                    refine WP.path tab_ok mixed [(251, An.b false), (255, An.b false), (258, An.b false), (263, An.call (tb r263))] [.keep [265, 31, 27, 26, 25, 6, 5, 4, 3, 2], .keepO [2003], .names [(2003, 2003)]] (ps := [(True), ((!(r240b == r246b)) = false), ((r137b) = false), (True), ((!(r240b == false)) = false), (C Try.prog 22 [tl r240, tl r246] (tb r263))]) (e := .normal) (σ' := ⟨[2003], [(265, vb (!r263)), (31, vl r240), (27, vb r207c), (26, vbl r207b), (25, vi r207), (6, vb r57b), (5, vbl r57), (4, vl r51c), (3, V.ref 2003 0), (2, vb false)], [(2003, oc 26 [tl r51, ti r51b])]⟩) (by kernel_rfl) ⟨trivial, h26, h27, trivial, h29, (F_laws_rInts_W r240 r246 r263 c16), trivial⟩ ?_
                                    exact ⟨(!r263), h, rfl⟩
                            · -- from there
                              intro v265 h0
                              have h := (show J1 v265 = some y0 from h0)
                              rw [hJ1] at h
                              rcases ite_some h with ⟨h30, h⟩ | ⟨h30, h⟩
                              · -- yes
                                refine WP.cond (b := v265) rfl (fun _ => ?_) (fun hh => by rw [h30] at hh; cases hh)
                                have h := Option.some.inj h
                                subst h
                                exact WP.pathW tab_ok mixed [] _ (ps := []) (r := tb false) (by kernel_rfl) trivial (WkT.eq (y := tb false) (WkT.refl _) rfl) (fun _ h => h)
                              · -- no
                                refine WP.cond (b := v265) rfl (fun hh => by rw [h30] at hh; cases hh) (fun _ => ?_)
                                refine WP.path tab_ok mixed [] [.keep [31, 27, 26, 25, 6, 5, 4, 3, 2], .keepO [2003]] (ps := []) (e := .normal) (σ' := ⟨[2003], [(31, vl r240), (27, vb r207c), (26, vbl r207b), (25, vi r207), (6, vb r57b), (5, vbl r57), (4, vl r51c), (3, V.ref 2003 0), (2, vb false)], [(2003, oc 26 [tl r51, ti r51b])]⟩) (by kernel_rfl) trivial ?_
                                obtain ⟨J1, hJ1, h⟩ := jn_some h
                                refine WP.joinA (fun (zz : Unit) => ⟨[2003], [(27, vb r207c), (26, vbl r207b), (25, vi r207), (6, vb r57b), (5, vbl r57), (4, vl r51c), (3, V.ref 2003 0), (2, vb false)], [(2003, oc 26 [tl r51, ti r51b])]⟩) (fun zz => J1 () = some y0) ?_ ?_
                                · -- to where they meet
                                  refine WP.seq ?_
                                  refine WP.path tab_ok mixed [] [.keep [35, 31, 27, 26, 25, 6, 5, 4, 3, 2], .keepO [2003]] (ps := []) (e := .normal) (σ' := ⟨[2003], [(35, vi 0), (31, vl r240), (27, vb r207c), (26, vbl r207b), (25, vi r207), (6, vb r57b), (5, vbl r57), (4, vl r51c), (3, V.ref 2003 0), (2, vb false)], [(2003, oc 26 [tl r51, ti r51b])]⟩) (by kernel_rfl) trivial ?_
                                  refine WP.block ?_
                                  refine WP.wk [.keep [35, 31, 27, 26, 25, 6, 5, 4, 3, 2], .keepO [2003], .names [(2003, 2003)]] (σ' := ⟨[2003], [(35, vi 0), (31, vl r240), (27, vb r207c), (26, vbl r207b), (25, vi r207), (6, vb r57b), (5, vbl r57), (4, vl r51c), (3, V.ref 2003 0), (2, vb false)], [(2003, oc 26 [tl r51, ti r51b])]⟩) (ps := []) (by kernel_rfl) trivial ?_
                                  refine WP.st (σ' := ⟨[2003], [(35, vi (0 : Int)), (31, vl r240), (27, vb r207c), (26, vbl r207b), (25, vi r207), (6, vb r57b), (5, vbl r57), (4, vl r51c), (3, V.ref 2003 0), (2, vb false)], [(2003, oc 26 [tl r51, ti r51b])]⟩) (by first | rfl | (simp only [tlS, tl, vl, vo, oc, ov, tbl, vbl, ty, vy] <;> rfl) | (simp <;> omega) | (simp []; done) | (rw [List.take_of_length_le (by simp [])] <;> rfl) | (simp [List.take_of_length_le]; done)) ?_
                                  refine WP.loop (α := Nat × Int) (fun zz => ⟨[2003], [(35, vi zz.2), (31, vl r240), (27, vb r207c), (26, vbl r207b), (25, vi r207), (6, vb r57b), (5, vbl r57), (4, vl r51c), (3, V.ref 2003 0), (2, vb false)], [(2003, oc 26 [tl r51, ti r51b])]⟩) (fun zz => F_laws_FnHolding_L1 r51 r51b r51c r240 J1 zz.1 zz.2 = some y0) (fun zz => zz.1) (fuel, (0 : Int)) h ?_
                                  rintro ⟨n, v35⟩ h0
                                  have h := (show F_laws_FnHolding_L1 r51 r51b r51c r240 J1 n v35 = some y0 from h0)
                                  rcases n with _ | n
                                  · rw [F_laws_FnHolding_L1] at h; cases h
                                  · rw [F_laws_FnHolding_L1] at h
                                    refine WP.seq ?_
                                    refine WP.seq ?_
                                    refine WP.path tab_ok mixed [] [.keep [269, 35, 31, 27, 26, 25, 6, 5, 4, 3, 2], .keepO [2003]] (ps := [(True)]) (e := .normal) (σ' := ⟨[2003], [(269, vb (decide (v35 < ((List.length r240 : Nat) : Int)))), (35, vi v35), (31, vl r240), (27, vb r207c), (26, vbl r207b), (25, vi r207), (6, vb r57b), (5, vbl r57), (4, vl r51c), (3, V.ref 2003 0), (2, vb false)], [(2003, oc 26 [tl r51, ti r51b])]⟩) (by kernel_rfl) ⟨trivial, trivial⟩ ?_
                                    rcases ite_some h with ⟨h31, h⟩ | ⟨h31, h⟩
                                    · -- yes
                                      refine WP.cond (b := decide (v35 < ((List.length r240 : Nat) : Int))) rfl (fun _ => ?_) (fun hh => by rw [h31] at hh; cases hh)
                                      refine WP.path tab_ok mixed [] [.keep [35, 31, 27, 26, 25, 6, 5, 4, 3, 2], .keepO [2003]] (ps := []) (e := .normal) (σ' := ⟨[2003], [(35, vi v35), (31, vl r240), (27, vb r207c), (26, vbl r207b), (25, vi r207), (6, vb r57b), (5, vbl r57), (4, vl r51c), (3, V.ref 2003 0), (2, vb false)], [(2003, oc 26 [tl r51, ti r51b])]⟩) (by kernel_rfl) trivial ?_
                                      refine WP.seq ?_
                                      refine WP.block ?_
                                      refine WP.seq ?_
                                      obtain ⟨c16, h⟩ := chk_some h
                                      obtain ⟨c17, h⟩ := chk_some h
                                      obtain ⟨c18, h⟩ := chk_some h
                                      obtain ⟨c19, h⟩ := chk_some h
                                      obtain ⟨n285, c20, h⟩ := nam_some h
                                      obtain ⟨c21, h⟩ := chk_some h
                                      obtain ⟨c22, h⟩ := chk_some h
                                      refine WP.path tab_ok mixed [(272, An.id 2272), (277, An.v (ti (List.getD r240 (Int.toNat v35) 0))), (278, An.v (tl (List.take (Int.toNat (List.getD r240 (Int.toNat v35) 0) - Int.toNat (0 : Int)) (List.drop (Int.toNat (0 : Int)) r51c)))), (279, An.id 2279), (284, An.v (ti (List.getD r240 (Int.toNat v35) 0))), (285, An.v (ti n285)), (286, An.v (tl (List.take (Int.toNat ((List.length r51c : Nat) : Int) - Int.toNat n285) (List.drop (Int.toNat n285) r51c)))), (287, An.id 2287)] [.keep [36, 35, 31, 27, 26, 25, 6, 5, 4, 3, 2], .keepO [2003, 2287]] (ps := [(True), (0 = 0 * 1), ((0 ≤ v35 ∧ v35 < ((List.length r240 : Nat) : Int))), ((List.drop ((Int.toNat v35) * 1) (List.map (T.int .i64) r240) : List T)[0]? = some (ti (List.getD r240 (Int.toNat v35) 0))), (ti (List.getD r240 (Int.toNat v35) 0) = ti (List.getD r240 (Int.toNat v35) 0)), ((0 ≤ (0 : Int) ∧ (0 : Int) ≤ (List.getD r240 (Int.toNat v35) 0) ∧ (List.getD r240 (Int.toNat v35) 0) ≤ ((List.length r51c : Nat) : Int))), (T.list ((Int.toNat (List.getD r240 (Int.toNat v35) 0)) - 0) 1 (List.take (((Int.toNat (List.getD r240 (Int.toNat v35) 0)) - 0) * 1) (List.map (T.int .i64) r51c)) = tl (List.take (Int.toNat (List.getD r240 (Int.toNat v35) 0) - Int.toNat (0 : Int)) (List.drop (Int.toNat (0 : Int)) r51c))), (True), (0 = 0 * 1), (((0 + (List.length (List.take (Int.toNat (List.getD r240 (Int.toNat v35) 0) - Int.toNat (0 : Int)) (List.drop (Int.toNat (0 : Int)) r51c)))) * 8 ≤ 140737488355328 ∧ 0 + (List.length (List.take (Int.toNat (List.getD r240 (Int.toNat v35) 0) - Int.toNat (0 : Int)) (List.drop (Int.toNat (0 : Int)) r51c))) ≤ maxLen)), ((0 ≤ v35 ∧ v35 < ((List.length r240 : Nat) : Int))), ((List.drop ((Int.toNat v35) * 1) (List.map (T.int .i64) r240) : List T)[0]? = some (ti (List.getD r240 (Int.toNat v35) 0))), (ti (List.getD r240 (Int.toNat v35) 0) = ti (List.getD r240 (Int.toNat v35) 0)), (True), (T.int .i64 (IntKind.wrap .i64 ((List.getD r240 (Int.toNat v35) 0) + (1 : Int))) = ti n285), ((0 ≤ n285 ∧ n285 ≤ ((List.length r51c : Nat) : Int) ∧ ((List.length r51c : Nat) : Int) ≤ ((List.length r51c : Nat) : Int))), (T.list ((Int.toNat ((List.length r51c : Nat) : Int)) - (Int.toNat n285)) 1 (List.take (((Int.toNat ((List.length r51c : Nat) : Int)) - (Int.toNat n285)) * 1) (List.drop ((Int.toNat n285) * 1) (List.map (T.int .i64) r51c))) = tl (List.take (Int.toNat ((List.length r51c : Nat) : Int) - Int.toNat n285) (List.drop (Int.toNat n285) r51c))), (True), (List.length (List.map (T.int .i64) (List.take (Int.toNat (List.getD r240 (Int.toNat v35) 0) - Int.toNat (0 : Int)) (List.drop (Int.toNat (0 : Int)) r51c))) = (0 + (List.length (List.take (Int.toNat (List.getD r240 (Int.toNat v35) 0) - Int.toNat (0 : Int)) (List.drop (Int.toNat (0 : Int)) r51c)))) * 1), ((((0 + (List.length (List.take (Int.toNat (List.getD r240 (Int.toNat v35) 0) - Int.toNat (0 : Int)) (List.drop (Int.toNat (0 : Int)) r51c)))) + (List.length (List.take (Int.toNat ((List.length r51c : Nat) : Int) - Int.toNat n285) (List.drop (Int.toNat n285) r51c)))) * 8 ≤ 140737488355328 ∧ (0 + (List.length (List.take (Int.toNat (List.getD r240 (Int.toNat v35) 0) - Int.toNat (0 : Int)) (List.drop (Int.toNat (0 : Int)) r51c)))) + (List.length (List.take (Int.toNat ((List.length r51c : Nat) : Int) - Int.toNat n285) (List.drop (Int.toNat n285) r51c))) ≤ maxLen))]) (e := .normal) (σ' := ⟨[2287, 2279, 2272, 2003], [(36, vo 2287 ((0 + (List.length (List.take (Int.toNat (List.getD r240 (Int.toNat v35) 0) - Int.toNat (0 : Int)) (List.drop (Int.toNat (0 : Int)) r51c)))) + (List.length (List.take (Int.toNat ((List.length r51c : Nat) : Int) - Int.toNat n285) (List.drop (Int.toNat n285) r51c))))), (35, vi v35), (31, vl r240), (27, vb r207c), (26, vbl r207b), (25, vi r207), (6, vb r57b), (5, vbl r57), (4, vl r51c), (3, V.ref 2003 0), (2, vb false)], [(2003, oc 26 [tl r51, ti r51b]), (2287, oc 3 ((List.map (T.int .i64) (List.take (Int.toNat (List.getD r240 (Int.toNat v35) 0) - Int.toNat (0 : Int)) (List.drop (Int.toNat (0 : Int)) r51c))) ++ (List.map (T.int .i64) (List.take (Int.toNat ((List.length r51c : Nat) : Int) - Int.toNat n285) (List.drop (Int.toNat n285) r51c)))))]⟩) (by kernel_rfl) ⟨trivial, by decide, c16, at1 (by simp) (by omega), rfl, c17, sl1z (l := (0 : Int)) (h := (List.getD r240 (Int.toNat v35) 0)) c17 (by first | rfl | (simp; done) | omega) (by first | rfl | omega | (simp; done)) (by first | rfl | omega | (simp; done)), trivial, by decide, c18, c16, at1 (by simp) (by omega), rfl, trivial, Eq.trans (wrapI c19) (congrArg (ti) c20), c21, sl1 (l := n285) (h := ((List.length r51c : Nat) : Int)) c21 (by first | rfl | (simp; done) | omega) (by first | rfl | omega | (simp; done)) (by first | rfl | omega | (simp; done)), trivial, by first | rfl | omega | (simp only [tlL] <;> omega) | (simp <;> omega) | (simp [] <;> omega), c22, trivial⟩ ?_
                                      refine WP.seq ?_
                                      obtain ⟨r291, r291b, c23, h⟩ := bnd2_some h
                                      refine WP.path tab_ok mixed [(291, An.callW [T.agg [tl r51, ti r51b], tl ((List.take (Int.toNat (List.getD r240 (Int.toNat v35) 0) - Int.toNat (0 : Int)) (List.drop (Int.toNat (0 : Int)) r51c)) ++ (List.take (Int.toNat ((List.length r51c : Nat) : Int) - Int.toNat n285) (List.drop (Int.toNat n285) r51c)))] (T.tup [tb r291, tb r291b]))] [.keep [38, 37, 35, 31, 27, 26, 25, 6, 5, 4, 3, 2], .keepO [2003]] (ps := [(0 + 2 ≤ 2), (C Try.prog 14 [T.agg [tl r51, ti r51b], tl ((List.take (Int.toNat (List.getD r240 (Int.toNat v35) 0) - Int.toNat (0 : Int)) (List.drop (Int.toNat (0 : Int)) r51c)) ++ (List.take (Int.toNat ((List.length r51c : Nat) : Int) - Int.toNat n285) (List.drop (Int.toNat n285) r51c)))] (T.tup [tb r291, tb r291b])), (WkL [T.agg [tl r51, ti r51b], T.list ((0 + (List.length (List.take (Int.toNat (List.getD r240 (Int.toNat v35) 0) - Int.toNat (0 : Int)) (List.drop (Int.toNat (0 : Int)) r51c)))) + (List.length (List.take (Int.toNat ((List.length r51c : Nat) : Int) - Int.toNat n285) (List.drop (Int.toNat n285) r51c)))) 1 ((List.map (T.int .i64) (List.take (Int.toNat (List.getD r240 (Int.toNat v35) 0) - Int.toNat (0 : Int)) (List.drop (Int.toNat (0 : Int)) r51c))) ++ (List.map (T.int .i64) (List.take (Int.toNat ((List.length r51c : Nat) : Int) - Int.toNat n285) (List.drop (Int.toNat n285) r51c))))] [T.agg [tl r51, ti r51b], tl ((List.take (Int.toNat (List.getD r240 (Int.toNat v35) 0) - Int.toNat (0 : Int)) (List.drop (Int.toNat (0 : Int)) r51c)) ++ (List.take (Int.toNat ((List.length r51c : Nat) : Int) - Int.toNat n285) (List.drop (Int.toNat n285) r51c)))]), (List.length ((List.map (T.int .i64) (List.take (Int.toNat (List.getD r240 (Int.toNat v35) 0) - Int.toNat (0 : Int)) (List.drop (Int.toNat (0 : Int)) r51c))) ++ (List.map (T.int .i64) (List.take (Int.toNat ((List.length r51c : Nat) : Int) - Int.toNat n285) (List.drop (Int.toNat n285) r51c)))) = ((0 + (List.length (List.take (Int.toNat (List.getD r240 (Int.toNat v35) 0) - Int.toNat (0 : Int)) (List.drop (Int.toNat (0 : Int)) r51c)))) + (List.length (List.take (Int.toNat ((List.length r51c : Nat) : Int) - Int.toNat n285) (List.drop (Int.toNat n285) r51c)))) * 1)]) (e := .normal) (σ' := ⟨[2287, 2279, 2272, 2003], [(38, vb r291b), (37, vb r291), (35, vi v35), (31, vl r240), (27, vb r207c), (26, vbl r207b), (25, vi r207), (6, vb r57b), (5, vbl r57), (4, vl r51c), (3, V.ref 2003 0), (2, vb false)], [(2003, oc 26 [tl r51, ti r51b])]⟩) (by kernel_rfl) ⟨by decide, (F_impl_DoTell_W r51 r51b ((List.take (Int.toNat (List.getD r240 (Int.toNat v35) 0) - Int.toNat (0 : Int)) (List.drop (Int.toNat (0 : Int)) r51c)) ++ (List.take (Int.toNat ((List.length r51c : Nat) : Int) - Int.toNat n285) (List.drop (Int.toNat n285) r51c))) r291 r291b c23), (WkL.cons (WkT.refl _) (WkL.cons (WkT.eq (WkT.refl _) (by first | rfl | (simp only [tlS, tl, vl, vo, oc, ov, tbl, vbl, ty, vy] <;> rfl) | (simp <;> omega) | (simp []; done) | (rw [List.take_of_length_le (by simp [])] <;> rfl) | (simp [List.take_of_length_le]; done))) WkL.nil)), by first | rfl | omega | (simp only [tlL] <;> omega) | (simp <;> omega) | (simp [] <;> omega), trivial⟩ ?_
                                      obtain ⟨J2, hJ2, h⟩ := jn_some h
                                      refine WP.joinA (fun (zz : Bool) => ⟨[2003], [(299, vb zz), (35, vi v35), (31, vl r240), (27, vb r207c), (26, vbl r207b), (25, vi r207), (6, vb r57b), (5, vbl r57), (4, vl r51c), (3, V.ref 2003 0), (2, vb false)], [(2003, oc 26 [tl r51, ti r51b])]⟩) (fun zz => J2 zz = some y0) ?_ ?_
                                      · -- to where they meet
                                        rcases ite_some h with ⟨h32, h⟩ | ⟨h32, h⟩
                                        · -- yes
                                          refine WP.path tab_ok mixed [(296, An.b true)] [.keep [299, 35, 31, 27, 26, 25, 6, 5, 4, 3, 2], .keepO [2003], .names [(2003, 2003)]] (ps := [((!r291b) = true)]) (e := .normal) (σ' := ⟨[2003], [(299, vb true), (35, vi v35), (31, vl r240), (27, vb r207c), (26, vbl r207b), (25, vi r207), (6, vb r57b), (5, vbl r57), (4, vl r51c), (3, V.ref 2003 0), (2, vb false)], [(2003, oc 26 [tl r51, ti r51b])]⟩) (by kernel_rfl) ⟨h32, trivial⟩ ?_
                                          exact ⟨(true), h, rfl⟩
                                        · -- no
                                          refine WP.path tab_ok mixed [(296, An.b false)] [.keep [299, 35, 31, 27, 26, 25, 6, 5, 4, 3, 2], .keepO [2003], .names [(2003, 2003)]] (ps := [((!r291b) = false)]) (e := .normal) (σ' := ⟨[2003], [(299, vb (!r291)), (35, vi v35), (31, vl r240), (27, vb r207c), (26, vbl r207b), (25, vi r207), (6, vb r57b), (5, vbl r57), (4, vl r51c), (3, V.ref 2003 0), (2, vb false)], [(2003, oc 26 [tl r51, ti r51b])]⟩) (by kernel_rfl) ⟨h32, trivial⟩ ?_
                                          exact ⟨(!r291), h, rfl⟩
                                      · -- from there
                                        intro v299 h0
                                        have h := (show J2 v299 = some y0 from h0)
                                        rw [hJ2] at h
                                        rcases ite_some h with ⟨h33, h⟩ | ⟨h33, h⟩
                                        · -- yes
                                          refine WP.cond (b := v299) rfl (fun _ => ?_) (fun hh => by rw [h33] at hh; cases hh)
                                          have h := Option.some.inj h
                                          subst h
                                          exact WP.pathW tab_ok mixed [] _ (ps := []) (r := tb false) (by kernel_rfl) trivial (WkT.eq (y := tb false) (WkT.refl _) rfl) (fun _ h => h)
                                        · -- no
                                          refine WP.cond (b := v299) rfl (fun hh => by rw [h33] at hh; cases hh) (fun _ => ?_)
                                          refine WP.path tab_ok mixed [] [.keep [35, 31, 27, 26, 25, 6, 5, 4, 3, 2], .keepO [2003]] (ps := []) (e := .normal) (σ' := ⟨[2003], [(35, vi v35), (31, vl r240), (27, vb r207c), (26, vbl r207b), (25, vi r207), (6, vb r57b), (5, vbl r57), (4, vl r51c), (3, V.ref 2003 0), (2, vb false)], [(2003, oc 26 [tl r51, ti r51b])]⟩) (by kernel_rfl) trivial ?_
                                          obtain ⟨c24, h⟩ := chk_some h
                                          refine WP.path tab_ok mixed [(271, An.v (T.int .i64 (v35 + (1 : Int))))] [.keep [35, 31, 27, 26, 25, 6, 5, 4, 3, 2], .keepO [2003], .names [(2003, 2003)]] (ps := [(True), (T.int .i64 (IntKind.wrap .i64 (v35 + (1 : Int))) = T.int .i64 (v35 + (1 : Int)))]) (e := .normal) (σ' := ⟨[2003], [(35, vi (v35 + (1 : Int))), (31, vl r240), (27, vb r207c), (26, vbl r207b), (25, vi r207), (6, vb r57b), (5, vbl r57), (4, vl r51c), (3, V.ref 2003 0), (2, vb false)], [(2003, oc 26 [tl r51, ti r51b])]⟩) (by kernel_rfl) ⟨trivial, wrapI c24, trivial⟩ ?_
                                          exact ⟨(n, (v35 + (1 : Int))), h, Nat.lt_succ_self _, rfl⟩
                                    · -- no
                                      refine WP.cond (b := decide (v35 < ((List.length r240 : Nat) : Int))) rfl (fun hh => by rw [h31] at hh; cases hh) (fun _ => ?_)
                                      refine WP.path tab_ok mixed [] [.keep [27, 26, 25, 6, 5, 4, 3, 2], .keepO [2003], .names [(2003, 2003)]] (ps := []) (e := (.exit 0)) (σ' := ⟨[2003], [(27, vb r207c), (26, vbl r207b), (25, vi r207), (6, vb r57b), (5, vbl r57), (4, vl r51c), (3, V.ref 2003 0), (2, vb false)], [(2003, oc 26 [tl r51, ti r51b])]⟩) (by kernel_rfl) trivial ?_
                                      exact ⟨(), h, rfl⟩
                                · -- from there
                                  intro _ h0
                                  have h := (show J1 () = some y0 from h0)
                                  rw [hJ1] at h
                                  obtain ⟨J1, hJ1, h⟩ := jn_some h
                                  refine WP.joinA (fun (zz : Unit) => ⟨[2003], [(6, vb r57b), (5, vbl r57), (4, vl r51c), (3, V.ref 2003 0), (2, vb false)], [(2003, oc 26 [tl r51, ti r51b])]⟩) (fun zz => J1 () = some y0) ?_ ?_
                                  · -- to where they meet
                                    refine WP.seq ?_
                                    refine WP.path tab_ok mixed [] [.keep [300, 26, 25, 6, 5, 4, 3, 2], .keepO [2003]] (ps := []) (e := .normal) (σ' := ⟨[2003], [(300, vb r207c), (26, vbl r207b), (25, vi r207), (6, vb r57b), (5, vbl r57), (4, vl r51c), (3, V.ref 2003 0), (2, vb false)], [(2003, oc 26 [tl r51, ti r51b])]⟩) (by kernel_rfl) trivial ?_
                                    rcases ite_some h with ⟨h34, h⟩ | ⟨h34, h⟩
                                    · -- yes
                                      refine WP.cond (b := r207c) rfl (fun _ => ?_) (fun hh => by rw [h34] at hh; cases hh)
                                      refine WP.seq ?_
                                      obtain ⟨r305, r305b, r305c, c16, h⟩ := bnd3_some h
                                      refine WP.path tab_ok mixed [(305, An.call (T.tup [T.agg [tl r305, ti r305b], tb r305c])), (39, An.id 2039)] [.keep [40, 39, 25, 6, 5, 4, 3, 2], .keepO [2003, 2039]] (ps := [(0 + 2 ≤ 2), (C Try.prog 23 [T.agg [tl r51, ti r51b], tl r51c, tbl r207b] (T.tup [T.agg [tl r305, ti r305b], tb r305c])), ((0 + 2 ≤ 2 ∧ 2 = 2))]) (e := .normal) (σ' := ⟨[2039, 2003], [(40, vb r305c), (39, V.ref 2039 0), (25, vi r207), (6, vb r57b), (5, vbl r57), (4, vl r51c), (3, V.ref 2003 0), (2, vb false)], [(2003, oc 26 [tl r51, ti r51b]), (2039, oc 26 [tl r305, ti r305b])]⟩) (by kernel_rfl) ⟨by decide, (F_impl_AnswerList_W_C r51 r51b r51c r207b r305 r305b r305c c16), by decide, trivial⟩ ?_
                                      refine WP.seq ?_
                                      obtain ⟨r310, r310b, c17, h⟩ := bnd2_some h
                                      refine WP.path tab_ok mixed [(310, An.call (T.tup [tl r310, tb r310b]))] [.keep [42, 41, 40, 25, 6, 5, 4, 3, 2], .keepO [2003]] (ps := [(0 + 2 ≤ 2), (C Try.prog 24 [T.agg [tl r305, ti r305b]] (T.tup [tl r310, tb r310b]))]) (e := .normal) (σ' := ⟨[2039, 2003], [(42, vb r310b), (41, vl r310), (40, vb r305c), (25, vi r207), (6, vb r57b), (5, vbl r57), (4, vl r51c), (3, V.ref 2003 0), (2, vb false)], [(2003, oc 26 [tl r51, ti r51b])]⟩) (by kernel_rfl) ⟨by decide, (F_impl_OpenNumbers_W_C r305 r305b r310 r310b c17), trivial⟩ ?_
                                      obtain ⟨J2, hJ2, h⟩ := jn_some h
                                      refine WP.joinA (fun (zz : Bool) => ⟨[2003], [(330, vb zz), (6, vb r57b), (5, vbl r57), (4, vl r51c), (3, V.ref 2003 0), (2, vb false)], [(2003, oc 26 [tl r51, ti r51b])]⟩) (fun zz => J2 zz = some y0) ?_ ?_
                                      · -- to where they meet
                                        rcases ite_some h with ⟨h35, h⟩ | ⟨h35, h⟩
                                        · -- yes
                                          refine WP.path tab_ok mixed [(315, An.b true)] [.keep [330, 6, 5, 4, 3, 2], .keepO [2003], .names [(2003, 2003)]] (ps := [((!r305c) = true)]) (e := .normal) (σ' := ⟨[2003], [(330, vb true), (6, vb r57b), (5, vbl r57), (4, vl r51c), (3, V.ref 2003 0), (2, vb false)], [(2003, oc 26 [tl r51, ti r51b])]⟩) (by kernel_rfl) ⟨h35, trivial⟩ ?_
                                          exact ⟨(true), h, rfl⟩
                                        · -- no
                                          rcases ite_some h with ⟨h36, h⟩ | ⟨h36, h⟩
                                          · -- yes
                                            refine WP.path tab_ok mixed [(315, An.b false), (319, An.b true)] [.keep [330, 6, 5, 4, 3, 2], .keepO [2003], .names [(2003, 2003)]] (ps := [((!r305c) = false), ((!r310b) = true)]) (e := .normal) (σ' := ⟨[2003], [(330, vb true), (6, vb r57b), (5, vbl r57), (4, vl r51c), (3, V.ref 2003 0), (2, vb false)], [(2003, oc 26 [tl r51, ti r51b])]⟩) (by kernel_rfl) ⟨h35, h36, trivial⟩ ?_
                                            exact ⟨(true), h, rfl⟩
                                          · -- no
                                            rcases ite_some h with ⟨h37, h⟩ | ⟨h37, h⟩
                                            · -- yes
                                              refine WP.path tab_ok mixed [(315, An.b false), (319, An.b false), (323, An.b true)] [.keep [330, 6, 5, 4, 3, 2], .keepO [2003], .names [(2003, 2003)]] (ps := [((!r305c) = false), ((!r310b) = false), (True), ((((List.length r310 : Nat) : Int) != r207) = true)]) (e := .normal) (σ' := ⟨[2003], [(330, vb true), (6, vb r57b), (5, vbl r57), (4, vl r51c), (3, V.ref 2003 0), (2, vb false)], [(2003, oc 26 [tl r51, ti r51b])]⟩) (by kernel_rfl) ⟨h35, h36, trivial, h37, trivial⟩ ?_
                                              exact ⟨(true), h, rfl⟩
                                            · -- no
                                              refine WP.path tab_ok mixed [(315, An.b false), (319, An.b false), (323, An.b false)] [.keep [330, 6, 5, 4, 3, 2], .keepO [2003], .names [(2003, 2003)]] (ps := [((!r305c) = false), ((!r310b) = false), (True), ((((List.length r310 : Nat) : Int) != r207) = false), (True), (True)]) (e := .normal) (σ' := ⟨[2003], [(330, vb (!((decide (r207 > (1 : Int))) == r57b))), (6, vb r57b), (5, vbl r57), (4, vl r51c), (3, V.ref 2003 0), (2, vb false)], [(2003, oc 26 [tl r51, ti r51b])]⟩) (by kernel_rfl) ⟨h35, h36, trivial, h37, trivial, trivial, trivial⟩ ?_
                                              exact ⟨(!((decide (r207 > (1 : Int))) == r57b)), h, rfl⟩
                                      · -- from there
                                        intro v330 h0
                                        have h := (show J2 v330 = some y0 from h0)
                                        rw [hJ2] at h
                                        rcases ite_some h with ⟨h38, h⟩ | ⟨h38, h⟩
                                        · -- yes
                                          refine WP.cond (b := v330) rfl (fun _ => ?_) (fun hh => by rw [h38] at hh; cases hh)
                                          have h := Option.some.inj h
                                          subst h
                                          exact WP.pathW tab_ok mixed [] _ (ps := []) (r := tb false) (by kernel_rfl) trivial (WkT.eq (y := tb false) (WkT.refl _) rfl) (fun _ h => h)
                                        · -- no
                                          refine WP.cond (b := v330) rfl (fun hh => by rw [h38] at hh; cases hh) (fun _ => ?_)
                                          refine WP.path tab_ok mixed [] [.keep [6, 5, 4, 3, 2], .keepO [2003], .names [(2003, 2003)]] (ps := []) (e := .normal) (σ' := ⟨[2003], [(6, vb r57b), (5, vbl r57), (4, vl r51c), (3, V.ref 2003 0), (2, vb false)], [(2003, oc 26 [tl r51, ti r51b])]⟩) (by kernel_rfl) trivial ?_
                                          exact ⟨(), h, rfl⟩
                                    · -- no
                                      refine WP.cond (b := r207c) rfl (fun hh => by rw [h34] at hh; cases hh) (fun _ => ?_)
                                      refine WP.path tab_ok mixed [] [.keep [6, 5, 4, 3, 2], .keepO [2003], .names [(2003, 2003)]] (ps := []) (e := .normal) (σ' := ⟨[2003], [(6, vb r57b), (5, vbl r57), (4, vl r51c), (3, V.ref 2003 0), (2, vb false)], [(2003, oc 26 [tl r51, ti r51b])]⟩) (by kernel_rfl) trivial ?_
                                      exact ⟨(), h, rfl⟩
                                  · -- from there
                                    intro _ h0
                                    have h := (show J1 () = some y0 from h0)
                                    rw [hJ1] at h
                                    refine WP.seq ?_
                                    refine WP.seq ?_
                                    refine WP.path tab_ok mixed [] [.keep [332, 5, 4, 3, 2], .keepO [2003]] (ps := []) (e := .normal) (σ' := ⟨[2003], [(332, vb (!r57b)), (5, vbl r57), (4, vl r51c), (3, V.ref 2003 0), (2, vb false)], [(2003, oc 26 [tl r51, ti r51b])]⟩) (by kernel_rfl) trivial ?_
                                    rcases ite_some h with ⟨h39, h⟩ | ⟨h39, h⟩
                                    · -- yes
                                      refine WP.cond (b := !r57b) rfl (fun _ => ?_) (fun hh => by rw [h39] at hh; cases hh)
                                      have h := Option.some.inj h
                                      subst h
                                      exact WP.pathW tab_ok mixed [] _ (ps := []) (r := tb true) (by kernel_rfl) trivial (WkT.eq (y := tb true) (WkT.refl _) rfl) (fun _ h => h)
                                    · -- no
                                      refine WP.cond (b := !r57b) rfl (fun hh => by rw [h39] at hh; cases hh) (fun _ => ?_)
                                      refine WP.path tab_ok mixed [] [.keep [5, 4, 3, 2], .keepO [2003]] (ps := []) (e := .normal) (σ' := ⟨[2003], [(5, vbl r57), (4, vl r51c), (3, V.ref 2003 0), (2, vb false)], [(2003, oc 26 [tl r51, ti r51b])]⟩) (by kernel_rfl) trivial ?_
                                      obtain ⟨r337, r337b, r337c, c16, h⟩ := bnd3_some h
                                      obtain ⟨r342, r342b, c17, h⟩ := bnd2_some h
                                      rcases ite_some h with ⟨h40, h⟩ | ⟨h40, h⟩
                                      · -- yes
                                        rcases ite_some h with ⟨h41, h⟩ | ⟨h41, h⟩
                                        · -- yes
                                          have h := Option.some.inj h
                                          subst h
                                          exact WP.pathW tab_ok mixed [(337, An.call (T.tup [T.agg [tl r337, ti r337b], tb r337c])), (339, An.b true), (43, An.id 2043), (342, An.call (T.tup [tl r342, tb r342b])), (344, An.b true)] _ (ps := [(0 + 2 ≤ 2), (C Try.prog 23 [T.agg [tl r51, ti r51b], tl r51c, tbl r57] (T.tup [T.agg [tl r337, ti r337b], tb r337c])), ((r337c) = true), ((0 + 2 ≤ 2 ∧ 2 = 2)), (0 + 2 ≤ 2), (C Try.prog 24 [T.agg [tl r337, ti r337b]] (T.tup [tl r342, tb r342b])), ((r342b) = true), (True)]) (r := tb (decide (((List.length r342 : Nat) : Int) > (1 : Int)))) (by kernel_rfl) ⟨by decide, (F_impl_AnswerList_W_C r51 r51b r51c r57 r337 r337b r337c c16), h40, by decide, by decide, (F_impl_OpenNumbers_W_C r337 r337b r342 r342b c17), h41, trivial, trivial⟩ (WkT.eq (y := tb (decide (((List.length r342 : Nat) : Int) > (1 : Int)))) (WkT.refl _) rfl) (fun _ h => h)
                                        · -- no
                                          have h := Option.some.inj h
                                          subst h
                                          exact WP.pathW tab_ok mixed [(337, An.call (T.tup [T.agg [tl r337, ti r337b], tb r337c])), (339, An.b true), (43, An.id 2043), (342, An.call (T.tup [tl r342, tb r342b])), (344, An.b false)] _ (ps := [(0 + 2 ≤ 2), (C Try.prog 23 [T.agg [tl r51, ti r51b], tl r51c, tbl r57] (T.tup [T.agg [tl r337, ti r337b], tb r337c])), ((r337c) = true), ((0 + 2 ≤ 2 ∧ 2 = 2)), (0 + 2 ≤ 2), (C Try.prog 24 [T.agg [tl r337, ti r337b]] (T.tup [tl r342, tb r342b])), ((r342b) = false)]) (r := tb false) (by kernel_rfl) ⟨by decide, (F_impl_AnswerList_W_C r51 r51b r51c r57 r337 r337b r337c c16), h40, by decide, by decide, (F_impl_OpenNumbers_W_C r337 r337b r342 r342b c17), h41, trivial⟩ (WkT.eq (y := tb false) (WkT.refl _) rfl) (fun _ h => h)
                                      · -- no
                                        have h := Option.some.inj h
                                        subst h
                                        exact WP.pathW tab_ok mixed [(337, An.call (T.tup [T.agg [tl r337, ti r337b], tb r337c])), (339, An.b false), (43, An.id 2043), (342, An.call (T.tup [tl r342, tb r342b]))] _ (ps := [(0 + 2 ≤ 2), (C Try.prog 23 [T.agg [tl r51, ti r51b], tl r51c, tbl r57] (T.tup [T.agg [tl r337, ti r337b], tb r337c])), ((r337c) = false), ((0 + 2 ≤ 2 ∧ 2 = 2)), (0 + 2 ≤ 2), (C Try.prog 24 [T.agg [tl r337, ti r337b]] (T.tup [tl r342, tb r342b]))]) (r := tb false) (by kernel_rfl) ⟨by decide, (F_impl_AnswerList_W_C r51 r51b r51c r57 r337 r337b r337c c16), h40, by decide, by decide, (F_impl_OpenNumbers_W_C r337 r337b r342 r342b c17), trivial⟩ (WkT.eq (y := tb false) (WkT.refl _) rfl) (fun _ h => h)

end Go.Proofs.Ytopodonemnnjdaa.AuHo
