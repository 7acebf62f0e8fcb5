/-
  The walks: each function of the program returns what the plain function beside it returns. No statement is proved here.
-/
import Derived.Test.YtnpdbllidpijfaaTlV
import Derived.Test.YtnpdbllidpijfaaTlCI
import Derived.Test.YtnpdbllidpijfaaAuRacesF
import Derived.Test.YtnpdbllidpijfaaProg
import Derived.Test.YtnpdbllidpijfaaAuRacesO
namespace Go.Proofs.Ytnpdbllidpijfaa.AuRacesa
open Go Go.Tl Go.Proofs
open Go.Proofs.Ytnpdbllidpijfaa.AuRacesO hiding tab tab_ok mixed
set_option linter.unusedVariables false
set_option linter.unusedSimpArgs false
set_option maxRecDepth 100000
def tab : Tab := [(3, ⟨.int .i64, 1, 8, [.int .i64 0]⟩), (4, ⟨.bool, 1, 1, [.bool false]⟩), (5, ⟨.int .u8, 1, 1, [.int .u8 0]⟩), (22, ⟨.slice 3 1 8, 1, 24, [.nils]⟩), (28, ⟨.struct [(0, 1, false), (1, 1, false)], 2, 32, [.nils, .int .i64 0]⟩), (40, ⟨.slice 4 1 1, 1, 24, [.nils]⟩), (51, ⟨.slice 5 1 1, 1, 24, [.nils]⟩), (65, ⟨.struct [(0, 1, false), (1, 1, false)], 2, 16, [.int .i64 0, .bool false]⟩), (70, ⟨.struct [(0, 1, false), (1, 1, false), (2, 1, false), (3, 1, false), (4, 1, false)], 5, 32, [.bool false, .bool false, .int .i64 0, .int .i64 0, .int .i64 0]⟩), (71, ⟨.slice 70 5 32, 1, 24, [.nils]⟩), (75, ⟨.pointer 104, 1, 8, [.nilp]⟩), (90, ⟨.pointer 93, 1, 8, [.nilp]⟩), (91, ⟨.int .u64, 1, 8, [.int .u64 0]⟩), (93, ⟨.struct [(0, 1, false), (1, 1, false), (2, 1, false)], 3, 40, [.nils, .int .i64 0, .int .u64 0]⟩), (99, ⟨.array 3 3 1 false, 3, 24, [.int .i64 0, .int .i64 0, .int .i64 0]⟩), (101, ⟨.map 3 4, 1, 8, [.nilm]⟩), (102, ⟨.map 3 99, 1, 8, [.nilm]⟩), (104, ⟨.struct [(0, 1, false), (1, 1, false), (2, 1, false)], 3, 40, [.nils, .nilm, .nilm]⟩), (107, ⟨.array 2 28 2 true, 4, 64, [.nils, .int .i64 0, .nils, .int .i64 0]⟩)]
theorem tab_ok : chkTab Try.prog tab = true := by kernel_rfl
theorem mixed : Try.prog.follows .mixedOrders = true := by kernel_rfl
theorem F_spec_l11Choice_W (x0 : List Int) (x1 : Int) (x2 : List Int) (y0 : Bool) (h : F_spec_l11Choice x0 x1 x2 = some y0) : C Try.prog 85 [T.agg [tl x0, ti x1], tl x2] (tb y0) := by
  unfold F_spec_l11Choice at h
  refine C.intro (tab := tab) tab_ok (fn := Try.f85) Try.func85 (by kernel_rfl) rfl (Nat.le_of_ble_eq_true rfl) ?_
  refine WP.seq ?_
  refine WP.path tab_ok mixed [(2, An.fz)] [.keep [4, 2, 1], .keepO []] (ps := []) (e := .normal) (σ' := ⟨[], [(4, vb false), (2, V.t (T.ptr [tl x0, ti x1])), (1, vl x2)], []⟩) (by kernel_rfl) trivial ?_
  obtain ⟨J1, hJ1, h⟩ := jn_some h
  refine WP.joinA (fun (zz : Unit) => ⟨[], [(4, vb false), (1, vl x2)], []⟩) (fun zz => J1 () = some y0) ?_ ?_
  · -- to where they meet
    refine WP.seq ?_
    refine WP.path tab_ok mixed [] [.keep [5, 4, 2, 1], .keepO []] (ps := []) (e := .normal) (σ' := ⟨[], [(5, vi 0), (4, vb false), (2, V.t (T.ptr [tl x0, ti x1])), (1, vl x2)], []⟩) (by kernel_rfl) trivial ?_
    refine WP.block ?_
    refine WP.wk [.keep [5, 4, 2, 1], .keepO [], .names []] (σ' := ⟨[], [(5, vi 0), (4, vb false), (2, V.t (T.ptr [tl x0, ti x1])), (1, vl x2)], []⟩) (ps := []) (by kernel_rfl) trivial ?_
    refine WP.st (σ' := ⟨[], [(5, vi (0 : Int)), (4, vb false), (2, V.t (T.ptr [tl x0, ti x1])), (1, vl x2)], []⟩) (by first | rfl | (simp only [tlS, tl, vl, vo, oc, ov, tbl, vbl, ty, vy] <;> rfl) | (simp <;> omega) | (simp []; done) | (rw [List.take_of_length_le (by simp [])] <;> rfl)) ?_
    refine WP.loop (α := Nat × Int) (fun zz => ⟨[], [(5, vi zz.2), (4, vb false), (2, V.t (T.ptr [tl x0, ti x1])), (1, vl x2)], []⟩) (fun zz => F_spec_l11Choice_L1 x0 x2 J1 zz.1 zz.2 = some y0) (fun zz => zz.1) (fuel, (0 : Int)) h ?_
    rintro ⟨n, v5⟩ h0
    have h := (show F_spec_l11Choice_L1 x0 x2 J1 n v5 = some y0 from h0)
    rcases n with _ | n
    · rw [F_spec_l11Choice_L1] at h; cases h
    · rw [F_spec_l11Choice_L1] at h
      refine WP.seq ?_
      obtain ⟨J2, hJ2, h⟩ := jn_some h
      refine WP.joinA (fun (zz : Bool) => ⟨[], [(13, vb zz), (5, vi v5), (4, vb false), (2, V.t (T.ptr [tl x0, ti x1])), (1, vl x2)], []⟩) (fun zz => J2 zz = some y0) ?_ ?_
      · -- to where they meet
        rcases ite_some h with ⟨h1, h⟩ | ⟨h1, h⟩
        · -- yes
          refine WP.path tab_ok mixed [(9, An.b true)] [.keep [13, 5, 4, 2, 1], .keepO [], .names []] (ps := [(True), ((decide (v5 < ((List.length x2 : Nat) : Int))) = true), (True)]) (e := .normal) (σ' := ⟨[], [(13, vb (decide (v5 ≤ (5 : Int)))), (5, vi v5), (4, vb false), (2, V.t (T.ptr [tl x0, ti x1])), (1, vl x2)], []⟩) (by kernel_rfl) ⟨trivial, h1, trivial, trivial⟩ ?_
          exact ⟨(decide (v5 ≤ (5 : Int))), h, rfl⟩
        · -- no
          refine WP.path tab_ok mixed [(9, An.b false)] [.keep [13, 5, 4, 2, 1], .keepO [], .names []] (ps := [(True), ((decide (v5 < ((List.length x2 : Nat) : Int))) = false)]) (e := .normal) (σ' := ⟨[], [(13, vb false), (5, vi v5), (4, vb false), (2, V.t (T.ptr [tl x0, ti x1])), (1, vl x2)], []⟩) (by kernel_rfl) ⟨trivial, h1, trivial⟩ ?_
          exact ⟨(false), h, rfl⟩
      · -- from there
        intro v13 h0
        have h := (show J2 v13 = some y0 from h0)
        rw [hJ2] at h
        rcases ite_some h with ⟨h2, h⟩ | ⟨h2, h⟩
        · -- yes
          refine WP.cond (b := v13) rfl (fun _ => ?_) (fun hh => by rw [h2] at hh; cases hh)
          refine WP.path tab_ok mixed [] [.keep [5, 4, 2, 1], .keepO []] (ps := []) (e := .normal) (σ' := ⟨[], [(5, vi v5), (4, vb false), (2, V.t (T.ptr [tl x0, ti x1])), (1, vl x2)], []⟩) (by kernel_rfl) trivial ?_
          refine WP.seq ?_
          refine WP.block ?_
          obtain ⟨J2, hJ2, h⟩ := jn_some h
          refine WP.joinA (fun (zz : Bool) => ⟨[], [(38, vb zz), (5, vi v5), (4, vb false), (2, V.t (T.ptr [tl x0, ti x1])), (1, vl x2)], []⟩) (fun zz => J2 zz = some y0) ?_ ?_
          · -- to where they meet
            obtain ⟨c0, h⟩ := chk_some h
            obtain ⟨c1, h⟩ := chk_some h
            rcases ite_some h with ⟨h3, h⟩ | ⟨h3, h⟩
            · -- yes
              refine WP.path tab_ok mixed [(20, An.v (ti (List.getD x2 (Int.toNat v5) 0))), (21, An.call (tb (isQ ((List.length x0 : Nat) : Int) (List.getD x2 (Int.toNat v5) 0)))), (23, An.b true)] [.keep [38, 5, 4, 2, 1], .keepO [], .names []] (ps := [(2 ≤ 2), ((0 ≤ v5 ∧ v5 < ((List.length x2 : Nat) : Int))), ((List.drop ((Int.toNat v5) * 1) (List.map (T.int .i64) x2) : List T)[0]? = some (ti (List.getD x2 (Int.toNat v5) 0))), (ti (List.getD x2 (Int.toNat v5) 0) = ti (List.getD x2 (Int.toNat v5) 0)), (C Try.prog 92 [T.agg [tl x0, ti x1], ti (List.getD x2 (Int.toNat v5) 0)] (tb (isQ ((List.length x0 : Nat) : Int) (List.getD x2 (Int.toNat v5) 0)))), ((!(isQ ((List.length x0 : Nat) : Int) (List.getD x2 (Int.toNat v5) 0))) = true)]) (e := .normal) (σ' := ⟨[], [(38, vb true), (5, vi v5), (4, vb false), (2, V.t (T.ptr [tl x0, ti x1])), (1, vl x2)], []⟩) (by kernel_rfl) ⟨by decide, c0, at1 (by simp) (by omega), rfl, (l2Question_C x0 x1 (List.getD x2 (Int.toNat v5) 0) c1), h3, trivial⟩ ?_
              exact ⟨(true), h, rfl⟩
            · -- no
              rcases ite_some h with ⟨h4, h⟩ | ⟨h4, h⟩
              · -- yes
                obtain ⟨c2, h⟩ := chk_some h
                obtain ⟨c3, h⟩ := chk_some h
                refine WP.path tab_ok mixed [(20, An.v (ti (List.getD x2 (Int.toNat v5) 0))), (21, An.call (tb (isQ ((List.length x0 : Nat) : Int) (List.getD x2 (Int.toNat v5) 0)))), (23, An.b false), (25, An.b true), (29, An.v (T.int .i64 (v5 - (1 : Int)))), (31, An.v (ti (List.getD x2 (Int.toNat (v5 - (1 : Int))) 0))), (35, An.v (ti (List.getD x2 (Int.toNat v5) 0)))] [.keep [38, 5, 4, 2, 1], .keepO [], .names []] (ps := [(2 ≤ 2), ((0 ≤ v5 ∧ v5 < ((List.length x2 : Nat) : Int))), ((List.drop ((Int.toNat v5) * 1) (List.map (T.int .i64) x2) : List T)[0]? = some (ti (List.getD x2 (Int.toNat v5) 0))), (ti (List.getD x2 (Int.toNat v5) 0) = ti (List.getD x2 (Int.toNat v5) 0)), (C Try.prog 92 [T.agg [tl x0, ti x1], ti (List.getD x2 (Int.toNat v5) 0)] (tb (isQ ((List.length x0 : Nat) : Int) (List.getD x2 (Int.toNat v5) 0)))), ((!(isQ ((List.length x0 : Nat) : Int) (List.getD x2 (Int.toNat v5) 0))) = false), (True), ((decide (v5 > (0 : Int))) = true), (True), (T.int .i64 (IntKind.wrap .i64 (v5 - (1 : Int))) = T.int .i64 (v5 - (1 : Int))), ((0 ≤ (v5 - (1 : Int)) ∧ (v5 - (1 : Int)) < ((List.length x2 : Nat) : Int))), ((List.drop ((Int.toNat (v5 - (1 : Int))) * 1) (List.map (T.int .i64) x2) : List T)[0]? = some (ti (List.getD x2 (Int.toNat (v5 - (1 : Int))) 0))), (ti (List.getD x2 (Int.toNat (v5 - (1 : Int))) 0) = ti (List.getD x2 (Int.toNat (v5 - (1 : Int))) 0)), ((0 ≤ v5 ∧ v5 < ((List.length x2 : Nat) : Int))), ((List.drop ((Int.toNat v5) * 1) (List.map (T.int .i64) x2) : List T)[0]? = some (ti (List.getD x2 (Int.toNat v5) 0))), (ti (List.getD x2 (Int.toNat v5) 0) = ti (List.getD x2 (Int.toNat v5) 0)), (True)]) (e := .normal) (σ' := ⟨[], [(38, vb (decide ((List.getD x2 (Int.toNat (v5 - (1 : Int))) 0) ≥ (List.getD x2 (Int.toNat v5) 0)))), (5, vi v5), (4, vb false), (2, V.t (T.ptr [tl x0, ti x1])), (1, vl x2)], []⟩) (by kernel_rfl) ⟨by decide, c0, at1 (by simp) (by omega), rfl, (l2Question_C x0 x1 (List.getD x2 (Int.toNat v5) 0) c1), h3, trivial, h4, trivial, wrapI c2, c3, at1 (by simp) (by omega), rfl, c0, at1 (by simp) (by omega), rfl, trivial, trivial⟩ ?_
                exact ⟨(decide ((List.getD x2 (Int.toNat (v5 - (1 : Int))) 0) ≥ (List.getD x2 (Int.toNat v5) 0))), h, rfl⟩
              · -- no
                refine WP.path tab_ok mixed [(20, An.v (ti (List.getD x2 (Int.toNat v5) 0))), (21, An.call (tb (isQ ((List.length x0 : Nat) : Int) (List.getD x2 (Int.toNat v5) 0)))), (23, An.b false), (25, An.b false)] [.keep [38, 5, 4, 2, 1], .keepO [], .names []] (ps := [(2 ≤ 2), ((0 ≤ v5 ∧ v5 < ((List.length x2 : Nat) : Int))), ((List.drop ((Int.toNat v5) * 1) (List.map (T.int .i64) x2) : List T)[0]? = some (ti (List.getD x2 (Int.toNat v5) 0))), (ti (List.getD x2 (Int.toNat v5) 0) = ti (List.getD x2 (Int.toNat v5) 0)), (C Try.prog 92 [T.agg [tl x0, ti x1], ti (List.getD x2 (Int.toNat v5) 0)] (tb (isQ ((List.length x0 : Nat) : Int) (List.getD x2 (Int.toNat v5) 0)))), ((!(isQ ((List.length x0 : Nat) : Int) (List.getD x2 (Int.toNat v5) 0))) = false), (True), ((decide (v5 > (0 : Int))) = false)]) (e := .normal) (σ' := ⟨[], [(38, vb false), (5, vi v5), (4, vb false), (2, V.t (T.ptr [tl x0, ti x1])), (1, vl x2)], []⟩) (by kernel_rfl) ⟨by decide, c0, at1 (by simp) (by omega), rfl, (l2Question_C x0 x1 (List.getD x2 (Int.toNat v5) 0) c1), h3, trivial, h4, trivial⟩ ?_
                exact ⟨(false), h, rfl⟩
          · -- from there
            intro v38 h0
            have h := (show J2 v38 = some y0 from h0)
            rw [hJ2] at h
            rcases ite_some h with ⟨h5, h⟩ | ⟨h5, h⟩
            · -- yes
              refine WP.cond (b := v38) rfl (fun _ => ?_) (fun hh => by rw [h5] at hh; cases hh)
              have h := Option.some.inj h
              subst h
              exact WP.pathW tab_ok mixed [] _ (ps := []) (r := tb false) (by kernel_rfl) trivial (WkT.eq (y := tb false) (WkT.refl _) rfl) (fun _ h => h)
            · -- no
              refine WP.cond (b := v38) rfl (fun hh => by rw [h5] at hh; cases hh) (fun _ => ?_)
              refine WP.path tab_ok mixed [] [.keep [5, 4, 2, 1], .keepO []] (ps := []) (e := .normal) (σ' := ⟨[], [(5, vi v5), (4, vb false), (2, V.t (T.ptr [tl x0, ti x1])), (1, vl x2)], []⟩) (by kernel_rfl) trivial ?_
              obtain ⟨c0, h⟩ := chk_some h
              refine WP.path tab_ok mixed [(15, An.v (T.int .i64 (v5 + (1 : Int))))] [.keep [5, 4, 2, 1], .keepO [], .names []] (ps := [(True), (T.int .i64 (IntKind.wrap .i64 (v5 + (1 : Int))) = T.int .i64 (v5 + (1 : Int)))]) (e := .normal) (σ' := ⟨[], [(5, vi (v5 + (1 : Int))), (4, vb false), (2, V.t (T.ptr [tl x0, ti x1])), (1, vl x2)], []⟩) (by kernel_rfl) ⟨trivial, wrapI c0, trivial⟩ ?_
              exact ⟨(n, (v5 + (1 : Int))), h, Nat.lt_succ_self _, rfl⟩
        · -- no
          refine WP.cond (b := v13) rfl (fun hh => by rw [h2] at hh; cases hh) (fun _ => ?_)
          refine WP.path tab_ok mixed [] [.keep [4, 1], .keepO [], .names []] (ps := []) (e := (.exit 0)) (σ' := ⟨[], [(4, vb false), (1, vl x2)], []⟩) (by kernel_rfl) trivial ?_
          exact ⟨(), h, rfl⟩
  · -- from there
    intro _ h0
    have h := (show J1 () = some y0 from h0)
    rw [hJ1] at h
    have h := Option.some.inj h
    subst h
    exact WP.pathW tab_ok mixed [(41, An.call (tb (decide (((List.length x2 : Nat) : Int) ≥ (1 : Int)) && decide (((List.length x2 : Nat) : Int) ≤ (5 : Int)))))] _ (ps := [(C Try.prog 111 [ti ((List.length x2 : Nat) : Int), ti 1, ti 5] (tb (decide (((List.length x2 : Nat) : Int) ≥ (1 : Int)) && decide (((List.length x2 : Nat) : Int) ≤ (5 : Int)))))]) (r := tb (decide (((List.length x2 : Nat) : Int) ≥ (1 : Int)) && decide (((List.length x2 : Nat) : Int) ≤ (5 : Int)))) (by kernel_rfl) ⟨(by have hh := (l1In_C ((List.length x2 : Nat) : Int) (1 : Int) (5 : Int)); first | exact hh | simpa using hh), trivial⟩ (WkT.eq (y := tb (decide (((List.length x2 : Nat) : Int) ≥ (1 : Int)) && decide (((List.length x2 : Nat) : Int) ≤ (5 : Int)))) (WkT.refl _) rfl) (fun _ h => h)
theorem F_spec_l11Good_W (x0 : List Int) (x1 : Int) (x2 : List Int) (y0 : Bool) (h : F_spec_l11Good x0 x1 x2 = some y0) : C Try.prog 60 [T.agg [tl x0, ti x1], tl x2] (tb y0) := by
  unfold F_spec_l11Good at h
  refine C.intro (tab := tab) tab_ok (fn := Try.f60) Try.func60 (by kernel_rfl) rfl (Nat.le_of_ble_eq_true rfl) ?_
  obtain ⟨c0, h⟩ := chk_some h
  rcases ite_some h with ⟨h1, h⟩ | ⟨h1, h⟩
  · -- yes
    obtain ⟨r10, c1, h⟩ := bnd1_some h
    have h := Option.some.inj h
    subst h
    exact WP.pathW tab_ok mixed [(2, An.fz), (6, An.call (tb true)), (10, An.call (tb r10))] _ (ps := [(2 ≤ 2), (C Try.prog 91 [T.agg [tl x0, ti x1]] (tb true)), (2 ≤ 2), (C Try.prog 85 [T.agg [tl x0, ti x1], tl x2] (tb r10))]) (r := tb r10) (by kernel_rfl) ⟨by decide, (C.toB h1 (l11Race_C x0 x1 c0)), by decide, (F_spec_l11Choice_W x0 x1 x2 r10 c1), trivial⟩ (WkT.eq (y := tb r10) (WkT.refl _) rfl) (fun _ h => h)
  · -- no
    have h := Option.some.inj h
    subst h
    exact WP.pathW tab_ok mixed [(2, An.fz), (6, An.call (tb false))] _ (ps := [(2 ≤ 2), (C Try.prog 91 [T.agg [tl x0, ti x1]] (tb false))]) (r := tb false) (by kernel_rfl) ⟨by decide, (C.toB h1 (l11Race_C x0 x1 c0)), trivial⟩ (WkT.eq (y := tb false) (WkT.refl _) rfl) (fun _ h => h)
theorem F_spec_l6Key_W (x0 : List Int) (x1 : Int) (y0 : Int) (h : F_spec_l6Key x0 x1 = some y0) : C Try.prog 62 [T.agg [tl x0, ti x1]] (ti y0) := by
  unfold F_spec_l6Key at h
  refine C.intro (tab := tab) tab_ok (fn := Try.f62) Try.func62 (by kernel_rfl) rfl (Nat.le_of_ble_eq_true rfl) ?_
  refine WP.seq ?_
  refine WP.path tab_ok mixed [(1, An.fz)] [.keep [2, 1], .keepO []] (ps := []) (e := .normal) (σ' := ⟨[], [(2, vi 0), (1, V.t (T.ptr [tl x0, ti x1]))], []⟩) (by kernel_rfl) trivial ?_
  refine WP.seq ?_
  refine WP.path tab_ok mixed [] [.keep [3, 2, 1], .keepO []] (ps := []) (e := .normal) (σ' := ⟨[], [(3, vi 0), (2, vi 0), (1, V.t (T.ptr [tl x0, ti x1]))], []⟩) (by kernel_rfl) trivial ?_
  obtain ⟨J1, hJ1, h⟩ := jn_some h
  refine WP.joinA (fun (zz : Int) => ⟨[], [(3, vi zz), (2, vi 0)], []⟩) (fun zz => J1 zz = some y0) ?_ ?_
  · -- to where they meet
    refine WP.seq ?_
    refine WP.path tab_ok mixed [] [.keep [4, 3, 2, 1], .keepO []] (ps := []) (e := .normal) (σ' := ⟨[], [(4, vi 0), (3, vi 0), (2, vi 0), (1, V.t (T.ptr [tl x0, ti x1]))], []⟩) (by kernel_rfl) trivial ?_
    refine WP.block ?_
    refine WP.wk [.keep [4, 3, 2, 1], .keepO [], .names []] (σ' := ⟨[], [(4, vi 0), (3, vi 0), (2, vi 0), (1, V.t (T.ptr [tl x0, ti x1]))], []⟩) (ps := []) (by kernel_rfl) trivial ?_
    refine WP.st (σ' := ⟨[], [(4, vi (0 : Int)), (3, vi (0 : Int)), (2, vi 0), (1, V.t (T.ptr [tl x0, ti x1]))], []⟩) (by first | rfl | (simp only [tlS, tl, vl, vo, oc, ov, tbl, vbl, ty, vy] <;> rfl) | (simp <;> omega) | (simp []; done) | (rw [List.take_of_length_le (by simp [])] <;> rfl)) ?_
    refine WP.loop (α := Nat × Int × Int) (fun zz => ⟨[], [(4, vi zz.2.1), (3, vi zz.2.2), (2, vi 0), (1, V.t (T.ptr [tl x0, ti x1]))], []⟩) (fun zz => F_spec_l6Key_L1 x0 x1 J1 zz.1 zz.2.1 zz.2.2 = some y0) (fun zz => zz.1) (fuel, (0 : Int), (0 : Int)) h ?_
    rintro ⟨n, v4, v3⟩ h0
    have h := (show F_spec_l6Key_L1 x0 x1 J1 n v4 v3 = some y0 from h0)
    rcases n with _ | n
    · rw [F_spec_l6Key_L1] at h; cases h
    · rw [F_spec_l6Key_L1] at h
      refine WP.seq ?_
      refine WP.seq ?_
      refine WP.path tab_ok mixed [] [.keep [9, 4, 3, 2, 1], .keepO []] (ps := [(True), (True)]) (e := .normal) (σ' := ⟨[], [(9, vb (decide (v4 < ((List.length x0 : Nat) : Int)))), (4, vi v4), (3, vi v3), (2, vi 0), (1, V.t (T.ptr [tl x0, ti x1]))], []⟩) (by kernel_rfl) ⟨trivial, trivial, trivial⟩ ?_
      rcases ite_some h with ⟨h1, h⟩ | ⟨h1, h⟩
      · -- yes
        refine WP.cond (b := decide (v4 < ((List.length x0 : Nat) : Int))) rfl (fun _ => ?_) (fun hh => by rw [h1] at hh; cases hh)
        refine WP.path tab_ok mixed [] [.keep [4, 3, 2, 1], .keepO []] (ps := []) (e := .normal) (σ' := ⟨[], [(4, vi v4), (3, vi v3), (2, vi 0), (1, V.t (T.ptr [tl x0, ti x1]))], []⟩) (by kernel_rfl) trivial ?_
        refine WP.seq ?_
        refine WP.block ?_
        obtain ⟨c0, h⟩ := chk_some h
        obtain ⟨c1, h⟩ := chk_some h
        obtain ⟨c2, h⟩ := chk_some h
        obtain ⟨c3, h⟩ := chk_some h
        obtain ⟨n22, c4, h⟩ := nam_some h
        obtain ⟨c5, h⟩ := chk_some h
        refine WP.path tab_ok mixed [(15, An.v (T.int .i64 (x1 + (2 : Int)))), (16, An.v (T.int .i64 (v3 * (x1 + (2 : Int))))), (21, An.v (ti (List.getD x0 (Int.toNat v4) 0))), (22, An.v (ti n22)), (23, An.v (T.int .i64 (n22 + (1 : Int))))] [.keep [3, 4, 2, 1], .keepO []] (ps := [(True), (True), (T.int .i64 (IntKind.wrap .i64 (x1 + (2 : Int))) = T.int .i64 (x1 + (2 : Int))), (True), (T.int .i64 (IntKind.wrap .i64 (v3 * (x1 + (2 : Int)))) = T.int .i64 (v3 * (x1 + (2 : Int)))), (True), ((0 ≤ v4 ∧ v4 < ((List.length x0 : Nat) : Int))), ((List.drop ((Int.toNat v4) * 1) (List.map (T.int .i64) x0) : List T)[0]? = some (ti (List.getD x0 (Int.toNat v4) 0))), (ti (List.getD x0 (Int.toNat v4) 0) = ti (List.getD x0 (Int.toNat v4) 0)), (True), (T.int .i64 (IntKind.wrap .i64 ((v3 * (x1 + (2 : Int))) + (List.getD x0 (Int.toNat v4) 0))) = ti n22), (True), (T.int .i64 (IntKind.wrap .i64 (n22 + (1 : Int))) = T.int .i64 (n22 + (1 : Int)))]) (e := .normal) (σ' := ⟨[], [(3, vi (n22 + (1 : Int))), (4, vi v4), (2, vi 0), (1, V.t (T.ptr [tl x0, ti x1]))], []⟩) (by kernel_rfl) ⟨trivial, trivial, wrapI c0, trivial, wrapI c1, trivial, c2, at1 (by simp) (by omega), rfl, trivial, Eq.trans (wrapI c3) (congrArg (ti) c4), trivial, wrapI c5, trivial⟩ ?_
        obtain ⟨c6, h⟩ := chk_some h
        refine WP.path tab_ok mixed [(11, An.v (T.int .i64 (v4 + (1 : Int))))] [.keep [4, 3, 2, 1], .keepO [], .names []] (ps := [(True), (T.int .i64 (IntKind.wrap .i64 (v4 + (1 : Int))) = T.int .i64 (v4 + (1 : Int)))]) (e := .normal) (σ' := ⟨[], [(4, vi (v4 + (1 : Int))), (3, vi (n22 + (1 : Int))), (2, vi 0), (1, V.t (T.ptr [tl x0, ti x1]))], []⟩) (by kernel_rfl) ⟨trivial, wrapI c6, trivial⟩ ?_
        exact ⟨(n, (v4 + (1 : Int)), (n22 + (1 : Int))), h, Nat.lt_succ_self _, rfl⟩
      · -- no
        refine WP.cond (b := decide (v4 < ((List.length x0 : Nat) : Int))) rfl (fun hh => by rw [h1] at hh; cases hh) (fun _ => ?_)
        refine WP.path tab_ok mixed [] [.keep [3, 2], .keepO [], .names []] (ps := []) (e := (.exit 0)) (σ' := ⟨[], [(3, vi v3), (2, vi 0)], []⟩) (by kernel_rfl) trivial ?_
        exact ⟨(v3), h, rfl⟩
  · -- from there
    intro v3 h0
    have h := (show J1 v3 = some y0 from h0)
    rw [hJ1] at h
    have h := Option.some.inj h
    subst h
    exact WP.pathW tab_ok mixed [] _ (ps := []) (r := ti v3) (by kernel_rfl) trivial (WkT.eq (y := ti v3) (WkT.refl _) rfl) (fun _ h => h)
theorem F_spec_l2Open_W (x0 : List Int) (x1 : Int) (y0 : List Int) (h : F_spec_l2Open x0 x1 = some y0) : CG Try.prog 100 [V.t (T.agg [tl x0, ti x1])] [] (vo 9000 (List.length y0)) [(9000, oc 3 (List.map (T.int .i64) y0))] := by
  unfold F_spec_l2Open at h
  refine CG.intro (tab := tab) tab_ok (fn := Try.f100) Try.func100 (by kernel_rfl) rfl (Nat.le_of_ble_eq_true rfl) (by kernel_rfl) ?_
  refine WP.seq ?_
  refine WP.path tab_ok mixed [(1, An.fz)] [.keep [2, 1], .keepO []] (ps := []) (e := .normal) (σ' := ⟨[], [(2, V.t (T.nils)), (1, V.t (T.ptr [tl x0, ti x1]))], []⟩) (by kernel_rfl) trivial ?_
  refine WP.seq ?_
  refine WP.path tab_ok mixed [(5, An.id 2005)] [.keep [3, 2, 1], .keepO [2005]] (ps := [(True), (0 = 0 * 1)]) (e := .normal) (σ' := ⟨[2005], [(3, vo 2005 0), (2, V.t (T.nils)), (1, V.t (T.ptr [tl x0, ti x1]))], [(2005, oc 3 [])]⟩) (by kernel_rfl) ⟨trivial, by decide, trivial⟩ ?_
  obtain ⟨J1, hJ1, h⟩ := jn_some h
  refine WP.joinA (fun (zz : (List Int)) => ⟨[2005], [(3, vo 2005 (List.length zz)), (2, V.t (T.nils))], [(2005, oc 3 (List.map (T.int .i64) zz))]⟩) (fun zz => J1 zz = some y0) ?_ ?_
  · -- to where they meet
    refine WP.seq ?_
    refine WP.path tab_ok mixed [] [.keep [4, 3, 2, 1], .keepO [2005]] (ps := []) (e := .normal) (σ' := ⟨[2005], [(4, vi 0), (3, vo 2005 0), (2, V.t (T.nils)), (1, V.t (T.ptr [tl x0, ti x1]))], [(2005, oc 3 [])]⟩) (by kernel_rfl) trivial ?_
    refine WP.block ?_
    refine WP.wk [.keep [4, 3, 2, 1], .keepO [2005], .names [(2005, 2005)]] (σ' := ⟨[2005], [(4, vi 0), (3, vo 2005 0), (2, V.t (T.nils)), (1, V.t (T.ptr [tl x0, ti x1]))], [(2005, oc 3 [])]⟩) (ps := []) (by kernel_rfl) trivial ?_
    refine WP.st (σ' := ⟨[2005], [(4, vi (0 : Int)), (3, vo 2005 (List.length ([] : List Int))), (2, V.t (T.nils)), (1, V.t (T.ptr [tl x0, ti x1]))], [(2005, oc 3 (List.map (T.int .i64) ([] : List Int)))]⟩) (by first | rfl | (simp only [tlS, tl, vl, vo, oc, ov, tbl, vbl, ty, vy] <;> rfl) | (simp <;> omega) | (simp []; done) | (rw [List.take_of_length_le (by simp [])] <;> rfl)) ?_
    refine WP.loop (α := Nat × (List Int) × Int) (fun zz => ⟨[2005], [(4, vi zz.2.2), (3, vo 2005 (List.length zz.2.1)), (2, V.t (T.nils)), (1, V.t (T.ptr [tl x0, ti x1]))], [(2005, oc 3 (List.map (T.int .i64) zz.2.1))]⟩) (fun zz => F_spec_l2Open_L1 x0 J1 zz.1 zz.2.1 zz.2.2 = some y0) (fun zz => zz.1) (fuel, ([] : List Int), (0 : Int)) h ?_
    rintro ⟨n, o5, v4⟩ h0
    have h := (show F_spec_l2Open_L1 x0 J1 n o5 v4 = some y0 from h0)
    rcases n with _ | n
    · rw [F_spec_l2Open_L1] at h; cases h
    · rw [F_spec_l2Open_L1] at h
      refine WP.seq ?_
      refine WP.seq ?_
      refine WP.path tab_ok mixed [] [.keep [10, 4, 3, 2, 1], .keepO [2005]] (ps := [(True), (True)]) (e := .normal) (σ' := ⟨[2005], [(10, vb (decide (v4 < ((List.length x0 : Nat) : Int)))), (4, vi v4), (3, vo 2005 (List.length o5)), (2, V.t (T.nils)), (1, V.t (T.ptr [tl x0, ti x1]))], [(2005, oc 3 (List.map (T.int .i64) o5))]⟩) (by kernel_rfl) ⟨trivial, trivial, trivial⟩ ?_
      rcases ite_some h with ⟨h1, h⟩ | ⟨h1, h⟩
      · -- yes
        refine WP.cond (b := decide (v4 < ((List.length x0 : Nat) : Int))) rfl (fun _ => ?_) (fun hh => by rw [h1] at hh; cases hh)
        refine WP.path tab_ok mixed [] [.keep [4, 3, 2, 1], .keepO [2005]] (ps := []) (e := .normal) (σ' := ⟨[2005], [(4, vi v4), (3, vo 2005 (List.length o5)), (2, V.t (T.nils)), (1, V.t (T.ptr [tl x0, ti x1]))], [(2005, oc 3 (List.map (T.int .i64) o5))]⟩) (by kernel_rfl) trivial ?_
        refine WP.seq ?_
        refine WP.block ?_
        refine WP.seq ?_
        obtain ⟨c0, h⟩ := chk_some h
        refine WP.path tab_ok mixed [(17, An.v (ti (List.getD x0 (Int.toNat v4) 0)))] [.keep [18, 4, 3, 2, 1], .keepO [2005]] (ps := [(True), ((0 ≤ v4 ∧ v4 < ((List.length x0 : Nat) : Int))), ((List.drop ((Int.toNat v4) * 1) (List.map (T.int .i64) x0) : List T)[0]? = some (ti (List.getD x0 (Int.toNat v4) 0))), (ti (List.getD x0 (Int.toNat v4) 0) = ti (List.getD x0 (Int.toNat v4) 0)), (True)]) (e := .normal) (σ' := ⟨[2005], [(18, vb (decide ((List.getD x0 (Int.toNat v4) 0) ≥ (0 : Int)))), (4, vi v4), (3, vo 2005 (List.length o5)), (2, V.t (T.nils)), (1, V.t (T.ptr [tl x0, ti x1]))], [(2005, oc 3 (List.map (T.int .i64) o5))]⟩) (by kernel_rfl) ⟨trivial, c0, at1 (by simp) (by omega), rfl, trivial, trivial⟩ ?_
        rcases ite_some h with ⟨h2, h⟩ | ⟨h2, h⟩
        · -- yes
          refine WP.cond (b := decide ((List.getD x0 (Int.toNat v4) 0) ≥ (0 : Int))) rfl (fun _ => ?_) (fun hh => by rw [h2] at hh; cases hh)
          obtain ⟨c1, h⟩ := chk_some h
          refine WP.path tab_ok mixed [(21, An.fz), (22, An.id 2022)] [.keep [3, 4, 2, 1], .keepO [2022]] (ps := [((1 = 1 ∧ 0 + 1 ≤ 1) ∧ True), (1 = 1 * 1), (True), (List.length (List.map (T.int .i64) o5) = (List.length o5) * 1), ((((List.length o5) + 1) * 8 ≤ 140737488355328 ∧ (List.length o5) + 1 ≤ maxLen))]) (e := .normal) (σ' := ⟨[2022, 2005], [(3, vo 2022 ((List.length o5) + 1)), (4, vi v4), (2, V.t (T.nils)), (1, V.t (T.ptr [tl x0, ti x1]))], [(2022, oc 3 ((List.map (T.int .i64) o5) ++ [ti v4]))]⟩) (by kernel_rfl) ⟨⟨⟨by first | rfl | (simp; done) | (simp []; done) | omega, by first | decide | (simp; done) | (simp []; done) | omega | (simp only [tlL]; omega) | (simp; omega)⟩, trivial⟩, by decide, trivial, by first | rfl | omega | (simp only [tlL] <;> omega) | (simp <;> omega) | (simp [] <;> omega), c1, trivial⟩ ?_
          obtain ⟨c2, h⟩ := chk_some h
          refine WP.path tab_ok mixed [(12, An.v (T.int .i64 (v4 + (1 : Int))))] [.keep [4, 3, 2, 1], .keepO [2022], .names [(2022, 2005)]] (ps := [(True), (T.int .i64 (IntKind.wrap .i64 (v4 + (1 : Int))) = T.int .i64 (v4 + (1 : Int)))]) (e := .normal) (σ' := ⟨[2005], [(4, vi (v4 + (1 : Int))), (3, vo 2005 ((List.length o5) + 1)), (2, V.t (T.nils)), (1, V.t (T.ptr [tl x0, ti x1]))], [(2005, oc 3 ((List.map (T.int .i64) o5) ++ [ti v4]))]⟩) (by kernel_rfl) ⟨trivial, wrapI c2, trivial⟩ ?_
          exact ⟨(n, o5 ++ [v4], (v4 + (1 : Int))), h, Nat.lt_succ_self _, (by first | rfl | (simp only [tlS, tl, vl, vo, oc, ov, tbl, vbl, ty, vy] <;> rfl) | (simp <;> omega) | (simp []; done) | (rw [List.take_of_length_le (by simp [])] <;> rfl))⟩
        · -- no
          refine WP.cond (b := decide ((List.getD x0 (Int.toNat v4) 0) ≥ (0 : Int))) rfl (fun hh => by rw [h2] at hh; cases hh) (fun _ => ?_)
          refine WP.path tab_ok mixed [] [.keep [4, 3, 2, 1], .keepO [2005]] (ps := []) (e := .normal) (σ' := ⟨[2005], [(4, vi v4), (3, vo 2005 (List.length o5)), (2, V.t (T.nils)), (1, V.t (T.ptr [tl x0, ti x1]))], [(2005, oc 3 (List.map (T.int .i64) o5))]⟩) (by kernel_rfl) trivial ?_
          obtain ⟨c1, h⟩ := chk_some h
          refine WP.path tab_ok mixed [(12, An.v (T.int .i64 (v4 + (1 : Int))))] [.keep [4, 3, 2, 1], .keepO [2005], .names [(2005, 2005)]] (ps := [(True), (T.int .i64 (IntKind.wrap .i64 (v4 + (1 : Int))) = T.int .i64 (v4 + (1 : Int)))]) (e := .normal) (σ' := ⟨[2005], [(4, vi (v4 + (1 : Int))), (3, vo 2005 (List.length o5)), (2, V.t (T.nils)), (1, V.t (T.ptr [tl x0, ti x1]))], [(2005, oc 3 (List.map (T.int .i64) o5))]⟩) (by kernel_rfl) ⟨trivial, wrapI c1, trivial⟩ ?_
          exact ⟨(n, o5, (v4 + (1 : Int))), h, Nat.lt_succ_self _, rfl⟩
      · -- no
        refine WP.cond (b := decide (v4 < ((List.length x0 : Nat) : Int))) rfl (fun hh => by rw [h1] at hh; cases hh) (fun _ => ?_)
        refine WP.path tab_ok mixed [] [.keep [3, 2], .keepO [2005], .names [(2005, 2005)]] (ps := []) (e := (.exit 0)) (σ' := ⟨[2005], [(3, vo 2005 (List.length o5)), (2, V.t (T.nils))], [(2005, oc 3 (List.map (T.int .i64) o5))]⟩) (by kernel_rfl) trivial ?_
        exact ⟨(o5), h, rfl⟩
  · -- from there
    intro o5 h0
    have h := (show J1 o5 = some y0 from h0)
    rw [hJ1] at h
    have h := Option.some.inj h
    subst h
    exact WP.pathG tab_ok mixed [] [.keep [2], .keepO [2005], .names [(2005, 9000)]] [9000] _ (r' := vo 9000 (List.length o5)) (ps := []) (r := vo 9000 (List.length o5)) (N := [9000]) (O := [(9000, oc 3 (List.map (T.int .i64) o5))]) [] (by kernel_rfl) trivial ⟨rfl, trivial⟩ rfl rfl (fun _ h => h)
theorem F_spec_l2Open_W_C (x0 : List Int) (x1 : Int) (y0 : List Int) (h : F_spec_l2Open x0 x1 = some y0) : C Try.prog 100 [T.agg [tl x0, ti x1]] (tl y0) :=
  CG.toC (ps := [(List.length (List.map (T.int .i64) y0) = (List.length y0) * 1)]) (F_spec_l2Open_W  x0 x1 y0 h) (by rfl) ⟨by first | rfl | omega | (simp <;> omega) | (simp [hl] <;> omega), trivial⟩
theorem F_spec_l2Vain_W (x0 : List Int) (x1 : Int) (x2 : Int) (y0 : Bool) (h : F_spec_l2Vain x0 x1 x2 = some y0) : C Try.prog 99 [T.agg [tl x0, ti x1], ti x2] (tb y0) := by
  unfold F_spec_l2Vain at h
  refine C.intro (tab := tab) tab_ok (fn := Try.f99) Try.func99 (by kernel_rfl) rfl (Nat.le_of_ble_eq_true rfl) ?_
  refine WP.seq ?_
  refine WP.path tab_ok mixed [(2, An.fz)] [.keep [4, 2, 1], .keepO []] (ps := []) (e := .normal) (σ' := ⟨[], [(4, vb false), (2, V.t (T.ptr [tl x0, ti x1])), (1, vi x2)], []⟩) (by kernel_rfl) trivial ?_
  refine WP.seq ?_
  obtain ⟨r9, c0, h⟩ := bnd1_some h
  refine WP.path tab_ok mixed [(9, An.callG [(9000, 10090)] [V.t (T.agg [tl x0, ti x1])] [] (vo 9000 (List.length r9)) [(9000, oc 3 (List.map (T.int .i64) r9))])] [.keep [6, 5, 4, 1], .keepO [10090]] (ps := [(2 ≤ 2), (CG Try.prog 100 [V.t (T.agg [tl x0, ti x1])] [] (vo 9000 (List.length r9)) [(9000, oc 3 (List.map (T.int .i64) r9))]), (WkT (T.agg [tl x0, ti x1]) (T.agg [tl x0, ti x1]))]) (e := .normal) (σ' := ⟨[10090], [(6, vi 0), (5, vo 10090 (List.length r9)), (4, vb false), (1, vi x2)], [(10090, oc 3 (List.map (T.int .i64) r9))]⟩) (by kernel_rfl) ⟨by decide, (F_spec_l2Open_W x0 x1 r9 c0), WkT.refl _, trivial⟩ ?_
  obtain ⟨J1, hJ1, h⟩ := jn_some h
  refine WP.joinA (fun (zz : Int) => ⟨[10090], [(6, vi zz), (5, vo 10090 (List.length r9)), (4, vb false)], [(10090, oc 3 (List.map (T.int .i64) r9))]⟩) (fun zz => J1 zz = some y0) ?_ ?_
  · -- to where they meet
    refine WP.seq ?_
    refine WP.path tab_ok mixed [] [.keep [7, 6, 5, 4, 1], .keepO [10090]] (ps := []) (e := .normal) (σ' := ⟨[10090], [(7, vi 0), (6, vi 0), (5, vo 10090 (List.length r9)), (4, vb false), (1, vi x2)], [(10090, oc 3 (List.map (T.int .i64) r9))]⟩) (by kernel_rfl) trivial ?_
    refine WP.block ?_
    refine WP.wk [.keep [7, 6, 5, 4, 1], .keepO [10090], .names [(10090, 10090)]] (σ' := ⟨[10090], [(7, vi 0), (6, vi 0), (5, vo 10090 (List.length r9)), (4, vb false), (1, vi x2)], [(10090, oc 3 (List.map (T.int .i64) r9))]⟩) (ps := []) (by kernel_rfl) trivial ?_
    refine WP.st (σ' := ⟨[10090], [(7, vi (0 : Int)), (6, vi (0 : Int)), (5, vo 10090 (List.length r9)), (4, vb false), (1, vi x2)], [(10090, oc 3 (List.map (T.int .i64) r9))]⟩) (by first | rfl | (simp only [tlS, tl, vl, vo, oc, ov, tbl, vbl, ty, vy] <;> rfl) | (simp <;> omega) | (simp []; done) | (rw [List.take_of_length_le (by simp [])] <;> rfl)) ?_
    refine WP.loop (α := Nat × Int × Int) (fun zz => ⟨[10090], [(7, vi zz.2.1), (6, vi zz.2.2), (5, vo 10090 (List.length r9)), (4, vb false), (1, vi x2)], [(10090, oc 3 (List.map (T.int .i64) r9))]⟩) (fun zz => F_spec_l2Vain_L1 x2 r9 J1 zz.1 zz.2.1 zz.2.2 = some y0) (fun zz => zz.1) (fuel, (0 : Int), (0 : Int)) h ?_
    rintro ⟨n, v7, v6⟩ h0
    have h := (show F_spec_l2Vain_L1 x2 r9 J1 n v7 v6 = some y0 from h0)
    rcases n with _ | n
    · rw [F_spec_l2Vain_L1] at h; cases h
    · rw [F_spec_l2Vain_L1] at h
      refine WP.seq ?_
      refine WP.seq ?_
      refine WP.path tab_ok mixed [] [.keep [13, 7, 6, 5, 4, 1], .keepO [10090]] (ps := [(True)]) (e := .normal) (σ' := ⟨[10090], [(13, vb (decide (v7 < ((List.length r9 : Nat) : Int)))), (7, vi v7), (6, vi v6), (5, vo 10090 (List.length r9)), (4, vb false), (1, vi x2)], [(10090, oc 3 (List.map (T.int .i64) r9))]⟩) (by kernel_rfl) ⟨trivial, trivial⟩ ?_
      rcases ite_some h with ⟨h1, h⟩ | ⟨h1, h⟩
      · -- yes
        refine WP.cond (b := decide (v7 < ((List.length r9 : Nat) : Int))) rfl (fun _ => ?_) (fun hh => by rw [h1] at hh; cases hh)
        refine WP.path tab_ok mixed [] [.keep [7, 6, 5, 4, 1], .keepO [10090]] (ps := []) (e := .normal) (σ' := ⟨[10090], [(7, vi v7), (6, vi v6), (5, vo 10090 (List.length r9)), (4, vb false), (1, vi x2)], [(10090, oc 3 (List.map (T.int .i64) r9))]⟩) (by kernel_rfl) trivial ?_
        refine WP.seq ?_
        refine WP.block ?_
        obtain ⟨c1, h⟩ := chk_some h
        obtain ⟨c2, h⟩ := chk_some h
        obtain ⟨n23, c3, h⟩ := nam_some h
        obtain ⟨c4, h⟩ := chk_some h
        refine WP.path tab_ok mixed [(21, An.v (ti (List.getD r9 (Int.toNat v7) 0))), (22, An.v (T.int .i64 (x2 / 2 ^ Int.toNat (List.getD r9 (Int.toNat v7) 0)))), (23, An.v (ti n23)), (24, An.v (T.int .i64 (v6 + n23)))] [.keep [6, 7, 5, 4, 1], .keepO [10090]] (ps := [((0 ≤ v7 ∧ v7 < ((List.length r9 : Nat) : Int))), ((List.map (T.int .i64) r9 : List T)[(Int.toNat v7) * 1]? = some (ti (List.getD r9 (Int.toNat v7) 0))), (ti (List.getD r9 (Int.toNat v7) 0) = ti (List.getD r9 (Int.toNat v7) 0)), (0 ≤ (List.getD r9 (Int.toNat v7) 0)), (T.int .i64 (Int.fdiv x2 (2 ^ (min (Int.toNat (List.getD r9 (Int.toNat v7) 0)) 64))) = T.int .i64 (x2 / 2 ^ Int.toNat (List.getD r9 (Int.toNat v7) 0))), (True), (ti (bits .and .i64 (x2 / 2 ^ Int.toNat (List.getD r9 (Int.toNat v7) 0)) (1 : Int)) = ti n23), (True), (T.int .i64 (IntKind.wrap .i64 (v6 + n23)) = T.int .i64 (v6 + n23))]) (e := .normal) (σ' := ⟨[10090], [(6, vi (v6 + n23)), (7, vi v7), (5, vo 10090 (List.length r9)), (4, vb false), (1, vi x2)], [(10090, oc 3 (List.map (T.int .i64) r9))]⟩) (by kernel_rfl) ⟨c1, atM (by simp) (by first | omega | (simp only [tlL]; omega) | (simp; omega)), rfl, c2.1, shr_told c2, trivial, congrArg (ti) c3, trivial, wrapI c4, trivial⟩ ?_
        obtain ⟨c5, h⟩ := chk_some h
        refine WP.path tab_ok mixed [(15, An.v (T.int .i64 (v7 + (1 : Int))))] [.keep [7, 6, 5, 4, 1], .keepO [10090], .names [(10090, 10090)]] (ps := [(True), (T.int .i64 (IntKind.wrap .i64 (v7 + (1 : Int))) = T.int .i64 (v7 + (1 : Int)))]) (e := .normal) (σ' := ⟨[10090], [(7, vi (v7 + (1 : Int))), (6, vi (v6 + n23)), (5, vo 10090 (List.length r9)), (4, vb false), (1, vi x2)], [(10090, oc 3 (List.map (T.int .i64) r9))]⟩) (by kernel_rfl) ⟨trivial, wrapI c5, trivial⟩ ?_
        exact ⟨(n, (v7 + (1 : Int)), (v6 + n23)), h, Nat.lt_succ_self _, rfl⟩
      · -- no
        refine WP.cond (b := decide (v7 < ((List.length r9 : Nat) : Int))) rfl (fun hh => by rw [h1] at hh; cases hh) (fun _ => ?_)
        refine WP.path tab_ok mixed [] [.keep [6, 5, 4], .keepO [10090], .names [(10090, 10090)]] (ps := []) (e := (.exit 0)) (σ' := ⟨[10090], [(6, vi v6), (5, vo 10090 (List.length r9)), (4, vb false)], [(10090, oc 3 (List.map (T.int .i64) r9))]⟩) (by kernel_rfl) trivial ?_
        exact ⟨(v6), h, rfl⟩
  · -- from there
    intro v6 h0
    have h := (show J1 v6 = some y0 from h0)
    rw [hJ1] at h
    rcases ite_some h with ⟨h2, h⟩ | ⟨h2, h⟩
    · -- yes
      have h := Option.some.inj h
      subst h
      exact WP.pathW tab_ok mixed [(26, An.b true)] _ (ps := [(True), ((v6 == (0 : Int)) = true)]) (r := tb true) (by kernel_rfl) ⟨trivial, h2, trivial⟩ (WkT.eq (y := tb true) (WkT.refl _) rfl) (fun _ h => h)
    · -- no
      have h := Option.some.inj h
      subst h
      exact WP.pathW tab_ok mixed [(26, An.b false)] _ (ps := [(True), ((v6 == (0 : Int)) = false), (True)]) (r := tb (v6 == ((List.length r9 : Nat) : Int))) (by kernel_rfl) ⟨trivial, h2, trivial, trivial⟩ (WkT.eq (y := tb (v6 == ((List.length r9 : Nat) : Int))) (WkT.refl _) rfl) (fun _ h => h)
theorem F_spec_l11Choices_W (x0 : List Int) (x1 : Int) (x2 : List Int) (y0 : List Int) (h : F_spec_l11Choices x0 x1 x2 = some y0) : CG Try.prog 70 [V.t (T.agg [tl x0, ti x1]), vl x2] [] (vo 9000 (List.length y0)) [(9000, oc 3 (List.map (T.int .i64) y0))] := by
  unfold F_spec_l11Choices at h
  refine CG.intro (tab := tab) tab_ok (fn := Try.f70) Try.func70 (by kernel_rfl) rfl (Nat.le_of_ble_eq_true rfl) (by kernel_rfl) ?_
  refine WP.seq ?_
  refine WP.path tab_ok mixed [(2, An.fz)] [.keep [4, 2, 1], .keepO []] (ps := []) (e := .normal) (σ' := ⟨[], [(4, V.t (T.nils)), (2, V.t (T.ptr [tl x0, ti x1])), (1, vl x2)], []⟩) (by kernel_rfl) trivial ?_
  refine WP.seq ?_
  refine WP.path tab_ok mixed [(7, An.id 2007)] [.keep [5, 4, 2, 1], .keepO [2007]] (ps := [(True), (0 = 0 * 1)]) (e := .normal) (σ' := ⟨[2007], [(5, vo 2007 0), (4, V.t (T.nils)), (2, V.t (T.ptr [tl x0, ti x1])), (1, vl x2)], [(2007, oc 3 [])]⟩) (by kernel_rfl) ⟨trivial, by decide, trivial⟩ ?_
  obtain ⟨J1, hJ1, h⟩ := jn_some h
  refine WP.joinA (fun (zz : (List Int)) => ⟨[2007], [(5, vo 2007 (List.length zz)), (4, V.t (T.nils))], [(2007, oc 3 (List.map (T.int .i64) zz))]⟩) (fun zz => J1 zz = some y0) ?_ ?_
  · -- to where they meet
    refine WP.seq ?_
    refine WP.path tab_ok mixed [] [.keep [6, 5, 4, 2, 1], .keepO [2007]] (ps := []) (e := .normal) (σ' := ⟨[2007], [(6, vi 0), (5, vo 2007 0), (4, V.t (T.nils)), (2, V.t (T.ptr [tl x0, ti x1])), (1, vl x2)], [(2007, oc 3 [])]⟩) (by kernel_rfl) trivial ?_
    refine WP.block ?_
    refine WP.wk [.keep [6, 5, 4, 2, 1], .keepO [2007], .names [(2007, 2007)]] (σ' := ⟨[2007], [(6, vi 0), (5, vo 2007 0), (4, V.t (T.nils)), (2, V.t (T.ptr [tl x0, ti x1])), (1, vl x2)], [(2007, oc 3 [])]⟩) (ps := []) (by kernel_rfl) trivial ?_
    refine WP.st (σ' := ⟨[2007], [(6, vi (0 : Int)), (5, vo 2007 (List.length ([] : List Int))), (4, V.t (T.nils)), (2, V.t (T.ptr [tl x0, ti x1])), (1, vl x2)], [(2007, oc 3 (List.map (T.int .i64) ([] : List Int)))]⟩) (by first | rfl | (simp only [tlS, tl, vl, vo, oc, ov, tbl, vbl, ty, vy] <;> rfl) | (simp <;> omega) | (simp []; done) | (rw [List.take_of_length_le (by simp [])] <;> rfl)) ?_
    refine WP.loop (α := Nat × (List Int) × Int) (fun zz => ⟨[2007], [(6, vi zz.2.2), (5, vo 2007 (List.length zz.2.1)), (4, V.t (T.nils)), (2, V.t (T.ptr [tl x0, ti x1])), (1, vl x2)], [(2007, oc 3 (List.map (T.int .i64) zz.2.1))]⟩) (fun zz => F_spec_l11Choices_L1 x0 x1 x2 J1 zz.1 zz.2.1 zz.2.2 = some y0) (fun zz => zz.1) (fuel, ([] : List Int), (0 : Int)) h ?_
    rintro ⟨n, o7, v6⟩ h0
    have h := (show F_spec_l11Choices_L1 x0 x1 x2 J1 n o7 v6 = some y0 from h0)
    rcases n with _ | n
    · rw [F_spec_l11Choices_L1] at h; cases h
    · rw [F_spec_l11Choices_L1] at h
      refine WP.seq ?_
      refine WP.seq ?_
      refine WP.path tab_ok mixed [] [.keep [11, 6, 5, 4, 2, 1], .keepO [2007]] (ps := [(True)]) (e := .normal) (σ' := ⟨[2007], [(11, vb (decide (v6 < ((List.length x2 : Nat) : Int)))), (6, vi v6), (5, vo 2007 (List.length o7)), (4, V.t (T.nils)), (2, V.t (T.ptr [tl x0, ti x1])), (1, vl x2)], [(2007, oc 3 (List.map (T.int .i64) o7))]⟩) (by kernel_rfl) ⟨trivial, trivial⟩ ?_
      rcases ite_some h with ⟨h1, h⟩ | ⟨h1, h⟩
      · -- yes
        refine WP.cond (b := decide (v6 < ((List.length x2 : Nat) : Int))) rfl (fun _ => ?_) (fun hh => by rw [h1] at hh; cases hh)
        refine WP.path tab_ok mixed [] [.keep [6, 5, 4, 2, 1], .keepO [2007]] (ps := []) (e := .normal) (σ' := ⟨[2007], [(6, vi v6), (5, vo 2007 (List.length o7)), (4, V.t (T.nils)), (2, V.t (T.ptr [tl x0, ti x1])), (1, vl x2)], [(2007, oc 3 (List.map (T.int .i64) o7))]⟩) (by kernel_rfl) trivial ?_
        refine WP.seq ?_
        refine WP.block ?_
        refine WP.seq ?_
        obtain ⟨c0, h⟩ := chk_some h
        obtain ⟨r19, c1, h⟩ := bnd1_some h
        refine WP.path tab_ok mixed [(18, An.v (ti (List.getD x2 (Int.toNat v6) 0))), (19, An.call (tb r19))] [.keep [20, 6, 5, 4, 2, 1], .keepO [2007]] (ps := [(2 ≤ 2), ((0 ≤ v6 ∧ v6 < ((List.length x2 : Nat) : Int))), ((List.drop ((Int.toNat v6) * 1) (List.map (T.int .i64) x2) : List T)[0]? = some (ti (List.getD x2 (Int.toNat v6) 0))), (ti (List.getD x2 (Int.toNat v6) 0) = ti (List.getD x2 (Int.toNat v6) 0)), (C Try.prog 99 [T.agg [tl x0, ti x1], ti (List.getD x2 (Int.toNat v6) 0)] (tb r19))]) (e := .normal) (σ' := ⟨[2007], [(20, vb !r19), (6, vi v6), (5, vo 2007 (List.length o7)), (4, V.t (T.nils)), (2, V.t (T.ptr [tl x0, ti x1])), (1, vl x2)], [(2007, oc 3 (List.map (T.int .i64) o7))]⟩) (by kernel_rfl) ⟨by decide, c0, at1 (by simp) (by omega), rfl, (F_spec_l2Vain_W x0 x1 (List.getD x2 (Int.toNat v6) 0) r19 c1), trivial⟩ ?_
        rcases ite_some h with ⟨h2, h⟩ | ⟨h2, h⟩
        · -- yes
          refine WP.cond (b := !r19) rfl (fun _ => ?_) (fun hh => by rw [h2] at hh; cases hh)
          obtain ⟨c2, h⟩ := chk_some h
          refine WP.path tab_ok mixed [(25, An.v (ti (List.getD x2 (Int.toNat v6) 0))), (26, An.fz), (27, An.id 2027)] [.keep [5, 6, 4, 2, 1], .keepO [2027]] (ps := [((0 ≤ v6 ∧ v6 < ((List.length x2 : Nat) : Int))), ((List.drop ((Int.toNat v6) * 1) (List.map (T.int .i64) x2) : List T)[0]? = some (ti (List.getD x2 (Int.toNat v6) 0))), (ti (List.getD x2 (Int.toNat v6) 0) = ti (List.getD x2 (Int.toNat v6) 0)), ((1 = 1 ∧ 0 + 1 ≤ 1) ∧ True), (1 = 1 * 1), (True), (List.length (List.map (T.int .i64) o7) = (List.length o7) * 1), ((((List.length o7) + 1) * 8 ≤ 140737488355328 ∧ (List.length o7) + 1 ≤ maxLen))]) (e := .normal) (σ' := ⟨[2027, 2007], [(5, vo 2027 ((List.length o7) + 1)), (6, vi v6), (4, V.t (T.nils)), (2, V.t (T.ptr [tl x0, ti x1])), (1, vl x2)], [(2027, oc 3 ((List.map (T.int .i64) o7) ++ [ti (List.getD x2 (Int.toNat v6) 0)]))]⟩) (by kernel_rfl) ⟨c0, at1 (by simp) (by omega), rfl, ⟨⟨by first | rfl | (simp; done) | (simp []; done) | omega, by first | decide | (simp; done) | (simp []; done) | omega | (simp only [tlL]; omega) | (simp; omega)⟩, trivial⟩, by decide, trivial, by first | rfl | omega | (simp only [tlL] <;> omega) | (simp <;> omega) | (simp [] <;> omega), c2, trivial⟩ ?_
          obtain ⟨c3, h⟩ := chk_some h
          refine WP.path tab_ok mixed [(13, An.v (T.int .i64 (v6 + (1 : Int))))] [.keep [6, 5, 4, 2, 1], .keepO [2027], .names [(2027, 2007)]] (ps := [(True), (T.int .i64 (IntKind.wrap .i64 (v6 + (1 : Int))) = T.int .i64 (v6 + (1 : Int)))]) (e := .normal) (σ' := ⟨[2007], [(6, vi (v6 + (1 : Int))), (5, vo 2007 ((List.length o7) + 1)), (4, V.t (T.nils)), (2, V.t (T.ptr [tl x0, ti x1])), (1, vl x2)], [(2007, oc 3 ((List.map (T.int .i64) o7) ++ [ti (List.getD x2 (Int.toNat v6) 0)]))]⟩) (by kernel_rfl) ⟨trivial, wrapI c3, trivial⟩ ?_
          exact ⟨(n, o7 ++ [(List.getD x2 (Int.toNat v6) 0)], (v6 + (1 : Int))), h, Nat.lt_succ_self _, (by first | rfl | (simp only [tlS, tl, vl, vo, oc, ov, tbl, vbl, ty, vy] <;> rfl) | (simp <;> omega) | (simp []; done) | (rw [List.take_of_length_le (by simp [])] <;> rfl))⟩
        · -- no
          refine WP.cond (b := !r19) rfl (fun hh => by rw [h2] at hh; cases hh) (fun _ => ?_)
          refine WP.path tab_ok mixed [] [.keep [6, 5, 4, 2, 1], .keepO [2007]] (ps := []) (e := .normal) (σ' := ⟨[2007], [(6, vi v6), (5, vo 2007 (List.length o7)), (4, V.t (T.nils)), (2, V.t (T.ptr [tl x0, ti x1])), (1, vl x2)], [(2007, oc 3 (List.map (T.int .i64) o7))]⟩) (by kernel_rfl) trivial ?_
          obtain ⟨c2, h⟩ := chk_some h
          refine WP.path tab_ok mixed [(13, An.v (T.int .i64 (v6 + (1 : Int))))] [.keep [6, 5, 4, 2, 1], .keepO [2007], .names [(2007, 2007)]] (ps := [(True), (T.int .i64 (IntKind.wrap .i64 (v6 + (1 : Int))) = T.int .i64 (v6 + (1 : Int)))]) (e := .normal) (σ' := ⟨[2007], [(6, vi (v6 + (1 : Int))), (5, vo 2007 (List.length o7)), (4, V.t (T.nils)), (2, V.t (T.ptr [tl x0, ti x1])), (1, vl x2)], [(2007, oc 3 (List.map (T.int .i64) o7))]⟩) (by kernel_rfl) ⟨trivial, wrapI c2, trivial⟩ ?_
          exact ⟨(n, o7, (v6 + (1 : Int))), h, Nat.lt_succ_self _, rfl⟩
      · -- no
        refine WP.cond (b := decide (v6 < ((List.length x2 : Nat) : Int))) rfl (fun hh => by rw [h1] at hh; cases hh) (fun _ => ?_)
        refine WP.path tab_ok mixed [] [.keep [5, 4], .keepO [2007], .names [(2007, 2007)]] (ps := []) (e := (.exit 0)) (σ' := ⟨[2007], [(5, vo 2007 (List.length o7)), (4, V.t (T.nils))], [(2007, oc 3 (List.map (T.int .i64) o7))]⟩) (by kernel_rfl) trivial ?_
        exact ⟨(o7), h, rfl⟩
  · -- from there
    intro o7 h0
    have h := (show J1 o7 = some y0 from h0)
    rw [hJ1] at h
    have h := Option.some.inj h
    subst h
    exact WP.pathG tab_ok mixed [] [.keep [4], .keepO [2007], .names [(2007, 9000)]] [9000] _ (r' := vo 9000 (List.length o7)) (ps := []) (r := vo 9000 (List.length o7)) (N := [9000]) (O := [(9000, oc 3 (List.map (T.int .i64) o7))]) [] (by kernel_rfl) trivial ⟨rfl, trivial⟩ rfl rfl (fun _ h => h)
theorem F_spec_l11Choices_W_C (x0 : List Int) (x1 : Int) (x2 : List Int) (y0 : List Int) (h : F_spec_l11Choices x0 x1 x2 = some y0) : C Try.prog 70 [T.agg [tl x0, ti x1], tl x2] (tl y0) :=
  CG.toC (ps := [(List.length (List.map (T.int .i64) y0) = (List.length y0) * 1)]) (F_spec_l11Choices_W  x0 x1 x2 y0 h) (by rfl) ⟨by first | rfl | omega | (simp <;> omega) | (simp [hl] <;> omega), trivial⟩
theorem F_spec_l11Fair_W (x0 : List Int) (x1 : Int) (x2 : Int) (y0 : List Bool) (h : F_spec_l11Fair x0 x1 x2 = some y0) : CG Try.prog 74 [V.t (T.agg [tl x0, ti x1]), vi x2] [] (vo 9000 (List.length y0)) [(9000, oc 4 (List.map T.bool y0))] := by
  unfold F_spec_l11Fair at h
  refine CG.intro (tab := tab) tab_ok (fn := Try.f74) Try.func74 (by kernel_rfl) rfl (Nat.le_of_ble_eq_true rfl) (by kernel_rfl) ?_
  refine WP.seq ?_
  refine WP.path tab_ok mixed [(2, An.fz)] [.keep [4, 2, 1], .keepO []] (ps := []) (e := .normal) (σ' := ⟨[], [(4, V.t (T.nils)), (2, V.t (T.ptr [tl x0, ti x1])), (1, vi x2)], []⟩) (by kernel_rfl) trivial ?_
  refine WP.seq ?_
  refine WP.path tab_ok mixed [(6, An.id 2006)] [.keep [5, 4, 2, 1], .keepO [2006]] (ps := [(True), (0 = 0 * 1)]) (e := .normal) (σ' := ⟨[2006], [(5, vo 2006 0), (4, V.t (T.nils)), (2, V.t (T.ptr [tl x0, ti x1])), (1, vi x2)], [(2006, oc 4 [])]⟩) (by kernel_rfl) ⟨trivial, by decide, trivial⟩ ?_
  obtain ⟨J1, hJ1, h⟩ := jn_some h
  refine WP.joinA (fun (zz : (List Bool)) => ⟨[2015], [(5, vo 2015 (List.length zz)), (4, V.t (T.nils)), (2, V.t (T.ptr [tl x0, ti x1])), (1, vi x2)], [(2015, oc 4 (List.map T.bool zz))]⟩) (fun zz => J1 zz = some y0) ?_ ?_
  · -- to where they meet
    refine WP.seq ?_
    obtain ⟨c0, h⟩ := chk_some h
    obtain ⟨r10, c1, h⟩ := bnd1_some h
    refine WP.path tab_ok mixed [(9, An.callG [(9000, 10090)] [V.t (T.agg [tl x0, ti x1]), vi x2, vb false] [] (V.agg [vo 9000 (List.length (ansN x1 x2 false x0)), vi x1]) [(9000, oc 3 (List.map (T.int .i64) (ansN x1 x2 false x0)))]), (10, An.callG [(9000, 10100)] [V.t (T.agg [tl (ansN x1 x2 false x0), ti x1])] [] (vo 9000 (List.length r10)) [(9000, oc 3 (List.map (T.int .i64) r10))])] [.keep [12, 5, 4, 2, 1], .keepO [2006]] (ps := [(2 ≤ 2), (CG Try.prog 75 [V.t (T.agg [tl x0, ti x1]), vi x2, vb false] [] (V.agg [vo 9000 (List.length (ansN x1 x2 false x0)), vi x1]) [(9000, oc 3 (List.map (T.int .i64) (ansN x1 x2 false x0)))]), (WkT (T.agg [tl x0, ti x1]) (T.agg [tl x0, ti x1])), (WkT (ti x2) (ti x2)), (WkT (tb false) (tb false)), (CG Try.prog 100 [V.t (T.agg [tl (ansN x1 x2 false x0), ti x1])] [] (vo 9000 (List.length r10)) [(9000, oc 3 (List.map (T.int .i64) r10))]), ((vo 9000 (List.length r10)).flat = true), (flatO [(9000, oc 3 (List.map (T.int .i64) r10))] = true), (List.length (List.map (T.int .i64) (ansN x1 x2 false x0)) = (List.length (ansN x1 x2 false x0)) * 1), (WkT (T.agg [tl (ansN x1 x2 false x0), ti x1]) (T.agg [tl (ansN x1 x2 false x0), ti x1])), (True)]) (e := .normal) (σ' := ⟨[10100, 10090, 2006], [(12, vb (decide (((List.length r10 : Nat) : Int) > (0 : Int)))), (5, vo 2006 0), (4, V.t (T.nils)), (2, V.t (T.ptr [tl x0, ti x1])), (1, vi x2)], [(2006, oc 4 [])]⟩) (by kernel_rfl) ⟨by decide, (l2After_C_G x0 x1 x2 false c0), WkT.refl _, WkT.refl _, WkT.refl _, (F_spec_l2Open_W (ansN x1 x2 false x0) x1 r10 c1), by first | rfl | (simp [V.flats, V.flat, T.flats, T.flat, flats_app, flats_int, flats_bool, flats_str, flats_node, flats_asked, flats_pair, flats_recs, flats_fact, flatEs_mpB, flatEs_mpI, flatEs_mp3]; done), by first | rfl | (simp [flatO, Tl.Obj.flat, V.flats, V.flat, T.flats, T.flat, flats_app, flats_int, flats_bool, flats_str, flats_node, flats_asked, flats_pair, flats_recs, flats_fact, flatEs_mpB, flatEs_mpI, flatEs_mp3]; done), by first | rfl | omega | (simp only [tlL] <;> omega) | (simp <;> omega) | (simp [] <;> omega), WkT.refl _, trivial, trivial⟩ ?_
    rcases ite_some h with ⟨h1, h⟩ | ⟨h1, h⟩
    · -- yes
      refine WP.cond (b := decide (((List.length r10 : Nat) : Int) > (0 : Int))) rfl (fun _ => ?_) (fun hh => by rw [h1] at hh; cases hh)
      refine WP.path tab_ok mixed [(14, An.fz), (15, An.id 2015)] [.keep [5, 4, 2, 1], .keepO [2015], .names [(2015, 2015)]] (ps := [((1 = 1 ∧ 0 + 1 ≤ 1) ∧ True), (1 = 1 * 1), (True), (0 = 0 * 1), (((0 + 1) * 1 ≤ 140737488355328 ∧ 0 + 1 ≤ maxLen))]) (e := .normal) (σ' := ⟨[2015], [(5, vo 2015 1), (4, V.t (T.nils)), (2, V.t (T.ptr [tl x0, ti x1])), (1, vi x2)], [(2015, oc 4 [tb false])]⟩) (by kernel_rfl) ⟨⟨⟨by first | rfl | (simp; done) | (simp []; done) | omega, by first | decide | (simp; done) | (simp []; done) | omega | (simp only [tlL]; omega) | (simp; omega)⟩, trivial⟩, by decide, trivial, by decide, by decide, trivial⟩ ?_
      exact ⟨([false]), h, (by first | rfl | (simp only [tlS, tl, vl, vo, oc, ov, tbl, vbl, ty, vy] <;> rfl) | (simp <;> omega) | (simp []; done) | (rw [List.take_of_length_le (by simp [])] <;> rfl))⟩
    · -- no
      refine WP.cond (b := decide (((List.length r10 : Nat) : Int) > (0 : Int))) rfl (fun hh => by rw [h1] at hh; cases hh) (fun _ => ?_)
      refine WP.path tab_ok mixed [] [.keep [5, 4, 2, 1], .keepO [2006], .names [(2006, 2015)]] (ps := []) (e := .normal) (σ' := ⟨[2015], [(5, vo 2015 0), (4, V.t (T.nils)), (2, V.t (T.ptr [tl x0, ti x1])), (1, vi x2)], [(2015, oc 4 [])]⟩) (by kernel_rfl) trivial ?_
      exact ⟨(([] : List Bool)), h, (by first | rfl | (simp only [tlS, tl, vl, vo, oc, ov, tbl, vbl, ty, vy] <;> rfl) | (simp <;> omega) | (simp []; done) | (rw [List.take_of_length_le (by simp [])] <;> rfl))⟩
  · -- from there
    intro o15 h0
    have h := (show J1 o15 = some y0 from h0)
    rw [hJ1] at h
    refine WP.seq ?_
    refine WP.seq ?_
    obtain ⟨c0, h⟩ := chk_some h
    obtain ⟨r19, c1, h⟩ := bnd1_some h
    refine WP.path tab_ok mixed [(18, An.callG [(9000, 10180)] [V.t (T.agg [tl x0, ti x1]), vi x2, vb true] [] (V.agg [vo 9000 (List.length (ansN x1 x2 true x0)), vi x1]) [(9000, oc 3 (List.map (T.int .i64) (ansN x1 x2 true x0)))]), (19, An.callG [(9000, 10190)] [V.t (T.agg [tl (ansN x1 x2 true x0), ti x1])] [] (vo 9000 (List.length r19)) [(9000, oc 3 (List.map (T.int .i64) r19))])] [.keep [21, 5, 4], .keepO [2015]] (ps := [(2 ≤ 2), (CG Try.prog 75 [V.t (T.agg [tl x0, ti x1]), vi x2, vb true] [] (V.agg [vo 9000 (List.length (ansN x1 x2 true x0)), vi x1]) [(9000, oc 3 (List.map (T.int .i64) (ansN x1 x2 true x0)))]), (WkT (T.agg [tl x0, ti x1]) (T.agg [tl x0, ti x1])), (WkT (ti x2) (ti x2)), (WkT (tb true) (tb true)), (CG Try.prog 100 [V.t (T.agg [tl (ansN x1 x2 true x0), ti x1])] [] (vo 9000 (List.length r19)) [(9000, oc 3 (List.map (T.int .i64) r19))]), ((vo 9000 (List.length r19)).flat = true), (flatO [(9000, oc 3 (List.map (T.int .i64) r19))] = true), (List.length (List.map (T.int .i64) (ansN x1 x2 true x0)) = (List.length (ansN x1 x2 true x0)) * 1), (WkT (T.agg [tl (ansN x1 x2 true x0), ti x1]) (T.agg [tl (ansN x1 x2 true x0), ti x1])), (True)]) (e := .normal) (σ' := ⟨[10190, 10180, 2015], [(21, vb (decide (((List.length r19 : Nat) : Int) > (0 : Int)))), (5, vo 2015 (List.length o15)), (4, V.t (T.nils))], [(2015, oc 4 (List.map T.bool o15))]⟩) (by kernel_rfl) ⟨by decide, (l2After_C_G x0 x1 x2 true c0), WkT.refl _, WkT.refl _, WkT.refl _, (F_spec_l2Open_W (ansN x1 x2 true x0) x1 r19 c1), by first | rfl | (simp [V.flats, V.flat, T.flats, T.flat, flats_app, flats_int, flats_bool, flats_str, flats_node, flats_asked, flats_pair, flats_recs, flats_fact, flatEs_mpB, flatEs_mpI, flatEs_mp3]; done), by first | rfl | (simp [flatO, Tl.Obj.flat, V.flats, V.flat, T.flats, T.flat, flats_app, flats_int, flats_bool, flats_str, flats_node, flats_asked, flats_pair, flats_recs, flats_fact, flatEs_mpB, flatEs_mpI, flatEs_mp3]; done), by first | rfl | omega | (simp only [tlL] <;> omega) | (simp <;> omega) | (simp [] <;> omega), WkT.refl _, trivial, trivial⟩ ?_
    rcases ite_some h with ⟨h2, h⟩ | ⟨h2, h⟩
    · -- yes
      refine WP.cond (b := decide (((List.length r19 : Nat) : Int) > (0 : Int))) rfl (fun _ => ?_) (fun hh => by rw [h2] at hh; cases hh)
      obtain ⟨c2, h⟩ := chk_some h
      refine WP.path tab_ok mixed [(23, An.fz), (24, An.id 2024)] [.keep [5, 4], .keepO [2024]] (ps := [((1 = 1 ∧ 0 + 1 ≤ 1) ∧ True), (1 = 1 * 1), (True), (List.length (List.map T.bool o15) = (List.length o15) * 1), ((((List.length o15) + 1) * 1 ≤ 140737488355328 ∧ (List.length o15) + 1 ≤ maxLen))]) (e := .normal) (σ' := ⟨[2024, 10190, 10180, 2015], [(5, vo 2024 ((List.length o15) + 1)), (4, V.t (T.nils))], [(2024, oc 4 ((List.map T.bool o15) ++ [tb true]))]⟩) (by kernel_rfl) ⟨⟨⟨by first | rfl | (simp; done) | (simp []; done) | omega, by first | decide | (simp; done) | (simp []; done) | omega | (simp only [tlL]; omega) | (simp; omega)⟩, trivial⟩, by decide, trivial, by first | rfl | omega | (simp only [tlL] <;> omega) | (simp <;> omega) | (simp [] <;> omega), c2, trivial⟩ ?_
      have h := Option.some.inj h
      subst h
      exact WP.pathG tab_ok mixed [] [.keep [4], .keepO [2024], .names [(2024, 9000)]] [9000] _ (r' := vo 9000 (List.length (o15 ++ [true]))) (ps := []) (r := vo 9000 ((List.length o15) + 1)) (N := [9000]) (O := [(9000, oc 4 ((List.map T.bool o15) ++ [tb true]))]) [] (by kernel_rfl) trivial ⟨(congrArg (V.own 9000 1) (by first | rfl | (simp only [tlS, tl, vl, vo, oc, ov, tbl, vbl, ty, vy] <;> rfl) | (simp <;> omega) | (simp []; done) | (rw [List.take_of_length_le (by simp [])] <;> rfl))), trivial⟩ rfl (by first | rfl | (simp only [tlS, tl, vl, vo, oc, ov, tbl, vbl, ty, vy] <;> rfl) | (simp <;> omega) | (simp []; done) | (rw [List.take_of_length_le (by simp [])] <;> rfl)) (fun _ h => h)
    · -- no
      refine WP.cond (b := decide (((List.length r19 : Nat) : Int) > (0 : Int))) rfl (fun hh => by rw [h2] at hh; cases hh) (fun _ => ?_)
      refine WP.path tab_ok mixed [] [.keep [5, 4], .keepO [2015]] (ps := []) (e := .normal) (σ' := ⟨[10190, 10180, 2015], [(5, vo 2015 (List.length o15)), (4, V.t (T.nils))], [(2015, oc 4 (List.map T.bool o15))]⟩) (by kernel_rfl) trivial ?_
      have h := Option.some.inj h
      subst h
      exact WP.pathG tab_ok mixed [] [.keep [4], .keepO [2015], .names [(2015, 9000)]] [9000] _ (r' := vo 9000 (List.length o15)) (ps := []) (r := vo 9000 (List.length o15)) (N := [9000]) (O := [(9000, oc 4 (List.map T.bool o15))]) [] (by kernel_rfl) trivial ⟨rfl, trivial⟩ rfl rfl (fun _ h => h)
theorem F_spec_l11Fair_W_C (x0 : List Int) (x1 : Int) (x2 : Int) (y0 : List Bool) (h : F_spec_l11Fair x0 x1 x2 = some y0) : C Try.prog 74 [T.agg [tl x0, ti x1], ti x2] (tbl y0) :=
  CG.toC (ps := [(List.length (List.map T.bool y0) = (List.length y0) * 1)]) (F_spec_l11Fair_W  x0 x1 x2 y0 h) (by rfl) ⟨by first | rfl | omega | (simp <;> omega) | (simp [hl] <;> omega), trivial⟩
theorem F_spec_l11Fill_B_W (self : (List Int) → Int → (List Int) → (List (Bool × Bool × Int × Int × Int)) → Option (Bool × Bool × Int × Int × Int × (List (Bool × Bool × Int × Int × Int)))) (hself : ∀ (x0 : List Int) (x1 : Int) (x2 : List Int) (x3 : List (Bool × Bool × Int × Int × Int)) (y0 : Bool) (y1 : Bool) (y2 : Int) (y3 : Int) (y4 : Int) (y5 : List (Bool × Bool × Int × Int × Int)), self x0 x1 x2 x3 = some (y0, y1, y2, y3, y4, y5) → CG Try.prog 96 [V.t (T.agg [tl x0, ti x1]), vl x2, V.own 500 5 (List.length x3)] [(500, oc 70 (List.flatMap factC x3))] (V.t (T.agg [tb y0, tb y1, ti y2, ti y3, ti y4])) [(500, oc 70 (List.flatMap factC y5))]) (x0 : List Int) (x1 : Int) (x2 : List Int) (x3 : List (Bool × Bool × Int × Int × Int)) (y0 : Bool) (y1 : Bool) (y2 : Int) (y3 : Int) (y4 : Int) (y5 : List (Bool × Bool × Int × Int × Int)) (h : F_spec_l11Fill_B self x0 x1 x2 x3 = some (y0, y1, y2, y3, y4, y5)) : CG Try.prog 96 [V.t (T.agg [tl x0, ti x1]), vl x2, V.own 500 5 (List.length x3)] [(500, oc 70 (List.flatMap factC x3))] (V.t (T.agg [tb y0, tb y1, ti y2, ti y3, ti y4])) [(500, oc 70 (List.flatMap factC y5))] := by
  unfold F_spec_l11Fill_B at h
  refine CG.intro (tab := tab) tab_ok (fn := Try.f96) Try.func96 (by kernel_rfl) rfl (Nat.le_of_ble_eq_true rfl) (by kernel_rfl) ?_
  refine WP.seq ?_
  refine WP.path tab_ok mixed [(3, An.fz), (6, An.id 2006)] [.keep [6, 3, 1, 2], .keepO [500, 2006]] (ps := []) (e := .normal) (σ' := ⟨[2006, 500], [(6, V.ref 2006 0), (3, V.t (T.ptr [tl x0, ti x1])), (1, vl x2), (2, V.own 500 5 (List.length x3))], [(500, oc 70 (List.flatMap factC x3)), (2006, oc 70 [tb false, tb false, ti 0, ti 0, ti 0])]⟩) (by kernel_rfl) trivial ?_
  refine WP.seq ?_
  obtain ⟨r17, c0, h⟩ := bnd1_some h
  obtain ⟨r20, c1, h⟩ := bnd1_some h
  refine WP.path tab_ok mixed [(17, An.call (ti r17)), (20, An.callG [(9000, 10200)] [V.t (T.agg [tl x0, ti x1]), vl x2] [] (vo 9000 (List.length r20)) [(9000, oc 3 (List.map (T.int .i64) r20))])] [.keep [8, 7, 6, 3, 1, 2], .keepO [500, 2006, 10200]] (ps := [(2 ≤ 2), (C Try.prog 62 [T.agg [tl x0, ti x1]] (ti r17)), (2 ≤ 2), (CG Try.prog 70 [V.t (T.agg [tl x0, ti x1]), vl x2] [] (vo 9000 (List.length r20)) [(9000, oc 3 (List.map (T.int .i64) r20))]), (WkT (T.agg [tl x0, ti x1]) (T.agg [tl x0, ti x1])), (WkT (tl x2) (tl x2))]) (e := .normal) (σ' := ⟨[10200, 2006, 500], [(8, vo 10200 (List.length r20)), (7, vi r17), (6, V.ref 2006 0), (3, V.t (T.ptr [tl x0, ti x1])), (1, vl x2), (2, V.own 500 5 (List.length x3))], [(500, oc 70 (List.flatMap factC x3)), (2006, oc 70 [tb false, tb false, ti 0, ti 0, ti 0]), (10200, oc 3 (List.map (T.int .i64) r20))]⟩) (by kernel_rfl) ⟨by decide, (F_spec_l6Key_W x0 x1 r17 c0), by decide, (F_spec_l11Choices_W x0 x1 x2 r20 c1), WkT.refl _, WkT.refl _, trivial⟩ ?_
  refine WP.seq ?_
  refine WP.seq ?_
  obtain ⟨c2, h⟩ := chk_some h
  refine WP.path tab_ok mixed [(25, An.v (tb ((List.getD x3 (Int.toNat r17) (false, false, 0, 0, 0)).1)))] [.keep [25, 8, 7, 6, 3, 1, 2], .keepO [500, 2006, 10200]] (ps := [((0 ≤ r17 ∧ r17 < ((List.length x3 : Nat) : Int))), ((List.flatMap factC x3 : List T)[((Int.toNat r17) * 5) + 0]? = some (tb ((List.getD x3 (Int.toNat r17) (false, false, 0, 0, 0)).1))), (tb ((List.getD x3 (Int.toNat r17) (false, false, 0, 0, 0)).1) = tb ((List.getD x3 (Int.toNat r17) (false, false, 0, 0, 0)).1))]) (e := .normal) (σ' := ⟨[10200, 2006, 500], [(25, vb ((List.getD x3 (Int.toNat r17) (false, false, 0, 0, 0)).1)), (8, vo 10200 (List.length r20)), (7, vi r17), (6, V.ref 2006 0), (3, V.t (T.ptr [tl x0, ti x1])), (1, vl x2), (2, V.own 500 5 (List.length x3))], [(500, oc 70 (List.flatMap factC x3)), (2006, oc 70 [tb false, tb false, ti 0, ti 0, ti 0]), (10200, oc 3 (List.map (T.int .i64) r20))]⟩) (by kernel_rfl) ⟨c2, getF (f := factC) (c := 5) (fun _ => rfl) (d := (false, false, 0, 0, 0)) (i := (Int.toNat r17)) (k := 0) (by first | rfl | omega) (by omega) rfl, rfl, trivial⟩ ?_
  rcases ite_some h with ⟨h1, h⟩ | ⟨h1, h⟩
  · -- yes
    refine WP.cond (b := (List.getD x3 (Int.toNat r17) (false, false, 0, 0, 0)).1) rfl (fun _ => ?_) (fun hh => by rw [h1] at hh; cases hh)
    simp only [Option.some.injEq, Prod.mk.injEq] at h
    obtain ⟨rfl, rfl, rfl, rfl, rfl, rfl⟩ := h
    exact WP.pathG tab_ok mixed [(29, An.v (T.agg [tb ((List.getD x3 (Int.toNat r17) (false, false, 0, 0, 0)).1), tb ((List.getD x3 (Int.toNat r17) (false, false, 0, 0, 0)).2.1), ti ((List.getD x3 (Int.toNat r17) (false, false, 0, 0, 0)).2.2.1), ti ((List.getD x3 (Int.toNat r17) (false, false, 0, 0, 0)).2.2.2.1), ti ((List.getD x3 (Int.toNat r17) (false, false, 0, 0, 0)).2.2.2.2)]))] [.keep [6], .keepO [500, 2006], .names [(500, 500), (2006, 2006)]] [500] _ (r' := V.t (T.agg [tb ((List.getD x3 (Int.toNat r17) (false, false, 0, 0, 0)).1), tb ((List.getD x3 (Int.toNat r17) (false, false, 0, 0, 0)).2.1), ti ((List.getD x3 (Int.toNat r17) (false, false, 0, 0, 0)).2.2.1), ti ((List.getD x3 (Int.toNat r17) (false, false, 0, 0, 0)).2.2.2.1), ti ((List.getD x3 (Int.toNat r17) (false, false, 0, 0, 0)).2.2.2.2)])) (ps := [((0 ≤ r17 ∧ r17 < ((List.length x3 : Nat) : Int))), ((Int.toNat r17) * 5 + 5 ≤ List.length (List.flatMap factC x3)), (T.agg (List.take 5 (List.drop ((Int.toNat r17) * 5) (List.flatMap factC x3))) = T.agg [tb ((List.getD x3 (Int.toNat r17) (false, false, 0, 0, 0)).1), tb ((List.getD x3 (Int.toNat r17) (false, false, 0, 0, 0)).2.1), ti ((List.getD x3 (Int.toNat r17) (false, false, 0, 0, 0)).2.2.1), ti ((List.getD x3 (Int.toNat r17) (false, false, 0, 0, 0)).2.2.2.1), ti ((List.getD x3 (Int.toNat r17) (false, false, 0, 0, 0)).2.2.2.2)]), ((0 + 5 ≤ 5 ∧ 5 = 5)), (0 + 5 ≤ 5)]) (r := V.t (T.agg [tb ((List.getD x3 (Int.toNat r17) (false, false, 0, 0, 0)).1), tb ((List.getD x3 (Int.toNat r17) (false, false, 0, 0, 0)).2.1), ti ((List.getD x3 (Int.toNat r17) (false, false, 0, 0, 0)).2.2.1), ti ((List.getD x3 (Int.toNat r17) (false, false, 0, 0, 0)).2.2.2.1), ti ((List.getD x3 (Int.toNat r17) (false, false, 0, 0, 0)).2.2.2.2)])) (N := [500, 2006]) (O := [(500, oc 70 (List.flatMap factC x3))]) [] (by kernel_rfl) ⟨c2, by rw [len_fact]; omega, at_fact (by simp) (by omega), by decide, by first | decide | omega | (simp only [tlL] <;> omega) | (simp <;> omega) | (simp [] <;> omega), trivial⟩ ⟨(WkT.refl _), trivial⟩ rfl rfl (fun _ h => h)
  · -- no
    refine WP.cond (b := (List.getD x3 (Int.toNat r17) (false, false, 0, 0, 0)).1) rfl (fun hh => by rw [h1] at hh; cases hh) (fun _ => ?_)
    refine WP.path tab_ok mixed [] [.keep [8, 7, 6, 3, 1, 2], .keepO [500, 2006, 10200]] (ps := []) (e := .normal) (σ' := ⟨[10200, 2006, 500], [(8, vo 10200 (List.length r20)), (7, vi r17), (6, V.ref 2006 0), (3, V.t (T.ptr [tl x0, ti x1])), (1, vl x2), (2, V.own 500 5 (List.length x3))], [(500, oc 70 (List.flatMap factC x3)), (2006, oc 70 [tb false, tb false, ti 0, ti 0, ti 0]), (10200, oc 3 (List.map (T.int .i64) r20))]⟩) (by kernel_rfl) trivial ?_
    refine WP.seq ?_
    refine WP.path tab_ok mixed [(9, An.id 2009)] [.keep [9, 8, 7, 6, 3, 1, 2], .keepO [500, 2006, 2009, 10200]] (ps := [((1 = 1 ∧ 0 + 1 ≤ 5) ∧ (1 = 1 ∧ 3 + 1 ≤ 5) ∧ True), ((0 + 5 ≤ 5 ∧ 5 = 5))]) (e := .normal) (σ' := ⟨[2009, 10200, 2006, 500], [(9, V.ref 2009 0), (8, vo 10200 (List.length r20)), (7, vi r17), (6, V.ref 2006 0), (3, V.t (T.ptr [tl x0, ti x1])), (1, vl x2), (2, V.own 500 5 (List.length x3))], [(500, oc 70 (List.flatMap factC x3)), (2006, oc 70 [tb false, tb false, ti 0, ti 0, ti 0]), (2009, oc 70 [tb true, tb false, ti 0, ti (-1), ti 0]), (10200, oc 3 (List.map (T.int .i64) r20))]⟩) (by kernel_rfl) ⟨⟨⟨by first | rfl | (simp; done) | (simp []; done) | omega, by first | decide | (simp; done) | (simp []; done) | omega | (simp only [tlL]; omega) | (simp; omega)⟩, ⟨by first | rfl | (simp; done) | (simp []; done) | omega, by first | decide | (simp; done) | (simp []; done) | omega | (simp only [tlL]; omega) | (simp; omega)⟩, trivial⟩, by decide, trivial⟩ ?_
    obtain ⟨J1, hJ1, h⟩ := jn_some h
    refine WP.joinA (fun (zz : Int × Int × (List Int)) => ⟨[500, 2006, 2009, 2040], [(8, vo 2040 (List.length zz.2.2)), (9, V.ref 2009 0), (7, vi r17), (6, V.ref 2006 0), (3, V.t (T.ptr [tl x0, ti x1])), (1, vl x2), (2, V.own 500 5 (List.length x3))], [(500, oc 70 (List.flatMap factC x3)), (2006, oc 70 [tb false, tb false, ti 0, ti 0, ti 0]), (2009, oc 70 [tb true, tb false, ti 0, ti zz.1, ti zz.2.1]), (2040, oc 3 (List.map (T.int .i64) zz.2.2))]⟩) (fun zz => J1 zz.1 zz.2.1 zz.2.2 = some (y0, y1, y2, y3, y4, y5)) ?_ ?_
    · -- to where they meet
      obtain ⟨J2, hJ2, h⟩ := jn_some h
      refine WP.joinA (fun (zz : Bool) => ⟨[500, 2006, 2009, 10200], [(37, vb zz), (9, V.ref 2009 0), (8, vo 10200 (List.length r20)), (7, vi r17), (6, V.ref 2006 0), (3, V.t (T.ptr [tl x0, ti x1])), (1, vl x2), (2, V.own 500 5 (List.length x3))], [(500, oc 70 (List.flatMap factC x3)), (2006, oc 70 [tb false, tb false, ti 0, ti 0, ti 0]), (2009, oc 70 [tb true, tb false, ti 0, ti (-1), ti 0]), (10200, oc 3 (List.map (T.int .i64) r20))]⟩) (fun zz => J2 zz = some (y0, y1, y2, y3, y4, y5)) ?_ ?_
      · -- to where they meet
        obtain ⟨c3, h⟩ := chk_some h
        rcases ite_some h with ⟨h2, h⟩ | ⟨h2, h⟩
        · -- yes
          refine WP.path tab_ok mixed [(32, An.call (tb true))] [.keep [37, 9, 8, 7, 6, 3, 1, 2], .keepO [500, 2006, 2009, 10200], .names [(500, 500), (2006, 2006), (2009, 2009), (10200, 10200)]] (ps := [(2 ≤ 2), (C Try.prog 76 [T.agg [tl x0, ti x1]] (tb true))]) (e := .normal) (σ' := ⟨[500, 2006, 2009, 10200], [(37, vb true), (9, V.ref 2009 0), (8, vo 10200 (List.length r20)), (7, vi r17), (6, V.ref 2006 0), (3, V.t (T.ptr [tl x0, ti x1])), (1, vl x2), (2, V.own 500 5 (List.length x3))], [(500, oc 70 (List.flatMap factC x3)), (2006, oc 70 [tb false, tb false, ti 0, ti 0, ti 0]), (2009, oc 70 [tb true, tb false, ti 0, ti (-1), ti 0]), (10200, oc 3 (List.map (T.int .i64) r20))]⟩) (by kernel_rfl) ⟨by decide, (C.toB h2 (l6Done_C x0 x1 c3)), trivial⟩ ?_
          exact ⟨(true), h, rfl⟩
        · -- no
          refine WP.path tab_ok mixed [(32, An.call (tb false))] [.keep [37, 9, 8, 7, 6, 3, 1, 2], .keepO [500, 2006, 2009, 10200], .names [(500, 500), (2006, 2006), (2009, 2009), (10200, 10200)]] (ps := [(2 ≤ 2), (C Try.prog 76 [T.agg [tl x0, ti x1]] (tb false)), (True)]) (e := .normal) (σ' := ⟨[500, 2006, 2009, 10200], [(37, vb (((List.length r20 : Nat) : Int) == (0 : Int))), (9, V.ref 2009 0), (8, vo 10200 (List.length r20)), (7, vi r17), (6, V.ref 2006 0), (3, V.t (T.ptr [tl x0, ti x1])), (1, vl x2), (2, V.own 500 5 (List.length x3))], [(500, oc 70 (List.flatMap factC x3)), (2006, oc 70 [tb false, tb false, ti 0, ti 0, ti 0]), (2009, oc 70 [tb true, tb false, ti 0, ti (-1), ti 0]), (10200, oc 3 (List.map (T.int .i64) r20))]⟩) (by kernel_rfl) ⟨by decide, (C.toB h2 (l6Done_C x0 x1 c3)), trivial, trivial⟩ ?_
          exact ⟨(((List.length r20 : Nat) : Int) == (0 : Int)), h, rfl⟩
      · -- from there
        intro v37 h0
        have h := (show J2 v37 = some (y0, y1, y2, y3, y4, y5) from h0)
        rw [hJ2] at h
        rcases ite_some h with ⟨h3, h⟩ | ⟨h3, h⟩
        · -- yes
          refine WP.cond (b := v37) rfl (fun _ => ?_) (fun hh => by rw [h3] at hh; cases hh)
          refine WP.path tab_ok mixed [(40, An.id 2040)] [.keep [8, 9, 7, 6, 3, 1, 2], .keepO [500, 2006, 2009, 2040], .names [(500, 500), (2006, 2006), (2009, 2009), (2040, 2040)]] (ps := [(3 < 5), (4 < 5), (True), (0 = 0 * 1)]) (e := .normal) (σ' := ⟨[500, 2006, 2009, 2040], [(8, vo 2040 0), (9, V.ref 2009 0), (7, vi r17), (6, V.ref 2006 0), (3, V.t (T.ptr [tl x0, ti x1])), (1, vl x2), (2, V.own 500 5 (List.length x3))], [(500, oc 70 (List.flatMap factC x3)), (2006, oc 70 [tb false, tb false, ti 0, ti 0, ti 0]), (2009, oc 70 [tb true, tb false, ti 0, ti 0, ti 1]), (2040, oc 3 [])]⟩) (by kernel_rfl) ⟨by decide, by decide, trivial, by decide, trivial⟩ ?_
          exact ⟨((0 : Int), (1 : Int), ([] : List Int)), h, (by first | rfl | (simp only [tlS, tl, vl, vo, oc, ov, tbl, vbl, ty, vy] <;> rfl) | (simp <;> omega) | (simp []; done) | (rw [List.take_of_length_le (by simp [])] <;> rfl))⟩
        · -- no
          refine WP.cond (b := v37) rfl (fun hh => by rw [h3] at hh; cases hh) (fun _ => ?_)
          refine WP.path tab_ok mixed [] [.keep [8, 9, 7, 6, 3, 1, 2], .keepO [500, 2006, 2009, 10200], .names [(500, 500), (2006, 2006), (2009, 2009), (10200, 2040)]] (ps := []) (e := .normal) (σ' := ⟨[500, 2006, 2009, 2040], [(8, vo 2040 (List.length r20)), (9, V.ref 2009 0), (7, vi r17), (6, V.ref 2006 0), (3, V.t (T.ptr [tl x0, ti x1])), (1, vl x2), (2, V.own 500 5 (List.length x3))], [(500, oc 70 (List.flatMap factC x3)), (2006, oc 70 [tb false, tb false, ti 0, ti 0, ti 0]), (2009, oc 70 [tb true, tb false, ti 0, ti (-1), ti 0]), (2040, oc 3 (List.map (T.int .i64) r20))]⟩) (by kernel_rfl) trivial ?_
          exact ⟨((-1 : Int), (0 : Int), r20), h, (by first | rfl | (simp only [tlS, tl, vl, vo, oc, ov, tbl, vbl, ty, vy] <;> rfl) | (simp <;> omega) | (simp []; done) | (rw [List.take_of_length_le (by simp [])] <;> rfl))⟩
    · -- from there
      rintro ⟨o9, o9b, o40⟩ h0
      have h := (show J1 o9 o9b o40 = some (y0, y1, y2, y3, y4, y5) from h0)
      rw [hJ1] at h
      obtain ⟨J1, hJ1, h⟩ := jn_some h
      refine WP.joinA (fun (zz : (List (Bool × Bool × Int × Int × Int)) × Bool × Int × Int × Int) => ⟨[500, 2006, 2009], [(9, V.ref 2009 0), (7, vi r17), (6, V.ref 2006 0), (2, V.own 500 5 (List.length zz.1))], [(500, oc 70 (List.flatMap factC zz.1)), (2006, oc 70 [tb false, tb false, ti 0, ti 0, ti 0]), (2009, oc 70 [tb true, tb zz.2.1, ti zz.2.2.1, ti zz.2.2.2.1, ti zz.2.2.2.2])]⟩) (fun zz => J1 zz.1 zz.2.1 zz.2.2.1 zz.2.2.2.1 zz.2.2.2.2 = some (y0, y1, y2, y3, y4, y5)) ?_ ?_
      · -- to where they meet
        refine WP.seq ?_
        refine WP.path tab_ok mixed [] [.keep [10, 8, 9, 7, 6, 3, 1, 2], .keepO [500, 2006, 2009, 2040]] (ps := []) (e := .normal) (σ' := ⟨[500, 2006, 2009, 2040], [(10, vi 0), (8, vo 2040 (List.length o40)), (9, V.ref 2009 0), (7, vi r17), (6, V.ref 2006 0), (3, V.t (T.ptr [tl x0, ti x1])), (1, vl x2), (2, V.own 500 5 (List.length x3))], [(500, oc 70 (List.flatMap factC x3)), (2006, oc 70 [tb false, tb false, ti 0, ti 0, ti 0]), (2009, oc 70 [tb true, tb false, ti 0, ti o9, ti o9b]), (2040, oc 3 (List.map (T.int .i64) o40))]⟩) (by kernel_rfl) trivial ?_
        refine WP.block ?_
        refine WP.wk [.keep [10, 8, 9, 7, 6, 3, 1, 2], .keepO [500, 2006, 2009, 2040], .names [(500, 500), (2006, 2006), (2009, 2009), (2040, 2040)]] (σ' := ⟨[500, 2006, 2009, 2040], [(10, vi 0), (8, vo 2040 (List.length o40)), (9, V.ref 2009 0), (7, vi r17), (6, V.ref 2006 0), (3, V.t (T.ptr [tl x0, ti x1])), (1, vl x2), (2, V.own 500 5 (List.length x3))], [(500, oc 70 (List.flatMap factC x3)), (2006, oc 70 [tb false, tb false, ti 0, ti 0, ti 0]), (2009, oc 70 [tb true, tb false, ti 0, ti o9, ti o9b]), (2040, oc 3 (List.map (T.int .i64) o40))]⟩) (ps := []) (by kernel_rfl) trivial ?_
        refine WP.st (σ' := ⟨[500, 2006, 2009, 2040], [(10, vi (0 : Int)), (8, vo 2040 (List.length o40)), (9, V.ref 2009 0), (7, vi r17), (6, V.ref 2006 0), (3, V.t (T.ptr [tl x0, ti x1])), (1, vl x2), (2, V.own 500 5 (List.length x3))], [(500, oc 70 (List.flatMap factC x3)), (2006, oc 70 [tb false, tb false, ti 0, ti 0, ti 0]), (2009, oc 70 [tb true, tb false, ti (0 : Int), ti o9, ti o9b]), (2040, oc 3 (List.map (T.int .i64) o40))]⟩) (by first | rfl | (simp only [tlS, tl, vl, vo, oc, ov, tbl, vbl, ty, vy] <;> rfl) | (simp <;> omega) | (simp []; done) | (rw [List.take_of_length_le (by simp [])] <;> rfl)) ?_
        refine WP.loop (α := Nat × (List (Bool × Bool × Int × Int × Int)) × Bool × Int × Int × Int × Int) (fun zz => ⟨[500, 2006, 2009, 2040], [(10, vi zz.2.2.2.2.2.2), (8, vo 2040 (List.length o40)), (9, V.ref 2009 0), (7, vi r17), (6, V.ref 2006 0), (3, V.t (T.ptr [tl x0, ti x1])), (1, vl x2), (2, V.own 500 5 (List.length zz.2.1))], [(500, oc 70 (List.flatMap factC zz.2.1)), (2006, oc 70 [tb false, tb false, ti 0, ti 0, ti 0]), (2009, oc 70 [tb true, tb zz.2.2.1, ti zz.2.2.2.1, ti zz.2.2.2.2.1, ti zz.2.2.2.2.2.1]), (2040, oc 3 (List.map (T.int .i64) o40))]⟩) (fun zz => F_spec_l11Fill_B_L1 x0 x1 x2 self o40 J1 zz.1 zz.2.1 zz.2.2.1 zz.2.2.2.1 zz.2.2.2.2.1 zz.2.2.2.2.2.1 zz.2.2.2.2.2.2 = some (y0, y1, y2, y3, y4, y5)) (fun zz => zz.1) (fuel, x3, false, (0 : Int), o9, o9b, (0 : Int)) h ?_
        rintro ⟨n, o500, o9c, o9d, o9e, o9g, v10⟩ h0
        have h := (show F_spec_l11Fill_B_L1 x0 x1 x2 self o40 J1 n o500 o9c o9d o9e o9g v10 = some (y0, y1, y2, y3, y4, y5) from h0)
        rcases n with _ | n
        · rw [F_spec_l11Fill_B_L1] at h; cases h
        · rw [F_spec_l11Fill_B_L1] at h
          refine WP.seq ?_
          refine WP.seq ?_
          refine WP.path tab_ok mixed [] [.keep [44, 10, 8, 9, 7, 6, 3, 1, 2], .keepO [500, 2006, 2009, 2040]] (ps := [(True)]) (e := .normal) (σ' := ⟨[500, 2006, 2009, 2040], [(44, vb (decide (v10 < ((List.length o40 : Nat) : Int)))), (10, vi v10), (8, vo 2040 (List.length o40)), (9, V.ref 2009 0), (7, vi r17), (6, V.ref 2006 0), (3, V.t (T.ptr [tl x0, ti x1])), (1, vl x2), (2, V.own 500 5 (List.length o500))], [(500, oc 70 (List.flatMap factC o500)), (2006, oc 70 [tb false, tb false, ti 0, ti 0, ti 0]), (2009, oc 70 [tb true, tb o9c, ti o9d, ti o9e, ti o9g]), (2040, oc 3 (List.map (T.int .i64) o40))]⟩) (by kernel_rfl) ⟨trivial, trivial⟩ ?_
          rcases ite_some h with ⟨h4, h⟩ | ⟨h4, h⟩
          · -- yes
            refine WP.cond (b := decide (v10 < ((List.length o40 : Nat) : Int))) rfl (fun _ => ?_) (fun hh => by rw [h4] at hh; cases hh)
            refine WP.path tab_ok mixed [] [.keep [10, 8, 9, 7, 6, 3, 1, 2], .keepO [500, 2006, 2009, 2040]] (ps := []) (e := .normal) (σ' := ⟨[500, 2006, 2009, 2040], [(10, vi v10), (8, vo 2040 (List.length o40)), (9, V.ref 2009 0), (7, vi r17), (6, V.ref 2006 0), (3, V.t (T.ptr [tl x0, ti x1])), (1, vl x2), (2, V.own 500 5 (List.length o500))], [(500, oc 70 (List.flatMap factC o500)), (2006, oc 70 [tb false, tb false, ti 0, ti 0, ti 0]), (2009, oc 70 [tb true, tb o9c, ti o9d, ti o9e, ti o9g]), (2040, oc 3 (List.map (T.int .i64) o40))]⟩) (by kernel_rfl) trivial ?_
            obtain ⟨J2, hJ2, h⟩ := jn_some h
            refine WP.joinA (fun (zz : (List (Bool × Bool × Int × Int × Int)) × Bool × Int × Int × Int) => ⟨[500, 2006, 2009, 2040], [(10, vi v10), (8, vo 2040 (List.length o40)), (9, V.ref 2009 0), (7, vi r17), (6, V.ref 2006 0), (3, V.t (T.ptr [tl x0, ti x1])), (1, vl x2), (2, V.own 500 5 (List.length zz.1))], [(500, oc 70 (List.flatMap factC zz.1)), (2006, oc 70 [tb false, tb false, ti 0, ti 0, ti 0]), (2009, oc 70 [tb true, tb zz.2.1, ti zz.2.2.1, ti zz.2.2.2.1, ti zz.2.2.2.2]), (2040, oc 3 (List.map (T.int .i64) o40))]⟩) (fun zz => J2 zz.1 zz.2.1 zz.2.2.1 zz.2.2.2.1 zz.2.2.2.2 = some (y0, y1, y2, y3, y4, y5)) ?_ ?_
            · -- to where they meet
              refine WP.block ?_
              refine WP.seq ?_
              obtain ⟨c3, h⟩ := chk_some h
              obtain ⟨r52, c4, h⟩ := bnd1_some h
              refine WP.path tab_ok mixed [(51, An.v (ti (List.getD o40 (Int.toNat v10) 0))), (52, An.callG [(9000, 10520)] [V.t (T.agg [tl x0, ti x1]), vi (List.getD o40 (Int.toNat v10) 0)] [] (vo 9000 (List.length r52)) [(9000, oc 4 (List.map T.bool r52))])] [.keep [12, 11, 10, 8, 9, 7, 6, 3, 1, 2], .keepO [500, 2006, 2009, 2040, 10520]] (ps := [(2 ≤ 2), ((0 ≤ v10 ∧ v10 < ((List.length o40 : Nat) : Int))), ((List.map (T.int .i64) o40 : List T)[(Int.toNat v10) * 1]? = some (ti (List.getD o40 (Int.toNat v10) 0))), (ti (List.getD o40 (Int.toNat v10) 0) = ti (List.getD o40 (Int.toNat v10) 0)), (CG Try.prog 74 [V.t (T.agg [tl x0, ti x1]), vi (List.getD o40 (Int.toNat v10) 0)] [] (vo 9000 (List.length r52)) [(9000, oc 4 (List.map T.bool r52))]), (WkT (T.agg [tl x0, ti x1]) (T.agg [tl x0, ti x1])), (WkT (ti (List.getD o40 (Int.toNat v10) 0)) (ti (List.getD o40 (Int.toNat v10) 0)))]) (e := .normal) (σ' := ⟨[10520, 500, 2006, 2009, 2040], [(12, vb true), (11, vo 10520 (List.length r52)), (10, vi v10), (8, vo 2040 (List.length o40)), (9, V.ref 2009 0), (7, vi r17), (6, V.ref 2006 0), (3, V.t (T.ptr [tl x0, ti x1])), (1, vl x2), (2, V.own 500 5 (List.length o500))], [(500, oc 70 (List.flatMap factC o500)), (2006, oc 70 [tb false, tb false, ti 0, ti 0, ti 0]), (2009, oc 70 [tb true, tb o9c, ti o9d, ti o9e, ti o9g]), (2040, oc 3 (List.map (T.int .i64) o40)), (10520, oc 4 (List.map T.bool r52))]⟩) (by kernel_rfl) ⟨by decide, c3, atM (by simp) (by first | omega | (simp only [tlL]; omega) | (simp; omega)), rfl, (F_spec_l11Fair_W x0 x1 (List.getD o40 (Int.toNat v10) 0) r52 c4), WkT.refl _, WkT.refl _, trivial⟩ ?_
              obtain ⟨J3, hJ3, h⟩ := jn_some h
              refine WP.joinA (fun (zz : (List (Bool × Bool × Int × Int × Int)) × Int × Int × Int × Bool) => ⟨[500, 2006, 2009, 2040], [(12, vb zz.2.2.2.2), (10, vi v10), (8, vo 2040 (List.length o40)), (9, V.ref 2009 0), (7, vi r17), (6, V.ref 2006 0), (3, V.t (T.ptr [tl x0, ti x1])), (1, vl x2), (2, V.own 500 5 (List.length zz.1))], [(500, oc 70 (List.flatMap factC zz.1)), (2006, oc 70 [tb false, tb false, ti 0, ti 0, ti 0]), (2009, oc 70 [tb true, tb o9c, ti zz.2.1, ti zz.2.2.1, ti zz.2.2.2.1]), (2040, oc 3 (List.map (T.int .i64) o40))]⟩) (fun zz => J3 zz.1 zz.2.1 zz.2.2.1 zz.2.2.2.1 zz.2.2.2.2 = some (y0, y1, y2, y3, y4, y5)) ?_ ?_
              · -- to where they meet
                refine WP.seq ?_
                refine WP.path tab_ok mixed [] [.keep [13, 12, 11, 10, 8, 9, 7, 6, 3, 1, 2], .keepO [500, 2006, 2009, 2040, 10520]] (ps := []) (e := .normal) (σ' := ⟨[10520, 500, 2006, 2009, 2040], [(13, vi 0), (12, vb true), (11, vo 10520 (List.length r52)), (10, vi v10), (8, vo 2040 (List.length o40)), (9, V.ref 2009 0), (7, vi r17), (6, V.ref 2006 0), (3, V.t (T.ptr [tl x0, ti x1])), (1, vl x2), (2, V.own 500 5 (List.length o500))], [(500, oc 70 (List.flatMap factC o500)), (2006, oc 70 [tb false, tb false, ti 0, ti 0, ti 0]), (2009, oc 70 [tb true, tb o9c, ti o9d, ti o9e, ti o9g]), (2040, oc 3 (List.map (T.int .i64) o40)), (10520, oc 4 (List.map T.bool r52))]⟩) (by kernel_rfl) trivial ?_
                refine WP.block ?_
                refine WP.wk [.keep [13, 12, 11, 10, 8, 9, 7, 6, 3, 1, 2], .keepO [500, 2006, 2009, 2040, 10520], .names [(500, 500), (2006, 2006), (2009, 2009), (2040, 2040), (10520, 10520)]] (σ' := ⟨[500, 2006, 2009, 2040, 10520], [(13, vi 0), (12, vb true), (11, vo 10520 (List.length r52)), (10, vi v10), (8, vo 2040 (List.length o40)), (9, V.ref 2009 0), (7, vi r17), (6, V.ref 2006 0), (3, V.t (T.ptr [tl x0, ti x1])), (1, vl x2), (2, V.own 500 5 (List.length o500))], [(500, oc 70 (List.flatMap factC o500)), (2006, oc 70 [tb false, tb false, ti 0, ti 0, ti 0]), (2009, oc 70 [tb true, tb o9c, ti o9d, ti o9e, ti o9g]), (2040, oc 3 (List.map (T.int .i64) o40)), (10520, oc 4 (List.map T.bool r52))]⟩) (ps := []) (by kernel_rfl) trivial ?_
                refine WP.st (σ' := ⟨[500, 2006, 2009, 2040, 10520], [(13, vi (0 : Int)), (12, vb true), (11, vo 10520 (List.length r52)), (10, vi v10), (8, vo 2040 (List.length o40)), (9, V.ref 2009 0), (7, vi r17), (6, V.ref 2006 0), (3, V.t (T.ptr [tl x0, ti x1])), (1, vl x2), (2, V.own 500 5 (List.length o500))], [(500, oc 70 (List.flatMap factC o500)), (2006, oc 70 [tb false, tb false, ti 0, ti 0, ti 0]), (2009, oc 70 [tb true, tb o9c, ti o9d, ti o9e, ti o9g]), (2040, oc 3 (List.map (T.int .i64) o40)), (10520, oc 4 (List.map T.bool r52))]⟩) (by first | rfl | (simp only [tlS, tl, vl, vo, oc, ov, tbl, vbl, ty, vy] <;> rfl) | (simp <;> omega) | (simp []; done) | (rw [List.take_of_length_le (by simp [])] <;> rfl)) ?_
                refine WP.loop (α := Nat × (List (Bool × Bool × Int × Int × Int)) × Int × Int × Int × Int × Bool) (fun zz => ⟨[500, 2006, 2009, 2040, 10520], [(13, vi zz.2.2.2.2.2.1), (12, vb zz.2.2.2.2.2.2), (11, vo 10520 (List.length r52)), (10, vi v10), (8, vo 2040 (List.length o40)), (9, V.ref 2009 0), (7, vi r17), (6, V.ref 2006 0), (3, V.t (T.ptr [tl x0, ti x1])), (1, vl x2), (2, V.own 500 5 (List.length zz.2.1))], [(500, oc 70 (List.flatMap factC zz.2.1)), (2006, oc 70 [tb false, tb false, ti 0, ti 0, ti 0]), (2009, oc 70 [tb true, tb o9c, ti zz.2.2.1, ti zz.2.2.2.1, ti zz.2.2.2.2.1]), (2040, oc 3 (List.map (T.int .i64) o40)), (10520, oc 4 (List.map T.bool r52))]⟩) (fun zz => F_spec_l11Fill_B_L2 x0 x1 x2 self o40 v10 r52 J3 zz.1 zz.2.1 zz.2.2.1 zz.2.2.2.1 zz.2.2.2.2.1 zz.2.2.2.2.2.1 zz.2.2.2.2.2.2 = some (y0, y1, y2, y3, y4, y5)) (fun zz => zz.1) (fuel, o500, o9d, o9e, o9g, (0 : Int), true) h ?_
                rintro ⟨n, o500b, o9i, o9j, o9k, v13, v12⟩ h0
                have h := (show F_spec_l11Fill_B_L2 x0 x1 x2 self o40 v10 r52 J3 n o500b o9i o9j o9k v13 v12 = some (y0, y1, y2, y3, y4, y5) from h0)
                rcases n with _ | n
                · rw [F_spec_l11Fill_B_L2] at h; cases h
                · rw [F_spec_l11Fill_B_L2] at h
                  refine WP.seq ?_
                  refine WP.seq ?_
                  refine WP.path tab_ok mixed [] [.keep [56, 13, 12, 11, 10, 8, 9, 7, 6, 3, 1, 2], .keepO [500, 2006, 2009, 2040, 10520]] (ps := [(True)]) (e := .normal) (σ' := ⟨[500, 2006, 2009, 2040, 10520], [(56, vb (decide (v13 < ((List.length r52 : Nat) : Int)))), (13, vi v13), (12, vb v12), (11, vo 10520 (List.length r52)), (10, vi v10), (8, vo 2040 (List.length o40)), (9, V.ref 2009 0), (7, vi r17), (6, V.ref 2006 0), (3, V.t (T.ptr [tl x0, ti x1])), (1, vl x2), (2, V.own 500 5 (List.length o500b))], [(500, oc 70 (List.flatMap factC o500b)), (2006, oc 70 [tb false, tb false, ti 0, ti 0, ti 0]), (2009, oc 70 [tb true, tb o9c, ti o9i, ti o9j, ti o9k]), (2040, oc 3 (List.map (T.int .i64) o40)), (10520, oc 4 (List.map T.bool r52))]⟩) (by kernel_rfl) ⟨trivial, trivial⟩ ?_
                  rcases ite_some h with ⟨h5, h⟩ | ⟨h5, h⟩
                  · -- yes
                    refine WP.cond (b := decide (v13 < ((List.length r52 : Nat) : Int))) rfl (fun _ => ?_) (fun hh => by rw [h5] at hh; cases hh)
                    refine WP.path tab_ok mixed [] [.keep [13, 12, 11, 10, 8, 9, 7, 6, 3, 1, 2], .keepO [500, 2006, 2009, 2040, 10520]] (ps := []) (e := .normal) (σ' := ⟨[500, 2006, 2009, 2040, 10520], [(13, vi v13), (12, vb v12), (11, vo 10520 (List.length r52)), (10, vi v10), (8, vo 2040 (List.length o40)), (9, V.ref 2009 0), (7, vi r17), (6, V.ref 2006 0), (3, V.t (T.ptr [tl x0, ti x1])), (1, vl x2), (2, V.own 500 5 (List.length o500b))], [(500, oc 70 (List.flatMap factC o500b)), (2006, oc 70 [tb false, tb false, ti 0, ti 0, ti 0]), (2009, oc 70 [tb true, tb o9c, ti o9i, ti o9j, ti o9k]), (2040, oc 3 (List.map (T.int .i64) o40)), (10520, oc 4 (List.map T.bool r52))]⟩) (by kernel_rfl) trivial ?_
                    refine WP.seq ?_
                    refine WP.block ?_
                    refine WP.seq ?_
                    obtain ⟨c5, h⟩ := chk_some h
                    obtain ⟨c6, h⟩ := chk_some h
                    refine WP.path tab_ok mixed [(63, An.v (ti (List.getD o40 (Int.toNat v10) 0))), (67, An.v (tb (List.getD r52 (Int.toNat v13) false))), (68, An.callG [(9000, 10680)] [V.t (T.agg [tl x0, ti x1]), vi (List.getD o40 (Int.toNat v10) 0), vb (List.getD r52 (Int.toNat v13) false)] [] (V.agg [vo 9000 (List.length (ansN x1 (List.getD o40 (Int.toNat v10) 0) (List.getD r52 (Int.toNat v13) false) x0)), vi x1]) [(9000, oc 3 (List.map (T.int .i64) (ansN x1 (List.getD o40 (Int.toNat v10) 0) (List.getD r52 (Int.toNat v13) false) x0)))]), (14, An.id 2014)] [.keep [14, 13, 12, 11, 10, 8, 9, 7, 6, 3, 1, 2], .keepO [500, 2006, 2009, 2014, 2040, 10520, 10680]] (ps := [(2 ≤ 2), ((0 ≤ v10 ∧ v10 < ((List.length o40 : Nat) : Int))), ((List.map (T.int .i64) o40 : List T)[(Int.toNat v10) * 1]? = some (ti (List.getD o40 (Int.toNat v10) 0))), (ti (List.getD o40 (Int.toNat v10) 0) = ti (List.getD o40 (Int.toNat v10) 0)), ((0 ≤ v13 ∧ v13 < ((List.length r52 : Nat) : Int))), ((List.map T.bool r52 : List T)[(Int.toNat v13) * 1]? = some (tb (List.getD r52 (Int.toNat v13) false))), (tb (List.getD r52 (Int.toNat v13) false) = tb (List.getD r52 (Int.toNat v13) false)), (CG Try.prog 75 [V.t (T.agg [tl x0, ti x1]), vi (List.getD o40 (Int.toNat v10) 0), vb (List.getD r52 (Int.toNat v13) false)] [] (V.agg [vo 9000 (List.length (ansN x1 (List.getD o40 (Int.toNat v10) 0) (List.getD r52 (Int.toNat v13) false) x0)), vi x1]) [(9000, oc 3 (List.map (T.int .i64) (ansN x1 (List.getD o40 (Int.toNat v10) 0) (List.getD r52 (Int.toNat v13) false) x0)))]), (WkT (T.agg [tl x0, ti x1]) (T.agg [tl x0, ti x1])), (WkT (ti (List.getD o40 (Int.toNat v10) 0)) (ti (List.getD o40 (Int.toNat v10) 0))), (WkT (tb (List.getD r52 (Int.toNat v13) false)) (tb (List.getD r52 (Int.toNat v13) false))), ((0 + 2 ≤ 2 ∧ 2 = 2))]) (e := .normal) (σ' := ⟨[2014, 10680, 500, 2006, 2009, 2040, 10520], [(14, V.ref 2014 0), (13, vi v13), (12, vb v12), (11, vo 10520 (List.length r52)), (10, vi v10), (8, vo 2040 (List.length o40)), (9, V.ref 2009 0), (7, vi r17), (6, V.ref 2006 0), (3, V.t (T.ptr [tl x0, ti x1])), (1, vl x2), (2, V.own 500 5 (List.length o500b))], [(500, oc 70 (List.flatMap factC o500b)), (2006, oc 70 [tb false, tb false, ti 0, ti 0, ti 0]), (2009, oc 70 [tb true, tb o9c, ti o9i, ti o9j, ti o9k]), (2014, ov 28 [vo 10680 (List.length (ansN x1 (List.getD o40 (Int.toNat v10) 0) (List.getD r52 (Int.toNat v13) false) x0)), vi x1]), (2040, oc 3 (List.map (T.int .i64) o40)), (10520, oc 4 (List.map T.bool r52)), (10680, oc 3 (List.map (T.int .i64) (ansN x1 (List.getD o40 (Int.toNat v10) 0) (List.getD r52 (Int.toNat v13) false) x0)))]⟩) (by kernel_rfl) ⟨by decide, c3, atM (by simp) (by first | omega | (simp only [tlL]; omega) | (simp; omega)), rfl, c5, atM (by simp) (by first | omega | (simp only [tlL]; omega) | (simp; omega)), rfl, (l2After_C_G x0 x1 (List.getD o40 (Int.toNat v10) 0) (List.getD r52 (Int.toNat v13) false) c6), WkT.refl _, WkT.refl _, WkT.refl _, by decide, trivial⟩ ?_
                    refine WP.seq ?_
                    obtain ⟨r72, r72b, r72c, r72d, r72e, r72g, c7, h⟩ := bnd6_some h
                    obtain ⟨c8, h⟩ := chk_some h
                    refine WP.path tab_ok mixed [(72, An.callG [(500, 500)] [V.t (T.agg [tl (ansN x1 (List.getD o40 (Int.toNat v10) 0) (List.getD r52 (Int.toNat v13) false) x0), ti x1]), vl x2, V.own 500 5 (List.length o500b)] [(500, oc 70 (List.flatMap factC o500b))] (V.t (T.agg [tb r72, tb r72b, ti r72c, ti r72d, ti r72e])) [(500, oc 70 (List.flatMap factC r72g))]), (15, An.id 2015)] [.keep [15, 14, 13, 12, 11, 10, 8, 9, 7, 6, 3, 1, 2], .keepO [500, 2006, 2009, 2014, 2015, 2040, 10520, 10680]] (ps := [(0 + 2 ≤ 2), (CG Try.prog 96 [V.t (T.agg [tl (ansN x1 (List.getD o40 (Int.toNat v10) 0) (List.getD r52 (Int.toNat v13) false) x0), ti x1]), vl x2, V.own 500 5 (List.length o500b)] [(500, oc 70 (List.flatMap factC o500b))] (V.t (T.agg [tb r72, tb r72b, ti r72c, ti r72d, ti r72e])) [(500, oc 70 (List.flatMap factC r72g))]), ((V.t (T.agg [tb r72, tb r72b, ti r72c, ti r72d, ti r72e])).flat = true), (flatO [(500, oc 70 (List.flatMap factC r72g))] = true), (List.length (List.map (T.int .i64) (ansN x1 (List.getD o40 (Int.toNat v10) 0) (List.getD r52 (Int.toNat v13) false) x0)) = (List.length (ansN x1 (List.getD o40 (Int.toNat v10) 0) (List.getD r52 (Int.toNat v13) false) x0)) * 1), (WkT (T.agg [tl (ansN x1 (List.getD o40 (Int.toNat v10) 0) (List.getD r52 (Int.toNat v13) false) x0), ti x1]) (T.agg [tl (ansN x1 (List.getD o40 (Int.toNat v10) 0) (List.getD r52 (Int.toNat v13) false) x0), ti x1])), (WkT (tl x2) (tl x2)), ((V.own 500 5 (List.length o500b)).ren (renF [(500, 500)]) = V.own 500 5 (List.length o500b)), ((oc 70 (List.flatMap factC o500b)) = (oc 70 (List.flatMap factC o500b)).ren (renF [(500, 500)])), ((0 + 5 ≤ 5 ∧ 5 = 5))]) (e := .normal) (σ' := ⟨[2015, 2014, 10680, 500, 2006, 2009, 2040, 10520], [(15, V.ref 2015 0), (14, V.ref 2014 0), (13, vi v13), (12, vb v12), (11, vo 10520 (List.length r52)), (10, vi v10), (8, vo 2040 (List.length o40)), (9, V.ref 2009 0), (7, vi r17), (6, V.ref 2006 0), (3, V.t (T.ptr [tl x0, ti x1])), (1, vl x2), (2, V.own 500 5 (List.length o500b))], [(500, oc 70 (List.flatMap factC r72g)), (2006, oc 70 [tb false, tb false, ti 0, ti 0, ti 0]), (2009, oc 70 [tb true, tb o9c, ti o9i, ti o9j, ti o9k]), (2014, ov 28 [vo 10680 (List.length (ansN x1 (List.getD o40 (Int.toNat v10) 0) (List.getD r52 (Int.toNat v13) false) x0)), vi x1]), (2015, oc 70 [tb r72, tb r72b, ti r72c, ti r72d, ti r72e]), (2040, oc 3 (List.map (T.int .i64) o40)), (10520, oc 4 (List.map T.bool r52)), (10680, oc 3 (List.map (T.int .i64) (ansN x1 (List.getD o40 (Int.toNat v10) 0) (List.getD r52 (Int.toNat v13) false) x0)))]⟩) (by kernel_rfl) ⟨by decide, (hself (ansN x1 (List.getD o40 (Int.toNat v10) 0) (List.getD r52 (Int.toNat v13) false) x0) x1 x2 o500b r72 r72b r72c r72d r72e r72g c7), by first | rfl | (simp [V.flats, V.flat, T.flats, T.flat, flats_app, flats_int, flats_bool, flats_str, flats_node, flats_asked, flats_pair, flats_recs, flats_fact, flatEs_mpB, flatEs_mpI, flatEs_mp3]; done), by first | rfl | (simp [flatO, Tl.Obj.flat, V.flats, V.flat, T.flats, T.flat, flats_app, flats_int, flats_bool, flats_str, flats_node, flats_asked, flats_pair, flats_recs, flats_fact, flatEs_mpB, flatEs_mpI, flatEs_mp3]; done), by first | rfl | omega | (simp only [tlL, c8] <;> omega) | (simp <;> omega) | (simp [c8] <;> omega), WkT.refl _, WkT.refl _, by first | rfl | (simp [V.ren, V.renL, renF, lk]; done) | (simp [V.ren, V.renL, renF, lk]; omega), by first | rfl | (simp only [tlS]; rfl) | (simp [Tl.Obj.ren, V.ren, V.renL, renF, lk]; done), by decide, trivial⟩ ?_
                    obtain ⟨J4, hJ4, h⟩ := jn_some h
                    refine WP.joinA (fun (zz : Bool) => ⟨[500, 2006, 2009, 2015, 2040, 10520], [(12, vb zz), (15, V.ref 2015 0), (13, vi v13), (11, vo 10520 (List.length r52)), (10, vi v10), (8, vo 2040 (List.length o40)), (9, V.ref 2009 0), (7, vi r17), (6, V.ref 2006 0), (3, V.t (T.ptr [tl x0, ti x1])), (1, vl x2), (2, V.own 500 5 (List.length o500b))], [(500, oc 70 (List.flatMap factC r72g)), (2006, oc 70 [tb false, tb false, ti 0, ti 0, ti 0]), (2009, oc 70 [tb true, tb o9c, ti o9i, ti o9j, ti o9k]), (2015, oc 70 [tb r72, tb r72b, ti r72c, ti r72d, ti r72e]), (2040, oc 3 (List.map (T.int .i64) o40)), (10520, oc 4 (List.map T.bool r52))]⟩) (fun zz => J4 zz = some (y0, y1, y2, y3, y4, y5)) ?_ ?_
                    · -- to where they meet
                      rcases ite_some h with ⟨h6, h⟩ | ⟨h6, h⟩
                      · -- yes
                        obtain ⟨c9, h⟩ := chk_some h
                        rcases ite_some h with ⟨h7, h⟩ | ⟨h7, h⟩
                        · -- yes
                          refine WP.path tab_ok mixed [(74, An.b true), (76, An.call (tb true))] [.keep [12, 15, 13, 11, 10, 8, 9, 7, 6, 3, 1, 2], .keepO [500, 2006, 2009, 2015, 2040, 10520], .names [(500, 500), (2006, 2006), (2009, 2009), (2015, 2015), (2040, 2040), (10520, 10520)]] (ps := [((v12) = true), (0 + 2 ≤ 2), (C Try.prog 76 [T.agg [tl (ansN x1 (List.getD o40 (Int.toNat v10) 0) (List.getD r52 (Int.toNat v13) false) x0), ti x1]] (tb true)), (List.length (List.map (T.int .i64) (ansN x1 (List.getD o40 (Int.toNat v10) 0) (List.getD r52 (Int.toNat v13) false) x0)) = (List.length (ansN x1 (List.getD o40 (Int.toNat v10) 0) (List.getD r52 (Int.toNat v13) false) x0)) * 1)]) (e := .normal) (σ' := ⟨[500, 2006, 2009, 2015, 2040, 10520], [(12, vb true), (15, V.ref 2015 0), (13, vi v13), (11, vo 10520 (List.length r52)), (10, vi v10), (8, vo 2040 (List.length o40)), (9, V.ref 2009 0), (7, vi r17), (6, V.ref 2006 0), (3, V.t (T.ptr [tl x0, ti x1])), (1, vl x2), (2, V.own 500 5 (List.length o500b))], [(500, oc 70 (List.flatMap factC r72g)), (2006, oc 70 [tb false, tb false, ti 0, ti 0, ti 0]), (2009, oc 70 [tb true, tb o9c, ti o9i, ti o9j, ti o9k]), (2015, oc 70 [tb r72, tb r72b, ti r72c, ti r72d, ti r72e]), (2040, oc 3 (List.map (T.int .i64) o40)), (10520, oc 4 (List.map T.bool r52))]⟩) (by kernel_rfl) ⟨h6, by decide, (C.toB h7 (l6Done_C (ansN x1 (List.getD o40 (Int.toNat v10) 0) (List.getD r52 (Int.toNat v13) false) x0) x1 c9)), by first | rfl | omega | (simp only [tlL, c8] <;> omega) | (simp <;> omega) | (simp [c8] <;> omega), trivial⟩ ?_
                          exact ⟨(true), h, rfl⟩
                        · -- no
                          refine WP.path tab_ok mixed [(74, An.b true), (76, An.call (tb false))] [.keep [12, 15, 13, 11, 10, 8, 9, 7, 6, 3, 1, 2], .keepO [500, 2006, 2009, 2015, 2040, 10520], .names [(500, 500), (2006, 2006), (2009, 2009), (2015, 2015), (2040, 2040), (10520, 10520)]] (ps := [((v12) = true), (0 + 2 ≤ 2), (C Try.prog 76 [T.agg [tl (ansN x1 (List.getD o40 (Int.toNat v10) 0) (List.getD r52 (Int.toNat v13) false) x0), ti x1]] (tb false)), (List.length (List.map (T.int .i64) (ansN x1 (List.getD o40 (Int.toNat v10) 0) (List.getD r52 (Int.toNat v13) false) x0)) = (List.length (ansN x1 (List.getD o40 (Int.toNat v10) 0) (List.getD r52 (Int.toNat v13) false) x0)) * 1), (True)]) (e := .normal) (σ' := ⟨[500, 2006, 2009, 2015, 2040, 10520], [(12, vb !r72b), (15, V.ref 2015 0), (13, vi v13), (11, vo 10520 (List.length r52)), (10, vi v10), (8, vo 2040 (List.length o40)), (9, V.ref 2009 0), (7, vi r17), (6, V.ref 2006 0), (3, V.t (T.ptr [tl x0, ti x1])), (1, vl x2), (2, V.own 500 5 (List.length o500b))], [(500, oc 70 (List.flatMap factC r72g)), (2006, oc 70 [tb false, tb false, ti 0, ti 0, ti 0]), (2009, oc 70 [tb true, tb o9c, ti o9i, ti o9j, ti o9k]), (2015, oc 70 [tb r72, tb r72b, ti r72c, ti r72d, ti r72e]), (2040, oc 3 (List.map (T.int .i64) o40)), (10520, oc 4 (List.map T.bool r52))]⟩) (by kernel_rfl) ⟨h6, by decide, (C.toB h7 (l6Done_C (ansN x1 (List.getD o40 (Int.toNat v10) 0) (List.getD r52 (Int.toNat v13) false) x0) x1 c9)), by first | rfl | omega | (simp only [tlL, c8] <;> omega) | (simp <;> omega) | (simp [c8] <;> omega), trivial, trivial⟩ ?_
                          exact ⟨(!r72b), h, rfl⟩
                      · -- no
                        refine WP.path tab_ok mixed [(74, An.b false)] [.keep [12, 15, 13, 11, 10, 8, 9, 7, 6, 3, 1, 2], .keepO [500, 2006, 2009, 2015, 2040, 10520], .names [(500, 500), (2006, 2006), (2009, 2009), (2015, 2015), (2040, 2040), (10520, 10520)]] (ps := [((v12) = false)]) (e := .normal) (σ' := ⟨[500, 2006, 2009, 2015, 2040, 10520], [(12, vb false), (15, V.ref 2015 0), (13, vi v13), (11, vo 10520 (List.length r52)), (10, vi v10), (8, vo 2040 (List.length o40)), (9, V.ref 2009 0), (7, vi r17), (6, V.ref 2006 0), (3, V.t (T.ptr [tl x0, ti x1])), (1, vl x2), (2, V.own 500 5 (List.length o500b))], [(500, oc 70 (List.flatMap factC r72g)), (2006, oc 70 [tb false, tb false, ti 0, ti 0, ti 0]), (2009, oc 70 [tb true, tb o9c, ti o9i, ti o9j, ti o9k]), (2015, oc 70 [tb r72, tb r72b, ti r72c, ti r72d, ti r72e]), (2040, oc 3 (List.map (T.int .i64) o40)), (10520, oc 4 (List.map T.bool r52))]⟩) (by kernel_rfl) ⟨h6, trivial⟩ ?_
                        exact ⟨(false), h, rfl⟩
                    · -- from there
                      intro v12b h0
                      have h := (show J4 v12b = some (y0, y1, y2, y3, y4, y5) from h0)
                      rw [hJ4] at h
                      refine WP.seq ?_
                      obtain ⟨c9, h⟩ := chk_some h
                      refine WP.path tab_ok mixed [(87, An.v (T.int .i64 (r72c + (1 : Int)))), (88, An.call (ti (maxN o9i (r72c + (1 : Int)))))] [.keep [12, 15, 13, 11, 10, 8, 9, 7, 6, 3, 1, 2], .keepO [500, 2006, 2009, 2015, 2040, 10520]] (ps := [(True), (True), (True), (T.int .i64 (IntKind.wrap .i64 (r72c + (1 : Int))) = T.int .i64 (r72c + (1 : Int))), (C Try.prog 115 [ti o9i, ti (r72c + (1 : Int))] (ti (maxN o9i (r72c + (1 : Int))))), (2 < 5)]) (e := .normal) (σ' := ⟨[500, 2006, 2009, 2015, 2040, 10520], [(12, vb v12b), (15, V.ref 2015 0), (13, vi v13), (11, vo 10520 (List.length r52)), (10, vi v10), (8, vo 2040 (List.length o40)), (9, V.ref 2009 0), (7, vi r17), (6, V.ref 2006 0), (3, V.t (T.ptr [tl x0, ti x1])), (1, vl x2), (2, V.own 500 5 (List.length o500b))], [(500, oc 70 (List.flatMap factC r72g)), (2006, oc 70 [tb false, tb false, ti 0, ti 0, ti 0]), (2009, oc 70 [tb true, tb o9c, ti (maxN o9i (r72c + (1 : Int))), ti o9j, ti o9k]), (2015, oc 70 [tb r72, tb r72b, ti r72c, ti r72d, ti r72e]), (2040, oc 3 (List.map (T.int .i64) o40)), (10520, oc 4 (List.map T.bool r52))]⟩) (by kernel_rfl) ⟨trivial, trivial, trivial, wrapI c9, (l1Most_C o9i (r72c + (1 : Int))), by decide, trivial⟩ ?_
                      obtain ⟨J4, hJ4, h⟩ := jn_some h
                      refine WP.joinA (fun (zz : Int) => ⟨[500, 2006, 2009, 2015, 2040, 10520], [(12, vb v12b), (15, V.ref 2015 0), (13, vi v13), (11, vo 10520 (List.length r52)), (10, vi v10), (8, vo 2040 (List.length o40)), (9, V.ref 2009 0), (7, vi r17), (6, V.ref 2006 0), (3, V.t (T.ptr [tl x0, ti x1])), (1, vl x2), (2, V.own 500 5 (List.length o500b))], [(500, oc 70 (List.flatMap factC r72g)), (2006, oc 70 [tb false, tb false, ti 0, ti 0, ti 0]), (2009, oc 70 [tb true, tb o9c, ti (maxN o9i (r72c + (1 : Int))), ti zz, ti o9k]), (2015, oc 70 [tb r72, tb r72b, ti r72c, ti r72d, ti r72e]), (2040, oc 3 (List.map (T.int .i64) o40)), (10520, oc 4 (List.map T.bool r52))]⟩) (fun zz => J4 zz = some (y0, y1, y2, y3, y4, y5)) ?_ ?_
                      · -- to where they meet
                        obtain ⟨J5, hJ5, h⟩ := jn_some h
                        refine WP.joinA (fun (zz : Bool) => ⟨[500, 2006, 2009, 2015, 2040, 10520], [(100, vb zz), (12, vb v12b), (15, V.ref 2015 0), (13, vi v13), (11, vo 10520 (List.length r52)), (10, vi v10), (8, vo 2040 (List.length o40)), (9, V.ref 2009 0), (7, vi r17), (6, V.ref 2006 0), (3, V.t (T.ptr [tl x0, ti x1])), (1, vl x2), (2, V.own 500 5 (List.length o500b))], [(500, oc 70 (List.flatMap factC r72g)), (2006, oc 70 [tb false, tb false, ti 0, ti 0, ti 0]), (2009, oc 70 [tb true, tb o9c, ti (maxN o9i (r72c + (1 : Int))), ti o9j, ti o9k]), (2015, oc 70 [tb r72, tb r72b, ti r72c, ti r72d, ti r72e]), (2040, oc 3 (List.map (T.int .i64) o40)), (10520, oc 4 (List.map T.bool r52))]⟩) (fun zz => J5 zz = some (y0, y1, y2, y3, y4, y5)) ?_ ?_
                        · -- to where they meet
                          rcases ite_some h with ⟨h8, h⟩ | ⟨h8, h⟩
                          · -- yes
                            refine WP.path tab_ok mixed [(92, An.b true)] [.keep [100, 12, 15, 13, 11, 10, 8, 9, 7, 6, 3, 1, 2], .keepO [500, 2006, 2009, 2015, 2040, 10520], .names [(500, 500), (2006, 2006), (2009, 2009), (2015, 2015), (2040, 2040), (10520, 10520)]] (ps := [(True), (True), ((decide (o9j < (0 : Int))) = true)]) (e := .normal) (σ' := ⟨[500, 2006, 2009, 2015, 2040, 10520], [(100, vb true), (12, vb v12b), (15, V.ref 2015 0), (13, vi v13), (11, vo 10520 (List.length r52)), (10, vi v10), (8, vo 2040 (List.length o40)), (9, V.ref 2009 0), (7, vi r17), (6, V.ref 2006 0), (3, V.t (T.ptr [tl x0, ti x1])), (1, vl x2), (2, V.own 500 5 (List.length o500b))], [(500, oc 70 (List.flatMap factC r72g)), (2006, oc 70 [tb false, tb false, ti 0, ti 0, ti 0]), (2009, oc 70 [tb true, tb o9c, ti (maxN o9i (r72c + (1 : Int))), ti o9j, ti o9k]), (2015, oc 70 [tb r72, tb r72b, ti r72c, ti r72d, ti r72e]), (2040, oc 3 (List.map (T.int .i64) o40)), (10520, oc 4 (List.map T.bool r52))]⟩) (by kernel_rfl) ⟨trivial, trivial, h8, trivial⟩ ?_
                            exact ⟨(true), h, rfl⟩
                          · -- no
                            obtain ⟨c10, h⟩ := chk_some h
                            refine WP.path tab_ok mixed [(92, An.b false), (96, An.v (T.int .i64 (r72d + (1 : Int))))] [.keep [100, 12, 15, 13, 11, 10, 8, 9, 7, 6, 3, 1, 2], .keepO [500, 2006, 2009, 2015, 2040, 10520], .names [(500, 500), (2006, 2006), (2009, 2009), (2015, 2015), (2040, 2040), (10520, 10520)]] (ps := [(True), (True), ((decide (o9j < (0 : Int))) = false), (True), (True), (T.int .i64 (IntKind.wrap .i64 (r72d + (1 : Int))) = T.int .i64 (r72d + (1 : Int))), (True), (True)]) (e := .normal) (σ' := ⟨[500, 2006, 2009, 2015, 2040, 10520], [(100, vb (decide ((r72d + (1 : Int)) < o9j))), (12, vb v12b), (15, V.ref 2015 0), (13, vi v13), (11, vo 10520 (List.length r52)), (10, vi v10), (8, vo 2040 (List.length o40)), (9, V.ref 2009 0), (7, vi r17), (6, V.ref 2006 0), (3, V.t (T.ptr [tl x0, ti x1])), (1, vl x2), (2, V.own 500 5 (List.length o500b))], [(500, oc 70 (List.flatMap factC r72g)), (2006, oc 70 [tb false, tb false, ti 0, ti 0, ti 0]), (2009, oc 70 [tb true, tb o9c, ti (maxN o9i (r72c + (1 : Int))), ti o9j, ti o9k]), (2015, oc 70 [tb r72, tb r72b, ti r72c, ti r72d, ti r72e]), (2040, oc 3 (List.map (T.int .i64) o40)), (10520, oc 4 (List.map T.bool r52))]⟩) (by kernel_rfl) ⟨trivial, trivial, h8, trivial, trivial, wrapI c10, trivial, trivial, trivial⟩ ?_
                            exact ⟨(decide ((r72d + (1 : Int)) < o9j)), h, rfl⟩
                        · -- from there
                          intro v100 h0
                          have h := (show J5 v100 = some (y0, y1, y2, y3, y4, y5) from h0)
                          rw [hJ5] at h
                          rcases ite_some h with ⟨h9, h⟩ | ⟨h9, h⟩
                          · -- yes
                            refine WP.cond (b := v100) rfl (fun _ => ?_) (fun hh => by rw [h9] at hh; cases hh)
                            obtain ⟨c10, h⟩ := chk_some h
                            refine WP.path tab_ok mixed [(103, An.v (T.int .i64 (r72d + (1 : Int))))] [.keep [12, 15, 13, 11, 10, 8, 9, 7, 6, 3, 1, 2], .keepO [500, 2006, 2009, 2015, 2040, 10520], .names [(500, 500), (2006, 2006), (2009, 2009), (2015, 2015), (2040, 2040), (10520, 10520)]] (ps := [(True), (True), (T.int .i64 (IntKind.wrap .i64 (r72d + (1 : Int))) = T.int .i64 (r72d + (1 : Int))), (3 < 5)]) (e := .normal) (σ' := ⟨[500, 2006, 2009, 2015, 2040, 10520], [(12, vb v12b), (15, V.ref 2015 0), (13, vi v13), (11, vo 10520 (List.length r52)), (10, vi v10), (8, vo 2040 (List.length o40)), (9, V.ref 2009 0), (7, vi r17), (6, V.ref 2006 0), (3, V.t (T.ptr [tl x0, ti x1])), (1, vl x2), (2, V.own 500 5 (List.length o500b))], [(500, oc 70 (List.flatMap factC r72g)), (2006, oc 70 [tb false, tb false, ti 0, ti 0, ti 0]), (2009, oc 70 [tb true, tb o9c, ti (maxN o9i (r72c + (1 : Int))), ti (r72d + (1 : Int)), ti o9k]), (2015, oc 70 [tb r72, tb r72b, ti r72c, ti r72d, ti r72e]), (2040, oc 3 (List.map (T.int .i64) o40)), (10520, oc 4 (List.map T.bool r52))]⟩) (by kernel_rfl) ⟨trivial, trivial, wrapI c10, by decide, trivial⟩ ?_
                            exact ⟨((r72d + (1 : Int))), h, rfl⟩
                          · -- no
                            refine WP.cond (b := v100) rfl (fun hh => by rw [h9] at hh; cases hh) (fun _ => ?_)
                            refine WP.path tab_ok mixed [] [.keep [12, 15, 13, 11, 10, 8, 9, 7, 6, 3, 1, 2], .keepO [500, 2006, 2009, 2015, 2040, 10520], .names [(500, 500), (2006, 2006), (2009, 2009), (2015, 2015), (2040, 2040), (10520, 10520)]] (ps := []) (e := .normal) (σ' := ⟨[500, 2006, 2009, 2015, 2040, 10520], [(12, vb v12b), (15, V.ref 2015 0), (13, vi v13), (11, vo 10520 (List.length r52)), (10, vi v10), (8, vo 2040 (List.length o40)), (9, V.ref 2009 0), (7, vi r17), (6, V.ref 2006 0), (3, V.t (T.ptr [tl x0, ti x1])), (1, vl x2), (2, V.own 500 5 (List.length o500b))], [(500, oc 70 (List.flatMap factC r72g)), (2006, oc 70 [tb false, tb false, ti 0, ti 0, ti 0]), (2009, oc 70 [tb true, tb o9c, ti (maxN o9i (r72c + (1 : Int))), ti o9j, ti o9k]), (2015, oc 70 [tb r72, tb r72b, ti r72c, ti r72d, ti r72e]), (2040, oc 3 (List.map (T.int .i64) o40)), (10520, oc 4 (List.map T.bool r52))]⟩) (by kernel_rfl) trivial ?_
                            exact ⟨(o9j), h, rfl⟩
                      · -- from there
                        intro o9l h0
                        have h := (show J4 o9l = some (y0, y1, y2, y3, y4, y5) from h0)
                        rw [hJ4] at h
                        obtain ⟨c10, h⟩ := chk_some h
                        refine WP.path tab_ok mixed [(109, An.v (T.int .i64 (o9k + r72e)))] [.keep [12, 13, 11, 10, 8, 9, 7, 6, 3, 1, 2], .keepO [500, 2006, 2009, 2040, 10520]] (ps := [(True), (True), (True), (T.int .i64 (IntKind.wrap .i64 (o9k + r72e)) = T.int .i64 (o9k + r72e)), (4 < 5)]) (e := .normal) (σ' := ⟨[500, 2006, 2009, 2015, 2040, 10520], [(12, vb v12b), (13, vi v13), (11, vo 10520 (List.length r52)), (10, vi v10), (8, vo 2040 (List.length o40)), (9, V.ref 2009 0), (7, vi r17), (6, V.ref 2006 0), (3, V.t (T.ptr [tl x0, ti x1])), (1, vl x2), (2, V.own 500 5 (List.length o500b))], [(500, oc 70 (List.flatMap factC r72g)), (2006, oc 70 [tb false, tb false, ti 0, ti 0, ti 0]), (2009, oc 70 [tb true, tb o9c, ti (maxN o9i (r72c + (1 : Int))), ti o9l, ti (o9k + r72e)]), (2040, oc 3 (List.map (T.int .i64) o40)), (10520, oc 4 (List.map T.bool r52))]⟩) (by kernel_rfl) ⟨trivial, trivial, trivial, wrapI c10, by decide, trivial⟩ ?_
                        obtain ⟨c11, h⟩ := chk_some h
                        refine WP.path tab_ok mixed [(58, An.v (T.int .i64 (v13 + (1 : Int))))] [.keep [13, 12, 11, 10, 8, 9, 7, 6, 3, 1, 2], .keepO [500, 2006, 2009, 2040, 10520], .names [(500, 500), (2006, 2006), (2009, 2009), (2040, 2040), (10520, 10520)]] (ps := [(True), (T.int .i64 (IntKind.wrap .i64 (v13 + (1 : Int))) = T.int .i64 (v13 + (1 : Int)))]) (e := .normal) (σ' := ⟨[500, 2006, 2009, 2040, 10520], [(13, vi (v13 + (1 : Int))), (12, vb v12b), (11, vo 10520 (List.length r52)), (10, vi v10), (8, vo 2040 (List.length o40)), (9, V.ref 2009 0), (7, vi r17), (6, V.ref 2006 0), (3, V.t (T.ptr [tl x0, ti x1])), (1, vl x2), (2, V.own 500 5 (List.length o500b))], [(500, oc 70 (List.flatMap factC r72g)), (2006, oc 70 [tb false, tb false, ti 0, ti 0, ti 0]), (2009, oc 70 [tb true, tb o9c, ti (maxN o9i (r72c + (1 : Int))), ti o9l, ti (o9k + r72e)]), (2040, oc 3 (List.map (T.int .i64) o40)), (10520, oc 4 (List.map T.bool r52))]⟩) (by kernel_rfl) ⟨trivial, wrapI c11, trivial⟩ ?_
                        exact ⟨(n, r72g, (maxN o9i (r72c + (1 : Int))), o9l, (o9k + r72e), (v13 + (1 : Int)), v12b), h, Nat.lt_succ_self _, (by first | rfl | (simp only [tlS, tl, vl, vo, oc, ov, tbl, vbl, ty, vy] <;> rfl) | (simp <;> omega) | (simp [c8]; done) | (rw [List.take_of_length_le (by simp [c8])] <;> rfl))⟩
                  · -- no
                    refine WP.cond (b := decide (v13 < ((List.length r52 : Nat) : Int))) rfl (fun hh => by rw [h5] at hh; cases hh) (fun _ => ?_)
                    refine WP.path tab_ok mixed [] [.keep [12, 10, 8, 9, 7, 6, 3, 1, 2], .keepO [500, 2006, 2009, 2040], .names [(500, 500), (2006, 2006), (2009, 2009), (2040, 2040)]] (ps := []) (e := (.exit 2)) (σ' := ⟨[500, 2006, 2009, 2040], [(12, vb v12), (10, vi v10), (8, vo 2040 (List.length o40)), (9, V.ref 2009 0), (7, vi r17), (6, V.ref 2006 0), (3, V.t (T.ptr [tl x0, ti x1])), (1, vl x2), (2, V.own 500 5 (List.length o500b))], [(500, oc 70 (List.flatMap factC o500b)), (2006, oc 70 [tb false, tb false, ti 0, ti 0, ti 0]), (2009, oc 70 [tb true, tb o9c, ti o9i, ti o9j, ti o9k]), (2040, oc 3 (List.map (T.int .i64) o40))]⟩) (by kernel_rfl) trivial ?_
                    exact ⟨(o500b, o9i, o9j, o9k, v12), h, rfl⟩
              · -- from there
                rintro ⟨o500b, o9i, o9j, o9k, v12⟩ h0
                have h := (show J3 o500b o9i o9j o9k v12 = some (y0, y1, y2, y3, y4, y5) from h0)
                rw [hJ3] at h
                rcases ite_some h with ⟨h10, h⟩ | ⟨h10, h⟩
                · -- yes
                  refine WP.path tab_ok mixed [(113, An.b true)] [.keep [10, 8, 9, 7, 6, 3, 1, 2], .keepO [500, 2006, 2009, 2040], .names [(500, 500), (2006, 2006), (2009, 2009), (2040, 2040)]] (ps := [(True), ((o9c) = true), (1 < 5)]) (e := .normal) (σ' := ⟨[500, 2006, 2009, 2040], [(10, vi v10), (8, vo 2040 (List.length o40)), (9, V.ref 2009 0), (7, vi r17), (6, V.ref 2006 0), (3, V.t (T.ptr [tl x0, ti x1])), (1, vl x2), (2, V.own 500 5 (List.length o500b))], [(500, oc 70 (List.flatMap factC o500b)), (2006, oc 70 [tb false, tb false, ti 0, ti 0, ti 0]), (2009, oc 70 [tb true, tb true, ti o9i, ti o9j, ti o9k]), (2040, oc 3 (List.map (T.int .i64) o40))]⟩) (by kernel_rfl) ⟨trivial, h10, by decide, trivial⟩ ?_
                  exact ⟨(o500b, true, o9i, o9j, o9k), h, rfl⟩
                · -- no
                  refine WP.path tab_ok mixed [(113, An.b false)] [.keep [10, 8, 9, 7, 6, 3, 1, 2], .keepO [500, 2006, 2009, 2040], .names [(500, 500), (2006, 2006), (2009, 2009), (2040, 2040)]] (ps := [(True), ((o9c) = false), (1 < 5)]) (e := .normal) (σ' := ⟨[500, 2006, 2009, 2040], [(10, vi v10), (8, vo 2040 (List.length o40)), (9, V.ref 2009 0), (7, vi r17), (6, V.ref 2006 0), (3, V.t (T.ptr [tl x0, ti x1])), (1, vl x2), (2, V.own 500 5 (List.length o500b))], [(500, oc 70 (List.flatMap factC o500b)), (2006, oc 70 [tb false, tb false, ti 0, ti 0, ti 0]), (2009, oc 70 [tb true, tb v12, ti o9i, ti o9j, ti o9k]), (2040, oc 3 (List.map (T.int .i64) o40))]⟩) (by kernel_rfl) ⟨trivial, h10, by decide, trivial⟩ ?_
                  exact ⟨(o500b, v12, o9i, o9j, o9k), h, rfl⟩
            · -- from there
              rintro ⟨o500b, o9i, o9j, o9k, o9l⟩ h0
              have h := (show J2 o500b o9i o9j o9k o9l = some (y0, y1, y2, y3, y4, y5) from h0)
              rw [hJ2] at h
              obtain ⟨c3, h⟩ := chk_some h
              refine WP.path tab_ok mixed [(46, An.v (T.int .i64 (v10 + (1 : Int))))] [.keep [10, 8, 9, 7, 6, 3, 1, 2], .keepO [500, 2006, 2009, 2040], .names [(500, 500), (2006, 2006), (2009, 2009), (2040, 2040)]] (ps := [(True), (T.int .i64 (IntKind.wrap .i64 (v10 + (1 : Int))) = T.int .i64 (v10 + (1 : Int)))]) (e := .normal) (σ' := ⟨[500, 2006, 2009, 2040], [(10, vi (v10 + (1 : Int))), (8, vo 2040 (List.length o40)), (9, V.ref 2009 0), (7, vi r17), (6, V.ref 2006 0), (3, V.t (T.ptr [tl x0, ti x1])), (1, vl x2), (2, V.own 500 5 (List.length o500b))], [(500, oc 70 (List.flatMap factC o500b)), (2006, oc 70 [tb false, tb false, ti 0, ti 0, ti 0]), (2009, oc 70 [tb true, tb o9i, ti o9j, ti o9k, ti o9l]), (2040, oc 3 (List.map (T.int .i64) o40))]⟩) (by kernel_rfl) ⟨trivial, wrapI c3, trivial⟩ ?_
              exact ⟨(n, o500b, o9i, o9j, o9k, o9l, (v10 + (1 : Int))), h, Nat.lt_succ_self _, rfl⟩
          · -- no
            refine WP.cond (b := decide (v10 < ((List.length o40 : Nat) : Int))) rfl (fun hh => by rw [h4] at hh; cases hh) (fun _ => ?_)
            refine WP.path tab_ok mixed [] [.keep [9, 7, 6, 2], .keepO [500, 2006, 2009], .names [(500, 500), (2006, 2006), (2009, 2009)]] (ps := []) (e := (.exit 0)) (σ' := ⟨[500, 2006, 2009], [(9, V.ref 2009 0), (7, vi r17), (6, V.ref 2006 0), (2, V.own 500 5 (List.length o500))], [(500, oc 70 (List.flatMap factC o500)), (2006, oc 70 [tb false, tb false, ti 0, ti 0, ti 0]), (2009, oc 70 [tb true, tb o9c, ti o9d, ti o9e, ti o9g])]⟩) (by kernel_rfl) trivial ?_
            exact ⟨(o500, o9c, o9d, o9e, o9g), h, rfl⟩
      · -- from there
        rintro ⟨o500, o9c, o9d, o9e, o9g⟩ h0
        have h := (show J1 o500 o9c o9d o9e o9g = some (y0, y1, y2, y3, y4, y5) from h0)
        rw [hJ1] at h
        obtain ⟨c3, h⟩ := chk_some h
        simp only [Option.some.injEq, Prod.mk.injEq] at h
        obtain ⟨rfl, rfl, rfl, rfl, rfl, rfl⟩ := h
        exact WP.pathG tab_ok mixed [(1000120, An.o (List.flatMap factC (List.set o500 (Int.toNat r17) (true, o9c, o9d, o9e, o9g))))] [.keep [6], .keepO [500, 2006], .names [(500, 500), (2006, 2006)]] [500] _ (r' := V.t (T.agg [tb true, tb o9c, ti o9d, ti o9e, ti o9g])) (ps := [(0 + 5 ≤ 5), ((0 ≤ r17 ∧ r17 < ((List.length o500 : Nat) : Int))), (((Int.toNat r17) * 5 + 5 ≤ List.length (List.flatMap factC o500) ∧ 5 = 5)), ((((List.take ((Int.toNat r17) * 5) (List.flatMap factC o500)) ++ [tb true, tb o9c, ti o9d, ti o9e, ti o9g]) ++ (List.drop (((Int.toNat r17) * 5) + 5) (List.flatMap factC o500)) : List T) = (List.flatMap factC (List.set o500 (Int.toNat r17) (true, o9c, o9d, o9e, o9g)))), (0 + 5 ≤ 5), ((0 + 5 ≤ 5 ∧ 5 = 5)), (0 + 5 ≤ 5)]) (r := V.t (T.agg [tb true, tb o9c, ti o9d, ti o9e, ti o9g])) (N := [500, 2006]) (O := [(500, oc 70 (List.flatMap factC (List.set o500 (Int.toNat r17) (true, o9c, o9d, o9e, o9g))))]) [] (by kernel_rfl) ⟨by decide, c3, ⟨by first | omega | (rw [len_fact]; omega), by first | rfl | omega | (simp only [tlL] <;> omega) | (simp <;> omega) | (simp [] <;> omega)⟩, (by rw [List.append_assoc]; exact putF (f := factC) (c := 5) (xs := o500) (y := (true, o9c, o9d, o9e, o9g)) (i := (Int.toNat r17)) (fun _ => rfl) rfl rfl (by omega)), by decide, by decide, by first | decide | omega | (simp only [tlL] <;> omega) | (simp <;> omega) | (simp [] <;> omega), trivial⟩ ⟨(WkT.refl _), trivial⟩ rfl rfl (fun _ h => h)
theorem F_spec_l11Fill_W (n : Nat) : ∀ (x0 : List Int) (x1 : Int) (x2 : List Int) (x3 : List (Bool × Bool × Int × Int × Int)) (y0 : Bool) (y1 : Bool) (y2 : Int) (y3 : Int) (y4 : Int) (y5 : List (Bool × Bool × Int × Int × Int)), F_spec_l11Fill n x0 x1 x2 x3 = some (y0, y1, y2, y3, y4, y5) → CG Try.prog 96 [V.t (T.agg [tl x0, ti x1]), vl x2, V.own 500 5 (List.length x3)] [(500, oc 70 (List.flatMap factC x3))] (V.t (T.agg [tb y0, tb y1, ti y2, ti y3, ti y4])) [(500, oc 70 (List.flatMap factC y5))] := by
  induction n with
  | zero => intro x0 x1 x2 x3 y0 y1 y2 y3 y4 y5 h; rw [F_spec_l11Fill] at h; cases h
  | succ n ih => intro x0 x1 x2 x3 y0 y1 y2 y3 y4 y5 h; rw [F_spec_l11Fill] at h; exact F_spec_l11Fill_B_W _ ih x0 x1 x2 x3 y0 y1 y2 y3 y4 y5 h
theorem F_spec_l11Facts_W (x0 : List Int) (x1 : Int) (x2 : List Int) (y0 : List (Bool × Bool × Int × Int × Int)) (h : F_spec_l11Facts x0 x1 x2 = some y0) : CG Try.prog 61 [V.t (T.agg [tl x0, ti x1]), vl x2] [] (V.own 9000 5 (List.length y0)) [(9000, oc 70 (List.flatMap factC y0))] := by
  unfold F_spec_l11Facts at h
  refine CG.intro (tab := tab) tab_ok (fn := Try.f61) Try.func61 (by kernel_rfl) rfl (Nat.le_of_ble_eq_true rfl) (by kernel_rfl) ?_
  refine WP.seq ?_
  refine WP.path tab_ok mixed [(2, An.fz)] [.keep [4, 2, 1], .keepO []] (ps := []) (e := .normal) (σ' := ⟨[], [(4, V.t (T.nils)), (2, V.t (T.ptr [tl x0, ti x1])), (1, vl x2)], []⟩) (by kernel_rfl) trivial ?_
  refine WP.seq ?_
  refine WP.path tab_ok mixed [] [.keep [5, 4, 2, 1], .keepO []] (ps := []) (e := .normal) (σ' := ⟨[], [(5, vi 1), (4, V.t (T.nils)), (2, V.t (T.ptr [tl x0, ti x1])), (1, vl x2)], []⟩) (by kernel_rfl) trivial ?_
  obtain ⟨J1, hJ1, h⟩ := jn_some h
  refine WP.joinA (fun (zz : Int) => ⟨[], [(5, vi zz), (4, V.t (T.nils)), (2, V.t (T.ptr [tl x0, ti x1])), (1, vl x2)], []⟩) (fun zz => J1 zz = some y0) ?_ ?_
  · -- to where they meet
    refine WP.seq ?_
    refine WP.path tab_ok mixed [] [.keep [6, 5, 4, 2, 1], .keepO []] (ps := []) (e := .normal) (σ' := ⟨[], [(6, vi 0), (5, vi 1), (4, V.t (T.nils)), (2, V.t (T.ptr [tl x0, ti x1])), (1, vl x2)], []⟩) (by kernel_rfl) trivial ?_
    refine WP.block ?_
    refine WP.wk [.keep [6, 5, 4, 2, 1], .keepO [], .names []] (σ' := ⟨[], [(6, vi 0), (5, vi 1), (4, V.t (T.nils)), (2, V.t (T.ptr [tl x0, ti x1])), (1, vl x2)], []⟩) (ps := []) (by kernel_rfl) trivial ?_
    refine WP.st (σ' := ⟨[], [(6, vi (0 : Int)), (5, vi (1 : Int)), (4, V.t (T.nils)), (2, V.t (T.ptr [tl x0, ti x1])), (1, vl x2)], []⟩) (by first | rfl | (simp only [tlS, tl, vl, vo, oc, ov, tbl, vbl, ty, vy] <;> rfl) | (simp <;> omega) | (simp []; done) | (rw [List.take_of_length_le (by simp [])] <;> rfl)) ?_
    refine WP.loop (α := Nat × Int × Int) (fun zz => ⟨[], [(6, vi zz.2.1), (5, vi zz.2.2), (4, V.t (T.nils)), (2, V.t (T.ptr [tl x0, ti x1])), (1, vl x2)], []⟩) (fun zz => F_spec_l11Facts_L1 x0 x1 J1 zz.1 zz.2.1 zz.2.2 = some y0) (fun zz => zz.1) (fuel, (0 : Int), (1 : Int)) h ?_
    rintro ⟨n, v6, v5⟩ h0
    have h := (show F_spec_l11Facts_L1 x0 x1 J1 n v6 v5 = some y0 from h0)
    rcases n with _ | n
    · rw [F_spec_l11Facts_L1] at h; cases h
    · rw [F_spec_l11Facts_L1] at h
      refine WP.seq ?_
      refine WP.seq ?_
      refine WP.path tab_ok mixed [] [.keep [12, 6, 5, 4, 2, 1], .keepO []] (ps := [(True), (True)]) (e := .normal) (σ' := ⟨[], [(12, vb (decide (v6 < ((List.length x0 : Nat) : Int)))), (6, vi v6), (5, vi v5), (4, V.t (T.nils)), (2, V.t (T.ptr [tl x0, ti x1])), (1, vl x2)], []⟩) (by kernel_rfl) ⟨trivial, trivial, trivial⟩ ?_
      rcases ite_some h with ⟨h1, h⟩ | ⟨h1, h⟩
      · -- yes
        refine WP.cond (b := decide (v6 < ((List.length x0 : Nat) : Int))) rfl (fun _ => ?_) (fun hh => by rw [h1] at hh; cases hh)
        refine WP.path tab_ok mixed [] [.keep [6, 5, 4, 2, 1], .keepO []] (ps := []) (e := .normal) (σ' := ⟨[], [(6, vi v6), (5, vi v5), (4, V.t (T.nils)), (2, V.t (T.ptr [tl x0, ti x1])), (1, vl x2)], []⟩) (by kernel_rfl) trivial ?_
        refine WP.seq ?_
        refine WP.block ?_
        obtain ⟨c0, h⟩ := chk_some h
        obtain ⟨c1, h⟩ := chk_some h
        refine WP.path tab_ok mixed [(18, An.v (T.int .i64 (x1 + (2 : Int)))), (19, An.v (T.int .i64 (v5 * (x1 + (2 : Int)))))] [.keep [5, 6, 4, 2, 1], .keepO []] (ps := [(True), (True), (T.int .i64 (IntKind.wrap .i64 (x1 + (2 : Int))) = T.int .i64 (x1 + (2 : Int))), (True), (T.int .i64 (IntKind.wrap .i64 (v5 * (x1 + (2 : Int)))) = T.int .i64 (v5 * (x1 + (2 : Int))))]) (e := .normal) (σ' := ⟨[], [(5, vi (v5 * (x1 + (2 : Int)))), (6, vi v6), (4, V.t (T.nils)), (2, V.t (T.ptr [tl x0, ti x1])), (1, vl x2)], []⟩) (by kernel_rfl) ⟨trivial, trivial, wrapI c0, trivial, wrapI c1, trivial⟩ ?_
        obtain ⟨c2, h⟩ := chk_some h
        refine WP.path tab_ok mixed [(14, An.v (T.int .i64 (v6 + (1 : Int))))] [.keep [6, 5, 4, 2, 1], .keepO [], .names []] (ps := [(True), (T.int .i64 (IntKind.wrap .i64 (v6 + (1 : Int))) = T.int .i64 (v6 + (1 : Int)))]) (e := .normal) (σ' := ⟨[], [(6, vi (v6 + (1 : Int))), (5, vi (v5 * (x1 + (2 : Int)))), (4, V.t (T.nils)), (2, V.t (T.ptr [tl x0, ti x1])), (1, vl x2)], []⟩) (by kernel_rfl) ⟨trivial, wrapI c2, trivial⟩ ?_
        exact ⟨(n, (v6 + (1 : Int)), (v5 * (x1 + (2 : Int)))), h, Nat.lt_succ_self _, rfl⟩
      · -- no
        refine WP.cond (b := decide (v6 < ((List.length x0 : Nat) : Int))) rfl (fun hh => by rw [h1] at hh; cases hh) (fun _ => ?_)
        refine WP.path tab_ok mixed [] [.keep [5, 4, 2, 1], .keepO [], .names []] (ps := []) (e := (.exit 0)) (σ' := ⟨[], [(5, vi v5), (4, V.t (T.nils)), (2, V.t (T.ptr [tl x0, ti x1])), (1, vl x2)], []⟩) (by kernel_rfl) trivial ?_
        exact ⟨(v5), h, rfl⟩
  · -- from there
    intro v5 h0
    have h := (show J1 v5 = some y0 from h0)
    rw [hJ1] at h
    obtain ⟨c0, h⟩ := chk_some h
    obtain ⟨r25, r25b, r25c, r25d, r25e, r25g, c1, h⟩ := bnd6_some h
    obtain ⟨c2, h⟩ := chk_some h
    have h := Option.some.inj h
    subst h
    exact WP.pathG tab_ok mixed [(21, An.id 2021), (25, An.callG [(500, 2021)] [V.t (T.agg [tl x0, ti x1]), vl x2, V.own 500 5 (List.length (List.replicate (Int.toNat v5) (false, false, (0 : Int), (0 : Int), (0 : Int))))] [(500, oc 70 (List.flatMap factC (List.replicate (Int.toNat v5) (false, false, (0 : Int), (0 : Int), (0 : Int)))))] (V.t (T.agg [tb r25, tb r25b, ti r25c, ti r25d, ti r25e])) [(500, oc 70 (List.flatMap factC r25g))])] [.keep [4], .keepO [2021], .names [(2021, 9000)]] [9000] _ (r' := V.own 9000 5 (List.length r25g)) (ps := [((0 ≤ v5 ∧ v5 ≤ v5 ∧ (32 : Int) * v5 ≤ 281474976710656 ∧ v5 ≤ (maxLen : Int))), (2 ≤ 2), (CG Try.prog 96 [V.t (T.agg [tl x0, ti x1]), vl x2, V.own 500 5 (List.length (List.replicate (Int.toNat v5) (false, false, (0 : Int), (0 : Int), (0 : Int))))] [(500, oc 70 (List.flatMap factC (List.replicate (Int.toNat v5) (false, false, (0 : Int), (0 : Int), (0 : Int)))))] (V.t (T.agg [tb r25, tb r25b, ti r25c, ti r25d, ti r25e])) [(500, oc 70 (List.flatMap factC r25g))]), (WkT (T.agg [tl x0, ti x1]) (T.agg [tl x0, ti x1])), (WkT (tl x2) (tl x2)), ((V.own 500 5 (List.length (List.replicate (Int.toNat v5) (false, false, (0 : Int), (0 : Int), (0 : Int))))).ren (renF [(500, 2021)]) = V.own 2021 5 (Int.toNat v5)), ((oc 70 (List.flatten (List.replicate (Int.toNat v5) [tb false, tb false, ti 0, ti 0, ti 0]))) = (oc 70 (List.flatMap factC (List.replicate (Int.toNat v5) (false, false, (0 : Int), (0 : Int), (0 : Int))))).ren (renF [(500, 2021)]))]) (r := V.own 9000 5 (Int.toNat v5)) (N := [9000]) (O := [(9000, oc 70 (List.flatMap factC r25g))]) [] (by kernel_rfl) ⟨c0, by decide, (F_spec_l11Fill_W fuel x0 x1 x2 (List.replicate (Int.toNat v5) (false, false, (0 : Int), (0 : Int), (0 : Int))) r25 r25b r25c r25d r25e r25g c1), WkT.refl _, WkT.refl _, by first | rfl | (simp [V.ren, V.renL, renF, lk]; done) | (simp [V.ren, V.renL, renF, lk]; omega), by first | rfl | (simp only [tlS]; rfl) | (simp [Tl.Obj.ren, V.ren, V.renL, renF, lk]; done), trivial⟩ ⟨(congrArg (V.own 9000 5) (by first | rfl | (simp only [tlS, tl, vl, vo, oc, ov, tbl, vbl, ty, vy] <;> rfl) | (simp <;> omega) | (simp [c2]; done) | (rw [List.take_of_length_le (by simp [c2])] <;> rfl))), trivial⟩ rfl rfl (fun _ h => h)
theorem F_spec_l11Facts_W_C (x0 : List Int) (x1 : Int) (x2 : List Int) (y0 : List (Bool × Bool × Int × Int × Int)) (h : F_spec_l11Facts x0 x1 x2 = some y0) : C Try.prog 61 [T.agg [tl x0, ti x1], tl x2] (T.list (List.length y0) 5 (List.flatMap factC y0)) :=
  CG.toC (ps := [(List.length (List.flatMap factC y0) = (List.length y0) * 5)]) (F_spec_l11Facts_W  x0 x1 x2 y0 h) (by rfl) ⟨by first | exact len_fact _ | (rw [len_fact]; first | done | omega | (simp; done) | (simp; omega)), trivial⟩
theorem F_spec_CountRaces_W (x0 : List Int) (x1 : Int) (x2 : List Int) (y0 : Int) (y1 : Bool) (h : F_spec_CountRaces x0 x1 x2 = some (y0, y1)) : C Try.prog 13 [T.agg [tl x0, ti x1], tl x2] (T.tup [ti y0, tb y1]) := by
  unfold F_spec_CountRaces at h
  refine C.intro (tab := tab) tab_ok (fn := Try.f13) Try.func13 (by kernel_rfl) rfl (Nat.le_of_ble_eq_true rfl) ?_
  refine WP.seq ?_
  refine WP.path tab_ok mixed [(2, An.fz)] [.keep [5, 4, 2, 1], .keepO []] (ps := []) (e := .normal) (σ' := ⟨[], [(5, vb false), (4, vi 0), (2, V.t (T.ptr [tl x0, ti x1])), (1, vl x2)], []⟩) (by kernel_rfl) trivial ?_
  refine WP.seq ?_
  refine WP.seq ?_
  obtain ⟨r8, c0, h⟩ := bnd1_some h
  refine WP.path tab_ok mixed [(8, An.call (tb r8))] [.keep [9, 5, 4, 2, 1], .keepO []] (ps := [(2 ≤ 2), (C Try.prog 60 [T.agg [tl x0, ti x1], tl x2] (tb r8))]) (e := .normal) (σ' := ⟨[], [(9, vb !r8), (5, vb false), (4, vi 0), (2, V.t (T.ptr [tl x0, ti x1])), (1, vl x2)], []⟩) (by kernel_rfl) ⟨by decide, (F_spec_l11Good_W x0 x1 x2 r8 c0), trivial⟩ ?_
  rcases ite_some h with ⟨h1, h⟩ | ⟨h1, h⟩
  · -- yes
    refine WP.cond (b := !r8) rfl (fun _ => ?_) (fun hh => by rw [h1] at hh; cases hh)
    simp only [Option.some.injEq, Prod.mk.injEq] at h
    obtain ⟨rfl, rfl⟩ := h
    exact WP.pathW tab_ok mixed [] _ (ps := []) (r := T.tup [ti 0, tb false]) (by kernel_rfl) trivial (WkT.eq (y := T.tup [ti 0, tb false]) (WkT.refl _) (by first | rfl | (simp only [tlS, tl, vl, vo, oc, ov, tbl, vbl, ty, vy] <;> rfl) | (simp <;> omega) | (simp []; done) | (rw [List.take_of_length_le (by simp [])] <;> rfl))) (fun _ h => h)
  · -- no
    refine WP.cond (b := !r8) rfl (fun hh => by rw [h1] at hh; cases hh) (fun _ => ?_)
    refine WP.path tab_ok mixed [] [.keep [5, 4, 2, 1], .keepO []] (ps := []) (e := .normal) (σ' := ⟨[], [(5, vb false), (4, vi 0), (2, V.t (T.ptr [tl x0, ti x1])), (1, vl x2)], []⟩) (by kernel_rfl) trivial ?_
    obtain ⟨r12, c1, h⟩ := bnd1_some h
    obtain ⟨r14, c2, h⟩ := bnd1_some h
    obtain ⟨c3, h⟩ := chk_some h
    simp only [Option.some.injEq, Prod.mk.injEq] at h
    obtain ⟨rfl, rfl⟩ := h
    exact WP.pathW tab_ok mixed [(12, An.callG [(9000, 10120)] [V.t (T.agg [tl x0, ti x1]), vl x2] [] (V.own 9000 5 (List.length r12)) [(9000, oc 70 (List.flatMap factC r12))]), (14, An.call (ti r14)), (17, An.v (ti ((List.getD r12 (Int.toNat r14) (false, false, 0, 0, 0)).2.2.2.2)))] _ (ps := [(2 ≤ 2), (CG Try.prog 61 [V.t (T.agg [tl x0, ti x1]), vl x2] [] (V.own 9000 5 (List.length r12)) [(9000, oc 70 (List.flatMap factC r12))]), (WkT (T.agg [tl x0, ti x1]) (T.agg [tl x0, ti x1])), (WkT (tl x2) (tl x2)), (2 ≤ 2), (C Try.prog 62 [T.agg [tl x0, ti x1]] (ti r14)), ((0 ≤ r14 ∧ r14 < ((List.length r12 : Nat) : Int))), ((List.flatMap factC r12 : List T)[((Int.toNat r14) * 5) + 4]? = some (ti ((List.getD r12 (Int.toNat r14) (false, false, 0, 0, 0)).2.2.2.2))), (ti ((List.getD r12 (Int.toNat r14) (false, false, 0, 0, 0)).2.2.2.2) = ti ((List.getD r12 (Int.toNat r14) (false, false, 0, 0, 0)).2.2.2.2))]) (r := T.tup [ti ((List.getD r12 (Int.toNat r14) (false, false, 0, 0, 0)).2.2.2.2), tb true]) (by kernel_rfl) ⟨by decide, (F_spec_l11Facts_W x0 x1 x2 r12 c1), WkT.refl _, WkT.refl _, by decide, (F_spec_l6Key_W x0 x1 r14 c2), c3, getF (f := factC) (c := 5) (fun _ => rfl) (d := (false, false, 0, 0, 0)) (i := (Int.toNat r14)) (k := 4) (by first | rfl | omega) (by omega) rfl, rfl, trivial⟩ (WkT.eq (y := T.tup [ti ((List.getD r12 (Int.toNat r14) (false, false, 0, 0, 0)).2.2.2.2), tb true]) (WkT.refl _) rfl) (fun _ h => h)
theorem F_impl_areChoices_W (x0 : Int) (x1 : List Int) (y0 : Bool) (h : F_impl_areChoices x0 x1 = some y0) : C Try.prog 83 [ti x0, tl x1] (tb y0) := by
  unfold F_impl_areChoices at h
  refine C.intro (tab := tab) tab_ok (fn := Try.f83) Try.func83 (by kernel_rfl) rfl (Nat.le_of_ble_eq_true rfl) ?_
  refine WP.seq ?_
  refine WP.path tab_ok mixed [] [.keep [4, 0, 1], .keepO []] (ps := []) (e := .normal) (σ' := ⟨[], [(4, vb false), (0, vi x0), (1, vl x1)], []⟩) (by kernel_rfl) trivial ?_
  obtain ⟨J1, hJ1, h⟩ := jn_some h
  refine WP.joinA (fun (zz : Unit) => ⟨[], [(4, vb false), (1, vl x1)], []⟩) (fun zz => J1 () = some y0) ?_ ?_
  · -- to where they meet
    refine WP.seq ?_
    refine WP.path tab_ok mixed [] [.keep [9, 8, 7, 4, 0, 1], .keepO []] (ps := []) (e := .normal) (σ' := ⟨[], [(9, vi 0), (8, vi ((List.length x1 : Nat) : Int)), (7, vl x1), (4, vb false), (0, vi x0), (1, vl x1)], []⟩) (by kernel_rfl) trivial ?_
    refine WP.block ?_
    refine WP.wk [.keep [9, 8, 7, 4, 0, 1], .keepO [], .names []] (σ' := ⟨[], [(9, vi 0), (8, vi ((List.length x1 : Nat) : Int)), (7, vl x1), (4, vb false), (0, vi x0), (1, vl x1)], []⟩) (ps := []) (by kernel_rfl) trivial ?_
    refine WP.st (σ' := ⟨[], [(9, vi (0 : Int)), (8, vi ((List.length x1 : Nat) : Int)), (7, vl x1), (4, vb false), (0, vi x0), (1, vl x1)], []⟩) (by first | rfl | (simp only [tlS, tl, vl, vo, oc, ov, tbl, vbl, ty, vy] <;> rfl) | (simp <;> omega) | (simp []; done) | (rw [List.take_of_length_le (by simp [])] <;> rfl)) ?_
    refine WP.loop (α := Nat × Int) (fun zz => ⟨[], [(9, vi zz.2), (8, vi ((List.length x1 : Nat) : Int)), (7, vl x1), (4, vb false), (0, vi x0), (1, vl x1)], []⟩) (fun zz => F_impl_areChoices_L1 x0 x1 J1 zz.1 zz.2 = some y0) (fun zz => zz.1) (fuel, (0 : Int)) h ?_
    rintro ⟨n, v9⟩ h0
    have h := (show F_impl_areChoices_L1 x0 x1 J1 n v9 = some y0 from h0)
    rcases n with _ | n
    · rw [F_impl_areChoices_L1] at h; cases h
    · rw [F_impl_areChoices_L1] at h
      refine WP.seq ?_
      refine WP.path tab_ok mixed [] [.keep [10, 9, 8, 7, 4, 0, 1], .keepO []] (ps := [(True)]) (e := .normal) (σ' := ⟨[], [(10, vb (decide (v9 < ((List.length x1 : Nat) : Int)))), (9, vi v9), (8, vi ((List.length x1 : Nat) : Int)), (7, vl x1), (4, vb false), (0, vi x0), (1, vl x1)], []⟩) (by kernel_rfl) ⟨trivial, trivial⟩ ?_
      refine WP.seq ?_
      rcases ite_some h with ⟨h1, h⟩ | ⟨h1, h⟩
      · -- yes
        refine WP.cond (b := decide (v9 < ((List.length x1 : Nat) : Int))) rfl (fun _ => ?_) (fun hh => by rw [h1] at hh; cases hh)
        refine WP.path tab_ok mixed [] [.keep [9, 8, 7, 4, 0, 1], .keepO []] (ps := []) (e := .normal) (σ' := ⟨[], [(9, vi v9), (8, vi ((List.length x1 : Nat) : Int)), (7, vl x1), (4, vb false), (0, vi x0), (1, vl x1)], []⟩) (by kernel_rfl) trivial ?_
        refine WP.seq ?_
        refine WP.block ?_
        refine WP.seq ?_
        obtain ⟨c0, h⟩ := chk_some h
        refine WP.path tab_ok mixed [(13, An.v (ti (List.getD x1 (Int.toNat v9) 0)))] [.keep [6, 5, 9, 8, 7, 4, 0, 1], .keepO []] (ps := [((0 ≤ v9 ∧ v9 < ((List.length x1 : Nat) : Int))), ((List.drop ((Int.toNat v9) * 1) (List.map (T.int .i64) x1) : List T)[0]? = some (ti (List.getD x1 (Int.toNat v9) 0))), (ti (List.getD x1 (Int.toNat v9) 0) = ti (List.getD x1 (Int.toNat v9) 0))]) (e := .normal) (σ' := ⟨[], [(6, vi (List.getD x1 (Int.toNat v9) 0)), (5, vi v9), (9, vi v9), (8, vi ((List.length x1 : Nat) : Int)), (7, vl x1), (4, vb false), (0, vi x0), (1, vl x1)], []⟩) (by kernel_rfl) ⟨c0, at1 (by simp) (by omega), rfl, trivial⟩ ?_
        obtain ⟨J2, hJ2, h⟩ := jn_some h
        refine WP.joinA (fun (zz : Bool) => ⟨[], [(30, vb zz), (9, vi v9), (8, vi ((List.length x1 : Nat) : Int)), (7, vl x1), (4, vb false), (0, vi x0), (1, vl x1)], []⟩) (fun zz => J2 zz = some y0) ?_ ?_
        · -- to where they meet
          rcases ite_some h with ⟨h2, h⟩ | ⟨h2, h⟩
          · -- yes
            refine WP.path tab_ok mixed [(16, An.call (tb (isQ x0 (List.getD x1 (Int.toNat v9) 0)))), (18, An.b true)] [.keep [30, 9, 8, 7, 4, 0, 1], .keepO [], .names []] (ps := [(C Try.prog 86 [ti x0, ti (List.getD x1 (Int.toNat v9) 0)] (tb (isQ x0 (List.getD x1 (Int.toNat v9) 0)))), ((!(isQ x0 (List.getD x1 (Int.toNat v9) 0))) = true)]) (e := .normal) (σ' := ⟨[], [(30, vb true), (9, vi v9), (8, vi ((List.length x1 : Nat) : Int)), (7, vl x1), (4, vb false), (0, vi x0), (1, vl x1)], []⟩) (by kernel_rfl) ⟨(isQuestion_C x0 (List.getD x1 (Int.toNat v9) 0)), h2, trivial⟩ ?_
            exact ⟨(true), h, rfl⟩
          · -- no
            rcases ite_some h with ⟨h3, h⟩ | ⟨h3, h⟩
            · -- yes
              obtain ⟨c1, h⟩ := chk_some h
              obtain ⟨c2, h⟩ := chk_some h
              refine WP.path tab_ok mixed [(16, An.call (tb (isQ x0 (List.getD x1 (Int.toNat v9) 0)))), (18, An.b false), (20, An.b true), (24, An.v (T.int .i64 (v9 - (1 : Int)))), (26, An.v (ti (List.getD x1 (Int.toNat (v9 - (1 : Int))) 0)))] [.keep [30, 9, 8, 7, 4, 0, 1], .keepO [], .names []] (ps := [(C Try.prog 86 [ti x0, ti (List.getD x1 (Int.toNat v9) 0)] (tb (isQ x0 (List.getD x1 (Int.toNat v9) 0)))), ((!(isQ x0 (List.getD x1 (Int.toNat v9) 0))) = false), (True), ((decide (v9 > (0 : Int))) = true), (True), (T.int .i64 (IntKind.wrap .i64 (v9 - (1 : Int))) = T.int .i64 (v9 - (1 : Int))), ((0 ≤ (v9 - (1 : Int)) ∧ (v9 - (1 : Int)) < ((List.length x1 : Nat) : Int))), ((List.drop ((Int.toNat (v9 - (1 : Int))) * 1) (List.map (T.int .i64) x1) : List T)[0]? = some (ti (List.getD x1 (Int.toNat (v9 - (1 : Int))) 0))), (ti (List.getD x1 (Int.toNat (v9 - (1 : Int))) 0) = ti (List.getD x1 (Int.toNat (v9 - (1 : Int))) 0)), (True)]) (e := .normal) (σ' := ⟨[], [(30, vb (decide ((List.getD x1 (Int.toNat (v9 - (1 : Int))) 0) ≥ (List.getD x1 (Int.toNat v9) 0)))), (9, vi v9), (8, vi ((List.length x1 : Nat) : Int)), (7, vl x1), (4, vb false), (0, vi x0), (1, vl x1)], []⟩) (by kernel_rfl) ⟨(isQuestion_C x0 (List.getD x1 (Int.toNat v9) 0)), h2, trivial, h3, trivial, wrapI c1, c2, at1 (by simp) (by omega), rfl, trivial, trivial⟩ ?_
              exact ⟨(decide ((List.getD x1 (Int.toNat (v9 - (1 : Int))) 0) ≥ (List.getD x1 (Int.toNat v9) 0))), h, rfl⟩
            · -- no
              refine WP.path tab_ok mixed [(16, An.call (tb (isQ x0 (List.getD x1 (Int.toNat v9) 0)))), (18, An.b false), (20, An.b false)] [.keep [30, 9, 8, 7, 4, 0, 1], .keepO [], .names []] (ps := [(C Try.prog 86 [ti x0, ti (List.getD x1 (Int.toNat v9) 0)] (tb (isQ x0 (List.getD x1 (Int.toNat v9) 0)))), ((!(isQ x0 (List.getD x1 (Int.toNat v9) 0))) = false), (True), ((decide (v9 > (0 : Int))) = false)]) (e := .normal) (σ' := ⟨[], [(30, vb false), (9, vi v9), (8, vi ((List.length x1 : Nat) : Int)), (7, vl x1), (4, vb false), (0, vi x0), (1, vl x1)], []⟩) (by kernel_rfl) ⟨(isQuestion_C x0 (List.getD x1 (Int.toNat v9) 0)), h2, trivial, h3, trivial⟩ ?_
              exact ⟨(false), h, rfl⟩
        · -- from there
          intro v30 h0
          have h := (show J2 v30 = some y0 from h0)
          rw [hJ2] at h
          rcases ite_some h with ⟨h4, h⟩ | ⟨h4, h⟩
          · -- yes
            refine WP.cond (b := v30) rfl (fun _ => ?_) (fun hh => by rw [h4] at hh; cases hh)
            have h := Option.some.inj h
            subst h
            exact WP.pathW tab_ok mixed [] _ (ps := []) (r := tb false) (by kernel_rfl) trivial (WkT.eq (y := tb false) (WkT.refl _) rfl) (fun _ h => h)
          · -- no
            refine WP.cond (b := v30) rfl (fun hh => by rw [h4] at hh; cases hh) (fun _ => ?_)
            refine WP.path tab_ok mixed [] [.keep [9, 8, 7, 4, 0, 1], .keepO []] (ps := []) (e := .normal) (σ' := ⟨[], [(9, vi v9), (8, vi ((List.length x1 : Nat) : Int)), (7, vl x1), (4, vb false), (0, vi x0), (1, vl x1)], []⟩) (by kernel_rfl) trivial ?_
            obtain ⟨c1, h⟩ := chk_some h
            refine WP.path tab_ok mixed [(31, An.v (T.int .i64 (v9 + (1 : Int))))] [.keep [9, 8, 7, 4, 0, 1], .keepO [], .names []] (ps := [(True), (T.int .i64 (IntKind.wrap .i64 (v9 + (1 : Int))) = T.int .i64 (v9 + (1 : Int)))]) (e := .normal) (σ' := ⟨[], [(9, vi (v9 + (1 : Int))), (8, vi ((List.length x1 : Nat) : Int)), (7, vl x1), (4, vb false), (0, vi x0), (1, vl x1)], []⟩) (by kernel_rfl) ⟨trivial, wrapI c1, trivial⟩ ?_
            exact ⟨(n, (v9 + (1 : Int))), h, Nat.lt_succ_self _, rfl⟩
      · -- no
        refine WP.cond (b := decide (v9 < ((List.length x1 : Nat) : Int))) rfl (fun hh => by rw [h1] at hh; cases hh) (fun _ => ?_)
        refine WP.path tab_ok mixed [] [.keep [4, 1], .keepO [], .names []] (ps := []) (e := (.exit 0)) (σ' := ⟨[], [(4, vb false), (1, vl x1)], []⟩) (by kernel_rfl) trivial ?_
        exact ⟨(), h, rfl⟩
  · -- from there
    intro _ h0
    have h := (show J1 () = some y0 from h0)
    rw [hJ1] at h
    have h := Option.some.inj h
    subst h
    exact WP.pathW tab_ok mixed [(34, An.call (tb (decide ((1 : Int) ≤ ((List.length x1 : Nat) : Int)) && decide (((List.length x1 : Nat) : Int) ≤ (5 : Int)))))] _ (ps := [(C Try.prog 110 [ti ((List.length x1 : Nat) : Int), ti 1, ti 5] (tb (decide ((1 : Int) ≤ ((List.length x1 : Nat) : Int)) && decide (((List.length x1 : Nat) : Int) ≤ (5 : Int)))))]) (r := tb (decide ((1 : Int) ≤ ((List.length x1 : Nat) : Int)) && decide (((List.length x1 : Nat) : Int) ≤ (5 : Int)))) (by kernel_rfl) ⟨(by have hh := (in_C ((List.length x1 : Nat) : Int) (1 : Int) (5 : Int)); first | exact hh | simpa using hh), trivial⟩ (WkT.eq (y := tb (decide ((1 : Int) ≤ ((List.length x1 : Nat) : Int)) && decide (((List.length x1 : Nat) : Int) ≤ (5 : Int)))) (WkT.refl _) rfl) (fun _ h => h)
theorem F_impl_areRaced_W (x0 : List Int) (x1 : Int) (x2 : List Int) (y0 : Bool) (h : F_impl_areRaced x0 x1 x2 = some y0) : C Try.prog 64 [T.agg [tl x0, ti x1], tl x2] (tb y0) := by
  unfold F_impl_areRaced at h
  refine C.intro (tab := tab) tab_ok (fn := Try.f64) Try.func64 (by kernel_rfl) rfl (Nat.le_of_ble_eq_true rfl) ?_
  obtain ⟨c0, h⟩ := chk_some h
  rcases ite_some h with ⟨h1, h⟩ | ⟨h1, h⟩
  · -- yes
    obtain ⟨r12, c1, h⟩ := bnd1_some h
    have h := Option.some.inj h
    subst h
    exact WP.pathW tab_ok mixed [(2, An.fz), (6, An.call (tb true)), (12, An.call (tb r12))] _ (ps := [(2 ≤ 2), (C Try.prog 90 [T.agg [tl x0, ti x1]] (tb true)), (True), (C Try.prog 83 [ti ((List.length x0 : Nat) : Int), tl x2] (tb r12))]) (r := tb r12) (by kernel_rfl) ⟨by decide, (C.toB h1 (isRace_C x0 x1 c0)), trivial, (F_impl_areChoices_W ((List.length x0 : Nat) : Int) x2 r12 c1), trivial⟩ (WkT.eq (y := tb r12) (WkT.refl _) rfl) (fun _ h => h)
  · -- no
    have h := Option.some.inj h
    subst h
    exact WP.pathW tab_ok mixed [(2, An.fz), (6, An.call (tb false))] _ (ps := [(2 ≤ 2), (C Try.prog 90 [T.agg [tl x0, ti x1]] (tb false))]) (r := tb false) (by kernel_rfl) ⟨by decide, (C.toB h1 (isRace_C x0 x1 c0)), trivial⟩ (WkT.eq (y := tb false) (WkT.refl _) rfl) (fun _ h => h)
theorem F_impl_newRace_W (x0 : List Int) (y0 : List Int) (y1 : List (Int × Bool)) (y2 : List (Int × Int × Int × Int)) (h : F_impl_newRace x0 = some (y0, y1, y2)) : CG Try.prog 65 [vl x0] [] (V.ref 9000 0) [(9000, ov 104 [vl y0, V.mapr 9001, V.mapr 9002]), (9001, Tl.Obj.map (mpB y1)), (9002, Tl.Obj.map (mp3 y2))] := by
  unfold F_impl_newRace at h
  refine CG.intro (tab := tab) tab_ok (fn := Try.f65) Try.func65 (by kernel_rfl) rfl (Nat.le_of_ble_eq_true rfl) (by kernel_rfl) ?_
  simp only [Option.some.injEq, Prod.mk.injEq] at h
  obtain ⟨rfl, rfl, rfl⟩ := h
  exact WP.pathG tab_ok mixed [(4, An.id 2004), (5, An.id 2005), (7, An.id 2007)] [.keep [2], .keepO [2007, 2004, 2005], .names [(2007, 9000), (2004, 9001), (2005, 9002)]] [9000, 9001, 9002] _ (r' := V.ref 9000 0) (ps := [((1 = 1 ∧ 0 + 1 ≤ 3) ∧ (1 = 1 ∧ 1 + 1 ≤ 3) ∧ (1 = 1 ∧ 2 + 1 ≤ 3) ∧ True)]) (r := V.ref 9000 0) (N := [9000, 9001, 9002]) (O := [(9000, ov 104 [vl x0, V.mapr 9001, V.mapr 9002]), (9001, Tl.Obj.map (mpB ([] : List (Int × Bool)))), (9002, Tl.Obj.map (mp3 ([] : List (Int × Int × Int × Int))))]) [] (by kernel_rfl) ⟨⟨⟨by decide, by decide⟩, ⟨by decide, by decide⟩, ⟨by decide, by decide⟩, trivial⟩, trivial⟩ ⟨(by first | rfl | (simp only [tlS, tl, vl, vo, oc, ov, tbl, vbl, ty, vy] <;> rfl) | (simp <;> omega) | (simp []; done) | (rw [List.take_of_length_le (by simp [])] <;> rfl)), trivial⟩ rfl rfl (fun _ h => h)
theorem F_impl_State_isVain_W (x0 : List Int) (x1 : Int) (x2 : Int) (y0 : Bool) (h : F_impl_State_isVain x0 x1 x2 = some y0) : C Try.prog 87 [T.agg [tl x0, ti x1], ti x2] (tb y0) := by
  unfold F_impl_State_isVain at h
  refine C.intro (tab := tab) tab_ok (fn := Try.f87) Try.func87 (by kernel_rfl) rfl (Nat.le_of_ble_eq_true rfl) ?_
  refine WP.seq ?_
  refine WP.path tab_ok mixed [(2, An.fz)] [.keep [4, 2, 1], .keepO []] (ps := []) (e := .normal) (σ' := ⟨[], [(4, vb false), (2, V.t (T.ptr [tl x0, ti x1])), (1, vi x2)], []⟩) (by kernel_rfl) trivial ?_
  refine WP.seq ?_
  refine WP.path tab_ok mixed [] [.keep [5, 4, 2, 1], .keepO []] (ps := []) (e := .normal) (σ' := ⟨[], [(5, vi 0), (4, vb false), (2, V.t (T.ptr [tl x0, ti x1])), (1, vi x2)], []⟩) (by kernel_rfl) trivial ?_
  refine WP.seq ?_
  obtain ⟨c0, h⟩ := chk_some h
  refine WP.path tab_ok mixed [(10, An.callG [(9000, 10100)] [V.t (T.agg [tl x0, ti x1])] [] (vo 9000 (List.length (openN x0))) [(9000, oc 3 (List.map (T.int .i64) (openN x0)))])] [.keep [6, 5, 4, 1], .keepO [10100]] (ps := [(2 ≤ 2), (CG Try.prog 79 [V.t (T.agg [tl x0, ti x1])] [] (vo 9000 (List.length (openN x0))) [(9000, oc 3 (List.map (T.int .i64) (openN x0)))]), (WkT (T.agg [tl x0, ti x1]) (T.agg [tl x0, ti x1]))]) (e := .normal) (σ' := ⟨[10100], [(6, vo 10100 (List.length (openN x0))), (5, vi 0), (4, vb false), (1, vi x2)], [(10100, oc 3 (List.map (T.int .i64) (openN x0)))]⟩) (by kernel_rfl) ⟨by decide, (open_C_G x0 x1 c0), WkT.refl _, trivial⟩ ?_
  obtain ⟨J1, hJ1, h⟩ := jn_some h
  refine WP.joinA (fun (zz : Int) => ⟨[10100], [(6, vo 10100 (List.length (openN x0))), (5, vi zz), (4, vb false)], [(10100, oc 3 (List.map (T.int .i64) (openN x0)))]⟩) (fun zz => J1 zz = some y0) ?_ ?_
  · -- to where they meet
    refine WP.seq ?_
    refine WP.path tab_ok mixed [] [.keep [13, 12, 11, 6, 5, 4, 1], .keepO [10100]] (ps := []) (e := .normal) (σ' := ⟨[10100], [(13, vi 0), (12, vi ((List.length (openN x0) : Nat) : Int)), (11, vo 10100 (List.length (openN x0))), (6, vo 10100 (List.length (openN x0))), (5, vi 0), (4, vb false), (1, vi x2)], [(10100, oc 3 (List.map (T.int .i64) (openN x0)))]⟩) (by kernel_rfl) trivial ?_
    refine WP.block ?_
    refine WP.wk [.keep [13, 12, 11, 6, 5, 4, 1], .keepO [10100], .names [(10100, 10100)]] (σ' := ⟨[10100], [(13, vi 0), (12, vi ((List.length (openN x0) : Nat) : Int)), (11, vo 10100 (List.length (openN x0))), (6, vo 10100 (List.length (openN x0))), (5, vi 0), (4, vb false), (1, vi x2)], [(10100, oc 3 (List.map (T.int .i64) (openN x0)))]⟩) (ps := []) (by kernel_rfl) trivial ?_
    refine WP.st (σ' := ⟨[10100], [(13, vi (0 : Int)), (12, vi ((List.length (openN x0) : Nat) : Int)), (11, vo 10100 (List.length (openN x0))), (6, vo 10100 (List.length (openN x0))), (5, vi (0 : Int)), (4, vb false), (1, vi x2)], [(10100, oc 3 (List.map (T.int .i64) (openN x0)))]⟩) (by first | rfl | (simp only [tlS, tl, vl, vo, oc, ov, tbl, vbl, ty, vy] <;> rfl) | (simp <;> omega) | (simp []; done) | (rw [List.take_of_length_le (by simp [])] <;> rfl)) ?_
    refine WP.loop (α := Nat × Int × Int) (fun zz => ⟨[10100], [(13, vi zz.2.1), (12, vi ((List.length (openN x0) : Nat) : Int)), (11, vo 10100 (List.length (openN x0))), (6, vo 10100 (List.length (openN x0))), (5, vi zz.2.2), (4, vb false), (1, vi x2)], [(10100, oc 3 (List.map (T.int .i64) (openN x0)))]⟩) (fun zz => F_impl_State_isVain_L1 x0 x2 J1 zz.1 zz.2.1 zz.2.2 = some y0) (fun zz => zz.1) (fuel, (0 : Int), (0 : Int)) h ?_
    rintro ⟨n, v13, v5⟩ h0
    have h := (show F_impl_State_isVain_L1 x0 x2 J1 n v13 v5 = some y0 from h0)
    rcases n with _ | n
    · rw [F_impl_State_isVain_L1] at h; cases h
    · rw [F_impl_State_isVain_L1] at h
      refine WP.seq ?_
      refine WP.path tab_ok mixed [] [.keep [14, 13, 12, 11, 6, 5, 4, 1], .keepO [10100]] (ps := [(True)]) (e := .normal) (σ' := ⟨[10100], [(14, vb (decide (v13 < ((List.length (openN x0) : Nat) : Int)))), (13, vi v13), (12, vi ((List.length (openN x0) : Nat) : Int)), (11, vo 10100 (List.length (openN x0))), (6, vo 10100 (List.length (openN x0))), (5, vi v5), (4, vb false), (1, vi x2)], [(10100, oc 3 (List.map (T.int .i64) (openN x0)))]⟩) (by kernel_rfl) ⟨trivial, trivial⟩ ?_
      refine WP.seq ?_
      rcases ite_some h with ⟨h1, h⟩ | ⟨h1, h⟩
      · -- yes
        refine WP.cond (b := decide (v13 < ((List.length (openN x0) : Nat) : Int))) rfl (fun _ => ?_) (fun hh => by rw [h1] at hh; cases hh)
        refine WP.path tab_ok mixed [] [.keep [13, 12, 11, 6, 5, 4, 1], .keepO [10100]] (ps := []) (e := .normal) (σ' := ⟨[10100], [(13, vi v13), (12, vi ((List.length (openN x0) : Nat) : Int)), (11, vo 10100 (List.length (openN x0))), (6, vo 10100 (List.length (openN x0))), (5, vi v5), (4, vb false), (1, vi x2)], [(10100, oc 3 (List.map (T.int .i64) (openN x0)))]⟩) (by kernel_rfl) trivial ?_
        refine WP.seq ?_
        refine WP.block ?_
        refine WP.seq ?_
        obtain ⟨c1, h⟩ := chk_some h
        refine WP.path tab_ok mixed [(16, An.v (ti (List.getD (openN x0) (Int.toNat v13) 0)))] [.keep [8, 13, 12, 11, 6, 5, 4, 1], .keepO [10100]] (ps := [((0 ≤ v13 ∧ v13 < ((List.length (openN x0) : Nat) : Int))), ((List.map (T.int .i64) (openN x0) : List T)[(Int.toNat v13) * 1]? = some (ti (List.getD (openN x0) (Int.toNat v13) 0))), (ti (List.getD (openN x0) (Int.toNat v13) 0) = ti (List.getD (openN x0) (Int.toNat v13) 0))]) (e := .normal) (σ' := ⟨[10100], [(8, vi (List.getD (openN x0) (Int.toNat v13) 0)), (13, vi v13), (12, vi ((List.length (openN x0) : Nat) : Int)), (11, vo 10100 (List.length (openN x0))), (6, vo 10100 (List.length (openN x0))), (5, vi v5), (4, vb false), (1, vi x2)], [(10100, oc 3 (List.map (T.int .i64) (openN x0)))]⟩) (by kernel_rfl) ⟨c1, atM (by simp) (by first | omega | (simp only [tlL]; omega) | (simp; omega)), rfl, trivial⟩ ?_
        refine WP.seq ?_
        obtain ⟨c2, h⟩ := chk_some h
        refine WP.path tab_ok mixed [(19, An.call (tb (hasB x2 (List.getD (openN x0) (Int.toNat v13) 0))))] [.keep [19, 13, 12, 11, 6, 5, 4, 1], .keepO [10100]] (ps := [(C Try.prog 112 [ti x2, ti (List.getD (openN x0) (Int.toNat v13) 0)] (tb (hasB x2 (List.getD (openN x0) (Int.toNat v13) 0))))]) (e := .normal) (σ' := ⟨[10100], [(19, vb (hasB x2 (List.getD (openN x0) (Int.toNat v13) 0))), (13, vi v13), (12, vi ((List.length (openN x0) : Nat) : Int)), (11, vo 10100 (List.length (openN x0))), (6, vo 10100 (List.length (openN x0))), (5, vi v5), (4, vb false), (1, vi x2)], [(10100, oc 3 (List.map (T.int .i64) (openN x0)))]⟩) (by kernel_rfl) ⟨(has_C x2 (List.getD (openN x0) (Int.toNat v13) 0) c2), trivial⟩ ?_
        rcases ite_some h with ⟨h2, h⟩ | ⟨h2, h⟩
        · -- yes
          refine WP.cond (b := hasB x2 (List.getD (openN x0) (Int.toNat v13) 0)) rfl (fun _ => ?_) (fun hh => by rw [h2] at hh; cases hh)
          obtain ⟨c3, h⟩ := chk_some h
          refine WP.path tab_ok mixed [(21, An.v (T.int .i64 (v5 + (1 : Int))))] [.keep [5, 13, 12, 11, 6, 4, 1], .keepO [10100]] (ps := [(True), (T.int .i64 (IntKind.wrap .i64 (v5 + (1 : Int))) = T.int .i64 (v5 + (1 : Int)))]) (e := .normal) (σ' := ⟨[10100], [(5, vi (v5 + (1 : Int))), (13, vi v13), (12, vi ((List.length (openN x0) : Nat) : Int)), (11, vo 10100 (List.length (openN x0))), (6, vo 10100 (List.length (openN x0))), (4, vb false), (1, vi x2)], [(10100, oc 3 (List.map (T.int .i64) (openN x0)))]⟩) (by kernel_rfl) ⟨trivial, wrapI c3, trivial⟩ ?_
          obtain ⟨c4, h⟩ := chk_some h
          refine WP.path tab_ok mixed [(22, An.v (T.int .i64 (v13 + (1 : Int))))] [.keep [13, 12, 11, 6, 5, 4, 1], .keepO [10100], .names [(10100, 10100)]] (ps := [(True), (T.int .i64 (IntKind.wrap .i64 (v13 + (1 : Int))) = T.int .i64 (v13 + (1 : Int)))]) (e := .normal) (σ' := ⟨[10100], [(13, vi (v13 + (1 : Int))), (12, vi ((List.length (openN x0) : Nat) : Int)), (11, vo 10100 (List.length (openN x0))), (6, vo 10100 (List.length (openN x0))), (5, vi (v5 + (1 : Int))), (4, vb false), (1, vi x2)], [(10100, oc 3 (List.map (T.int .i64) (openN x0)))]⟩) (by kernel_rfl) ⟨trivial, wrapI c4, trivial⟩ ?_
          exact ⟨(n, (v13 + (1 : Int)), (v5 + (1 : Int))), h, Nat.lt_succ_self _, rfl⟩
        · -- no
          refine WP.cond (b := hasB x2 (List.getD (openN x0) (Int.toNat v13) 0)) rfl (fun hh => by rw [h2] at hh; cases hh) (fun _ => ?_)
          refine WP.path tab_ok mixed [] [.keep [13, 12, 11, 6, 5, 4, 1], .keepO [10100]] (ps := []) (e := .normal) (σ' := ⟨[10100], [(13, vi v13), (12, vi ((List.length (openN x0) : Nat) : Int)), (11, vo 10100 (List.length (openN x0))), (6, vo 10100 (List.length (openN x0))), (5, vi v5), (4, vb false), (1, vi x2)], [(10100, oc 3 (List.map (T.int .i64) (openN x0)))]⟩) (by kernel_rfl) trivial ?_
          obtain ⟨c3, h⟩ := chk_some h
          refine WP.path tab_ok mixed [(22, An.v (T.int .i64 (v13 + (1 : Int))))] [.keep [13, 12, 11, 6, 5, 4, 1], .keepO [10100], .names [(10100, 10100)]] (ps := [(True), (T.int .i64 (IntKind.wrap .i64 (v13 + (1 : Int))) = T.int .i64 (v13 + (1 : Int)))]) (e := .normal) (σ' := ⟨[10100], [(13, vi (v13 + (1 : Int))), (12, vi ((List.length (openN x0) : Nat) : Int)), (11, vo 10100 (List.length (openN x0))), (6, vo 10100 (List.length (openN x0))), (5, vi v5), (4, vb false), (1, vi x2)], [(10100, oc 3 (List.map (T.int .i64) (openN x0)))]⟩) (by kernel_rfl) ⟨trivial, wrapI c3, trivial⟩ ?_
          exact ⟨(n, (v13 + (1 : Int)), v5), h, Nat.lt_succ_self _, rfl⟩
      · -- no
        refine WP.cond (b := decide (v13 < ((List.length (openN x0) : Nat) : Int))) rfl (fun hh => by rw [h1] at hh; cases hh) (fun _ => ?_)
        refine WP.path tab_ok mixed [] [.keep [6, 5, 4], .keepO [10100], .names [(10100, 10100)]] (ps := []) (e := (.exit 0)) (σ' := ⟨[10100], [(6, vo 10100 (List.length (openN x0))), (5, vi v5), (4, vb false)], [(10100, oc 3 (List.map (T.int .i64) (openN x0)))]⟩) (by kernel_rfl) trivial ?_
        exact ⟨(v5), h, rfl⟩
  · -- from there
    intro v5 h0
    have h := (show J1 v5 = some y0 from h0)
    rw [hJ1] at h
    rcases ite_some h with ⟨h3, h⟩ | ⟨h3, h⟩
    · -- yes
      have h := Option.some.inj h
      subst h
      exact WP.pathW tab_ok mixed [(24, An.b true)] _ (ps := [(True), ((v5 == (0 : Int)) = true)]) (r := tb true) (by kernel_rfl) ⟨trivial, h3, trivial⟩ (WkT.eq (y := tb true) (WkT.refl _) rfl) (fun _ h => h)
    · -- no
      have h := Option.some.inj h
      subst h
      exact WP.pathW tab_ok mixed [(24, An.b false)] _ (ps := [(True), ((v5 == (0 : Int)) = false), (True)]) (r := tb (v5 == ((List.length (openN x0) : Nat) : Int))) (by kernel_rfl) ⟨trivial, h3, trivial, trivial⟩ (WkT.eq (y := tb (v5 == ((List.length (openN x0) : Nat) : Int))) (WkT.refl _) rfl) (fun _ h => h)
theorem F_p_impl_race_choices_W (x0 : List Int) (x1 : List (Int × Bool)) (x2 : List (Int × Int × Int × Int)) (x3 : List Int) (x4 : Int) (y0 : List Int) (y1 : List (Int × Bool)) (y2 : List (Int × Int × Int × Int)) (h : F_p_impl_race_choices x0 x1 x2 x3 x4 = some (y0, y1, y2)) : CG Try.prog 72 [V.ref 500 0, V.t (T.agg [tl x3, ti x4])] [(500, ov 104 [vl x0, V.mapr 501, V.mapr 502]), (501, Tl.Obj.map (mpB x1)), (502, Tl.Obj.map (mp3 x2))] (vo 9000 (List.length y0)) [(500, ov 104 [vl x0, V.mapr 501, V.mapr 502]), (501, Tl.Obj.map (mpB y1)), (502, Tl.Obj.map (mp3 y2)), (9000, oc 3 (List.map (T.int .i64) y0))] := by
  unfold F_p_impl_race_choices at h
  refine CG.intro (tab := tab) tab_ok (fn := Try.f72) Try.func72 (by kernel_rfl) rfl (Nat.le_of_ble_eq_true rfl) (by kernel_rfl) ?_
  refine WP.seq ?_
  refine WP.path tab_ok mixed [(3, An.fz)] [.keep [4, 3, 0], .keepO [500, 501, 502]] (ps := []) (e := .normal) (σ' := ⟨[500, 501, 502], [(4, V.t (T.nils)), (3, V.t (T.ptr [tl x3, ti x4])), (0, V.ref 500 0)], [(500, ov 104 [vl x0, V.mapr 501, V.mapr 502]), (501, Tl.Obj.map (mpB x1)), (502, Tl.Obj.map (mp3 x2))]⟩) (by kernel_rfl) trivial ?_
  refine WP.seq ?_
  refine WP.path tab_ok mixed [(8, An.id 2008)] [.keep [5, 4, 3, 0], .keepO [500, 501, 502, 2008]] (ps := [(True), (0 = 0 * 1)]) (e := .normal) (σ' := ⟨[2008, 500, 501, 502], [(5, vo 2008 0), (4, V.t (T.nils)), (3, V.t (T.ptr [tl x3, ti x4])), (0, V.ref 500 0)], [(500, ov 104 [vl x0, V.mapr 501, V.mapr 502]), (501, Tl.Obj.map (mpB x1)), (502, Tl.Obj.map (mp3 x2)), (2008, oc 3 [])]⟩) (by kernel_rfl) ⟨trivial, by decide, trivial⟩ ?_
  obtain ⟨J1, hJ1, h⟩ := jn_some h
  refine WP.joinA (fun (zz : (List Int)) => ⟨[500, 501, 502, 2008], [(5, vo 2008 (List.length zz)), (4, V.t (T.nils))], [(500, ov 104 [vl x0, V.mapr 501, V.mapr 502]), (501, Tl.Obj.map (mpB x1)), (502, Tl.Obj.map (mp3 x2)), (2008, oc 3 (List.map (T.int .i64) zz))]⟩) (fun zz => J1 zz = some (y0, y1, y2)) ?_ ?_
  · -- to where they meet
    refine WP.seq ?_
    refine WP.path tab_ok mixed [] [.keep [14, 13, 12, 5, 4, 3], .keepO [500, 501, 502, 2008]] (ps := [(True)]) (e := .normal) (σ' := ⟨[2008, 500, 501, 502], [(14, vi 0), (13, vi ((List.length x0 : Nat) : Int)), (12, vl x0), (5, vo 2008 0), (4, V.t (T.nils)), (3, V.t (T.ptr [tl x3, ti x4]))], [(500, ov 104 [vl x0, V.mapr 501, V.mapr 502]), (501, Tl.Obj.map (mpB x1)), (502, Tl.Obj.map (mp3 x2)), (2008, oc 3 [])]⟩) (by kernel_rfl) ⟨trivial, trivial⟩ ?_
    refine WP.block ?_
    refine WP.wk [.keep [14, 13, 12, 5, 4, 3], .keepO [500, 501, 502, 2008], .names [(500, 500), (501, 501), (502, 502), (2008, 2008)]] (σ' := ⟨[500, 501, 502, 2008], [(14, vi 0), (13, vi ((List.length x0 : Nat) : Int)), (12, vl x0), (5, vo 2008 0), (4, V.t (T.nils)), (3, V.t (T.ptr [tl x3, ti x4]))], [(500, ov 104 [vl x0, V.mapr 501, V.mapr 502]), (501, Tl.Obj.map (mpB x1)), (502, Tl.Obj.map (mp3 x2)), (2008, oc 3 [])]⟩) (ps := []) (by kernel_rfl) trivial ?_
    refine WP.st (σ' := ⟨[500, 501, 502, 2008], [(14, vi (0 : Int)), (13, vi ((List.length x0 : Nat) : Int)), (12, vl x0), (5, vo 2008 (List.length ([] : List Int))), (4, V.t (T.nils)), (3, V.t (T.ptr [tl x3, ti x4]))], [(500, ov 104 [vl x0, V.mapr 501, V.mapr 502]), (501, Tl.Obj.map (mpB x1)), (502, Tl.Obj.map (mp3 x2)), (2008, oc 3 (List.map (T.int .i64) ([] : List Int)))]⟩) (by first | rfl | (simp only [tlS, tl, vl, vo, oc, ov, tbl, vbl, ty, vy] <;> rfl) | (simp <;> omega) | (simp []; done) | (rw [List.take_of_length_le (by simp [])] <;> rfl)) ?_
    refine WP.loop (α := Nat × (List Int) × Int) (fun zz => ⟨[500, 501, 502, 2008], [(14, vi zz.2.2), (13, vi ((List.length x0 : Nat) : Int)), (12, vl x0), (5, vo 2008 (List.length zz.2.1)), (4, V.t (T.nils)), (3, V.t (T.ptr [tl x3, ti x4]))], [(500, ov 104 [vl x0, V.mapr 501, V.mapr 502]), (501, Tl.Obj.map (mpB x1)), (502, Tl.Obj.map (mp3 x2)), (2008, oc 3 (List.map (T.int .i64) zz.2.1))]⟩) (fun zz => F_p_impl_race_choices_L1 x0 x3 x4 J1 zz.1 zz.2.1 zz.2.2 = some (y0, y1, y2)) (fun zz => zz.1) (fuel, ([] : List Int), (0 : Int)) h ?_
    rintro ⟨n, o8, v14⟩ h0
    have h := (show F_p_impl_race_choices_L1 x0 x3 x4 J1 n o8 v14 = some (y0, y1, y2) from h0)
    rcases n with _ | n
    · rw [F_p_impl_race_choices_L1] at h; cases h
    · rw [F_p_impl_race_choices_L1] at h
      refine WP.seq ?_
      refine WP.path tab_ok mixed [] [.keep [15, 14, 13, 12, 5, 4, 3], .keepO [500, 501, 502, 2008]] (ps := [(True)]) (e := .normal) (σ' := ⟨[500, 501, 502, 2008], [(15, vb (decide (v14 < ((List.length x0 : Nat) : Int)))), (14, vi v14), (13, vi ((List.length x0 : Nat) : Int)), (12, vl x0), (5, vo 2008 (List.length o8)), (4, V.t (T.nils)), (3, V.t (T.ptr [tl x3, ti x4]))], [(500, ov 104 [vl x0, V.mapr 501, V.mapr 502]), (501, Tl.Obj.map (mpB x1)), (502, Tl.Obj.map (mp3 x2)), (2008, oc 3 (List.map (T.int .i64) o8))]⟩) (by kernel_rfl) ⟨trivial, trivial⟩ ?_
      refine WP.seq ?_
      rcases ite_some h with ⟨h1, h⟩ | ⟨h1, h⟩
      · -- yes
        refine WP.cond (b := decide (v14 < ((List.length x0 : Nat) : Int))) rfl (fun _ => ?_) (fun hh => by rw [h1] at hh; cases hh)
        refine WP.path tab_ok mixed [] [.keep [14, 13, 12, 5, 4, 3], .keepO [500, 501, 502, 2008]] (ps := []) (e := .normal) (σ' := ⟨[500, 501, 502, 2008], [(14, vi v14), (13, vi ((List.length x0 : Nat) : Int)), (12, vl x0), (5, vo 2008 (List.length o8)), (4, V.t (T.nils)), (3, V.t (T.ptr [tl x3, ti x4]))], [(500, ov 104 [vl x0, V.mapr 501, V.mapr 502]), (501, Tl.Obj.map (mpB x1)), (502, Tl.Obj.map (mp3 x2)), (2008, oc 3 (List.map (T.int .i64) o8))]⟩) (by kernel_rfl) trivial ?_
        refine WP.seq ?_
        refine WP.block ?_
        refine WP.seq ?_
        obtain ⟨c0, h⟩ := chk_some h
        refine WP.path tab_ok mixed [(17, An.v (ti (List.getD x0 (Int.toNat v14) 0)))] [.keep [7, 14, 13, 12, 5, 4, 3], .keepO [500, 501, 502, 2008]] (ps := [((0 ≤ v14 ∧ v14 < ((List.length x0 : Nat) : Int))), ((List.drop ((Int.toNat v14) * 1) (List.map (T.int .i64) x0) : List T)[0]? = some (ti (List.getD x0 (Int.toNat v14) 0))), (ti (List.getD x0 (Int.toNat v14) 0) = ti (List.getD x0 (Int.toNat v14) 0))]) (e := .normal) (σ' := ⟨[500, 501, 502, 2008], [(7, vi (List.getD x0 (Int.toNat v14) 0)), (14, vi v14), (13, vi ((List.length x0 : Nat) : Int)), (12, vl x0), (5, vo 2008 (List.length o8)), (4, V.t (T.nils)), (3, V.t (T.ptr [tl x3, ti x4]))], [(500, ov 104 [vl x0, V.mapr 501, V.mapr 502]), (501, Tl.Obj.map (mpB x1)), (502, Tl.Obj.map (mp3 x2)), (2008, oc 3 (List.map (T.int .i64) o8))]⟩) (by kernel_rfl) ⟨c0, at1 (by simp) (by omega), rfl, trivial⟩ ?_
        refine WP.seq ?_
        obtain ⟨r20, c1, h⟩ := bnd1_some h
        refine WP.path tab_ok mixed [(20, An.call (tb r20))] [.keep [21, 7, 14, 13, 12, 5, 4, 3], .keepO [500, 501, 502, 2008]] (ps := [(2 ≤ 2), (C Try.prog 87 [T.agg [tl x3, ti x4], ti (List.getD x0 (Int.toNat v14) 0)] (tb r20))]) (e := .normal) (σ' := ⟨[500, 501, 502, 2008], [(21, vb !r20), (7, vi (List.getD x0 (Int.toNat v14) 0)), (14, vi v14), (13, vi ((List.length x0 : Nat) : Int)), (12, vl x0), (5, vo 2008 (List.length o8)), (4, V.t (T.nils)), (3, V.t (T.ptr [tl x3, ti x4]))], [(500, ov 104 [vl x0, V.mapr 501, V.mapr 502]), (501, Tl.Obj.map (mpB x1)), (502, Tl.Obj.map (mp3 x2)), (2008, oc 3 (List.map (T.int .i64) o8))]⟩) (by kernel_rfl) ⟨by decide, (F_impl_State_isVain_W x3 x4 (List.getD x0 (Int.toNat v14) 0) r20 c1), trivial⟩ ?_
        rcases ite_some h with ⟨h2, h⟩ | ⟨h2, h⟩
        · -- yes
          refine WP.cond (b := !r20) rfl (fun _ => ?_) (fun hh => by rw [h2] at hh; cases hh)
          obtain ⟨c2, h⟩ := chk_some h
          refine WP.path tab_ok mixed [(24, An.fz), (25, An.id 2025)] [.keep [5, 14, 13, 12, 4, 3], .keepO [500, 501, 502, 2025]] (ps := [((1 = 1 ∧ 0 + 1 ≤ 1) ∧ True), (1 = 1 * 1), (True), (List.length (List.map (T.int .i64) o8) = (List.length o8) * 1), ((((List.length o8) + 1) * 8 ≤ 140737488355328 ∧ (List.length o8) + 1 ≤ maxLen))]) (e := .normal) (σ' := ⟨[2025, 500, 501, 502, 2008], [(5, vo 2025 ((List.length o8) + 1)), (14, vi v14), (13, vi ((List.length x0 : Nat) : Int)), (12, vl x0), (4, V.t (T.nils)), (3, V.t (T.ptr [tl x3, ti x4]))], [(500, ov 104 [vl x0, V.mapr 501, V.mapr 502]), (501, Tl.Obj.map (mpB x1)), (502, Tl.Obj.map (mp3 x2)), (2025, oc 3 ((List.map (T.int .i64) o8) ++ [ti (List.getD x0 (Int.toNat v14) 0)]))]⟩) (by kernel_rfl) ⟨⟨⟨by first | rfl | (simp; done) | (simp []; done) | omega, by first | decide | (simp; done) | (simp []; done) | omega | (simp only [tlL]; omega) | (simp; omega)⟩, trivial⟩, by decide, trivial, by first | rfl | omega | (simp only [tlL] <;> omega) | (simp <;> omega) | (simp [] <;> omega), c2, trivial⟩ ?_
          obtain ⟨c3, h⟩ := chk_some h
          refine WP.path tab_ok mixed [(26, An.v (T.int .i64 (v14 + (1 : Int))))] [.keep [14, 13, 12, 5, 4, 3], .keepO [500, 501, 502, 2025], .names [(500, 500), (501, 501), (502, 502), (2025, 2008)]] (ps := [(True), (T.int .i64 (IntKind.wrap .i64 (v14 + (1 : Int))) = T.int .i64 (v14 + (1 : Int)))]) (e := .normal) (σ' := ⟨[500, 501, 502, 2008], [(14, vi (v14 + (1 : Int))), (13, vi ((List.length x0 : Nat) : Int)), (12, vl x0), (5, vo 2008 ((List.length o8) + 1)), (4, V.t (T.nils)), (3, V.t (T.ptr [tl x3, ti x4]))], [(500, ov 104 [vl x0, V.mapr 501, V.mapr 502]), (501, Tl.Obj.map (mpB x1)), (502, Tl.Obj.map (mp3 x2)), (2008, oc 3 ((List.map (T.int .i64) o8) ++ [ti (List.getD x0 (Int.toNat v14) 0)]))]⟩) (by kernel_rfl) ⟨trivial, wrapI c3, trivial⟩ ?_
          exact ⟨(n, o8 ++ [(List.getD x0 (Int.toNat v14) 0)], (v14 + (1 : Int))), h, Nat.lt_succ_self _, (by first | rfl | (simp only [tlS, tl, vl, vo, oc, ov, tbl, vbl, ty, vy] <;> rfl) | (simp <;> omega) | (simp []; done) | (rw [List.take_of_length_le (by simp [])] <;> rfl))⟩
        · -- no
          refine WP.cond (b := !r20) rfl (fun hh => by rw [h2] at hh; cases hh) (fun _ => ?_)
          refine WP.path tab_ok mixed [] [.keep [14, 13, 12, 5, 4, 3], .keepO [500, 501, 502, 2008]] (ps := []) (e := .normal) (σ' := ⟨[500, 501, 502, 2008], [(14, vi v14), (13, vi ((List.length x0 : Nat) : Int)), (12, vl x0), (5, vo 2008 (List.length o8)), (4, V.t (T.nils)), (3, V.t (T.ptr [tl x3, ti x4]))], [(500, ov 104 [vl x0, V.mapr 501, V.mapr 502]), (501, Tl.Obj.map (mpB x1)), (502, Tl.Obj.map (mp3 x2)), (2008, oc 3 (List.map (T.int .i64) o8))]⟩) (by kernel_rfl) trivial ?_
          obtain ⟨c2, h⟩ := chk_some h
          refine WP.path tab_ok mixed [(26, An.v (T.int .i64 (v14 + (1 : Int))))] [.keep [14, 13, 12, 5, 4, 3], .keepO [500, 501, 502, 2008], .names [(500, 500), (501, 501), (502, 502), (2008, 2008)]] (ps := [(True), (T.int .i64 (IntKind.wrap .i64 (v14 + (1 : Int))) = T.int .i64 (v14 + (1 : Int)))]) (e := .normal) (σ' := ⟨[500, 501, 502, 2008], [(14, vi (v14 + (1 : Int))), (13, vi ((List.length x0 : Nat) : Int)), (12, vl x0), (5, vo 2008 (List.length o8)), (4, V.t (T.nils)), (3, V.t (T.ptr [tl x3, ti x4]))], [(500, ov 104 [vl x0, V.mapr 501, V.mapr 502]), (501, Tl.Obj.map (mpB x1)), (502, Tl.Obj.map (mp3 x2)), (2008, oc 3 (List.map (T.int .i64) o8))]⟩) (by kernel_rfl) ⟨trivial, wrapI c2, trivial⟩ ?_
          exact ⟨(n, o8, (v14 + (1 : Int))), h, Nat.lt_succ_self _, rfl⟩
      · -- no
        refine WP.cond (b := decide (v14 < ((List.length x0 : Nat) : Int))) rfl (fun hh => by rw [h1] at hh; cases hh) (fun _ => ?_)
        refine WP.path tab_ok mixed [] [.keep [5, 4], .keepO [500, 501, 502, 2008], .names [(500, 500), (501, 501), (502, 502), (2008, 2008)]] (ps := []) (e := (.exit 0)) (σ' := ⟨[500, 501, 502, 2008], [(5, vo 2008 (List.length o8)), (4, V.t (T.nils))], [(500, ov 104 [vl x0, V.mapr 501, V.mapr 502]), (501, Tl.Obj.map (mpB x1)), (502, Tl.Obj.map (mp3 x2)), (2008, oc 3 (List.map (T.int .i64) o8))]⟩) (by kernel_rfl) trivial ?_
        exact ⟨(o8), h, rfl⟩
  · -- from there
    intro o8 h0
    have h := (show J1 o8 = some (y0, y1, y2) from h0)
    rw [hJ1] at h
    simp only [Option.some.injEq, Prod.mk.injEq] at h
    obtain ⟨rfl, rfl, rfl⟩ := h
    exact WP.pathG tab_ok mixed [] [.keep [4], .keepO [500, 501, 502, 2008], .names [(500, 500), (501, 501), (502, 502), (2008, 9000)]] [500, 501, 502, 9000] _ (r' := vo 9000 (List.length o8)) (ps := []) (r := vo 9000 (List.length o8)) (N := [500, 501, 502, 9000]) (O := [(500, ov 104 [vl x0, V.mapr 501, V.mapr 502]), (501, Tl.Obj.map (mpB x1)), (502, Tl.Obj.map (mp3 x2)), (9000, oc 3 (List.map (T.int .i64) o8))]) [] (by kernel_rfl) trivial ⟨rfl, trivial⟩ rfl rfl (fun _ h => h)
theorem F_impl_State_code_W (x0 : List Int) (x1 : Int) (y0 : Int) (h : F_impl_State_code x0 x1 = some y0) : C Try.prog 98 [T.agg [tl x0, ti x1]] (ti y0) := by
  unfold F_impl_State_code at h
  refine C.intro (tab := tab) tab_ok (fn := Try.f98) Try.func98 (by kernel_rfl) rfl (Nat.le_of_ble_eq_true rfl) ?_
  refine WP.seq ?_
  refine WP.path tab_ok mixed [(1, An.fz)] [.keep [2, 1], .keepO []] (ps := []) (e := .normal) (σ' := ⟨[], [(2, vi 0), (1, V.t (T.ptr [tl x0, ti x1]))], []⟩) (by kernel_rfl) trivial ?_
  refine WP.seq ?_
  refine WP.path tab_ok mixed [] [.keep [3, 2, 1], .keepO []] (ps := []) (e := .normal) (σ' := ⟨[], [(3, vi 0), (2, vi 0), (1, V.t (T.ptr [tl x0, ti x1]))], []⟩) (by kernel_rfl) trivial ?_
  obtain ⟨J1, hJ1, h⟩ := jn_some h
  refine WP.joinA (fun (zz : Int) => ⟨[], [(3, vi zz), (2, vi 0)], []⟩) (fun zz => J1 zz = some y0) ?_ ?_
  · -- to where they meet
    refine WP.seq ?_
    refine WP.path tab_ok mixed [] [.keep [9, 8, 7, 3, 2], .keepO []] (ps := [(True)]) (e := .normal) (σ' := ⟨[], [(9, vi 0), (8, vi ((List.length x0 : Nat) : Int)), (7, vl x0), (3, vi 0), (2, vi 0)], []⟩) (by kernel_rfl) ⟨trivial, trivial⟩ ?_
    refine WP.block ?_
    refine WP.wk [.keep [9, 8, 7, 3, 2], .keepO [], .names []] (σ' := ⟨[], [(9, vi 0), (8, vi ((List.length x0 : Nat) : Int)), (7, vl x0), (3, vi 0), (2, vi 0)], []⟩) (ps := []) (by kernel_rfl) trivial ?_
    refine WP.st (σ' := ⟨[], [(9, vi (0 : Int)), (8, vi ((List.length x0 : Nat) : Int)), (7, vl x0), (3, vi (0 : Int)), (2, vi 0)], []⟩) (by first | rfl | (simp only [tlS, tl, vl, vo, oc, ov, tbl, vbl, ty, vy] <;> rfl) | (simp <;> omega) | (simp []; done) | (rw [List.take_of_length_le (by simp [])] <;> rfl)) ?_
    refine WP.loop (α := Nat × Int × Int) (fun zz => ⟨[], [(9, vi zz.2.1), (8, vi ((List.length x0 : Nat) : Int)), (7, vl x0), (3, vi zz.2.2), (2, vi 0)], []⟩) (fun zz => F_impl_State_code_L1 x0 J1 zz.1 zz.2.1 zz.2.2 = some y0) (fun zz => zz.1) (fuel, (0 : Int), (0 : Int)) h ?_
    rintro ⟨n, v9, v3⟩ h0
    have h := (show F_impl_State_code_L1 x0 J1 n v9 v3 = some y0 from h0)
    rcases n with _ | n
    · rw [F_impl_State_code_L1] at h; cases h
    · rw [F_impl_State_code_L1] at h
      refine WP.seq ?_
      refine WP.path tab_ok mixed [] [.keep [10, 9, 8, 7, 3, 2], .keepO []] (ps := [(True)]) (e := .normal) (σ' := ⟨[], [(10, vb (decide (v9 < ((List.length x0 : Nat) : Int)))), (9, vi v9), (8, vi ((List.length x0 : Nat) : Int)), (7, vl x0), (3, vi v3), (2, vi 0)], []⟩) (by kernel_rfl) ⟨trivial, trivial⟩ ?_
      refine WP.seq ?_
      rcases ite_some h with ⟨h1, h⟩ | ⟨h1, h⟩
      · -- yes
        refine WP.cond (b := decide (v9 < ((List.length x0 : Nat) : Int))) rfl (fun _ => ?_) (fun hh => by rw [h1] at hh; cases hh)
        refine WP.path tab_ok mixed [] [.keep [9, 8, 7, 3, 2], .keepO []] (ps := []) (e := .normal) (σ' := ⟨[], [(9, vi v9), (8, vi ((List.length x0 : Nat) : Int)), (7, vl x0), (3, vi v3), (2, vi 0)], []⟩) (by kernel_rfl) trivial ?_
        refine WP.seq ?_
        refine WP.block ?_
        obtain ⟨c0, h⟩ := chk_some h
        obtain ⟨c1, h⟩ := chk_some h
        obtain ⟨c2, h⟩ := chk_some h
        obtain ⟨n16, c3, h⟩ := nam_some h
        obtain ⟨c4, h⟩ := chk_some h
        refine WP.path tab_ok mixed [(12, An.v (ti (List.getD x0 (Int.toNat v9) 0))), (14, An.v (T.int .i64 (v3 * (3 : Int)))), (16, An.v (ti n16)), (17, An.v (T.int .i64 (n16 + (1 : Int))))] [.keep [3, 9, 8, 7, 2], .keepO []] (ps := [((0 ≤ v9 ∧ v9 < ((List.length x0 : Nat) : Int))), ((List.drop ((Int.toNat v9) * 1) (List.map (T.int .i64) x0) : List T)[0]? = some (ti (List.getD x0 (Int.toNat v9) 0))), (ti (List.getD x0 (Int.toNat v9) 0) = ti (List.getD x0 (Int.toNat v9) 0)), (True), (T.int .i64 (IntKind.wrap .i64 (v3 * (3 : Int))) = T.int .i64 (v3 * (3 : Int))), (True), (T.int .i64 (IntKind.wrap .i64 ((v3 * (3 : Int)) + (List.getD x0 (Int.toNat v9) 0))) = ti n16), (True), (T.int .i64 (IntKind.wrap .i64 (n16 + (1 : Int))) = T.int .i64 (n16 + (1 : Int)))]) (e := .normal) (σ' := ⟨[], [(3, vi (n16 + (1 : Int))), (9, vi v9), (8, vi ((List.length x0 : Nat) : Int)), (7, vl x0), (2, vi 0)], []⟩) (by kernel_rfl) ⟨c0, at1 (by simp) (by omega), rfl, trivial, wrapI c1, trivial, Eq.trans (wrapI c2) (congrArg (ti) c3), trivial, wrapI c4, trivial⟩ ?_
        obtain ⟨c5, h⟩ := chk_some h
        refine WP.path tab_ok mixed [(18, An.v (T.int .i64 (v9 + (1 : Int))))] [.keep [9, 8, 7, 3, 2], .keepO [], .names []] (ps := [(True), (T.int .i64 (IntKind.wrap .i64 (v9 + (1 : Int))) = T.int .i64 (v9 + (1 : Int)))]) (e := .normal) (σ' := ⟨[], [(9, vi (v9 + (1 : Int))), (8, vi ((List.length x0 : Nat) : Int)), (7, vl x0), (3, vi (n16 + (1 : Int))), (2, vi 0)], []⟩) (by kernel_rfl) ⟨trivial, wrapI c5, trivial⟩ ?_
        exact ⟨(n, (v9 + (1 : Int)), (n16 + (1 : Int))), h, Nat.lt_succ_self _, rfl⟩
      · -- no
        refine WP.cond (b := decide (v9 < ((List.length x0 : Nat) : Int))) rfl (fun hh => by rw [h1] at hh; cases hh) (fun _ => ?_)
        refine WP.path tab_ok mixed [] [.keep [3, 2], .keepO [], .names []] (ps := []) (e := (.exit 0)) (σ' := ⟨[], [(3, vi v3), (2, vi 0)], []⟩) (by kernel_rfl) trivial ?_
        exact ⟨(v3), h, rfl⟩
  · -- from there
    intro v3 h0
    have h := (show J1 v3 = some y0 from h0)
    rw [hJ1] at h
    have h := Option.some.inj h
    subst h
    exact WP.pathW tab_ok mixed [] _ (ps := []) (r := ti v3) (by kernel_rfl) trivial (WkT.eq (y := ti v3) (WkT.refl _) rfl) (fun _ h => h)
theorem F_p_impl_race_span_B_W (self : (List Int) → (List (Int × Bool)) → (List (Int × Int × Int × Int)) → (List Int) → Int → Option (Int × Int × Int × (List (Int × Bool)) × (List (Int × Int × Int × Int)))) (hself : ∀ (x0 : List Int) (x1 : List (Int × Bool)) (x2 : List (Int × Int × Int × Int)) (x3 : List Int) (x4 : Int) (y0 : Int) (y1 : Int) (y2 : Int) (y3 : List (Int × Bool)) (y4 : List (Int × Int × Int × Int)), self x0 x1 x2 x3 x4 = some (y0, y1, y2, y3, y4) → CG Try.prog 97 [V.ref 500 0, V.t (T.agg [tl x3, ti x4])] [(500, ov 104 [vl x0, V.mapr 501, V.mapr 502]), (501, Tl.Obj.map (mpB x1)), (502, Tl.Obj.map (mp3 x2))] (V.t (T.agg [ti y0, ti y1, ti y2])) [(500, ov 104 [vl x0, V.mapr 501, V.mapr 502]), (501, Tl.Obj.map (mpB y3)), (502, Tl.Obj.map (mp3 y4))]) (x0 : List Int) (x1 : List (Int × Bool)) (x2 : List (Int × Int × Int × Int)) (x3 : List Int) (x4 : Int) (y0 : Int) (y1 : Int) (y2 : Int) (y3 : List (Int × Bool)) (y4 : List (Int × Int × Int × Int)) (h : F_p_impl_race_span_B self x0 x1 x2 x3 x4 = some (y0, y1, y2, y3, y4)) : CG Try.prog 97 [V.ref 500 0, V.t (T.agg [tl x3, ti x4])] [(500, ov 104 [vl x0, V.mapr 501, V.mapr 502]), (501, Tl.Obj.map (mpB x1)), (502, Tl.Obj.map (mp3 x2))] (V.t (T.agg [ti y0, ti y1, ti y2])) [(500, ov 104 [vl x0, V.mapr 501, V.mapr 502]), (501, Tl.Obj.map (mpB y3)), (502, Tl.Obj.map (mp3 y4))] := by
  unfold F_p_impl_race_span_B at h
  refine CG.intro (tab := tab) tab_ok (fn := Try.f97) Try.func97 (by kernel_rfl) rfl (Nat.le_of_ble_eq_true rfl) (by kernel_rfl) ?_
  refine WP.seq ?_
  refine WP.path tab_ok mixed [(3, An.fz), (4, An.id 2004)] [.keep [4, 3, 0], .keepO [500, 501, 502, 2004]] (ps := []) (e := .normal) (σ' := ⟨[2004, 500, 501, 502], [(4, V.ref 2004 0), (3, V.t (T.ptr [tl x3, ti x4])), (0, V.ref 500 0)], [(500, ov 104 [vl x0, V.mapr 501, V.mapr 502]), (501, Tl.Obj.map (mpB x1)), (502, Tl.Obj.map (mp3 x2)), (2004, oc 99 [ti 0, ti 0, ti 0])]⟩) (by kernel_rfl) trivial ?_
  refine WP.seq ?_
  obtain ⟨r16, r16b, r16c, c0, h⟩ := bnd3_some h
  refine WP.path tab_ok mixed [(16, An.callG [(500, 500), (501, 501), (502, 502), (9000, 10160)] [V.ref 500 0, V.t (T.agg [tl x3, ti x4])] [(500, ov 104 [vl x0, V.mapr 501, V.mapr 502]), (501, Tl.Obj.map (mpB x1)), (502, Tl.Obj.map (mp3 x2))] (vo 9000 (List.length r16)) [(500, ov 104 [vl x0, V.mapr 501, V.mapr 502]), (501, Tl.Obj.map (mpB r16b)), (502, Tl.Obj.map (mp3 r16c)), (9000, oc 3 (List.map (T.int .i64) r16))])] [.keep [5, 4, 3, 0], .keepO [500, 501, 502, 2004, 10160]] (ps := [(2 ≤ 2), (CG Try.prog 72 [V.ref 500 0, V.t (T.agg [tl x3, ti x4])] [(500, ov 104 [vl x0, V.mapr 501, V.mapr 502]), (501, Tl.Obj.map (mpB x1)), (502, Tl.Obj.map (mp3 x2))] (vo 9000 (List.length r16)) [(500, ov 104 [vl x0, V.mapr 501, V.mapr 502]), (501, Tl.Obj.map (mpB r16b)), (502, Tl.Obj.map (mp3 r16c)), (9000, oc 3 (List.map (T.int .i64) r16))]), ((V.ref 500 0).ren (renF [(500, 500), (501, 501), (502, 502), (9000, 10160)]) = V.ref 500 0), (WkT (T.agg [tl x3, ti x4]) (T.agg [tl x3, ti x4])), ((ov 104 [vl x0, V.mapr 501, V.mapr 502]) = (ov 104 [vl x0, V.mapr 501, V.mapr 502]).ren (renF [(500, 500), (501, 501), (502, 502), (9000, 10160)])), ((Tl.Obj.map (mpB x1)) = (Tl.Obj.map (mpB x1)).ren (renF [(500, 500), (501, 501), (502, 502), (9000, 10160)])), ((Tl.Obj.map (mp3 x2)) = (Tl.Obj.map (mp3 x2)).ren (renF [(500, 500), (501, 501), (502, 502), (9000, 10160)]))]) (e := .normal) (σ' := ⟨[10160, 2004, 500, 501, 502], [(5, vo 10160 (List.length r16)), (4, V.ref 2004 0), (3, V.t (T.ptr [tl x3, ti x4])), (0, V.ref 500 0)], [(500, ov 104 [vl x0, V.mapr 501, V.mapr 502]), (501, Tl.Obj.map (mpB r16b)), (502, Tl.Obj.map (mp3 r16c)), (2004, oc 99 [ti 0, ti 0, ti 0]), (10160, oc 3 (List.map (T.int .i64) r16))]⟩) (by kernel_rfl) ⟨by decide, (F_p_impl_race_choices_W x0 x1 x2 x3 x4 r16 r16b r16c c0), by first | rfl | (simp [V.ren, V.renL, renF, lk]; done) | (simp [V.ren, V.renL, renF, lk]; omega), WkT.refl _, by first | rfl | (simp only [tlS]; rfl) | (simp [Tl.Obj.ren, V.ren, V.renL, renF, lk]; done), by first | rfl | (simp only [tlS]; rfl) | (simp [Tl.Obj.ren, V.ren, V.renL, renF, lk]; done), by first | rfl | (simp only [tlS]; rfl) | (simp [Tl.Obj.ren, V.ren, V.renL, renF, lk]; done), trivial⟩ ?_
  refine WP.seq ?_
  obtain ⟨J1, hJ1, h⟩ := jn_some h
  refine WP.joinA (fun (zz : Bool) => ⟨[500, 501, 502, 2004, 10160], [(25, vb zz), (5, vo 10160 (List.length r16)), (4, V.ref 2004 0), (3, V.t (T.ptr [tl x3, ti x4])), (0, V.ref 500 0)], [(500, ov 104 [vl x0, V.mapr 501, V.mapr 502]), (501, Tl.Obj.map (mpB r16b)), (502, Tl.Obj.map (mp3 r16c)), (2004, oc 99 [ti 0, ti 0, ti 0]), (10160, oc 3 (List.map (T.int .i64) r16))]⟩) (fun zz => J1 zz = some (y0, y1, y2, y3, y4)) ?_ ?_
  · -- to where they meet
    obtain ⟨c1, h⟩ := chk_some h
    rcases ite_some h with ⟨h1, h⟩ | ⟨h1, h⟩
    · -- yes
      refine WP.path tab_ok mixed [(18, An.callG [(9000, 10180)] [V.t (T.agg [tl x3, ti x4])] [] (vo 9000 (List.length (openN x3))) [(9000, oc 3 (List.map (T.int .i64) (openN x3)))]), (20, An.b true)] [.keep [25, 5, 4, 3, 0], .keepO [500, 501, 502, 2004, 10160], .names [(500, 500), (501, 501), (502, 502), (2004, 2004), (10160, 10160)]] (ps := [(2 ≤ 2), (CG Try.prog 79 [V.t (T.agg [tl x3, ti x4])] [] (vo 9000 (List.length (openN x3))) [(9000, oc 3 (List.map (T.int .i64) (openN x3)))]), (WkT (T.agg [tl x3, ti x4]) (T.agg [tl x3, ti x4])), (True), ((decide (((List.length (openN x3) : Nat) : Int) < (2 : Int))) = true)]) (e := .normal) (σ' := ⟨[500, 501, 502, 2004, 10160], [(25, vb true), (5, vo 10160 (List.length r16)), (4, V.ref 2004 0), (3, V.t (T.ptr [tl x3, ti x4])), (0, V.ref 500 0)], [(500, ov 104 [vl x0, V.mapr 501, V.mapr 502]), (501, Tl.Obj.map (mpB r16b)), (502, Tl.Obj.map (mp3 r16c)), (2004, oc 99 [ti 0, ti 0, ti 0]), (10160, oc 3 (List.map (T.int .i64) r16))]⟩) (by kernel_rfl) ⟨by decide, (open_C_G x3 x4 c1), WkT.refl _, trivial, h1, trivial⟩ ?_
      exact ⟨(true), h, rfl⟩
    · -- no
      refine WP.path tab_ok mixed [(18, An.callG [(9000, 10180)] [V.t (T.agg [tl x3, ti x4])] [] (vo 9000 (List.length (openN x3))) [(9000, oc 3 (List.map (T.int .i64) (openN x3)))]), (20, An.b false)] [.keep [25, 5, 4, 3, 0], .keepO [500, 501, 502, 2004, 10160], .names [(500, 500), (501, 501), (502, 502), (2004, 2004), (10160, 10160)]] (ps := [(2 ≤ 2), (CG Try.prog 79 [V.t (T.agg [tl x3, ti x4])] [] (vo 9000 (List.length (openN x3))) [(9000, oc 3 (List.map (T.int .i64) (openN x3)))]), (WkT (T.agg [tl x3, ti x4]) (T.agg [tl x3, ti x4])), (True), ((decide (((List.length (openN x3) : Nat) : Int) < (2 : Int))) = false), (True)]) (e := .normal) (σ' := ⟨[500, 501, 502, 2004, 10160], [(25, vb (((List.length r16 : Nat) : Int) == (0 : Int))), (5, vo 10160 (List.length r16)), (4, V.ref 2004 0), (3, V.t (T.ptr [tl x3, ti x4])), (0, V.ref 500 0)], [(500, ov 104 [vl x0, V.mapr 501, V.mapr 502]), (501, Tl.Obj.map (mpB r16b)), (502, Tl.Obj.map (mp3 r16c)), (2004, oc 99 [ti 0, ti 0, ti 0]), (10160, oc 3 (List.map (T.int .i64) r16))]⟩) (by kernel_rfl) ⟨by decide, (open_C_G x3 x4 c1), WkT.refl _, trivial, h1, trivial, trivial⟩ ?_
      exact ⟨(((List.length r16 : Nat) : Int) == (0 : Int)), h, rfl⟩
  · -- from there
    intro v25 h0
    have h := (show J1 v25 = some (y0, y1, y2, y3, y4) from h0)
    rw [hJ1] at h
    rcases ite_some h with ⟨h2, h⟩ | ⟨h2, h⟩
    · -- yes
      refine WP.cond (b := v25) rfl (fun _ => ?_) (fun hh => by rw [h2] at hh; cases hh)
      simp only [Option.some.injEq, Prod.mk.injEq] at h
      obtain ⟨rfl, rfl, rfl, rfl, rfl⟩ := h
      exact WP.pathG tab_ok mixed [] [.keep [4], .keepO [500, 501, 502, 2004], .names [(500, 500), (501, 501), (502, 502), (2004, 2004)]] [500, 501, 502] _ (r' := V.t (T.agg [ti (0 : Int), ti (0 : Int), ti (1 : Int)])) (ps := [((1 = 1 ∧ 0 + 1 ≤ 3) ∧ (1 = 1 ∧ 1 + 1 ≤ 3) ∧ (1 = 1 ∧ 2 + 1 ≤ 3) ∧ True), ((0 + 3 ≤ 3 ∧ 3 = 3)), (0 + 3 ≤ 3)]) (r := V.t (T.agg [ti 0, ti 0, ti 1])) (N := [500, 501, 502, 2004]) (O := [(500, ov 104 [vl x0, V.mapr 501, V.mapr 502]), (501, Tl.Obj.map (mpB r16b)), (502, Tl.Obj.map (mp3 r16c))]) [] (by kernel_rfl) ⟨⟨⟨by first | rfl | (simp; done) | (simp []; done) | omega, by first | decide | (simp; done) | (simp []; done) | omega | (simp only [tlL]; omega) | (simp; omega)⟩, ⟨by first | rfl | (simp; done) | (simp []; done) | omega, by first | decide | (simp; done) | (simp []; done) | omega | (simp only [tlL]; omega) | (simp; omega)⟩, ⟨by first | rfl | (simp; done) | (simp []; done) | omega, by first | decide | (simp; done) | (simp []; done) | omega | (simp only [tlL]; omega) | (simp; omega)⟩, trivial⟩, by decide, by first | decide | omega | (simp only [tlL] <;> omega) | (simp <;> omega) | (simp [] <;> omega), trivial⟩ ⟨(WkT.agg (WkL.cons (WkT.eq (WkT.refl _) (by first | rfl | (simp only [tlS, tl, vl, vo, oc, ov, tbl, vbl, ty, vy] <;> rfl) | (simp <;> omega) | (simp []; done) | (rw [List.take_of_length_le (by simp [])] <;> rfl))) (WkL.cons (WkT.eq (WkT.refl _) (by first | rfl | (simp only [tlS, tl, vl, vo, oc, ov, tbl, vbl, ty, vy] <;> rfl) | (simp <;> omega) | (simp []; done) | (rw [List.take_of_length_le (by simp [])] <;> rfl))) (WkL.cons (WkT.eq (WkT.refl _) (by first | rfl | (simp only [tlS, tl, vl, vo, oc, ov, tbl, vbl, ty, vy] <;> rfl) | (simp <;> omega) | (simp []; done) | (rw [List.take_of_length_le (by simp [])] <;> rfl))) WkL.nil)))), trivial⟩ rfl rfl (fun _ h => h)
    · -- no
      refine WP.cond (b := v25) rfl (fun hh => by rw [h2] at hh; cases hh) (fun _ => ?_)
      refine WP.path tab_ok mixed [] [.keep [5, 4, 3, 0], .keepO [500, 501, 502, 2004, 10160]] (ps := []) (e := .normal) (σ' := ⟨[500, 501, 502, 2004, 10160], [(5, vo 10160 (List.length r16)), (4, V.ref 2004 0), (3, V.t (T.ptr [tl x3, ti x4])), (0, V.ref 500 0)], [(500, ov 104 [vl x0, V.mapr 501, V.mapr 502]), (501, Tl.Obj.map (mpB r16b)), (502, Tl.Obj.map (mp3 r16c)), (2004, oc 99 [ti 0, ti 0, ti 0]), (10160, oc 3 (List.map (T.int .i64) r16))]⟩) (by kernel_rfl) trivial ?_
      refine WP.seq ?_
      refine WP.seq ?_
      obtain ⟨r33, c1, h⟩ := bnd1_some h
      obtain ⟨g34, c2, h⟩ := nam_some h
      refine WP.path tab_ok mixed [(33, An.call (ti r33)), (34, An.v (T.tup [T.agg [ti ((Option.getD g34 ((0 : Int), (0 : Int), (0 : Int))).1), ti ((Option.getD g34 ((0 : Int), (0 : Int), (0 : Int))).2.1), ti ((Option.getD g34 ((0 : Int), (0 : Int), (0 : Int))).2.2)], tb (Option.isSome g34)])), (6, An.id 2006)] [.keep [7, 6, 5, 4, 3, 0], .keepO [500, 501, 502, 2004, 2006, 10160]] (ps := [(True), (2 ≤ 2), (C Try.prog 98 [T.agg [tl x3, ti x4]] (ti r33)), (∃ G, KeyRun Try.prog 3 G ∧ G (ti r33) ∧ ∀ x ∈ mp3 r16c, G x.1), ((lookR true (T.agg [ti 0, ti 0, ti 0]) (lookT (mp3 r16c) (ti r33))) = T.tup [T.agg [ti ((Option.getD g34 ((0 : Int), (0 : Int), (0 : Int))).1), ti ((Option.getD g34 ((0 : Int), (0 : Int), (0 : Int))).2.1), ti ((Option.getD g34 ((0 : Int), (0 : Int), (0 : Int))).2.2)], tb (Option.isSome g34)]), ((0 + 3 ≤ 3 ∧ 3 = 3))]) (e := .normal) (σ' := ⟨[2006, 500, 501, 502, 2004, 10160], [(7, vb (Option.isSome g34)), (6, V.ref 2006 0), (5, vo 10160 (List.length r16)), (4, V.ref 2004 0), (3, V.t (T.ptr [tl x3, ti x4])), (0, V.ref 500 0)], [(500, ov 104 [vl x0, V.mapr 501, V.mapr 502]), (501, Tl.Obj.map (mpB r16b)), (502, Tl.Obj.map (mp3 r16c)), (2004, oc 99 [ti 0, ti 0, ti 0]), (2006, oc 99 [ti ((Option.getD g34 ((0 : Int), (0 : Int), (0 : Int))).1), ti ((Option.getD g34 ((0 : Int), (0 : Int), (0 : Int))).2.1), ti ((Option.getD g34 ((0 : Int), (0 : Int), (0 : Int))).2.2)]), (10160, oc 3 (List.map (T.int .i64) r16))]⟩) (by kernel_rfl) ⟨trivial, by decide, (F_impl_State_code_W x3 x4 r33 c1), keys_map (g := fun e => T.agg [T.int .i64 e.1, T.int .i64 e.2.1, T.int .i64 e.2.2]) Try.underlying3 r16c r33, look_mp3_ok c2, by decide, trivial⟩ ?_
      refine WP.seq ?_
      refine WP.path tab_ok mixed [] [.keep [37, 6, 5, 4, 3, 0], .keepO [500, 501, 502, 2004, 2006, 10160]] (ps := []) (e := .normal) (σ' := ⟨[2006, 500, 501, 502, 2004, 10160], [(37, vb (Option.isSome g34)), (6, V.ref 2006 0), (5, vo 10160 (List.length r16)), (4, V.ref 2004 0), (3, V.t (T.ptr [tl x3, ti x4])), (0, V.ref 500 0)], [(500, ov 104 [vl x0, V.mapr 501, V.mapr 502]), (501, Tl.Obj.map (mpB r16b)), (502, Tl.Obj.map (mp3 r16c)), (2004, oc 99 [ti 0, ti 0, ti 0]), (2006, oc 99 [ti ((Option.getD g34 ((0 : Int), (0 : Int), (0 : Int))).1), ti ((Option.getD g34 ((0 : Int), (0 : Int), (0 : Int))).2.1), ti ((Option.getD g34 ((0 : Int), (0 : Int), (0 : Int))).2.2)]), (10160, oc 3 (List.map (T.int .i64) r16))]⟩) (by kernel_rfl) trivial ?_
      rcases ite_some h with ⟨h3, h⟩ | ⟨h3, h⟩
      · -- yes
        refine WP.cond (b := Option.isSome g34) rfl (fun _ => ?_) (fun hh => by rw [h3] at hh; cases hh)
        simp only [Option.some.injEq, Prod.mk.injEq] at h
        obtain ⟨rfl, rfl, rfl, rfl, rfl⟩ := h
        exact WP.pathG tab_ok mixed [] [.keep [4], .keepO [500, 501, 502, 2004], .names [(500, 500), (501, 501), (502, 502), (2004, 2004)]] [500, 501, 502] _ (r' := V.t (T.agg [ti ((Option.getD g34 ((0 : Int), (0 : Int), (0 : Int))).1), ti ((Option.getD g34 ((0 : Int), (0 : Int), (0 : Int))).2.1), ti ((Option.getD g34 ((0 : Int), (0 : Int), (0 : Int))).2.2)])) (ps := [(0 + 3 ≤ 3), ((0 + 3 ≤ 3 ∧ 3 = 3)), (0 + 3 ≤ 3)]) (r := V.t (T.agg [ti ((Option.getD g34 ((0 : Int), (0 : Int), (0 : Int))).1), ti ((Option.getD g34 ((0 : Int), (0 : Int), (0 : Int))).2.1), ti ((Option.getD g34 ((0 : Int), (0 : Int), (0 : Int))).2.2)])) (N := [500, 501, 502, 2004]) (O := [(500, ov 104 [vl x0, V.mapr 501, V.mapr 502]), (501, Tl.Obj.map (mpB r16b)), (502, Tl.Obj.map (mp3 r16c))]) [] (by kernel_rfl) ⟨by decide, by decide, by first | decide | omega | (simp only [tlL] <;> omega) | (simp <;> omega) | (simp [] <;> omega), trivial⟩ ⟨(WkT.refl _), trivial⟩ rfl rfl (fun _ h => h)
      · -- no
        refine WP.cond (b := Option.isSome g34) rfl (fun hh => by rw [h3] at hh; cases hh) (fun _ => ?_)
        refine WP.path tab_ok mixed [] [.keep [5, 4, 3, 0], .keepO [500, 501, 502, 2004, 10160]] (ps := []) (e := .normal) (σ' := ⟨[2006, 500, 501, 502, 2004, 10160], [(5, vo 10160 (List.length r16)), (4, V.ref 2004 0), (3, V.t (T.ptr [tl x3, ti x4])), (0, V.ref 500 0)], [(500, ov 104 [vl x0, V.mapr 501, V.mapr 502]), (501, Tl.Obj.map (mpB r16b)), (502, Tl.Obj.map (mp3 r16c)), (2004, oc 99 [ti 0, ti 0, ti 0]), (10160, oc 3 (List.map (T.int .i64) r16))]⟩) (by kernel_rfl) trivial ?_
        refine WP.seq ?_
        refine WP.path tab_ok mixed [(8, An.id 2008)] [.keep [8, 5, 4, 3, 0], .keepO [500, 501, 502, 2004, 2008, 10160]] (ps := [((1 = 1 ∧ 0 + 1 ≤ 3) ∧ (1 = 1 ∧ 1 + 1 ≤ 3) ∧ (1 = 1 ∧ 2 + 1 ≤ 3) ∧ True), ((0 + 3 ≤ 3 ∧ 3 = 3))]) (e := .normal) (σ' := ⟨[2008, 2006, 500, 501, 502, 2004, 10160], [(8, V.ref 2008 0), (5, vo 10160 (List.length r16)), (4, V.ref 2004 0), (3, V.t (T.ptr [tl x3, ti x4])), (0, V.ref 500 0)], [(500, ov 104 [vl x0, V.mapr 501, V.mapr 502]), (501, Tl.Obj.map (mpB r16b)), (502, Tl.Obj.map (mp3 r16c)), (2004, oc 99 [ti 0, ti 0, ti 0]), (2008, oc 99 [ti 0, ti (-1), ti 0]), (10160, oc 3 (List.map (T.int .i64) r16))]⟩) (by kernel_rfl) ⟨⟨⟨by first | rfl | (simp; done) | (simp []; done) | omega, by first | decide | (simp; done) | (simp []; done) | omega | (simp only [tlL]; omega) | (simp; omega)⟩, ⟨by first | rfl | (simp; done) | (simp []; done) | omega, by first | decide | (simp; done) | (simp []; done) | omega | (simp only [tlL]; omega) | (simp; omega)⟩, ⟨by first | rfl | (simp; done) | (simp []; done) | omega, by first | decide | (simp; done) | (simp []; done) | omega | (simp only [tlL]; omega) | (simp; omega)⟩, trivial⟩, by decide, trivial⟩ ?_
        obtain ⟨J1, hJ1, h⟩ := jn_some h
        refine WP.joinA (fun (zz : Int × Int × Int × (List (Int × Bool)) × (List (Int × Int × Int × Int))) => ⟨[500, 501, 502, 2004, 2008], [(8, V.ref 2008 0), (4, V.ref 2004 0), (3, V.t (T.ptr [tl x3, ti x4])), (0, V.ref 500 0)], [(500, ov 104 [vl x0, V.mapr 501, V.mapr 502]), (501, Tl.Obj.map (mpB zz.2.2.2.1)), (502, Tl.Obj.map (mp3 zz.2.2.2.2)), (2004, oc 99 [ti 0, ti 0, ti 0]), (2008, oc 99 [ti zz.1, ti zz.2.1, ti zz.2.2.1])]⟩) (fun zz => J1 zz.1 zz.2.1 zz.2.2.1 zz.2.2.2.1 zz.2.2.2.2 = some (y0, y1, y2, y3, y4)) ?_ ?_
        · -- to where they meet
          refine WP.seq ?_
          refine WP.path tab_ok mixed [] [.keep [42, 41, 40, 8, 4, 3, 0], .keepO [500, 501, 502, 2004, 2008, 10160]] (ps := []) (e := .normal) (σ' := ⟨[2008, 2006, 500, 501, 502, 2004, 10160], [(42, vi 0), (41, vi ((List.length r16 : Nat) : Int)), (40, vo 10160 (List.length r16)), (8, V.ref 2008 0), (4, V.ref 2004 0), (3, V.t (T.ptr [tl x3, ti x4])), (0, V.ref 500 0)], [(500, ov 104 [vl x0, V.mapr 501, V.mapr 502]), (501, Tl.Obj.map (mpB r16b)), (502, Tl.Obj.map (mp3 r16c)), (2004, oc 99 [ti 0, ti 0, ti 0]), (2008, oc 99 [ti 0, ti (-1), ti 0]), (10160, oc 3 (List.map (T.int .i64) r16))]⟩) (by kernel_rfl) trivial ?_
          refine WP.block ?_
          refine WP.wk [.keep [42, 41, 40, 8, 4, 3, 0], .keepO [500, 501, 502, 2004, 2008, 10160], .names [(500, 500), (501, 501), (502, 502), (2004, 2004), (2008, 2008), (10160, 10160)]] (σ' := ⟨[500, 501, 502, 2004, 2008, 10160], [(42, vi 0), (41, vi ((List.length r16 : Nat) : Int)), (40, vo 10160 (List.length r16)), (8, V.ref 2008 0), (4, V.ref 2004 0), (3, V.t (T.ptr [tl x3, ti x4])), (0, V.ref 500 0)], [(500, ov 104 [vl x0, V.mapr 501, V.mapr 502]), (501, Tl.Obj.map (mpB r16b)), (502, Tl.Obj.map (mp3 r16c)), (2004, oc 99 [ti 0, ti 0, ti 0]), (2008, oc 99 [ti 0, ti (-1), ti 0]), (10160, oc 3 (List.map (T.int .i64) r16))]⟩) (ps := []) (by kernel_rfl) trivial ?_
          refine WP.st (σ' := ⟨[500, 501, 502, 2004, 2008, 10160], [(42, vi (0 : Int)), (41, vi ((List.length r16 : Nat) : Int)), (40, vo 10160 (List.length r16)), (8, V.ref 2008 0), (4, V.ref 2004 0), (3, V.t (T.ptr [tl x3, ti x4])), (0, V.ref 500 0)], [(500, ov 104 [vl x0, V.mapr 501, V.mapr 502]), (501, Tl.Obj.map (mpB r16b)), (502, Tl.Obj.map (mp3 r16c)), (2004, oc 99 [ti 0, ti 0, ti 0]), (2008, oc 99 [ti (0 : Int), ti (-1 : Int), ti (0 : Int)]), (10160, oc 3 (List.map (T.int .i64) r16))]⟩) (by first | rfl | (simp only [tlS, tl, vl, vo, oc, ov, tbl, vbl, ty, vy] <;> rfl) | (simp <;> omega) | (simp []; done) | (rw [List.take_of_length_le (by simp [])] <;> rfl)) ?_
          refine WP.loop (α := Nat × Int × Int × Int × (List (Int × Bool)) × (List (Int × Int × Int × Int)) × Int) (fun zz => ⟨[500, 501, 502, 2004, 2008, 10160], [(42, vi zz.2.2.2.2.2.2), (41, vi ((List.length r16 : Nat) : Int)), (40, vo 10160 (List.length r16)), (8, V.ref 2008 0), (4, V.ref 2004 0), (3, V.t (T.ptr [tl x3, ti x4])), (0, V.ref 500 0)], [(500, ov 104 [vl x0, V.mapr 501, V.mapr 502]), (501, Tl.Obj.map (mpB zz.2.2.2.2.1)), (502, Tl.Obj.map (mp3 zz.2.2.2.2.2.1)), (2004, oc 99 [ti 0, ti 0, ti 0]), (2008, oc 99 [ti zz.2.1, ti zz.2.2.1, ti zz.2.2.2.1]), (10160, oc 3 (List.map (T.int .i64) r16))]⟩) (fun zz => F_p_impl_race_span_B_L1 x0 x3 x4 self r16 J1 zz.1 zz.2.1 zz.2.2.1 zz.2.2.2.1 zz.2.2.2.2.1 zz.2.2.2.2.2.1 zz.2.2.2.2.2.2 = some (y0, y1, y2, y3, y4)) (fun zz => zz.1) (fuel, (0 : Int), (-1 : Int), (0 : Int), r16b, r16c, (0 : Int)) h ?_
          rintro ⟨n, o8, o8b, o8c, o501, o502, v42⟩ h0
          have h := (show F_p_impl_race_span_B_L1 x0 x3 x4 self r16 J1 n o8 o8b o8c o501 o502 v42 = some (y0, y1, y2, y3, y4) from h0)
          rcases n with _ | n
          · rw [F_p_impl_race_span_B_L1] at h; cases h
          · rw [F_p_impl_race_span_B_L1] at h
            refine WP.seq ?_
            refine WP.path tab_ok mixed [] [.keep [43, 42, 41, 40, 8, 4, 3, 0], .keepO [500, 501, 502, 2004, 2008, 10160]] (ps := [(True)]) (e := .normal) (σ' := ⟨[500, 501, 502, 2004, 2008, 10160], [(43, vb (decide (v42 < ((List.length r16 : Nat) : Int)))), (42, vi v42), (41, vi ((List.length r16 : Nat) : Int)), (40, vo 10160 (List.length r16)), (8, V.ref 2008 0), (4, V.ref 2004 0), (3, V.t (T.ptr [tl x3, ti x4])), (0, V.ref 500 0)], [(500, ov 104 [vl x0, V.mapr 501, V.mapr 502]), (501, Tl.Obj.map (mpB o501)), (502, Tl.Obj.map (mp3 o502)), (2004, oc 99 [ti 0, ti 0, ti 0]), (2008, oc 99 [ti o8, ti o8b, ti o8c]), (10160, oc 3 (List.map (T.int .i64) r16))]⟩) (by kernel_rfl) ⟨trivial, trivial⟩ ?_
            refine WP.seq ?_
            rcases ite_some h with ⟨h4, h⟩ | ⟨h4, h⟩
            · -- yes
              refine WP.cond (b := decide (v42 < ((List.length r16 : Nat) : Int))) rfl (fun _ => ?_) (fun hh => by rw [h4] at hh; cases hh)
              refine WP.path tab_ok mixed [] [.keep [42, 41, 40, 8, 4, 3, 0], .keepO [500, 501, 502, 2004, 2008, 10160]] (ps := []) (e := .normal) (σ' := ⟨[500, 501, 502, 2004, 2008, 10160], [(42, vi v42), (41, vi ((List.length r16 : Nat) : Int)), (40, vo 10160 (List.length r16)), (8, V.ref 2008 0), (4, V.ref 2004 0), (3, V.t (T.ptr [tl x3, ti x4])), (0, V.ref 500 0)], [(500, ov 104 [vl x0, V.mapr 501, V.mapr 502]), (501, Tl.Obj.map (mpB o501)), (502, Tl.Obj.map (mp3 o502)), (2004, oc 99 [ti 0, ti 0, ti 0]), (2008, oc 99 [ti o8, ti o8b, ti o8c]), (10160, oc 3 (List.map (T.int .i64) r16))]⟩) (by kernel_rfl) trivial ?_
              obtain ⟨J2, hJ2, h⟩ := jn_some h
              refine WP.joinA (fun (zz : Int × Int × Int × (List (Int × Bool)) × (List (Int × Int × Int × Int))) => ⟨[500, 501, 502, 2004, 2008, 10160], [(42, vi v42), (41, vi ((List.length r16 : Nat) : Int)), (40, vo 10160 (List.length r16)), (8, V.ref 2008 0), (4, V.ref 2004 0), (3, V.t (T.ptr [tl x3, ti x4])), (0, V.ref 500 0)], [(500, ov 104 [vl x0, V.mapr 501, V.mapr 502]), (501, Tl.Obj.map (mpB zz.2.2.2.1)), (502, Tl.Obj.map (mp3 zz.2.2.2.2)), (2004, oc 99 [ti 0, ti 0, ti 0]), (2008, oc 99 [ti zz.1, ti zz.2.1, ti zz.2.2.1]), (10160, oc 3 (List.map (T.int .i64) r16))]⟩) (fun zz => J2 zz.1 zz.2.1 zz.2.2.1 zz.2.2.2.1 zz.2.2.2.2 = some (y0, y1, y2, y3, y4)) ?_ ?_
              · -- to where they meet
                refine WP.block ?_
                refine WP.seq ?_
                obtain ⟨c3, h⟩ := chk_some h
                refine WP.path tab_ok mixed [(45, An.v (ti (List.getD r16 (Int.toNat v42) 0)))] [.keep [10, 42, 41, 40, 8, 4, 3, 0], .keepO [500, 501, 502, 2004, 2008, 10160]] (ps := [((0 ≤ v42 ∧ v42 < ((List.length r16 : Nat) : Int))), ((List.map (T.int .i64) r16 : List T)[(Int.toNat v42) * 1]? = some (ti (List.getD r16 (Int.toNat v42) 0))), (ti (List.getD r16 (Int.toNat v42) 0) = ti (List.getD r16 (Int.toNat v42) 0))]) (e := .normal) (σ' := ⟨[500, 501, 502, 2004, 2008, 10160], [(10, vi (List.getD r16 (Int.toNat v42) 0)), (42, vi v42), (41, vi ((List.length r16 : Nat) : Int)), (40, vo 10160 (List.length r16)), (8, V.ref 2008 0), (4, V.ref 2004 0), (3, V.t (T.ptr [tl x3, ti x4])), (0, V.ref 500 0)], [(500, ov 104 [vl x0, V.mapr 501, V.mapr 502]), (501, Tl.Obj.map (mpB o501)), (502, Tl.Obj.map (mp3 o502)), (2004, oc 99 [ti 0, ti 0, ti 0]), (2008, oc 99 [ti o8, ti o8b, ti o8c]), (10160, oc 3 (List.map (T.int .i64) r16))]⟩) (by kernel_rfl) ⟨c3, atM (by simp) (by first | omega | (simp only [tlL]; omega) | (simp; omega)), rfl, trivial⟩ ?_
                refine WP.seq ?_
                obtain ⟨c4, h⟩ := chk_some h
                refine WP.path tab_ok mixed [(48, An.callG [(9000, 10480)] [V.t (T.agg [tl x3, ti x4]), vi (List.getD r16 (Int.toNat v42) 0)] [] (vo 9000 (List.length (fairN x4 (List.getD r16 (Int.toNat v42) 0) x3))) [(9000, oc 4 (List.map T.bool (fairN x4 (List.getD r16 (Int.toNat v42) 0) x3)))])] [.keep [50, 49, 48, 10, 42, 41, 40, 8, 4, 3, 0], .keepO [500, 501, 502, 2004, 2008, 10160, 10480]] (ps := [(2 ≤ 2), (CG Try.prog 77 [V.t (T.agg [tl x3, ti x4]), vi (List.getD r16 (Int.toNat v42) 0)] [] (vo 9000 (List.length (fairN x4 (List.getD r16 (Int.toNat v42) 0) x3))) [(9000, oc 4 (List.map T.bool (fairN x4 (List.getD r16 (Int.toNat v42) 0) x3)))]), (WkT (T.agg [tl x3, ti x4]) (T.agg [tl x3, ti x4])), (WkT (ti (List.getD r16 (Int.toNat v42) 0)) (ti (List.getD r16 (Int.toNat v42) 0)))]) (e := .normal) (σ' := ⟨[10480, 500, 501, 502, 2004, 2008, 10160], [(50, vi 0), (49, vi ((List.length (fairN x4 (List.getD r16 (Int.toNat v42) 0) x3) : Nat) : Int)), (48, vo 10480 (List.length (fairN x4 (List.getD r16 (Int.toNat v42) 0) x3))), (10, vi (List.getD r16 (Int.toNat v42) 0)), (42, vi v42), (41, vi ((List.length r16 : Nat) : Int)), (40, vo 10160 (List.length r16)), (8, V.ref 2008 0), (4, V.ref 2004 0), (3, V.t (T.ptr [tl x3, ti x4])), (0, V.ref 500 0)], [(500, ov 104 [vl x0, V.mapr 501, V.mapr 502]), (501, Tl.Obj.map (mpB o501)), (502, Tl.Obj.map (mp3 o502)), (2004, oc 99 [ti 0, ti 0, ti 0]), (2008, oc 99 [ti o8, ti o8b, ti o8c]), (10160, oc 3 (List.map (T.int .i64) r16)), (10480, oc 4 (List.map T.bool (fairN x4 (List.getD r16 (Int.toNat v42) 0) x3)))]⟩) (by kernel_rfl) ⟨by decide, (fair_C_G x3 x4 (List.getD r16 (Int.toNat v42) 0) c4), WkT.refl _, WkT.refl _, trivial⟩ ?_
                refine WP.block ?_
                refine WP.wk [.keep [50, 49, 48, 10, 42, 41, 40, 8, 4, 3, 0], .keepO [500, 501, 502, 2004, 2008, 10160, 10480], .names [(500, 500), (501, 501), (502, 502), (2004, 2004), (2008, 2008), (10160, 10160), (10480, 10480)]] (σ' := ⟨[500, 501, 502, 2004, 2008, 10160, 10480], [(50, vi 0), (49, vi ((List.length (fairN x4 (List.getD r16 (Int.toNat v42) 0) x3) : Nat) : Int)), (48, vo 10480 (List.length (fairN x4 (List.getD r16 (Int.toNat v42) 0) x3))), (10, vi (List.getD r16 (Int.toNat v42) 0)), (42, vi v42), (41, vi ((List.length r16 : Nat) : Int)), (40, vo 10160 (List.length r16)), (8, V.ref 2008 0), (4, V.ref 2004 0), (3, V.t (T.ptr [tl x3, ti x4])), (0, V.ref 500 0)], [(500, ov 104 [vl x0, V.mapr 501, V.mapr 502]), (501, Tl.Obj.map (mpB o501)), (502, Tl.Obj.map (mp3 o502)), (2004, oc 99 [ti 0, ti 0, ti 0]), (2008, oc 99 [ti o8, ti o8b, ti o8c]), (10160, oc 3 (List.map (T.int .i64) r16)), (10480, oc 4 (List.map T.bool (fairN x4 (List.getD r16 (Int.toNat v42) 0) x3)))]⟩) (ps := []) (by kernel_rfl) trivial ?_
                refine WP.st (σ' := ⟨[500, 501, 502, 2004, 2008, 10160, 10480], [(50, vi (0 : Int)), (49, vi ((List.length (fairN x4 (List.getD r16 (Int.toNat v42) 0) x3) : Nat) : Int)), (48, vo 10480 (List.length (fairN x4 (List.getD r16 (Int.toNat v42) 0) x3))), (10, vi (List.getD r16 (Int.toNat v42) 0)), (42, vi v42), (41, vi ((List.length r16 : Nat) : Int)), (40, vo 10160 (List.length r16)), (8, V.ref 2008 0), (4, V.ref 2004 0), (3, V.t (T.ptr [tl x3, ti x4])), (0, V.ref 500 0)], [(500, ov 104 [vl x0, V.mapr 501, V.mapr 502]), (501, Tl.Obj.map (mpB o501)), (502, Tl.Obj.map (mp3 o502)), (2004, oc 99 [ti 0, ti 0, ti 0]), (2008, oc 99 [ti o8, ti o8b, ti o8c]), (10160, oc 3 (List.map (T.int .i64) r16)), (10480, oc 4 (List.map T.bool (fairN x4 (List.getD r16 (Int.toNat v42) 0) x3)))]⟩) (by first | rfl | (simp only [tlS, tl, vl, vo, oc, ov, tbl, vbl, ty, vy] <;> rfl) | (simp <;> omega) | (simp []; done) | (rw [List.take_of_length_le (by simp [])] <;> rfl)) ?_
                refine WP.loop (α := Nat × Int × Int × Int × (List (Int × Bool)) × (List (Int × Int × Int × Int)) × Int) (fun zz => ⟨[500, 501, 502, 2004, 2008, 10160, 10480], [(50, vi zz.2.2.2.2.2.2), (49, vi ((List.length (fairN x4 (List.getD r16 (Int.toNat v42) 0) x3) : Nat) : Int)), (48, vo 10480 (List.length (fairN x4 (List.getD r16 (Int.toNat v42) 0) x3))), (10, vi (List.getD r16 (Int.toNat v42) 0)), (42, vi v42), (41, vi ((List.length r16 : Nat) : Int)), (40, vo 10160 (List.length r16)), (8, V.ref 2008 0), (4, V.ref 2004 0), (3, V.t (T.ptr [tl x3, ti x4])), (0, V.ref 500 0)], [(500, ov 104 [vl x0, V.mapr 501, V.mapr 502]), (501, Tl.Obj.map (mpB zz.2.2.2.2.1)), (502, Tl.Obj.map (mp3 zz.2.2.2.2.2.1)), (2004, oc 99 [ti 0, ti 0, ti 0]), (2008, oc 99 [ti zz.2.1, ti zz.2.2.1, ti zz.2.2.2.1]), (10160, oc 3 (List.map (T.int .i64) r16)), (10480, oc 4 (List.map T.bool (fairN x4 (List.getD r16 (Int.toNat v42) 0) x3)))]⟩) (fun zz => F_p_impl_race_span_B_L2 x0 x3 x4 self r16 v42 J2 zz.1 zz.2.1 zz.2.2.1 zz.2.2.2.1 zz.2.2.2.2.1 zz.2.2.2.2.2.1 zz.2.2.2.2.2.2 = some (y0, y1, y2, y3, y4)) (fun zz => zz.1) (fuel, o8, o8b, o8c, o501, o502, (0 : Int)) h ?_
                rintro ⟨n, o8d, o8e, o8g, o501b, o502b, v50⟩ h0
                have h := (show F_p_impl_race_span_B_L2 x0 x3 x4 self r16 v42 J2 n o8d o8e o8g o501b o502b v50 = some (y0, y1, y2, y3, y4) from h0)
                rcases n with _ | n
                · rw [F_p_impl_race_span_B_L2] at h; cases h
                · rw [F_p_impl_race_span_B_L2] at h
                  refine WP.seq ?_
                  refine WP.path tab_ok mixed [] [.keep [51, 50, 49, 48, 10, 42, 41, 40, 8, 4, 3, 0], .keepO [500, 501, 502, 2004, 2008, 10160, 10480]] (ps := [(True)]) (e := .normal) (σ' := ⟨[500, 501, 502, 2004, 2008, 10160, 10480], [(51, vb (decide (v50 < ((List.length (fairN x4 (List.getD r16 (Int.toNat v42) 0) x3) : Nat) : Int)))), (50, vi v50), (49, vi ((List.length (fairN x4 (List.getD r16 (Int.toNat v42) 0) x3) : Nat) : Int)), (48, vo 10480 (List.length (fairN x4 (List.getD r16 (Int.toNat v42) 0) x3))), (10, vi (List.getD r16 (Int.toNat v42) 0)), (42, vi v42), (41, vi ((List.length r16 : Nat) : Int)), (40, vo 10160 (List.length r16)), (8, V.ref 2008 0), (4, V.ref 2004 0), (3, V.t (T.ptr [tl x3, ti x4])), (0, V.ref 500 0)], [(500, ov 104 [vl x0, V.mapr 501, V.mapr 502]), (501, Tl.Obj.map (mpB o501b)), (502, Tl.Obj.map (mp3 o502b)), (2004, oc 99 [ti 0, ti 0, ti 0]), (2008, oc 99 [ti o8d, ti o8e, ti o8g]), (10160, oc 3 (List.map (T.int .i64) r16)), (10480, oc 4 (List.map T.bool (fairN x4 (List.getD r16 (Int.toNat v42) 0) x3)))]⟩) (by kernel_rfl) ⟨trivial, trivial⟩ ?_
                  refine WP.seq ?_
                  rcases ite_some h with ⟨h5, h⟩ | ⟨h5, h⟩
                  · -- yes
                    refine WP.cond (b := decide (v50 < ((List.length (fairN x4 (List.getD r16 (Int.toNat v42) 0) x3) : Nat) : Int))) rfl (fun _ => ?_) (fun hh => by rw [h5] at hh; cases hh)
                    refine WP.path tab_ok mixed [] [.keep [50, 49, 48, 10, 42, 41, 40, 8, 4, 3, 0], .keepO [500, 501, 502, 2004, 2008, 10160, 10480]] (ps := []) (e := .normal) (σ' := ⟨[500, 501, 502, 2004, 2008, 10160, 10480], [(50, vi v50), (49, vi ((List.length (fairN x4 (List.getD r16 (Int.toNat v42) 0) x3) : Nat) : Int)), (48, vo 10480 (List.length (fairN x4 (List.getD r16 (Int.toNat v42) 0) x3))), (10, vi (List.getD r16 (Int.toNat v42) 0)), (42, vi v42), (41, vi ((List.length r16 : Nat) : Int)), (40, vo 10160 (List.length r16)), (8, V.ref 2008 0), (4, V.ref 2004 0), (3, V.t (T.ptr [tl x3, ti x4])), (0, V.ref 500 0)], [(500, ov 104 [vl x0, V.mapr 501, V.mapr 502]), (501, Tl.Obj.map (mpB o501b)), (502, Tl.Obj.map (mp3 o502b)), (2004, oc 99 [ti 0, ti 0, ti 0]), (2008, oc 99 [ti o8d, ti o8e, ti o8g]), (10160, oc 3 (List.map (T.int .i64) r16)), (10480, oc 4 (List.map T.bool (fairN x4 (List.getD r16 (Int.toNat v42) 0) x3)))]⟩) (by kernel_rfl) trivial ?_
                    refine WP.seq ?_
                    refine WP.block ?_
                    refine WP.seq ?_
                    obtain ⟨c5, h⟩ := chk_some h
                    refine WP.path tab_ok mixed [(53, An.v (tb (List.getD (fairN x4 (List.getD r16 (Int.toNat v42) 0) x3) (Int.toNat v50) false)))] [.keep [12, 50, 49, 48, 10, 42, 41, 40, 8, 4, 3, 0], .keepO [500, 501, 502, 2004, 2008, 10160, 10480]] (ps := [((0 ≤ v50 ∧ v50 < ((List.length (fairN x4 (List.getD r16 (Int.toNat v42) 0) x3) : Nat) : Int))), ((List.map T.bool (fairN x4 (List.getD r16 (Int.toNat v42) 0) x3) : List T)[(Int.toNat v50) * 1]? = some (tb (List.getD (fairN x4 (List.getD r16 (Int.toNat v42) 0) x3) (Int.toNat v50) false))), (tb (List.getD (fairN x4 (List.getD r16 (Int.toNat v42) 0) x3) (Int.toNat v50) false) = tb (List.getD (fairN x4 (List.getD r16 (Int.toNat v42) 0) x3) (Int.toNat v50) false))]) (e := .normal) (σ' := ⟨[500, 501, 502, 2004, 2008, 10160, 10480], [(12, vb (List.getD (fairN x4 (List.getD r16 (Int.toNat v42) 0) x3) (Int.toNat v50) false)), (50, vi v50), (49, vi ((List.length (fairN x4 (List.getD r16 (Int.toNat v42) 0) x3) : Nat) : Int)), (48, vo 10480 (List.length (fairN x4 (List.getD r16 (Int.toNat v42) 0) x3))), (10, vi (List.getD r16 (Int.toNat v42) 0)), (42, vi v42), (41, vi ((List.length r16 : Nat) : Int)), (40, vo 10160 (List.length r16)), (8, V.ref 2008 0), (4, V.ref 2004 0), (3, V.t (T.ptr [tl x3, ti x4])), (0, V.ref 500 0)], [(500, ov 104 [vl x0, V.mapr 501, V.mapr 502]), (501, Tl.Obj.map (mpB o501b)), (502, Tl.Obj.map (mp3 o502b)), (2004, oc 99 [ti 0, ti 0, ti 0]), (2008, oc 99 [ti o8d, ti o8e, ti o8g]), (10160, oc 3 (List.map (T.int .i64) r16)), (10480, oc 4 (List.map T.bool (fairN x4 (List.getD r16 (Int.toNat v42) 0) x3)))]⟩) (by kernel_rfl) ⟨c5, atM (by simp) (by first | omega | (simp only [tlL]; omega) | (simp; omega)), rfl, trivial⟩ ?_
                    refine WP.seq ?_
                    obtain ⟨r60, r60b, r60c, r60d, r60e, c6, h⟩ := bnd5_some h
                    refine WP.path tab_ok mixed [(59, An.call (T.agg [tl (ansN x4 (List.getD r16 (Int.toNat v42) 0) (List.getD (fairN x4 (List.getD r16 (Int.toNat v42) 0) x3) (Int.toNat v50) false) x3), ti x4])), (60, An.callG [(500, 500), (501, 501), (502, 502)] [V.ref 500 0, V.t (T.agg [tl (ansN x4 (List.getD r16 (Int.toNat v42) 0) (List.getD (fairN x4 (List.getD r16 (Int.toNat v42) 0) x3) (Int.toNat v50) false) x3), ti x4])] [(500, ov 104 [vl x0, V.mapr 501, V.mapr 502]), (501, Tl.Obj.map (mpB o501b)), (502, Tl.Obj.map (mp3 o502b))] (V.t (T.agg [ti r60, ti r60b, ti r60c])) [(500, ov 104 [vl x0, V.mapr 501, V.mapr 502]), (501, Tl.Obj.map (mpB r60d)), (502, Tl.Obj.map (mp3 r60e))]), (13, An.id 2013)] [.keep [13, 50, 49, 48, 10, 42, 41, 40, 8, 4, 3, 0], .keepO [500, 501, 502, 2004, 2008, 2013, 10160, 10480]] (ps := [(2 ≤ 2), ((1 = 1 ∧ 0 + 1 ≤ 2) ∧ (1 = 1 ∧ 1 + 1 ≤ 2) ∧ True), (C Try.prog 78 [T.agg [tl x3, ti x4], T.agg [ti (List.getD r16 (Int.toNat v42) 0), tb (List.getD (fairN x4 (List.getD r16 (Int.toNat v42) 0) x3) (Int.toNat v50) false)]] (T.agg [tl (ansN x4 (List.getD r16 (Int.toNat v42) 0) (List.getD (fairN x4 (List.getD r16 (Int.toNat v42) 0) x3) (Int.toNat v50) false) x3), ti x4])), (CG Try.prog 97 [V.ref 500 0, V.t (T.agg [tl (ansN x4 (List.getD r16 (Int.toNat v42) 0) (List.getD (fairN x4 (List.getD r16 (Int.toNat v42) 0) x3) (Int.toNat v50) false) x3), ti x4])] [(500, ov 104 [vl x0, V.mapr 501, V.mapr 502]), (501, Tl.Obj.map (mpB o501b)), (502, Tl.Obj.map (mp3 o502b))] (V.t (T.agg [ti r60, ti r60b, ti r60c])) [(500, ov 104 [vl x0, V.mapr 501, V.mapr 502]), (501, Tl.Obj.map (mpB r60d)), (502, Tl.Obj.map (mp3 r60e))]), ((V.ref 500 0).ren (renF [(500, 500), (501, 501), (502, 502)]) = V.ref 500 0), (WkT (T.agg [tl (ansN x4 (List.getD r16 (Int.toNat v42) 0) (List.getD (fairN x4 (List.getD r16 (Int.toNat v42) 0) x3) (Int.toNat v50) false) x3), ti x4]) (T.agg [tl (ansN x4 (List.getD r16 (Int.toNat v42) 0) (List.getD (fairN x4 (List.getD r16 (Int.toNat v42) 0) x3) (Int.toNat v50) false) x3), ti x4])), ((ov 104 [vl x0, V.mapr 501, V.mapr 502]) = (ov 104 [vl x0, V.mapr 501, V.mapr 502]).ren (renF [(500, 500), (501, 501), (502, 502)])), ((Tl.Obj.map (mpB o501b)) = (Tl.Obj.map (mpB o501b)).ren (renF [(500, 500), (501, 501), (502, 502)])), ((Tl.Obj.map (mp3 o502b)) = (Tl.Obj.map (mp3 o502b)).ren (renF [(500, 500), (501, 501), (502, 502)])), ((0 + 3 ≤ 3 ∧ 3 = 3))]) (e := .normal) (σ' := ⟨[2013, 500, 501, 502, 2004, 2008, 10160, 10480], [(13, V.ref 2013 0), (50, vi v50), (49, vi ((List.length (fairN x4 (List.getD r16 (Int.toNat v42) 0) x3) : Nat) : Int)), (48, vo 10480 (List.length (fairN x4 (List.getD r16 (Int.toNat v42) 0) x3))), (10, vi (List.getD r16 (Int.toNat v42) 0)), (42, vi v42), (41, vi ((List.length r16 : Nat) : Int)), (40, vo 10160 (List.length r16)), (8, V.ref 2008 0), (4, V.ref 2004 0), (3, V.t (T.ptr [tl x3, ti x4])), (0, V.ref 500 0)], [(500, ov 104 [vl x0, V.mapr 501, V.mapr 502]), (501, Tl.Obj.map (mpB r60d)), (502, Tl.Obj.map (mp3 r60e)), (2004, oc 99 [ti 0, ti 0, ti 0]), (2008, oc 99 [ti o8d, ti o8e, ti o8g]), (2013, oc 99 [ti r60, ti r60b, ti r60c]), (10160, oc 3 (List.map (T.int .i64) r16)), (10480, oc 4 (List.map T.bool (fairN x4 (List.getD r16 (Int.toNat v42) 0) x3)))]⟩) (by kernel_rfl) ⟨by decide, ⟨⟨by first | rfl | (simp; done) | (simp []; done) | omega, by first | decide | (simp; done) | (simp []; done) | omega | (simp only [tlL]; omega) | (simp; omega)⟩, ⟨by first | rfl | (simp; done) | (simp []; done) | omega, by first | decide | (simp; done) | (simp []; done) | omega | (simp only [tlL]; omega) | (simp; omega)⟩, trivial⟩, (answered_C x3 x4 (List.getD r16 (Int.toNat v42) 0) (List.getD (fairN x4 (List.getD r16 (Int.toNat v42) 0) x3) (Int.toNat v50) false) c4), (hself x0 o501b o502b (ansN x4 (List.getD r16 (Int.toNat v42) 0) (List.getD (fairN x4 (List.getD r16 (Int.toNat v42) 0) x3) (Int.toNat v50) false) x3) x4 r60 r60b r60c r60d r60e c6), by first | rfl | (simp [V.ren, V.renL, renF, lk]; done) | (simp [V.ren, V.renL, renF, lk]; omega), WkT.refl _, by first | rfl | (simp only [tlS]; rfl) | (simp [Tl.Obj.ren, V.ren, V.renL, renF, lk]; done), by first | rfl | (simp only [tlS]; rfl) | (simp [Tl.Obj.ren, V.ren, V.renL, renF, lk]; done), by first | rfl | (simp only [tlS]; rfl) | (simp [Tl.Obj.ren, V.ren, V.renL, renF, lk]; done), by decide, trivial⟩ ?_
                    refine WP.seq ?_
                    obtain ⟨c7, h⟩ := chk_some h
                    refine WP.path tab_ok mixed [(65, An.v (T.int .i64 (r60 + (1 : Int))))] [.keep [13, 50, 49, 48, 10, 42, 41, 40, 8, 4, 3, 0], .keepO [500, 501, 502, 2004, 2008, 2013, 10160, 10480]] (ps := [((0 ≤ (0 : Int) ∧ (0 : Int) < (3 : Int))), (True), ((0 ≤ (0 : Int) ∧ (0 : Int) < (3 : Int))), (True), (True), (T.int .i64 (IntKind.wrap .i64 (r60 + (1 : Int))) = T.int .i64 (r60 + (1 : Int))), ((0 ≤ (0 : Int) ∧ (0 : Int) < (3 : Int))), (0 < 3)]) (e := .normal) (σ' := ⟨[2013, 500, 501, 502, 2004, 2008, 10160, 10480], [(13, V.ref 2013 0), (50, vi v50), (49, vi ((List.length (fairN x4 (List.getD r16 (Int.toNat v42) 0) x3) : Nat) : Int)), (48, vo 10480 (List.length (fairN x4 (List.getD r16 (Int.toNat v42) 0) x3))), (10, vi (List.getD r16 (Int.toNat v42) 0)), (42, vi v42), (41, vi ((List.length r16 : Nat) : Int)), (40, vo 10160 (List.length r16)), (8, V.ref 2008 0), (4, V.ref 2004 0), (3, V.t (T.ptr [tl x3, ti x4])), (0, V.ref 500 0)], [(500, ov 104 [vl x0, V.mapr 501, V.mapr 502]), (501, Tl.Obj.map (mpB r60d)), (502, Tl.Obj.map (mp3 r60e)), (2004, oc 99 [ti 0, ti 0, ti 0]), (2008, oc 99 [ti (max o8d (r60 + (1 : Int))), ti o8e, ti o8g]), (2013, oc 99 [ti r60, ti r60b, ti r60c]), (10160, oc 3 (List.map (T.int .i64) r16)), (10480, oc 4 (List.map T.bool (fairN x4 (List.getD r16 (Int.toNat v42) 0) x3)))]⟩) (by kernel_rfl) ⟨by decide, trivial, by decide, trivial, trivial, wrapI c7, by decide, by decide, trivial⟩ ?_
                    obtain ⟨J3, hJ3, h⟩ := jn_some h
                    refine WP.joinA (fun (zz : Int) => ⟨[500, 501, 502, 2004, 2008, 2013, 10160, 10480], [(13, V.ref 2013 0), (50, vi v50), (49, vi ((List.length (fairN x4 (List.getD r16 (Int.toNat v42) 0) x3) : Nat) : Int)), (48, vo 10480 (List.length (fairN x4 (List.getD r16 (Int.toNat v42) 0) x3))), (10, vi (List.getD r16 (Int.toNat v42) 0)), (42, vi v42), (41, vi ((List.length r16 : Nat) : Int)), (40, vo 10160 (List.length r16)), (8, V.ref 2008 0), (4, V.ref 2004 0), (3, V.t (T.ptr [tl x3, ti x4])), (0, V.ref 500 0)], [(500, ov 104 [vl x0, V.mapr 501, V.mapr 502]), (501, Tl.Obj.map (mpB r60d)), (502, Tl.Obj.map (mp3 r60e)), (2004, oc 99 [ti 0, ti 0, ti 0]), (2008, oc 99 [ti (max o8d (r60 + (1 : Int))), ti zz, ti o8g]), (2013, oc 99 [ti r60, ti r60b, ti r60c]), (10160, oc 3 (List.map (T.int .i64) r16)), (10480, oc 4 (List.map T.bool (fairN x4 (List.getD r16 (Int.toNat v42) 0) x3)))]⟩) (fun zz => J3 zz = some (y0, y1, y2, y3, y4)) ?_ ?_
                    · -- to where they meet
                      obtain ⟨J4, hJ4, h⟩ := jn_some h
                      refine WP.joinA (fun (zz : Bool) => ⟨[500, 501, 502, 2004, 2008, 2013, 10160, 10480], [(78, vb zz), (13, V.ref 2013 0), (50, vi v50), (49, vi ((List.length (fairN x4 (List.getD r16 (Int.toNat v42) 0) x3) : Nat) : Int)), (48, vo 10480 (List.length (fairN x4 (List.getD r16 (Int.toNat v42) 0) x3))), (10, vi (List.getD r16 (Int.toNat v42) 0)), (42, vi v42), (41, vi ((List.length r16 : Nat) : Int)), (40, vo 10160 (List.length r16)), (8, V.ref 2008 0), (4, V.ref 2004 0), (3, V.t (T.ptr [tl x3, ti x4])), (0, V.ref 500 0)], [(500, ov 104 [vl x0, V.mapr 501, V.mapr 502]), (501, Tl.Obj.map (mpB r60d)), (502, Tl.Obj.map (mp3 r60e)), (2004, oc 99 [ti 0, ti 0, ti 0]), (2008, oc 99 [ti (max o8d (r60 + (1 : Int))), ti o8e, ti o8g]), (2013, oc 99 [ti r60, ti r60b, ti r60c]), (10160, oc 3 (List.map (T.int .i64) r16)), (10480, oc 4 (List.map T.bool (fairN x4 (List.getD r16 (Int.toNat v42) 0) x3)))]⟩) (fun zz => J4 zz = some (y0, y1, y2, y3, y4)) ?_ ?_
                      · -- to where they meet
                        rcases ite_some h with ⟨h6, h⟩ | ⟨h6, h⟩
                        · -- yes
                          refine WP.path tab_ok mixed [(70, An.b true)] [.keep [78, 13, 50, 49, 48, 10, 42, 41, 40, 8, 4, 3, 0], .keepO [500, 501, 502, 2004, 2008, 2013, 10160, 10480], .names [(500, 500), (501, 501), (502, 502), (2004, 2004), (2008, 2008), (2013, 2013), (10160, 10160), (10480, 10480)]] (ps := [((0 ≤ (1 : Int) ∧ (1 : Int) < (3 : Int))), (True), (True), ((decide (o8e < (0 : Int))) = true)]) (e := .normal) (σ' := ⟨[500, 501, 502, 2004, 2008, 2013, 10160, 10480], [(78, vb true), (13, V.ref 2013 0), (50, vi v50), (49, vi ((List.length (fairN x4 (List.getD r16 (Int.toNat v42) 0) x3) : Nat) : Int)), (48, vo 10480 (List.length (fairN x4 (List.getD r16 (Int.toNat v42) 0) x3))), (10, vi (List.getD r16 (Int.toNat v42) 0)), (42, vi v42), (41, vi ((List.length r16 : Nat) : Int)), (40, vo 10160 (List.length r16)), (8, V.ref 2008 0), (4, V.ref 2004 0), (3, V.t (T.ptr [tl x3, ti x4])), (0, V.ref 500 0)], [(500, ov 104 [vl x0, V.mapr 501, V.mapr 502]), (501, Tl.Obj.map (mpB r60d)), (502, Tl.Obj.map (mp3 r60e)), (2004, oc 99 [ti 0, ti 0, ti 0]), (2008, oc 99 [ti (max o8d (r60 + (1 : Int))), ti o8e, ti o8g]), (2013, oc 99 [ti r60, ti r60b, ti r60c]), (10160, oc 3 (List.map (T.int .i64) r16)), (10480, oc 4 (List.map T.bool (fairN x4 (List.getD r16 (Int.toNat v42) 0) x3)))]⟩) (by kernel_rfl) ⟨by decide, trivial, trivial, h6, trivial⟩ ?_
                          exact ⟨(true), h, rfl⟩
                        · -- no
                          obtain ⟨c8, h⟩ := chk_some h
                          refine WP.path tab_ok mixed [(70, An.b false), (74, An.v (T.int .i64 (r60b + (1 : Int))))] [.keep [78, 13, 50, 49, 48, 10, 42, 41, 40, 8, 4, 3, 0], .keepO [500, 501, 502, 2004, 2008, 2013, 10160, 10480], .names [(500, 500), (501, 501), (502, 502), (2004, 2004), (2008, 2008), (2013, 2013), (10160, 10160), (10480, 10480)]] (ps := [((0 ≤ (1 : Int) ∧ (1 : Int) < (3 : Int))), (True), (True), ((decide (o8e < (0 : Int))) = false), ((0 ≤ (1 : Int) ∧ (1 : Int) < (3 : Int))), (True), (True), (T.int .i64 (IntKind.wrap .i64 (r60b + (1 : Int))) = T.int .i64 (r60b + (1 : Int))), ((0 ≤ (1 : Int) ∧ (1 : Int) < (3 : Int))), (True), (True)]) (e := .normal) (σ' := ⟨[500, 501, 502, 2004, 2008, 2013, 10160, 10480], [(78, vb (decide ((r60b + (1 : Int)) < o8e))), (13, V.ref 2013 0), (50, vi v50), (49, vi ((List.length (fairN x4 (List.getD r16 (Int.toNat v42) 0) x3) : Nat) : Int)), (48, vo 10480 (List.length (fairN x4 (List.getD r16 (Int.toNat v42) 0) x3))), (10, vi (List.getD r16 (Int.toNat v42) 0)), (42, vi v42), (41, vi ((List.length r16 : Nat) : Int)), (40, vo 10160 (List.length r16)), (8, V.ref 2008 0), (4, V.ref 2004 0), (3, V.t (T.ptr [tl x3, ti x4])), (0, V.ref 500 0)], [(500, ov 104 [vl x0, V.mapr 501, V.mapr 502]), (501, Tl.Obj.map (mpB r60d)), (502, Tl.Obj.map (mp3 r60e)), (2004, oc 99 [ti 0, ti 0, ti 0]), (2008, oc 99 [ti (max o8d (r60 + (1 : Int))), ti o8e, ti o8g]), (2013, oc 99 [ti r60, ti r60b, ti r60c]), (10160, oc 3 (List.map (T.int .i64) r16)), (10480, oc 4 (List.map T.bool (fairN x4 (List.getD r16 (Int.toNat v42) 0) x3)))]⟩) (by kernel_rfl) ⟨by decide, trivial, trivial, h6, by decide, trivial, trivial, wrapI c8, by decide, trivial, trivial, trivial⟩ ?_
                          exact ⟨(decide ((r60b + (1 : Int)) < o8e)), h, rfl⟩
                      · -- from there
                        intro v78 h0
                        have h := (show J4 v78 = some (y0, y1, y2, y3, y4) from h0)
                        rw [hJ4] at h
                        rcases ite_some h with ⟨h7, h⟩ | ⟨h7, h⟩
                        · -- yes
                          refine WP.cond (b := v78) rfl (fun _ => ?_) (fun hh => by rw [h7] at hh; cases hh)
                          obtain ⟨c8, h⟩ := chk_some h
                          refine WP.path tab_ok mixed [(81, An.v (T.int .i64 (r60b + (1 : Int))))] [.keep [13, 50, 49, 48, 10, 42, 41, 40, 8, 4, 3, 0], .keepO [500, 501, 502, 2004, 2008, 2013, 10160, 10480], .names [(500, 500), (501, 501), (502, 502), (2004, 2004), (2008, 2008), (2013, 2013), (10160, 10160), (10480, 10480)]] (ps := [((0 ≤ (1 : Int) ∧ (1 : Int) < (3 : Int))), (True), (True), (T.int .i64 (IntKind.wrap .i64 (r60b + (1 : Int))) = T.int .i64 (r60b + (1 : Int))), ((0 ≤ (1 : Int) ∧ (1 : Int) < (3 : Int))), (1 < 3)]) (e := .normal) (σ' := ⟨[500, 501, 502, 2004, 2008, 2013, 10160, 10480], [(13, V.ref 2013 0), (50, vi v50), (49, vi ((List.length (fairN x4 (List.getD r16 (Int.toNat v42) 0) x3) : Nat) : Int)), (48, vo 10480 (List.length (fairN x4 (List.getD r16 (Int.toNat v42) 0) x3))), (10, vi (List.getD r16 (Int.toNat v42) 0)), (42, vi v42), (41, vi ((List.length r16 : Nat) : Int)), (40, vo 10160 (List.length r16)), (8, V.ref 2008 0), (4, V.ref 2004 0), (3, V.t (T.ptr [tl x3, ti x4])), (0, V.ref 500 0)], [(500, ov 104 [vl x0, V.mapr 501, V.mapr 502]), (501, Tl.Obj.map (mpB r60d)), (502, Tl.Obj.map (mp3 r60e)), (2004, oc 99 [ti 0, ti 0, ti 0]), (2008, oc 99 [ti (max o8d (r60 + (1 : Int))), ti (r60b + (1 : Int)), ti o8g]), (2013, oc 99 [ti r60, ti r60b, ti r60c]), (10160, oc 3 (List.map (T.int .i64) r16)), (10480, oc 4 (List.map T.bool (fairN x4 (List.getD r16 (Int.toNat v42) 0) x3)))]⟩) (by kernel_rfl) ⟨by decide, trivial, trivial, wrapI c8, by decide, by decide, trivial⟩ ?_
                          exact ⟨((r60b + (1 : Int))), h, rfl⟩
                        · -- no
                          refine WP.cond (b := v78) rfl (fun hh => by rw [h7] at hh; cases hh) (fun _ => ?_)
                          refine WP.path tab_ok mixed [] [.keep [13, 50, 49, 48, 10, 42, 41, 40, 8, 4, 3, 0], .keepO [500, 501, 502, 2004, 2008, 2013, 10160, 10480], .names [(500, 500), (501, 501), (502, 502), (2004, 2004), (2008, 2008), (2013, 2013), (10160, 10160), (10480, 10480)]] (ps := []) (e := .normal) (σ' := ⟨[500, 501, 502, 2004, 2008, 2013, 10160, 10480], [(13, V.ref 2013 0), (50, vi v50), (49, vi ((List.length (fairN x4 (List.getD r16 (Int.toNat v42) 0) x3) : Nat) : Int)), (48, vo 10480 (List.length (fairN x4 (List.getD r16 (Int.toNat v42) 0) x3))), (10, vi (List.getD r16 (Int.toNat v42) 0)), (42, vi v42), (41, vi ((List.length r16 : Nat) : Int)), (40, vo 10160 (List.length r16)), (8, V.ref 2008 0), (4, V.ref 2004 0), (3, V.t (T.ptr [tl x3, ti x4])), (0, V.ref 500 0)], [(500, ov 104 [vl x0, V.mapr 501, V.mapr 502]), (501, Tl.Obj.map (mpB r60d)), (502, Tl.Obj.map (mp3 r60e)), (2004, oc 99 [ti 0, ti 0, ti 0]), (2008, oc 99 [ti (max o8d (r60 + (1 : Int))), ti o8e, ti o8g]), (2013, oc 99 [ti r60, ti r60b, ti r60c]), (10160, oc 3 (List.map (T.int .i64) r16)), (10480, oc 4 (List.map T.bool (fairN x4 (List.getD r16 (Int.toNat v42) 0) x3)))]⟩) (by kernel_rfl) trivial ?_
                          exact ⟨(o8e), h, rfl⟩
                    · -- from there
                      intro o8i h0
                      have h := (show J3 o8i = some (y0, y1, y2, y3, y4) from h0)
                      rw [hJ3] at h
                      obtain ⟨c8, h⟩ := chk_some h
                      refine WP.path tab_ok mixed [(87, An.v (T.int .i64 (o8g + r60c)))] [.keep [50, 49, 48, 10, 42, 41, 40, 8, 4, 3, 0], .keepO [500, 501, 502, 2004, 2008, 10160, 10480]] (ps := [((0 ≤ (2 : Int) ∧ (2 : Int) < (3 : Int))), (True), ((0 ≤ (2 : Int) ∧ (2 : Int) < (3 : Int))), (True), (True), (T.int .i64 (IntKind.wrap .i64 (o8g + r60c)) = T.int .i64 (o8g + r60c)), ((0 ≤ (2 : Int) ∧ (2 : Int) < (3 : Int))), (2 < 3)]) (e := .normal) (σ' := ⟨[500, 501, 502, 2004, 2008, 2013, 10160, 10480], [(50, vi v50), (49, vi ((List.length (fairN x4 (List.getD r16 (Int.toNat v42) 0) x3) : Nat) : Int)), (48, vo 10480 (List.length (fairN x4 (List.getD r16 (Int.toNat v42) 0) x3))), (10, vi (List.getD r16 (Int.toNat v42) 0)), (42, vi v42), (41, vi ((List.length r16 : Nat) : Int)), (40, vo 10160 (List.length r16)), (8, V.ref 2008 0), (4, V.ref 2004 0), (3, V.t (T.ptr [tl x3, ti x4])), (0, V.ref 500 0)], [(500, ov 104 [vl x0, V.mapr 501, V.mapr 502]), (501, Tl.Obj.map (mpB r60d)), (502, Tl.Obj.map (mp3 r60e)), (2004, oc 99 [ti 0, ti 0, ti 0]), (2008, oc 99 [ti (max o8d (r60 + (1 : Int))), ti o8i, ti (o8g + r60c)]), (10160, oc 3 (List.map (T.int .i64) r16)), (10480, oc 4 (List.map T.bool (fairN x4 (List.getD r16 (Int.toNat v42) 0) x3)))]⟩) (by kernel_rfl) ⟨by decide, trivial, by decide, trivial, trivial, wrapI c8, by decide, by decide, trivial⟩ ?_
                      obtain ⟨c9, h⟩ := chk_some h
                      refine WP.path tab_ok mixed [(89, An.v (T.int .i64 (v50 + (1 : Int))))] [.keep [50, 49, 48, 10, 42, 41, 40, 8, 4, 3, 0], .keepO [500, 501, 502, 2004, 2008, 10160, 10480], .names [(500, 500), (501, 501), (502, 502), (2004, 2004), (2008, 2008), (10160, 10160), (10480, 10480)]] (ps := [(True), (T.int .i64 (IntKind.wrap .i64 (v50 + (1 : Int))) = T.int .i64 (v50 + (1 : Int)))]) (e := .normal) (σ' := ⟨[500, 501, 502, 2004, 2008, 10160, 10480], [(50, vi (v50 + (1 : Int))), (49, vi ((List.length (fairN x4 (List.getD r16 (Int.toNat v42) 0) x3) : Nat) : Int)), (48, vo 10480 (List.length (fairN x4 (List.getD r16 (Int.toNat v42) 0) x3))), (10, vi (List.getD r16 (Int.toNat v42) 0)), (42, vi v42), (41, vi ((List.length r16 : Nat) : Int)), (40, vo 10160 (List.length r16)), (8, V.ref 2008 0), (4, V.ref 2004 0), (3, V.t (T.ptr [tl x3, ti x4])), (0, V.ref 500 0)], [(500, ov 104 [vl x0, V.mapr 501, V.mapr 502]), (501, Tl.Obj.map (mpB r60d)), (502, Tl.Obj.map (mp3 r60e)), (2004, oc 99 [ti 0, ti 0, ti 0]), (2008, oc 99 [ti (max o8d (r60 + (1 : Int))), ti o8i, ti (o8g + r60c)]), (10160, oc 3 (List.map (T.int .i64) r16)), (10480, oc 4 (List.map T.bool (fairN x4 (List.getD r16 (Int.toNat v42) 0) x3)))]⟩) (by kernel_rfl) ⟨trivial, wrapI c9, trivial⟩ ?_
                      exact ⟨(n, (max o8d (r60 + (1 : Int))), o8i, (o8g + r60c), r60d, r60e, (v50 + (1 : Int))), h, Nat.lt_succ_self _, rfl⟩
                  · -- no
                    refine WP.cond (b := decide (v50 < ((List.length (fairN x4 (List.getD r16 (Int.toNat v42) 0) x3) : Nat) : Int))) rfl (fun hh => by rw [h5] at hh; cases hh) (fun _ => ?_)
                    refine WP.path tab_ok mixed [] [.keep [42, 41, 40, 8, 4, 3, 0], .keepO [500, 501, 502, 2004, 2008, 10160], .names [(500, 500), (501, 501), (502, 502), (2004, 2004), (2008, 2008), (10160, 10160)]] (ps := []) (e := (.exit 2)) (σ' := ⟨[500, 501, 502, 2004, 2008, 10160], [(42, vi v42), (41, vi ((List.length r16 : Nat) : Int)), (40, vo 10160 (List.length r16)), (8, V.ref 2008 0), (4, V.ref 2004 0), (3, V.t (T.ptr [tl x3, ti x4])), (0, V.ref 500 0)], [(500, ov 104 [vl x0, V.mapr 501, V.mapr 502]), (501, Tl.Obj.map (mpB o501b)), (502, Tl.Obj.map (mp3 o502b)), (2004, oc 99 [ti 0, ti 0, ti 0]), (2008, oc 99 [ti o8d, ti o8e, ti o8g]), (10160, oc 3 (List.map (T.int .i64) r16))]⟩) (by kernel_rfl) trivial ?_
                    exact ⟨(o8d, o8e, o8g, o501b, o502b), h, rfl⟩
              · -- from there
                rintro ⟨o8d, o8e, o8g, o501b, o502b⟩ h0
                have h := (show J2 o8d o8e o8g o501b o502b = some (y0, y1, y2, y3, y4) from h0)
                rw [hJ2] at h
                obtain ⟨c3, h⟩ := chk_some h
                refine WP.path tab_ok mixed [(90, An.v (T.int .i64 (v42 + (1 : Int))))] [.keep [42, 41, 40, 8, 4, 3, 0], .keepO [500, 501, 502, 2004, 2008, 10160], .names [(500, 500), (501, 501), (502, 502), (2004, 2004), (2008, 2008), (10160, 10160)]] (ps := [(True), (T.int .i64 (IntKind.wrap .i64 (v42 + (1 : Int))) = T.int .i64 (v42 + (1 : Int)))]) (e := .normal) (σ' := ⟨[500, 501, 502, 2004, 2008, 10160], [(42, vi (v42 + (1 : Int))), (41, vi ((List.length r16 : Nat) : Int)), (40, vo 10160 (List.length r16)), (8, V.ref 2008 0), (4, V.ref 2004 0), (3, V.t (T.ptr [tl x3, ti x4])), (0, V.ref 500 0)], [(500, ov 104 [vl x0, V.mapr 501, V.mapr 502]), (501, Tl.Obj.map (mpB o501b)), (502, Tl.Obj.map (mp3 o502b)), (2004, oc 99 [ti 0, ti 0, ti 0]), (2008, oc 99 [ti o8d, ti o8e, ti o8g]), (10160, oc 3 (List.map (T.int .i64) r16))]⟩) (by kernel_rfl) ⟨trivial, wrapI c3, trivial⟩ ?_
                exact ⟨(n, o8d, o8e, o8g, o501b, o502b, (v42 + (1 : Int))), h, Nat.lt_succ_self _, rfl⟩
            · -- no
              refine WP.cond (b := decide (v42 < ((List.length r16 : Nat) : Int))) rfl (fun hh => by rw [h4] at hh; cases hh) (fun _ => ?_)
              refine WP.path tab_ok mixed [] [.keep [8, 4, 3, 0], .keepO [500, 501, 502, 2004, 2008], .names [(500, 500), (501, 501), (502, 502), (2004, 2004), (2008, 2008)]] (ps := []) (e := (.exit 0)) (σ' := ⟨[500, 501, 502, 2004, 2008], [(8, V.ref 2008 0), (4, V.ref 2004 0), (3, V.t (T.ptr [tl x3, ti x4])), (0, V.ref 500 0)], [(500, ov 104 [vl x0, V.mapr 501, V.mapr 502]), (501, Tl.Obj.map (mpB o501)), (502, Tl.Obj.map (mp3 o502)), (2004, oc 99 [ti 0, ti 0, ti 0]), (2008, oc 99 [ti o8, ti o8b, ti o8c])]⟩) (by kernel_rfl) trivial ?_
              exact ⟨(o8, o8b, o8c, o501, o502), h, rfl⟩
        · -- from there
          rintro ⟨o8, o8b, o8c, o501, o502⟩ h0
          have h := (show J1 o8 o8b o8c o501 o502 = some (y0, y1, y2, y3, y4) from h0)
          rw [hJ1] at h
          obtain ⟨r96, c3, h⟩ := bnd1_some h
          simp only [Option.some.injEq, Prod.mk.injEq] at h
          obtain ⟨rfl, rfl, rfl, rfl, rfl⟩ := h
          exact WP.pathG tab_ok mixed [(96, An.call (ti r96)), (2000094, An.mp (mp3 (mput o502 r96 (o8, o8b, o8c))))] [.keep [4], .keepO [500, 501, 502, 2004], .names [(500, 500), (501, 501), (502, 502), (2004, 2004)]] [500, 501, 502] _ (r' := V.t (T.agg [ti o8, ti o8b, ti o8c])) (ps := [(True), (2 ≤ 2), (C Try.prog 98 [T.agg [tl x3, ti x4]] (ti r96)), (0 + 3 ≤ 3), (∃ G, KeyRun Try.prog 3 G ∧ G (ti r96) ∧ ∀ x ∈ mp3 o502, G x.1), (putT (mp3 o502) (ti r96) (T.agg [ti o8, ti o8b, ti o8c]) = mp3 (mput o502 r96 (o8, o8b, o8c))), (0 + 3 ≤ 3), ((0 + 3 ≤ 3 ∧ 3 = 3)), (0 + 3 ≤ 3)]) (r := V.t (T.agg [ti o8, ti o8b, ti o8c])) (N := [500, 501, 502, 2004]) (O := [(500, ov 104 [vl x0, V.mapr 501, V.mapr 502]), (501, Tl.Obj.map (mpB o501)), (502, Tl.Obj.map (mp3 (mput o502 r96 (o8, o8b, o8c))))]) [] (by kernel_rfl) ⟨trivial, by decide, (F_impl_State_code_W x3 x4 r96 c3), by decide, keys_map (g := fun e => T.agg [T.int .i64 e.1, T.int .i64 e.2.1, T.int .i64 e.2.2]) Try.underlying3 o502 r96, put_map (g := fun e => T.agg [T.int .i64 e.1, T.int .i64 e.2.1, T.int .i64 e.2.2]) o502 r96 (o8, o8b, o8c), by decide, by decide, by first | decide | omega | (simp only [tlL] <;> omega) | (simp <;> omega) | (simp [] <;> omega), trivial⟩ ⟨(WkT.refl _), trivial⟩ rfl rfl (fun _ h => h)
theorem F_p_impl_race_span_W (n : Nat) : ∀ (x0 : List Int) (x1 : List (Int × Bool)) (x2 : List (Int × Int × Int × Int)) (x3 : List Int) (x4 : Int) (y0 : Int) (y1 : Int) (y2 : Int) (y3 : List (Int × Bool)) (y4 : List (Int × Int × Int × Int)), F_p_impl_race_span n x0 x1 x2 x3 x4 = some (y0, y1, y2, y3, y4) → CG Try.prog 97 [V.ref 500 0, V.t (T.agg [tl x3, ti x4])] [(500, ov 104 [vl x0, V.mapr 501, V.mapr 502]), (501, Tl.Obj.map (mpB x1)), (502, Tl.Obj.map (mp3 x2))] (V.t (T.agg [ti y0, ti y1, ti y2])) [(500, ov 104 [vl x0, V.mapr 501, V.mapr 502]), (501, Tl.Obj.map (mpB y3)), (502, Tl.Obj.map (mp3 y4))] := by
  induction n with
  | zero => intro x0 x1 x2 x3 x4 y0 y1 y2 y3 y4 h; rw [F_p_impl_race_span] at h; cases h
  | succ n ih => intro x0 x1 x2 x3 x4 y0 y1 y2 y3 y4 h; rw [F_p_impl_race_span] at h; exact F_p_impl_race_span_B_W _ ih x0 x1 x2 x3 x4 y0 y1 y2 y3 y4 h
theorem F_impl_spanOf_W (x0 : List Int) (x1 : Int) (x2 : List Int) (x3 : Int) (y0 : Int) (y1 : Bool) (h : F_impl_spanOf x0 x1 x2 x3 = some (y0, y1)) : C Try.prog 63 [T.agg [tl x0, ti x1], tl x2, ti x3] (T.tup [ti y0, tb y1]) := by
  unfold F_impl_spanOf at h
  refine C.intro (tab := tab) tab_ok (fn := Try.f63) Try.func63 (by kernel_rfl) rfl (Nat.le_of_ble_eq_true rfl) ?_
  refine WP.seq ?_
  refine WP.path tab_ok mixed [(3, An.fz)] [.keep [7, 6, 3, 1, 2], .keepO []] (ps := []) (e := .normal) (σ' := ⟨[], [(7, vb false), (6, vi 0), (3, V.t (T.ptr [tl x0, ti x1])), (1, vl x2), (2, vi x3)], []⟩) (by kernel_rfl) trivial ?_
  refine WP.seq ?_
  refine WP.seq ?_
  obtain ⟨r10, c0, h⟩ := bnd1_some h
  refine WP.path tab_ok mixed [(10, An.call (tb r10))] [.keep [11, 7, 6, 3, 1, 2], .keepO []] (ps := [(2 ≤ 2), (C Try.prog 64 [T.agg [tl x0, ti x1], tl x2] (tb r10))]) (e := .normal) (σ' := ⟨[], [(11, vb !r10), (7, vb false), (6, vi 0), (3, V.t (T.ptr [tl x0, ti x1])), (1, vl x2), (2, vi x3)], []⟩) (by kernel_rfl) ⟨by decide, (F_impl_areRaced_W x0 x1 x2 r10 c0), trivial⟩ ?_
  rcases ite_some h with ⟨h1, h⟩ | ⟨h1, h⟩
  · -- yes
    refine WP.cond (b := !r10) rfl (fun _ => ?_) (fun hh => by rw [h1] at hh; cases hh)
    simp only [Option.some.injEq, Prod.mk.injEq] at h
    obtain ⟨rfl, rfl⟩ := h
    exact WP.pathW tab_ok mixed [] _ (ps := []) (r := T.tup [ti 0, tb false]) (by kernel_rfl) trivial (WkT.eq (y := T.tup [ti 0, tb false]) (WkT.refl _) (by first | rfl | (simp only [tlS, tl, vl, vo, oc, ov, tbl, vbl, ty, vy] <;> rfl) | (simp <;> omega) | (simp []; done) | (rw [List.take_of_length_le (by simp [])] <;> rfl))) (fun _ h => h)
  · -- no
    refine WP.cond (b := !r10) rfl (fun hh => by rw [h1] at hh; cases hh) (fun _ => ?_)
    refine WP.path tab_ok mixed [] [.keep [7, 6, 3, 1, 2], .keepO []] (ps := []) (e := .normal) (σ' := ⟨[], [(7, vb false), (6, vi 0), (3, V.t (T.ptr [tl x0, ti x1])), (1, vl x2), (2, vi x3)], []⟩) (by kernel_rfl) trivial ?_
    obtain ⟨r13, r13b, r13c, c1, h⟩ := bnd3_some h
    obtain ⟨r15, r15b, r15c, r15d, r15e, c2, h⟩ := bnd5_some h
    obtain ⟨c3, h⟩ := chk_some h
    simp only [Option.some.injEq, Prod.mk.injEq] at h
    obtain ⟨rfl, rfl⟩ := h
    exact WP.pathW tab_ok mixed [(13, An.callG [(9000, 10130), (9001, 10131), (9002, 10132)] [vl x2] [] (V.ref 9000 0) [(9000, ov 104 [vl r13, V.mapr 9001, V.mapr 9002]), (9001, Tl.Obj.map (mpB r13b)), (9002, Tl.Obj.map (mp3 r13c))]), (15, An.callG [(500, 10130), (501, 10131), (502, 10132)] [V.ref 500 0, V.t (T.agg [tl x0, ti x1])] [(500, ov 104 [vl r13, V.mapr 501, V.mapr 502]), (501, Tl.Obj.map (mpB r13b)), (502, Tl.Obj.map (mp3 r13c))] (V.t (T.agg [ti r15, ti r15b, ti r15c])) [(500, ov 104 [vl r13, V.mapr 501, V.mapr 502]), (501, Tl.Obj.map (mpB r15d)), (502, Tl.Obj.map (mp3 r15e))]), (17, An.v (ti (idx3 r15 r15b r15c x3)))] _ (ps := [(CG Try.prog 65 [vl x2] [] (V.ref 9000 0) [(9000, ov 104 [vl r13, V.mapr 9001, V.mapr 9002]), (9001, Tl.Obj.map (mpB r13b)), (9002, Tl.Obj.map (mp3 r13c))]), (WkT (tl x2) (tl x2)), (2 ≤ 2), (CG Try.prog 97 [V.ref 500 0, V.t (T.agg [tl x0, ti x1])] [(500, ov 104 [vl r13, V.mapr 501, V.mapr 502]), (501, Tl.Obj.map (mpB r13b)), (502, Tl.Obj.map (mp3 r13c))] (V.t (T.agg [ti r15, ti r15b, ti r15c])) [(500, ov 104 [vl r13, V.mapr 501, V.mapr 502]), (501, Tl.Obj.map (mpB r15d)), (502, Tl.Obj.map (mp3 r15e))]), ((V.ref 500 0).ren (renF [(500, 10130), (501, 10131), (502, 10132)]) = V.ref 10130 0), (WkT (T.agg [tl x0, ti x1]) (T.agg [tl x0, ti x1])), ((ov 104 [vl r13, V.mapr 10131, V.mapr 10132]) = (ov 104 [vl r13, V.mapr 501, V.mapr 502]).ren (renF [(500, 10130), (501, 10131), (502, 10132)])), ((Tl.Obj.map (mpB r13b)) = (Tl.Obj.map (mpB r13b)).ren (renF [(500, 10130), (501, 10131), (502, 10132)])), ((Tl.Obj.map (mp3 r13c)) = (Tl.Obj.map (mp3 r13c)).ren (renF [(500, 10130), (501, 10131), (502, 10132)])), ((0 ≤ x3 ∧ x3 < ((3 : Nat) : Int) ∧ Int.toNat x3 < List.length [ti r15, ti r15b, ti r15c])), (List.getD [ti r15, ti r15b, ti r15c] (Int.toNat x3) T.undef = ti (idx3 r15 r15b r15c x3))]) (r := T.tup [ti (idx3 r15 r15b r15c x3), tb true]) (by kernel_rfl) ⟨(F_impl_newRace_W x2 r13 r13b r13c c1), WkT.refl _, by decide, (F_p_impl_race_span_W fuel r13 r13b r13c x0 x1 r15 r15b r15c r15d r15e c2), by first | rfl | (simp [V.ren, V.renL, renF, lk]; done) | (simp [V.ren, V.renL, renF, lk]; omega), WkT.refl _, by first | rfl | (simp only [tlS]; rfl) | (simp [Tl.Obj.ren, V.ren, V.renL, renF, lk]; done), by first | rfl | (simp only [tlS]; rfl) | (simp [Tl.Obj.ren, V.ren, V.renL, renF, lk]; done), by first | rfl | (simp only [tlS]; rfl) | (simp [Tl.Obj.ren, V.ren, V.renL, renF, lk]; done), ⟨c3.1, c3.2, by have := c3; show _ < 3; omega⟩, idx3_told c3, trivial⟩ (WkT.eq (y := T.tup [ti (idx3 r15 r15b r15c x3), tb true]) (WkT.refl _) rfl) (fun _ h => h)
theorem F_impl_CountRaces_W (x0 : List Int) (x1 : Int) (x2 : List Int) (y0 : Int) (y1 : Bool) (h : F_impl_CountRaces x0 x1 x2 = some (y0, y1)) : C Try.prog 16 [T.agg [tl x0, ti x1], tl x2] (T.tup [ti y0, tb y1]) := by
  unfold F_impl_CountRaces at h
  refine C.intro (tab := tab) tab_ok (fn := Try.f16) Try.func16 (by kernel_rfl) rfl (Nat.le_of_ble_eq_true rfl) ?_
  obtain ⟨r8, r8b, c0, h⟩ := bnd2_some h
  simp only [Option.some.injEq, Prod.mk.injEq] at h
  obtain ⟨rfl, rfl⟩ := h
  exact WP.pathW tab_ok mixed [(2, An.fz), (8, An.call (T.tup [ti r8, tb r8b]))] _ (ps := [(2 ≤ 2), (C Try.prog 63 [T.agg [tl x0, ti x1], tl x2, ti 2] (T.tup [ti r8, tb r8b]))]) (r := T.tup [ti r8, tb r8b]) (by kernel_rfl) ⟨by decide, (F_impl_spanOf_W x0 x1 x2 (2 : Int) r8 r8b c0), trivial⟩ (WkT.eq (y := T.tup [ti r8, tb r8b]) (WkT.refl _) rfl) (fun _ h => h)
theorem F_spec_LongestRace_W (x0 : List Int) (x1 : Int) (x2 : List Int) (y0 : Int) (y1 : Bool) (h : F_spec_LongestRace x0 x1 x2 = some (y0, y1)) : C Try.prog 19 [T.agg [tl x0, ti x1], tl x2] (T.tup [ti y0, tb y1]) := by
  unfold F_spec_LongestRace at h
  refine C.intro (tab := tab) tab_ok (fn := Try.f19) Try.func19 (by kernel_rfl) rfl (Nat.le_of_ble_eq_true rfl) ?_
  refine WP.seq ?_
  refine WP.path tab_ok mixed [(2, An.fz)] [.keep [5, 4, 2, 1], .keepO []] (ps := []) (e := .normal) (σ' := ⟨[], [(5, vb false), (4, vi 0), (2, V.t (T.ptr [tl x0, ti x1])), (1, vl x2)], []⟩) (by kernel_rfl) trivial ?_
  refine WP.seq ?_
  refine WP.seq ?_
  obtain ⟨r8, c0, h⟩ := bnd1_some h
  refine WP.path tab_ok mixed [(8, An.call (tb r8))] [.keep [9, 5, 4, 2, 1], .keepO []] (ps := [(2 ≤ 2), (C Try.prog 60 [T.agg [tl x0, ti x1], tl x2] (tb r8))]) (e := .normal) (σ' := ⟨[], [(9, vb !r8), (5, vb false), (4, vi 0), (2, V.t (T.ptr [tl x0, ti x1])), (1, vl x2)], []⟩) (by kernel_rfl) ⟨by decide, (F_spec_l11Good_W x0 x1 x2 r8 c0), trivial⟩ ?_
  rcases ite_some h with ⟨h1, h⟩ | ⟨h1, h⟩
  · -- yes
    refine WP.cond (b := !r8) rfl (fun _ => ?_) (fun hh => by rw [h1] at hh; cases hh)
    simp only [Option.some.injEq, Prod.mk.injEq] at h
    obtain ⟨rfl, rfl⟩ := h
    exact WP.pathW tab_ok mixed [] _ (ps := []) (r := T.tup [ti 0, tb false]) (by kernel_rfl) trivial (WkT.eq (y := T.tup [ti 0, tb false]) (WkT.refl _) (by first | rfl | (simp only [tlS, tl, vl, vo, oc, ov, tbl, vbl, ty, vy] <;> rfl) | (simp <;> omega) | (simp []; done) | (rw [List.take_of_length_le (by simp [])] <;> rfl))) (fun _ h => h)
  · -- no
    refine WP.cond (b := !r8) rfl (fun hh => by rw [h1] at hh; cases hh) (fun _ => ?_)
    refine WP.path tab_ok mixed [] [.keep [5, 4, 2, 1], .keepO []] (ps := []) (e := .normal) (σ' := ⟨[], [(5, vb false), (4, vi 0), (2, V.t (T.ptr [tl x0, ti x1])), (1, vl x2)], []⟩) (by kernel_rfl) trivial ?_
    obtain ⟨r12, c1, h⟩ := bnd1_some h
    obtain ⟨r14, c2, h⟩ := bnd1_some h
    obtain ⟨c3, h⟩ := chk_some h
    simp only [Option.some.injEq, Prod.mk.injEq] at h
    obtain ⟨rfl, rfl⟩ := h
    exact WP.pathW tab_ok mixed [(12, An.callG [(9000, 10120)] [V.t (T.agg [tl x0, ti x1]), vl x2] [] (V.own 9000 5 (List.length r12)) [(9000, oc 70 (List.flatMap factC r12))]), (14, An.call (ti r14)), (17, An.v (ti ((List.getD r12 (Int.toNat r14) (false, false, 0, 0, 0)).2.2.1)))] _ (ps := [(2 ≤ 2), (CG Try.prog 61 [V.t (T.agg [tl x0, ti x1]), vl x2] [] (V.own 9000 5 (List.length r12)) [(9000, oc 70 (List.flatMap factC r12))]), (WkT (T.agg [tl x0, ti x1]) (T.agg [tl x0, ti x1])), (WkT (tl x2) (tl x2)), (2 ≤ 2), (C Try.prog 62 [T.agg [tl x0, ti x1]] (ti r14)), ((0 ≤ r14 ∧ r14 < ((List.length r12 : Nat) : Int))), ((List.flatMap factC r12 : List T)[((Int.toNat r14) * 5) + 2]? = some (ti ((List.getD r12 (Int.toNat r14) (false, false, 0, 0, 0)).2.2.1))), (ti ((List.getD r12 (Int.toNat r14) (false, false, 0, 0, 0)).2.2.1) = ti ((List.getD r12 (Int.toNat r14) (false, false, 0, 0, 0)).2.2.1))]) (r := T.tup [ti ((List.getD r12 (Int.toNat r14) (false, false, 0, 0, 0)).2.2.1), tb true]) (by kernel_rfl) ⟨by decide, (F_spec_l11Facts_W x0 x1 x2 r12 c1), WkT.refl _, WkT.refl _, by decide, (F_spec_l6Key_W x0 x1 r14 c2), c3, getF (f := factC) (c := 5) (fun _ => rfl) (d := (false, false, 0, 0, 0)) (i := (Int.toNat r14)) (k := 2) (by first | rfl | omega) (by omega) rfl, rfl, trivial⟩ (WkT.eq (y := T.tup [ti ((List.getD r12 (Int.toNat r14) (false, false, 0, 0, 0)).2.2.1), tb true]) (WkT.refl _) rfl) (fun _ h => h)
theorem F_impl_LongestRace_W (x0 : List Int) (x1 : Int) (x2 : List Int) (y0 : Int) (y1 : Bool) (h : F_impl_LongestRace x0 x1 x2 = some (y0, y1)) : C Try.prog 20 [T.agg [tl x0, ti x1], tl x2] (T.tup [ti y0, tb y1]) := by
  unfold F_impl_LongestRace at h
  refine C.intro (tab := tab) tab_ok (fn := Try.f20) Try.func20 (by kernel_rfl) rfl (Nat.le_of_ble_eq_true rfl) ?_
  obtain ⟨r8, r8b, c0, h⟩ := bnd2_some h
  simp only [Option.some.injEq, Prod.mk.injEq] at h
  obtain ⟨rfl, rfl⟩ := h
  exact WP.pathW tab_ok mixed [(2, An.fz), (8, An.call (T.tup [ti r8, tb r8b]))] _ (ps := [(2 ≤ 2), (C Try.prog 63 [T.agg [tl x0, ti x1], tl x2, ti 0] (T.tup [ti r8, tb r8b]))]) (r := T.tup [ti r8, tb r8b]) (by kernel_rfl) ⟨by decide, (F_impl_spanOf_W x0 x1 x2 (0 : Int) r8 r8b c0), trivial⟩ (WkT.eq (y := T.tup [ti r8, tb r8b]) (WkT.refl _) rfl) (fun _ h => h)
theorem F_spec_ShortestRace_W (x0 : List Int) (x1 : Int) (x2 : List Int) (y0 : Int) (y1 : Bool) (h : F_spec_ShortestRace x0 x1 x2 = some (y0, y1)) : C Try.prog 21 [T.agg [tl x0, ti x1], tl x2] (T.tup [ti y0, tb y1]) := by
  unfold F_spec_ShortestRace at h
  refine C.intro (tab := tab) tab_ok (fn := Try.f21) Try.func21 (by kernel_rfl) rfl (Nat.le_of_ble_eq_true rfl) ?_
  refine WP.seq ?_
  refine WP.path tab_ok mixed [(2, An.fz)] [.keep [5, 4, 2, 1], .keepO []] (ps := []) (e := .normal) (σ' := ⟨[], [(5, vb false), (4, vi 0), (2, V.t (T.ptr [tl x0, ti x1])), (1, vl x2)], []⟩) (by kernel_rfl) trivial ?_
  refine WP.seq ?_
  refine WP.seq ?_
  obtain ⟨r8, c0, h⟩ := bnd1_some h
  refine WP.path tab_ok mixed [(8, An.call (tb r8))] [.keep [9, 5, 4, 2, 1], .keepO []] (ps := [(2 ≤ 2), (C Try.prog 60 [T.agg [tl x0, ti x1], tl x2] (tb r8))]) (e := .normal) (σ' := ⟨[], [(9, vb !r8), (5, vb false), (4, vi 0), (2, V.t (T.ptr [tl x0, ti x1])), (1, vl x2)], []⟩) (by kernel_rfl) ⟨by decide, (F_spec_l11Good_W x0 x1 x2 r8 c0), trivial⟩ ?_
  rcases ite_some h with ⟨h1, h⟩ | ⟨h1, h⟩
  · -- yes
    refine WP.cond (b := !r8) rfl (fun _ => ?_) (fun hh => by rw [h1] at hh; cases hh)
    simp only [Option.some.injEq, Prod.mk.injEq] at h
    obtain ⟨rfl, rfl⟩ := h
    exact WP.pathW tab_ok mixed [] _ (ps := []) (r := T.tup [ti 0, tb false]) (by kernel_rfl) trivial (WkT.eq (y := T.tup [ti 0, tb false]) (WkT.refl _) (by first | rfl | (simp only [tlS, tl, vl, vo, oc, ov, tbl, vbl, ty, vy] <;> rfl) | (simp <;> omega) | (simp []; done) | (rw [List.take_of_length_le (by simp [])] <;> rfl))) (fun _ h => h)
  · -- no
    refine WP.cond (b := !r8) rfl (fun hh => by rw [h1] at hh; cases hh) (fun _ => ?_)
    refine WP.path tab_ok mixed [] [.keep [5, 4, 2, 1], .keepO []] (ps := []) (e := .normal) (σ' := ⟨[], [(5, vb false), (4, vi 0), (2, V.t (T.ptr [tl x0, ti x1])), (1, vl x2)], []⟩) (by kernel_rfl) trivial ?_
    obtain ⟨r12, c1, h⟩ := bnd1_some h
    obtain ⟨r14, c2, h⟩ := bnd1_some h
    obtain ⟨c3, h⟩ := chk_some h
    simp only [Option.some.injEq, Prod.mk.injEq] at h
    obtain ⟨rfl, rfl⟩ := h
    exact WP.pathW tab_ok mixed [(12, An.callG [(9000, 10120)] [V.t (T.agg [tl x0, ti x1]), vl x2] [] (V.own 9000 5 (List.length r12)) [(9000, oc 70 (List.flatMap factC r12))]), (14, An.call (ti r14)), (17, An.v (ti ((List.getD r12 (Int.toNat r14) (false, false, 0, 0, 0)).2.2.2.1)))] _ (ps := [(2 ≤ 2), (CG Try.prog 61 [V.t (T.agg [tl x0, ti x1]), vl x2] [] (V.own 9000 5 (List.length r12)) [(9000, oc 70 (List.flatMap factC r12))]), (WkT (T.agg [tl x0, ti x1]) (T.agg [tl x0, ti x1])), (WkT (tl x2) (tl x2)), (2 ≤ 2), (C Try.prog 62 [T.agg [tl x0, ti x1]] (ti r14)), ((0 ≤ r14 ∧ r14 < ((List.length r12 : Nat) : Int))), ((List.flatMap factC r12 : List T)[((Int.toNat r14) * 5) + 3]? = some (ti ((List.getD r12 (Int.toNat r14) (false, false, 0, 0, 0)).2.2.2.1))), (ti ((List.getD r12 (Int.toNat r14) (false, false, 0, 0, 0)).2.2.2.1) = ti ((List.getD r12 (Int.toNat r14) (false, false, 0, 0, 0)).2.2.2.1))]) (r := T.tup [ti ((List.getD r12 (Int.toNat r14) (false, false, 0, 0, 0)).2.2.2.1), tb true]) (by kernel_rfl) ⟨by decide, (F_spec_l11Facts_W x0 x1 x2 r12 c1), WkT.refl _, WkT.refl _, by decide, (F_spec_l6Key_W x0 x1 r14 c2), c3, getF (f := factC) (c := 5) (fun _ => rfl) (d := (false, false, 0, 0, 0)) (i := (Int.toNat r14)) (k := 3) (by first | rfl | omega) (by omega) rfl, rfl, trivial⟩ (WkT.eq (y := T.tup [ti ((List.getD r12 (Int.toNat r14) (false, false, 0, 0, 0)).2.2.2.1), tb true]) (WkT.refl _) rfl) (fun _ h => h)
theorem F_impl_ShortestRace_W (x0 : List Int) (x1 : Int) (x2 : List Int) (y0 : Int) (y1 : Bool) (h : F_impl_ShortestRace x0 x1 x2 = some (y0, y1)) : C Try.prog 22 [T.agg [tl x0, ti x1], tl x2] (T.tup [ti y0, tb y1]) := by
  unfold F_impl_ShortestRace at h
  refine C.intro (tab := tab) tab_ok (fn := Try.f22) Try.func22 (by kernel_rfl) rfl (Nat.le_of_ble_eq_true rfl) ?_
  obtain ⟨r8, r8b, c0, h⟩ := bnd2_some h
  simp only [Option.some.injEq, Prod.mk.injEq] at h
  obtain ⟨rfl, rfl⟩ := h
  exact WP.pathW tab_ok mixed [(2, An.fz), (8, An.call (T.tup [ti r8, tb r8b]))] _ (ps := [(2 ≤ 2), (C Try.prog 63 [T.agg [tl x0, ti x1], tl x2, ti 1] (T.tup [ti r8, tb r8b]))]) (r := T.tup [ti r8, tb r8b]) (by kernel_rfl) ⟨by decide, (F_impl_spanOf_W x0 x1 x2 (1 : Int) r8 r8b c0), trivial⟩ (WkT.eq (y := T.tup [ti r8, tb r8b]) (WkT.refl _) rfl) (fun _ h => h)
theorem F_spec_RaceWins_W (x0 : List Int) (x1 : Int) (x2 : List Int) (y0 : Bool) (y1 : Bool) (h : F_spec_RaceWins x0 x1 x2 = some (y0, y1)) : C Try.prog 23 [T.agg [tl x0, ti x1], tl x2] (T.tup [tb y0, tb y1]) := by
  unfold F_spec_RaceWins at h
  refine C.intro (tab := tab) tab_ok (fn := Try.f23) Try.func23 (by kernel_rfl) rfl (Nat.le_of_ble_eq_true rfl) ?_
  refine WP.seq ?_
  refine WP.path tab_ok mixed [(2, An.fz)] [.keep [5, 4, 2, 1], .keepO []] (ps := []) (e := .normal) (σ' := ⟨[], [(5, vb false), (4, vb false), (2, V.t (T.ptr [tl x0, ti x1])), (1, vl x2)], []⟩) (by kernel_rfl) trivial ?_
  refine WP.seq ?_
  refine WP.seq ?_
  obtain ⟨r8, c0, h⟩ := bnd1_some h
  refine WP.path tab_ok mixed [(8, An.call (tb r8))] [.keep [9, 5, 4, 2, 1], .keepO []] (ps := [(2 ≤ 2), (C Try.prog 60 [T.agg [tl x0, ti x1], tl x2] (tb r8))]) (e := .normal) (σ' := ⟨[], [(9, vb !r8), (5, vb false), (4, vb false), (2, V.t (T.ptr [tl x0, ti x1])), (1, vl x2)], []⟩) (by kernel_rfl) ⟨by decide, (F_spec_l11Good_W x0 x1 x2 r8 c0), trivial⟩ ?_
  rcases ite_some h with ⟨h1, h⟩ | ⟨h1, h⟩
  · -- yes
    refine WP.cond (b := !r8) rfl (fun _ => ?_) (fun hh => by rw [h1] at hh; cases hh)
    simp only [Option.some.injEq, Prod.mk.injEq] at h
    obtain ⟨rfl, rfl⟩ := h
    exact WP.pathW tab_ok mixed [] _ (ps := []) (r := T.tup [tb false, tb false]) (by kernel_rfl) trivial (WkT.eq (y := T.tup [tb false, tb false]) (WkT.refl _) rfl) (fun _ h => h)
  · -- no
    refine WP.cond (b := !r8) rfl (fun hh => by rw [h1] at hh; cases hh) (fun _ => ?_)
    refine WP.path tab_ok mixed [] [.keep [5, 4, 2, 1], .keepO []] (ps := []) (e := .normal) (σ' := ⟨[], [(5, vb false), (4, vb false), (2, V.t (T.ptr [tl x0, ti x1])), (1, vl x2)], []⟩) (by kernel_rfl) trivial ?_
    obtain ⟨r12, c1, h⟩ := bnd1_some h
    obtain ⟨r14, c2, h⟩ := bnd1_some h
    obtain ⟨c3, h⟩ := chk_some h
    simp only [Option.some.injEq, Prod.mk.injEq] at h
    obtain ⟨rfl, rfl⟩ := h
    exact WP.pathW tab_ok mixed [(12, An.callG [(9000, 10120)] [V.t (T.agg [tl x0, ti x1]), vl x2] [] (V.own 9000 5 (List.length r12)) [(9000, oc 70 (List.flatMap factC r12))]), (14, An.call (ti r14)), (17, An.v (tb ((List.getD r12 (Int.toNat r14) (false, false, 0, 0, 0)).2.1)))] _ (ps := [(2 ≤ 2), (CG Try.prog 61 [V.t (T.agg [tl x0, ti x1]), vl x2] [] (V.own 9000 5 (List.length r12)) [(9000, oc 70 (List.flatMap factC r12))]), (WkT (T.agg [tl x0, ti x1]) (T.agg [tl x0, ti x1])), (WkT (tl x2) (tl x2)), (2 ≤ 2), (C Try.prog 62 [T.agg [tl x0, ti x1]] (ti r14)), ((0 ≤ r14 ∧ r14 < ((List.length r12 : Nat) : Int))), ((List.flatMap factC r12 : List T)[((Int.toNat r14) * 5) + 1]? = some (tb ((List.getD r12 (Int.toNat r14) (false, false, 0, 0, 0)).2.1))), (tb ((List.getD r12 (Int.toNat r14) (false, false, 0, 0, 0)).2.1) = tb ((List.getD r12 (Int.toNat r14) (false, false, 0, 0, 0)).2.1))]) (r := T.tup [tb ((List.getD r12 (Int.toNat r14) (false, false, 0, 0, 0)).2.1), tb true]) (by kernel_rfl) ⟨by decide, (F_spec_l11Facts_W x0 x1 x2 r12 c1), WkT.refl _, WkT.refl _, by decide, (F_spec_l6Key_W x0 x1 r14 c2), c3, getF (f := factC) (c := 5) (fun _ => rfl) (d := (false, false, 0, 0, 0)) (i := (Int.toNat r14)) (k := 1) (by first | rfl | omega) (by omega) rfl, rfl, trivial⟩ (WkT.eq (y := T.tup [tb ((List.getD r12 (Int.toNat r14) (false, false, 0, 0, 0)).2.1), tb true]) (WkT.refl _) rfl) (fun _ h => h)
theorem F_p_impl_race_win_B_W (self : (List Int) → (List (Int × Bool)) → (List (Int × Int × Int × Int)) → (List Int) → Int → Option ((List Int) × (List (Int × Bool)) × (List (Int × Int × Int × Int)))) (hself : ∀ (x0 : List Int) (x1 : List (Int × Bool)) (x2 : List (Int × Int × Int × Int)) (x3 : List Int) (x4 : Int) (y0 : List Int) (y1 : List (Int × Bool)) (y2 : List (Int × Int × Int × Int)), self x0 x1 x2 x3 x4 = some (y0, y1, y2) → CG Try.prog 68 [V.ref 500 0, V.t (T.agg [tl x3, ti x4])] [(500, ov 104 [vl x0, V.mapr 501, V.mapr 502]), (501, Tl.Obj.map (mpB x1)), (502, Tl.Obj.map (mp3 x2))] (vo 9000 (List.length y0)) [(500, ov 104 [vl x0, V.mapr 501, V.mapr 502]), (501, Tl.Obj.map (mpB y1)), (502, Tl.Obj.map (mp3 y2)), (9000, oc 3 (List.map (T.int .i64) y0))]) (x0 : List Int) (x1 : List (Int × Bool)) (x2 : List (Int × Int × Int × Int)) (x3 : List Int) (x4 : Int) (y0 : Bool) (y1 : List (Int × Bool)) (y2 : List (Int × Int × Int × Int)) (h : F_p_impl_race_win_B self x0 x1 x2 x3 x4 = some (y0, y1, y2)) : CG Try.prog 66 [V.ref 500 0, V.t (T.agg [tl x3, ti x4])] [(500, ov 104 [vl x0, V.mapr 501, V.mapr 502]), (501, Tl.Obj.map (mpB x1)), (502, Tl.Obj.map (mp3 x2))] (vb y0) [(500, ov 104 [vl x0, V.mapr 501, V.mapr 502]), (501, Tl.Obj.map (mpB y1)), (502, Tl.Obj.map (mp3 y2))] := by
  unfold F_p_impl_race_win_B at h
  refine CG.intro (tab := tab) tab_ok (fn := Try.f66) Try.func66 (by kernel_rfl) rfl (Nat.le_of_ble_eq_true rfl) (by kernel_rfl) ?_
  refine WP.seq ?_
  refine WP.path tab_ok mixed [(3, An.fz)] [.keep [4, 3, 0], .keepO [500, 501, 502]] (ps := []) (e := .normal) (σ' := ⟨[500, 501, 502], [(4, vb false), (3, V.t (T.ptr [tl x3, ti x4])), (0, V.ref 500 0)], [(500, ov 104 [vl x0, V.mapr 501, V.mapr 502]), (501, Tl.Obj.map (mpB x1)), (502, Tl.Obj.map (mp3 x2))]⟩) (by kernel_rfl) trivial ?_
  refine WP.seq ?_
  refine WP.seq ?_
  obtain ⟨r14, c0, h⟩ := bnd1_some h
  obtain ⟨g15, c1, h⟩ := nam_some h
  refine WP.path tab_ok mixed [(14, An.call (ti r14)), (15, An.v (T.tup [tb (Option.getD g15 false), tb (Option.isSome g15)]))] [.keep [6, 5, 4, 3, 0], .keepO [500, 501, 502]] (ps := [(True), (2 ≤ 2), (C Try.prog 98 [T.agg [tl x3, ti x4]] (ti r14)), (∃ G, KeyRun Try.prog 3 G ∧ G (ti r14) ∧ ∀ x ∈ mpB x1, G x.1), ((lookR true (tb false) (lookT (mpB x1) (ti r14))) = T.tup [tb (Option.getD g15 false), tb (Option.isSome g15)])]) (e := .normal) (σ' := ⟨[500, 501, 502], [(6, vb (Option.isSome g15)), (5, vb (Option.getD g15 false)), (4, vb false), (3, V.t (T.ptr [tl x3, ti x4])), (0, V.ref 500 0)], [(500, ov 104 [vl x0, V.mapr 501, V.mapr 502]), (501, Tl.Obj.map (mpB x1)), (502, Tl.Obj.map (mp3 x2))]⟩) (by kernel_rfl) ⟨trivial, by decide, (F_impl_State_code_W x3 x4 r14 c0), keys_map (g := T.bool) Try.underlying3 x1 r14, look_mpB_ok c1, trivial⟩ ?_
  refine WP.seq ?_
  refine WP.path tab_ok mixed [] [.keep [18, 5, 4, 3, 0], .keepO [500, 501, 502]] (ps := []) (e := .normal) (σ' := ⟨[500, 501, 502], [(18, vb (Option.isSome g15)), (5, vb (Option.getD g15 false)), (4, vb false), (3, V.t (T.ptr [tl x3, ti x4])), (0, V.ref 500 0)], [(500, ov 104 [vl x0, V.mapr 501, V.mapr 502]), (501, Tl.Obj.map (mpB x1)), (502, Tl.Obj.map (mp3 x2))]⟩) (by kernel_rfl) trivial ?_
  rcases ite_some h with ⟨h1, h⟩ | ⟨h1, h⟩
  · -- yes
    refine WP.cond (b := Option.isSome g15) rfl (fun _ => ?_) (fun hh => by rw [h1] at hh; cases hh)
    simp only [Option.some.injEq, Prod.mk.injEq] at h
    obtain ⟨rfl, rfl, rfl⟩ := h
    exact WP.pathG tab_ok mixed [] [.keep [4], .keepO [500, 501, 502], .names [(500, 500), (501, 501), (502, 502)]] [500, 501, 502] _ (r' := vb (Option.getD g15 false)) (ps := []) (r := vb (Option.getD g15 false)) (N := [500, 501, 502]) (O := [(500, ov 104 [vl x0, V.mapr 501, V.mapr 502]), (501, Tl.Obj.map (mpB x1)), (502, Tl.Obj.map (mp3 x2))]) [] (by kernel_rfl) trivial ⟨(WkT.refl _), trivial⟩ rfl rfl (fun _ h => h)
  · -- no
    refine WP.cond (b := Option.isSome g15) rfl (fun hh => by rw [h1] at hh; cases hh) (fun _ => ?_)
    refine WP.path tab_ok mixed [] [.keep [4, 3, 0], .keepO [500, 501, 502]] (ps := []) (e := .normal) (σ' := ⟨[500, 501, 502], [(4, vb false), (3, V.t (T.ptr [tl x3, ti x4])), (0, V.ref 500 0)], [(500, ov 104 [vl x0, V.mapr 501, V.mapr 502]), (501, Tl.Obj.map (mpB x1)), (502, Tl.Obj.map (mp3 x2))]⟩) (by kernel_rfl) trivial ?_
    obtain ⟨r22, r22b, r22c, c2, h⟩ := bnd3_some h
    obtain ⟨r30, c3, h⟩ := bnd1_some h
    simp only [Option.some.injEq, Prod.mk.injEq] at h
    obtain ⟨rfl, rfl, rfl⟩ := h
    exact WP.pathG tab_ok mixed [(22, An.callG [(500, 500), (501, 501), (502, 502), (9000, 10220)] [V.ref 500 0, V.t (T.agg [tl x3, ti x4])] [(500, ov 104 [vl x0, V.mapr 501, V.mapr 502]), (501, Tl.Obj.map (mpB x1)), (502, Tl.Obj.map (mp3 x2))] (vo 9000 (List.length r22)) [(500, ov 104 [vl x0, V.mapr 501, V.mapr 502]), (501, Tl.Obj.map (mpB r22b)), (502, Tl.Obj.map (mp3 r22c)), (9000, oc 3 (List.map (T.int .i64) r22))]), (30, An.call (ti r30)), (2000028, An.mp (mpB (mput r22b r30 (decide (((List.length r22 : Nat) : Int) > (0 : Int))))))] [.keep [4], .keepO [500, 501, 502], .names [(500, 500), (501, 501), (502, 502)]] [500, 501, 502] _ (r' := vb (decide (((List.length r22 : Nat) : Int) > (0 : Int)))) (ps := [(2 ≤ 2), (CG Try.prog 68 [V.ref 500 0, V.t (T.agg [tl x3, ti x4])] [(500, ov 104 [vl x0, V.mapr 501, V.mapr 502]), (501, Tl.Obj.map (mpB x1)), (502, Tl.Obj.map (mp3 x2))] (vo 9000 (List.length r22)) [(500, ov 104 [vl x0, V.mapr 501, V.mapr 502]), (501, Tl.Obj.map (mpB r22b)), (502, Tl.Obj.map (mp3 r22c)), (9000, oc 3 (List.map (T.int .i64) r22))]), ((V.ref 500 0).ren (renF [(500, 500), (501, 501), (502, 502), (9000, 10220)]) = V.ref 500 0), (WkT (T.agg [tl x3, ti x4]) (T.agg [tl x3, ti x4])), ((ov 104 [vl x0, V.mapr 501, V.mapr 502]) = (ov 104 [vl x0, V.mapr 501, V.mapr 502]).ren (renF [(500, 500), (501, 501), (502, 502), (9000, 10220)])), ((Tl.Obj.map (mpB x1)) = (Tl.Obj.map (mpB x1)).ren (renF [(500, 500), (501, 501), (502, 502), (9000, 10220)])), ((Tl.Obj.map (mp3 x2)) = (Tl.Obj.map (mp3 x2)).ren (renF [(500, 500), (501, 501), (502, 502), (9000, 10220)])), (True), (True), (2 ≤ 2), (C Try.prog 98 [T.agg [tl x3, ti x4]] (ti r30)), (∃ G, KeyRun Try.prog 3 G ∧ G (ti r30) ∧ ∀ x ∈ mpB r22b, G x.1), (putT (mpB r22b) (ti r30) (tb (decide (((List.length r22 : Nat) : Int) > (0 : Int)))) = mpB (mput r22b r30 (decide (((List.length r22 : Nat) : Int) > (0 : Int)))))]) (r := vb (decide (((List.length r22 : Nat) : Int) > (0 : Int)))) (N := [500, 501, 502]) (O := [(500, ov 104 [vl x0, V.mapr 501, V.mapr 502]), (501, Tl.Obj.map (mpB (mput r22b r30 (decide (((List.length r22 : Nat) : Int) > (0 : Int)))))), (502, Tl.Obj.map (mp3 r22c))]) [] (by kernel_rfl) ⟨by decide, (hself x0 x1 x2 x3 x4 r22 r22b r22c c2), by first | rfl | (simp [V.ren, V.renL, renF, lk]; done) | (simp [V.ren, V.renL, renF, lk]; omega), WkT.refl _, by first | rfl | (simp only [tlS]; rfl) | (simp [Tl.Obj.ren, V.ren, V.renL, renF, lk]; done), by first | rfl | (simp only [tlS]; rfl) | (simp [Tl.Obj.ren, V.ren, V.renL, renF, lk]; done), by first | rfl | (simp only [tlS]; rfl) | (simp [Tl.Obj.ren, V.ren, V.renL, renF, lk]; done), trivial, trivial, by decide, (F_impl_State_code_W x3 x4 r30 c3), keys_map (g := T.bool) Try.underlying3 r22b r30, put_map (g := T.bool) r22b r30 (decide (((List.length r22 : Nat) : Int) > (0 : Int))), trivial⟩ ⟨(WkT.refl _), trivial⟩ rfl rfl (fun _ h => h)
theorem F_p_impl_race_losing_B_W (self : (List Int) → (List (Int × Bool)) → (List (Int × Int × Int × Int)) → (List Int) → Int → Option ((List Int) × (List (Int × Bool)) × (List (Int × Int × Int × Int)))) (hself : ∀ (x0 : List Int) (x1 : List (Int × Bool)) (x2 : List (Int × Int × Int × Int)) (x3 : List Int) (x4 : Int) (y0 : List Int) (y1 : List (Int × Bool)) (y2 : List (Int × Int × Int × Int)), self x0 x1 x2 x3 x4 = some (y0, y1, y2) → CG Try.prog 68 [V.ref 500 0, V.t (T.agg [tl x3, ti x4])] [(500, ov 104 [vl x0, V.mapr 501, V.mapr 502]), (501, Tl.Obj.map (mpB x1)), (502, Tl.Obj.map (mp3 x2))] (vo 9000 (List.length y0)) [(500, ov 104 [vl x0, V.mapr 501, V.mapr 502]), (501, Tl.Obj.map (mpB y1)), (502, Tl.Obj.map (mp3 y2)), (9000, oc 3 (List.map (T.int .i64) y0))]) (x0 : List Int) (x1 : List (Int × Bool)) (x2 : List (Int × Int × Int × Int)) (x3 : List Int) (x4 : Int) (x5 : Int) (y0 : List Bool) (y1 : List (Int × Bool)) (y2 : List (Int × Int × Int × Int)) (h : F_p_impl_race_losing_B self x0 x1 x2 x3 x4 x5 = some (y0, y1, y2)) : CG Try.prog 73 [V.ref 500 0, V.t (T.agg [tl x3, ti x4]), vi x5] [(500, ov 104 [vl x0, V.mapr 501, V.mapr 502]), (501, Tl.Obj.map (mpB x1)), (502, Tl.Obj.map (mp3 x2))] (vo 9000 (List.length y0)) [(500, ov 104 [vl x0, V.mapr 501, V.mapr 502]), (501, Tl.Obj.map (mpB y1)), (502, Tl.Obj.map (mp3 y2)), (9000, oc 4 (List.map T.bool y0))] := by
  unfold F_p_impl_race_losing_B at h
  refine CG.intro (tab := tab) tab_ok (fn := Try.f73) Try.func73 (by kernel_rfl) rfl (Nat.le_of_ble_eq_true rfl) (by kernel_rfl) ?_
  refine WP.seq ?_
  refine WP.path tab_ok mixed [(4, An.fz)] [.keep [6, 4, 0, 2], .keepO [500, 501, 502]] (ps := []) (e := .normal) (σ' := ⟨[500, 501, 502], [(6, V.t (T.nils)), (4, V.t (T.ptr [tl x3, ti x4])), (0, V.ref 500 0), (2, vi x5)], [(500, ov 104 [vl x0, V.mapr 501, V.mapr 502]), (501, Tl.Obj.map (mpB x1)), (502, Tl.Obj.map (mp3 x2))]⟩) (by kernel_rfl) trivial ?_
  refine WP.seq ?_
  refine WP.path tab_ok mixed [(11, An.id 2011)] [.keep [7, 6, 4, 0, 2], .keepO [500, 501, 502, 2011]] (ps := [(True), (0 = 0 * 1)]) (e := .normal) (σ' := ⟨[2011, 500, 501, 502], [(7, vo 2011 0), (6, V.t (T.nils)), (4, V.t (T.ptr [tl x3, ti x4])), (0, V.ref 500 0), (2, vi x5)], [(500, ov 104 [vl x0, V.mapr 501, V.mapr 502]), (501, Tl.Obj.map (mpB x1)), (502, Tl.Obj.map (mp3 x2)), (2011, oc 4 [])]⟩) (by kernel_rfl) ⟨trivial, by decide, trivial⟩ ?_
  obtain ⟨J1, hJ1, h⟩ := jn_some h
  refine WP.joinA (fun (zz : (List Bool) × (List (Int × Bool)) × (List (Int × Int × Int × Int))) => ⟨[500, 501, 502, 2011], [(7, vo 2011 (List.length zz.1)), (6, V.t (T.nils))], [(500, ov 104 [vl x0, V.mapr 501, V.mapr 502]), (501, Tl.Obj.map (mpB zz.2.1)), (502, Tl.Obj.map (mp3 zz.2.2)), (2011, oc 4 (List.map T.bool zz.1))]⟩) (fun zz => J1 zz.1 zz.2.1 zz.2.2 = some (y0, y1, y2)) ?_ ?_
  · -- to where they meet
    refine WP.seq ?_
    obtain ⟨c0, h⟩ := chk_some h
    refine WP.path tab_ok mixed [(14, An.callG [(9000, 10140)] [V.t (T.agg [tl x3, ti x4]), vi x5] [] (vo 9000 (List.length (fairN x4 x5 x3))) [(9000, oc 4 (List.map T.bool (fairN x4 x5 x3)))])] [.keep [16, 15, 14, 7, 6, 4, 0, 2], .keepO [500, 501, 502, 2011, 10140]] (ps := [(2 ≤ 2), (CG Try.prog 77 [V.t (T.agg [tl x3, ti x4]), vi x5] [] (vo 9000 (List.length (fairN x4 x5 x3))) [(9000, oc 4 (List.map T.bool (fairN x4 x5 x3)))]), (WkT (T.agg [tl x3, ti x4]) (T.agg [tl x3, ti x4])), (WkT (ti x5) (ti x5))]) (e := .normal) (σ' := ⟨[10140, 2011, 500, 501, 502], [(16, vi 0), (15, vi ((List.length (fairN x4 x5 x3) : Nat) : Int)), (14, vo 10140 (List.length (fairN x4 x5 x3))), (7, vo 2011 0), (6, V.t (T.nils)), (4, V.t (T.ptr [tl x3, ti x4])), (0, V.ref 500 0), (2, vi x5)], [(500, ov 104 [vl x0, V.mapr 501, V.mapr 502]), (501, Tl.Obj.map (mpB x1)), (502, Tl.Obj.map (mp3 x2)), (2011, oc 4 []), (10140, oc 4 (List.map T.bool (fairN x4 x5 x3)))]⟩) (by kernel_rfl) ⟨by decide, (fair_C_G x3 x4 x5 c0), WkT.refl _, WkT.refl _, trivial⟩ ?_
    refine WP.block ?_
    refine WP.wk [.keep [16, 15, 14, 7, 6, 4, 0, 2], .keepO [500, 501, 502, 2011, 10140], .names [(500, 500), (501, 501), (502, 502), (2011, 2011), (10140, 10140)]] (σ' := ⟨[500, 501, 502, 2011, 10140], [(16, vi 0), (15, vi ((List.length (fairN x4 x5 x3) : Nat) : Int)), (14, vo 10140 (List.length (fairN x4 x5 x3))), (7, vo 2011 0), (6, V.t (T.nils)), (4, V.t (T.ptr [tl x3, ti x4])), (0, V.ref 500 0), (2, vi x5)], [(500, ov 104 [vl x0, V.mapr 501, V.mapr 502]), (501, Tl.Obj.map (mpB x1)), (502, Tl.Obj.map (mp3 x2)), (2011, oc 4 []), (10140, oc 4 (List.map T.bool (fairN x4 x5 x3)))]⟩) (ps := []) (by kernel_rfl) trivial ?_
    refine WP.st (σ' := ⟨[500, 501, 502, 2011, 10140], [(16, vi (0 : Int)), (15, vi ((List.length (fairN x4 x5 x3) : Nat) : Int)), (14, vo 10140 (List.length (fairN x4 x5 x3))), (7, vo 2011 (List.length ([] : List Bool))), (6, V.t (T.nils)), (4, V.t (T.ptr [tl x3, ti x4])), (0, V.ref 500 0), (2, vi x5)], [(500, ov 104 [vl x0, V.mapr 501, V.mapr 502]), (501, Tl.Obj.map (mpB x1)), (502, Tl.Obj.map (mp3 x2)), (2011, oc 4 (List.map T.bool ([] : List Bool))), (10140, oc 4 (List.map T.bool (fairN x4 x5 x3)))]⟩) (by first | rfl | (simp only [tlS, tl, vl, vo, oc, ov, tbl, vbl, ty, vy] <;> rfl) | (simp <;> omega) | (simp []; done) | (rw [List.take_of_length_le (by simp [])] <;> rfl)) ?_
    refine WP.loop (α := Nat × (List Bool) × (List (Int × Bool)) × (List (Int × Int × Int × Int)) × Int) (fun zz => ⟨[500, 501, 502, 2011, 10140], [(16, vi zz.2.2.2.2), (15, vi ((List.length (fairN x4 x5 x3) : Nat) : Int)), (14, vo 10140 (List.length (fairN x4 x5 x3))), (7, vo 2011 (List.length zz.2.1)), (6, V.t (T.nils)), (4, V.t (T.ptr [tl x3, ti x4])), (0, V.ref 500 0), (2, vi x5)], [(500, ov 104 [vl x0, V.mapr 501, V.mapr 502]), (501, Tl.Obj.map (mpB zz.2.2.1)), (502, Tl.Obj.map (mp3 zz.2.2.2.1)), (2011, oc 4 (List.map T.bool zz.2.1)), (10140, oc 4 (List.map T.bool (fairN x4 x5 x3)))]⟩) (fun zz => F_p_impl_race_losing_B_L1 x0 x3 x4 x5 self J1 zz.1 zz.2.1 zz.2.2.1 zz.2.2.2.1 zz.2.2.2.2 = some (y0, y1, y2)) (fun zz => zz.1) (fuel, ([] : List Bool), x1, x2, (0 : Int)) h ?_
    rintro ⟨n, o11, o501, o502, v16⟩ h0
    have h := (show F_p_impl_race_losing_B_L1 x0 x3 x4 x5 self J1 n o11 o501 o502 v16 = some (y0, y1, y2) from h0)
    rcases n with _ | n
    · rw [F_p_impl_race_losing_B_L1] at h; cases h
    · rw [F_p_impl_race_losing_B_L1] at h
      refine WP.seq ?_
      refine WP.path tab_ok mixed [] [.keep [17, 16, 15, 14, 7, 6, 4, 0, 2], .keepO [500, 501, 502, 2011, 10140]] (ps := [(True)]) (e := .normal) (σ' := ⟨[500, 501, 502, 2011, 10140], [(17, vb (decide (v16 < ((List.length (fairN x4 x5 x3) : Nat) : Int)))), (16, vi v16), (15, vi ((List.length (fairN x4 x5 x3) : Nat) : Int)), (14, vo 10140 (List.length (fairN x4 x5 x3))), (7, vo 2011 (List.length o11)), (6, V.t (T.nils)), (4, V.t (T.ptr [tl x3, ti x4])), (0, V.ref 500 0), (2, vi x5)], [(500, ov 104 [vl x0, V.mapr 501, V.mapr 502]), (501, Tl.Obj.map (mpB o501)), (502, Tl.Obj.map (mp3 o502)), (2011, oc 4 (List.map T.bool o11)), (10140, oc 4 (List.map T.bool (fairN x4 x5 x3)))]⟩) (by kernel_rfl) ⟨trivial, trivial⟩ ?_
      refine WP.seq ?_
      rcases ite_some h with ⟨h1, h⟩ | ⟨h1, h⟩
      · -- yes
        refine WP.cond (b := decide (v16 < ((List.length (fairN x4 x5 x3) : Nat) : Int))) rfl (fun _ => ?_) (fun hh => by rw [h1] at hh; cases hh)
        refine WP.path tab_ok mixed [] [.keep [16, 15, 14, 7, 6, 4, 0, 2], .keepO [500, 501, 502, 2011, 10140]] (ps := []) (e := .normal) (σ' := ⟨[500, 501, 502, 2011, 10140], [(16, vi v16), (15, vi ((List.length (fairN x4 x5 x3) : Nat) : Int)), (14, vo 10140 (List.length (fairN x4 x5 x3))), (7, vo 2011 (List.length o11)), (6, V.t (T.nils)), (4, V.t (T.ptr [tl x3, ti x4])), (0, V.ref 500 0), (2, vi x5)], [(500, ov 104 [vl x0, V.mapr 501, V.mapr 502]), (501, Tl.Obj.map (mpB o501)), (502, Tl.Obj.map (mp3 o502)), (2011, oc 4 (List.map T.bool o11)), (10140, oc 4 (List.map T.bool (fairN x4 x5 x3)))]⟩) (by kernel_rfl) trivial ?_
        refine WP.seq ?_
        refine WP.block ?_
        refine WP.seq ?_
        obtain ⟨c1, h⟩ := chk_some h
        refine WP.path tab_ok mixed [(19, An.v (tb (List.getD (fairN x4 x5 x3) (Int.toNat v16) false)))] [.keep [9, 16, 15, 14, 7, 6, 4, 0, 2], .keepO [500, 501, 502, 2011, 10140]] (ps := [((0 ≤ v16 ∧ v16 < ((List.length (fairN x4 x5 x3) : Nat) : Int))), ((List.map T.bool (fairN x4 x5 x3) : List T)[(Int.toNat v16) * 1]? = some (tb (List.getD (fairN x4 x5 x3) (Int.toNat v16) false))), (tb (List.getD (fairN x4 x5 x3) (Int.toNat v16) false) = tb (List.getD (fairN x4 x5 x3) (Int.toNat v16) false))]) (e := .normal) (σ' := ⟨[500, 501, 502, 2011, 10140], [(9, vb (List.getD (fairN x4 x5 x3) (Int.toNat v16) false)), (16, vi v16), (15, vi ((List.length (fairN x4 x5 x3) : Nat) : Int)), (14, vo 10140 (List.length (fairN x4 x5 x3))), (7, vo 2011 (List.length o11)), (6, V.t (T.nils)), (4, V.t (T.ptr [tl x3, ti x4])), (0, V.ref 500 0), (2, vi x5)], [(500, ov 104 [vl x0, V.mapr 501, V.mapr 502]), (501, Tl.Obj.map (mpB o501)), (502, Tl.Obj.map (mp3 o502)), (2011, oc 4 (List.map T.bool o11)), (10140, oc 4 (List.map T.bool (fairN x4 x5 x3)))]⟩) (by kernel_rfl) ⟨c1, atM (by simp) (by first | omega | (simp only [tlL]; omega) | (simp; omega)), rfl, trivial⟩ ?_
        refine WP.seq ?_
        refine WP.path tab_ok mixed [(24, An.call (T.agg [tl (ansN x4 x5 (List.getD (fairN x4 x5 x3) (Int.toNat v16) false) x3), ti x4])), (10, An.id 2010)] [.keep [10, 9, 16, 15, 14, 7, 6, 4, 0, 2], .keepO [500, 501, 502, 2010, 2011, 10140]] (ps := [(2 ≤ 2), ((1 = 1 ∧ 0 + 1 ≤ 2) ∧ (1 = 1 ∧ 1 + 1 ≤ 2) ∧ True), (C Try.prog 78 [T.agg [tl x3, ti x4], T.agg [ti x5, tb (List.getD (fairN x4 x5 x3) (Int.toNat v16) false)]] (T.agg [tl (ansN x4 x5 (List.getD (fairN x4 x5 x3) (Int.toNat v16) false) x3), ti x4])), ((0 + 2 ≤ 2 ∧ 2 = 2))]) (e := .normal) (σ' := ⟨[2010, 500, 501, 502, 2011, 10140], [(10, V.ref 2010 0), (9, vb (List.getD (fairN x4 x5 x3) (Int.toNat v16) false)), (16, vi v16), (15, vi ((List.length (fairN x4 x5 x3) : Nat) : Int)), (14, vo 10140 (List.length (fairN x4 x5 x3))), (7, vo 2011 (List.length o11)), (6, V.t (T.nils)), (4, V.t (T.ptr [tl x3, ti x4])), (0, V.ref 500 0), (2, vi x5)], [(500, ov 104 [vl x0, V.mapr 501, V.mapr 502]), (501, Tl.Obj.map (mpB o501)), (502, Tl.Obj.map (mp3 o502)), (2010, oc 28 [tl (ansN x4 x5 (List.getD (fairN x4 x5 x3) (Int.toNat v16) false) x3), ti x4]), (2011, oc 4 (List.map T.bool o11)), (10140, oc 4 (List.map T.bool (fairN x4 x5 x3)))]⟩) (by kernel_rfl) ⟨by decide, ⟨⟨by first | rfl | (simp; done) | (simp []; done) | omega, by first | decide | (simp; done) | (simp []; done) | omega | (simp only [tlL]; omega) | (simp; omega)⟩, ⟨by first | rfl | (simp; done) | (simp []; done) | omega, by first | decide | (simp; done) | (simp []; done) | omega | (simp only [tlL]; omega) | (simp; omega)⟩, trivial⟩, (answered_C x3 x4 x5 (List.getD (fairN x4 x5 x3) (Int.toNat v16) false) c0), by decide, trivial⟩ ?_
        obtain ⟨J2, hJ2, h⟩ := jn_some h
        refine WP.joinA (fun (zz : (List (Int × Bool)) × (List (Int × Int × Int × Int)) × Bool) => ⟨[500, 501, 502, 2011, 10140], [(33, vb zz.2.2), (9, vb (List.getD (fairN x4 x5 x3) (Int.toNat v16) false)), (16, vi v16), (15, vi ((List.length (fairN x4 x5 x3) : Nat) : Int)), (14, vo 10140 (List.length (fairN x4 x5 x3))), (7, vo 2011 (List.length o11)), (6, V.t (T.nils)), (4, V.t (T.ptr [tl x3, ti x4])), (0, V.ref 500 0), (2, vi x5)], [(500, ov 104 [vl x0, V.mapr 501, V.mapr 502]), (501, Tl.Obj.map (mpB zz.1)), (502, Tl.Obj.map (mp3 zz.2.1)), (2011, oc 4 (List.map T.bool o11)), (10140, oc 4 (List.map T.bool (fairN x4 x5 x3)))]⟩) (fun zz => J2 zz.1 zz.2.1 zz.2.2 = some (y0, y1, y2)) ?_ ?_
        · -- to where they meet
          obtain ⟨c2, h⟩ := chk_some h
          obtain ⟨n28, c3, h⟩ := nam_some h
          rcases ite_some h with ⟨h2, h⟩ | ⟨h2, h⟩
          · -- yes
            obtain ⟨r32, r32b, r32c, c4, h⟩ := bnd3_some h
            refine WP.path tab_ok mixed [(26, An.callG [(9000, 10260)] [V.t (T.agg [tl (ansN x4 x5 (List.getD (fairN x4 x5 x3) (Int.toNat v16) false) x3), ti x4])] [] (vo 9000 (List.length (openN (ansN x4 x5 (List.getD (fairN x4 x5 x3) (Int.toNat v16) false) x3)))) [(9000, oc 3 (List.map (T.int .i64) (openN (ansN x4 x5 (List.getD (fairN x4 x5 x3) (Int.toNat v16) false) x3))))]), (28, An.v (tb n28)), (29, An.b true), (32, An.callG [(500, 500), (501, 501), (502, 502)] [V.ref 500 0, V.t (T.agg [tl (ansN x4 x5 (List.getD (fairN x4 x5 x3) (Int.toNat v16) false) x3), ti x4])] [(500, ov 104 [vl x0, V.mapr 501, V.mapr 502]), (501, Tl.Obj.map (mpB o501)), (502, Tl.Obj.map (mp3 o502))] (vb r32) [(500, ov 104 [vl x0, V.mapr 501, V.mapr 502]), (501, Tl.Obj.map (mpB r32b)), (502, Tl.Obj.map (mp3 r32c))])] [.keep [33, 9, 16, 15, 14, 7, 6, 4, 0, 2], .keepO [500, 501, 502, 2011, 10140], .names [(500, 500), (501, 501), (502, 502), (2011, 2011), (10140, 10140)]] (ps := [(0 + 2 ≤ 2), (CG Try.prog 79 [V.t (T.agg [tl (ansN x4 x5 (List.getD (fairN x4 x5 x3) (Int.toNat v16) false) x3), ti x4])] [] (vo 9000 (List.length (openN (ansN x4 x5 (List.getD (fairN x4 x5 x3) (Int.toNat v16) false) x3)))) [(9000, oc 3 (List.map (T.int .i64) (openN (ansN x4 x5 (List.getD (fairN x4 x5 x3) (Int.toNat v16) false) x3))))]), (WkT (T.agg [tl (ansN x4 x5 (List.getD (fairN x4 x5 x3) (Int.toNat v16) false) x3), ti x4]) (T.agg [tl (ansN x4 x5 (List.getD (fairN x4 x5 x3) (Int.toNat v16) false) x3), ti x4])), (True), (tb (decide (((List.length (openN (ansN x4 x5 (List.getD (fairN x4 x5 x3) (Int.toNat v16) false) x3)) : Nat) : Int) > (1 : Int))) = tb n28), ((n28) = true), (0 + 2 ≤ 2), (CG Try.prog 66 [V.ref 500 0, V.t (T.agg [tl (ansN x4 x5 (List.getD (fairN x4 x5 x3) (Int.toNat v16) false) x3), ti x4])] [(500, ov 104 [vl x0, V.mapr 501, V.mapr 502]), (501, Tl.Obj.map (mpB o501)), (502, Tl.Obj.map (mp3 o502))] (vb r32) [(500, ov 104 [vl x0, V.mapr 501, V.mapr 502]), (501, Tl.Obj.map (mpB r32b)), (502, Tl.Obj.map (mp3 r32c))]), ((V.ref 500 0).ren (renF [(500, 500), (501, 501), (502, 502)]) = V.ref 500 0), (WkT (T.agg [tl (ansN x4 x5 (List.getD (fairN x4 x5 x3) (Int.toNat v16) false) x3), ti x4]) (T.agg [tl (ansN x4 x5 (List.getD (fairN x4 x5 x3) (Int.toNat v16) false) x3), ti x4])), ((ov 104 [vl x0, V.mapr 501, V.mapr 502]) = (ov 104 [vl x0, V.mapr 501, V.mapr 502]).ren (renF [(500, 500), (501, 501), (502, 502)])), ((Tl.Obj.map (mpB o501)) = (Tl.Obj.map (mpB o501)).ren (renF [(500, 500), (501, 501), (502, 502)])), ((Tl.Obj.map (mp3 o502)) = (Tl.Obj.map (mp3 o502)).ren (renF [(500, 500), (501, 501), (502, 502)]))]) (e := .normal) (σ' := ⟨[500, 501, 502, 2011, 10140], [(33, vb r32), (9, vb (List.getD (fairN x4 x5 x3) (Int.toNat v16) false)), (16, vi v16), (15, vi ((List.length (fairN x4 x5 x3) : Nat) : Int)), (14, vo 10140 (List.length (fairN x4 x5 x3))), (7, vo 2011 (List.length o11)), (6, V.t (T.nils)), (4, V.t (T.ptr [tl x3, ti x4])), (0, V.ref 500 0), (2, vi x5)], [(500, ov 104 [vl x0, V.mapr 501, V.mapr 502]), (501, Tl.Obj.map (mpB r32b)), (502, Tl.Obj.map (mp3 r32c)), (2011, oc 4 (List.map T.bool o11)), (10140, oc 4 (List.map T.bool (fairN x4 x5 x3)))]⟩) (by kernel_rfl) ⟨by decide, (open_C_G (ansN x4 x5 (List.getD (fairN x4 x5 x3) (Int.toNat v16) false) x3) x4 c2), WkT.refl _, trivial, congrArg (tb) c3, h2, by decide, (F_p_impl_race_win_B_W self hself x0 o501 o502 (ansN x4 x5 (List.getD (fairN x4 x5 x3) (Int.toNat v16) false) x3) x4 r32 r32b r32c c4), by first | rfl | (simp [V.ren, V.renL, renF, lk]; done) | (simp [V.ren, V.renL, renF, lk]; omega), WkT.refl _, by first | rfl | (simp only [tlS]; rfl) | (simp [Tl.Obj.ren, V.ren, V.renL, renF, lk]; done), by first | rfl | (simp only [tlS]; rfl) | (simp [Tl.Obj.ren, V.ren, V.renL, renF, lk]; done), by first | rfl | (simp only [tlS]; rfl) | (simp [Tl.Obj.ren, V.ren, V.renL, renF, lk]; done), trivial⟩ ?_
            exact ⟨(r32b, r32c, r32), h, rfl⟩
          · -- no
            refine WP.path tab_ok mixed [(26, An.callG [(9000, 10260)] [V.t (T.agg [tl (ansN x4 x5 (List.getD (fairN x4 x5 x3) (Int.toNat v16) false) x3), ti x4])] [] (vo 9000 (List.length (openN (ansN x4 x5 (List.getD (fairN x4 x5 x3) (Int.toNat v16) false) x3)))) [(9000, oc 3 (List.map (T.int .i64) (openN (ansN x4 x5 (List.getD (fairN x4 x5 x3) (Int.toNat v16) false) x3))))]), (28, An.v (tb n28)), (29, An.b false)] [.keep [33, 9, 16, 15, 14, 7, 6, 4, 0, 2], .keepO [500, 501, 502, 2011, 10140], .names [(500, 500), (501, 501), (502, 502), (2011, 2011), (10140, 10140)]] (ps := [(0 + 2 ≤ 2), (CG Try.prog 79 [V.t (T.agg [tl (ansN x4 x5 (List.getD (fairN x4 x5 x3) (Int.toNat v16) false) x3), ti x4])] [] (vo 9000 (List.length (openN (ansN x4 x5 (List.getD (fairN x4 x5 x3) (Int.toNat v16) false) x3)))) [(9000, oc 3 (List.map (T.int .i64) (openN (ansN x4 x5 (List.getD (fairN x4 x5 x3) (Int.toNat v16) false) x3))))]), (WkT (T.agg [tl (ansN x4 x5 (List.getD (fairN x4 x5 x3) (Int.toNat v16) false) x3), ti x4]) (T.agg [tl (ansN x4 x5 (List.getD (fairN x4 x5 x3) (Int.toNat v16) false) x3), ti x4])), (True), (tb (decide (((List.length (openN (ansN x4 x5 (List.getD (fairN x4 x5 x3) (Int.toNat v16) false) x3)) : Nat) : Int) > (1 : Int))) = tb n28), ((n28) = false)]) (e := .normal) (σ' := ⟨[500, 501, 502, 2011, 10140], [(33, vb false), (9, vb (List.getD (fairN x4 x5 x3) (Int.toNat v16) false)), (16, vi v16), (15, vi ((List.length (fairN x4 x5 x3) : Nat) : Int)), (14, vo 10140 (List.length (fairN x4 x5 x3))), (7, vo 2011 (List.length o11)), (6, V.t (T.nils)), (4, V.t (T.ptr [tl x3, ti x4])), (0, V.ref 500 0), (2, vi x5)], [(500, ov 104 [vl x0, V.mapr 501, V.mapr 502]), (501, Tl.Obj.map (mpB o501)), (502, Tl.Obj.map (mp3 o502)), (2011, oc 4 (List.map T.bool o11)), (10140, oc 4 (List.map T.bool (fairN x4 x5 x3)))]⟩) (by kernel_rfl) ⟨by decide, (open_C_G (ansN x4 x5 (List.getD (fairN x4 x5 x3) (Int.toNat v16) false) x3) x4 c2), WkT.refl _, trivial, congrArg (tb) c3, h2, trivial⟩ ?_
            exact ⟨(o501, o502, false), h, rfl⟩
        · -- from there
          rintro ⟨o501b, o502b, v33⟩ h0
          have h := (show J2 o501b o502b v33 = some (y0, y1, y2) from h0)
          rw [hJ2] at h
          rcases ite_some h with ⟨h3, h⟩ | ⟨h3, h⟩
          · -- yes
            refine WP.cond (b := v33) rfl (fun _ => ?_) (fun hh => by rw [h3] at hh; cases hh)
            obtain ⟨c2, h⟩ := chk_some h
            refine WP.path tab_ok mixed [(36, An.fz), (37, An.id 2037)] [.keep [7, 16, 15, 14, 6, 4, 0, 2], .keepO [500, 501, 502, 2037, 10140]] (ps := [((1 = 1 ∧ 0 + 1 ≤ 1) ∧ True), (1 = 1 * 1), (True), (List.length (List.map T.bool o11) = (List.length o11) * 1), ((((List.length o11) + 1) * 1 ≤ 140737488355328 ∧ (List.length o11) + 1 ≤ maxLen))]) (e := .normal) (σ' := ⟨[2037, 500, 501, 502, 2011, 10140], [(7, vo 2037 ((List.length o11) + 1)), (16, vi v16), (15, vi ((List.length (fairN x4 x5 x3) : Nat) : Int)), (14, vo 10140 (List.length (fairN x4 x5 x3))), (6, V.t (T.nils)), (4, V.t (T.ptr [tl x3, ti x4])), (0, V.ref 500 0), (2, vi x5)], [(500, ov 104 [vl x0, V.mapr 501, V.mapr 502]), (501, Tl.Obj.map (mpB o501b)), (502, Tl.Obj.map (mp3 o502b)), (2037, oc 4 ((List.map T.bool o11) ++ [tb (List.getD (fairN x4 x5 x3) (Int.toNat v16) false)])), (10140, oc 4 (List.map T.bool (fairN x4 x5 x3)))]⟩) (by kernel_rfl) ⟨⟨⟨by first | rfl | (simp; done) | (simp []; done) | omega, by first | decide | (simp; done) | (simp []; done) | omega | (simp only [tlL]; omega) | (simp; omega)⟩, trivial⟩, by decide, trivial, by first | rfl | omega | (simp only [tlL] <;> omega) | (simp <;> omega) | (simp [] <;> omega), c2, trivial⟩ ?_
            obtain ⟨c3, h⟩ := chk_some h
            refine WP.path tab_ok mixed [(38, An.v (T.int .i64 (v16 + (1 : Int))))] [.keep [16, 15, 14, 7, 6, 4, 0, 2], .keepO [500, 501, 502, 2037, 10140], .names [(500, 500), (501, 501), (502, 502), (2037, 2011), (10140, 10140)]] (ps := [(True), (T.int .i64 (IntKind.wrap .i64 (v16 + (1 : Int))) = T.int .i64 (v16 + (1 : Int)))]) (e := .normal) (σ' := ⟨[500, 501, 502, 2011, 10140], [(16, vi (v16 + (1 : Int))), (15, vi ((List.length (fairN x4 x5 x3) : Nat) : Int)), (14, vo 10140 (List.length (fairN x4 x5 x3))), (7, vo 2011 ((List.length o11) + 1)), (6, V.t (T.nils)), (4, V.t (T.ptr [tl x3, ti x4])), (0, V.ref 500 0), (2, vi x5)], [(500, ov 104 [vl x0, V.mapr 501, V.mapr 502]), (501, Tl.Obj.map (mpB o501b)), (502, Tl.Obj.map (mp3 o502b)), (2011, oc 4 ((List.map T.bool o11) ++ [tb (List.getD (fairN x4 x5 x3) (Int.toNat v16) false)])), (10140, oc 4 (List.map T.bool (fairN x4 x5 x3)))]⟩) (by kernel_rfl) ⟨trivial, wrapI c3, trivial⟩ ?_
            exact ⟨(n, o11 ++ [List.getD (fairN x4 x5 x3) (Int.toNat v16) false], o501b, o502b, (v16 + (1 : Int))), h, Nat.lt_succ_self _, (by first | rfl | (simp only [tlS, tl, vl, vo, oc, ov, tbl, vbl, ty, vy] <;> rfl) | (simp <;> omega) | (simp []; done) | (rw [List.take_of_length_le (by simp [])] <;> rfl))⟩
          · -- no
            refine WP.cond (b := v33) rfl (fun hh => by rw [h3] at hh; cases hh) (fun _ => ?_)
            refine WP.path tab_ok mixed [] [.keep [16, 15, 14, 7, 6, 4, 0, 2], .keepO [500, 501, 502, 2011, 10140]] (ps := []) (e := .normal) (σ' := ⟨[500, 501, 502, 2011, 10140], [(16, vi v16), (15, vi ((List.length (fairN x4 x5 x3) : Nat) : Int)), (14, vo 10140 (List.length (fairN x4 x5 x3))), (7, vo 2011 (List.length o11)), (6, V.t (T.nils)), (4, V.t (T.ptr [tl x3, ti x4])), (0, V.ref 500 0), (2, vi x5)], [(500, ov 104 [vl x0, V.mapr 501, V.mapr 502]), (501, Tl.Obj.map (mpB o501b)), (502, Tl.Obj.map (mp3 o502b)), (2011, oc 4 (List.map T.bool o11)), (10140, oc 4 (List.map T.bool (fairN x4 x5 x3)))]⟩) (by kernel_rfl) trivial ?_
            obtain ⟨c2, h⟩ := chk_some h
            refine WP.path tab_ok mixed [(38, An.v (T.int .i64 (v16 + (1 : Int))))] [.keep [16, 15, 14, 7, 6, 4, 0, 2], .keepO [500, 501, 502, 2011, 10140], .names [(500, 500), (501, 501), (502, 502), (2011, 2011), (10140, 10140)]] (ps := [(True), (T.int .i64 (IntKind.wrap .i64 (v16 + (1 : Int))) = T.int .i64 (v16 + (1 : Int)))]) (e := .normal) (σ' := ⟨[500, 501, 502, 2011, 10140], [(16, vi (v16 + (1 : Int))), (15, vi ((List.length (fairN x4 x5 x3) : Nat) : Int)), (14, vo 10140 (List.length (fairN x4 x5 x3))), (7, vo 2011 (List.length o11)), (6, V.t (T.nils)), (4, V.t (T.ptr [tl x3, ti x4])), (0, V.ref 500 0), (2, vi x5)], [(500, ov 104 [vl x0, V.mapr 501, V.mapr 502]), (501, Tl.Obj.map (mpB o501b)), (502, Tl.Obj.map (mp3 o502b)), (2011, oc 4 (List.map T.bool o11)), (10140, oc 4 (List.map T.bool (fairN x4 x5 x3)))]⟩) (by kernel_rfl) ⟨trivial, wrapI c2, trivial⟩ ?_
            exact ⟨(n, o11, o501b, o502b, (v16 + (1 : Int))), h, Nat.lt_succ_self _, rfl⟩
      · -- no
        refine WP.cond (b := decide (v16 < ((List.length (fairN x4 x5 x3) : Nat) : Int))) rfl (fun hh => by rw [h1] at hh; cases hh) (fun _ => ?_)
        refine WP.path tab_ok mixed [] [.keep [7, 6], .keepO [500, 501, 502, 2011], .names [(500, 500), (501, 501), (502, 502), (2011, 2011)]] (ps := []) (e := (.exit 0)) (σ' := ⟨[500, 501, 502, 2011], [(7, vo 2011 (List.length o11)), (6, V.t (T.nils))], [(500, ov 104 [vl x0, V.mapr 501, V.mapr 502]), (501, Tl.Obj.map (mpB o501)), (502, Tl.Obj.map (mp3 o502)), (2011, oc 4 (List.map T.bool o11))]⟩) (by kernel_rfl) trivial ?_
        exact ⟨(o11, o501, o502), h, rfl⟩
  · -- from there
    rintro ⟨o11, o501, o502⟩ h0
    have h := (show J1 o11 o501 o502 = some (y0, y1, y2) from h0)
    rw [hJ1] at h
    simp only [Option.some.injEq, Prod.mk.injEq] at h
    obtain ⟨rfl, rfl, rfl⟩ := h
    exact WP.pathG tab_ok mixed [] [.keep [6], .keepO [500, 501, 502, 2011], .names [(500, 500), (501, 501), (502, 502), (2011, 9000)]] [500, 501, 502, 9000] _ (r' := vo 9000 (List.length o11)) (ps := []) (r := vo 9000 (List.length o11)) (N := [500, 501, 502, 9000]) (O := [(500, ov 104 [vl x0, V.mapr 501, V.mapr 502]), (501, Tl.Obj.map (mpB o501)), (502, Tl.Obj.map (mp3 o502)), (9000, oc 4 (List.map T.bool o11))]) [] (by kernel_rfl) trivial ⟨rfl, trivial⟩ rfl rfl (fun _ h => h)

end Go.Proofs.Ytnpdbllidpijfaa.AuRacesa
