/-
  The walks: each function of the program returns what the plain function beside it returns. No statement is proved here.
-/
import Derived.Test.YtgppmbbbgolkhaaTlGroupc
import Derived.Test.YtgppmbbbgolkhaaTlGroupd
import Derived.Test.YtgppmbbbgolkhaaAuTrF
import Derived.Test.YtgppmbbbgolkhaaProg
import Derived.Test.YtgppmbbbgolkhaaAuTrO
import Derived.Test.YtgppmbbbgolkhaaAuTra
namespace Go.Proofs.Ytgppmbbbgolkhaa.AuTrb
open Go Go.Tl Go.Proofs
open Go.Proofs.Ytgppmbbbgolkhaa.AuTrO hiding tab tab_ok mixed
open Go.Proofs.Ytgppmbbbgolkhaa.AuTra hiding tab tab_ok mixed
set_option linter.unusedVariables false
set_option linter.unusedSimpArgs false
set_option maxRecDepth 100000
set_option maxHeartbeats 4000000
def tab : Tab := [(3, ⟨.int .i64, 1, 8, [.int .i64 0]⟩), (4, ⟨.bool, 1, 1, [.bool false]⟩), (5, ⟨.int .u8, 1, 1, [.int .u8 0]⟩), (22, ⟨.slice 5 1 1, 1, 24, [.nils]⟩), (24, ⟨.slice 53 3 24, 1, 24, [.nils]⟩), (26, ⟨.struct [(0, 1, false)], 1, 24, [.nils]⟩), (29, ⟨.slice 51 2 16, 1, 24, [.nils]⟩), (34, ⟨.slice 3 1 8, 1, 24, [.nils]⟩), (40, ⟨.slice 4 1 1, 1, 24, [.nils]⟩), (51, ⟨.struct [(0, 1, false), (1, 1, false)], 2, 16, [.int .i64 0, .bool false]⟩), (53, ⟨.struct [(0, 1, false), (1, 1, false), (2, 1, false)], 3, 24, [.int .i64 0, .int .i64 0, .int .i64 0]⟩), (66, ⟨.pointer 70, 1, 8, [.nilp]⟩), (70, ⟨.struct [(0, 1, false), (1, 1, false), (2, 1, false)], 3, 24, [.int .i64 0, .nilp, .nilp]⟩), (77, ⟨.pointer 80, 1, 8, [.nilp]⟩), (78, ⟨.int .u64, 1, 8, [.int .u64 0]⟩), (80, ⟨.struct [(0, 1, false), (1, 1, false), (2, 1, false)], 3, 40, [.nils, .int .i64 0, .int .u64 0]⟩), (95, ⟨.func, 1, 8, [.nilf]⟩), (111, ⟨.struct [(0, 1, false), (1, 1, false)], 2, 32, [.nils, .int .i64 0]⟩)]
theorem tab_ok : chkTab Try.prog tab = true := by kernel_rfl
theorem mixed : Try.prog.follows .mixedOrders = true := by kernel_rfl
theorem F_impl_Tree_read_B_E (self : (List Nd) → Int → Int → Int → Option (Br × Int × Bool)) (hself : ∀ (x0 : List Nd) (x1 : Int) (x2 : Int) (x3 : Int) (y0 : Br) (y1 : Int) (y2 : Bool), self x0 x1 x2 x3 = some (y0, y1, y2) → CE Try.prog 64 [T.agg [T.list (List.length x0) 3 (List.flatMap nodeC x0)], ti x1, ti x2, ti x3] (fun y => T.tup (brA y :: [ti y1, tb y2])) (fun k y => eraseA y = y0 ∧ GoodA k y)) (x0 : List Nd) (x1 : Int) (x2 : Int) (x3 : Int) (y0 : Br) (y1 : Int) (y2 : Bool) (h : F_impl_Tree_read_B self x0 x1 x2 x3 = some (y0, y1, y2)) : CE Try.prog 64 [T.agg [T.list (List.length x0) 3 (List.flatMap nodeC x0)], ti x1, ti x2, ti x3] (fun y => T.tup (brA y :: [ti y1, tb y2])) (fun k y => eraseA y = y0 ∧ GoodA k y) := by
  unfold F_impl_Tree_read_B at h
  refine CE.intro (tab := tab) tab_ok (fn := Try.f64) Try.func64 (by kernel_rfl) rfl (Nat.le_of_ble_eq_true rfl) fun lo => ?_
  refine WPk.seq ?_
  refine WPk.path tab_ok mixed [(4, An.fz)] [.keep [10, 9, 8, 4, 1, 2, 3], .keepO []] (ps := []) (e := .normal) (σ' := ⟨[], [(10, vb false), (9, vi 0), (8, V.t (T.nilp)), (4, V.t (T.ptr [T.list (List.length x0) 3 (List.flatMap nodeC x0)])), (1, vi x1), (2, vi x2), (3, vi x3)], []⟩) (by kernel_rfl) trivial ?_
  refine WPk.seq ?_
  obtain ⟨J1, hJ1, h⟩ := jn_some h
  refine WPk.joinA (fun (zz : Bool) => ⟨[], [(28, vb zz), (10, vb false), (9, vi 0), (8, V.t (T.nilp)), (4, V.t (T.ptr [T.list (List.length x0) 3 (List.flatMap nodeC x0)])), (1, vi x1), (2, vi x2), (3, vi x3)], []⟩) (fun zz => J1 zz = some (y0, y1, y2)) ?_ ?_
  · -- to where they meet
    obtain ⟨c0, h⟩ := chk_some h
    obtain ⟨n22, c1, h⟩ := nam_some h
    rcases ite_some h with ⟨h1, h⟩ | ⟨h1, h⟩
    · -- yes
      refine WPk.path tab_ok mixed [(22, An.v (ti n22)), (23, An.call (tb (decide ((0 : Int) ≤ x2) && decide (x2 ≤ n22)))), (25, An.b true)] [.keep [28, 10, 9, 8, 4, 1, 2, 3], .keepO [], .names []] (ps := [(True), (True), (T.int .i64 (IntKind.wrap .i64 (((List.length x0 : Nat) : Int) - (1 : Int))) = ti n22), (C Try.prog 59 [ti x2, ti 0, ti n22] (tb (decide ((0 : Int) ≤ x2) && decide (x2 ≤ n22)))), ((!(decide ((0 : Int) ≤ x2) && decide (x2 ≤ n22))) = true)]) (e := .normal) (σ' := ⟨[], [(28, vb true), (10, vb false), (9, vi 0), (8, V.t (T.nilp)), (4, V.t (T.ptr [T.list (List.length x0) 3 (List.flatMap nodeC x0)])), (1, vi x1), (2, vi x2), (3, vi x3)], []⟩) (by kernel_rfl) ⟨trivial, trivial, Eq.trans (wrapI c0) (congrArg (ti) c1), (by have hh := (in_C x2 (0 : Int) n22); first | exact hh | simpa using hh), h1, trivial⟩ ?_
      exact ⟨(true), h, rfl⟩
    · -- no
      refine WPk.path tab_ok mixed [(22, An.v (ti n22)), (23, An.call (tb (decide ((0 : Int) ≤ x2) && decide (x2 ≤ n22)))), (25, An.b false)] [.keep [28, 10, 9, 8, 4, 1, 2, 3], .keepO [], .names []] (ps := [(True), (True), (T.int .i64 (IntKind.wrap .i64 (((List.length x0 : Nat) : Int) - (1 : Int))) = ti n22), (C Try.prog 59 [ti x2, ti 0, ti n22] (tb (decide ((0 : Int) ≤ x2) && decide (x2 ≤ n22)))), ((!(decide ((0 : Int) ≤ x2) && decide (x2 ≤ n22))) = false), (True)]) (e := .normal) (σ' := ⟨[], [(28, vb (decide (x3 > (6 : Int)))), (10, vb false), (9, vi 0), (8, V.t (T.nilp)), (4, V.t (T.ptr [T.list (List.length x0) 3 (List.flatMap nodeC x0)])), (1, vi x1), (2, vi x2), (3, vi x3)], []⟩) (by kernel_rfl) ⟨trivial, trivial, Eq.trans (wrapI c0) (congrArg (ti) c1), (by have hh := (in_C x2 (0 : Int) n22); first | exact hh | simpa using hh), h1, trivial, trivial⟩ ?_
      exact ⟨(decide (x3 > (6 : Int))), h, rfl⟩
  · -- from there
    intro v28 h0
    have h := (show J1 v28 = some (y0, y1, y2) from h0)
    rw [hJ1] at h
    rcases ite_some h with ⟨h2, h⟩ | ⟨h2, h⟩
    · -- yes
      refine WPk.cond (b := v28) rfl (fun _ => ?_) (fun hh => by rw [h2] at hh; cases hh)
      simp only [Option.some.injEq, Prod.mk.injEq] at h
      obtain ⟨rfl, rfl, rfl⟩ := h
      refine WPk.path tab_ok mixed [] [.keep [10, 9, 8], .keepO []] (ps := []) (e := .ret) (σ' := ⟨[], [(10, vb false), (9, vi 0), (8, V.t (T.nilp))], []⟩) (by kernel_rfl) trivial ?_
      exact ⟨.inl rfl, .inl ⟨.nil, by rfl, rfl, good_nil⟩⟩
    · -- no
      refine WPk.cond (b := v28) rfl (fun hh => by rw [h2] at hh; cases hh) (fun _ => ?_)
      refine WPk.path tab_ok mixed [] [.keep [10, 9, 8, 4, 1, 2, 3], .keepO []] (ps := []) (e := .normal) (σ' := ⟨[], [(10, vb false), (9, vi 0), (8, V.t (T.nilp)), (4, V.t (T.ptr [T.list (List.length x0) 3 (List.flatMap nodeC x0)])), (1, vi x1), (2, vi x2), (3, vi x3)], []⟩) (by kernel_rfl) trivial ?_
      refine WPk.seq ?_
      obtain ⟨c0, h⟩ := chk_some h
      refine WPk.path tab_ok mixed [(33, An.v (T.agg [ti ((List.getD x0 (Int.toNat x2) (0, 0, 0)).1), ti ((List.getD x0 (Int.toNat x2) (0, 0, 0)).2.1), ti ((List.getD x0 (Int.toNat x2) (0, 0, 0)).2.2)])), (11, An.id 2011)] [.keep [11, 10, 9, 8, 4, 1, 2, 3], .keepO [2011]] (ps := [(True), ((0 ≤ x2 ∧ x2 < ((List.length x0 : Nat) : Int))), (3 ≤ List.length (List.drop ((Int.toNat x2) * 3) (List.flatMap nodeC x0))), (T.agg (List.take 3 (List.drop ((Int.toNat x2) * 3) (List.flatMap nodeC x0))) = T.agg [ti ((List.getD x0 (Int.toNat x2) (0, 0, 0)).1), ti ((List.getD x0 (Int.toNat x2) (0, 0, 0)).2.1), ti ((List.getD x0 (Int.toNat x2) (0, 0, 0)).2.2)]), ((0 + 3 ≤ 3 ∧ 3 = 3))]) (e := .normal) (σ' := ⟨[2011], [(11, V.ref 2011 0), (10, vb false), (9, vi 0), (8, V.t (T.nilp)), (4, V.t (T.ptr [T.list (List.length x0) 3 (List.flatMap nodeC x0)])), (1, vi x1), (2, vi x2), (3, vi x3)], [(2011, oc 53 [ti ((List.getD x0 (Int.toNat x2) (0, 0, 0)).1), ti ((List.getD x0 (Int.toNat x2) (0, 0, 0)).2.1), ti ((List.getD x0 (Int.toNat x2) (0, 0, 0)).2.2)])]⟩) (by kernel_rfl) ⟨trivial, c0, fit_node (i := Int.toNat x2) (by simp) (by omega), at_node (by simp) (by omega), by decide, trivial⟩ ?_
      refine WPk.seq ?_
      refine WPk.seq ?_
      refine WPk.path tab_ok mixed [(35, An.call (tb (leafB ((List.getD x0 (Int.toNat x2) (0, 0, 0)).1) ((List.getD x0 (Int.toNat x2) (0, 0, 0)).2.1) ((List.getD x0 (Int.toNat x2) (0, 0, 0)).2.2))))] [.keep [35, 11, 10, 9, 8, 4, 1, 2, 3], .keepO [2011]] (ps := [(0 + 3 ≤ 3), (C Try.prog 52 [T.agg [ti ((List.getD x0 (Int.toNat x2) (0, 0, 0)).1), ti ((List.getD x0 (Int.toNat x2) (0, 0, 0)).2.1), ti ((List.getD x0 (Int.toNat x2) (0, 0, 0)).2.2)]] (tb (leafB ((List.getD x0 (Int.toNat x2) (0, 0, 0)).1) ((List.getD x0 (Int.toNat x2) (0, 0, 0)).2.1) ((List.getD x0 (Int.toNat x2) (0, 0, 0)).2.2))))]) (e := .normal) (σ' := ⟨[2011], [(35, vb (leafB ((List.getD x0 (Int.toNat x2) (0, 0, 0)).1) ((List.getD x0 (Int.toNat x2) (0, 0, 0)).2.1) ((List.getD x0 (Int.toNat x2) (0, 0, 0)).2.2))), (11, V.ref 2011 0), (10, vb false), (9, vi 0), (8, V.t (T.nilp)), (4, V.t (T.ptr [T.list (List.length x0) 3 (List.flatMap nodeC x0)])), (1, vi x1), (2, vi x2), (3, vi x3)], [(2011, oc 53 [ti ((List.getD x0 (Int.toNat x2) (0, 0, 0)).1), ti ((List.getD x0 (Int.toNat x2) (0, 0, 0)).2.1), ti ((List.getD x0 (Int.toNat x2) (0, 0, 0)).2.2)])]⟩) (by kernel_rfl) ⟨by decide, (isLeaf_C ((List.getD x0 (Int.toNat x2) (0, 0, 0)).1) ((List.getD x0 (Int.toNat x2) (0, 0, 0)).2.1) ((List.getD x0 (Int.toNat x2) (0, 0, 0)).2.2)), trivial⟩ ?_
      rcases ite_some h with ⟨h3, h⟩ | ⟨h3, h⟩
      · -- yes
        refine WPk.cond (b := leafB ((List.getD x0 (Int.toNat x2) (0, 0, 0)).1) ((List.getD x0 (Int.toNat x2) (0, 0, 0)).2.1) ((List.getD x0 (Int.toNat x2) (0, 0, 0)).2.2)) rfl (fun _ => ?_) (fun hh => by rw [h3] at hh; cases hh)
        obtain ⟨c1, h⟩ := chk_some h
        simp only [Option.some.injEq, Prod.mk.injEq] at h
        obtain ⟨rfl, rfl, rfl⟩ := h
        refine WPk.path tab_ok mixed [(37, An.id 2037), (39, An.v (T.int .i64 (x2 + (1 : Int))))] [.keep [10, 9, 8], .keepO [2037]] (ps := [(True), (True), (T.int .i64 (IntKind.wrap .i64 (x2 + (1 : Int))) = T.int .i64 (x2 + (1 : Int)))]) (e := .ret) (σ' := ⟨[2037, 2011], [(10, vb true), (9, vi (x2 + (1 : Int))), (8, V.ref 2037 0)], [(2037, oc 70 [ti 0, T.nilp, T.nilp])]⟩) (by kernel_rfl) ⟨trivial, trivial, wrapI c1, trivial⟩ ?_
        exact ⟨.inl rfl, .inr ⟨2037, 70, 0, .nil, .nil, by rfl, by decide, by rfl, by decide, rfl, List.nodup_nil, fun b hb => by cases hb⟩⟩
      · -- no
        refine WPk.cond (b := leafB ((List.getD x0 (Int.toNat x2) (0, 0, 0)).1) ((List.getD x0 (Int.toNat x2) (0, 0, 0)).2.1) ((List.getD x0 (Int.toNat x2) (0, 0, 0)).2.2)) rfl (fun hh => by rw [h3] at hh; cases hh) (fun _ => ?_)
        refine WPk.path tab_ok mixed [] [.keep [11, 10, 9, 8, 4, 1, 2, 3], .keepO [2011]] (ps := []) (e := .normal) (σ' := ⟨[2011], [(11, V.ref 2011 0), (10, vb false), (9, vi 0), (8, V.t (T.nilp)), (4, V.t (T.ptr [T.list (List.length x0) 3 (List.flatMap nodeC x0)])), (1, vi x1), (2, vi x2), (3, vi x3)], [(2011, oc 53 [ti ((List.getD x0 (Int.toNat x2) (0, 0, 0)).1), ti ((List.getD x0 (Int.toNat x2) (0, 0, 0)).2.1), ti ((List.getD x0 (Int.toNat x2) (0, 0, 0)).2.2)])]⟩) (by kernel_rfl) trivial ?_
        refine WPk.seq ?_
        obtain ⟨J1, hJ1, h⟩ := jn_some h
        refine WPk.joinA (fun (zz : Bool) => ⟨[2011], [(51, vb zz), (11, V.ref 2011 0), (10, vb false), (9, vi 0), (8, V.t (T.nilp)), (4, V.t (T.ptr [T.list (List.length x0) 3 (List.flatMap nodeC x0)])), (1, vi x1), (2, vi x2), (3, vi x3)], [(2011, oc 53 [ti ((List.getD x0 (Int.toNat x2) (0, 0, 0)).1), ti ((List.getD x0 (Int.toNat x2) (0, 0, 0)).2.1), ti ((List.getD x0 (Int.toNat x2) (0, 0, 0)).2.2)])]⟩) (fun zz => J1 zz = some (y0, y1, y2)) ?_ ?_
        · -- to where they meet
          rcases ite_some h with ⟨h4, h⟩ | ⟨h4, h⟩
          · -- yes
            refine WPk.path tab_ok mixed [(43, An.call (tb (isQ x1 ((List.getD x0 (Int.toNat x2) (0, 0, 0)).1)))), (45, An.b true)] [.keep [51, 11, 10, 9, 8, 4, 1, 2, 3], .keepO [2011], .names [(2011, 2011)]] (ps := [(True), (C Try.prog 80 [ti x1, ti ((List.getD x0 (Int.toNat x2) (0, 0, 0)).1)] (tb (isQ x1 ((List.getD x0 (Int.toNat x2) (0, 0, 0)).1)))), ((!(isQ x1 ((List.getD x0 (Int.toNat x2) (0, 0, 0)).1))) = true)]) (e := .normal) (σ' := ⟨[2011], [(51, vb true), (11, V.ref 2011 0), (10, vb false), (9, vi 0), (8, V.t (T.nilp)), (4, V.t (T.ptr [T.list (List.length x0) 3 (List.flatMap nodeC x0)])), (1, vi x1), (2, vi x2), (3, vi x3)], [(2011, oc 53 [ti ((List.getD x0 (Int.toNat x2) (0, 0, 0)).1), ti ((List.getD x0 (Int.toNat x2) (0, 0, 0)).2.1), ti ((List.getD x0 (Int.toNat x2) (0, 0, 0)).2.2)])]⟩) (by kernel_rfl) ⟨trivial, (isQuestion_C x1 ((List.getD x0 (Int.toNat x2) (0, 0, 0)).1)), h4, trivial⟩ ?_
            exact ⟨(true), h, rfl⟩
          · -- no
            obtain ⟨c1, h⟩ := chk_some h
            refine WPk.path tab_ok mixed [(43, An.call (tb (isQ x1 ((List.getD x0 (Int.toNat x2) (0, 0, 0)).1)))), (45, An.b false), (49, An.v (T.int .i64 (x2 + (1 : Int))))] [.keep [51, 11, 10, 9, 8, 4, 1, 2, 3], .keepO [2011], .names [(2011, 2011)]] (ps := [(True), (C Try.prog 80 [ti x1, ti ((List.getD x0 (Int.toNat x2) (0, 0, 0)).1)] (tb (isQ x1 ((List.getD x0 (Int.toNat x2) (0, 0, 0)).1)))), ((!(isQ x1 ((List.getD x0 (Int.toNat x2) (0, 0, 0)).1))) = false), (True), (True), (T.int .i64 (IntKind.wrap .i64 (x2 + (1 : Int))) = T.int .i64 (x2 + (1 : Int))), (True)]) (e := .normal) (σ' := ⟨[2011], [(51, vb (((List.getD x0 (Int.toNat x2) (0, 0, 0)).2.1) != (x2 + (1 : Int)))), (11, V.ref 2011 0), (10, vb false), (9, vi 0), (8, V.t (T.nilp)), (4, V.t (T.ptr [T.list (List.length x0) 3 (List.flatMap nodeC x0)])), (1, vi x1), (2, vi x2), (3, vi x3)], [(2011, oc 53 [ti ((List.getD x0 (Int.toNat x2) (0, 0, 0)).1), ti ((List.getD x0 (Int.toNat x2) (0, 0, 0)).2.1), ti ((List.getD x0 (Int.toNat x2) (0, 0, 0)).2.2)])]⟩) (by kernel_rfl) ⟨trivial, (isQuestion_C x1 ((List.getD x0 (Int.toNat x2) (0, 0, 0)).1)), h4, trivial, trivial, wrapI c1, trivial, trivial⟩ ?_
            exact ⟨(((List.getD x0 (Int.toNat x2) (0, 0, 0)).2.1) != (x2 + (1 : Int))), h, rfl⟩
        · -- from there
          intro v51 h0
          have h := (show J1 v51 = some (y0, y1, y2) from h0)
          rw [hJ1] at h
          rcases ite_some h with ⟨h5, h⟩ | ⟨h5, h⟩
          · -- yes
            refine WPk.cond (b := v51) rfl (fun _ => ?_) (fun hh => by rw [h5] at hh; cases hh)
            simp only [Option.some.injEq, Prod.mk.injEq] at h
            obtain ⟨rfl, rfl, rfl⟩ := h
            refine WPk.path tab_ok mixed [] [.keep [10, 9, 8], .keepO []] (ps := []) (e := .ret) (σ' := ⟨[2011], [(10, vb false), (9, vi 0), (8, V.t (T.nilp))], []⟩) (by kernel_rfl) trivial ?_
            exact ⟨.inl rfl, .inl ⟨.nil, by rfl, rfl, good_nil⟩⟩
          · -- no
            refine WPk.cond (b := v51) rfl (fun hh => by rw [h5] at hh; cases hh) (fun _ => ?_)
            refine WPk.path tab_ok mixed [] [.keep [11, 10, 9, 8, 4, 1, 2, 3], .keepO [2011]] (ps := []) (e := .normal) (σ' := ⟨[2011], [(11, V.ref 2011 0), (10, vb false), (9, vi 0), (8, V.t (T.nilp)), (4, V.t (T.ptr [T.list (List.length x0) 3 (List.flatMap nodeC x0)])), (1, vi x1), (2, vi x2), (3, vi x3)], [(2011, oc 53 [ti ((List.getD x0 (Int.toNat x2) (0, 0, 0)).1), ti ((List.getD x0 (Int.toNat x2) (0, 0, 0)).2.1), ti ((List.getD x0 (Int.toNat x2) (0, 0, 0)).2.2)])]⟩) (by kernel_rfl) trivial ?_
            refine WPk.seq ?_
            obtain ⟨c1, h⟩ := chk_some h
            obtain ⟨c2, h⟩ := chk_some h
            obtain ⟨r59, r59b, r59c, c3, h⟩ := bnd3_some h
            refine WPk.callK tab_ok [(56, An.v (T.int .i64 (x2 + (1 : Int)))), (58, An.v (T.int .i64 (x3 + (1 : Int))))] 6 [.keep [53, 54, 56, 58, 11, 10, 9, 8, 4, 1, 3], .keepO [2011]] [.keep [14, 13, 12, 11, 10, 9, 8, 4, 1, 3], .keepO [2011]] (f := 64) (ts := [T.agg [T.list (List.length x0) 3 (List.flatMap nodeC x0)], ti x1, ti (x2 + (1 : Int)), ti (x3 + (1 : Int))]) (σ1 := ⟨[2011], [(53, V.t (T.agg [T.list (List.length x0) 3 (List.flatMap nodeC x0)])), (54, vi x1), (56, vi (x2 + (1 : Int))), (58, vi (x3 + (1 : Int))), (11, V.ref 2011 0), (10, vb false), (9, vi 0), (8, V.t (T.nilp)), (4, V.t (T.ptr [T.list (List.length x0) 3 (List.flatMap nodeC x0)])), (1, vi x1), (3, vi x3)], [(2011, oc 53 [ti ((List.getD x0 (Int.toNat x2) (0, 0, 0)).1), ti ((List.getD x0 (Int.toNat x2) (0, 0, 0)).2.1), ti ((List.getD x0 (Int.toNat x2) (0, 0, 0)).2.2)])]⟩) (ps := [(1 ≤ 1), (True), (T.int .i64 (IntKind.wrap .i64 (x2 + (1 : Int))) = T.int .i64 (x2 + (1 : Int))), (True), (T.int .i64 (IntKind.wrap .i64 (x3 + (1 : Int))) = T.int .i64 (x3 + (1 : Int)))]) (by rfl) (by rfl) (by rfl) (by rfl) (by decide) (by kernel_rfl) ⟨by decide, trivial, wrapI c1, trivial, wrapI c2, trivial⟩ (by kernel_rfl) (by kernel_rfl) (hself x0 x1 (x2 + (1 : Int)) (x3 + (1 : Int)) r59 r59b r59c c3) fun a59 k59 hk59 hΦ59 hold59 => ⟨[], ⟨[2011], [(14, vb r59c), (13, vi r59b), (12, V.t (brA a59)), (11, V.ref 2011 0), (10, vb false), (9, vi 0), (8, V.t (T.nilp)), (4, V.t (T.ptr [T.list (List.length x0) 3 (List.flatMap nodeC x0)])), (1, vi x1), (3, vi x3)], [(2011, oc 53 [ti ((List.getD x0 (Int.toNat x2) (0, 0, 0)).1), ti ((List.getD x0 (Int.toNat x2) (0, 0, 0)).2.1), ti ((List.getD x0 (Int.toNat x2) (0, 0, 0)).2.2)])]⟩, by kernel_rfl, trivial, ?_⟩
            refine WPk.seq ?_
            obtain ⟨J1, hJ1, h⟩ := jn_some h
            refine WPk.joinA (fun (zz : Bool) => ⟨[2011], [(70, vb zz), (13, vi r59b), (12, V.t (brA a59)), (11, V.ref 2011 0), (10, vb false), (9, vi 0), (8, V.t (T.nilp)), (4, V.t (T.ptr [T.list (List.length x0) 3 (List.flatMap nodeC x0)])), (1, vi x1), (3, vi x3)], [(2011, oc 53 [ti ((List.getD x0 (Int.toNat x2) (0, 0, 0)).1), ti ((List.getD x0 (Int.toNat x2) (0, 0, 0)).2.1), ti ((List.getD x0 (Int.toNat x2) (0, 0, 0)).2.2)])]⟩) (fun zz => J1 zz = some (y0, y1, y2)) ?_ ?_
            · -- to where they meet
              rcases ite_some h with ⟨h6, h⟩ | ⟨h6, h⟩
              · -- yes
                refine WPk.path tab_ok mixed [(65, An.b true)] [.keep [70, 13, 12, 11, 10, 9, 8, 4, 1, 3], .keepO [2011], .names [(2011, 2011)]] (ps := [((!r59c) = true)]) (e := .normal) (σ' := ⟨[2011], [(70, vb true), (13, vi r59b), (12, V.t (brA a59)), (11, V.ref 2011 0), (10, vb false), (9, vi 0), (8, V.t (T.nilp)), (4, V.t (T.ptr [T.list (List.length x0) 3 (List.flatMap nodeC x0)])), (1, vi x1), (3, vi x3)], [(2011, oc 53 [ti ((List.getD x0 (Int.toNat x2) (0, 0, 0)).1), ti ((List.getD x0 (Int.toNat x2) (0, 0, 0)).2.1), ti ((List.getD x0 (Int.toNat x2) (0, 0, 0)).2.2)])]⟩) (by kernel_rfl) ⟨h6, trivial⟩ ?_
                exact ⟨(true), h, rfl⟩
              · -- no
                refine WPk.path tab_ok mixed [(65, An.b false)] [.keep [70, 13, 12, 11, 10, 9, 8, 4, 1, 3], .keepO [2011], .names [(2011, 2011)]] (ps := [((!r59c) = false), (True), (True)]) (e := .normal) (σ' := ⟨[2011], [(70, vb (((List.getD x0 (Int.toNat x2) (0, 0, 0)).2.2) != r59b)), (13, vi r59b), (12, V.t (brA a59)), (11, V.ref 2011 0), (10, vb false), (9, vi 0), (8, V.t (T.nilp)), (4, V.t (T.ptr [T.list (List.length x0) 3 (List.flatMap nodeC x0)])), (1, vi x1), (3, vi x3)], [(2011, oc 53 [ti ((List.getD x0 (Int.toNat x2) (0, 0, 0)).1), ti ((List.getD x0 (Int.toNat x2) (0, 0, 0)).2.1), ti ((List.getD x0 (Int.toNat x2) (0, 0, 0)).2.2)])]⟩) (by kernel_rfl) ⟨h6, trivial, trivial, trivial⟩ ?_
                exact ⟨(((List.getD x0 (Int.toNat x2) (0, 0, 0)).2.2) != r59b), h, rfl⟩
            · -- from there
              intro v70 h0
              have h := (show J1 v70 = some (y0, y1, y2) from h0)
              rw [hJ1] at h
              rcases ite_some h with ⟨h7, h⟩ | ⟨h7, h⟩
              · -- yes
                refine WPk.cond (b := v70) rfl (fun _ => ?_) (fun hh => by rw [h7] at hh; cases hh)
                simp only [Option.some.injEq, Prod.mk.injEq] at h
                obtain ⟨rfl, rfl, rfl⟩ := h
                refine WPk.path tab_ok mixed [] [.keep [10, 9, 8], .keepO []] (ps := []) (e := .ret) (σ' := ⟨[2011], [(10, vb false), (9, vi 0), (8, V.t (T.nilp))], []⟩) (by kernel_rfl) trivial ?_
                exact ⟨.inl rfl, .inl ⟨.nil, by rfl, rfl, good_nil⟩⟩
              · -- no
                refine WPk.cond (b := v70) rfl (fun hh => by rw [h7] at hh; cases hh) (fun _ => ?_)
                refine WPk.path tab_ok mixed [] [.keep [13, 12, 11, 10, 9, 8, 4, 1, 3], .keepO [2011]] (ps := []) (e := .normal) (σ' := ⟨[2011], [(13, vi r59b), (12, V.t (brA a59)), (11, V.ref 2011 0), (10, vb false), (9, vi 0), (8, V.t (T.nilp)), (4, V.t (T.ptr [T.list (List.length x0) 3 (List.flatMap nodeC x0)])), (1, vi x1), (3, vi x3)], [(2011, oc 53 [ti ((List.getD x0 (Int.toNat x2) (0, 0, 0)).1), ti ((List.getD x0 (Int.toNat x2) (0, 0, 0)).2.1), ti ((List.getD x0 (Int.toNat x2) (0, 0, 0)).2.2)])]⟩) (by kernel_rfl) trivial ?_
                refine WPk.seq ?_
                obtain ⟨r77, r77b, r77c, c4, h⟩ := bnd3_some h
                refine WPk.callK tab_ok [(76, An.v (T.int .i64 (x3 + (1 : Int))))] 5 [.keep [72, 73, 74, 76, 12, 11, 10, 9, 8], .keepO [2011]] [.keep [17, 16, 15, 12, 11, 10, 9, 8], .keepO [2011]] (f := 64) (ts := [T.agg [T.list (List.length x0) 3 (List.flatMap nodeC x0)], ti x1, ti r59b, ti (x3 + (1 : Int))]) (σ1 := ⟨[2011], [(72, V.t (T.agg [T.list (List.length x0) 3 (List.flatMap nodeC x0)])), (73, vi x1), (74, vi r59b), (76, vi (x3 + (1 : Int))), (12, V.t (brA a59)), (11, V.ref 2011 0), (10, vb false), (9, vi 0), (8, V.t (T.nilp))], [(2011, oc 53 [ti ((List.getD x0 (Int.toNat x2) (0, 0, 0)).1), ti ((List.getD x0 (Int.toNat x2) (0, 0, 0)).2.1), ti ((List.getD x0 (Int.toNat x2) (0, 0, 0)).2.2)])]⟩) (ps := [(1 ≤ 1), (True), (T.int .i64 (IntKind.wrap .i64 (x3 + (1 : Int))) = T.int .i64 (x3 + (1 : Int)))]) (by rfl) (by rfl) (by rfl) (by rfl) (by decide) (by kernel_rfl) ⟨by decide, trivial, wrapI c2, trivial⟩ (by kernel_rfl) (by kernel_rfl) (hself x0 x1 r59b (x3 + (1 : Int)) r77 r77b r77c c4) fun a77 k77 hk77 hΦ77 hold77 => ⟨[], ⟨[2011], [(17, vb r77c), (16, vi r77b), (15, V.t (brA a77)), (12, V.t (brA a59)), (11, V.ref 2011 0), (10, vb false), (9, vi 0), (8, V.t (T.nilp))], [(2011, oc 53 [ti ((List.getD x0 (Int.toNat x2) (0, 0, 0)).1), ti ((List.getD x0 (Int.toNat x2) (0, 0, 0)).2.1), ti ((List.getD x0 (Int.toNat x2) (0, 0, 0)).2.2)])]⟩, by kernel_rfl, trivial, ?_⟩
                have hlt := hold77 12 a59 (by rfl)
                have e : y0 = .nd ((List.getD x0 (Int.toNat x2) (0, 0, 0)).1) r59 r77 ∧ y1 = r77b ∧ y2 = r77c := by
                  cases r59 <;> cases r77 <;> simp only [brM, Option.some.injEq, Prod.mk.injEq] at h <;> exact ⟨h.1.symm, h.2.1.symm, h.2.2.symm⟩
                obtain ⟨rfl, rfl, rfl⟩ := e
                rcases a59 with _ | ⟨b1, q1, u1, v1⟩
                · rcases a77 with _ | ⟨b2, q2, u2, v2⟩
                  · refine WPk.path tab_ok mixed [(86, An.id 2086)] [.keep [10, 9, 8], .keepO [2086]] (ps := [(True), ((1 = 1 ∧ 0 + 1 ≤ 3) ∧ (1 = 1 ∧ 1 + 1 ≤ 3) ∧ (1 = 1 ∧ 2 + 1 ≤ 3) ∧ True)]) (e := .ret) (σ' := ⟨[2086, 2011], [(10, vb y2), (9, vi y1), (8, V.ref 2086 0)], [(2086, oc 70 [ti ((List.getD x0 (Int.toNat x2) (0, 0, 0)).1), brA ABr.nil, brA ABr.nil])]⟩) (by kernel_rfl) ⟨trivial, ⟨⟨rfl, by decide⟩, ⟨rfl, by decide⟩, ⟨rfl, by decide⟩, trivial⟩, trivial⟩ ?_
                    refine ⟨.inl rfl, .inr ⟨2086, 70, _, ABr.nil, ABr.nil, by rfl, by decide, by rfl, by decide, by rw [← hΦ59.1, ← hΦ77.1], List.nodup_append.2 ⟨hΦ59.2.1, hΦ77.2.1, fun b hb c hc e => ?_⟩, fun b hb => ?_⟩⟩
                    · have h1 := hlt b hb
                      have h2 := hΦ77.2.2 c hc
                      omega
                    · rcases List.mem_append.1 hb with hb | hb
                      · exact Nat.le_trans hk59 (hΦ59.2.2 b hb)
                      · exact Nat.le_trans hk77 (hΦ77.2.2 b hb)
                  · refine WPk.path tab_ok mixed [(86, An.id 2086)] [.keep [10, 9, 8], .keepO [2086]] (ps := [(True), ((1 = 1 ∧ 0 + 1 ≤ 3) ∧ (1 = 1 ∧ 1 + 1 ≤ 3) ∧ (1 = 1 ∧ 2 + 1 ≤ 3) ∧ True)]) (e := .ret) (σ' := ⟨[2086, 2011], [(10, vb y2), (9, vi y1), (8, V.ref 2086 0)], [(2086, oc 70 [ti ((List.getD x0 (Int.toNat x2) (0, 0, 0)).1), brA ABr.nil, brA (ABr.nd b2 q2 u2 v2)])]⟩) (by kernel_rfl) ⟨trivial, ⟨⟨rfl, by decide⟩, ⟨rfl, by decide⟩, ⟨rfl, by decide⟩, trivial⟩, trivial⟩ ?_
                    refine ⟨.inl rfl, .inr ⟨2086, 70, _, ABr.nil, (ABr.nd b2 q2 u2 v2), by rfl, by decide, by rfl, by decide, by rw [← hΦ59.1, ← hΦ77.1], List.nodup_append.2 ⟨hΦ59.2.1, hΦ77.2.1, fun b hb c hc e => ?_⟩, fun b hb => ?_⟩⟩
                    · have h1 := hlt b hb
                      have h2 := hΦ77.2.2 c hc
                      omega
                    · rcases List.mem_append.1 hb with hb | hb
                      · exact Nat.le_trans hk59 (hΦ59.2.2 b hb)
                      · exact Nat.le_trans hk77 (hΦ77.2.2 b hb)
                · rcases a77 with _ | ⟨b2, q2, u2, v2⟩
                  · refine WPk.path tab_ok mixed [(86, An.id 2086)] [.keep [10, 9, 8], .keepO [2086]] (ps := [(True), ((1 = 1 ∧ 0 + 1 ≤ 3) ∧ (1 = 1 ∧ 1 + 1 ≤ 3) ∧ (1 = 1 ∧ 2 + 1 ≤ 3) ∧ True)]) (e := .ret) (σ' := ⟨[2086, 2011], [(10, vb y2), (9, vi y1), (8, V.ref 2086 0)], [(2086, oc 70 [ti ((List.getD x0 (Int.toNat x2) (0, 0, 0)).1), brA (ABr.nd b1 q1 u1 v1), brA ABr.nil])]⟩) (by kernel_rfl) ⟨trivial, ⟨⟨rfl, by decide⟩, ⟨rfl, by decide⟩, ⟨rfl, by decide⟩, trivial⟩, trivial⟩ ?_
                    refine ⟨.inl rfl, .inr ⟨2086, 70, _, (ABr.nd b1 q1 u1 v1), ABr.nil, by rfl, by decide, by rfl, by decide, by rw [← hΦ59.1, ← hΦ77.1], List.nodup_append.2 ⟨hΦ59.2.1, hΦ77.2.1, fun b hb c hc e => ?_⟩, fun b hb => ?_⟩⟩
                    · have h1 := hlt b hb
                      have h2 := hΦ77.2.2 c hc
                      omega
                    · rcases List.mem_append.1 hb with hb | hb
                      · exact Nat.le_trans hk59 (hΦ59.2.2 b hb)
                      · exact Nat.le_trans hk77 (hΦ77.2.2 b hb)
                  · refine WPk.path tab_ok mixed [(86, An.id 2086)] [.keep [10, 9, 8], .keepO [2086]] (ps := [(True), ((1 = 1 ∧ 0 + 1 ≤ 3) ∧ (1 = 1 ∧ 1 + 1 ≤ 3) ∧ (1 = 1 ∧ 2 + 1 ≤ 3) ∧ True)]) (e := .ret) (σ' := ⟨[2086, 2011], [(10, vb y2), (9, vi y1), (8, V.ref 2086 0)], [(2086, oc 70 [ti ((List.getD x0 (Int.toNat x2) (0, 0, 0)).1), brA (ABr.nd b1 q1 u1 v1), brA (ABr.nd b2 q2 u2 v2)])]⟩) (by kernel_rfl) ⟨trivial, ⟨⟨rfl, by decide⟩, ⟨rfl, by decide⟩, ⟨rfl, by decide⟩, trivial⟩, trivial⟩ ?_
                    refine ⟨.inl rfl, .inr ⟨2086, 70, _, (ABr.nd b1 q1 u1 v1), (ABr.nd b2 q2 u2 v2), by rfl, by decide, by rfl, by decide, by rw [← hΦ59.1, ← hΦ77.1], List.nodup_append.2 ⟨hΦ59.2.1, hΦ77.2.1, fun b hb c hc e => ?_⟩, fun b hb => ?_⟩⟩
                    · have h1 := hlt b hb
                      have h2 := hΦ77.2.2 c hc
                      omega
                    · rcases List.mem_append.1 hb with hb | hb
                      · exact Nat.le_trans hk59 (hΦ59.2.2 b hb)
                      · exact Nat.le_trans hk77 (hΦ77.2.2 b hb)
theorem F_impl_Tree_read_E (n : Nat) : ∀ (x0 : List Nd) (x1 : Int) (x2 : Int) (x3 : Int) (y0 : Br) (y1 : Int) (y2 : Bool), F_impl_Tree_read n x0 x1 x2 x3 = some (y0, y1, y2) → CE Try.prog 64 [T.agg [T.list (List.length x0) 3 (List.flatMap nodeC x0)], ti x1, ti x2, ti x3] (fun y => T.tup (brA y :: [ti y1, tb y2])) (fun k y => eraseA y = y0 ∧ GoodA k y) := by
  induction n with
  | zero => intro x0 x1 x2 x3 y0 y1 y2 h; rw [F_impl_Tree_read] at h; cases h
  | succ n ih => intro x0 x1 x2 x3 y0 y1 y2 h; rw [F_impl_Tree_read] at h; exact F_impl_Tree_read_B_E _ ih x0 x1 x2 x3 y0 y1 y2 h
theorem F_impl_root_E (x0 : Int) (x1 : List Nd) (y0 : Br) (y1 : Bool) (h : F_impl_root x0 x1 = some (y0, y1)) : CE Try.prog 41 [ti x0, T.agg [T.list (List.length x1) 3 (List.flatMap nodeC x1)]] (fun y => T.tup (brA y :: [tb y1])) (fun k y => eraseA y = y0 ∧ GoodA k y) := by
  unfold F_impl_root at h
  refine CE.intro (tab := tab) tab_ok (fn := Try.f41) Try.func41 (by kernel_rfl) rfl (Nat.le_of_ble_eq_true rfl) fun lo => ?_
  refine WPk.seq ?_
  refine WPk.path tab_ok mixed [(3, An.fz)] [.keep [5, 4, 3, 0], .keepO []] (ps := []) (e := .normal) (σ' := ⟨[], [(5, vb false), (4, V.t (T.nilp)), (3, V.t (T.ptr [T.list (List.length x1) 3 (List.flatMap nodeC x1)])), (0, vi x0)], []⟩) (by kernel_rfl) trivial ?_
  refine WPk.seq ?_
  obtain ⟨J1, hJ1, h⟩ := jn_some h
  refine WPk.joinA (fun (zz : Bool) => ⟨[], [(18, vb zz), (5, vb false), (4, V.t (T.nilp)), (3, V.t (T.ptr [T.list (List.length x1) 3 (List.flatMap nodeC x1)])), (0, vi x0)], []⟩) (fun zz => J1 zz = some (y0, y1)) ?_ ?_
  · -- to where they meet
    rcases ite_some h with ⟨h1, h⟩ | ⟨h1, h⟩
    · -- yes
      refine WPk.path tab_ok mixed [(10, An.call (tb (decide (1 ≤ x0) && decide (x0 ≤ 12)))), (12, An.b true)] [.keep [18, 5, 4, 3, 0], .keepO [], .names []] (ps := [(C Try.prog 63 [ti x0] (tb (decide (1 ≤ x0) && decide (x0 ≤ 12)))), ((!(decide (1 ≤ x0) && decide (x0 ≤ 12))) = true)]) (e := .normal) (σ' := ⟨[], [(18, vb true), (5, vb false), (4, V.t (T.nilp)), (3, V.t (T.ptr [T.list (List.length x1) 3 (List.flatMap nodeC x1)])), (0, vi x0)], []⟩) (by kernel_rfl) ⟨(isCount_C x0), h1, trivial⟩ ?_
      exact ⟨(true), h, rfl⟩
    · -- no
      refine WPk.path tab_ok mixed [(10, An.call (tb (decide (1 ≤ x0) && decide (x0 ≤ 12)))), (12, An.b false), (16, An.call (tb (decide ((1 : Int) ≤ ((List.length x1 : Nat) : Int)) && decide (((List.length x1 : Nat) : Int) ≤ (127 : Int)))))] [.keep [18, 5, 4, 3, 0], .keepO [], .names []] (ps := [(C Try.prog 63 [ti x0] (tb (decide (1 ≤ x0) && decide (x0 ≤ 12)))), ((!(decide (1 ≤ x0) && decide (x0 ≤ 12))) = false), (True), (C Try.prog 59 [ti ((List.length x1 : Nat) : Int), ti 1, ti 127] (tb (decide ((1 : Int) ≤ ((List.length x1 : Nat) : Int)) && decide (((List.length x1 : Nat) : Int) ≤ (127 : Int)))))]) (e := .normal) (σ' := ⟨[], [(18, vb (!(decide ((1 : Int) ≤ ((List.length x1 : Nat) : Int)) && decide (((List.length x1 : Nat) : Int) ≤ (127 : Int))))), (5, vb false), (4, V.t (T.nilp)), (3, V.t (T.ptr [T.list (List.length x1) 3 (List.flatMap nodeC x1)])), (0, vi x0)], []⟩) (by kernel_rfl) ⟨(isCount_C x0), h1, trivial, (by have hh := (in_C ((List.length x1 : Nat) : Int) (1 : Int) (127 : Int)); first | exact hh | simpa using hh), trivial⟩ ?_
      exact ⟨(!(decide ((1 : Int) ≤ ((List.length x1 : Nat) : Int)) && decide (((List.length x1 : Nat) : Int) ≤ (127 : Int)))), h, rfl⟩
  · -- from there
    intro v18 h0
    have h := (show J1 v18 = some (y0, y1) from h0)
    rw [hJ1] at h
    rcases ite_some h with ⟨h2, h⟩ | ⟨h2, h⟩
    · -- yes
      refine WPk.cond (b := v18) rfl (fun _ => ?_) (fun hh => by rw [h2] at hh; cases hh)
      simp only [Option.some.injEq, Prod.mk.injEq] at h
      obtain ⟨rfl, rfl⟩ := h
      refine WPk.path tab_ok mixed [] [.keep [5, 4], .keepO []] (ps := []) (e := .ret) (σ' := ⟨[], [(5, vb false), (4, V.t (T.nilp))], []⟩) (by kernel_rfl) trivial ?_
      exact ⟨.inl rfl, .inl ⟨.nil, by rfl, rfl, good_nil⟩⟩
    · -- no
      refine WPk.cond (b := v18) rfl (fun hh => by rw [h2] at hh; cases hh) (fun _ => ?_)
      refine WPk.path tab_ok mixed [] [.keep [5, 4, 3, 0], .keepO []] (ps := []) (e := .normal) (σ' := ⟨[], [(5, vb false), (4, V.t (T.nilp)), (3, V.t (T.ptr [T.list (List.length x1) 3 (List.flatMap nodeC x1)])), (0, vi x0)], []⟩) (by kernel_rfl) trivial ?_
      obtain ⟨r22, r22b, r22c, c0, h⟩ := bnd3_some h
      refine WPk.seq ?_
      refine WPk.callK tab_ok [] 2 [.keep [20, 21, 5, 4, 3], .keepO []] [.keep [8, 7, 6, 5, 4, 3], .keepO []] (f := 64) (ts := [T.agg [T.list (List.length x1) 3 (List.flatMap nodeC x1)], ti x0, ti 0, ti 0]) (σ1 := ⟨[], [(20, V.t (T.agg [T.list (List.length x1) 3 (List.flatMap nodeC x1)])), (21, vi x0), (5, vb false), (4, V.t (T.nilp)), (3, V.t (T.ptr [T.list (List.length x1) 3 (List.flatMap nodeC x1)]))], []⟩) (ps := [(1 ≤ 1)]) (by rfl) (by rfl) (by rfl) (by rfl) (by decide) (by kernel_rfl) ⟨by decide, trivial⟩ (by kernel_rfl) (by kernel_rfl) (F_impl_Tree_read_E fuel x1 x0 (0 : Int) (0 : Int) r22 r22b r22c c0) fun a22 k22 hk22 hΦ22 hold22 => ⟨[], ⟨[], [(8, vb r22c), (7, vi r22b), (6, V.t (brA a22)), (5, vb false), (4, V.t (T.nilp)), (3, V.t (T.ptr [T.list (List.length x1) 3 (List.flatMap nodeC x1)]))], []⟩, by kernel_rfl, trivial, ?_⟩
      rcases ite_some h with ⟨h3, h⟩ | ⟨h3, h⟩
      · simp only [Option.some.injEq, Prod.mk.injEq] at h
        obtain ⟨rfl, rfl⟩ := h
        refine WPk.path tab_ok mixed [(28, An.b true)] [.keep [5, 4], .keepO []] (ps := [((r22c) = true), (True), (True)]) (e := .ret) (σ' := ⟨[], [(5, vb (r22b == ((List.length x1 : Nat) : Int))), (4, V.t (brA a22))], []⟩) (by kernel_rfl) ⟨h3, trivial, trivial, trivial⟩ ?_
        exact ⟨.inl rfl, .inl ⟨a22, by rfl, hΦ22.1, hΦ22.2.1, fun b hb => Nat.le_trans hk22 (hΦ22.2.2 b hb)⟩⟩
      · simp only [Option.some.injEq, Prod.mk.injEq] at h
        obtain ⟨rfl, rfl⟩ := h
        refine WPk.path tab_ok mixed [(28, An.b false)] [.keep [5, 4], .keepO []] (ps := [((r22c) = false)]) (e := .ret) (σ' := ⟨[], [(5, vb false), (4, V.t (brA a22))], []⟩) (by kernel_rfl) ⟨h3, trivial⟩ ?_
        exact ⟨.inl rfl, .inl ⟨a22, by rfl, hΦ22.1, hΦ22.2.1, fun b hb => Nat.le_trans hk22 (hΦ22.2.2 b hb)⟩⟩
theorem FA_p_impl_branch_below_W (x0 : ABr) (x1 : List (Int × Bool)) (y0 : ABr) (h : FA_p_impl_branch_below x0 x1 = some y0) : C Try.prog 42 [brA x0, T.list (List.length x1) 2 (List.flatMap askedC x1)] (brA y0) := by
  unfold FA_p_impl_branch_below at h
  refine C.intro (tab := tab) tab_ok (fn := Try.f42) Try.func42 (by kernel_rfl) rfl (Nat.le_of_ble_eq_true rfl) ?_
  refine WP.seq ?_
  refine WP.path tab_ok mixed [] [.keep [4, 0, 1], .keepO []] (ps := []) (e := .normal) (σ' := ⟨[], [(4, V.t (T.nilp)), (0, V.t (brA x0)), (1, V.t (T.list (List.length x1) 2 (List.flatMap askedC x1)))], []⟩) (by kernel_rfl) trivial ?_
  obtain ⟨J1, hJ1, h⟩ := jn_some h
  refine WP.joinA (fun (zz : ABr) => ⟨[], [(4, V.t (T.nilp)), (0, V.t (brA zz))], []⟩) (fun zz => J1 zz = some y0) ?_ ?_
  · -- to where they meet
    refine WP.seq ?_
    refine WP.path tab_ok mixed [] [.keep [10, 9, 8, 4, 0], .keepO []] (ps := []) (e := .normal) (σ' := ⟨[], [(10, vi 0), (9, vi ((List.length x1 : Nat) : Int)), (8, V.t (T.list (List.length x1) 2 (List.flatMap askedC x1))), (4, V.t (T.nilp)), (0, V.t (brA x0))], []⟩) (by kernel_rfl) trivial ?_
    refine WP.block ?_
    refine WP.wk [.keep [10, 9, 8, 4, 0], .keepO [], .names []] (σ' := ⟨[], [(10, vi 0), (9, vi ((List.length x1 : Nat) : Int)), (8, V.t (T.list (List.length x1) 2 (List.flatMap askedC x1))), (4, V.t (T.nilp)), (0, V.t (brA x0))], []⟩) (ps := []) (by kernel_rfl) trivial ?_
    refine WP.st (σ' := ⟨[], [(10, vi (0 : Int)), (9, vi ((List.length x1 : Nat) : Int)), (8, V.t (T.list (List.length x1) 2 (List.flatMap askedC x1))), (4, V.t (T.nilp)), (0, V.t (brA x0))], []⟩) (by first | rfl | (simp only [tlS, tl, vl, vo, oc, ov, tbl, vbl, ty, vy] <;> rfl) | (simp <;> omega) | (simp []; done) | (rw [List.take_of_length_le (by simp [])] <;> rfl) | (simp [List.take_of_length_le]; done)) ?_
    refine WP.loop (α := Nat × Int × ABr) (fun zz => ⟨[], [(10, vi zz.2.1), (9, vi ((List.length x1 : Nat) : Int)), (8, V.t (T.list (List.length x1) 2 (List.flatMap askedC x1))), (4, V.t (T.nilp)), (0, V.t (brA zz.2.2))], []⟩) (fun zz => FA_p_impl_branch_below_L1 x1 J1 zz.1 zz.2.1 zz.2.2 = some y0) (fun zz => zz.1) (fuel, (0 : Int), x0) h ?_
    rintro ⟨n, v10, v0⟩ h0
    have h := (show FA_p_impl_branch_below_L1 x1 J1 n v10 v0 = some y0 from h0)
    rcases n with _ | n
    · rw [FA_p_impl_branch_below_L1] at h; cases h
    · rw [FA_p_impl_branch_below_L1] at h
      refine WP.seq ?_
      refine WP.path tab_ok mixed [] [.keep [11, 10, 9, 8, 4, 0], .keepO []] (ps := [(True)]) (e := .normal) (σ' := ⟨[], [(11, vb (decide (v10 < ((List.length x1 : Nat) : Int)))), (10, vi v10), (9, vi ((List.length x1 : Nat) : Int)), (8, V.t (T.list (List.length x1) 2 (List.flatMap askedC x1))), (4, V.t (T.nilp)), (0, V.t (brA v0))], []⟩) (by kernel_rfl) ⟨trivial, trivial⟩ ?_
      refine WP.seq ?_
      rcases ite_some h with ⟨h1, h⟩ | ⟨h1, h⟩
      · -- yes
        refine WP.cond (b := decide (v10 < ((List.length x1 : Nat) : Int))) rfl (fun _ => ?_) (fun hh => by rw [h1] at hh; cases hh)
        refine WP.path tab_ok mixed [] [.keep [10, 9, 8, 4, 0], .keepO []] (ps := []) (e := .normal) (σ' := ⟨[], [(10, vi v10), (9, vi ((List.length x1 : Nat) : Int)), (8, V.t (T.list (List.length x1) 2 (List.flatMap askedC x1))), (4, V.t (T.nilp)), (0, V.t (brA v0))], []⟩) (by kernel_rfl) trivial ?_
        refine WP.seq ?_
        refine WP.block ?_
        refine WP.seq ?_
        obtain ⟨c0, h⟩ := chk_some h
        refine WP.path tab_ok mixed [(13, An.v (T.agg [ti ((List.getD x1 (Int.toNat v10) (0, false)).1), tb ((List.getD x1 (Int.toNat v10) (0, false)).2)])), (6, An.id 2006)] [.keep [6, 10, 9, 8, 4, 0], .keepO [2006]] (ps := [((0 ≤ v10 ∧ v10 < ((List.length x1 : Nat) : Int))), (2 ≤ List.length (List.drop ((Int.toNat v10) * 2) (List.flatMap askedC x1))), (T.agg (List.take 2 (List.drop ((Int.toNat v10) * 2) (List.flatMap askedC x1))) = T.agg [ti ((List.getD x1 (Int.toNat v10) (0, false)).1), tb ((List.getD x1 (Int.toNat v10) (0, false)).2)]), ((0 + 2 ≤ 2 ∧ 2 = 2))]) (e := .normal) (σ' := ⟨[2006], [(6, V.ref 2006 0), (10, vi v10), (9, vi ((List.length x1 : Nat) : Int)), (8, V.t (T.list (List.length x1) 2 (List.flatMap askedC x1))), (4, V.t (T.nilp)), (0, V.t (brA v0))], [(2006, oc 51 [ti ((List.getD x1 (Int.toNat v10) (0, false)).1), tb ((List.getD x1 (Int.toNat v10) (0, false)).2)])]⟩) (by kernel_rfl) ⟨c0, fit_asked (i := Int.toNat v10) (by simp) (by omega), at_asked (by simp) (by omega), by decide, trivial⟩ ?_
        refine WP.seq ?_
        rcases brAM_some h with ⟨rfl, h2⟩ | ⟨bb, q, bu, bv, rfl, h2⟩
        · -- nil
          have h := h2
          cases h
        · -- node
          have h := h2
          refine WP.path tab_ok mixed [] [.keep [7, 6, 10, 9, 8, 4, 0], .keepO [2006]] (ps := [(True)]) (e := .normal) (σ' := ⟨[2006], [(7, V.t (brA bv)), (6, V.ref 2006 0), (10, vi v10), (9, vi ((List.length x1 : Nat) : Int)), (8, V.t (T.list (List.length x1) 2 (List.flatMap askedC x1))), (4, V.t (T.nilp)), (0, V.t (T.pa bb [ti q, brA bu, brA bv]))], [(2006, oc 51 [ti ((List.getD x1 (Int.toNat v10) (0, false)).1), tb ((List.getD x1 (Int.toNat v10) (0, false)).2)])]⟩) (by kernel_rfl) ⟨trivial, trivial⟩ ?_
          refine WP.seq ?_
          refine WP.seq ?_
          refine WP.path tab_ok mixed [] [.keep [19, 7, 10, 9, 8, 4, 0], .keepO []] (ps := [(True)]) (e := .normal) (σ' := ⟨[2006], [(19, vb ((List.getD x1 (Int.toNat v10) (0, false)).2)), (7, V.t (brA bv)), (10, vi v10), (9, vi ((List.length x1 : Nat) : Int)), (8, V.t (T.list (List.length x1) 2 (List.flatMap askedC x1))), (4, V.t (T.nilp)), (0, V.t (T.pa bb [ti q, brA bu, brA bv]))], []⟩) (by kernel_rfl) ⟨trivial, trivial⟩ ?_
          rcases ite_some h with ⟨h3, h⟩ | ⟨h3, h⟩
          · -- yes
            refine WP.cond (b := (List.getD x1 (Int.toNat v10) (0, false)).2) rfl (fun _ => ?_) (fun hh => by rw [h3] at hh; cases hh)
            refine WP.path tab_ok mixed [] [.keep [7, 10, 9, 8, 4, 0], .keepO []] (ps := [(True)]) (e := .normal) (σ' := ⟨[2006], [(7, V.t (brA bu)), (10, vi v10), (9, vi ((List.length x1 : Nat) : Int)), (8, V.t (T.list (List.length x1) 2 (List.flatMap askedC x1))), (4, V.t (T.nilp)), (0, V.t (T.pa bb [ti q, brA bu, brA bv]))], []⟩) (by kernel_rfl) ⟨trivial, trivial⟩ ?_
            refine WP.path tab_ok mixed [] [.keep [0, 10, 9, 8, 4], .keepO []] (ps := []) (e := .normal) (σ' := ⟨[2006], [(0, V.t (brA bu)), (10, vi v10), (9, vi ((List.length x1 : Nat) : Int)), (8, V.t (T.list (List.length x1) 2 (List.flatMap askedC x1))), (4, V.t (T.nilp))], []⟩) (by kernel_rfl) trivial ?_
            obtain ⟨c1, h⟩ := chk_some h
            refine WP.path tab_ok mixed [(25, An.v (T.int .i64 (v10 + (1 : Int))))] [.keep [10, 9, 8, 4, 0], .keepO [], .names []] (ps := [(True), (T.int .i64 (IntKind.wrap .i64 (v10 + (1 : Int))) = T.int .i64 (v10 + (1 : Int)))]) (e := .normal) (σ' := ⟨[], [(10, vi (v10 + (1 : Int))), (9, vi ((List.length x1 : Nat) : Int)), (8, V.t (T.list (List.length x1) 2 (List.flatMap askedC x1))), (4, V.t (T.nilp)), (0, V.t (brA bu))], []⟩) (by kernel_rfl) ⟨trivial, wrapI c1, trivial⟩ ?_
            exact ⟨(n, (v10 + (1 : Int)), bu), h, Nat.lt_succ_self _, rfl⟩
          · -- no
            refine WP.cond (b := (List.getD x1 (Int.toNat v10) (0, false)).2) rfl (fun hh => by rw [h3] at hh; cases hh) (fun _ => ?_)
            refine WP.path tab_ok mixed [] [.keep [7, 10, 9, 8, 4, 0], .keepO []] (ps := []) (e := .normal) (σ' := ⟨[2006], [(7, V.t (brA bv)), (10, vi v10), (9, vi ((List.length x1 : Nat) : Int)), (8, V.t (T.list (List.length x1) 2 (List.flatMap askedC x1))), (4, V.t (T.nilp)), (0, V.t (T.pa bb [ti q, brA bu, brA bv]))], []⟩) (by kernel_rfl) trivial ?_
            refine WP.path tab_ok mixed [] [.keep [0, 10, 9, 8, 4], .keepO []] (ps := []) (e := .normal) (σ' := ⟨[2006], [(0, V.t (brA bv)), (10, vi v10), (9, vi ((List.length x1 : Nat) : Int)), (8, V.t (T.list (List.length x1) 2 (List.flatMap askedC x1))), (4, V.t (T.nilp))], []⟩) (by kernel_rfl) trivial ?_
            obtain ⟨c1, h⟩ := chk_some h
            refine WP.path tab_ok mixed [(25, An.v (T.int .i64 (v10 + (1 : Int))))] [.keep [10, 9, 8, 4, 0], .keepO [], .names []] (ps := [(True), (T.int .i64 (IntKind.wrap .i64 (v10 + (1 : Int))) = T.int .i64 (v10 + (1 : Int)))]) (e := .normal) (σ' := ⟨[], [(10, vi (v10 + (1 : Int))), (9, vi ((List.length x1 : Nat) : Int)), (8, V.t (T.list (List.length x1) 2 (List.flatMap askedC x1))), (4, V.t (T.nilp)), (0, V.t (brA bv))], []⟩) (by kernel_rfl) ⟨trivial, wrapI c1, trivial⟩ ?_
            exact ⟨(n, (v10 + (1 : Int)), bv), h, Nat.lt_succ_self _, rfl⟩
      · -- no
        refine WP.cond (b := decide (v10 < ((List.length x1 : Nat) : Int))) rfl (fun hh => by rw [h1] at hh; cases hh) (fun _ => ?_)
        refine WP.path tab_ok mixed [] [.keep [4, 0], .keepO [], .names []] (ps := []) (e := (.exit 0)) (σ' := ⟨[], [(4, V.t (T.nilp)), (0, V.t (brA v0))], []⟩) (by kernel_rfl) trivial ?_
        exact ⟨(v0), h, rfl⟩
  · -- from there
    intro v0 h0
    have h := (show J1 v0 = some y0 from h0)
    rw [hJ1] at h
    have h := Option.some.inj h
    subst h
    exact WP.pathW tab_ok mixed [] _ (ps := []) (r := brA v0) (by kernel_rfl) trivial (WkT.eq (y := brA v0) (WkT.refl _) rfl) (fun _ h => h)
theorem biteT {α : Type} {c : Bool} (h : c = true) (x y : α) : (bif c then x else y) = x := by rw [h]; rfl
theorem biteF {α : Type} {c : Bool} (h : c = false) (x y : α) : (bif c then x else y) = y := by rw [h]; rfl
theorem cutA_out {c : Nat} : ∀ {x : ABr}, c ∉ blocksA x → cutA c x = x
  | .nil, _ => rfl
  | .nd b q y n, h => by
    simp only [blocksA, List.mem_cons, List.mem_append, not_or] at h
    unfold cutA
    rw [if_neg (fun e => h.1 e.symm), cutA_out h.2.1, cutA_out h.2.2]
theorem belowA {w : List (Int × Bool)} : ∀ (n : Nat) (i : Int) (a : ABr) (r : Br), F_p_impl_branch_below_L1 w some n i (eraseA a) = some r → ∃ a', FA_p_impl_branch_below_L1 w some n i a = some a' ∧ eraseA a' = r
  | 0, i, a, r, h => by rw [F_p_impl_branch_below_L1] at h; cases h
  | n + 1, i, a, r, h => by
    rw [F_p_impl_branch_below_L1] at h
    rw [FA_p_impl_branch_below_L1]
    by_cases hi : i < ((w.length : Nat) : Int)
    · rw [biteT (decide_eq_true hi)] at h ⊢
      obtain ⟨c0, h⟩ := chk_some h
      rw [chk_pos c0]
      cases a with
      | nil => cases h
      | nd b q y z =>
        simp only [eraseA, brM] at h
        simp only [brAM]
        cases hb : (w.getD i.toNat (0, false)).2 with
        | true =>
          rw [hb, biteT rfl] at h
          obtain ⟨c1, h⟩ := chk_some h
          rw [biteT rfl, chk_pos c1]
          exact belowA n _ y r h
        | false =>
          rw [hb, biteF rfl] at h
          obtain ⟨c1, h⟩ := chk_some h
          rw [biteF rfl, chk_pos c1]
          exact belowA n _ z r h
    · rw [biteF (decide_eq_false hi)] at h ⊢
      cases h
      exact ⟨a, rfl, rfl⟩
/-- The branch at a way's end made a leaf: by its block, and by the way. -/
theorem cut_way {w : List (Int × Bool)} : ∀ (n : Nat) (i : Int) (a : ABr) (c : Nat) (q : Int) (y z : ABr), 0 ≤ i → FA_p_impl_branch_below_L1 w some n i a = some (.nd c q y z) → (blocksA a).Nodup → eraseA (cutA c a) = cutW (eraseA a) (w.drop i.toNat) ∧ c ∈ blocksA a
  | 0, i, a, c, q, y, z, _, h, _ => by rw [FA_p_impl_branch_below_L1] at h; cases h
  | n + 1, i, a, c, q, y, z, h0, h, hn => by
    rw [FA_p_impl_branch_below_L1] at h
    by_cases hi : i < ((w.length : Nat) : Int)
    · rw [biteT (decide_eq_true hi)] at h
      obtain ⟨c0, h⟩ := chk_some h
      cases a with
      | nil => cases h
      | nd b q' y' z' =>
        simp only [brAM] at h
        have hil : i.toNat < w.length := by omega
        have e1 : (i + 1).toNat = i.toNat + 1 := by omega
        have ed : w.drop i.toNat = w.getD i.toNat (0, false) :: w.drop (i + 1).toNat := by
          rw [e1, List.drop_eq_getElem_cons hil, List.getD_eq_getElem?_getD, List.getElem?_eq_getElem hil]; rfl
        simp only [blocksA, List.nodup_cons, List.nodup_append, List.mem_append, not_or] at hn
        obtain ⟨⟨n1, n2⟩, n3, n4, n5⟩ := hn
        rw [ed]
        cases hb : (w.getD i.toNat (0, false)).2 with
        | true =>
          rw [hb, biteT rfl] at h
          obtain ⟨c1, h⟩ := chk_some h
          obtain ⟨g1, g2⟩ := cut_way n (i + 1) y' c q y z (by omega) h n3
          have hne : b ≠ c := fun e => n1 (e ▸ g2)
          have ho : c ∉ blocksA z' := fun hm => n5 c g2 c hm rfl
          refine ⟨?_, by simp only [blocksA, List.mem_cons, List.mem_append]; exact .inr (.inl g2)⟩
          unfold cutA
          rw [if_neg hne, cutA_out ho]
          simp only [eraseA, cutW]
          rw [hb, if_pos rfl, g1]
        | false =>
          rw [hb, biteF rfl] at h
          obtain ⟨c1, h⟩ := chk_some h
          obtain ⟨g1, g2⟩ := cut_way n (i + 1) z' c q y z (by omega) h n4
          have hne : b ≠ c := fun e => n2 (e ▸ g2)
          have ho : c ∉ blocksA y' := fun hm => n5 c hm c g2 rfl
          refine ⟨?_, by simp only [blocksA, List.mem_cons, List.mem_append]; exact .inr (.inr g2)⟩
          unfold cutA
          rw [if_neg hne, cutA_out ho]
          simp only [eraseA, cutW]
          rw [hb, if_neg (by simp), g1]
    · rw [biteF (decide_eq_false hi)] at h
      cases h
      rw [List.drop_eq_nil_of_le (by omega)]
      refine ⟨?_, by simp [blocksA]⟩
      unfold cutA
      rw [if_pos rfl]
      rfl
theorem F_impl_CutTree_W (x0 : Int) (x1 : List Nd) (x2 : Int) (y0 : List Nd) (y1 : Bool) (h : F_impl_CutTree x0 x1 x2 = some (y0, y1)) : CG Try.prog 13 [vi x0, V.t (T.agg [T.list (List.length x1) 3 (List.flatMap nodeC x1)]), vi x2] [] (V.tup [V.agg [V.own 9000 3 (List.length y0)], vb y1]) [(9000, oc 53 (List.flatMap nodeC y0))] := by
  unfold F_impl_CutTree at h
  refine CG.introK (tab := tab) tab_ok (fn := Try.f13) Try.func13 (by kernel_rfl) rfl (Nat.le_of_ble_eq_true rfl) (by kernel_rfl) fun lo => ?_
  refine WPk.seq ?_
  refine WPk.path tab_ok mixed [(4, An.fz), (6, An.id 2006)] [.keep [7, 6, 4, 0, 2], .keepO [2006]] (ps := []) (e := .normal) (σ' := ⟨[2006], [(7, vb false), (6, V.ref 2006 0), (4, V.t (T.ptr [T.list (List.length x1) 3 (List.flatMap nodeC x1)])), (0, vi x0), (2, vi x2)], [(2006, oc 26 [T.nils])]⟩) (by kernel_rfl) trivial ?_
  refine WPk.seq ?_
  obtain ⟨r13, r13b, c0, h⟩ := bnd2_some h
  refine WPk.callK tab_ok [] 2 [.keep [11, 12, 7, 6, 4, 0, 2], .keepO [2006]] [.keep [9, 8, 7, 6, 4, 0, 2], .keepO [2006]] (f := 41) (ts := [ti x0, T.agg [T.list (List.length x1) 3 (List.flatMap nodeC x1)]]) (σ1 := ⟨[2006], [(11, vi x0), (12, V.t (T.agg [T.list (List.length x1) 3 (List.flatMap nodeC x1)])), (7, vb false), (6, V.ref 2006 0), (4, V.t (T.ptr [T.list (List.length x1) 3 (List.flatMap nodeC x1)])), (0, vi x0), (2, vi x2)], [(2006, oc 26 [T.nils])]⟩) (ps := [(1 ≤ 1)]) (by rfl) (by rfl) (by rfl) (by rfl) (by decide) (by kernel_rfl) ⟨by decide, trivial⟩ (by kernel_rfl) (by kernel_rfl) (F_impl_root_E x0 x1 r13 r13b c0) fun a13 k13 hk13 hΦ13 hold13 => ⟨[], ⟨[2006], [(9, vb r13b), (8, V.t (brA a13)), (7, vb false), (6, V.ref 2006 0), (4, V.t (T.ptr [T.list (List.length x1) 3 (List.flatMap nodeC x1)])), (0, vi x0), (2, vi x2)], [(2006, oc 26 [T.nils])]⟩, by kernel_rfl, trivial, ?_⟩
  refine WPk.seq ?_
  obtain ⟨J1, hJ1, h⟩ := jn_some h
  refine WPk.joinA (fun (zz : Bool) => ⟨[2006], [(24, vb zz), (8, V.t (brA a13)), (7, vb false), (6, V.ref 2006 0), (4, V.t (T.ptr [T.list (List.length x1) 3 (List.flatMap nodeC x1)])), (2, vi x2)], [(2006, oc 26 [T.nils])]⟩) (fun zz => J1 zz = some (y0, y1)) ?_ ?_
  · rcases ite_some h with ⟨h1, h⟩ | ⟨h1, h⟩
    · refine WPk.path tab_ok mixed [(18, An.b true)] [.keep [24, 8, 7, 6, 4, 2], .keepO [2006], .names [(2006, 2006)]] (ps := [((!r13b) = true)]) (e := .normal) (σ' := ⟨[2006], [(24, vb true), (8, V.t (brA a13)), (7, vb false), (6, V.ref 2006 0), (4, V.t (T.ptr [T.list (List.length x1) 3 (List.flatMap nodeC x1)])), (2, vi x2)], [(2006, oc 26 [T.nils])]⟩) (by kernel_rfl) ⟨h1, trivial⟩ ?_
      exact ⟨(true), h, rfl⟩
    · obtain ⟨r22, c1, h⟩ := bnd1_some h
      refine WPk.path tab_ok mixed [(18, An.b false), (22, An.call (tb r22))] [.keep [24, 8, 7, 6, 4, 2], .keepO [2006], .names [(2006, 2006)]] (ps := [((!r13b) = false), (1 ≤ 1), (C Try.prog 34 [ti x0, T.agg [T.list (List.length x1) 3 (List.flatMap nodeC x1)], ti x2] (tb r22))]) (e := .normal) (σ' := ⟨[2006], [(24, vb (!r22)), (8, V.t (brA a13)), (7, vb false), (6, V.ref 2006 0), (4, V.t (T.ptr [T.list (List.length x1) 3 (List.flatMap nodeC x1)])), (2, vi x2)], [(2006, oc 26 [T.nils])]⟩) (by kernel_rfl) ⟨h1, by decide, (F_impl_isNode_W x0 x1 x2 r22 c1), trivial⟩ ?_
      exact ⟨(!r22), h, rfl⟩
  · intro v24 h0
    have h := (show J1 v24 = some (y0, y1) from h0)
    rw [hJ1] at h
    rcases ite_some h with ⟨h2, h⟩ | ⟨h2, h⟩
    · refine WPk.cond (b := v24) rfl (fun _ => ?_) (fun hh => by rw [h2] at hh; cases hh)
      simp only [Option.some.injEq, Prod.mk.injEq] at h
      obtain ⟨rfl, rfl⟩ := h
      exact WPk.of (WP.pathG tab_ok mixed [] [.keep [6, 7], .keepO [2006], .names [(2006, 2006)]] [] _ (r' := V.tup [V.agg [V.own 9000 3 (List.length ([] : List Nd))], vb false]) (ps := [(True), ((0 + 1 ≤ 1 ∧ 1 = 1)), (0 + 1 ≤ 1)]) (r := V.t (T.tup [T.agg [T.nils], tb false])) (N := [2006]) (O := []) [(9000, 53)] (by kernel_rfl) ⟨trivial, by decide, by decide, trivial⟩ ⟨(by first | rfl | (simp; done)), (WkT.refl _), trivial⟩ rfl rfl (fun _ h => h))
    · refine WPk.cond (b := v24) rfl (fun hh => by rw [h2] at hh; cases hh) (fun _ => ?_)
      refine WPk.path tab_ok mixed [] [.keep [8, 7, 6, 4, 2], .keepO [2006]] (ps := []) (e := .normal) (σ' := ⟨[2006], [(8, V.t (brA a13)), (7, vb false), (6, V.ref 2006 0), (4, V.t (T.ptr [T.list (List.length x1) 3 (List.flatMap nodeC x1)])), (2, vi x2)], [(2006, oc 26 [T.nils])]⟩) (by kernel_rfl) trivial ?_
      obtain ⟨c1, h⟩ := chk_some h
      obtain ⟨c2, h⟩ := chk_some h
      obtain ⟨c3, h⟩ := chk_some h
      obtain ⟨c4, h⟩ := chk_some h
      obtain ⟨r30, c5, h⟩ := bnd1_some h
      rcases brM_some h with ⟨rfl, h3⟩ | ⟨q, bu, bv, rfl, h3⟩
      · cases h3
      obtain ⟨r31, c6, h4⟩ := bnd1_some h3
      simp only [Option.some.injEq, Prod.mk.injEq] at h4
      obtain ⟨rfl, rfl⟩ := h4
      have c5' : F_p_impl_branch_below_L1 (wayN x1 x2 7 0) some fuel 0 (eraseA a13) = some (.nd q bu bv) := by rw [hΦ13.1]; exact c5
      obtain ⟨a30, e30, e31⟩ := belowA _ _ _ _ c5'
      rcases a30 with _ | ⟨c, q', y, z⟩
      · cases e31
      obtain ⟨g1, g2⟩ := cut_way _ _ _ _ _ _ _ (Int.le_refl _) e30 hΦ13.2.1
      have hA : FA_p_impl_branch_below a13 (wayN x1 x2 7 0) = some (.nd c q' y z) := e30
      have hcut : eraseA (cutA c a13) = cutW r13 (wayN x1 x2 7 0) := by rw [g1, hΦ13.1]; rfl
      refine WPk.seq ?_
      refine WPk.storeK tab_ok [(29, An.call (T.list (List.length (wayN x1 x2 7 0)) 2 (List.flatMap askedC (wayN x1 x2 7 0)))), (30, An.call (brA (.nd c q' y z)))] 7 [.keep [32, 31, 8, 7, 6], .keepO [2006]] (c := c) (q := q') (y := y) (z := z) (d8 := 8) (a0 := a13) (σ1 := ⟨[2006], [(32, V.t (T.pa c [T.int .i64 q', brA y, brA z])), (31, V.t (T.agg [ti 0, T.nilp, T.nilp])), (8, V.t (brA a13)), (7, vb false), (6, V.ref 2006 0)], [(2006, oc 26 [T.nils])]⟩) (ps := [(1 ≤ 1), (C Try.prog 35 [T.agg [T.list (List.length x1) 3 (List.flatMap nodeC x1)], ti x2] (T.list (List.length (wayN x1 x2 7 0)) 2 (List.flatMap askedC (wayN x1 x2 7 0)))), (C Try.prog 42 [brA a13, T.list (List.length (wayN x1 x2 7 0)) 2 (List.flatMap askedC (wayN x1 x2 7 0))] (brA (.nd c q' y z))), (True)]) (by rfl) (by rfl) (by rfl) (by rfl) (by rfl) (by kernel_rfl) ⟨by decide, (way_C x1 x2 x0 c1 c2 c3 c4), FA_p_impl_branch_below_W a13 _ _ hA, trivial, trivial⟩ (by rfl) (by rfl) (by rfl) (by rfl) (Nat.le_trans hk13 (hΦ13.2.2 c g2)) (by rfl) [7, 6] (by rfl) (by rfl) ?_
      rw [hcut]
      exact WPk.of (WP.pathG tab_ok mixed [(34, An.callG [(9000, 10340)] [V.t (brT (cutW r13 (wayN x1 x2 7 0)))] [] (V.agg [V.own 9000 3 (List.length r31)]) [(9000, oc 53 (List.flatMap nodeC r31))])] [.keep [6, 7], .keepO [10340, 2006], .names [(10340, 9000), (2006, 2006)]] [9000] _ (r' := V.tup [V.agg [V.own 9000 3 (List.length r31)], vb true]) (ps := [(CG Try.prog 43 [V.t (brT (cutW r13 (wayN x1 x2 7 0)))] [] (V.agg [V.own 9000 3 (List.length r31)]) [(9000, oc 53 (List.flatMap nodeC r31))]), (WkT (brT (cutW r13 (wayN x1 x2 7 0))) (brT (cutW r13 (wayN x1 x2 7 0)))), ((0 + 1 ≤ 1 ∧ 1 = 1)), (0 + 1 ≤ 1)]) (r := V.tup [V.agg [V.own 9000 3 (List.length r31)], vb true]) (N := [9000, 2006]) (O := [(9000, oc 53 (List.flatMap nodeC r31))]) [] (by kernel_rfl) ⟨F_p_impl_branch_tree_W _ _ c6, WkT.refl _, by decide, by decide, trivial⟩ ⟨rfl, (WkT.refl _), trivial⟩ rfl rfl (fun _ h => h))
theorem F_impl_CutTree_W_C (x0 : Int) (x1 : List Nd) (x2 : Int) (y0 : List Nd) (y1 : Bool) (h : F_impl_CutTree x0 x1 x2 = some (y0, y1)) : C Try.prog 13 [ti x0, T.agg [T.list (List.length x1) 3 (List.flatMap nodeC x1)], ti x2] (T.tup [T.agg [T.list (List.length y0) 3 (List.flatMap nodeC y0)], tb y1]) :=
  CG.toC (ps := [(List.length (List.flatMap nodeC y0) = (List.length y0) * 3)]) (F_impl_CutTree_W  x0 x1 x2 y0 y1 h) (by rfl) ⟨len_node _, trivial⟩
theorem F_spec_l9Sub_W (x0 : Int) (x1 : List Nd) (x2 : Int) (y0 : List Nd) (h : F_spec_l9Sub x0 x1 x2 = some y0) : CG Try.prog 45 [vi x0, V.t (T.agg [T.list (List.length x1) 3 (List.flatMap nodeC x1)]), vi x2] [] (V.own 9000 3 (List.length y0)) [(9000, oc 53 (List.flatMap nodeC y0))] := by
  unfold F_spec_l9Sub at h
  refine CG.intro (tab := tab) tab_ok (fn := Try.f45) Try.func45 (by kernel_rfl) rfl (Nat.le_of_ble_eq_true rfl) (by kernel_rfl) ?_
  obtain ⟨c0, h⟩ := chk_some h
  obtain ⟨c1, h⟩ := chk_some h
  obtain ⟨c2, h⟩ := chk_some h
  obtain ⟨c3, h⟩ := chk_some h
  obtain ⟨c4, h⟩ := chk_some h
  obtain ⟨r25, c5, h⟩ := bnd1_some h
  have h := Option.some.inj h
  subst h
  exact WP.pathG tab_ok mixed [(4, An.fz), (13, An.call (T.tup [ti ((readN x0 x1 7 x2).2.1), tb ((readN x0 x1 7 x2).2.2)])), (16, An.id 2016), (21, An.v (T.list (List.length (List.take (Int.toNat ((readN x0 x1 7 x2).2.1) - Int.toNat x2) (List.drop (Int.toNat x2) x1))) 3 (List.flatMap nodeC (List.take (Int.toNat ((readN x0 x1 7 x2).2.1) - Int.toNat x2) (List.drop (Int.toNat x2) x1))))), (22, An.id 2022), (24, An.v (T.int .i64 (0 - x2))), (25, An.callG [(9000, 10250)] [V.t (T.list (List.length (List.take (Int.toNat ((readN x0 x1 7 x2).2.1) - Int.toNat x2) (List.drop (Int.toNat x2) x1))) 3 (List.flatMap nodeC (List.take (Int.toNat ((readN x0 x1 7 x2).2.1) - Int.toNat x2) (List.drop (Int.toNat x2) x1)))), vi (0 - x2)] [] (V.own 9000 3 (List.length r25)) [(9000, oc 53 (List.flatMap nodeC r25))])] [.keep [6], .keepO [10250], .names [(10250, 9000)]] [9000] _ (r' := V.own 9000 3 (List.length r25)) (ps := [(1 ≤ 1), (C Try.prog 62 [ti x0, T.agg [T.list (List.length x1) 3 (List.flatMap nodeC x1)], ti x2, ti 0] (T.tup [ti ((readN x0 x1 7 x2).2.1), tb ((readN x0 x1 7 x2).2.2)])), (True), (0 = 0 * 3), (True), ((0 ≤ x2 ∧ x2 ≤ ((readN x0 x1 7 x2).2.1) ∧ ((readN x0 x1 7 x2).2.1) ≤ ((List.length x1 : Nat) : Int))), (T.list ((Int.toNat ((readN x0 x1 7 x2).2.1)) - (Int.toNat x2)) 3 (List.take (((Int.toNat ((readN x0 x1 7 x2).2.1)) - (Int.toNat x2)) * 3) (List.drop ((Int.toNat x2) * 3) (List.flatMap nodeC x1))) = T.list (List.length (List.take (Int.toNat ((readN x0 x1 7 x2).2.1) - Int.toNat x2) (List.drop (Int.toNat x2) x1))) 3 (List.flatMap nodeC (List.take (Int.toNat ((readN x0 x1 7 x2).2.1) - Int.toNat x2) (List.drop (Int.toNat x2) x1)))), (True), (0 = 0 * 3), (((0 + (List.length (List.take (Int.toNat ((readN x0 x1 7 x2).2.1) - Int.toNat x2) (List.drop (Int.toNat x2) x1)))) * 24 ≤ 140737488355328 ∧ 0 + (List.length (List.take (Int.toNat ((readN x0 x1 7 x2).2.1) - Int.toNat x2) (List.drop (Int.toNat x2) x1))) ≤ maxLen)), (T.int .i64 (IntKind.wrap .i64 (0 - x2)) = T.int .i64 (0 - x2)), (CG Try.prog 68 [V.t (T.list (List.length (List.take (Int.toNat ((readN x0 x1 7 x2).2.1) - Int.toNat x2) (List.drop (Int.toNat x2) x1))) 3 (List.flatMap nodeC (List.take (Int.toNat ((readN x0 x1 7 x2).2.1) - Int.toNat x2) (List.drop (Int.toNat x2) x1)))), vi (0 - x2)] [] (V.own 9000 3 (List.length r25)) [(9000, oc 53 (List.flatMap nodeC r25))]), ((V.own 9000 3 (List.length r25)).flat = true), (flatO [(9000, oc 53 (List.flatMap nodeC r25))] = true), (List.length (List.flatMap nodeC (List.take (Int.toNat ((readN x0 x1 7 x2).2.1) - Int.toNat x2) (List.drop (Int.toNat x2) x1))) = (0 + (List.length (List.take (Int.toNat ((readN x0 x1 7 x2).2.1) - Int.toNat x2) (List.drop (Int.toNat x2) x1)))) * 3), (WkT (T.list (0 + (List.length (List.take (Int.toNat ((readN x0 x1 7 x2).2.1) - Int.toNat x2) (List.drop (Int.toNat x2) x1)))) 3 (List.flatMap nodeC (List.take (Int.toNat ((readN x0 x1 7 x2).2.1) - Int.toNat x2) (List.drop (Int.toNat x2) x1)))) (T.list (List.length (List.take (Int.toNat ((readN x0 x1 7 x2).2.1) - Int.toNat x2) (List.drop (Int.toNat x2) x1))) 3 (List.flatMap nodeC (List.take (Int.toNat ((readN x0 x1 7 x2).2.1) - Int.toNat x2) (List.drop (Int.toNat x2) x1))))), (WkT (ti (0 - x2)) (ti (0 - x2)))]) (r := V.own 9000 3 (List.length r25)) (N := [9000]) (O := [(9000, oc 53 (List.flatMap nodeC r25))]) [] (by kernel_rfl) ⟨by decide, (l9End_C x1 x0 7 x2 (0 : Int) c0 (by omega) c1), trivial, by decide, trivial, c2, slF (f := nodeC) (k := 3) (fun _ => rfl) (l := x2) (h := ((readN x0 x1 7 x2).2.1)) c2 (by first | rfl | (simp; done) | omega) (by first | rfl | omega | (simp; done)) (by first | rfl | omega | (simp; done)), trivial, by decide, c3, wrapI c4, (F_spec_l9Moved_W (List.take (Int.toNat ((readN x0 x1 7 x2).2.1) - Int.toNat x2) (List.drop (Int.toNat x2) x1)) (0 - x2) r25 c5), by first | rfl | (simp [V.flats, V.flat, T.flats, T.flat, flats_app, flats_int, flats_bool, flats_str, flats_node, flats_asked, flats_pair, flats_recs, flats_fact, flatEs_mpB, flatEs_mpI, flatEs_mp3]; done), by first | rfl | (simp [flatO, Tl.Obj.flat, V.flats, V.flat, T.flats, T.flat, flats_app, flats_int, flats_bool, flats_str, flats_node, flats_asked, flats_pair, flats_recs, flats_fact, flatEs_mpB, flatEs_mpI, flatEs_mp3]; done), by first | exact len_node _ | (rw [len_node]; first | done | omega | (simp; done) | (simp only [tlL]; omega) | (simp; omega)), WkT.eq (WkT.refl _) (by first | rfl | (simp only [tlS, tl, vl, vo, oc, ov, tbl, vbl, ty, vy] <;> rfl) | (simp <;> omega) | (simp []; done) | (rw [List.take_of_length_le (by simp [])] <;> rfl) | (simp [List.take_of_length_le]; done)), WkT.refl _, trivial⟩ ⟨rfl, trivial⟩ rfl rfl (fun _ h => h)
theorem F_spec_l9Sub_W_C (x0 : Int) (x1 : List Nd) (x2 : Int) (y0 : List Nd) (h : F_spec_l9Sub x0 x1 x2 = some y0) : C Try.prog 45 [ti x0, T.agg [T.list (List.length x1) 3 (List.flatMap nodeC x1)], ti x2] (T.list (List.length y0) 3 (List.flatMap nodeC y0)) :=
  CG.toC (ps := [(List.length (List.flatMap nodeC y0) = (List.length y0) * 3)]) (F_spec_l9Sub_W  x0 x1 x2 y0 h) (by rfl) ⟨by first | exact len_node _ | (rw [len_node]; first | done | omega | (simp; done) | (simp; omega)), trivial⟩
theorem F_spec_l9Cut_B_W (self : Int → (List Nd) → Int → Option (List Nd)) (hself : ∀ (x0 : Int) (x1 : List Nd) (x2 : Int) (y0 : List Nd), self x0 x1 x2 = some y0 → CG Try.prog 44 [vi x0, V.t (T.list (List.length x1) 3 (List.flatMap nodeC x1)), vi x2] [] (V.own 9000 3 (List.length y0)) [(9000, oc 53 (List.flatMap nodeC y0))]) (x0 : Int) (x1 : List Nd) (x2 : Int) (y0 : List Nd) (h : F_spec_l9Cut_B self x0 x1 x2 = some y0) : CG Try.prog 44 [vi x0, V.t (T.list (List.length x1) 3 (List.flatMap nodeC x1)), vi x2] [] (V.own 9000 3 (List.length y0)) [(9000, oc 53 (List.flatMap nodeC y0))] := by
  unfold F_spec_l9Cut_B at h
  refine CG.intro (tab := tab) tab_ok (fn := Try.f44) Try.func44 (by kernel_rfl) rfl (Nat.le_of_ble_eq_true rfl) (by kernel_rfl) ?_
  refine WP.seq ?_
  refine WP.path tab_ok mixed [] [.keep [6, 0, 1, 2], .keepO []] (ps := []) (e := .normal) (σ' := ⟨[], [(6, V.t (T.nils)), (0, vi x0), (1, V.t (T.list (List.length x1) 3 (List.flatMap nodeC x1))), (2, vi x2)], []⟩) (by kernel_rfl) trivial ?_
  refine WP.seq ?_
  refine WP.seq ?_
  refine WP.path tab_ok mixed [] [.keep [12, 6, 0, 1, 2], .keepO []] (ps := [(True)]) (e := .normal) (σ' := ⟨[], [(12, vb (x2 == (0 : Int))), (6, V.t (T.nils)), (0, vi x0), (1, V.t (T.list (List.length x1) 3 (List.flatMap nodeC x1))), (2, vi x2)], []⟩) (by kernel_rfl) ⟨trivial, trivial⟩ ?_
  rcases ite_some h with ⟨h1, h⟩ | ⟨h1, h⟩
  · -- yes
    refine WP.cond (b := x2 == (0 : Int)) rfl (fun _ => ?_) (fun hh => by rw [h1] at hh; cases hh)
    have h := Option.some.inj h
    subst h
    exact WP.pathG tab_ok mixed [(13, An.call (T.agg [ti (-1), ti (-1), ti (-1)])), (14, An.id 2014)] [.keep [6], .keepO [2014], .names [(2014, 9000)]] [9000] _ (r' := V.own 9000 3 (List.length [((-1 : Int), (-1 : Int), (-1 : Int))])) (ps := [(C Try.prog 66 [] (T.agg [ti (-1), ti (-1), ti (-1)])), ((3 = 3 ∧ 0 + 3 ≤ 3) ∧ True), (3 = 1 * 3)]) (r := V.own 9000 3 1) (N := [9000]) (O := [(9000, oc 53 [ti (-1), ti (-1), ti (-1)])]) [] (by kernel_rfl) ⟨l9Leaf_C, ⟨⟨by first | rfl | (simp; done) | (simp []; done) | omega, by first | decide | (simp; done) | (simp []; done) | omega | (simp only [tlL]; omega) | (simp; omega)⟩, trivial⟩, by decide, trivial⟩ ⟨(congrArg (V.own 9000 3) (by first | rfl | (simp only [tlS, tl, vl, vo, oc, ov, tbl, vbl, ty, vy] <;> rfl) | (simp <;> omega) | (simp []; done) | (rw [List.take_of_length_le (by simp [])] <;> rfl) | (simp [List.take_of_length_le]; done))), trivial⟩ rfl (by first | rfl | (simp only [tlS, tl, vl, vo, oc, ov, tbl, vbl, ty, vy] <;> rfl) | (simp <;> omega) | (simp []; done) | (rw [List.take_of_length_le (by simp [])] <;> rfl) | (simp [List.take_of_length_le]; done)) (fun _ h => h)
  · -- no
    refine WP.cond (b := x2 == (0 : Int)) rfl (fun hh => by rw [h1] at hh; cases hh) (fun _ => ?_)
    refine WP.path tab_ok mixed [] [.keep [6, 0, 1, 2], .keepO []] (ps := []) (e := .normal) (σ' := ⟨[], [(6, V.t (T.nils)), (0, vi x0), (1, V.t (T.list (List.length x1) 3 (List.flatMap nodeC x1))), (2, vi x2)], []⟩) (by kernel_rfl) trivial ?_
    refine WP.seq ?_
    obtain ⟨c0, h⟩ := chk_some h
    refine WP.path tab_ok mixed [(17, An.v (T.agg [ti ((List.getD x1 0 (0, 0, 0)).1), ti ((List.getD x1 0 (0, 0, 0)).2.1), ti ((List.getD x1 0 (0, 0, 0)).2.2)])), (7, An.id 2007), (8, An.id 2008)] [.keep [8, 7, 6, 0, 2], .keepO [2007, 2008]] (ps := [((0 ≤ (0 : Int) ∧ (0 : Int) < ((List.length x1 : Nat) : Int))), (3 ≤ List.length (List.drop 0 (List.flatMap nodeC x1))), (T.agg (List.take 3 (List.drop 0 (List.flatMap nodeC x1))) = T.agg [ti ((List.getD x1 0 (0, 0, 0)).1), ti ((List.getD x1 0 (0, 0, 0)).2.1), ti ((List.getD x1 0 (0, 0, 0)).2.2)]), ((1 = 1 ∧ 0 + 1 ≤ 1) ∧ True), ((0 + 3 ≤ 3 ∧ 3 = 3)), ((0 + 1 ≤ 1 ∧ 1 = 1))]) (e := .normal) (σ' := ⟨[2008, 2007], [(8, V.ref 2008 0), (7, V.ref 2007 0), (6, V.t (T.nils)), (0, vi x0), (2, vi x2)], [(2007, oc 53 [ti ((List.getD x1 0 (0, 0, 0)).1), ti ((List.getD x1 0 (0, 0, 0)).2.1), ti ((List.getD x1 0 (0, 0, 0)).2.2)]), (2008, oc 26 [T.list (List.length x1) 3 (List.flatMap nodeC x1)])]⟩) (by kernel_rfl) ⟨c0, fit_node (i := 0) (by simp) (by omega), at_node (by simp) (by omega), ⟨⟨by first | rfl | (simp; done) | (simp []; done) | omega, by first | decide | (simp; done) | (simp []; done) | omega | (simp only [tlL]; omega) | (simp; omega)⟩, trivial⟩, by decide, by decide, trivial⟩ ?_
    refine WP.seq ?_
    obtain ⟨r24, c1, h⟩ := bnd1_some h
    obtain ⟨r29, c2, h⟩ := bnd1_some h
    refine WP.path tab_ok mixed [(24, An.callG [(9000, 10240)] [vi x0, V.t (T.agg [T.list (List.length x1) 3 (List.flatMap nodeC x1)]), vi ((List.getD x1 0 (0, 0, 0)).2.1)] [] (V.own 9000 3 (List.length r24)) [(9000, oc 53 (List.flatMap nodeC r24))]), (29, An.callG [(9000, 10290)] [vi x0, V.t (T.agg [T.list (List.length x1) 3 (List.flatMap nodeC x1)]), vi ((List.getD x1 0 (0, 0, 0)).2.2)] [] (V.own 9000 3 (List.length r29)) [(9000, oc 53 (List.flatMap nodeC r29))])] [.keep [10, 9, 7, 6, 0, 2], .keepO [2007, 10240, 10290]] (ps := [(0 + 1 ≤ 1), (True), (CG Try.prog 45 [vi x0, V.t (T.agg [T.list (List.length x1) 3 (List.flatMap nodeC x1)]), vi ((List.getD x1 0 (0, 0, 0)).2.1)] [] (V.own 9000 3 (List.length r24)) [(9000, oc 53 (List.flatMap nodeC r24))]), (WkT (ti x0) (ti x0)), (WkT (T.agg [T.list (List.length x1) 3 (List.flatMap nodeC x1)]) (T.agg [T.list (List.length x1) 3 (List.flatMap nodeC x1)])), (WkT (ti ((List.getD x1 0 (0, 0, 0)).2.1)) (ti ((List.getD x1 0 (0, 0, 0)).2.1))), (0 + 1 ≤ 1), (True), (CG Try.prog 45 [vi x0, V.t (T.agg [T.list (List.length x1) 3 (List.flatMap nodeC x1)]), vi ((List.getD x1 0 (0, 0, 0)).2.2)] [] (V.own 9000 3 (List.length r29)) [(9000, oc 53 (List.flatMap nodeC r29))]), (WkT (ti x0) (ti x0)), (WkT (T.agg [T.list (List.length x1) 3 (List.flatMap nodeC x1)]) (T.agg [T.list (List.length x1) 3 (List.flatMap nodeC x1)])), (WkT (ti ((List.getD x1 0 (0, 0, 0)).2.2)) (ti ((List.getD x1 0 (0, 0, 0)).2.2)))]) (e := .normal) (σ' := ⟨[10290, 10240, 2008, 2007], [(10, V.own 10290 3 (List.length r29)), (9, V.own 10240 3 (List.length r24)), (7, V.ref 2007 0), (6, V.t (T.nils)), (0, vi x0), (2, vi x2)], [(2007, oc 53 [ti ((List.getD x1 0 (0, 0, 0)).1), ti ((List.getD x1 0 (0, 0, 0)).2.1), ti ((List.getD x1 0 (0, 0, 0)).2.2)]), (10240, oc 53 (List.flatMap nodeC r24)), (10290, oc 53 (List.flatMap nodeC r29))]⟩) (by kernel_rfl) ⟨by decide, trivial, (F_spec_l9Sub_W x0 x1 ((List.getD x1 0 (0, 0, 0)).2.1) r24 c1), WkT.refl _, WkT.refl _, WkT.refl _, by decide, trivial, (F_spec_l9Sub_W x0 x1 ((List.getD x1 0 (0, 0, 0)).2.2) r29 c2), WkT.refl _, WkT.refl _, WkT.refl _, trivial⟩ ?_
    refine WP.seq ?_
    refine WP.seq ?_
    refine WP.path tab_ok mixed [] [.keep [33, 10, 9, 7, 6, 0, 2], .keepO [2007, 10240, 10290]] (ps := [(True), (True)]) (e := .normal) (σ' := ⟨[10290, 10240, 2008, 2007], [(33, vb (decide (x2 < ((List.getD x1 0 (0, 0, 0)).2.2)))), (10, V.own 10290 3 (List.length r29)), (9, V.own 10240 3 (List.length r24)), (7, V.ref 2007 0), (6, V.t (T.nils)), (0, vi x0), (2, vi x2)], [(2007, oc 53 [ti ((List.getD x1 0 (0, 0, 0)).1), ti ((List.getD x1 0 (0, 0, 0)).2.1), ti ((List.getD x1 0 (0, 0, 0)).2.2)]), (10240, oc 53 (List.flatMap nodeC r24)), (10290, oc 53 (List.flatMap nodeC r29))]⟩) (by kernel_rfl) ⟨trivial, trivial, trivial⟩ ?_
    rcases ite_some h with ⟨h2, h⟩ | ⟨h2, h⟩
    · -- yes
      refine WP.cond (b := decide (x2 < ((List.getD x1 0 (0, 0, 0)).2.2))) rfl (fun _ => ?_) (fun hh => by rw [h2] at hh; cases hh)
      obtain ⟨c3, h⟩ := chk_some h
      obtain ⟨r40, c4, h⟩ := bnd1_some h
      obtain ⟨r42, c5, h⟩ := bnd1_some h
      have h := Option.some.inj h
      subst h
      exact WP.pathG tab_ok mixed [(39, An.v (T.int .i64 (x2 - (1 : Int)))), (40, An.callG [(9000, 10400)] [vi x0, V.t (T.list (List.length r24) 3 (List.flatMap nodeC r24)), vi (x2 - (1 : Int))] [] (V.own 9000 3 (List.length r40)) [(9000, oc 53 (List.flatMap nodeC r40))]), (42, An.callG [(9000, 10420)] [vi ((List.getD x1 0 (0, 0, 0)).1), V.t (T.list (List.length r40) 3 (List.flatMap nodeC r40)), V.t (T.list (List.length r29) 3 (List.flatMap nodeC r29))] [] (V.own 9000 3 (List.length r42)) [(9000, oc 53 (List.flatMap nodeC r42))])] [.keep [6], .keepO [10420], .names [(10420, 9000)]] [9000] _ (r' := V.own 9000 3 (List.length r42)) (ps := [(True), (True), (T.int .i64 (IntKind.wrap .i64 (x2 - (1 : Int))) = T.int .i64 (x2 - (1 : Int))), (CG Try.prog 44 [vi x0, V.t (T.list (List.length r24) 3 (List.flatMap nodeC r24)), vi (x2 - (1 : Int))] [] (V.own 9000 3 (List.length r40)) [(9000, oc 53 (List.flatMap nodeC r40))]), ((V.own 9000 3 (List.length r40)).flat = true), (flatO [(9000, oc 53 (List.flatMap nodeC r40))] = true), (WkT (ti x0) (ti x0)), (List.length (List.flatMap nodeC r24) = (List.length r24) * 3), (WkT (T.list (List.length r24) 3 (List.flatMap nodeC r24)) (T.list (List.length r24) 3 (List.flatMap nodeC r24))), (WkT (ti (x2 - (1 : Int))) (ti (x2 - (1 : Int)))), (CG Try.prog 67 [vi ((List.getD x1 0 (0, 0, 0)).1), V.t (T.list (List.length r40) 3 (List.flatMap nodeC r40)), V.t (T.list (List.length r29) 3 (List.flatMap nodeC r29))] [] (V.own 9000 3 (List.length r42)) [(9000, oc 53 (List.flatMap nodeC r42))]), ((V.own 9000 3 (List.length r42)).flat = true), (flatO [(9000, oc 53 (List.flatMap nodeC r42))] = true), (WkT (ti ((List.getD x1 0 (0, 0, 0)).1)) (ti ((List.getD x1 0 (0, 0, 0)).1))), (List.length (List.flatMap nodeC r40) = (List.length r40) * 3), (WkT (T.list (List.length r40) 3 (List.flatMap nodeC r40)) (T.list (List.length r40) 3 (List.flatMap nodeC r40))), (List.length (List.flatMap nodeC r29) = (List.length r29) * 3), (WkT (T.list (List.length r29) 3 (List.flatMap nodeC r29)) (T.list (List.length r29) 3 (List.flatMap nodeC r29)))]) (r := V.own 9000 3 (List.length r42)) (N := [9000]) (O := [(9000, oc 53 (List.flatMap nodeC r42))]) [] (by kernel_rfl) ⟨trivial, trivial, wrapI c3, (hself x0 r24 (x2 - (1 : Int)) r40 c4), by first | rfl | (simp [V.flats, V.flat, T.flats, T.flat, flats_app, flats_int, flats_bool, flats_str, flats_node, flats_asked, flats_pair, flats_recs, flats_fact, flatEs_mpB, flatEs_mpI, flatEs_mp3]; done), by first | rfl | (simp [flatO, Tl.Obj.flat, V.flats, V.flat, T.flats, T.flat, flats_app, flats_int, flats_bool, flats_str, flats_node, flats_asked, flats_pair, flats_recs, flats_fact, flatEs_mpB, flatEs_mpI, flatEs_mp3]; done), WkT.refl _, by first | exact len_node _ | (rw [len_node]; first | done | omega | (simp; done) | (simp only [tlL]; omega) | (simp; omega)), WkT.refl _, WkT.refl _, (F_spec_l9Join_W ((List.getD x1 0 (0, 0, 0)).1) r40 r29 r42 c5), by first | rfl | (simp [V.flats, V.flat, T.flats, T.flat, flats_app, flats_int, flats_bool, flats_str, flats_node, flats_asked, flats_pair, flats_recs, flats_fact, flatEs_mpB, flatEs_mpI, flatEs_mp3]; done), by first | rfl | (simp [flatO, Tl.Obj.flat, V.flats, V.flat, T.flats, T.flat, flats_app, flats_int, flats_bool, flats_str, flats_node, flats_asked, flats_pair, flats_recs, flats_fact, flatEs_mpB, flatEs_mpI, flatEs_mp3]; done), WkT.refl _, by first | exact len_node _ | (rw [len_node]; first | done | omega | (simp; done) | (simp only [tlL]; omega) | (simp; omega)), WkT.refl _, by first | exact len_node _ | (rw [len_node]; first | done | omega | (simp; done) | (simp only [tlL]; omega) | (simp; omega)), WkT.refl _, trivial⟩ ⟨rfl, trivial⟩ rfl rfl (fun _ h => h)
    · -- no
      refine WP.cond (b := decide (x2 < ((List.getD x1 0 (0, 0, 0)).2.2))) rfl (fun hh => by rw [h2] at hh; cases hh) (fun _ => ?_)
      refine WP.path tab_ok mixed [] [.keep [10, 9, 7, 6, 0, 2], .keepO [2007, 10240, 10290]] (ps := []) (e := .normal) (σ' := ⟨[10290, 10240, 2008, 2007], [(10, V.own 10290 3 (List.length r29)), (9, V.own 10240 3 (List.length r24)), (7, V.ref 2007 0), (6, V.t (T.nils)), (0, vi x0), (2, vi x2)], [(2007, oc 53 [ti ((List.getD x1 0 (0, 0, 0)).1), ti ((List.getD x1 0 (0, 0, 0)).2.1), ti ((List.getD x1 0 (0, 0, 0)).2.2)]), (10240, oc 53 (List.flatMap nodeC r24)), (10290, oc 53 (List.flatMap nodeC r29))]⟩) (by kernel_rfl) trivial ?_
      obtain ⟨c3, h⟩ := chk_some h
      obtain ⟨r52, c4, h⟩ := bnd1_some h
      obtain ⟨r53, c5, h⟩ := bnd1_some h
      have h := Option.some.inj h
      subst h
      exact WP.pathG tab_ok mixed [(51, An.v (T.int .i64 (x2 - ((List.getD x1 0 (0, 0, 0)).2.2)))), (52, An.callG [(9000, 10520)] [vi x0, V.t (T.list (List.length r29) 3 (List.flatMap nodeC r29)), vi (x2 - ((List.getD x1 0 (0, 0, 0)).2.2))] [] (V.own 9000 3 (List.length r52)) [(9000, oc 53 (List.flatMap nodeC r52))]), (53, An.callG [(9000, 10530)] [vi ((List.getD x1 0 (0, 0, 0)).1), V.t (T.list (List.length r24) 3 (List.flatMap nodeC r24)), V.t (T.list (List.length r52) 3 (List.flatMap nodeC r52))] [] (V.own 9000 3 (List.length r53)) [(9000, oc 53 (List.flatMap nodeC r53))])] [.keep [6], .keepO [10530], .names [(10530, 9000)]] [9000] _ (r' := V.own 9000 3 (List.length r53)) (ps := [(True), (True), (True), (T.int .i64 (IntKind.wrap .i64 (x2 - ((List.getD x1 0 (0, 0, 0)).2.2))) = T.int .i64 (x2 - ((List.getD x1 0 (0, 0, 0)).2.2))), (CG Try.prog 44 [vi x0, V.t (T.list (List.length r29) 3 (List.flatMap nodeC r29)), vi (x2 - ((List.getD x1 0 (0, 0, 0)).2.2))] [] (V.own 9000 3 (List.length r52)) [(9000, oc 53 (List.flatMap nodeC r52))]), ((V.own 9000 3 (List.length r52)).flat = true), (flatO [(9000, oc 53 (List.flatMap nodeC r52))] = true), (WkT (ti x0) (ti x0)), (List.length (List.flatMap nodeC r29) = (List.length r29) * 3), (WkT (T.list (List.length r29) 3 (List.flatMap nodeC r29)) (T.list (List.length r29) 3 (List.flatMap nodeC r29))), (WkT (ti (x2 - ((List.getD x1 0 (0, 0, 0)).2.2))) (ti (x2 - ((List.getD x1 0 (0, 0, 0)).2.2)))), (CG Try.prog 67 [vi ((List.getD x1 0 (0, 0, 0)).1), V.t (T.list (List.length r24) 3 (List.flatMap nodeC r24)), V.t (T.list (List.length r52) 3 (List.flatMap nodeC r52))] [] (V.own 9000 3 (List.length r53)) [(9000, oc 53 (List.flatMap nodeC r53))]), ((V.own 9000 3 (List.length r53)).flat = true), (flatO [(9000, oc 53 (List.flatMap nodeC r53))] = true), (WkT (ti ((List.getD x1 0 (0, 0, 0)).1)) (ti ((List.getD x1 0 (0, 0, 0)).1))), (List.length (List.flatMap nodeC r24) = (List.length r24) * 3), (WkT (T.list (List.length r24) 3 (List.flatMap nodeC r24)) (T.list (List.length r24) 3 (List.flatMap nodeC r24))), (List.length (List.flatMap nodeC r52) = (List.length r52) * 3), (WkT (T.list (List.length r52) 3 (List.flatMap nodeC r52)) (T.list (List.length r52) 3 (List.flatMap nodeC r52)))]) (r := V.own 9000 3 (List.length r53)) (N := [9000]) (O := [(9000, oc 53 (List.flatMap nodeC r53))]) [] (by kernel_rfl) ⟨trivial, trivial, trivial, wrapI c3, (hself x0 r29 (x2 - ((List.getD x1 0 (0, 0, 0)).2.2)) r52 c4), by first | rfl | (simp [V.flats, V.flat, T.flats, T.flat, flats_app, flats_int, flats_bool, flats_str, flats_node, flats_asked, flats_pair, flats_recs, flats_fact, flatEs_mpB, flatEs_mpI, flatEs_mp3]; done), by first | rfl | (simp [flatO, Tl.Obj.flat, V.flats, V.flat, T.flats, T.flat, flats_app, flats_int, flats_bool, flats_str, flats_node, flats_asked, flats_pair, flats_recs, flats_fact, flatEs_mpB, flatEs_mpI, flatEs_mp3]; done), WkT.refl _, by first | exact len_node _ | (rw [len_node]; first | done | omega | (simp; done) | (simp only [tlL]; omega) | (simp; omega)), WkT.refl _, WkT.refl _, (F_spec_l9Join_W ((List.getD x1 0 (0, 0, 0)).1) r24 r52 r53 c5), by first | rfl | (simp [V.flats, V.flat, T.flats, T.flat, flats_app, flats_int, flats_bool, flats_str, flats_node, flats_asked, flats_pair, flats_recs, flats_fact, flatEs_mpB, flatEs_mpI, flatEs_mp3]; done), by first | rfl | (simp [flatO, Tl.Obj.flat, V.flats, V.flat, T.flats, T.flat, flats_app, flats_int, flats_bool, flats_str, flats_node, flats_asked, flats_pair, flats_recs, flats_fact, flatEs_mpB, flatEs_mpI, flatEs_mp3]; done), WkT.refl _, by first | exact len_node _ | (rw [len_node]; first | done | omega | (simp; done) | (simp only [tlL]; omega) | (simp; omega)), WkT.refl _, by first | exact len_node _ | (rw [len_node]; first | done | omega | (simp; done) | (simp only [tlL]; omega) | (simp; omega)), WkT.refl _, trivial⟩ ⟨rfl, trivial⟩ rfl rfl (fun _ h => h)
theorem F_spec_l9Cut_B_W_C (self : Int → (List Nd) → Int → Option (List Nd)) (hself : ∀ (x0 : Int) (x1 : List Nd) (x2 : Int) (y0 : List Nd), self x0 x1 x2 = some y0 → CG Try.prog 44 [vi x0, V.t (T.list (List.length x1) 3 (List.flatMap nodeC x1)), vi x2] [] (V.own 9000 3 (List.length y0)) [(9000, oc 53 (List.flatMap nodeC y0))]) (x0 : Int) (x1 : List Nd) (x2 : Int) (y0 : List Nd) (h : F_spec_l9Cut_B self x0 x1 x2 = some y0) : C Try.prog 44 [ti x0, T.list (List.length x1) 3 (List.flatMap nodeC x1), ti x2] (T.list (List.length y0) 3 (List.flatMap nodeC y0)) :=
  CG.toC (ps := [(List.length (List.flatMap nodeC y0) = (List.length y0) * 3)]) (F_spec_l9Cut_B_W self hself x0 x1 x2 y0 h) (by rfl) ⟨by first | exact len_node _ | (rw [len_node]; first | done | omega | (simp; done) | (simp; omega)), trivial⟩
theorem F_spec_l9Cut_W (n : Nat) : ∀ (x0 : Int) (x1 : List Nd) (x2 : Int) (y0 : List Nd), F_spec_l9Cut n x0 x1 x2 = some y0 → CG Try.prog 44 [vi x0, V.t (T.list (List.length x1) 3 (List.flatMap nodeC x1)), vi x2] [] (V.own 9000 3 (List.length y0)) [(9000, oc 53 (List.flatMap nodeC y0))] := by
  induction n with
  | zero => intro x0 x1 x2 y0 h; rw [F_spec_l9Cut] at h; cases h
  | succ n ih => intro x0 x1 x2 y0 h; rw [F_spec_l9Cut] at h; exact F_spec_l9Cut_B_W _ ih x0 x1 x2 y0 h
theorem F_spec_CutTree_W (x0 : Int) (x1 : List Nd) (x2 : Int) (y0 : List Nd) (y1 : Bool) (h : F_spec_CutTree x0 x1 x2 = some (y0, y1)) : CG Try.prog 14 [vi x0, V.t (T.agg [T.list (List.length x1) 3 (List.flatMap nodeC x1)]), vi x2] [] (V.tup [V.agg [V.own 9000 3 (List.length y0)], vb y1]) [(9000, oc 53 (List.flatMap nodeC y0))] := by
  unfold F_spec_CutTree at h
  refine CG.intro (tab := tab) tab_ok (fn := Try.f14) Try.func14 (by kernel_rfl) rfl (Nat.le_of_ble_eq_true rfl) (by kernel_rfl) ?_
  refine WP.seq ?_
  refine WP.path tab_ok mixed [(4, An.fz), (6, An.id 2006)] [.keep [7, 6, 4, 0, 2], .keepO [2006]] (ps := []) (e := .normal) (σ' := ⟨[2006], [(7, vb false), (6, V.ref 2006 0), (4, V.t (T.ptr [T.list (List.length x1) 3 (List.flatMap nodeC x1)])), (0, vi x0), (2, vi x2)], [(2006, oc 26 [T.nils])]⟩) (by kernel_rfl) trivial ?_
  refine WP.seq ?_
  refine WP.seq ?_
  obtain ⟨c0, h⟩ := chk_some h
  refine WP.path tab_ok mixed [(11, An.call (tb (ndB x0 x1 x2)))] [.keep [12, 7, 6, 4, 0, 2], .keepO [2006]] (ps := [(1 ≤ 1), (C Try.prog 36 [ti x0, T.agg [T.list (List.length x1) 3 (List.flatMap nodeC x1)], ti x2] (tb (ndB x0 x1 x2)))]) (e := .normal) (σ' := ⟨[2006], [(12, vb (!(ndB x0 x1 x2))), (7, vb false), (6, V.ref 2006 0), (4, V.t (T.ptr [T.list (List.length x1) 3 (List.flatMap nodeC x1)])), (0, vi x0), (2, vi x2)], [(2006, oc 26 [T.nils])]⟩) (by kernel_rfl) ⟨by decide, (l9Node_C x0 x1 x2 c0), trivial⟩ ?_
  rcases ite_some h with ⟨h1, h⟩ | ⟨h1, h⟩
  · -- yes
    refine WP.cond (b := !(ndB x0 x1 x2)) rfl (fun _ => ?_) (fun hh => by rw [h1] at hh; cases hh)
    simp only [Option.some.injEq, Prod.mk.injEq] at h
    obtain ⟨rfl, rfl⟩ := h
    exact WP.pathG tab_ok mixed [] [.keep [6, 7], .keepO [2006], .names [(2006, 2006)]] [] _ (r' := V.tup [V.agg [V.own 9000 3 (List.length ([] : List Nd))], vb false]) (ps := [(True), ((0 + 1 ≤ 1 ∧ 1 = 1)), (0 + 1 ≤ 1)]) (r := V.t (T.tup [T.agg [T.nils], tb false])) (N := [2006]) (O := []) [(9000, 53)] (by kernel_rfl) ⟨trivial, by decide, by first | decide | omega | (simp only [tlL] <;> omega) | (simp <;> omega) | (simp [] <;> omega), trivial⟩ ⟨(by first | rfl | (simp; done)), (WkT.refl _), trivial⟩ rfl rfl (fun _ h => h)
  · -- no
    refine WP.cond (b := !(ndB x0 x1 x2)) rfl (fun hh => by rw [h1] at hh; cases hh) (fun _ => ?_)
    refine WP.path tab_ok mixed [] [.keep [7, 6, 4, 0, 2], .keepO [2006]] (ps := []) (e := .normal) (σ' := ⟨[2006], [(7, vb false), (6, V.ref 2006 0), (4, V.t (T.ptr [T.list (List.length x1) 3 (List.flatMap nodeC x1)])), (0, vi x0), (2, vi x2)], [(2006, oc 26 [T.nils])]⟩) (by kernel_rfl) trivial ?_
    obtain ⟨r18, c1, h⟩ := bnd1_some h
    simp only [Option.some.injEq, Prod.mk.injEq] at h
    obtain ⟨rfl, rfl⟩ := h
    exact WP.pathG tab_ok mixed [(18, An.callG [(9000, 10180)] [vi x0, V.t (T.list (List.length x1) 3 (List.flatMap nodeC x1)), vi x2] [] (V.own 9000 3 (List.length r18)) [(9000, oc 53 (List.flatMap nodeC r18))])] [.keep [6, 7], .keepO [10180, 2006], .names [(10180, 9000), (2006, 2006)]] [9000] _ (r' := V.tup [V.agg [V.own 9000 3 (List.length r18)], vb true]) (ps := [(True), (CG Try.prog 44 [vi x0, V.t (T.list (List.length x1) 3 (List.flatMap nodeC x1)), vi x2] [] (V.own 9000 3 (List.length r18)) [(9000, oc 53 (List.flatMap nodeC r18))]), (WkT (ti x0) (ti x0)), (WkT (T.list (List.length x1) 3 (List.flatMap nodeC x1)) (T.list (List.length x1) 3 (List.flatMap nodeC x1))), (WkT (ti x2) (ti x2)), ((1 = 1 ∧ 0 + 1 ≤ 1) ∧ True), ((0 + 1 ≤ 1 ∧ 1 = 1)), (0 + 1 ≤ 1)]) (r := V.tup [V.agg [V.own 9000 3 (List.length r18)], vb true]) (N := [9000, 2006]) (O := [(9000, oc 53 (List.flatMap nodeC r18))]) [] (by kernel_rfl) ⟨trivial, (F_spec_l9Cut_W fuel x0 x1 x2 r18 c1), WkT.refl _, WkT.refl _, WkT.refl _, ⟨⟨by decide, by decide⟩, trivial⟩, by decide, by decide, trivial⟩ ⟨rfl, (WkT.refl _), trivial⟩ rfl rfl (fun _ h => h)
theorem F_spec_CutTree_W_C (x0 : Int) (x1 : List Nd) (x2 : Int) (y0 : List Nd) (y1 : Bool) (h : F_spec_CutTree x0 x1 x2 = some (y0, y1)) : C Try.prog 14 [ti x0, T.agg [T.list (List.length x1) 3 (List.flatMap nodeC x1)], ti x2] (T.tup [T.agg [T.list (List.length y0) 3 (List.flatMap nodeC y0)], tb y1]) :=
  CG.toC (ps := [(List.length (List.flatMap nodeC y0) = (List.length y0) * 3)]) (F_spec_CutTree_W  x0 x1 x2 y0 y1 h) (by rfl) ⟨by first | exact len_node _ | (rw [len_node]; first | done | omega | (simp; done) | (simp; omega)), trivial⟩
theorem F_impl_SubTree_W (x0 : Int) (x1 : List Nd) (x2 : Int) (y0 : List Nd) (y1 : Bool) (h : F_impl_SubTree x0 x1 x2 = some (y0, y1)) : CG Try.prog 15 [vi x0, V.t (T.agg [T.list (List.length x1) 3 (List.flatMap nodeC x1)]), vi x2] [] (V.tup [V.agg [V.own 9000 3 (List.length y0)], vb y1]) [(9000, oc 53 (List.flatMap nodeC y0))] := by
  unfold F_impl_SubTree at h
  refine CG.intro (tab := tab) tab_ok (fn := Try.f15) Try.func15 (by kernel_rfl) rfl (Nat.le_of_ble_eq_true rfl) (by kernel_rfl) ?_
  refine WP.seq ?_
  refine WP.path tab_ok mixed [(4, An.fz), (6, An.id 2006)] [.keep [7, 6, 4, 0, 2], .keepO [2006]] (ps := []) (e := .normal) (σ' := ⟨[2006], [(7, vb false), (6, V.ref 2006 0), (4, V.t (T.ptr [T.list (List.length x1) 3 (List.flatMap nodeC x1)])), (0, vi x0), (2, vi x2)], [(2006, oc 26 [T.nils])]⟩) (by kernel_rfl) trivial ?_
  refine WP.seq ?_
  obtain ⟨r13, r13b, c0, h⟩ := bnd2_some h
  refine WP.path tab_ok mixed [(13, An.call (T.tup [brT r13, tb r13b]))] [.keep [9, 8, 7, 6, 4, 0, 2], .keepO [2006]] (ps := [(1 ≤ 1), (C Try.prog 41 [ti x0, T.agg [T.list (List.length x1) 3 (List.flatMap nodeC x1)]] (T.tup [brT r13, tb r13b]))]) (e := .normal) (σ' := ⟨[2006], [(9, vb r13b), (8, V.t (brT r13)), (7, vb false), (6, V.ref 2006 0), (4, V.t (T.ptr [T.list (List.length x1) 3 (List.flatMap nodeC x1)])), (0, vi x0), (2, vi x2)], [(2006, oc 26 [T.nils])]⟩) (by kernel_rfl) ⟨by decide, (F_impl_root_W x0 x1 r13 r13b c0), trivial⟩ ?_
  refine WP.seq ?_
  obtain ⟨J1, hJ1, h⟩ := jn_some h
  refine WP.joinA (fun (zz : Bool) => ⟨[2006], [(24, vb zz), (8, V.t (brT r13)), (7, vb false), (6, V.ref 2006 0), (4, V.t (T.ptr [T.list (List.length x1) 3 (List.flatMap nodeC x1)])), (2, vi x2)], [(2006, oc 26 [T.nils])]⟩) (fun zz => J1 zz = some (y0, y1)) ?_ ?_
  · -- to where they meet
    rcases ite_some h with ⟨h1, h⟩ | ⟨h1, h⟩
    · -- yes
      refine WP.path tab_ok mixed [(18, An.b true)] [.keep [24, 8, 7, 6, 4, 2], .keepO [2006], .names [(2006, 2006)]] (ps := [((!r13b) = true)]) (e := .normal) (σ' := ⟨[2006], [(24, vb true), (8, V.t (brT r13)), (7, vb false), (6, V.ref 2006 0), (4, V.t (T.ptr [T.list (List.length x1) 3 (List.flatMap nodeC x1)])), (2, vi x2)], [(2006, oc 26 [T.nils])]⟩) (by kernel_rfl) ⟨h1, trivial⟩ ?_
      exact ⟨(true), h, rfl⟩
    · -- no
      obtain ⟨r22, c1, h⟩ := bnd1_some h
      refine WP.path tab_ok mixed [(18, An.b false), (22, An.call (tb r22))] [.keep [24, 8, 7, 6, 4, 2], .keepO [2006], .names [(2006, 2006)]] (ps := [((!r13b) = false), (1 ≤ 1), (C Try.prog 34 [ti x0, T.agg [T.list (List.length x1) 3 (List.flatMap nodeC x1)], ti x2] (tb r22))]) (e := .normal) (σ' := ⟨[2006], [(24, vb (!r22)), (8, V.t (brT r13)), (7, vb false), (6, V.ref 2006 0), (4, V.t (T.ptr [T.list (List.length x1) 3 (List.flatMap nodeC x1)])), (2, vi x2)], [(2006, oc 26 [T.nils])]⟩) (by kernel_rfl) ⟨h1, by decide, (F_impl_isNode_W x0 x1 x2 r22 c1), trivial⟩ ?_
      exact ⟨(!r22), h, rfl⟩
  · -- from there
    intro v24 h0
    have h := (show J1 v24 = some (y0, y1) from h0)
    rw [hJ1] at h
    rcases ite_some h with ⟨h2, h⟩ | ⟨h2, h⟩
    · -- yes
      refine WP.cond (b := v24) rfl (fun _ => ?_) (fun hh => by rw [h2] at hh; cases hh)
      simp only [Option.some.injEq, Prod.mk.injEq] at h
      obtain ⟨rfl, rfl⟩ := h
      exact WP.pathG tab_ok mixed [] [.keep [6, 7], .keepO [2006], .names [(2006, 2006)]] [] _ (r' := V.tup [V.agg [V.own 9000 3 (List.length ([] : List Nd))], vb false]) (ps := [(True), ((0 + 1 ≤ 1 ∧ 1 = 1)), (0 + 1 ≤ 1)]) (r := V.t (T.tup [T.agg [T.nils], tb false])) (N := [2006]) (O := []) [(9000, 53)] (by kernel_rfl) ⟨trivial, by decide, by first | decide | omega | (simp only [tlL] <;> omega) | (simp <;> omega) | (simp [] <;> omega), trivial⟩ ⟨(by first | rfl | (simp; done)), (WkT.refl _), trivial⟩ rfl rfl (fun _ h => h)
    · -- no
      refine WP.cond (b := v24) rfl (fun hh => by rw [h2] at hh; cases hh) (fun _ => ?_)
      refine WP.path tab_ok mixed [] [.keep [8, 7, 6, 4, 2], .keepO [2006]] (ps := []) (e := .normal) (σ' := ⟨[2006], [(8, V.t (brT r13)), (7, vb false), (6, V.ref 2006 0), (4, V.t (T.ptr [T.list (List.length x1) 3 (List.flatMap nodeC x1)])), (2, vi x2)], [(2006, oc 26 [T.nils])]⟩) (by kernel_rfl) trivial ?_
      obtain ⟨r29, c1, h⟩ := bnd1_some h
      obtain ⟨r30, c2, h⟩ := bnd1_some h
      obtain ⟨r31, c3, h⟩ := bnd1_some h
      simp only [Option.some.injEq, Prod.mk.injEq] at h
      obtain ⟨rfl, rfl⟩ := h
      exact WP.pathG tab_ok mixed [(29, An.call (T.list (List.length r29) 2 (List.flatMap askedC r29))), (30, An.call (brT r30)), (31, An.callG [(9000, 10310)] [V.t (brT r30)] [] (V.agg [V.own 9000 3 (List.length r31)]) [(9000, oc 53 (List.flatMap nodeC r31))])] [.keep [6, 7], .keepO [10310, 2006], .names [(10310, 9000), (2006, 2006)]] [9000] _ (r' := V.tup [V.agg [V.own 9000 3 (List.length r31)], vb true]) (ps := [(1 ≤ 1), (C Try.prog 35 [T.agg [T.list (List.length x1) 3 (List.flatMap nodeC x1)], ti x2] (T.list (List.length r29) 2 (List.flatMap askedC r29))), (C Try.prog 42 [brT r13, T.list (List.length r29) 2 (List.flatMap askedC r29)] (brT r30)), (CG Try.prog 43 [V.t (brT r30)] [] (V.agg [V.own 9000 3 (List.length r31)]) [(9000, oc 53 (List.flatMap nodeC r31))]), (WkT (brT r30) (brT r30)), ((0 + 1 ≤ 1 ∧ 1 = 1)), (0 + 1 ≤ 1)]) (r := V.tup [V.agg [V.own 9000 3 (List.length r31)], vb true]) (N := [9000, 2006]) (O := [(9000, oc 53 (List.flatMap nodeC r31))]) [] (by kernel_rfl) ⟨by decide, (F_impl_Tree_way_W_C x1 x2 r29 c1), (F_p_impl_branch_below_W r13 r29 r30 c2), (F_p_impl_branch_tree_W r30 r31 c3), WkT.refl _, by decide, by decide, trivial⟩ ⟨rfl, (WkT.refl _), trivial⟩ rfl rfl (fun _ h => h)
theorem F_impl_SubTree_W_C (x0 : Int) (x1 : List Nd) (x2 : Int) (y0 : List Nd) (y1 : Bool) (h : F_impl_SubTree x0 x1 x2 = some (y0, y1)) : C Try.prog 15 [ti x0, T.agg [T.list (List.length x1) 3 (List.flatMap nodeC x1)], ti x2] (T.tup [T.agg [T.list (List.length y0) 3 (List.flatMap nodeC y0)], tb y1]) :=
  CG.toC (ps := [(List.length (List.flatMap nodeC y0) = (List.length y0) * 3)]) (F_impl_SubTree_W  x0 x1 x2 y0 y1 h) (by rfl) ⟨by first | exact len_node _ | (rw [len_node]; first | done | omega | (simp; done) | (simp; omega)), trivial⟩
theorem F_spec_SubTree_W (x0 : Int) (x1 : List Nd) (x2 : Int) (y0 : List Nd) (y1 : Bool) (h : F_spec_SubTree x0 x1 x2 = some (y0, y1)) : CG Try.prog 16 [vi x0, V.t (T.agg [T.list (List.length x1) 3 (List.flatMap nodeC x1)]), vi x2] [] (V.tup [V.agg [V.own 9000 3 (List.length y0)], vb y1]) [(9000, oc 53 (List.flatMap nodeC y0))] := by
  unfold F_spec_SubTree at h
  refine CG.intro (tab := tab) tab_ok (fn := Try.f16) Try.func16 (by kernel_rfl) rfl (Nat.le_of_ble_eq_true rfl) (by kernel_rfl) ?_
  refine WP.seq ?_
  refine WP.path tab_ok mixed [(4, An.fz), (6, An.id 2006)] [.keep [7, 6, 4, 0, 2], .keepO [2006]] (ps := []) (e := .normal) (σ' := ⟨[2006], [(7, vb false), (6, V.ref 2006 0), (4, V.t (T.ptr [T.list (List.length x1) 3 (List.flatMap nodeC x1)])), (0, vi x0), (2, vi x2)], [(2006, oc 26 [T.nils])]⟩) (by kernel_rfl) trivial ?_
  refine WP.seq ?_
  refine WP.seq ?_
  obtain ⟨c0, h⟩ := chk_some h
  refine WP.path tab_ok mixed [(11, An.call (tb (ndB x0 x1 x2)))] [.keep [12, 7, 6, 4, 0, 2], .keepO [2006]] (ps := [(1 ≤ 1), (C Try.prog 36 [ti x0, T.agg [T.list (List.length x1) 3 (List.flatMap nodeC x1)], ti x2] (tb (ndB x0 x1 x2)))]) (e := .normal) (σ' := ⟨[2006], [(12, vb (!(ndB x0 x1 x2))), (7, vb false), (6, V.ref 2006 0), (4, V.t (T.ptr [T.list (List.length x1) 3 (List.flatMap nodeC x1)])), (0, vi x0), (2, vi x2)], [(2006, oc 26 [T.nils])]⟩) (by kernel_rfl) ⟨by decide, (l9Node_C x0 x1 x2 c0), trivial⟩ ?_
  rcases ite_some h with ⟨h1, h⟩ | ⟨h1, h⟩
  · -- yes
    refine WP.cond (b := !(ndB x0 x1 x2)) rfl (fun _ => ?_) (fun hh => by rw [h1] at hh; cases hh)
    simp only [Option.some.injEq, Prod.mk.injEq] at h
    obtain ⟨rfl, rfl⟩ := h
    exact WP.pathG tab_ok mixed [] [.keep [6, 7], .keepO [2006], .names [(2006, 2006)]] [] _ (r' := V.tup [V.agg [V.own 9000 3 (List.length ([] : List Nd))], vb false]) (ps := [(True), ((0 + 1 ≤ 1 ∧ 1 = 1)), (0 + 1 ≤ 1)]) (r := V.t (T.tup [T.agg [T.nils], tb false])) (N := [2006]) (O := []) [(9000, 53)] (by kernel_rfl) ⟨trivial, by decide, by first | decide | omega | (simp only [tlL] <;> omega) | (simp <;> omega) | (simp [] <;> omega), trivial⟩ ⟨(by first | rfl | (simp; done)), (WkT.refl _), trivial⟩ rfl rfl (fun _ h => h)
  · -- no
    refine WP.cond (b := !(ndB x0 x1 x2)) rfl (fun hh => by rw [h1] at hh; cases hh) (fun _ => ?_)
    refine WP.path tab_ok mixed [] [.keep [7, 6, 4, 0, 2], .keepO [2006]] (ps := []) (e := .normal) (σ' := ⟨[2006], [(7, vb false), (6, V.ref 2006 0), (4, V.t (T.ptr [T.list (List.length x1) 3 (List.flatMap nodeC x1)])), (0, vi x0), (2, vi x2)], [(2006, oc 26 [T.nils])]⟩) (by kernel_rfl) trivial ?_
    obtain ⟨r17, c1, h⟩ := bnd1_some h
    simp only [Option.some.injEq, Prod.mk.injEq] at h
    obtain ⟨rfl, rfl⟩ := h
    exact WP.pathG tab_ok mixed [(17, An.callG [(9000, 10170)] [vi x0, V.t (T.agg [T.list (List.length x1) 3 (List.flatMap nodeC x1)]), vi x2] [] (V.own 9000 3 (List.length r17)) [(9000, oc 53 (List.flatMap nodeC r17))])] [.keep [6, 7], .keepO [10170, 2006], .names [(10170, 9000), (2006, 2006)]] [9000] _ (r' := V.tup [V.agg [V.own 9000 3 (List.length r17)], vb true]) (ps := [(1 ≤ 1), (CG Try.prog 45 [vi x0, V.t (T.agg [T.list (List.length x1) 3 (List.flatMap nodeC x1)]), vi x2] [] (V.own 9000 3 (List.length r17)) [(9000, oc 53 (List.flatMap nodeC r17))]), (WkT (ti x0) (ti x0)), (WkT (T.agg [T.list (List.length x1) 3 (List.flatMap nodeC x1)]) (T.agg [T.list (List.length x1) 3 (List.flatMap nodeC x1)])), (WkT (ti x2) (ti x2)), ((1 = 1 ∧ 0 + 1 ≤ 1) ∧ True), ((0 + 1 ≤ 1 ∧ 1 = 1)), (0 + 1 ≤ 1)]) (r := V.tup [V.agg [V.own 9000 3 (List.length r17)], vb true]) (N := [9000, 2006]) (O := [(9000, oc 53 (List.flatMap nodeC r17))]) [] (by kernel_rfl) ⟨by decide, (F_spec_l9Sub_W x0 x1 x2 r17 c1), WkT.refl _, WkT.refl _, WkT.refl _, ⟨⟨by decide, by decide⟩, trivial⟩, by decide, by decide, trivial⟩ ⟨rfl, (WkT.refl _), trivial⟩ rfl rfl (fun _ h => h)
theorem F_spec_SubTree_W_C (x0 : Int) (x1 : List Nd) (x2 : Int) (y0 : List Nd) (y1 : Bool) (h : F_spec_SubTree x0 x1 x2 = some (y0, y1)) : C Try.prog 16 [ti x0, T.agg [T.list (List.length x1) 3 (List.flatMap nodeC x1)], ti x2] (T.tup [T.agg [T.list (List.length y0) 3 (List.flatMap nodeC y0)], tb y1]) :=
  CG.toC (ps := [(List.length (List.flatMap nodeC y0) = (List.length y0) * 3)]) (F_spec_SubTree_W  x0 x1 x2 y0 y1 h) (by rfl) ⟨by first | exact len_node _ | (rw [len_node]; first | done | omega | (simp; done) | (simp; omega)), trivial⟩
theorem F_p_impl_branch_turned_B_W (self : Br → Int → Option Br) (hself : ∀ (x0 : Br) (x1 : Int) (y0 : Br), self x0 x1 = some y0 → C Try.prog 46 [brT x0, ti x1] (brT y0)) (x0 : Br) (x1 : Int) (y0 : Br) (h : F_p_impl_branch_turned_B self x0 x1 = some y0) : C Try.prog 46 [brT x0, ti x1] (brT y0) := by
  unfold F_p_impl_branch_turned_B at h
  refine C.intro (tab := tab) tab_ok (fn := Try.f46) Try.func46 (by kernel_rfl) rfl (Nat.le_of_ble_eq_true rfl) ?_
  refine WP.seq ?_
  refine WP.path tab_ok mixed [] [.keep [4, 0, 1], .keepO []] (ps := []) (e := .normal) (σ' := ⟨[], [(4, V.t (T.nilp)), (0, V.t (brT x0)), (1, vi x1)], []⟩) (by kernel_rfl) trivial ?_
  refine WP.seq ?_
  obtain ⟨J1, hJ1, h⟩ := jn_some h
  refine WP.joinA (fun (zz : Bool × Br) => ⟨[], [(9, vb zz.1), (4, V.t (T.nilp)), (0, V.t (brT zz.2)), (1, vi x1)], []⟩) (fun zz => J1 zz.1 zz.2 = some y0) ?_ ?_
  · -- to where they meet
    rcases brM_some h with ⟨rfl, h1⟩ | ⟨q, bu, bv, rfl, h1⟩
    · -- nil
      have h := h1
      cases h
    · -- node
      have h := h1
      rcases brM_some h with ⟨rfl, h2⟩ | ⟨qb, bub, bvb, rfl, h2⟩
      · -- nil
        have h := h2
        refine WP.path tab_ok mixed [] [.keep [9, 4, 0, 1], .keepO [], .names []] (ps := [(True), (True)]) (e := .normal) (σ' := ⟨[], [(9, vb true), (4, V.t (T.nilp)), (0, V.t (T.ptr [ti q, T.nilp, brT bv])), (1, vi x1)], []⟩) (by kernel_rfl) ⟨trivial, trivial, trivial⟩ ?_
        exact ⟨(true, (Br.nd q Br.nil bv)), h, (by first | rfl | (simp only [tlS, tl, vl, vo, oc, ov, tbl, vbl, ty, vy] <;> rfl) | (simp <;> omega) | (simp []; done) | (rw [List.take_of_length_le (by simp [])] <;> rfl) | (simp [List.take_of_length_le]; done))⟩
      · -- node
        have h := h2
        refine WP.path tab_ok mixed [] [.keep [9, 4, 0, 1], .keepO [], .names []] (ps := [(True), (True)]) (e := .normal) (σ' := ⟨[], [(9, vb false), (4, V.t (T.nilp)), (0, V.t (T.ptr [ti q, T.ptr [ti qb, brT bub, brT bvb], brT bv])), (1, vi x1)], []⟩) (by kernel_rfl) ⟨trivial, trivial, trivial⟩ ?_
        exact ⟨(false, (Br.nd q (Br.nd qb bub bvb) bv)), h, (by first | rfl | (simp only [tlS, tl, vl, vo, oc, ov, tbl, vbl, ty, vy] <;> rfl) | (simp <;> omega) | (simp []; done) | (rw [List.take_of_length_le (by simp [])] <;> rfl) | (simp [List.take_of_length_le]; done))⟩
  · -- from there
    rintro ⟨v9, v0⟩ h0
    have h := (show J1 v9 v0 = some y0 from h0)
    rw [hJ1] at h
    rcases ite_some h with ⟨h3, h⟩ | ⟨h3, h⟩
    · -- yes
      refine WP.cond (b := v9) rfl (fun _ => ?_) (fun hh => by rw [h3] at hh; cases hh)
      have h := Option.some.inj h
      subst h
      exact WP.pathW tab_ok mixed [(11, An.fz)] _ (ps := [(True)]) (r := T.ptr [ti 0, T.nilp, T.nilp]) (by kernel_rfl) ⟨trivial, trivial⟩ (WkT.eq (y := T.ptr [ti 0, T.nilp, T.nilp]) (WkT.refl _) (by first | rfl | (simp only [tlS, tl, vl, vo, oc, ov, tbl, vbl, ty, vy] <;> rfl) | (simp <;> omega) | (simp []; done) | (rw [List.take_of_length_le (by simp [])] <;> rfl) | (simp [List.take_of_length_le]; done))) (fun _ h => h)
    · -- no
      refine WP.cond (b := v9) rfl (fun hh => by rw [h3] at hh; cases hh) (fun _ => ?_)
      refine WP.path tab_ok mixed [] [.keep [4, 0, 1], .keepO []] (ps := []) (e := .normal) (σ' := ⟨[], [(4, V.t (T.nilp)), (0, V.t (brT v0)), (1, vi x1)], []⟩) (by kernel_rfl) trivial ?_
      rcases brM_some h with ⟨rfl, h4⟩ | ⟨q, bu, bv, rfl, h4⟩
      · -- nil
        have h := h4
        cases h
      · -- node
        have h := h4
        obtain ⟨c0, h⟩ := chk_some h
        obtain ⟨c1, h⟩ := chk_some h
        obtain ⟨c2, h⟩ := chk_some h
        obtain ⟨c3, h⟩ := chk_some h
        obtain ⟨r23, c4, h⟩ := bnd1_some h
        obtain ⟨r29, c5, h⟩ := bnd1_some h
        rcases brM_some h with ⟨rfl, h5⟩ | ⟨qb, bub, bvb, rfl, h5⟩
        · -- nil
          have h := h5
          rcases brM_some h with ⟨rfl, h6⟩ | ⟨qb, bub, bvb, rfl, h6⟩
          · -- nil
            have h := h6
            have h := Option.some.inj h
            subst h
            exact WP.pathW tab_ok mixed [(17, An.call (ti (othN x1 q))), (23, An.call (T.nilp)), (29, An.call (T.nilp)), (31, An.fz)] _ (ps := [(True), (C Try.prog 69 [ti x1, ti q] (ti (othN x1 q))), (True), (C Try.prog 46 [brT bv, ti x1] (T.nilp)), (True), (C Try.prog 46 [brT bu, ti x1] (T.nilp)), ((1 = 1 ∧ 0 + 1 ≤ 3) ∧ (1 = 1 ∧ 1 + 1 ≤ 3) ∧ (1 = 1 ∧ 2 + 1 ≤ 3) ∧ True)]) (r := T.ptr [ti (othN x1 q), T.nilp, T.nilp]) (by kernel_rfl) ⟨trivial, (other_C x1 q c0 c1 c2 c3), trivial, (hself bv x1 Br.nil c4), trivial, (hself bu x1 Br.nil c5), ⟨⟨by first | rfl | (simp; done) | (simp []; done) | omega, by first | decide | (simp; done) | (simp []; done) | omega | (simp only [tlL]; omega) | (simp; omega)⟩, ⟨by first | rfl | (simp; done) | (simp []; done) | omega, by first | decide | (simp; done) | (simp []; done) | omega | (simp only [tlL]; omega) | (simp; omega)⟩, ⟨by first | rfl | (simp; done) | (simp []; done) | omega, by first | decide | (simp; done) | (simp []; done) | omega | (simp only [tlL]; omega) | (simp; omega)⟩, trivial⟩, trivial⟩ (WkT.eq (y := T.ptr [ti (othN x1 q), T.nilp, T.nilp]) (WkT.refl _) (by first | rfl | (simp only [tlS, tl, vl, vo, oc, ov, tbl, vbl, ty, vy] <;> rfl) | (simp <;> omega) | (simp []; done) | (rw [List.take_of_length_le (by simp [])] <;> rfl) | (simp [List.take_of_length_le]; done))) (fun _ h => h)
          · -- node
            have h := h6
            have h := Option.some.inj h
            subst h
            exact WP.pathW tab_ok mixed [(17, An.call (ti (othN x1 q))), (23, An.call (T.nilp)), (29, An.call (T.ptr [ti qb, brT bub, brT bvb])), (31, An.fz)] _ (ps := [(True), (C Try.prog 69 [ti x1, ti q] (ti (othN x1 q))), (True), (C Try.prog 46 [brT bv, ti x1] (T.nilp)), (True), (C Try.prog 46 [brT bu, ti x1] (T.ptr [ti qb, brT bub, brT bvb])), ((1 = 1 ∧ 0 + 1 ≤ 3) ∧ (1 = 1 ∧ 1 + 1 ≤ 3) ∧ (1 = 1 ∧ 2 + 1 ≤ 3) ∧ True)]) (r := T.ptr [ti (othN x1 q), T.nilp, T.ptr [ti qb, brT bub, brT bvb]]) (by kernel_rfl) ⟨trivial, (other_C x1 q c0 c1 c2 c3), trivial, (hself bv x1 Br.nil c4), trivial, (hself bu x1 (Br.nd qb bub bvb) c5), ⟨⟨by first | rfl | (simp; done) | (simp []; done) | omega, by first | decide | (simp; done) | (simp []; done) | omega | (simp only [tlL]; omega) | (simp; omega)⟩, ⟨by first | rfl | (simp; done) | (simp []; done) | omega, by first | decide | (simp; done) | (simp []; done) | omega | (simp only [tlL]; omega) | (simp; omega)⟩, ⟨by first | rfl | (simp; done) | (simp []; done) | omega, by first | decide | (simp; done) | (simp []; done) | omega | (simp only [tlL]; omega) | (simp; omega)⟩, trivial⟩, trivial⟩ (WkT.eq (y := T.ptr [ti (othN x1 q), T.nilp, T.ptr [ti qb, brT bub, brT bvb]]) (WkT.refl _) (by first | rfl | (simp only [tlS, tl, vl, vo, oc, ov, tbl, vbl, ty, vy] <;> rfl) | (simp <;> omega) | (simp []; done) | (rw [List.take_of_length_le (by simp [])] <;> rfl) | (simp [List.take_of_length_le]; done))) (fun _ h => h)
        · -- node
          have h := h5
          rcases brM_some h with ⟨rfl, h7⟩ | ⟨qc, buc, bvc, rfl, h7⟩
          · -- nil
            have h := h7
            have h := Option.some.inj h
            subst h
            exact WP.pathW tab_ok mixed [(17, An.call (ti (othN x1 q))), (23, An.call (T.ptr [ti qb, brT bub, brT bvb])), (29, An.call (T.nilp)), (31, An.fz)] _ (ps := [(True), (C Try.prog 69 [ti x1, ti q] (ti (othN x1 q))), (True), (C Try.prog 46 [brT bv, ti x1] (T.ptr [ti qb, brT bub, brT bvb])), (True), (C Try.prog 46 [brT bu, ti x1] (T.nilp)), ((1 = 1 ∧ 0 + 1 ≤ 3) ∧ (1 = 1 ∧ 1 + 1 ≤ 3) ∧ (1 = 1 ∧ 2 + 1 ≤ 3) ∧ True)]) (r := T.ptr [ti (othN x1 q), T.ptr [ti qb, brT bub, brT bvb], T.nilp]) (by kernel_rfl) ⟨trivial, (other_C x1 q c0 c1 c2 c3), trivial, (hself bv x1 (Br.nd qb bub bvb) c4), trivial, (hself bu x1 Br.nil c5), ⟨⟨by first | rfl | (simp; done) | (simp []; done) | omega, by first | decide | (simp; done) | (simp []; done) | omega | (simp only [tlL]; omega) | (simp; omega)⟩, ⟨by first | rfl | (simp; done) | (simp []; done) | omega, by first | decide | (simp; done) | (simp []; done) | omega | (simp only [tlL]; omega) | (simp; omega)⟩, ⟨by first | rfl | (simp; done) | (simp []; done) | omega, by first | decide | (simp; done) | (simp []; done) | omega | (simp only [tlL]; omega) | (simp; omega)⟩, trivial⟩, trivial⟩ (WkT.eq (y := T.ptr [ti (othN x1 q), T.ptr [ti qb, brT bub, brT bvb], T.nilp]) (WkT.refl _) (by first | rfl | (simp only [tlS, tl, vl, vo, oc, ov, tbl, vbl, ty, vy] <;> rfl) | (simp <;> omega) | (simp []; done) | (rw [List.take_of_length_le (by simp [])] <;> rfl) | (simp [List.take_of_length_le]; done))) (fun _ h => h)
          · -- node
            have h := h7
            have h := Option.some.inj h
            subst h
            exact WP.pathW tab_ok mixed [(17, An.call (ti (othN x1 q))), (23, An.call (T.ptr [ti qb, brT bub, brT bvb])), (29, An.call (T.ptr [ti qc, brT buc, brT bvc])), (31, An.fz)] _ (ps := [(True), (C Try.prog 69 [ti x1, ti q] (ti (othN x1 q))), (True), (C Try.prog 46 [brT bv, ti x1] (T.ptr [ti qb, brT bub, brT bvb])), (True), (C Try.prog 46 [brT bu, ti x1] (T.ptr [ti qc, brT buc, brT bvc])), ((1 = 1 ∧ 0 + 1 ≤ 3) ∧ (1 = 1 ∧ 1 + 1 ≤ 3) ∧ (1 = 1 ∧ 2 + 1 ≤ 3) ∧ True)]) (r := T.ptr [ti (othN x1 q), T.ptr [ti qb, brT bub, brT bvb], T.ptr [ti qc, brT buc, brT bvc]]) (by kernel_rfl) ⟨trivial, (other_C x1 q c0 c1 c2 c3), trivial, (hself bv x1 (Br.nd qb bub bvb) c4), trivial, (hself bu x1 (Br.nd qc buc bvc) c5), ⟨⟨by first | rfl | (simp; done) | (simp []; done) | omega, by first | decide | (simp; done) | (simp []; done) | omega | (simp only [tlL]; omega) | (simp; omega)⟩, ⟨by first | rfl | (simp; done) | (simp []; done) | omega, by first | decide | (simp; done) | (simp []; done) | omega | (simp only [tlL]; omega) | (simp; omega)⟩, ⟨by first | rfl | (simp; done) | (simp []; done) | omega, by first | decide | (simp; done) | (simp []; done) | omega | (simp only [tlL]; omega) | (simp; omega)⟩, trivial⟩, trivial⟩ (WkT.eq (y := T.ptr [ti (othN x1 q), T.ptr [ti qb, brT bub, brT bvb], T.ptr [ti qc, brT buc, brT bvc]]) (WkT.refl _) (by first | rfl | (simp only [tlS, tl, vl, vo, oc, ov, tbl, vbl, ty, vy] <;> rfl) | (simp <;> omega) | (simp []; done) | (rw [List.take_of_length_le (by simp [])] <;> rfl) | (simp [List.take_of_length_le]; done))) (fun _ h => h)
theorem F_p_impl_branch_turned_W (n : Nat) : ∀ (x0 : Br) (x1 : Int) (y0 : Br), F_p_impl_branch_turned n x0 x1 = some y0 → C Try.prog 46 [brT x0, ti x1] (brT y0) := by
  induction n with
  | zero => intro x0 x1 y0 h; rw [F_p_impl_branch_turned] at h; cases h
  | succ n ih => intro x0 x1 y0 h; rw [F_p_impl_branch_turned] at h; exact F_p_impl_branch_turned_B_W _ ih x0 x1 y0 h
theorem F_impl_TurnTree_W (x0 : Int) (x1 : List Nd) (y0 : List Nd) (y1 : Bool) (h : F_impl_TurnTree x0 x1 = some (y0, y1)) : CG Try.prog 17 [vi x0, V.t (T.agg [T.list (List.length x1) 3 (List.flatMap nodeC x1)])] [] (V.tup [V.agg [V.own 9000 3 (List.length y0)], vb y1]) [(9000, oc 53 (List.flatMap nodeC y0))] := by
  unfold F_impl_TurnTree at h
  refine CG.intro (tab := tab) tab_ok (fn := Try.f17) Try.func17 (by kernel_rfl) rfl (Nat.le_of_ble_eq_true rfl) (by kernel_rfl) ?_
  refine WP.seq ?_
  refine WP.path tab_ok mixed [(3, An.fz), (4, An.id 2004)] [.keep [5, 4, 3, 0], .keepO [2004]] (ps := []) (e := .normal) (σ' := ⟨[2004], [(5, vb false), (4, V.ref 2004 0), (3, V.t (T.ptr [T.list (List.length x1) 3 (List.flatMap nodeC x1)])), (0, vi x0)], [(2004, oc 26 [T.nils])]⟩) (by kernel_rfl) trivial ?_
  refine WP.seq ?_
  obtain ⟨r11, r11b, c0, h⟩ := bnd2_some h
  refine WP.path tab_ok mixed [(11, An.call (T.tup [brT r11, tb r11b]))] [.keep [7, 6, 5, 4, 0], .keepO [2004]] (ps := [(1 ≤ 1), (C Try.prog 41 [ti x0, T.agg [T.list (List.length x1) 3 (List.flatMap nodeC x1)]] (T.tup [brT r11, tb r11b]))]) (e := .normal) (σ' := ⟨[2004], [(7, vb r11b), (6, V.t (brT r11)), (5, vb false), (4, V.ref 2004 0), (0, vi x0)], [(2004, oc 26 [T.nils])]⟩) (by kernel_rfl) ⟨by decide, (F_impl_root_W x0 x1 r11 r11b c0), trivial⟩ ?_
  refine WP.seq ?_
  refine WP.seq ?_
  refine WP.path tab_ok mixed [] [.keep [15, 6, 5, 4, 0], .keepO [2004]] (ps := []) (e := .normal) (σ' := ⟨[2004], [(15, vb (!r11b)), (6, V.t (brT r11)), (5, vb false), (4, V.ref 2004 0), (0, vi x0)], [(2004, oc 26 [T.nils])]⟩) (by kernel_rfl) trivial ?_
  rcases ite_some h with ⟨h1, h⟩ | ⟨h1, h⟩
  · -- yes
    refine WP.cond (b := !r11b) rfl (fun _ => ?_) (fun hh => by rw [h1] at hh; cases hh)
    simp only [Option.some.injEq, Prod.mk.injEq] at h
    obtain ⟨rfl, rfl⟩ := h
    exact WP.pathG tab_ok mixed [] [.keep [4, 5], .keepO [2004], .names [(2004, 2004)]] [] _ (r' := V.tup [V.agg [V.own 9000 3 (List.length ([] : List Nd))], vb false]) (ps := [(True), ((0 + 1 ≤ 1 ∧ 1 = 1)), (0 + 1 ≤ 1)]) (r := V.t (T.tup [T.agg [T.nils], tb false])) (N := [2004]) (O := []) [(9000, 53)] (by kernel_rfl) ⟨trivial, by decide, by first | decide | omega | (simp only [tlL] <;> omega) | (simp <;> omega) | (simp [] <;> omega), trivial⟩ ⟨(by first | rfl | (simp; done)), (WkT.refl _), trivial⟩ rfl rfl (fun _ h => h)
  · -- no
    refine WP.cond (b := !r11b) rfl (fun hh => by rw [h1] at hh; cases hh) (fun _ => ?_)
    refine WP.path tab_ok mixed [] [.keep [6, 5, 4, 0], .keepO [2004]] (ps := []) (e := .normal) (σ' := ⟨[2004], [(6, V.t (brT r11)), (5, vb false), (4, V.ref 2004 0), (0, vi x0)], [(2004, oc 26 [T.nils])]⟩) (by kernel_rfl) trivial ?_
    obtain ⟨r19, c1, h⟩ := bnd1_some h
    obtain ⟨r20, c2, h⟩ := bnd1_some h
    simp only [Option.some.injEq, Prod.mk.injEq] at h
    obtain ⟨rfl, rfl⟩ := h
    exact WP.pathG tab_ok mixed [(19, An.call (brT r19)), (20, An.callG [(9000, 10200)] [V.t (brT r19)] [] (V.agg [V.own 9000 3 (List.length r20)]) [(9000, oc 53 (List.flatMap nodeC r20))])] [.keep [4, 5], .keepO [10200, 2004], .names [(10200, 9000), (2004, 2004)]] [9000] _ (r' := V.tup [V.agg [V.own 9000 3 (List.length r20)], vb true]) (ps := [(C Try.prog 46 [brT r11, ti x0] (brT r19)), (CG Try.prog 43 [V.t (brT r19)] [] (V.agg [V.own 9000 3 (List.length r20)]) [(9000, oc 53 (List.flatMap nodeC r20))]), (WkT (brT r19) (brT r19)), ((0 + 1 ≤ 1 ∧ 1 = 1)), (0 + 1 ≤ 1)]) (r := V.tup [V.agg [V.own 9000 3 (List.length r20)], vb true]) (N := [9000, 2004]) (O := [(9000, oc 53 (List.flatMap nodeC r20))]) [] (by kernel_rfl) ⟨(F_p_impl_branch_turned_W fuel r11 x0 r19 c1), (F_p_impl_branch_tree_W r19 r20 c2), WkT.refl _, by decide, by decide, trivial⟩ ⟨rfl, (WkT.refl _), trivial⟩ rfl rfl (fun _ h => h)
theorem F_impl_TurnTree_W_C (x0 : Int) (x1 : List Nd) (y0 : List Nd) (y1 : Bool) (h : F_impl_TurnTree x0 x1 = some (y0, y1)) : C Try.prog 17 [ti x0, T.agg [T.list (List.length x1) 3 (List.flatMap nodeC x1)]] (T.tup [T.agg [T.list (List.length y0) 3 (List.flatMap nodeC y0)], tb y1]) :=
  CG.toC (ps := [(List.length (List.flatMap nodeC y0) = (List.length y0) * 3)]) (F_impl_TurnTree_W  x0 x1 y0 y1 h) (by rfl) ⟨by first | exact len_node _ | (rw [len_node]; first | done | omega | (simp; done) | (simp; omega)), trivial⟩
theorem F_spec_l9Turned_B_W (self : Int → (List Nd) → Option (List Nd)) (hself : ∀ (x0 : Int) (x1 : List Nd) (y0 : List Nd), self x0 x1 = some y0 → CG Try.prog 47 [vi x0, V.t (T.list (List.length x1) 3 (List.flatMap nodeC x1))] [] (V.own 9000 3 (List.length y0)) [(9000, oc 53 (List.flatMap nodeC y0))]) (x0 : Int) (x1 : List Nd) (y0 : List Nd) (h : F_spec_l9Turned_B self x0 x1 = some y0) : CG Try.prog 47 [vi x0, V.t (T.list (List.length x1) 3 (List.flatMap nodeC x1))] [] (V.own 9000 3 (List.length y0)) [(9000, oc 53 (List.flatMap nodeC y0))] := by
  unfold F_spec_l9Turned_B at h
  refine CG.intro (tab := tab) tab_ok (fn := Try.f47) Try.func47 (by kernel_rfl) rfl (Nat.le_of_ble_eq_true rfl) (by kernel_rfl) ?_
  refine WP.seq ?_
  refine WP.path tab_ok mixed [] [.keep [4, 0, 1], .keepO []] (ps := []) (e := .normal) (σ' := ⟨[], [(4, V.t (T.nils)), (0, vi x0), (1, V.t (T.list (List.length x1) 3 (List.flatMap nodeC x1)))], []⟩) (by kernel_rfl) trivial ?_
  refine WP.seq ?_
  obtain ⟨c0, h⟩ := chk_some h
  refine WP.path tab_ok mixed [(9, An.v (T.agg [ti ((List.getD x1 0 (0, 0, 0)).1), ti ((List.getD x1 0 (0, 0, 0)).2.1), ti ((List.getD x1 0 (0, 0, 0)).2.2)])), (5, An.id 2005)] [.keep [5, 4, 0, 1], .keepO [2005]] (ps := [((0 ≤ (0 : Int) ∧ (0 : Int) < ((List.length x1 : Nat) : Int))), (3 ≤ List.length (List.drop 0 (List.flatMap nodeC x1))), (T.agg (List.take 3 (List.drop 0 (List.flatMap nodeC x1))) = T.agg [ti ((List.getD x1 0 (0, 0, 0)).1), ti ((List.getD x1 0 (0, 0, 0)).2.1), ti ((List.getD x1 0 (0, 0, 0)).2.2)]), ((0 + 3 ≤ 3 ∧ 3 = 3))]) (e := .normal) (σ' := ⟨[2005], [(5, V.ref 2005 0), (4, V.t (T.nils)), (0, vi x0), (1, V.t (T.list (List.length x1) 3 (List.flatMap nodeC x1)))], [(2005, oc 53 [ti ((List.getD x1 0 (0, 0, 0)).1), ti ((List.getD x1 0 (0, 0, 0)).2.1), ti ((List.getD x1 0 (0, 0, 0)).2.2)])]⟩) (by kernel_rfl) ⟨c0, fit_node (i := 0) (by simp) (by omega), at_node (by simp) (by omega), by decide, trivial⟩ ?_
  refine WP.seq ?_
  refine WP.seq ?_
  refine WP.path tab_ok mixed [] [.keep [12, 5, 4, 0, 1], .keepO [2005]] (ps := [(True), (True)]) (e := .normal) (σ' := ⟨[2005], [(12, vb (decide (((List.getD x1 0 (0, 0, 0)).2.1) < (0 : Int)))), (5, V.ref 2005 0), (4, V.t (T.nils)), (0, vi x0), (1, V.t (T.list (List.length x1) 3 (List.flatMap nodeC x1)))], [(2005, oc 53 [ti ((List.getD x1 0 (0, 0, 0)).1), ti ((List.getD x1 0 (0, 0, 0)).2.1), ti ((List.getD x1 0 (0, 0, 0)).2.2)])]⟩) (by kernel_rfl) ⟨trivial, trivial, trivial⟩ ?_
  rcases ite_some h with ⟨h1, h⟩ | ⟨h1, h⟩
  · -- yes
    refine WP.cond (b := decide (((List.getD x1 0 (0, 0, 0)).2.1) < (0 : Int))) rfl (fun _ => ?_) (fun hh => by rw [h1] at hh; cases hh)
    have h := Option.some.inj h
    subst h
    exact WP.pathG tab_ok mixed [(14, An.id 2014)] [.keep [4], .keepO [2014], .names [(2014, 9000)]] [9000] _ (r' := V.own 9000 3 (List.length [(((List.getD x1 0 (0, 0, 0)).1), ((List.getD x1 0 (0, 0, 0)).2.1), ((List.getD x1 0 (0, 0, 0)).2.2))])) (ps := [(0 + 3 ≤ 3), ((3 = 3 ∧ 0 + 3 ≤ 3) ∧ True), (3 = 1 * 3)]) (r := V.own 9000 3 1) (N := [9000]) (O := [(9000, oc 53 [ti ((List.getD x1 0 (0, 0, 0)).1), ti ((List.getD x1 0 (0, 0, 0)).2.1), ti ((List.getD x1 0 (0, 0, 0)).2.2)])]) [] (by kernel_rfl) ⟨by decide, ⟨⟨by first | rfl | (simp; done) | (simp []; done) | omega, by first | decide | (simp; done) | (simp []; done) | omega | (simp only [tlL]; omega) | (simp; omega)⟩, trivial⟩, by decide, trivial⟩ ⟨(congrArg (V.own 9000 3) (by first | rfl | (simp only [tlS, tl, vl, vo, oc, ov, tbl, vbl, ty, vy] <;> rfl) | (simp <;> omega) | (simp []; done) | (rw [List.take_of_length_le (by simp [])] <;> rfl) | (simp [List.take_of_length_le]; done))), trivial⟩ rfl (by first | rfl | (simp only [tlS, tl, vl, vo, oc, ov, tbl, vbl, ty, vy] <;> rfl) | (simp <;> omega) | (simp []; done) | (rw [List.take_of_length_le (by simp [])] <;> rfl) | (simp [List.take_of_length_le]; done)) (fun _ h => h)
  · -- no
    refine WP.cond (b := decide (((List.getD x1 0 (0, 0, 0)).2.1) < (0 : Int))) rfl (fun hh => by rw [h1] at hh; cases hh) (fun _ => ?_)
    refine WP.path tab_ok mixed [] [.keep [5, 4, 0, 1], .keepO [2005]] (ps := []) (e := .normal) (σ' := ⟨[2005], [(5, V.ref 2005 0), (4, V.t (T.nils)), (0, vi x0), (1, V.t (T.list (List.length x1) 3 (List.flatMap nodeC x1)))], [(2005, oc 53 [ti ((List.getD x1 0 (0, 0, 0)).1), ti ((List.getD x1 0 (0, 0, 0)).2.1), ti ((List.getD x1 0 (0, 0, 0)).2.2)])]⟩) (by kernel_rfl) trivial ?_
    obtain ⟨c1, h⟩ := chk_some h
    obtain ⟨c2, h⟩ := chk_some h
    obtain ⟨n19, c3, h⟩ := nam_some h
    obtain ⟨c4, h⟩ := chk_some h
    obtain ⟨r28, c5, h⟩ := bnd1_some h
    obtain ⟨r29, c6, h⟩ := bnd1_some h
    obtain ⟨r35, c7, h⟩ := bnd1_some h
    obtain ⟨r36, c8, h⟩ := bnd1_some h
    obtain ⟨r37, c9, h⟩ := bnd1_some h
    have h := Option.some.inj h
    subst h
    exact WP.pathG tab_ok mixed [(6, An.id 2006), (18, An.v (T.int .i64 ((1 : Int) * 2 ^ Int.toNat x0))), (19, An.v (ti n19)), (22, An.v (T.int .i64 (n19 - ((List.getD x1 0 (0, 0, 0)).1)))), (28, An.callG [(9000, 10280)] [vi x0, V.t (T.agg [T.list (List.length x1) 3 (List.flatMap nodeC x1)]), vi ((List.getD x1 0 (0, 0, 0)).2.2)] [] (V.own 9000 3 (List.length r28)) [(9000, oc 53 (List.flatMap nodeC r28))]), (29, An.callG [(9000, 10290)] [vi x0, V.t (T.list (List.length r28) 3 (List.flatMap nodeC r28))] [] (V.own 9000 3 (List.length r29)) [(9000, oc 53 (List.flatMap nodeC r29))]), (35, An.callG [(9000, 10350)] [vi x0, V.t (T.agg [T.list (List.length x1) 3 (List.flatMap nodeC x1)]), vi ((List.getD x1 0 (0, 0, 0)).2.1)] [] (V.own 9000 3 (List.length r35)) [(9000, oc 53 (List.flatMap nodeC r35))]), (36, An.callG [(9000, 10360)] [vi x0, V.t (T.list (List.length r35) 3 (List.flatMap nodeC r35))] [] (V.own 9000 3 (List.length r36)) [(9000, oc 53 (List.flatMap nodeC r36))]), (37, An.callG [(9000, 10370)] [vi (n19 - ((List.getD x1 0 (0, 0, 0)).1)), V.t (T.list (List.length r29) 3 (List.flatMap nodeC r29)), V.t (T.list (List.length r36) 3 (List.flatMap nodeC r36))] [] (V.own 9000 3 (List.length r37)) [(9000, oc 53 (List.flatMap nodeC r37))])] [.keep [4], .keepO [10370], .names [(10370, 9000)]] [9000] _ (r' := V.own 9000 3 (List.length r37)) (ps := [((1 = 1 ∧ 0 + 1 ≤ 1) ∧ True), ((0 + 1 ≤ 1 ∧ 1 = 1)), (0 ≤ x0), (T.int .i64 (IntKind.wrap .i64 ((1 : Int) * 2 ^ (min (Int.toNat x0) 64))) = T.int .i64 ((1 : Int) * 2 ^ Int.toNat x0)), (True), (T.int .i64 (IntKind.wrap .i64 (((1 : Int) * 2 ^ Int.toNat x0) - (1 : Int))) = ti n19), (True), (True), (T.int .i64 (IntKind.wrap .i64 (n19 - ((List.getD x1 0 (0, 0, 0)).1))) = T.int .i64 (n19 - ((List.getD x1 0 (0, 0, 0)).1))), (0 + 1 ≤ 1), (True), (CG Try.prog 45 [vi x0, V.t (T.agg [T.list (List.length x1) 3 (List.flatMap nodeC x1)]), vi ((List.getD x1 0 (0, 0, 0)).2.2)] [] (V.own 9000 3 (List.length r28)) [(9000, oc 53 (List.flatMap nodeC r28))]), (WkT (ti x0) (ti x0)), (WkT (T.agg [T.list (List.length x1) 3 (List.flatMap nodeC x1)]) (T.agg [T.list (List.length x1) 3 (List.flatMap nodeC x1)])), (WkT (ti ((List.getD x1 0 (0, 0, 0)).2.2)) (ti ((List.getD x1 0 (0, 0, 0)).2.2))), (CG Try.prog 47 [vi x0, V.t (T.list (List.length r28) 3 (List.flatMap nodeC r28))] [] (V.own 9000 3 (List.length r29)) [(9000, oc 53 (List.flatMap nodeC r29))]), ((V.own 9000 3 (List.length r29)).flat = true), (flatO [(9000, oc 53 (List.flatMap nodeC r29))] = true), (WkT (ti x0) (ti x0)), (List.length (List.flatMap nodeC r28) = (List.length r28) * 3), (WkT (T.list (List.length r28) 3 (List.flatMap nodeC r28)) (T.list (List.length r28) 3 (List.flatMap nodeC r28))), (0 + 1 ≤ 1), (True), (CG Try.prog 45 [vi x0, V.t (T.agg [T.list (List.length x1) 3 (List.flatMap nodeC x1)]), vi ((List.getD x1 0 (0, 0, 0)).2.1)] [] (V.own 9000 3 (List.length r35)) [(9000, oc 53 (List.flatMap nodeC r35))]), (WkT (ti x0) (ti x0)), (WkT (T.agg [T.list (List.length x1) 3 (List.flatMap nodeC x1)]) (T.agg [T.list (List.length x1) 3 (List.flatMap nodeC x1)])), (WkT (ti ((List.getD x1 0 (0, 0, 0)).2.1)) (ti ((List.getD x1 0 (0, 0, 0)).2.1))), (CG Try.prog 47 [vi x0, V.t (T.list (List.length r35) 3 (List.flatMap nodeC r35))] [] (V.own 9000 3 (List.length r36)) [(9000, oc 53 (List.flatMap nodeC r36))]), ((V.own 9000 3 (List.length r36)).flat = true), (flatO [(9000, oc 53 (List.flatMap nodeC r36))] = true), (WkT (ti x0) (ti x0)), (List.length (List.flatMap nodeC r35) = (List.length r35) * 3), (WkT (T.list (List.length r35) 3 (List.flatMap nodeC r35)) (T.list (List.length r35) 3 (List.flatMap nodeC r35))), (CG Try.prog 67 [vi (n19 - ((List.getD x1 0 (0, 0, 0)).1)), V.t (T.list (List.length r29) 3 (List.flatMap nodeC r29)), V.t (T.list (List.length r36) 3 (List.flatMap nodeC r36))] [] (V.own 9000 3 (List.length r37)) [(9000, oc 53 (List.flatMap nodeC r37))]), ((V.own 9000 3 (List.length r37)).flat = true), (flatO [(9000, oc 53 (List.flatMap nodeC r37))] = true), (WkT (ti (n19 - ((List.getD x1 0 (0, 0, 0)).1))) (ti (n19 - ((List.getD x1 0 (0, 0, 0)).1)))), (List.length (List.flatMap nodeC r29) = (List.length r29) * 3), (WkT (T.list (List.length r29) 3 (List.flatMap nodeC r29)) (T.list (List.length r29) 3 (List.flatMap nodeC r29))), (List.length (List.flatMap nodeC r36) = (List.length r36) * 3), (WkT (T.list (List.length r36) 3 (List.flatMap nodeC r36)) (T.list (List.length r36) 3 (List.flatMap nodeC r36)))]) (r := V.own 9000 3 (List.length r37)) (N := [9000]) (O := [(9000, oc 53 (List.flatMap nodeC r37))]) [] (by kernel_rfl) ⟨⟨⟨by first | rfl | (simp; done) | (simp []; done) | omega, by first | decide | (simp; done) | (simp []; done) | omega | (simp only [tlL]; omega) | (simp; omega)⟩, trivial⟩, by decide, c1.1, shl_told c1, trivial, Eq.trans (wrapI c2) (congrArg (ti) c3), trivial, trivial, wrapI c4, by decide, trivial, (F_spec_l9Sub_W x0 x1 ((List.getD x1 0 (0, 0, 0)).2.2) r28 c5), WkT.refl _, WkT.refl _, WkT.refl _, (hself x0 r28 r29 c6), by first | rfl | (simp [V.flats, V.flat, T.flats, T.flat, flats_app, flats_int, flats_bool, flats_str, flats_node, flats_asked, flats_pair, flats_recs, flats_fact, flatEs_mpB, flatEs_mpI, flatEs_mp3]; done), by first | rfl | (simp [flatO, Tl.Obj.flat, V.flats, V.flat, T.flats, T.flat, flats_app, flats_int, flats_bool, flats_str, flats_node, flats_asked, flats_pair, flats_recs, flats_fact, flatEs_mpB, flatEs_mpI, flatEs_mp3]; done), WkT.refl _, by first | exact len_node _ | (rw [len_node]; first | done | omega | (simp; done) | (simp only [tlL]; omega) | (simp; omega)), WkT.refl _, by decide, trivial, (F_spec_l9Sub_W x0 x1 ((List.getD x1 0 (0, 0, 0)).2.1) r35 c7), WkT.refl _, WkT.refl _, WkT.refl _, (hself x0 r35 r36 c8), by first | rfl | (simp [V.flats, V.flat, T.flats, T.flat, flats_app, flats_int, flats_bool, flats_str, flats_node, flats_asked, flats_pair, flats_recs, flats_fact, flatEs_mpB, flatEs_mpI, flatEs_mp3]; done), by first | rfl | (simp [flatO, Tl.Obj.flat, V.flats, V.flat, T.flats, T.flat, flats_app, flats_int, flats_bool, flats_str, flats_node, flats_asked, flats_pair, flats_recs, flats_fact, flatEs_mpB, flatEs_mpI, flatEs_mp3]; done), WkT.refl _, by first | exact len_node _ | (rw [len_node]; first | done | omega | (simp; done) | (simp only [tlL]; omega) | (simp; omega)), WkT.refl _, (F_spec_l9Join_W (n19 - ((List.getD x1 0 (0, 0, 0)).1)) r29 r36 r37 c9), by first | rfl | (simp [V.flats, V.flat, T.flats, T.flat, flats_app, flats_int, flats_bool, flats_str, flats_node, flats_asked, flats_pair, flats_recs, flats_fact, flatEs_mpB, flatEs_mpI, flatEs_mp3]; done), by first | rfl | (simp [flatO, Tl.Obj.flat, V.flats, V.flat, T.flats, T.flat, flats_app, flats_int, flats_bool, flats_str, flats_node, flats_asked, flats_pair, flats_recs, flats_fact, flatEs_mpB, flatEs_mpI, flatEs_mp3]; done), WkT.refl _, by first | exact len_node _ | (rw [len_node]; first | done | omega | (simp; done) | (simp only [tlL]; omega) | (simp; omega)), WkT.refl _, by first | exact len_node _ | (rw [len_node]; first | done | omega | (simp; done) | (simp only [tlL]; omega) | (simp; omega)), WkT.refl _, trivial⟩ ⟨rfl, trivial⟩ rfl rfl (fun _ h => h)
theorem F_spec_l9Turned_B_W_C (self : Int → (List Nd) → Option (List Nd)) (hself : ∀ (x0 : Int) (x1 : List Nd) (y0 : List Nd), self x0 x1 = some y0 → CG Try.prog 47 [vi x0, V.t (T.list (List.length x1) 3 (List.flatMap nodeC x1))] [] (V.own 9000 3 (List.length y0)) [(9000, oc 53 (List.flatMap nodeC y0))]) (x0 : Int) (x1 : List Nd) (y0 : List Nd) (h : F_spec_l9Turned_B self x0 x1 = some y0) : C Try.prog 47 [ti x0, T.list (List.length x1) 3 (List.flatMap nodeC x1)] (T.list (List.length y0) 3 (List.flatMap nodeC y0)) :=
  CG.toC (ps := [(List.length (List.flatMap nodeC y0) = (List.length y0) * 3)]) (F_spec_l9Turned_B_W self hself x0 x1 y0 h) (by rfl) ⟨by first | exact len_node _ | (rw [len_node]; first | done | omega | (simp; done) | (simp; omega)), trivial⟩
theorem F_spec_l9Turned_W (n : Nat) : ∀ (x0 : Int) (x1 : List Nd) (y0 : List Nd), F_spec_l9Turned n x0 x1 = some y0 → CG Try.prog 47 [vi x0, V.t (T.list (List.length x1) 3 (List.flatMap nodeC x1))] [] (V.own 9000 3 (List.length y0)) [(9000, oc 53 (List.flatMap nodeC y0))] := by
  induction n with
  | zero => intro x0 x1 y0 h; rw [F_spec_l9Turned] at h; cases h
  | succ n ih => intro x0 x1 y0 h; rw [F_spec_l9Turned] at h; exact F_spec_l9Turned_B_W _ ih x0 x1 y0 h
theorem F_spec_TurnTree_W (x0 : Int) (x1 : List Nd) (y0 : List Nd) (y1 : Bool) (h : F_spec_TurnTree x0 x1 = some (y0, y1)) : CG Try.prog 18 [vi x0, V.t (T.agg [T.list (List.length x1) 3 (List.flatMap nodeC x1)])] [] (V.tup [V.agg [V.own 9000 3 (List.length y0)], vb y1]) [(9000, oc 53 (List.flatMap nodeC y0))] := by
  unfold F_spec_TurnTree at h
  refine CG.intro (tab := tab) tab_ok (fn := Try.f18) Try.func18 (by kernel_rfl) rfl (Nat.le_of_ble_eq_true rfl) (by kernel_rfl) ?_
  refine WP.seq ?_
  refine WP.path tab_ok mixed [(3, An.fz), (4, An.id 2004)] [.keep [5, 4, 3, 0], .keepO [2004]] (ps := []) (e := .normal) (σ' := ⟨[2004], [(5, vb false), (4, V.ref 2004 0), (3, V.t (T.ptr [T.list (List.length x1) 3 (List.flatMap nodeC x1)])), (0, vi x0)], [(2004, oc 26 [T.nils])]⟩) (by kernel_rfl) trivial ?_
  refine WP.seq ?_
  refine WP.seq ?_
  obtain ⟨c0, h⟩ := chk_some h
  refine WP.path tab_ok mixed [(8, An.call (tb ((rootN x0 x1).2)))] [.keep [9, 5, 4, 3, 0], .keepO [2004]] (ps := [(1 ≤ 1), (C Try.prog 39 [ti x0, T.agg [T.list (List.length x1) 3 (List.flatMap nodeC x1)]] (tb ((rootN x0 x1).2)))]) (e := .normal) (σ' := ⟨[2004], [(9, vb (!((rootN x0 x1).2))), (5, vb false), (4, V.ref 2004 0), (3, V.t (T.ptr [T.list (List.length x1) 3 (List.flatMap nodeC x1)])), (0, vi x0)], [(2004, oc 26 [T.nils])]⟩) (by kernel_rfl) ⟨by decide, (l9Tree_C x0 x1 c0), trivial⟩ ?_
  rcases ite_some h with ⟨h1, h⟩ | ⟨h1, h⟩
  · -- yes
    refine WP.cond (b := !((rootN x0 x1).2)) rfl (fun _ => ?_) (fun hh => by rw [h1] at hh; cases hh)
    simp only [Option.some.injEq, Prod.mk.injEq] at h
    obtain ⟨rfl, rfl⟩ := h
    exact WP.pathG tab_ok mixed [] [.keep [4, 5], .keepO [2004], .names [(2004, 2004)]] [] _ (r' := V.tup [V.agg [V.own 9000 3 (List.length ([] : List Nd))], vb false]) (ps := [(True), ((0 + 1 ≤ 1 ∧ 1 = 1)), (0 + 1 ≤ 1)]) (r := V.t (T.tup [T.agg [T.nils], tb false])) (N := [2004]) (O := []) [(9000, 53)] (by kernel_rfl) ⟨trivial, by decide, by first | decide | omega | (simp only [tlL] <;> omega) | (simp <;> omega) | (simp [] <;> omega), trivial⟩ ⟨(by first | rfl | (simp; done)), (WkT.refl _), trivial⟩ rfl rfl (fun _ h => h)
  · -- no
    refine WP.cond (b := !((rootN x0 x1).2)) rfl (fun hh => by rw [h1] at hh; cases hh) (fun _ => ?_)
    refine WP.path tab_ok mixed [] [.keep [5, 4, 3, 0], .keepO [2004]] (ps := []) (e := .normal) (σ' := ⟨[2004], [(5, vb false), (4, V.ref 2004 0), (3, V.t (T.ptr [T.list (List.length x1) 3 (List.flatMap nodeC x1)])), (0, vi x0)], [(2004, oc 26 [T.nils])]⟩) (by kernel_rfl) trivial ?_
    obtain ⟨r14, c1, h⟩ := bnd1_some h
    simp only [Option.some.injEq, Prod.mk.injEq] at h
    obtain ⟨rfl, rfl⟩ := h
    exact WP.pathG tab_ok mixed [(14, An.callG [(9000, 10140)] [vi x0, V.t (T.list (List.length x1) 3 (List.flatMap nodeC x1))] [] (V.own 9000 3 (List.length r14)) [(9000, oc 53 (List.flatMap nodeC r14))])] [.keep [4, 5], .keepO [10140, 2004], .names [(10140, 9000), (2004, 2004)]] [9000] _ (r' := V.tup [V.agg [V.own 9000 3 (List.length r14)], vb true]) (ps := [(True), (CG Try.prog 47 [vi x0, V.t (T.list (List.length x1) 3 (List.flatMap nodeC x1))] [] (V.own 9000 3 (List.length r14)) [(9000, oc 53 (List.flatMap nodeC r14))]), (WkT (ti x0) (ti x0)), (WkT (T.list (List.length x1) 3 (List.flatMap nodeC x1)) (T.list (List.length x1) 3 (List.flatMap nodeC x1))), ((1 = 1 ∧ 0 + 1 ≤ 1) ∧ True), ((0 + 1 ≤ 1 ∧ 1 = 1)), (0 + 1 ≤ 1)]) (r := V.tup [V.agg [V.own 9000 3 (List.length r14)], vb true]) (N := [9000, 2004]) (O := [(9000, oc 53 (List.flatMap nodeC r14))]) [] (by kernel_rfl) ⟨trivial, (F_spec_l9Turned_W fuel x0 x1 r14 c1), WkT.refl _, WkT.refl _, ⟨⟨by decide, by decide⟩, trivial⟩, by decide, by decide, trivial⟩ ⟨rfl, (WkT.refl _), trivial⟩ rfl rfl (fun _ h => h)
theorem F_spec_TurnTree_W_C (x0 : Int) (x1 : List Nd) (y0 : List Nd) (y1 : Bool) (h : F_spec_TurnTree x0 x1 = some (y0, y1)) : C Try.prog 18 [ti x0, T.agg [T.list (List.length x1) 3 (List.flatMap nodeC x1)]] (T.tup [T.agg [T.list (List.length y0) 3 (List.flatMap nodeC y0)], tb y1]) :=
  CG.toC (ps := [(List.length (List.flatMap nodeC y0) = (List.length y0) * 3)]) (F_spec_TurnTree_W  x0 x1 y0 y1 h) (by rfl) ⟨by first | exact len_node _ | (rw [len_node]; first | done | omega | (simp; done) | (simp; omega)), trivial⟩
theorem F_spec_DrawPlayTree_W (x0 : List Int) (y0 : Int) (y1 : List Nd) (y2 : List Bool) (h : F_spec_DrawPlayTree x0 = some (y0, y1, y2)) : CG Try.prog 19 [vy x0] [] (V.tup [vi y0, V.agg [V.own 9000 3 (List.length y1)], vo 9001 (List.length y2)]) [(9000, oc 53 (List.flatMap nodeC y1)), (9001, oc 4 (List.map T.bool y2))] := by
  unfold F_spec_DrawPlayTree at h
  refine CG.intro (tab := tab) tab_ok (fn := Try.f19) Try.func19 (by kernel_rfl) rfl (Nat.le_of_ble_eq_true rfl) (by kernel_rfl) ?_
  refine WP.seq ?_
  refine WP.path tab_ok mixed [(3, An.id 2003)] [.keep [4, 3, 2, 0], .keepO [2003]] (ps := []) (e := .normal) (σ' := ⟨[2003], [(4, V.t (T.nils)), (3, V.ref 2003 0), (2, vi 0), (0, vy x0)], [(2003, oc 26 [T.nils])]⟩) (by kernel_rfl) trivial ?_
  refine WP.seq ?_
  refine WP.path tab_ok mixed [(12, An.id 2012)] [.keep [5, 4, 3, 2], .keepO [2003, 2012]] (ps := [((1 = 1 ∧ 0 + 1 ≤ 3) ∧ True)]) (e := .normal) (σ' := ⟨[2012, 2003], [(5, V.ref 2012 0), (4, V.t (T.nils)), (3, V.ref 2003 0), (2, vi 0)], [(2003, oc 26 [T.nils]), (2012, oc 80 [ty x0, ti 0, T.int .u64 0])]⟩) (by kernel_rfl) ⟨⟨⟨by first | rfl | (simp; done) | (simp []; done) | omega, by first | decide | (simp; done) | (simp []; done) | omega | (simp only [tlL]; omega) | (simp; omega)⟩, trivial⟩, trivial⟩ ?_
  refine WP.seq ?_
  obtain ⟨r14, r14b, r14c, r14d, c0, h⟩ := bnd4_some h
  refine WP.path tab_ok mixed [(14, An.callG [(500, 2012)] [V.ref 500 0] [(500, oc 80 [ty x0, ti 0, T.int .u64 0])] (vi r14) [(500, oc 80 [ty r14b, ti r14c, T.int .u64 r14d])])] [.keep [6, 5, 4, 3, 2], .keepO [2003, 2012]] (ps := [(CG Try.prog 48 [V.ref 500 0] [(500, oc 80 [ty x0, ti 0, T.int .u64 0])] (vi r14) [(500, oc 80 [ty r14b, ti r14c, T.int .u64 r14d])]), ((V.ref 500 0).ren (renF [(500, 2012)]) = V.ref 2012 0), ((oc 80 [ty x0, ti 0, T.int .u64 0]) = (oc 80 [ty x0, ti 0, T.int .u64 0]).ren (renF [(500, 2012)]))]) (e := .normal) (σ' := ⟨[2012, 2003], [(6, vi r14), (5, V.ref 2012 0), (4, V.t (T.nils)), (3, V.ref 2003 0), (2, vi 0)], [(2003, oc 26 [T.nils]), (2012, oc 80 [ty r14b, ti r14c, T.int .u64 r14d])]⟩) (by kernel_rfl) ⟨(F_p_spec_l1Cur_many_W x0 (0 : Int) (0 : Int) r14 r14b r14c r14d c0), by first | rfl | (simp [V.ren, V.renL, renF, lk]; done) | (simp [V.ren, V.renL, renF, lk]; omega), by first | rfl | (simp only [tlS]; rfl) | (simp [Tl.Obj.ren, V.ren, V.renL, renF, lk]; done), trivial⟩ ?_
  refine WP.seq ?_
  obtain ⟨r17, r17b, r17c, r17d, c1, h⟩ := bnd4_some h
  refine WP.path tab_ok mixed [(17, An.callG [(500, 2012), (9000, 10170)] [V.ref 500 0, vi r14] [(500, oc 80 [ty r14b, ti r14c, T.int .u64 r14d])] (V.agg [V.own 9000 3 (List.length r17)]) [(500, oc 80 [ty r17b, ti r17c, T.int .u64 r17d]), (9000, oc 53 (List.flatMap nodeC r17))]), (18, An.id 2018), (7, An.id 2007)] [.keep [8, 7, 6, 5, 4, 3, 2], .keepO [2003, 2007, 2012, 2018, 10170]] (ps := [(CG Try.prog 49 [V.ref 500 0, vi r14] [(500, oc 80 [ty r14b, ti r14c, T.int .u64 r14d])] (V.agg [V.own 9000 3 (List.length r17)]) [(500, oc 80 [ty r17b, ti r17c, T.int .u64 r17d]), (9000, oc 53 (List.flatMap nodeC r17))]), ((V.ref 500 0).ren (renF [(500, 2012), (9000, 10170)]) = V.ref 2012 0), (WkT (ti r14) (ti r14)), ((oc 80 [ty r14b, ti r14c, T.int .u64 r14d]) = (oc 80 [ty r14b, ti r14c, T.int .u64 r14d]).ren (renF [(500, 2012), (9000, 10170)])), (True), (0 = 0 * 1), ((0 + 1 ≤ 1 ∧ 1 = 1))]) (e := .normal) (σ' := ⟨[2007, 2018, 10170, 2012, 2003], [(8, vo 2018 0), (7, V.ref 2007 0), (6, vi r14), (5, V.ref 2012 0), (4, V.t (T.nils)), (3, V.ref 2003 0), (2, vi 0)], [(2003, oc 26 [T.nils]), (2007, ov 26 [V.own 10170 3 (List.length r17)]), (2012, oc 80 [ty r17b, ti r17c, T.int .u64 r17d]), (2018, oc 4 []), (10170, oc 53 (List.flatMap nodeC r17))]⟩) (by kernel_rfl) ⟨(F_p_spec_l1Cur_tree9_W r14b r14c r14d r14 r17 r17b r17c r17d c1), by first | rfl | (simp [V.ren, V.renL, renF, lk]; done) | (simp [V.ren, V.renL, renF, lk]; omega), WkT.refl _, by first | rfl | (simp only [tlS]; rfl) | (simp [Tl.Obj.ren, V.ren, V.renL, renF, lk]; done), trivial, by decide, by decide, trivial⟩ ?_
  obtain ⟨J1, hJ1, h⟩ := jn_some h
  refine WP.joinA (fun (zz : (List Bool)) => ⟨[2003, 2007, 2018, 10170], [(8, vo 2018 (List.length zz)), (7, V.ref 2007 0), (6, vi r14), (4, V.t (T.nils)), (3, V.ref 2003 0), (2, vi 0)], [(2003, oc 26 [T.nils]), (2007, ov 26 [V.own 10170 3 (List.length r17)]), (2018, oc 4 (List.map T.bool zz)), (10170, oc 53 (List.flatMap nodeC r17))]⟩) (fun zz => J1 zz = some (y0, y1, y2)) ?_ ?_
  · -- to where they meet
    refine WP.seq ?_
    obtain ⟨r20, r20b, r20c, r20d, c2, h⟩ := bnd4_some h
    refine WP.path tab_ok mixed [(20, An.callG [(500, 2012)] [V.ref 500 0, vi 7] [(500, oc 80 [ty r17b, ti r17c, T.int .u64 r17d])] (vi r20) [(500, oc 80 [ty r20b, ti r20c, T.int .u64 r20d])])] [.keep [9, 8, 7, 6, 5, 4, 3, 2], .keepO [2003, 2007, 2012, 2018, 10170]] (ps := [(CG Try.prog 50 [V.ref 500 0, vi 7] [(500, oc 80 [ty r17b, ti r17c, T.int .u64 r17d])] (vi r20) [(500, oc 80 [ty r20b, ti r20c, T.int .u64 r20d])]), ((V.ref 500 0).ren (renF [(500, 2012)]) = V.ref 2012 0), (WkT (ti 7) (ti 7)), ((oc 80 [ty r17b, ti r17c, T.int .u64 r17d]) = (oc 80 [ty r17b, ti r17c, T.int .u64 r17d]).ren (renF [(500, 2012)]))]) (e := .normal) (σ' := ⟨[2007, 2018, 10170, 2012, 2003], [(9, vi r20), (8, vo 2018 0), (7, V.ref 2007 0), (6, vi r14), (5, V.ref 2012 0), (4, V.t (T.nils)), (3, V.ref 2003 0), (2, vi 0)], [(2003, oc 26 [T.nils]), (2007, ov 26 [V.own 10170 3 (List.length r17)]), (2012, oc 80 [ty r20b, ti r20c, T.int .u64 r20d]), (2018, oc 4 []), (10170, oc 53 (List.flatMap nodeC r17))]⟩) (by kernel_rfl) ⟨(F_p_spec_l1Cur_pick_W r17b r17c r17d (7 : Int) r20 r20b r20c r20d c2), by first | rfl | (simp [V.ren, V.renL, renF, lk]; done) | (simp [V.ren, V.renL, renF, lk]; omega), WkT.refl _, by first | rfl | (simp only [tlS]; rfl) | (simp [Tl.Obj.ren, V.ren, V.renL, renF, lk]; done), trivial⟩ ?_
    refine WP.block ?_
    refine WP.wk [.keep [9, 8, 7, 6, 5, 4, 3, 2], .keepO [2003, 2007, 2012, 2018, 10170], .names [(2003, 2003), (2007, 2007), (2012, 2012), (2018, 2018), (10170, 10170)]] (σ' := ⟨[2003, 2007, 2012, 2018, 10170], [(9, vi r20), (8, vo 2018 0), (7, V.ref 2007 0), (6, vi r14), (5, V.ref 2012 0), (4, V.t (T.nils)), (3, V.ref 2003 0), (2, vi 0)], [(2003, oc 26 [T.nils]), (2007, ov 26 [V.own 10170 3 (List.length r17)]), (2012, oc 80 [ty r20b, ti r20c, T.int .u64 r20d]), (2018, oc 4 []), (10170, oc 53 (List.flatMap nodeC r17))]⟩) (ps := []) (by kernel_rfl) trivial ?_
    refine WP.st (σ' := ⟨[2003, 2007, 2012, 2018, 10170], [(9, vi r20), (8, vo 2018 (List.length ([] : List Bool))), (7, V.ref 2007 0), (6, vi r14), (5, V.ref 2012 0), (4, V.t (T.nils)), (3, V.ref 2003 0), (2, vi 0)], [(2003, oc 26 [T.nils]), (2007, ov 26 [V.own 10170 3 (List.length r17)]), (2012, oc 80 [ty r20b, ti r20c, T.int .u64 r20d]), (2018, oc 4 (List.map T.bool ([] : List Bool))), (10170, oc 53 (List.flatMap nodeC r17))]⟩) (by first | rfl | (simp only [tlS, tl, vl, vo, oc, ov, tbl, vbl, ty, vy] <;> rfl) | (simp <;> omega) | (simp []; done) | (rw [List.take_of_length_le (by simp [])] <;> rfl) | (simp [List.take_of_length_le]; done)) ?_
    refine WP.loop (α := Nat × (List Int) × Int × Int × (List Bool) × Int) (fun zz => ⟨[2003, 2007, 2012, 2018, 10170], [(9, vi zz.2.2.2.2.2), (8, vo 2018 (List.length zz.2.2.2.2.1)), (7, V.ref 2007 0), (6, vi r14), (5, V.ref 2012 0), (4, V.t (T.nils)), (3, V.ref 2003 0), (2, vi 0)], [(2003, oc 26 [T.nils]), (2007, ov 26 [V.own 10170 3 (List.length r17)]), (2012, oc 80 [ty zz.2.1, ti zz.2.2.1, T.int .u64 zz.2.2.2.1]), (2018, oc 4 (List.map T.bool zz.2.2.2.2.1)), (10170, oc 53 (List.flatMap nodeC r17))]⟩) (fun zz => F_spec_DrawPlayTree_L1 J1 zz.1 zz.2.1 zz.2.2.1 zz.2.2.2.1 zz.2.2.2.2.1 zz.2.2.2.2.2 = some (y0, y1, y2)) (fun zz => zz.1) (fuel, r20b, r20c, r20d, ([] : List Bool), r20) h ?_
    rintro ⟨n, o12, o12b, o12c, o18, v9⟩ h0
    have h := (show F_spec_DrawPlayTree_L1 J1 n o12 o12b o12c o18 v9 = some (y0, y1, y2) from h0)
    rcases n with _ | n
    · rw [F_spec_DrawPlayTree_L1] at h; cases h
    · rw [F_spec_DrawPlayTree_L1] at h
      refine WP.seq ?_
      refine WP.seq ?_
      refine WP.path tab_ok mixed [] [.keep [22, 9, 8, 7, 6, 5, 4, 3, 2], .keepO [2003, 2007, 2012, 2018, 10170]] (ps := [(True)]) (e := .normal) (σ' := ⟨[2003, 2007, 2012, 2018, 10170], [(22, vb (decide (v9 > (0 : Int)))), (9, vi v9), (8, vo 2018 (List.length o18)), (7, V.ref 2007 0), (6, vi r14), (5, V.ref 2012 0), (4, V.t (T.nils)), (3, V.ref 2003 0), (2, vi 0)], [(2003, oc 26 [T.nils]), (2007, ov 26 [V.own 10170 3 (List.length r17)]), (2012, oc 80 [ty o12, ti o12b, T.int .u64 o12c]), (2018, oc 4 (List.map T.bool o18)), (10170, oc 53 (List.flatMap nodeC r17))]⟩) (by kernel_rfl) ⟨trivial, trivial⟩ ?_
      rcases ite_some h with ⟨h1, h⟩ | ⟨h1, h⟩
      · -- yes
        refine WP.cond (b := decide (v9 > (0 : Int))) rfl (fun _ => ?_) (fun hh => by rw [h1] at hh; cases hh)
        refine WP.path tab_ok mixed [] [.keep [9, 8, 7, 6, 5, 4, 3, 2], .keepO [2003, 2007, 2012, 2018, 10170]] (ps := []) (e := .normal) (σ' := ⟨[2003, 2007, 2012, 2018, 10170], [(9, vi v9), (8, vo 2018 (List.length o18)), (7, V.ref 2007 0), (6, vi r14), (5, V.ref 2012 0), (4, V.t (T.nils)), (3, V.ref 2003 0), (2, vi 0)], [(2003, oc 26 [T.nils]), (2007, ov 26 [V.own 10170 3 (List.length r17)]), (2012, oc 80 [ty o12, ti o12b, T.int .u64 o12c]), (2018, oc 4 (List.map T.bool o18)), (10170, oc 53 (List.flatMap nodeC r17))]⟩) (by kernel_rfl) trivial ?_
        refine WP.seq ?_
        refine WP.block ?_
        obtain ⟨r27, r27b, r27c, r27d, c3, h⟩ := bnd4_some h
        obtain ⟨c4, h⟩ := chk_some h
        refine WP.path tab_ok mixed [(27, An.callG [(500, 2012)] [V.ref 500 0, vi 2] [(500, oc 80 [ty o12, ti o12b, T.int .u64 o12c])] (vb r27) [(500, oc 80 [ty r27b, ti r27c, T.int .u64 r27d])]), (28, An.fz), (29, An.id 2029)] [.keep [8, 9, 7, 6, 5, 4, 3, 2], .keepO [2003, 2007, 2012, 2029, 10170]] (ps := [(CG Try.prog 51 [V.ref 500 0, vi 2] [(500, oc 80 [ty o12, ti o12b, T.int .u64 o12c])] (vb r27) [(500, oc 80 [ty r27b, ti r27c, T.int .u64 r27d])]), ((V.ref 500 0).ren (renF [(500, 2012)]) = V.ref 2012 0), (WkT (ti 2) (ti 2)), ((oc 80 [ty o12, ti o12b, T.int .u64 o12c]) = (oc 80 [ty o12, ti o12b, T.int .u64 o12c]).ren (renF [(500, 2012)])), ((1 = 1 ∧ 0 + 1 ≤ 1) ∧ True), (1 = 1 * 1), (True), (List.length (List.map T.bool o18) = (List.length o18) * 1), ((((List.length o18) + 1) * 1 ≤ 140737488355328 ∧ (List.length o18) + 1 ≤ maxLen))]) (e := .normal) (σ' := ⟨[2029, 2003, 2007, 2012, 2018, 10170], [(8, vo 2029 ((List.length o18) + 1)), (9, vi v9), (7, V.ref 2007 0), (6, vi r14), (5, V.ref 2012 0), (4, V.t (T.nils)), (3, V.ref 2003 0), (2, vi 0)], [(2003, oc 26 [T.nils]), (2007, ov 26 [V.own 10170 3 (List.length r17)]), (2012, oc 80 [ty r27b, ti r27c, T.int .u64 r27d]), (2029, oc 4 ((List.map T.bool o18) ++ [tb r27])), (10170, oc 53 (List.flatMap nodeC r17))]⟩) (by kernel_rfl) ⟨(F_p_spec_l1Cur_one_W o12 o12b o12c (2 : Int) r27 r27b r27c r27d c3), by first | rfl | (simp [V.ren, V.renL, renF, lk]; done) | (simp [V.ren, V.renL, renF, lk]; omega), WkT.refl _, by first | rfl | (simp only [tlS]; rfl) | (simp [Tl.Obj.ren, V.ren, V.renL, renF, lk]; done), ⟨⟨by first | rfl | (simp; done) | (simp []; done) | omega, by first | decide | (simp; done) | (simp []; done) | omega | (simp only [tlL]; omega) | (simp; omega)⟩, trivial⟩, by decide, trivial, by first | rfl | omega | (simp only [tlL] <;> omega) | (simp <;> omega) | (simp [] <;> omega), c4, trivial⟩ ?_
        obtain ⟨c5, h⟩ := chk_some h
        refine WP.path tab_ok mixed [(24, An.v (T.int .i64 (v9 - (1 : Int))))] [.keep [9, 8, 7, 6, 5, 4, 3, 2], .keepO [2003, 2007, 2012, 2029, 10170], .names [(2003, 2003), (2007, 2007), (2012, 2012), (2029, 2018), (10170, 10170)]] (ps := [(True), (T.int .i64 (IntKind.wrap .i64 (v9 - (1 : Int))) = T.int .i64 (v9 - (1 : Int)))]) (e := .normal) (σ' := ⟨[2003, 2007, 2012, 2018, 10170], [(9, vi (v9 - (1 : Int))), (8, vo 2018 ((List.length o18) + 1)), (7, V.ref 2007 0), (6, vi r14), (5, V.ref 2012 0), (4, V.t (T.nils)), (3, V.ref 2003 0), (2, vi 0)], [(2003, oc 26 [T.nils]), (2007, ov 26 [V.own 10170 3 (List.length r17)]), (2012, oc 80 [ty r27b, ti r27c, T.int .u64 r27d]), (2018, oc 4 ((List.map T.bool o18) ++ [tb r27])), (10170, oc 53 (List.flatMap nodeC r17))]⟩) (by kernel_rfl) ⟨trivial, wrapI c5, trivial⟩ ?_
        exact ⟨(n, r27b, r27c, r27d, o18 ++ [r27], (v9 - (1 : Int))), h, Nat.lt_succ_self _, (by first | rfl | (simp only [tlS, tl, vl, vo, oc, ov, tbl, vbl, ty, vy] <;> rfl) | (simp <;> omega) | (simp []; done) | (rw [List.take_of_length_le (by simp [])] <;> rfl) | (simp [List.take_of_length_le]; done))⟩
      · -- no
        refine WP.cond (b := decide (v9 > (0 : Int))) rfl (fun hh => by rw [h1] at hh; cases hh) (fun _ => ?_)
        refine WP.path tab_ok mixed [] [.keep [8, 7, 6, 4, 3, 2], .keepO [2003, 2007, 2018, 10170], .names [(2003, 2003), (2007, 2007), (2018, 2018), (10170, 10170)]] (ps := []) (e := (.exit 0)) (σ' := ⟨[2003, 2007, 2018, 10170], [(8, vo 2018 (List.length o18)), (7, V.ref 2007 0), (6, vi r14), (4, V.t (T.nils)), (3, V.ref 2003 0), (2, vi 0)], [(2003, oc 26 [T.nils]), (2007, ov 26 [V.own 10170 3 (List.length r17)]), (2018, oc 4 (List.map T.bool o18)), (10170, oc 53 (List.flatMap nodeC r17))]⟩) (by kernel_rfl) trivial ?_
        exact ⟨(o18), h, rfl⟩
  · -- from there
    intro o18 h0
    have h := (show J1 o18 = some (y0, y1, y2) from h0)
    rw [hJ1] at h
    simp only [Option.some.injEq, Prod.mk.injEq] at h
    obtain ⟨rfl, rfl, rfl⟩ := h
    exact WP.pathG tab_ok mixed [] [.keep [2, 3, 4], .keepO [10170, 2018, 2003], .names [(10170, 9000), (2018, 9001), (2003, 2003)]] [9000, 9001] _ (r' := V.tup [vi r14, V.agg [V.own 9000 3 (List.length r17)], vo 9001 (List.length o18)]) (ps := [(0 + 1 ≤ 1), ((0 + 1 ≤ 1 ∧ 1 = 1)), (0 + 1 ≤ 1)]) (r := V.tup [vi r14, V.agg [V.own 9000 3 (List.length r17)], vo 9001 (List.length o18)]) (N := [9000, 9001, 2003]) (O := [(9000, oc 53 (List.flatMap nodeC r17)), (9001, oc 4 (List.map T.bool o18))]) [] (by kernel_rfl) ⟨by decide, by decide, by decide, trivial⟩ ⟨(WkT.refl _), rfl, rfl, trivial⟩ rfl rfl (fun _ h => h)
theorem F_spec_DrawPlayTree_W_C (x0 : List Int) (y0 : Int) (y1 : List Nd) (y2 : List Bool) (h : F_spec_DrawPlayTree x0 = some (y0, y1, y2)) : C Try.prog 19 [ty x0] (T.tup [ti y0, T.agg [T.list (List.length y1) 3 (List.flatMap nodeC y1)], tbl y2]) :=
  CG.toC (ps := [(List.length (List.flatMap nodeC y1) = (List.length y1) * 3), (List.length (List.map T.bool y2) = (List.length y2) * 1)]) (F_spec_DrawPlayTree_W  x0 y0 y1 y2 h) (by rfl) ⟨by first | exact len_node _ | (rw [len_node]; first | done | omega | (simp; done) | (simp; omega)), by first | rfl | omega | (simp <;> omega) | (simp [hl] <;> omega), trivial⟩
theorem F_laws_vAsked_W (x0 : List (Int × Bool)) (x1 : List (Int × Bool)) (y0 : Bool) (h : F_laws_vAsked x0 x1 = some y0) : C Try.prog 23 [T.list (List.length x0) 2 (List.flatMap askedC x0), T.list (List.length x1) 2 (List.flatMap askedC x1)] (tb y0) := by
  unfold F_laws_vAsked at h
  refine C.intro (tab := tab) tab_ok (fn := Try.f23) Try.func23 (by kernel_rfl) rfl (Nat.le_of_ble_eq_true rfl) ?_
  refine WP.seq ?_
  refine WP.path tab_ok mixed [] [.keep [4, 0, 1], .keepO []] (ps := []) (e := .normal) (σ' := ⟨[], [(4, vb false), (0, V.t (T.list (List.length x0) 2 (List.flatMap askedC x0))), (1, V.t (T.list (List.length x1) 2 (List.flatMap askedC x1)))], []⟩) (by kernel_rfl) trivial ?_
  refine WP.seq ?_
  refine WP.seq ?_
  refine WP.path tab_ok mixed [] [.keep [10, 4, 0, 1], .keepO []] (ps := [(True)]) (e := .normal) (σ' := ⟨[], [(10, vb (((List.length x0 : Nat) : Int) != ((List.length x1 : Nat) : Int))), (4, vb false), (0, V.t (T.list (List.length x0) 2 (List.flatMap askedC x0))), (1, V.t (T.list (List.length x1) 2 (List.flatMap askedC x1)))], []⟩) (by kernel_rfl) ⟨trivial, trivial⟩ ?_
  rcases ite_some h with ⟨h1, h⟩ | ⟨h1, h⟩
  · -- yes
    refine WP.cond (b := ((List.length x0 : Nat) : Int) != ((List.length x1 : Nat) : Int)) rfl (fun _ => ?_) (fun hh => by rw [h1] at hh; cases hh)
    have h := Option.some.inj h
    subst h
    exact WP.pathW tab_ok mixed [] _ (ps := []) (r := tb false) (by kernel_rfl) trivial (WkT.eq (y := tb false) (WkT.refl _) rfl) (fun _ h => h)
  · -- no
    refine WP.cond (b := ((List.length x0 : Nat) : Int) != ((List.length x1 : Nat) : Int)) rfl (fun hh => by rw [h1] at hh; cases hh) (fun _ => ?_)
    refine WP.path tab_ok mixed [] [.keep [4, 0, 1], .keepO []] (ps := []) (e := .normal) (σ' := ⟨[], [(4, vb false), (0, V.t (T.list (List.length x0) 2 (List.flatMap askedC x0))), (1, V.t (T.list (List.length x1) 2 (List.flatMap askedC x1)))], []⟩) (by kernel_rfl) trivial ?_
    obtain ⟨J1, hJ1, h⟩ := jn_some h
    refine WP.joinA (fun (zz : Unit) => ⟨[], [(4, vb false)], []⟩) (fun zz => J1 () = some y0) ?_ ?_
    · -- to where they meet
      refine WP.seq ?_
      refine WP.path tab_ok mixed [] [.keep [5, 4, 0, 1], .keepO []] (ps := []) (e := .normal) (σ' := ⟨[], [(5, vi 0), (4, vb false), (0, V.t (T.list (List.length x0) 2 (List.flatMap askedC x0))), (1, V.t (T.list (List.length x1) 2 (List.flatMap askedC x1)))], []⟩) (by kernel_rfl) trivial ?_
      refine WP.block ?_
      refine WP.wk [.keep [5, 4, 0, 1], .keepO [], .names []] (σ' := ⟨[], [(5, vi 0), (4, vb false), (0, V.t (T.list (List.length x0) 2 (List.flatMap askedC x0))), (1, V.t (T.list (List.length x1) 2 (List.flatMap askedC x1)))], []⟩) (ps := []) (by kernel_rfl) trivial ?_
      refine WP.st (σ' := ⟨[], [(5, vi (0 : Int)), (4, vb false), (0, V.t (T.list (List.length x0) 2 (List.flatMap askedC x0))), (1, V.t (T.list (List.length x1) 2 (List.flatMap askedC x1)))], []⟩) (by first | rfl | (simp only [tlS, tl, vl, vo, oc, ov, tbl, vbl, ty, vy] <;> rfl) | (simp <;> omega) | (simp []; done) | (rw [List.take_of_length_le (by simp [])] <;> rfl) | (simp [List.take_of_length_le]; done)) ?_
      refine WP.loop (α := Nat × Int) (fun zz => ⟨[], [(5, vi zz.2), (4, vb false), (0, V.t (T.list (List.length x0) 2 (List.flatMap askedC x0))), (1, V.t (T.list (List.length x1) 2 (List.flatMap askedC x1)))], []⟩) (fun zz => F_laws_vAsked_L1 x0 x1 J1 zz.1 zz.2 = some y0) (fun zz => zz.1) (fuel, (0 : Int)) h ?_
      rintro ⟨n, v5⟩ h0
      have h := (show F_laws_vAsked_L1 x0 x1 J1 n v5 = some y0 from h0)
      rcases n with _ | n
      · rw [F_laws_vAsked_L1] at h; cases h
      · rw [F_laws_vAsked_L1] at h
        refine WP.seq ?_
        refine WP.seq ?_
        refine WP.path tab_ok mixed [] [.keep [14, 5, 4, 0, 1], .keepO []] (ps := [(True)]) (e := .normal) (σ' := ⟨[], [(14, vb (decide (v5 < ((List.length x0 : Nat) : Int)))), (5, vi v5), (4, vb false), (0, V.t (T.list (List.length x0) 2 (List.flatMap askedC x0))), (1, V.t (T.list (List.length x1) 2 (List.flatMap askedC x1)))], []⟩) (by kernel_rfl) ⟨trivial, trivial⟩ ?_
        rcases ite_some h with ⟨h2, h⟩ | ⟨h2, h⟩
        · -- yes
          refine WP.cond (b := decide (v5 < ((List.length x0 : Nat) : Int))) rfl (fun _ => ?_) (fun hh => by rw [h2] at hh; cases hh)
          refine WP.path tab_ok mixed [] [.keep [5, 4, 0, 1], .keepO []] (ps := []) (e := .normal) (σ' := ⟨[], [(5, vi v5), (4, vb false), (0, V.t (T.list (List.length x0) 2 (List.flatMap askedC x0))), (1, V.t (T.list (List.length x1) 2 (List.flatMap askedC x1)))], []⟩) (by kernel_rfl) trivial ?_
          refine WP.seq ?_
          refine WP.block ?_
          refine WP.seq ?_
          obtain ⟨c0, h⟩ := chk_some h
          obtain ⟨c1, h⟩ := chk_some h
          obtain ⟨n25, c2, h⟩ := nam_some h
          refine WP.path tab_ok mixed [(20, An.v (T.agg [ti ((List.getD x0 (Int.toNat v5) (0, false)).1), tb ((List.getD x0 (Int.toNat v5) (0, false)).2)])), (24, An.v (T.agg [ti ((List.getD x1 (Int.toNat v5) (0, false)).1), tb ((List.getD x1 (Int.toNat v5) (0, false)).2)])), (25, An.v (tb n25))] [.keep [25, 5, 4, 0, 1], .keepO []] (ps := [((0 ≤ v5 ∧ v5 < ((List.length x0 : Nat) : Int))), (2 ≤ List.length (List.drop ((Int.toNat v5) * 2) (List.flatMap askedC x0))), (T.agg (List.take 2 (List.drop ((Int.toNat v5) * 2) (List.flatMap askedC x0))) = T.agg [ti ((List.getD x0 (Int.toNat v5) (0, false)).1), tb ((List.getD x0 (Int.toNat v5) (0, false)).2)]), ((0 ≤ v5 ∧ v5 < ((List.length x1 : Nat) : Int))), (2 ≤ List.length (List.drop ((Int.toNat v5) * 2) (List.flatMap askedC x1))), (T.agg (List.take 2 (List.drop ((Int.toNat v5) * 2) (List.flatMap askedC x1))) = T.agg [ti ((List.getD x1 (Int.toNat v5) (0, false)).1), tb ((List.getD x1 (Int.toNat v5) (0, false)).2)]), (chkEq Try.prog 51 [ti ((List.getD x0 (Int.toNat v5) (0, false)).1), tb ((List.getD x0 (Int.toNat v5) (0, false)).2)] = true), (tb (!((((List.getD x0 (Int.toNat v5) (0, false)).1) == ((List.getD x1 (Int.toNat v5) (0, false)).1)) && ((((List.getD x0 (Int.toNat v5) (0, false)).2) == ((List.getD x1 (Int.toNat v5) (0, false)).2)) && (true)))) = tb n25)]) (e := .normal) (σ' := ⟨[], [(25, vb n25), (5, vi v5), (4, vb false), (0, V.t (T.list (List.length x0) 2 (List.flatMap askedC x0))), (1, V.t (T.list (List.length x1) 2 (List.flatMap askedC x1)))], []⟩) (by kernel_rfl) ⟨c0, fit_asked (i := Int.toNat v5) (by simp) (by omega), at_asked (by simp) (by omega), c1, fit_asked (i := Int.toNat v5) (by simp) (by omega), at_asked (by simp) (by omega), by kernel_rfl, congrArg (tb) c2, trivial⟩ ?_
          rcases ite_some h with ⟨h3, h⟩ | ⟨h3, h⟩
          · -- yes
            refine WP.cond (b := n25) rfl (fun _ => ?_) (fun hh => by rw [h3] at hh; cases hh)
            have h := Option.some.inj h
            subst h
            exact WP.pathW tab_ok mixed [] _ (ps := []) (r := tb false) (by kernel_rfl) trivial (WkT.eq (y := tb false) (WkT.refl _) rfl) (fun _ h => h)
          · -- no
            refine WP.cond (b := n25) rfl (fun hh => by rw [h3] at hh; cases hh) (fun _ => ?_)
            refine WP.path tab_ok mixed [] [.keep [5, 4, 0, 1], .keepO []] (ps := []) (e := .normal) (σ' := ⟨[], [(5, vi v5), (4, vb false), (0, V.t (T.list (List.length x0) 2 (List.flatMap askedC x0))), (1, V.t (T.list (List.length x1) 2 (List.flatMap askedC x1)))], []⟩) (by kernel_rfl) trivial ?_
            obtain ⟨c3, h⟩ := chk_some h
            refine WP.path tab_ok mixed [(16, An.v (T.int .i64 (v5 + (1 : Int))))] [.keep [5, 4, 0, 1], .keepO [], .names []] (ps := [(True), (T.int .i64 (IntKind.wrap .i64 (v5 + (1 : Int))) = T.int .i64 (v5 + (1 : Int)))]) (e := .normal) (σ' := ⟨[], [(5, vi (v5 + (1 : Int))), (4, vb false), (0, V.t (T.list (List.length x0) 2 (List.flatMap askedC x0))), (1, V.t (T.list (List.length x1) 2 (List.flatMap askedC x1)))], []⟩) (by kernel_rfl) ⟨trivial, wrapI c3, trivial⟩ ?_
            exact ⟨(n, (v5 + (1 : Int))), h, Nat.lt_succ_self _, rfl⟩
        · -- no
          refine WP.cond (b := decide (v5 < ((List.length x0 : Nat) : Int))) rfl (fun hh => by rw [h2] at hh; cases hh) (fun _ => ?_)
          refine WP.path tab_ok mixed [] [.keep [4], .keepO [], .names []] (ps := []) (e := (.exit 0)) (σ' := ⟨[], [(4, vb false)], []⟩) (by kernel_rfl) trivial ?_
          exact ⟨(), h, rfl⟩
    · -- from there
      intro _ h0
      have h := (show J1 () = some y0 from h0)
      rw [hJ1] at h
      have h := Option.some.inj h
      subst h
      exact WP.pathW tab_ok mixed [] _ (ps := []) (r := tb true) (by kernel_rfl) trivial (WkT.eq (y := tb true) (WkT.refl _) rfl) (fun _ h => h)
theorem F_laws_vTree_W (x0 : List Nd) (x1 : List Nd) (y0 : Bool) (h : F_laws_vTree x0 x1 = some y0) : C Try.prog 25 [T.agg [T.list (List.length x0) 3 (List.flatMap nodeC x0)], T.agg [T.list (List.length x1) 3 (List.flatMap nodeC x1)]] (tb y0) := by
  unfold F_laws_vTree at h
  refine C.intro (tab := tab) tab_ok (fn := Try.f25) Try.func25 (by kernel_rfl) rfl (Nat.le_of_ble_eq_true rfl) ?_
  refine WP.seq ?_
  refine WP.path tab_ok mixed [(2, An.fz), (3, An.fz)] [.keep [4, 3, 2], .keepO []] (ps := []) (e := .normal) (σ' := ⟨[], [(4, vb false), (3, V.t (T.ptr [T.list (List.length x1) 3 (List.flatMap nodeC x1)])), (2, V.t (T.ptr [T.list (List.length x0) 3 (List.flatMap nodeC x0)]))], []⟩) (by kernel_rfl) trivial ?_
  refine WP.seq ?_
  refine WP.seq ?_
  refine WP.path tab_ok mixed [] [.keep [12, 4, 3, 2], .keepO []] (ps := [(True), (True), (True)]) (e := .normal) (σ' := ⟨[], [(12, vb (((List.length x0 : Nat) : Int) != ((List.length x1 : Nat) : Int))), (4, vb false), (3, V.t (T.ptr [T.list (List.length x1) 3 (List.flatMap nodeC x1)])), (2, V.t (T.ptr [T.list (List.length x0) 3 (List.flatMap nodeC x0)]))], []⟩) (by kernel_rfl) ⟨trivial, trivial, trivial, trivial⟩ ?_
  rcases ite_some h with ⟨h1, h⟩ | ⟨h1, h⟩
  · -- yes
    refine WP.cond (b := ((List.length x0 : Nat) : Int) != ((List.length x1 : Nat) : Int)) rfl (fun _ => ?_) (fun hh => by rw [h1] at hh; cases hh)
    have h := Option.some.inj h
    subst h
    exact WP.pathW tab_ok mixed [] _ (ps := []) (r := tb false) (by kernel_rfl) trivial (WkT.eq (y := tb false) (WkT.refl _) rfl) (fun _ h => h)
  · -- no
    refine WP.cond (b := ((List.length x0 : Nat) : Int) != ((List.length x1 : Nat) : Int)) rfl (fun hh => by rw [h1] at hh; cases hh) (fun _ => ?_)
    refine WP.path tab_ok mixed [] [.keep [4, 3, 2], .keepO []] (ps := []) (e := .normal) (σ' := ⟨[], [(4, vb false), (3, V.t (T.ptr [T.list (List.length x1) 3 (List.flatMap nodeC x1)])), (2, V.t (T.ptr [T.list (List.length x0) 3 (List.flatMap nodeC x0)]))], []⟩) (by kernel_rfl) trivial ?_
    obtain ⟨J1, hJ1, h⟩ := jn_some h
    refine WP.joinA (fun (zz : Unit) => ⟨[], [(4, vb false)], []⟩) (fun zz => J1 () = some y0) ?_ ?_
    · -- to where they meet
      refine WP.seq ?_
      refine WP.path tab_ok mixed [] [.keep [5, 4, 3, 2], .keepO []] (ps := []) (e := .normal) (σ' := ⟨[], [(5, vi 0), (4, vb false), (3, V.t (T.ptr [T.list (List.length x1) 3 (List.flatMap nodeC x1)])), (2, V.t (T.ptr [T.list (List.length x0) 3 (List.flatMap nodeC x0)]))], []⟩) (by kernel_rfl) trivial ?_
      refine WP.block ?_
      refine WP.wk [.keep [5, 4, 3, 2], .keepO [], .names []] (σ' := ⟨[], [(5, vi 0), (4, vb false), (3, V.t (T.ptr [T.list (List.length x1) 3 (List.flatMap nodeC x1)])), (2, V.t (T.ptr [T.list (List.length x0) 3 (List.flatMap nodeC x0)]))], []⟩) (ps := []) (by kernel_rfl) trivial ?_
      refine WP.st (σ' := ⟨[], [(5, vi (0 : Int)), (4, vb false), (3, V.t (T.ptr [T.list (List.length x1) 3 (List.flatMap nodeC x1)])), (2, V.t (T.ptr [T.list (List.length x0) 3 (List.flatMap nodeC x0)]))], []⟩) (by first | rfl | (simp only [tlS, tl, vl, vo, oc, ov, tbl, vbl, ty, vy] <;> rfl) | (simp <;> omega) | (simp []; done) | (rw [List.take_of_length_le (by simp [])] <;> rfl) | (simp [List.take_of_length_le]; done)) ?_
      refine WP.loop (α := Nat × Int) (fun zz => ⟨[], [(5, vi zz.2), (4, vb false), (3, V.t (T.ptr [T.list (List.length x1) 3 (List.flatMap nodeC x1)])), (2, V.t (T.ptr [T.list (List.length x0) 3 (List.flatMap nodeC x0)]))], []⟩) (fun zz => F_laws_vTree_L1 x0 x1 J1 zz.1 zz.2 = some y0) (fun zz => zz.1) (fuel, (0 : Int)) h ?_
      rintro ⟨n, v5⟩ h0
      have h := (show F_laws_vTree_L1 x0 x1 J1 n v5 = some y0 from h0)
      rcases n with _ | n
      · rw [F_laws_vTree_L1] at h; cases h
      · rw [F_laws_vTree_L1] at h
        refine WP.seq ?_
        refine WP.seq ?_
        refine WP.path tab_ok mixed [] [.keep [17, 5, 4, 3, 2], .keepO []] (ps := [(True), (True)]) (e := .normal) (σ' := ⟨[], [(17, vb (decide (v5 < ((List.length x0 : Nat) : Int)))), (5, vi v5), (4, vb false), (3, V.t (T.ptr [T.list (List.length x1) 3 (List.flatMap nodeC x1)])), (2, V.t (T.ptr [T.list (List.length x0) 3 (List.flatMap nodeC x0)]))], []⟩) (by kernel_rfl) ⟨trivial, trivial, trivial⟩ ?_
        rcases ite_some h with ⟨h2, h⟩ | ⟨h2, h⟩
        · -- yes
          refine WP.cond (b := decide (v5 < ((List.length x0 : Nat) : Int))) rfl (fun _ => ?_) (fun hh => by rw [h2] at hh; cases hh)
          refine WP.path tab_ok mixed [] [.keep [5, 4, 3, 2], .keepO []] (ps := []) (e := .normal) (σ' := ⟨[], [(5, vi v5), (4, vb false), (3, V.t (T.ptr [T.list (List.length x1) 3 (List.flatMap nodeC x1)])), (2, V.t (T.ptr [T.list (List.length x0) 3 (List.flatMap nodeC x0)]))], []⟩) (by kernel_rfl) trivial ?_
          refine WP.seq ?_
          refine WP.block ?_
          refine WP.seq ?_
          obtain ⟨c0, h⟩ := chk_some h
          obtain ⟨c1, h⟩ := chk_some h
          obtain ⟨n30, c2, h⟩ := nam_some h
          refine WP.path tab_ok mixed [(24, An.v (T.agg [ti ((List.getD x0 (Int.toNat v5) (0, 0, 0)).1), ti ((List.getD x0 (Int.toNat v5) (0, 0, 0)).2.1), ti ((List.getD x0 (Int.toNat v5) (0, 0, 0)).2.2)])), (29, An.v (T.agg [ti ((List.getD x1 (Int.toNat v5) (0, 0, 0)).1), ti ((List.getD x1 (Int.toNat v5) (0, 0, 0)).2.1), ti ((List.getD x1 (Int.toNat v5) (0, 0, 0)).2.2)])), (30, An.v (tb n30))] [.keep [30, 5, 4, 3, 2], .keepO []] (ps := [(True), ((0 ≤ v5 ∧ v5 < ((List.length x0 : Nat) : Int))), (3 ≤ List.length (List.drop ((Int.toNat v5) * 3) (List.flatMap nodeC x0))), (T.agg (List.take 3 (List.drop ((Int.toNat v5) * 3) (List.flatMap nodeC x0))) = T.agg [ti ((List.getD x0 (Int.toNat v5) (0, 0, 0)).1), ti ((List.getD x0 (Int.toNat v5) (0, 0, 0)).2.1), ti ((List.getD x0 (Int.toNat v5) (0, 0, 0)).2.2)]), (True), ((0 ≤ v5 ∧ v5 < ((List.length x1 : Nat) : Int))), (3 ≤ List.length (List.drop ((Int.toNat v5) * 3) (List.flatMap nodeC x1))), (T.agg (List.take 3 (List.drop ((Int.toNat v5) * 3) (List.flatMap nodeC x1))) = T.agg [ti ((List.getD x1 (Int.toNat v5) (0, 0, 0)).1), ti ((List.getD x1 (Int.toNat v5) (0, 0, 0)).2.1), ti ((List.getD x1 (Int.toNat v5) (0, 0, 0)).2.2)]), (chkEq Try.prog 53 [ti ((List.getD x0 (Int.toNat v5) (0, 0, 0)).1), ti ((List.getD x0 (Int.toNat v5) (0, 0, 0)).2.1), ti ((List.getD x0 (Int.toNat v5) (0, 0, 0)).2.2)] = true), (tb (!((((List.getD x0 (Int.toNat v5) (0, 0, 0)).1) == ((List.getD x1 (Int.toNat v5) (0, 0, 0)).1)) && ((((List.getD x0 (Int.toNat v5) (0, 0, 0)).2.1) == ((List.getD x1 (Int.toNat v5) (0, 0, 0)).2.1)) && ((((List.getD x0 (Int.toNat v5) (0, 0, 0)).2.2) == ((List.getD x1 (Int.toNat v5) (0, 0, 0)).2.2)) && (true))))) = tb n30)]) (e := .normal) (σ' := ⟨[], [(30, vb n30), (5, vi v5), (4, vb false), (3, V.t (T.ptr [T.list (List.length x1) 3 (List.flatMap nodeC x1)])), (2, V.t (T.ptr [T.list (List.length x0) 3 (List.flatMap nodeC x0)]))], []⟩) (by kernel_rfl) ⟨trivial, c0, fit_node (i := Int.toNat v5) (by simp) (by omega), at_node (by simp) (by omega), trivial, c1, fit_node (i := Int.toNat v5) (by simp) (by omega), at_node (by simp) (by omega), by kernel_rfl, congrArg (tb) c2, trivial⟩ ?_
          rcases ite_some h with ⟨h3, h⟩ | ⟨h3, h⟩
          · -- yes
            refine WP.cond (b := n30) rfl (fun _ => ?_) (fun hh => by rw [h3] at hh; cases hh)
            have h := Option.some.inj h
            subst h
            exact WP.pathW tab_ok mixed [] _ (ps := []) (r := tb false) (by kernel_rfl) trivial (WkT.eq (y := tb false) (WkT.refl _) rfl) (fun _ h => h)
          · -- no
            refine WP.cond (b := n30) rfl (fun hh => by rw [h3] at hh; cases hh) (fun _ => ?_)
            refine WP.path tab_ok mixed [] [.keep [5, 4, 3, 2], .keepO []] (ps := []) (e := .normal) (σ' := ⟨[], [(5, vi v5), (4, vb false), (3, V.t (T.ptr [T.list (List.length x1) 3 (List.flatMap nodeC x1)])), (2, V.t (T.ptr [T.list (List.length x0) 3 (List.flatMap nodeC x0)]))], []⟩) (by kernel_rfl) trivial ?_
            obtain ⟨c3, h⟩ := chk_some h
            refine WP.path tab_ok mixed [(19, An.v (T.int .i64 (v5 + (1 : Int))))] [.keep [5, 4, 3, 2], .keepO [], .names []] (ps := [(True), (T.int .i64 (IntKind.wrap .i64 (v5 + (1 : Int))) = T.int .i64 (v5 + (1 : Int)))]) (e := .normal) (σ' := ⟨[], [(5, vi (v5 + (1 : Int))), (4, vb false), (3, V.t (T.ptr [T.list (List.length x1) 3 (List.flatMap nodeC x1)])), (2, V.t (T.ptr [T.list (List.length x0) 3 (List.flatMap nodeC x0)]))], []⟩) (by kernel_rfl) ⟨trivial, wrapI c3, trivial⟩ ?_
            exact ⟨(n, (v5 + (1 : Int))), h, Nat.lt_succ_self _, rfl⟩
        · -- no
          refine WP.cond (b := decide (v5 < ((List.length x0 : Nat) : Int))) rfl (fun hh => by rw [h2] at hh; cases hh) (fun _ => ?_)
          refine WP.path tab_ok mixed [] [.keep [4], .keepO [], .names []] (ps := []) (e := (.exit 0)) (σ' := ⟨[], [(4, vb false)], []⟩) (by kernel_rfl) trivial ?_
          exact ⟨(), h, rfl⟩
    · -- from there
      intro _ h0
      have h := (show J1 () = some y0 from h0)
      rw [hJ1] at h
      have h := Option.some.inj h
      subst h
      exact WP.pathW tab_ok mixed [] _ (ps := []) (r := tb true) (by kernel_rfl) trivial (WkT.eq (y := tb true) (WkT.refl _) rfl) (fun _ h => h)

end Go.Proofs.Ytgppmbbbgolkhaa.AuTrb
