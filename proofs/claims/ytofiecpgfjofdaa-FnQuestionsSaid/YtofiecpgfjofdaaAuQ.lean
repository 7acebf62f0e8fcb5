/-
  The walks: each function of the program returns what the plain function beside it returns. No statement is proved here.
-/
import Derived.Test.YtofiecpgfjofdaaTlV
import Derived.Test.YtofiecpgfjofdaaTlCI
import Derived.Test.YtofiecpgfjofdaaAuQF
import Derived.Test.YtofiecpgfjofdaaProg
import Derived.Test.YtofiecpgfjofdaaAuQO
import Derived.Test.YtofiecpgfjofdaaAuQa
namespace Go.Proofs.Ytofiecpgfjofdaa.AuQ
open Go Go.Tl Go.Proofs
open Go.Proofs.Ytofiecpgfjofdaa.AuQO hiding tab tab_ok mixed
open Go.Proofs.Ytofiecpgfjofdaa.AuQa hiding tab tab_ok mixed
set_option linter.unusedVariables false
set_option linter.unusedSimpArgs false
set_option maxRecDepth 100000
def tab : Tab := [(3, ⟨.int .i64, 1, 8, [.int .i64 0]⟩), (4, ⟨.bool, 1, 1, [.bool false]⟩), (5, ⟨.int .u8, 1, 1, [.int .u8 0]⟩), (26, ⟨.slice 3 1 8, 1, 24, [.nils]⟩), (28, ⟨.struct [(0, 1, false), (1, 1, false)], 2, 32, [.nils, .int .i64 0]⟩), (40, ⟨.slice 5 1 1, 1, 24, [.nils]⟩), (85, ⟨.struct [(0, 1, false), (1, 1, false)], 2, 16, [.int .i64 0, .bool false]⟩), (148, ⟨.pointer 151, 1, 8, [.nilp]⟩), (149, ⟨.int .u64, 1, 8, [.int .u64 0]⟩), (151, ⟨.struct [(0, 1, false), (1, 1, false), (2, 1, false)], 3, 40, [.nils, .int .i64 0, .int .u64 0]⟩)]
theorem tab_ok : chkTab Try.prog tab = true := by kernel_rfl
theorem mixed : Try.prog.follows .mixedOrders = true := by kernel_rfl
theorem F_laws_FnQuestions_W (x0 : List Int) (y0 : Bool) (h : F_laws_FnQuestions x0 = some y0) : C Try.prog 8 [ty x0] (tb y0) := by
  unfold F_laws_FnQuestions at h
  refine C.intro (tab := tab) tab_ok (fn := Try.f8) Try.func8 (by kernel_rfl) rfl (Nat.le_of_ble_eq_true rfl) ?_
  refine WP.seq ?_
  refine WP.path tab_ok mixed [] [.keep [2, 0], .keepO []] (ps := []) (e := .normal) (σ' := ⟨[], [(2, vb false), (0, vy x0)], []⟩) (by kernel_rfl) trivial ?_
  refine WP.seq ?_
  refine WP.seq ?_
  obtain ⟨c0, h⟩ := chk_some h
  refine WP.path tab_ok mixed [(58, An.call (tb (decide (((List.length x0 : Nat) : Int) > (65536 : Int)))))] [.keep [58, 2, 0], .keepO []] (ps := [(C Try.prog 70 [ty x0] (tb (decide (((List.length x0 : Nat) : Int) > (65536 : Int)))))]) (e := .normal) (σ' := ⟨[], [(58, vb (decide (((List.length x0 : Nat) : Int) > (65536 : Int)))), (2, vb false), (0, vy x0)], []⟩) (by kernel_rfl) ⟨(rBig_C x0 c0), trivial⟩ ?_
  rcases ite_some h with ⟨h1, h⟩ | ⟨h1, h⟩
  · -- yes
    refine WP.cond (b := decide (((List.length x0 : Nat) : Int) > (65536 : Int))) rfl (fun _ => ?_) (fun hh => by rw [h1] at hh; cases hh)
    have h := Option.some.inj h
    subst h
    exact WP.pathW tab_ok mixed [] _ (ps := []) (r := tb true) (by kernel_rfl) trivial (WkT.eq (y := tb true) (WkT.refl _) rfl) (fun _ h => h)
  · -- no
    refine WP.cond (b := decide (((List.length x0 : Nat) : Int) > (65536 : Int))) rfl (fun hh => by rw [h1] at hh; cases hh) (fun _ => ?_)
    refine WP.path tab_ok mixed [] [.keep [2, 0], .keepO []] (ps := []) (e := .normal) (σ' := ⟨[], [(2, vb false), (0, vy x0)], []⟩) (by kernel_rfl) trivial ?_
    refine WP.seq ?_
    obtain ⟨r61, r61b, c1, h⟩ := bnd2_some h
    refine WP.path tab_ok mixed [(61, An.call (T.tup [ti r61, ti r61b]))] [.keep [4, 3, 2, 0], .keepO []] (ps := [(C Try.prog 88 [ty x0] (T.tup [ti r61, ti r61b]))]) (e := .normal) (σ' := ⟨[], [(4, vi r61b), (3, vi r61), (2, vb false), (0, vy x0)], []⟩) (by kernel_rfl) ⟨(F_spec_DrawOtherQuestion_W x0 r61 r61b c1), trivial⟩ ?_
    refine WP.seq ?_
    refine WP.path tab_ok mixed [(67, An.call (T.tup [ti (oqV r61 r61b), tb (isQ r61 r61b)]))] [.keep [6, 5, 4, 3, 2, 0], .keepO []] (ps := [(C Try.prog 89 [ti r61, ti r61b] (T.tup [ti (oqV r61 r61b), tb (isQ r61 r61b)]))]) (e := .normal) (σ' := ⟨[], [(6, vb (isQ r61 r61b)), (5, vi (oqV r61 r61b)), (4, vi r61b), (3, vi r61), (2, vb false), (0, vy x0)], []⟩) (by kernel_rfl) ⟨(iOtherQuestion_C r61 r61b), trivial⟩ ?_
    refine WP.seq ?_
    refine WP.seq ?_
    obtain ⟨r73, r73b, c2, h⟩ := bnd2_some h
    refine WP.path tab_ok mixed [(73, An.call (T.tup [ti r73, tb r73b]))] [.keep [8, 7, 6, 5, 4, 3, 2, 0], .keepO []] (ps := [(C Try.prog 90 [ti r61, ti r61b] (T.tup [ti r73, tb r73b]))]) (e := .normal) (σ' := ⟨[], [(8, vb r73b), (7, vi r73), (6, vb (isQ r61 r61b)), (5, vi (oqV r61 r61b)), (4, vi r61b), (3, vi r61), (2, vb false), (0, vy x0)], []⟩) (by kernel_rfl) ⟨(F_spec_OtherQuestion_W r61 r61b r73 r73b c2), trivial⟩ ?_
    obtain ⟨J1, hJ1, h⟩ := jn_some h
    refine WP.joinA (fun (zz : Bool) => ⟨[], [(83, vb zz), (6, vb (isQ r61 r61b)), (5, vi (oqV r61 r61b)), (4, vi r61b), (3, vi r61), (2, vb false), (0, vy x0)], []⟩) (fun zz => J1 zz = some y0) ?_ ?_
    · -- to where they meet
      rcases ite_some h with ⟨h2, h⟩ | ⟨h2, h⟩
      · -- yes
        refine WP.path tab_ok mixed [(78, An.b true)] [.keep [83, 6, 5, 4, 3, 2, 0], .keepO [], .names []] (ps := [(True), (((oqV r61 r61b) != r73) = true)]) (e := .normal) (σ' := ⟨[], [(83, vb true), (6, vb (isQ r61 r61b)), (5, vi (oqV r61 r61b)), (4, vi r61b), (3, vi r61), (2, vb false), (0, vy x0)], []⟩) (by kernel_rfl) ⟨trivial, h2, trivial⟩ ?_
        exact ⟨(true), h, rfl⟩
      · -- no
        refine WP.path tab_ok mixed [(78, An.b false)] [.keep [83, 6, 5, 4, 3, 2, 0], .keepO [], .names []] (ps := [(True), (((oqV r61 r61b) != r73) = false), (True)]) (e := .normal) (σ' := ⟨[], [(83, vb (!((isQ r61 r61b) == r73b))), (6, vb (isQ r61 r61b)), (5, vi (oqV r61 r61b)), (4, vi r61b), (3, vi r61), (2, vb false), (0, vy x0)], []⟩) (by kernel_rfl) ⟨trivial, h2, trivial, trivial⟩ ?_
        exact ⟨(!((isQ r61 r61b) == r73b)), h, rfl⟩
    · -- from there
      intro v83 h0
      have h := (show J1 v83 = some y0 from h0)
      rw [hJ1] at h
      rcases ite_some h with ⟨h3, h⟩ | ⟨h3, h⟩
      · -- yes
        refine WP.cond (b := v83) rfl (fun _ => ?_) (fun hh => by rw [h3] at hh; cases hh)
        have h := Option.some.inj h
        subst h
        exact WP.pathW tab_ok mixed [] _ (ps := []) (r := tb false) (by kernel_rfl) trivial (WkT.eq (y := tb false) (WkT.refl _) rfl) (fun _ h => h)
      · -- no
        refine WP.cond (b := v83) rfl (fun hh => by rw [h3] at hh; cases hh) (fun _ => ?_)
        refine WP.path tab_ok mixed [] [.keep [6, 5, 4, 3, 2, 0], .keepO []] (ps := []) (e := .normal) (σ' := ⟨[], [(6, vb (isQ r61 r61b)), (5, vi (oqV r61 r61b)), (4, vi r61b), (3, vi r61), (2, vb false), (0, vy x0)], []⟩) (by kernel_rfl) trivial ?_
        refine WP.seq ?_
        obtain ⟨r87, r87b, c3, h⟩ := bnd2_some h
        refine WP.path tab_ok mixed [(87, An.call (T.tup [tl r87, tb r87b]))] [.keep [10, 9, 6, 5, 4, 3, 2, 0], .keepO []] (ps := [(C Try.prog 91 [ti r61, ti r61b] (T.tup [tl r87, tb r87b]))]) (e := .normal) (σ' := ⟨[], [(10, vb r87b), (9, vl r87), (6, vb (isQ r61 r61b)), (5, vi (oqV r61 r61b)), (4, vi r61b), (3, vi r61), (2, vb false), (0, vy x0)], []⟩) (by kernel_rfl) ⟨(F_impl_NumbersOf_W_C r61 r61b r87 r87b c3), trivial⟩ ?_
        refine WP.seq ?_
        refine WP.seq ?_
        obtain ⟨r93, r93b, c4, h⟩ := bnd2_some h
        refine WP.path tab_ok mixed [(93, An.call (T.tup [tl r93, tb r93b]))] [.keep [12, 11, 10, 9, 6, 5, 4, 3, 2, 0], .keepO []] (ps := [(C Try.prog 92 [ti r61, ti r61b] (T.tup [tl r93, tb r93b]))]) (e := .normal) (σ' := ⟨[], [(12, vb r93b), (11, vl r93), (10, vb r87b), (9, vl r87), (6, vb (isQ r61 r61b)), (5, vi (oqV r61 r61b)), (4, vi r61b), (3, vi r61), (2, vb false), (0, vy x0)], []⟩) (by kernel_rfl) ⟨(F_spec_NumbersOf_W_C r61 r61b r93 r93b c4), trivial⟩ ?_
        obtain ⟨J1, hJ1, h⟩ := jn_some h
        refine WP.joinA (fun (zz : Bool) => ⟨[], [(109, vb zz), (9, vl r87), (6, vb (isQ r61 r61b)), (5, vi (oqV r61 r61b)), (4, vi r61b), (3, vi r61), (2, vb false), (0, vy x0)], []⟩) (fun zz => J1 zz = some y0) ?_ ?_
        · -- to where they meet
          rcases ite_some h with ⟨h4, h⟩ | ⟨h4, h⟩
          · -- yes
            refine WP.path tab_ok mixed [(98, An.b true)] [.keep [109, 9, 6, 5, 4, 3, 2, 0], .keepO [], .names []] (ps := [(True), ((!(r87b == r93b)) = true)]) (e := .normal) (σ' := ⟨[], [(109, vb true), (9, vl r87), (6, vb (isQ r61 r61b)), (5, vi (oqV r61 r61b)), (4, vi r61b), (3, vi r61), (2, vb false), (0, vy x0)], []⟩) (by kernel_rfl) ⟨trivial, h4, trivial⟩ ?_
            exact ⟨(true), h, rfl⟩
          · -- no
            rcases ite_some h with ⟨h5, h⟩ | ⟨h5, h⟩
            · -- yes
              refine WP.path tab_ok mixed [(98, An.b false), (102, An.b true)] [.keep [109, 9, 6, 5, 4, 3, 2, 0], .keepO [], .names []] (ps := [(True), ((!(r87b == r93b)) = false), (True), ((!(r87b == (isQ r61 r61b))) = true)]) (e := .normal) (σ' := ⟨[], [(109, vb true), (9, vl r87), (6, vb (isQ r61 r61b)), (5, vi (oqV r61 r61b)), (4, vi r61b), (3, vi r61), (2, vb false), (0, vy x0)], []⟩) (by kernel_rfl) ⟨trivial, h4, trivial, h5, trivial⟩ ?_
              exact ⟨(true), h, rfl⟩
            · -- no
              obtain ⟨r107, c5, h⟩ := bnd1_some h
              refine WP.path tab_ok mixed [(98, An.b false), (102, An.b false), (107, An.call (tb r107))] [.keep [109, 9, 6, 5, 4, 3, 2, 0], .keepO [], .names []] (ps := [(True), ((!(r87b == r93b)) = false), (True), ((!(r87b == (isQ r61 r61b))) = false), (C Try.prog 93 [tl r87, tl r93] (tb r107))]) (e := .normal) (σ' := ⟨[], [(109, vb !r107), (9, vl r87), (6, vb (isQ r61 r61b)), (5, vi (oqV r61 r61b)), (4, vi r61b), (3, vi r61), (2, vb false), (0, vy x0)], []⟩) (by kernel_rfl) ⟨trivial, h4, trivial, h5, (F_laws_rInts_W r87 r93 r107 c5), trivial⟩ ?_
              exact ⟨(!r107), h, rfl⟩
        · -- from there
          intro v109 h0
          have h := (show J1 v109 = some y0 from h0)
          rw [hJ1] at h
          rcases ite_some h with ⟨h6, h⟩ | ⟨h6, h⟩
          · -- yes
            refine WP.cond (b := v109) rfl (fun _ => ?_) (fun hh => by rw [h6] at hh; cases hh)
            have h := Option.some.inj h
            subst h
            exact WP.pathW tab_ok mixed [] _ (ps := []) (r := tb false) (by kernel_rfl) trivial (WkT.eq (y := tb false) (WkT.refl _) rfl) (fun _ h => h)
          · -- no
            refine WP.cond (b := v109) rfl (fun hh => by rw [h6] at hh; cases hh) (fun _ => ?_)
            refine WP.path tab_ok mixed [] [.keep [9, 6, 5, 4, 3, 2, 0], .keepO []] (ps := []) (e := .normal) (σ' := ⟨[], [(9, vl r87), (6, vb (isQ r61 r61b)), (5, vi (oqV r61 r61b)), (4, vi r61b), (3, vi r61), (2, vb false), (0, vy x0)], []⟩) (by kernel_rfl) trivial ?_
            refine WP.seq ?_
            obtain ⟨r112, r112b, c5, h⟩ := bnd2_some h
            refine WP.path tab_ok mixed [(112, An.call (T.tup [ti r112, tl r112b]))] [.keep [14, 13, 9, 6, 5, 4, 3, 2, 0], .keepO []] (ps := [(C Try.prog 94 [ty x0] (T.tup [ti r112, tl r112b]))]) (e := .normal) (σ' := ⟨[], [(14, vl r112b), (13, vi r112), (9, vl r87), (6, vb (isQ r61 r61b)), (5, vi (oqV r61 r61b)), (4, vi r61b), (3, vi r61), (2, vb false), (0, vy x0)], []⟩) (by kernel_rfl) ⟨(F_spec_DrawQuestionOf_W_C x0 r112 r112b c5), trivial⟩ ?_
            refine WP.seq ?_
            obtain ⟨r118, r118b, c6, h⟩ := bnd2_some h
            refine WP.path tab_ok mixed [(118, An.call (T.tup [ti r118, tb r118b]))] [.keep [16, 15, 14, 13, 9, 6, 5, 4, 3, 2, 0], .keepO []] (ps := [(C Try.prog 95 [ti r112, tl r112b] (T.tup [ti r118, tb r118b]))]) (e := .normal) (σ' := ⟨[], [(16, vb r118b), (15, vi r118), (14, vl r112b), (13, vi r112), (9, vl r87), (6, vb (isQ r61 r61b)), (5, vi (oqV r61 r61b)), (4, vi r61b), (3, vi r61), (2, vb false), (0, vy x0)], []⟩) (by kernel_rfl) ⟨(F_impl_QuestionOf_W r112 r112b r118 r118b c6), trivial⟩ ?_
            refine WP.seq ?_
            refine WP.seq ?_
            obtain ⟨r124, r124b, c7, h⟩ := bnd2_some h
            refine WP.path tab_ok mixed [(124, An.call (T.tup [ti r124, tb r124b]))] [.keep [18, 17, 16, 15, 14, 13, 9, 6, 5, 4, 3, 2, 0], .keepO []] (ps := [(C Try.prog 96 [ti r112, tl r112b] (T.tup [ti r124, tb r124b]))]) (e := .normal) (σ' := ⟨[], [(18, vb r124b), (17, vi r124), (16, vb r118b), (15, vi r118), (14, vl r112b), (13, vi r112), (9, vl r87), (6, vb (isQ r61 r61b)), (5, vi (oqV r61 r61b)), (4, vi r61b), (3, vi r61), (2, vb false), (0, vy x0)], []⟩) (by kernel_rfl) ⟨(F_spec_QuestionOf_W r112 r112b r124 r124b c7), trivial⟩ ?_
            obtain ⟨J1, hJ1, h⟩ := jn_some h
            refine WP.joinA (fun (zz : Bool) => ⟨[], [(134, vb zz), (16, vb r118b), (15, vi r118), (14, vl r112b), (13, vi r112), (9, vl r87), (6, vb (isQ r61 r61b)), (5, vi (oqV r61 r61b)), (4, vi r61b), (3, vi r61), (2, vb false), (0, vy x0)], []⟩) (fun zz => J1 zz = some y0) ?_ ?_
            · -- to where they meet
              rcases ite_some h with ⟨h7, h⟩ | ⟨h7, h⟩
              · -- yes
                refine WP.path tab_ok mixed [(129, An.b true)] [.keep [134, 16, 15, 14, 13, 9, 6, 5, 4, 3, 2, 0], .keepO [], .names []] (ps := [(True), ((r118 != r124) = true)]) (e := .normal) (σ' := ⟨[], [(134, vb true), (16, vb r118b), (15, vi r118), (14, vl r112b), (13, vi r112), (9, vl r87), (6, vb (isQ r61 r61b)), (5, vi (oqV r61 r61b)), (4, vi r61b), (3, vi r61), (2, vb false), (0, vy x0)], []⟩) (by kernel_rfl) ⟨trivial, h7, trivial⟩ ?_
                exact ⟨(true), h, rfl⟩
              · -- no
                refine WP.path tab_ok mixed [(129, An.b false)] [.keep [134, 16, 15, 14, 13, 9, 6, 5, 4, 3, 2, 0], .keepO [], .names []] (ps := [(True), ((r118 != r124) = false), (True)]) (e := .normal) (σ' := ⟨[], [(134, vb (!(r118b == r124b))), (16, vb r118b), (15, vi r118), (14, vl r112b), (13, vi r112), (9, vl r87), (6, vb (isQ r61 r61b)), (5, vi (oqV r61 r61b)), (4, vi r61b), (3, vi r61), (2, vb false), (0, vy x0)], []⟩) (by kernel_rfl) ⟨trivial, h7, trivial, trivial⟩ ?_
                exact ⟨(!(r118b == r124b)), h, rfl⟩
            · -- from there
              intro v134 h0
              have h := (show J1 v134 = some y0 from h0)
              rw [hJ1] at h
              rcases ite_some h with ⟨h8, h⟩ | ⟨h8, h⟩
              · -- yes
                refine WP.cond (b := v134) rfl (fun _ => ?_) (fun hh => by rw [h8] at hh; cases hh)
                have h := Option.some.inj h
                subst h
                exact WP.pathW tab_ok mixed [] _ (ps := []) (r := tb false) (by kernel_rfl) trivial (WkT.eq (y := tb false) (WkT.refl _) rfl) (fun _ h => h)
              · -- no
                refine WP.cond (b := v134) rfl (fun hh => by rw [h8] at hh; cases hh) (fun _ => ?_)
                refine WP.path tab_ok mixed [] [.keep [16, 15, 14, 13, 9, 6, 5, 4, 3, 2, 0], .keepO []] (ps := []) (e := .normal) (σ' := ⟨[], [(16, vb r118b), (15, vi r118), (14, vl r112b), (13, vi r112), (9, vl r87), (6, vb (isQ r61 r61b)), (5, vi (oqV r61 r61b)), (4, vi r61b), (3, vi r61), (2, vb false), (0, vy x0)], []⟩) (by kernel_rfl) trivial ?_
                refine WP.seq ?_
                obtain ⟨r136, r136b, c8, h⟩ := bnd2_some h
                refine WP.path tab_ok mixed [(136, An.call (T.agg [tl r136, ti r136b])), (19, An.id 2019)] [.keep [19, 16, 15, 14, 13, 9, 6, 5, 4, 3, 2, 0], .keepO [2019]] (ps := [(C Try.prog 97 [ty x0] (T.agg [tl r136, ti r136b])), ((0 + 2 ≤ 2 ∧ 2 = 2))]) (e := .normal) (σ' := ⟨[2019], [(19, V.ref 2019 0), (16, vb r118b), (15, vi r118), (14, vl r112b), (13, vi r112), (9, vl r87), (6, vb (isQ r61 r61b)), (5, vi (oqV r61 r61b)), (4, vi r61b), (3, vi r61), (2, vb false), (0, vy x0)], [(2019, oc 28 [tl r136, ti r136b])]⟩) (by kernel_rfl) ⟨(F_spec_DrawOpenNumbers_W_C x0 r136 r136b c8), by decide, trivial⟩ ?_
                refine WP.seq ?_
                obtain ⟨r139, r139b, c9, h⟩ := bnd2_some h
                refine WP.path tab_ok mixed [(139, An.call (T.tup [tl r139, tb r139b]))] [.keep [21, 20, 19, 16, 15, 14, 13, 9, 6, 5, 4, 3, 2, 0], .keepO [2019]] (ps := [(0 + 2 ≤ 2), (C Try.prog 41 [T.agg [tl r136, ti r136b]] (T.tup [tl r139, tb r139b]))]) (e := .normal) (σ' := ⟨[2019], [(21, vb r139b), (20, vl r139), (19, V.ref 2019 0), (16, vb r118b), (15, vi r118), (14, vl r112b), (13, vi r112), (9, vl r87), (6, vb (isQ r61 r61b)), (5, vi (oqV r61 r61b)), (4, vi r61b), (3, vi r61), (2, vb false), (0, vy x0)], [(2019, oc 28 [tl r136, ti r136b])]⟩) (by kernel_rfl) ⟨by decide, (F_impl_OpenNumbers_W_C r136 r136b r139 r139b c9), trivial⟩ ?_
                refine WP.seq ?_
                refine WP.seq ?_
                obtain ⟨r144, r144b, c10, h⟩ := bnd2_some h
                refine WP.path tab_ok mixed [(144, An.call (T.tup [tl r144, tb r144b]))] [.keep [23, 22, 21, 20, 19, 16, 15, 14, 13, 9, 6, 5, 4, 3, 2, 0], .keepO [2019]] (ps := [(0 + 2 ≤ 2), (C Try.prog 98 [T.agg [tl r136, ti r136b]] (T.tup [tl r144, tb r144b]))]) (e := .normal) (σ' := ⟨[2019], [(23, vb r144b), (22, vl r144), (21, vb r139b), (20, vl r139), (19, V.ref 2019 0), (16, vb r118b), (15, vi r118), (14, vl r112b), (13, vi r112), (9, vl r87), (6, vb (isQ r61 r61b)), (5, vi (oqV r61 r61b)), (4, vi r61b), (3, vi r61), (2, vb false), (0, vy x0)], [(2019, oc 28 [tl r136, ti r136b])]⟩) (by kernel_rfl) ⟨by decide, (F_spec_OpenNumbers_W_C r136 r136b r144 r144b c10), trivial⟩ ?_
                obtain ⟨J1, hJ1, h⟩ := jn_some h
                refine WP.joinA (fun (zz : Bool) => ⟨[2019], [(161, vb zz), (21, vb r139b), (20, vl r139), (19, V.ref 2019 0), (16, vb r118b), (15, vi r118), (14, vl r112b), (13, vi r112), (9, vl r87), (6, vb (isQ r61 r61b)), (5, vi (oqV r61 r61b)), (4, vi r61b), (3, vi r61), (2, vb false), (0, vy x0)], [(2019, oc 28 [tl r136, ti r136b])]⟩) (fun zz => J1 zz = some y0) ?_ ?_
                · -- to where they meet
                  rcases ite_some h with ⟨h9, h⟩ | ⟨h9, h⟩
                  · -- yes
                    refine WP.path tab_ok mixed [(149, An.b true)] [.keep [161, 21, 20, 19, 16, 15, 14, 13, 9, 6, 5, 4, 3, 2, 0], .keepO [2019], .names [(2019, 2019)]] (ps := [(True), ((!(r139b == r144b)) = true)]) (e := .normal) (σ' := ⟨[2019], [(161, vb true), (21, vb r139b), (20, vl r139), (19, V.ref 2019 0), (16, vb r118b), (15, vi r118), (14, vl r112b), (13, vi r112), (9, vl r87), (6, vb (isQ r61 r61b)), (5, vi (oqV r61 r61b)), (4, vi r61b), (3, vi r61), (2, vb false), (0, vy x0)], [(2019, oc 28 [tl r136, ti r136b])]⟩) (by kernel_rfl) ⟨trivial, h9, trivial⟩ ?_
                    exact ⟨(true), h, rfl⟩
                  · -- no
                    obtain ⟨c11, h⟩ := chk_some h
                    rcases ite_some h with ⟨h10, h⟩ | ⟨h10, h⟩
                    · -- yes
                      refine WP.path tab_ok mixed [(149, An.b false), (153, An.call (tb (isStateN r136 r136b))), (154, An.b true)] [.keep [161, 21, 20, 19, 16, 15, 14, 13, 9, 6, 5, 4, 3, 2, 0], .keepO [2019], .names [(2019, 2019)]] (ps := [(True), ((!(r139b == r144b)) = false), (0 + 2 ≤ 2), (C Try.prog 99 [T.agg [tl r136, ti r136b]] (tb (isStateN r136 r136b))), (True), ((!(r139b == (isStateN r136 r136b))) = true)]) (e := .normal) (σ' := ⟨[2019], [(161, vb true), (21, vb r139b), (20, vl r139), (19, V.ref 2019 0), (16, vb r118b), (15, vi r118), (14, vl r112b), (13, vi r112), (9, vl r87), (6, vb (isQ r61 r61b)), (5, vi (oqV r61 r61b)), (4, vi r61b), (3, vi r61), (2, vb false), (0, vy x0)], [(2019, oc 28 [tl r136, ti r136b])]⟩) (by kernel_rfl) ⟨trivial, h9, by decide, (isState_C r136 r136b c11), trivial, h10, trivial⟩ ?_
                      exact ⟨(true), h, rfl⟩
                    · -- no
                      obtain ⟨r159, c12, h⟩ := bnd1_some h
                      refine WP.path tab_ok mixed [(149, An.b false), (153, An.call (tb (isStateN r136 r136b))), (154, An.b false), (159, An.call (tb r159))] [.keep [161, 21, 20, 19, 16, 15, 14, 13, 9, 6, 5, 4, 3, 2, 0], .keepO [2019], .names [(2019, 2019)]] (ps := [(True), ((!(r139b == r144b)) = false), (0 + 2 ≤ 2), (C Try.prog 99 [T.agg [tl r136, ti r136b]] (tb (isStateN r136 r136b))), (True), ((!(r139b == (isStateN r136 r136b))) = false), (C Try.prog 93 [tl r139, tl r144] (tb r159))]) (e := .normal) (σ' := ⟨[2019], [(161, vb !r159), (21, vb r139b), (20, vl r139), (19, V.ref 2019 0), (16, vb r118b), (15, vi r118), (14, vl r112b), (13, vi r112), (9, vl r87), (6, vb (isQ r61 r61b)), (5, vi (oqV r61 r61b)), (4, vi r61b), (3, vi r61), (2, vb false), (0, vy x0)], [(2019, oc 28 [tl r136, ti r136b])]⟩) (by kernel_rfl) ⟨trivial, h9, by decide, (isState_C r136 r136b c11), trivial, h10, (F_laws_rInts_W r139 r144 r159 c12), trivial⟩ ?_
                      exact ⟨(!r159), h, rfl⟩
                · -- from there
                  intro v161 h0
                  have h := (show J1 v161 = some y0 from h0)
                  rw [hJ1] at h
                  rcases ite_some h with ⟨h11, h⟩ | ⟨h11, h⟩
                  · -- yes
                    refine WP.cond (b := v161) rfl (fun _ => ?_) (fun hh => by rw [h11] at hh; cases hh)
                    have h := Option.some.inj h
                    subst h
                    exact WP.pathW tab_ok mixed [] _ (ps := []) (r := tb false) (by kernel_rfl) trivial (WkT.eq (y := tb false) (WkT.refl _) rfl) (fun _ h => h)
                  · -- no
                    refine WP.cond (b := v161) rfl (fun hh => by rw [h11] at hh; cases hh) (fun _ => ?_)
                    refine WP.path tab_ok mixed [] [.keep [21, 20, 19, 16, 15, 14, 13, 9, 6, 5, 4, 3, 2, 0], .keepO [2019]] (ps := []) (e := .normal) (σ' := ⟨[2019], [(21, vb r139b), (20, vl r139), (19, V.ref 2019 0), (16, vb r118b), (15, vi r118), (14, vl r112b), (13, vi r112), (9, vl r87), (6, vb (isQ r61 r61b)), (5, vi (oqV r61 r61b)), (4, vi r61b), (3, vi r61), (2, vb false), (0, vy x0)], [(2019, oc 28 [tl r136, ti r136b])]⟩) (by kernel_rfl) trivial ?_
                    refine WP.seq ?_
                    obtain ⟨r164, r164b, c11, h⟩ := bnd2_some h
                    refine WP.path tab_ok mixed [(164, An.call (T.tup [tl r164, tb r164b]))] [.keep [25, 24, 21, 20, 19, 16, 15, 14, 13, 9, 6, 5, 4, 3, 2, 0], .keepO [2019]] (ps := [(0 + 2 ≤ 2), (C Try.prog 100 [T.agg [tl r136, ti r136b]] (T.tup [tl r164, tb r164b]))]) (e := .normal) (σ' := ⟨[2019], [(25, vb r164b), (24, vl r164), (21, vb r139b), (20, vl r139), (19, V.ref 2019 0), (16, vb r118b), (15, vi r118), (14, vl r112b), (13, vi r112), (9, vl r87), (6, vb (isQ r61 r61b)), (5, vi (oqV r61 r61b)), (4, vi r61b), (3, vi r61), (2, vb false), (0, vy x0)], [(2019, oc 28 [tl r136, ti r136b])]⟩) (by kernel_rfl) ⟨by decide, (F_impl_CountsOf_W_C r136 r136b r164 r164b c11), trivial⟩ ?_
                    refine WP.seq ?_
                    refine WP.seq ?_
                    obtain ⟨r169, r169b, c12, h⟩ := bnd2_some h
                    refine WP.path tab_ok mixed [(169, An.call (T.tup [tl r169, tb r169b]))] [.keep [27, 26, 25, 24, 21, 20, 16, 15, 14, 13, 9, 6, 5, 4, 3, 2, 0], .keepO []] (ps := [(0 + 2 ≤ 2), (C Try.prog 101 [T.agg [tl r136, ti r136b]] (T.tup [tl r169, tb r169b]))]) (e := .normal) (σ' := ⟨[2019], [(27, vb r169b), (26, vl r169), (25, vb r164b), (24, vl r164), (21, vb r139b), (20, vl r139), (16, vb r118b), (15, vi r118), (14, vl r112b), (13, vi r112), (9, vl r87), (6, vb (isQ r61 r61b)), (5, vi (oqV r61 r61b)), (4, vi r61b), (3, vi r61), (2, vb false), (0, vy x0)], []⟩) (by kernel_rfl) ⟨by decide, (F_spec_CountsOf_W_C r136 r136b r169 r169b c12), trivial⟩ ?_
                    obtain ⟨J1, hJ1, h⟩ := jn_some h
                    refine WP.joinA (fun (zz : Bool) => ⟨[], [(185, vb zz), (24, vl r164), (21, vb r139b), (20, vl r139), (16, vb r118b), (15, vi r118), (14, vl r112b), (13, vi r112), (9, vl r87), (6, vb (isQ r61 r61b)), (5, vi (oqV r61 r61b)), (4, vi r61b), (3, vi r61), (2, vb false), (0, vy x0)], []⟩) (fun zz => J1 zz = some y0) ?_ ?_
                    · -- to where they meet
                      rcases ite_some h with ⟨h12, h⟩ | ⟨h12, h⟩
                      · -- yes
                        refine WP.path tab_ok mixed [(174, An.b true)] [.keep [185, 24, 21, 20, 16, 15, 14, 13, 9, 6, 5, 4, 3, 2, 0], .keepO [], .names []] (ps := [(True), ((!(r164b == r169b)) = true)]) (e := .normal) (σ' := ⟨[], [(185, vb true), (24, vl r164), (21, vb r139b), (20, vl r139), (16, vb r118b), (15, vi r118), (14, vl r112b), (13, vi r112), (9, vl r87), (6, vb (isQ r61 r61b)), (5, vi (oqV r61 r61b)), (4, vi r61b), (3, vi r61), (2, vb false), (0, vy x0)], []⟩) (by kernel_rfl) ⟨trivial, h12, trivial⟩ ?_
                        exact ⟨(true), h, rfl⟩
                      · -- no
                        rcases ite_some h with ⟨h13, h⟩ | ⟨h13, h⟩
                        · -- yes
                          refine WP.path tab_ok mixed [(174, An.b false), (178, An.b true)] [.keep [185, 24, 21, 20, 16, 15, 14, 13, 9, 6, 5, 4, 3, 2, 0], .keepO [], .names []] (ps := [(True), ((!(r164b == r169b)) = false), (True), ((!(r164b == r139b)) = true)]) (e := .normal) (σ' := ⟨[], [(185, vb true), (24, vl r164), (21, vb r139b), (20, vl r139), (16, vb r118b), (15, vi r118), (14, vl r112b), (13, vi r112), (9, vl r87), (6, vb (isQ r61 r61b)), (5, vi (oqV r61 r61b)), (4, vi r61b), (3, vi r61), (2, vb false), (0, vy x0)], []⟩) (by kernel_rfl) ⟨trivial, h12, trivial, h13, trivial⟩ ?_
                          exact ⟨(true), h, rfl⟩
                        · -- no
                          obtain ⟨r183, c13, h⟩ := bnd1_some h
                          refine WP.path tab_ok mixed [(174, An.b false), (178, An.b false), (183, An.call (tb r183))] [.keep [185, 24, 21, 20, 16, 15, 14, 13, 9, 6, 5, 4, 3, 2, 0], .keepO [], .names []] (ps := [(True), ((!(r164b == r169b)) = false), (True), ((!(r164b == r139b)) = false), (C Try.prog 93 [tl r164, tl r169] (tb r183))]) (e := .normal) (σ' := ⟨[], [(185, vb !r183), (24, vl r164), (21, vb r139b), (20, vl r139), (16, vb r118b), (15, vi r118), (14, vl r112b), (13, vi r112), (9, vl r87), (6, vb (isQ r61 r61b)), (5, vi (oqV r61 r61b)), (4, vi r61b), (3, vi r61), (2, vb false), (0, vy x0)], []⟩) (by kernel_rfl) ⟨trivial, h12, trivial, h13, (F_laws_rInts_W r164 r169 r183 c13), trivial⟩ ?_
                          exact ⟨(!r183), h, rfl⟩
                    · -- from there
                      intro v185 h0
                      have h := (show J1 v185 = some y0 from h0)
                      rw [hJ1] at h
                      rcases ite_some h with ⟨h14, h⟩ | ⟨h14, h⟩
                      · -- yes
                        refine WP.cond (b := v185) rfl (fun _ => ?_) (fun hh => by rw [h14] at hh; cases hh)
                        have h := Option.some.inj h
                        subst h
                        exact WP.pathW tab_ok mixed [] _ (ps := []) (r := tb false) (by kernel_rfl) trivial (WkT.eq (y := tb false) (WkT.refl _) rfl) (fun _ h => h)
                      · -- no
                        refine WP.cond (b := v185) rfl (fun hh => by rw [h14] at hh; cases hh) (fun _ => ?_)
                        refine WP.path tab_ok mixed [] [.keep [24, 21, 20, 16, 15, 14, 13, 9, 6, 5, 4, 3, 2, 0], .keepO []] (ps := []) (e := .normal) (σ' := ⟨[], [(24, vl r164), (21, vb r139b), (20, vl r139), (16, vb r118b), (15, vi r118), (14, vl r112b), (13, vi r112), (9, vl r87), (6, vb (isQ r61 r61b)), (5, vi (oqV r61 r61b)), (4, vi r61b), (3, vi r61), (2, vb false), (0, vy x0)], []⟩) (by kernel_rfl) trivial ?_
                        refine WP.seq ?_
                        obtain ⟨r187, r187b, c13, h⟩ := bnd2_some h
                        refine WP.path tab_ok mixed [(187, An.call (T.agg [tl r187, ti r187b])), (28, An.id 2028)] [.keep [28, 24, 21, 20, 16, 15, 14, 13, 9, 6, 5, 4, 3, 2, 0], .keepO [2028]] (ps := [(C Try.prog 102 [ty x0] (T.agg [tl r187, ti r187b])), ((0 + 2 ≤ 2 ∧ 2 = 2))]) (e := .normal) (σ' := ⟨[2028], [(28, V.ref 2028 0), (24, vl r164), (21, vb r139b), (20, vl r139), (16, vb r118b), (15, vi r118), (14, vl r112b), (13, vi r112), (9, vl r87), (6, vb (isQ r61 r61b)), (5, vi (oqV r61 r61b)), (4, vi r61b), (3, vi r61), (2, vb false), (0, vy x0)], [(2028, oc 28 [tl r187, ti r187b])]⟩) (by kernel_rfl) ⟨(F_spec_DrawToldNumber_W_C x0 r187 r187b c13), by decide, trivial⟩ ?_
                        refine WP.seq ?_
                        obtain ⟨r190, r190b, c14, h⟩ := bnd2_some h
                        refine WP.path tab_ok mixed [(190, An.call (T.tup [ti r190, tb r190b]))] [.keep [30, 29, 28, 24, 21, 20, 16, 15, 14, 13, 9, 6, 5, 4, 3, 2, 0], .keepO [2028]] (ps := [(0 + 2 ≤ 2), (C Try.prog 103 [T.agg [tl r187, ti r187b]] (T.tup [ti r190, tb r190b]))]) (e := .normal) (σ' := ⟨[2028], [(30, vb r190b), (29, vi r190), (28, V.ref 2028 0), (24, vl r164), (21, vb r139b), (20, vl r139), (16, vb r118b), (15, vi r118), (14, vl r112b), (13, vi r112), (9, vl r87), (6, vb (isQ r61 r61b)), (5, vi (oqV r61 r61b)), (4, vi r61b), (3, vi r61), (2, vb false), (0, vy x0)], [(2028, oc 28 [tl r187, ti r187b])]⟩) (by kernel_rfl) ⟨by decide, (F_impl_ToldNumber_W r187 r187b r190 r190b c14), trivial⟩ ?_
                        refine WP.seq ?_
                        refine WP.seq ?_
                        obtain ⟨r195, r195b, c15, h⟩ := bnd2_some h
                        refine WP.path tab_ok mixed [(195, An.call (T.tup [ti r195, tb r195b]))] [.keep [32, 31, 30, 29, 28, 24, 21, 20, 16, 15, 14, 13, 9, 6, 5, 4, 3, 2, 0], .keepO [2028]] (ps := [(0 + 2 ≤ 2), (C Try.prog 104 [T.agg [tl r187, ti r187b]] (T.tup [ti r195, tb r195b]))]) (e := .normal) (σ' := ⟨[2028], [(32, vb r195b), (31, vi r195), (30, vb r190b), (29, vi r190), (28, V.ref 2028 0), (24, vl r164), (21, vb r139b), (20, vl r139), (16, vb r118b), (15, vi r118), (14, vl r112b), (13, vi r112), (9, vl r87), (6, vb (isQ r61 r61b)), (5, vi (oqV r61 r61b)), (4, vi r61b), (3, vi r61), (2, vb false), (0, vy x0)], [(2028, oc 28 [tl r187, ti r187b])]⟩) (by kernel_rfl) ⟨by decide, (F_spec_ToldNumber_W r187 r187b r195 r195b c15), trivial⟩ ?_
                        obtain ⟨J1, hJ1, h⟩ := jn_some h
                        refine WP.joinA (fun (zz : Bool) => ⟨[2028], [(205, vb zz), (30, vb r190b), (29, vi r190), (28, V.ref 2028 0), (24, vl r164), (21, vb r139b), (20, vl r139), (16, vb r118b), (15, vi r118), (14, vl r112b), (13, vi r112), (9, vl r87), (6, vb (isQ r61 r61b)), (5, vi (oqV r61 r61b)), (4, vi r61b), (3, vi r61), (2, vb false), (0, vy x0)], [(2028, oc 28 [tl r187, ti r187b])]⟩) (fun zz => J1 zz = some y0) ?_ ?_
                        · -- to where they meet
                          rcases ite_some h with ⟨h15, h⟩ | ⟨h15, h⟩
                          · -- yes
                            refine WP.path tab_ok mixed [(200, An.b true)] [.keep [205, 30, 29, 28, 24, 21, 20, 16, 15, 14, 13, 9, 6, 5, 4, 3, 2, 0], .keepO [2028], .names [(2028, 2028)]] (ps := [(True), ((r190 != r195) = true)]) (e := .normal) (σ' := ⟨[2028], [(205, vb true), (30, vb r190b), (29, vi r190), (28, V.ref 2028 0), (24, vl r164), (21, vb r139b), (20, vl r139), (16, vb r118b), (15, vi r118), (14, vl r112b), (13, vi r112), (9, vl r87), (6, vb (isQ r61 r61b)), (5, vi (oqV r61 r61b)), (4, vi r61b), (3, vi r61), (2, vb false), (0, vy x0)], [(2028, oc 28 [tl r187, ti r187b])]⟩) (by kernel_rfl) ⟨trivial, h15, trivial⟩ ?_
                            exact ⟨(true), h, rfl⟩
                          · -- no
                            refine WP.path tab_ok mixed [(200, An.b false)] [.keep [205, 30, 29, 28, 24, 21, 20, 16, 15, 14, 13, 9, 6, 5, 4, 3, 2, 0], .keepO [2028], .names [(2028, 2028)]] (ps := [(True), ((r190 != r195) = false), (True)]) (e := .normal) (σ' := ⟨[2028], [(205, vb (!(r190b == r195b))), (30, vb r190b), (29, vi r190), (28, V.ref 2028 0), (24, vl r164), (21, vb r139b), (20, vl r139), (16, vb r118b), (15, vi r118), (14, vl r112b), (13, vi r112), (9, vl r87), (6, vb (isQ r61 r61b)), (5, vi (oqV r61 r61b)), (4, vi r61b), (3, vi r61), (2, vb false), (0, vy x0)], [(2028, oc 28 [tl r187, ti r187b])]⟩) (by kernel_rfl) ⟨trivial, h15, trivial, trivial⟩ ?_
                            exact ⟨(!(r190b == r195b)), h, rfl⟩
                        · -- from there
                          intro v205 h0
                          have h := (show J1 v205 = some y0 from h0)
                          rw [hJ1] at h
                          rcases ite_some h with ⟨h16, h⟩ | ⟨h16, h⟩
                          · -- yes
                            refine WP.cond (b := v205) rfl (fun _ => ?_) (fun hh => by rw [h16] at hh; cases hh)
                            have h := Option.some.inj h
                            subst h
                            exact WP.pathW tab_ok mixed [] _ (ps := []) (r := tb false) (by kernel_rfl) trivial (WkT.eq (y := tb false) (WkT.refl _) rfl) (fun _ h => h)
                          · -- no
                            refine WP.cond (b := v205) rfl (fun hh => by rw [h16] at hh; cases hh) (fun _ => ?_)
                            refine WP.path tab_ok mixed [] [.keep [30, 29, 28, 24, 21, 20, 16, 15, 14, 13, 9, 6, 5, 4, 3, 2, 0], .keepO [2028]] (ps := []) (e := .normal) (σ' := ⟨[2028], [(30, vb r190b), (29, vi r190), (28, V.ref 2028 0), (24, vl r164), (21, vb r139b), (20, vl r139), (16, vb r118b), (15, vi r118), (14, vl r112b), (13, vi r112), (9, vl r87), (6, vb (isQ r61 r61b)), (5, vi (oqV r61 r61b)), (4, vi r61b), (3, vi r61), (2, vb false), (0, vy x0)], [(2028, oc 28 [tl r187, ti r187b])]⟩) (by kernel_rfl) trivial ?_
                            refine WP.seq ?_
                            obtain ⟨r208, r208b, r208c, c16, h⟩ := bnd3_some h
                            refine WP.path tab_ok mixed [(208, An.call (T.tup [T.agg [tl r208, ti r208b], ti r208c])), (33, An.id 2033)] [.keep [34, 33, 30, 29, 28, 24, 21, 20, 16, 15, 14, 13, 9, 6, 5, 4, 3, 2], .keepO [2028, 2033]] (ps := [(C Try.prog 105 [ty x0] (T.tup [T.agg [tl r208, ti r208b], ti r208c])), ((0 + 2 ≤ 2 ∧ 2 = 2))]) (e := .normal) (σ' := ⟨[2033, 2028], [(34, vi r208c), (33, V.ref 2033 0), (30, vb r190b), (29, vi r190), (28, V.ref 2028 0), (24, vl r164), (21, vb r139b), (20, vl r139), (16, vb r118b), (15, vi r118), (14, vl r112b), (13, vi r112), (9, vl r87), (6, vb (isQ r61 r61b)), (5, vi (oqV r61 r61b)), (4, vi r61b), (3, vi r61), (2, vb false)], [(2028, oc 28 [tl r187, ti r187b]), (2033, oc 28 [tl r208, ti r208b])]⟩) (by kernel_rfl) ⟨(F_spec_DrawVainQuestion_W_C x0 r208 r208b r208c c16), by decide, trivial⟩ ?_
                            refine WP.seq ?_
                            obtain ⟨r214, r214b, c17, h⟩ := bnd2_some h
                            refine WP.path tab_ok mixed [(214, An.call (T.tup [tb r214, tb r214b]))] [.keep [36, 35, 34, 33, 30, 29, 28, 24, 21, 20, 16, 15, 14, 13, 9, 6, 5, 4, 3, 2], .keepO [2028, 2033]] (ps := [(0 + 2 ≤ 2), (C Try.prog 106 [T.agg [tl r208, ti r208b], ti r208c] (T.tup [tb r214, tb r214b]))]) (e := .normal) (σ' := ⟨[2033, 2028], [(36, vb r214b), (35, vb r214), (34, vi r208c), (33, V.ref 2033 0), (30, vb r190b), (29, vi r190), (28, V.ref 2028 0), (24, vl r164), (21, vb r139b), (20, vl r139), (16, vb r118b), (15, vi r118), (14, vl r112b), (13, vi r112), (9, vl r87), (6, vb (isQ r61 r61b)), (5, vi (oqV r61 r61b)), (4, vi r61b), (3, vi r61), (2, vb false)], [(2028, oc 28 [tl r187, ti r187b]), (2033, oc 28 [tl r208, ti r208b])]⟩) (by kernel_rfl) ⟨by decide, (F_impl_VainQuestion_W r208 r208b r208c r214 r214b c17), trivial⟩ ?_
                            refine WP.seq ?_
                            refine WP.seq ?_
                            obtain ⟨r220, r220b, c18, h⟩ := bnd2_some h
                            refine WP.path tab_ok mixed [(220, An.call (T.tup [tb r220, tb r220b]))] [.keep [38, 37, 36, 35, 34, 33, 30, 29, 28, 24, 21, 20, 16, 15, 14, 13, 9, 6, 5, 4, 3, 2], .keepO [2028, 2033]] (ps := [(0 + 2 ≤ 2), (C Try.prog 107 [T.agg [tl r208, ti r208b], ti r208c] (T.tup [tb r220, tb r220b]))]) (e := .normal) (σ' := ⟨[2033, 2028], [(38, vb r220b), (37, vb r220), (36, vb r214b), (35, vb r214), (34, vi r208c), (33, V.ref 2033 0), (30, vb r190b), (29, vi r190), (28, V.ref 2028 0), (24, vl r164), (21, vb r139b), (20, vl r139), (16, vb r118b), (15, vi r118), (14, vl r112b), (13, vi r112), (9, vl r87), (6, vb (isQ r61 r61b)), (5, vi (oqV r61 r61b)), (4, vi r61b), (3, vi r61), (2, vb false)], [(2028, oc 28 [tl r187, ti r187b]), (2033, oc 28 [tl r208, ti r208b])]⟩) (by kernel_rfl) ⟨by decide, (F_spec_VainQuestion_W r208 r208b r208c r220 r220b c18), trivial⟩ ?_
                            obtain ⟨J1, hJ1, h⟩ := jn_some h
                            refine WP.joinA (fun (zz : Bool) => ⟨[2028, 2033], [(230, vb zz), (36, vb r214b), (35, vb r214), (34, vi r208c), (33, V.ref 2033 0), (30, vb r190b), (29, vi r190), (28, V.ref 2028 0), (24, vl r164), (21, vb r139b), (20, vl r139), (16, vb r118b), (15, vi r118), (14, vl r112b), (13, vi r112), (9, vl r87), (6, vb (isQ r61 r61b)), (5, vi (oqV r61 r61b)), (4, vi r61b), (3, vi r61), (2, vb false)], [(2028, oc 28 [tl r187, ti r187b]), (2033, oc 28 [tl r208, ti r208b])]⟩) (fun zz => J1 zz = some y0) ?_ ?_
                            · -- to where they meet
                              rcases ite_some h with ⟨h17, h⟩ | ⟨h17, h⟩
                              · -- yes
                                refine WP.path tab_ok mixed [(225, An.b true)] [.keep [230, 36, 35, 34, 33, 30, 29, 28, 24, 21, 20, 16, 15, 14, 13, 9, 6, 5, 4, 3, 2], .keepO [2028, 2033], .names [(2028, 2028), (2033, 2033)]] (ps := [(True), ((!(r214 == r220)) = true)]) (e := .normal) (σ' := ⟨[2028, 2033], [(230, vb true), (36, vb r214b), (35, vb r214), (34, vi r208c), (33, V.ref 2033 0), (30, vb r190b), (29, vi r190), (28, V.ref 2028 0), (24, vl r164), (21, vb r139b), (20, vl r139), (16, vb r118b), (15, vi r118), (14, vl r112b), (13, vi r112), (9, vl r87), (6, vb (isQ r61 r61b)), (5, vi (oqV r61 r61b)), (4, vi r61b), (3, vi r61), (2, vb false)], [(2028, oc 28 [tl r187, ti r187b]), (2033, oc 28 [tl r208, ti r208b])]⟩) (by kernel_rfl) ⟨trivial, h17, trivial⟩ ?_
                                exact ⟨(true), h, rfl⟩
                              · -- no
                                refine WP.path tab_ok mixed [(225, An.b false)] [.keep [230, 36, 35, 34, 33, 30, 29, 28, 24, 21, 20, 16, 15, 14, 13, 9, 6, 5, 4, 3, 2], .keepO [2028, 2033], .names [(2028, 2028), (2033, 2033)]] (ps := [(True), ((!(r214 == r220)) = false), (True)]) (e := .normal) (σ' := ⟨[2028, 2033], [(230, vb (!(r214b == r220b))), (36, vb r214b), (35, vb r214), (34, vi r208c), (33, V.ref 2033 0), (30, vb r190b), (29, vi r190), (28, V.ref 2028 0), (24, vl r164), (21, vb r139b), (20, vl r139), (16, vb r118b), (15, vi r118), (14, vl r112b), (13, vi r112), (9, vl r87), (6, vb (isQ r61 r61b)), (5, vi (oqV r61 r61b)), (4, vi r61b), (3, vi r61), (2, vb false)], [(2028, oc 28 [tl r187, ti r187b]), (2033, oc 28 [tl r208, ti r208b])]⟩) (by kernel_rfl) ⟨trivial, h17, trivial, trivial⟩ ?_
                                exact ⟨(!(r214b == r220b)), h, rfl⟩
                            · -- from there
                              intro v230 h0
                              have h := (show J1 v230 = some y0 from h0)
                              rw [hJ1] at h
                              rcases ite_some h with ⟨h18, h⟩ | ⟨h18, h⟩
                              · -- yes
                                refine WP.cond (b := v230) rfl (fun _ => ?_) (fun hh => by rw [h18] at hh; cases hh)
                                have h := Option.some.inj h
                                subst h
                                exact WP.pathW tab_ok mixed [] _ (ps := []) (r := tb false) (by kernel_rfl) trivial (WkT.eq (y := tb false) (WkT.refl _) rfl) (fun _ h => h)
                              · -- no
                                refine WP.cond (b := v230) rfl (fun hh => by rw [h18] at hh; cases hh) (fun _ => ?_)
                                refine WP.path tab_ok mixed [] [.keep [36, 35, 34, 33, 30, 29, 28, 24, 21, 20, 16, 15, 14, 13, 9, 6, 5, 4, 3, 2], .keepO [2028, 2033]] (ps := []) (e := .normal) (σ' := ⟨[2028, 2033], [(36, vb r214b), (35, vb r214), (34, vi r208c), (33, V.ref 2033 0), (30, vb r190b), (29, vi r190), (28, V.ref 2028 0), (24, vl r164), (21, vb r139b), (20, vl r139), (16, vb r118b), (15, vi r118), (14, vl r112b), (13, vi r112), (9, vl r87), (6, vb (isQ r61 r61b)), (5, vi (oqV r61 r61b)), (4, vi r61b), (3, vi r61), (2, vb false)], [(2028, oc 28 [tl r187, ti r187b]), (2033, oc 28 [tl r208, ti r208b])]⟩) (by kernel_rfl) trivial ?_
                                obtain ⟨J1, hJ1, h⟩ := jn_some h
                                refine WP.joinA (fun (zz : Unit) => ⟨[2033], [(36, vb r214b), (35, vb r214), (34, vi r208c), (33, V.ref 2033 0), (24, vl r164), (21, vb r139b), (20, vl r139), (16, vb r118b), (15, vi r118), (14, vl r112b), (13, vi r112), (9, vl r87), (6, vb (isQ r61 r61b)), (5, vi (oqV r61 r61b)), (4, vi r61b), (3, vi r61), (2, vb false)], [(2033, oc 28 [tl r208, ti r208b])]⟩) (fun zz => J1 () = some y0) ?_ ?_
                                · -- to where they meet
                                  refine WP.seq ?_
                                  refine WP.path tab_ok mixed [] [.keep [231, 36, 35, 34, 33, 29, 28, 24, 21, 20, 16, 15, 14, 13, 9, 6, 5, 4, 3, 2], .keepO [2028, 2033]] (ps := []) (e := .normal) (σ' := ⟨[2028, 2033], [(231, vb r190b), (36, vb r214b), (35, vb r214), (34, vi r208c), (33, V.ref 2033 0), (29, vi r190), (28, V.ref 2028 0), (24, vl r164), (21, vb r139b), (20, vl r139), (16, vb r118b), (15, vi r118), (14, vl r112b), (13, vi r112), (9, vl r87), (6, vb (isQ r61 r61b)), (5, vi (oqV r61 r61b)), (4, vi r61b), (3, vi r61), (2, vb false)], [(2028, oc 28 [tl r187, ti r187b]), (2033, oc 28 [tl r208, ti r208b])]⟩) (by kernel_rfl) trivial ?_
                                  rcases ite_some h with ⟨h19, h⟩ | ⟨h19, h⟩
                                  · -- yes
                                    refine WP.cond (b := r190b) rfl (fun _ => ?_) (fun hh => by rw [h19] at hh; cases hh)
                                    refine WP.seq ?_
                                    obtain ⟨r234, r234b, c19, h⟩ := bnd2_some h
                                    refine WP.path tab_ok mixed [(234, An.call (T.tup [tl r234, tb r234b]))] [.keep [40, 39, 36, 35, 34, 33, 29, 24, 21, 20, 16, 15, 14, 13, 9, 6, 5, 4, 3, 2], .keepO [2033]] (ps := [(0 + 2 ≤ 2), (C Try.prog 41 [T.agg [tl r187, ti r187b]] (T.tup [tl r234, tb r234b]))]) (e := .normal) (σ' := ⟨[2028, 2033], [(40, vb r234b), (39, vl r234), (36, vb r214b), (35, vb r214), (34, vi r208c), (33, V.ref 2033 0), (29, vi r190), (24, vl r164), (21, vb r139b), (20, vl r139), (16, vb r118b), (15, vi r118), (14, vl r112b), (13, vi r112), (9, vl r87), (6, vb (isQ r61 r61b)), (5, vi (oqV r61 r61b)), (4, vi r61b), (3, vi r61), (2, vb false)], [(2033, oc 28 [tl r208, ti r208b])]⟩) (by kernel_rfl) ⟨by decide, (F_impl_OpenNumbers_W_C r187 r187b r234 r234b c19), trivial⟩ ?_
                                    obtain ⟨J2, hJ2, h⟩ := jn_some h
                                    refine WP.joinA (fun (zz : Bool) => ⟨[2033], [(245, vb zz), (36, vb r214b), (35, vb r214), (34, vi r208c), (33, V.ref 2033 0), (24, vl r164), (21, vb r139b), (20, vl r139), (16, vb r118b), (15, vi r118), (14, vl r112b), (13, vi r112), (9, vl r87), (6, vb (isQ r61 r61b)), (5, vi (oqV r61 r61b)), (4, vi r61b), (3, vi r61), (2, vb false)], [(2033, oc 28 [tl r208, ti r208b])]⟩) (fun zz => J2 zz = some y0) ?_ ?_
                                    · -- to where they meet
                                      rcases ite_some h with ⟨h20, h⟩ | ⟨h20, h⟩
                                      · -- yes
                                        refine WP.path tab_ok mixed [(239, An.b true)] [.keep [245, 36, 35, 34, 33, 24, 21, 20, 16, 15, 14, 13, 9, 6, 5, 4, 3, 2], .keepO [2033], .names [(2033, 2033)]] (ps := [((!r234b) = true)]) (e := .normal) (σ' := ⟨[2033], [(245, vb true), (36, vb r214b), (35, vb r214), (34, vi r208c), (33, V.ref 2033 0), (24, vl r164), (21, vb r139b), (20, vl r139), (16, vb r118b), (15, vi r118), (14, vl r112b), (13, vi r112), (9, vl r87), (6, vb (isQ r61 r61b)), (5, vi (oqV r61 r61b)), (4, vi r61b), (3, vi r61), (2, vb false)], [(2033, oc 28 [tl r208, ti r208b])]⟩) (by kernel_rfl) ⟨h20, trivial⟩ ?_
                                        exact ⟨(true), h, rfl⟩
                                      · -- no
                                        obtain ⟨r243, c20, h⟩ := bnd1_some h
                                        refine WP.path tab_ok mixed [(239, An.b false), (242, An.fz), (243, An.callW [tl r234, tl [r190]] (tb r243))] [.keep [245, 36, 35, 34, 33, 24, 21, 20, 16, 15, 14, 13, 9, 6, 5, 4, 3, 2], .keepO [2033], .names [(2033, 2033)]] (ps := [((!r234b) = false), ((1 = 1 ∧ 0 + 1 ≤ 1) ∧ True), (1 = 1 * 1), (C Try.prog 93 [tl r234, tl [r190]] (tb r243)), (WkL [tl r234, T.list 1 1 [ti r190]] [tl r234, tl [r190]])]) (e := .normal) (σ' := ⟨[2033], [(245, vb !r243), (36, vb r214b), (35, vb r214), (34, vi r208c), (33, V.ref 2033 0), (24, vl r164), (21, vb r139b), (20, vl r139), (16, vb r118b), (15, vi r118), (14, vl r112b), (13, vi r112), (9, vl r87), (6, vb (isQ r61 r61b)), (5, vi (oqV r61 r61b)), (4, vi r61b), (3, vi r61), (2, vb false)], [(2033, oc 28 [tl r208, ti r208b])]⟩) (by kernel_rfl) ⟨h20, ⟨⟨by first | rfl | (simp; done) | (simp []; done) | omega, by first | decide | (simp; done) | (simp []; done) | omega | (simp only [tlL]; omega) | (simp; omega)⟩, trivial⟩, by decide, (F_laws_rInts_W r234 [r190] r243 c20), (WkL.cons (WkT.refl _) (WkL.cons (WkT.eq (WkT.refl _) (by first | rfl | (simp only [tlS, tl, vl, vo, oc, ov, tbl, vbl, ty, vy]; done) | (simp only [tlS, tl, vl, vo, oc, ov, tbl, vbl, ty, vy]; rfl) | (simp; done) | (simp []; done) | (rw [List.take_of_length_le (by simp [])]; done) | (rw [List.take_of_length_le (by simp [])]; rfl) | (simp only [tlL]; omega) | (simp; omega))) WkL.nil)), trivial⟩ ?_
                                        exact ⟨(!r243), h, rfl⟩
                                    · -- from there
                                      intro v245 h0
                                      have h := (show J2 v245 = some y0 from h0)
                                      rw [hJ2] at h
                                      rcases ite_some h with ⟨h21, h⟩ | ⟨h21, h⟩
                                      · -- yes
                                        refine WP.cond (b := v245) rfl (fun _ => ?_) (fun hh => by rw [h21] at hh; cases hh)
                                        have h := Option.some.inj h
                                        subst h
                                        exact WP.pathW tab_ok mixed [] _ (ps := []) (r := tb false) (by kernel_rfl) trivial (WkT.eq (y := tb false) (WkT.refl _) rfl) (fun _ h => h)
                                      · -- no
                                        refine WP.cond (b := v245) rfl (fun hh => by rw [h21] at hh; cases hh) (fun _ => ?_)
                                        refine WP.path tab_ok mixed [] [.keep [36, 35, 34, 33, 24, 21, 20, 16, 15, 14, 13, 9, 6, 5, 4, 3, 2], .keepO [2033], .names [(2033, 2033)]] (ps := []) (e := .normal) (σ' := ⟨[2033], [(36, vb r214b), (35, vb r214), (34, vi r208c), (33, V.ref 2033 0), (24, vl r164), (21, vb r139b), (20, vl r139), (16, vb r118b), (15, vi r118), (14, vl r112b), (13, vi r112), (9, vl r87), (6, vb (isQ r61 r61b)), (5, vi (oqV r61 r61b)), (4, vi r61b), (3, vi r61), (2, vb false)], [(2033, oc 28 [tl r208, ti r208b])]⟩) (by kernel_rfl) trivial ?_
                                        exact ⟨(), h, rfl⟩
                                  · -- no
                                    refine WP.cond (b := r190b) rfl (fun hh => by rw [h19] at hh; cases hh) (fun _ => ?_)
                                    refine WP.path tab_ok mixed [] [.keep [36, 35, 34, 33, 24, 21, 20, 16, 15, 14, 13, 9, 6, 5, 4, 3, 2], .keepO [2033], .names [(2033, 2033)]] (ps := []) (e := .normal) (σ' := ⟨[2033], [(36, vb r214b), (35, vb r214), (34, vi r208c), (33, V.ref 2033 0), (24, vl r164), (21, vb r139b), (20, vl r139), (16, vb r118b), (15, vi r118), (14, vl r112b), (13, vi r112), (9, vl r87), (6, vb (isQ r61 r61b)), (5, vi (oqV r61 r61b)), (4, vi r61b), (3, vi r61), (2, vb false)], [(2033, oc 28 [tl r208, ti r208b])]⟩) (by kernel_rfl) trivial ?_
                                    exact ⟨(), h, rfl⟩
                                · -- from there
                                  intro _ h0
                                  have h := (show J1 () = some y0 from h0)
                                  rw [hJ1] at h
                                  obtain ⟨J1, hJ1, h⟩ := jn_some h
                                  refine WP.joinA (fun (zz : Unit) => ⟨[], [(24, vl r164), (21, vb r139b), (20, vl r139), (16, vb r118b), (15, vi r118), (14, vl r112b), (13, vi r112), (9, vl r87), (6, vb (isQ r61 r61b)), (5, vi (oqV r61 r61b)), (4, vi r61b), (3, vi r61), (2, vb false)], []⟩) (fun zz => J1 () = some y0) ?_ ?_
                                  · -- to where they meet
                                    refine WP.seq ?_
                                    refine WP.path tab_ok mixed [] [.keep [246, 35, 34, 33, 24, 21, 20, 16, 15, 14, 13, 9, 6, 5, 4, 3, 2], .keepO [2033]] (ps := []) (e := .normal) (σ' := ⟨[2033], [(246, vb r214b), (35, vb r214), (34, vi r208c), (33, V.ref 2033 0), (24, vl r164), (21, vb r139b), (20, vl r139), (16, vb r118b), (15, vi r118), (14, vl r112b), (13, vi r112), (9, vl r87), (6, vb (isQ r61 r61b)), (5, vi (oqV r61 r61b)), (4, vi r61b), (3, vi r61), (2, vb false)], [(2033, oc 28 [tl r208, ti r208b])]⟩) (by kernel_rfl) trivial ?_
                                    rcases ite_some h with ⟨h22, h⟩ | ⟨h22, h⟩
                                    · -- yes
                                      refine WP.cond (b := r214b) rfl (fun _ => ?_) (fun hh => by rw [h22] at hh; cases hh)
                                      refine WP.seq ?_
                                      obtain ⟨r249, r249b, c19, h⟩ := bnd2_some h
                                      refine WP.path tab_ok mixed [(249, An.call (T.tup [tl r249, tb r249b]))] [.keep [42, 41, 35, 34, 33, 24, 21, 20, 16, 15, 14, 13, 9, 6, 5, 4, 3, 2], .keepO [2033]] (ps := [(0 + 2 ≤ 2), (C Try.prog 41 [T.agg [tl r208, ti r208b]] (T.tup [tl r249, tb r249b]))]) (e := .normal) (σ' := ⟨[2033], [(42, vb r249b), (41, vl r249), (35, vb r214), (34, vi r208c), (33, V.ref 2033 0), (24, vl r164), (21, vb r139b), (20, vl r139), (16, vb r118b), (15, vi r118), (14, vl r112b), (13, vi r112), (9, vl r87), (6, vb (isQ r61 r61b)), (5, vi (oqV r61 r61b)), (4, vi r61b), (3, vi r61), (2, vb false)], [(2033, oc 28 [tl r208, ti r208b])]⟩) (by kernel_rfl) ⟨by decide, (F_impl_OpenNumbers_W_C r208 r208b r249 r249b c19), trivial⟩ ?_
                                      refine WP.seq ?_
                                      obtain ⟨r257, r257b, c20, h⟩ := bnd2_some h
                                      refine WP.path tab_ok mixed [(257, An.call (T.tup [tl r257, tb r257b]))] [.keep [44, 43, 42, 41, 35, 24, 21, 20, 16, 15, 14, 13, 9, 6, 5, 4, 3, 2], .keepO []] (ps := [(True), (C Try.prog 91 [ti ((List.length r208 : Nat) : Int), ti r208c] (T.tup [tl r257, tb r257b]))]) (e := .normal) (σ' := ⟨[2033], [(44, vb r257b), (43, vl r257), (42, vb r249b), (41, vl r249), (35, vb r214), (24, vl r164), (21, vb r139b), (20, vl r139), (16, vb r118b), (15, vi r118), (14, vl r112b), (13, vi r112), (9, vl r87), (6, vb (isQ r61 r61b)), (5, vi (oqV r61 r61b)), (4, vi r61b), (3, vi r61), (2, vb false)], []⟩) (by kernel_rfl) ⟨trivial, (F_impl_NumbersOf_W_C ((List.length r208 : Nat) : Int) r208c r257 r257b c20), trivial⟩ ?_
                                      refine WP.seq ?_
                                      refine WP.path tab_ok mixed [] [.keep [45, 44, 43, 42, 41, 35, 24, 21, 20, 16, 15, 14, 13, 9, 6, 5, 4, 3, 2], .keepO []] (ps := []) (e := .normal) (σ' := ⟨[2033], [(45, vi 0), (44, vb r257b), (43, vl r257), (42, vb r249b), (41, vl r249), (35, vb r214), (24, vl r164), (21, vb r139b), (20, vl r139), (16, vb r118b), (15, vi r118), (14, vl r112b), (13, vi r112), (9, vl r87), (6, vb (isQ r61 r61b)), (5, vi (oqV r61 r61b)), (4, vi r61b), (3, vi r61), (2, vb false)], []⟩) (by kernel_rfl) trivial ?_
                                      obtain ⟨J2, hJ2, h⟩ := jn_some h
                                      refine WP.joinA (fun (zz : Int) => ⟨[], [(45, vi zz), (44, vb r257b), (42, vb r249b), (41, vl r249), (35, vb r214), (24, vl r164), (21, vb r139b), (20, vl r139), (16, vb r118b), (15, vi r118), (14, vl r112b), (13, vi r112), (9, vl r87), (6, vb (isQ r61 r61b)), (5, vi (oqV r61 r61b)), (4, vi r61b), (3, vi r61), (2, vb false)], []⟩) (fun zz => J2 zz = some y0) ?_ ?_
                                      · -- to where they meet
                                        refine WP.seq ?_
                                        refine WP.path tab_ok mixed [] [.keep [46, 45, 44, 43, 42, 41, 35, 24, 21, 20, 16, 15, 14, 13, 9, 6, 5, 4, 3, 2], .keepO []] (ps := []) (e := .normal) (σ' := ⟨[2033], [(46, vi 0), (45, vi 0), (44, vb r257b), (43, vl r257), (42, vb r249b), (41, vl r249), (35, vb r214), (24, vl r164), (21, vb r139b), (20, vl r139), (16, vb r118b), (15, vi r118), (14, vl r112b), (13, vi r112), (9, vl r87), (6, vb (isQ r61 r61b)), (5, vi (oqV r61 r61b)), (4, vi r61b), (3, vi r61), (2, vb false)], []⟩) (by kernel_rfl) trivial ?_
                                        refine WP.block ?_
                                        refine WP.wk [.keep [46, 45, 44, 43, 42, 41, 35, 24, 21, 20, 16, 15, 14, 13, 9, 6, 5, 4, 3, 2], .keepO [], .names []] (σ' := ⟨[], [(46, vi 0), (45, vi 0), (44, vb r257b), (43, vl r257), (42, vb r249b), (41, vl r249), (35, vb r214), (24, vl r164), (21, vb r139b), (20, vl r139), (16, vb r118b), (15, vi r118), (14, vl r112b), (13, vi r112), (9, vl r87), (6, vb (isQ r61 r61b)), (5, vi (oqV r61 r61b)), (4, vi r61b), (3, vi r61), (2, vb false)], []⟩) (ps := []) (by kernel_rfl) trivial ?_
                                        refine WP.st (σ' := ⟨[], [(46, vi (0 : Int)), (45, vi (0 : Int)), (44, vb r257b), (43, vl r257), (42, vb r249b), (41, vl r249), (35, vb r214), (24, vl r164), (21, vb r139b), (20, vl r139), (16, vb r118b), (15, vi r118), (14, vl r112b), (13, vi r112), (9, vl r87), (6, vb (isQ r61 r61b)), (5, vi (oqV r61 r61b)), (4, vi r61b), (3, vi r61), (2, vb false)], []⟩) (by first | rfl | (simp only [tlS, tl, vl, vo, oc, ov, tbl, vbl, ty, vy]; done) | (simp only [tlS, tl, vl, vo, oc, ov, tbl, vbl, ty, vy]; rfl) | (simp; done) | (simp []; done) | (rw [List.take_of_length_le (by simp [])]; done) | (rw [List.take_of_length_le (by simp [])]; rfl) | (simp only [tlL]; omega) | (simp; omega)) ?_
                                        refine WP.loop (α := Nat × Int × Int) (fun zz => ⟨[], [(46, vi zz.2.1), (45, vi zz.2.2), (44, vb r257b), (43, vl r257), (42, vb r249b), (41, vl r249), (35, vb r214), (24, vl r164), (21, vb r139b), (20, vl r139), (16, vb r118b), (15, vi r118), (14, vl r112b), (13, vi r112), (9, vl r87), (6, vb (isQ r61 r61b)), (5, vi (oqV r61 r61b)), (4, vi r61b), (3, vi r61), (2, vb false)], []⟩) (fun zz => F_laws_FnQuestions_L1 r249 r257 J2 zz.1 zz.2.1 zz.2.2 = some y0) (fun zz => zz.1) (fuel, (0 : Int), (0 : Int)) h ?_
                                        rintro ⟨n, v46, v45⟩ h0
                                        have h := (show F_laws_FnQuestions_L1 r249 r257 J2 n v46 v45 = some y0 from h0)
                                        rcases n with _ | n
                                        · rw [F_laws_FnQuestions_L1] at h; cases h
                                        · rw [F_laws_FnQuestions_L1] at h
                                          refine WP.seq ?_
                                          refine WP.seq ?_
                                          refine WP.path tab_ok mixed [] [.keep [263, 46, 45, 44, 43, 42, 41, 35, 24, 21, 20, 16, 15, 14, 13, 9, 6, 5, 4, 3, 2], .keepO []] (ps := [(True)]) (e := .normal) (σ' := ⟨[], [(263, vb (decide (v46 < ((List.length r249 : Nat) : Int)))), (46, vi v46), (45, vi v45), (44, vb r257b), (43, vl r257), (42, vb r249b), (41, vl r249), (35, vb r214), (24, vl r164), (21, vb r139b), (20, vl r139), (16, vb r118b), (15, vi r118), (14, vl r112b), (13, vi r112), (9, vl r87), (6, vb (isQ r61 r61b)), (5, vi (oqV r61 r61b)), (4, vi r61b), (3, vi r61), (2, vb false)], []⟩) (by kernel_rfl) ⟨trivial, trivial⟩ ?_
                                          rcases ite_some h with ⟨h23, h⟩ | ⟨h23, h⟩
                                          · -- yes
                                            refine WP.cond (b := decide (v46 < ((List.length r249 : Nat) : Int))) rfl (fun _ => ?_) (fun hh => by rw [h23] at hh; cases hh)
                                            refine WP.path tab_ok mixed [] [.keep [46, 45, 44, 43, 42, 41, 35, 24, 21, 20, 16, 15, 14, 13, 9, 6, 5, 4, 3, 2], .keepO []] (ps := []) (e := .normal) (σ' := ⟨[], [(46, vi v46), (45, vi v45), (44, vb r257b), (43, vl r257), (42, vb r249b), (41, vl r249), (35, vb r214), (24, vl r164), (21, vb r139b), (20, vl r139), (16, vb r118b), (15, vi r118), (14, vl r112b), (13, vi r112), (9, vl r87), (6, vb (isQ r61 r61b)), (5, vi (oqV r61 r61b)), (4, vi r61b), (3, vi r61), (2, vb false)], []⟩) (by kernel_rfl) trivial ?_
                                            refine WP.seq ?_
                                            refine WP.block ?_
                                            refine WP.seq ?_
                                            obtain ⟨c21, h⟩ := chk_some h
                                            obtain ⟨r271, c22, h⟩ := bnd1_some h
                                            refine WP.path tab_ok mixed [(270, An.v (ti (List.getD r249 (Int.toNat v46) 0))), (271, An.call (tb r271))] [.keep [271, 46, 45, 44, 43, 42, 41, 35, 24, 21, 20, 16, 15, 14, 13, 9, 6, 5, 4, 3, 2], .keepO []] (ps := [((0 ≤ v46 ∧ v46 < ((List.length r249 : Nat) : Int))), ((List.drop ((Int.toNat v46) * 1) (List.map (T.int .i64) r249) : List T)[0]? = some (ti (List.getD r249 (Int.toNat v46) 0))), (ti (List.getD r249 (Int.toNat v46) 0) = ti (List.getD r249 (Int.toNat v46) 0)), (C Try.prog 108 [tl r257, ti (List.getD r249 (Int.toNat v46) 0)] (tb r271))]) (e := .normal) (σ' := ⟨[], [(271, vb r271), (46, vi v46), (45, vi v45), (44, vb r257b), (43, vl r257), (42, vb r249b), (41, vl r249), (35, vb r214), (24, vl r164), (21, vb r139b), (20, vl r139), (16, vb r118b), (15, vi r118), (14, vl r112b), (13, vi r112), (9, vl r87), (6, vb (isQ r61 r61b)), (5, vi (oqV r61 r61b)), (4, vi r61b), (3, vi r61), (2, vb false)], []⟩) (by kernel_rfl) ⟨c21, at1 (by simp) (by omega), rfl, (F_laws_rHas_W r257 (List.getD r249 (Int.toNat v46) 0) r271 c22), trivial⟩ ?_
                                            rcases ite_some h with ⟨h24, h⟩ | ⟨h24, h⟩
                                            · -- yes
                                              refine WP.cond (b := r271) rfl (fun _ => ?_) (fun hh => by rw [h24] at hh; cases hh)
                                              obtain ⟨c23, h⟩ := chk_some h
                                              refine WP.path tab_ok mixed [(273, An.v (T.int .i64 (v45 + (1 : Int))))] [.keep [45, 46, 44, 43, 42, 41, 35, 24, 21, 20, 16, 15, 14, 13, 9, 6, 5, 4, 3, 2], .keepO []] (ps := [(True), (T.int .i64 (IntKind.wrap .i64 (v45 + (1 : Int))) = T.int .i64 (v45 + (1 : Int)))]) (e := .normal) (σ' := ⟨[], [(45, vi (v45 + (1 : Int))), (46, vi v46), (44, vb r257b), (43, vl r257), (42, vb r249b), (41, vl r249), (35, vb r214), (24, vl r164), (21, vb r139b), (20, vl r139), (16, vb r118b), (15, vi r118), (14, vl r112b), (13, vi r112), (9, vl r87), (6, vb (isQ r61 r61b)), (5, vi (oqV r61 r61b)), (4, vi r61b), (3, vi r61), (2, vb false)], []⟩) (by kernel_rfl) ⟨trivial, wrapI c23, trivial⟩ ?_
                                              obtain ⟨c24, h⟩ := chk_some h
                                              refine WP.path tab_ok mixed [(265, An.v (T.int .i64 (v46 + (1 : Int))))] [.keep [46, 45, 44, 43, 42, 41, 35, 24, 21, 20, 16, 15, 14, 13, 9, 6, 5, 4, 3, 2], .keepO [], .names []] (ps := [(True), (T.int .i64 (IntKind.wrap .i64 (v46 + (1 : Int))) = T.int .i64 (v46 + (1 : Int)))]) (e := .normal) (σ' := ⟨[], [(46, vi (v46 + (1 : Int))), (45, vi (v45 + (1 : Int))), (44, vb r257b), (43, vl r257), (42, vb r249b), (41, vl r249), (35, vb r214), (24, vl r164), (21, vb r139b), (20, vl r139), (16, vb r118b), (15, vi r118), (14, vl r112b), (13, vi r112), (9, vl r87), (6, vb (isQ r61 r61b)), (5, vi (oqV r61 r61b)), (4, vi r61b), (3, vi r61), (2, vb false)], []⟩) (by kernel_rfl) ⟨trivial, wrapI c24, trivial⟩ ?_
                                              exact ⟨(n, (v46 + (1 : Int)), (v45 + (1 : Int))), h, Nat.lt_succ_self _, rfl⟩
                                            · -- no
                                              refine WP.cond (b := r271) rfl (fun hh => by rw [h24] at hh; cases hh) (fun _ => ?_)
                                              refine WP.path tab_ok mixed [] [.keep [46, 45, 44, 43, 42, 41, 35, 24, 21, 20, 16, 15, 14, 13, 9, 6, 5, 4, 3, 2], .keepO []] (ps := []) (e := .normal) (σ' := ⟨[], [(46, vi v46), (45, vi v45), (44, vb r257b), (43, vl r257), (42, vb r249b), (41, vl r249), (35, vb r214), (24, vl r164), (21, vb r139b), (20, vl r139), (16, vb r118b), (15, vi r118), (14, vl r112b), (13, vi r112), (9, vl r87), (6, vb (isQ r61 r61b)), (5, vi (oqV r61 r61b)), (4, vi r61b), (3, vi r61), (2, vb false)], []⟩) (by kernel_rfl) trivial ?_
                                              obtain ⟨c23, h⟩ := chk_some h
                                              refine WP.path tab_ok mixed [(265, An.v (T.int .i64 (v46 + (1 : Int))))] [.keep [46, 45, 44, 43, 42, 41, 35, 24, 21, 20, 16, 15, 14, 13, 9, 6, 5, 4, 3, 2], .keepO [], .names []] (ps := [(True), (T.int .i64 (IntKind.wrap .i64 (v46 + (1 : Int))) = T.int .i64 (v46 + (1 : Int)))]) (e := .normal) (σ' := ⟨[], [(46, vi (v46 + (1 : Int))), (45, vi v45), (44, vb r257b), (43, vl r257), (42, vb r249b), (41, vl r249), (35, vb r214), (24, vl r164), (21, vb r139b), (20, vl r139), (16, vb r118b), (15, vi r118), (14, vl r112b), (13, vi r112), (9, vl r87), (6, vb (isQ r61 r61b)), (5, vi (oqV r61 r61b)), (4, vi r61b), (3, vi r61), (2, vb false)], []⟩) (by kernel_rfl) ⟨trivial, wrapI c23, trivial⟩ ?_
                                              exact ⟨(n, (v46 + (1 : Int)), v45), h, Nat.lt_succ_self _, rfl⟩
                                          · -- no
                                            refine WP.cond (b := decide (v46 < ((List.length r249 : Nat) : Int))) rfl (fun hh => by rw [h23] at hh; cases hh) (fun _ => ?_)
                                            refine WP.path tab_ok mixed [] [.keep [45, 44, 42, 41, 35, 24, 21, 20, 16, 15, 14, 13, 9, 6, 5, 4, 3, 2], .keepO [], .names []] (ps := []) (e := (.exit 0)) (σ' := ⟨[], [(45, vi v45), (44, vb r257b), (42, vb r249b), (41, vl r249), (35, vb r214), (24, vl r164), (21, vb r139b), (20, vl r139), (16, vb r118b), (15, vi r118), (14, vl r112b), (13, vi r112), (9, vl r87), (6, vb (isQ r61 r61b)), (5, vi (oqV r61 r61b)), (4, vi r61b), (3, vi r61), (2, vb false)], []⟩) (by kernel_rfl) trivial ?_
                                            exact ⟨(v45), h, rfl⟩
                                      · -- from there
                                        intro v45 h0
                                        have h := (show J2 v45 = some y0 from h0)
                                        rw [hJ2] at h
                                        obtain ⟨J2, hJ2, h⟩ := jn_some h
                                        refine WP.joinA (fun (zz : Bool) => ⟨[], [(291, vb zz), (24, vl r164), (21, vb r139b), (20, vl r139), (16, vb r118b), (15, vi r118), (14, vl r112b), (13, vi r112), (9, vl r87), (6, vb (isQ r61 r61b)), (5, vi (oqV r61 r61b)), (4, vi r61b), (3, vi r61), (2, vb false)], []⟩) (fun zz => J2 zz = some y0) ?_ ?_
                                        · -- to where they meet
                                          rcases ite_some h with ⟨h25, h⟩ | ⟨h25, h⟩
                                          · -- yes
                                            refine WP.path tab_ok mixed [(276, An.b true)] [.keep [291, 24, 21, 20, 16, 15, 14, 13, 9, 6, 5, 4, 3, 2], .keepO [], .names []] (ps := [((!r249b) = true)]) (e := .normal) (σ' := ⟨[], [(291, vb true), (24, vl r164), (21, vb r139b), (20, vl r139), (16, vb r118b), (15, vi r118), (14, vl r112b), (13, vi r112), (9, vl r87), (6, vb (isQ r61 r61b)), (5, vi (oqV r61 r61b)), (4, vi r61b), (3, vi r61), (2, vb false)], []⟩) (by kernel_rfl) ⟨h25, trivial⟩ ?_
                                            exact ⟨(true), h, rfl⟩
                                          · -- no
                                            rcases ite_some h with ⟨h26, h⟩ | ⟨h26, h⟩
                                            · -- yes
                                              refine WP.path tab_ok mixed [(276, An.b false), (280, An.b true)] [.keep [291, 24, 21, 20, 16, 15, 14, 13, 9, 6, 5, 4, 3, 2], .keepO [], .names []] (ps := [((!r249b) = false), ((!r257b) = true)]) (e := .normal) (σ' := ⟨[], [(291, vb true), (24, vl r164), (21, vb r139b), (20, vl r139), (16, vb r118b), (15, vi r118), (14, vl r112b), (13, vi r112), (9, vl r87), (6, vb (isQ r61 r61b)), (5, vi (oqV r61 r61b)), (4, vi r61b), (3, vi r61), (2, vb false)], []⟩) (by kernel_rfl) ⟨h25, h26, trivial⟩ ?_
                                              exact ⟨(true), h, rfl⟩
                                            · -- no
                                              rcases ite_some h with ⟨h27, h⟩ | ⟨h27, h⟩
                                              · -- yes
                                                refine WP.path tab_ok mixed [(276, An.b false), (280, An.b false), (283, An.b true)] [.keep [291, 24, 21, 20, 16, 15, 14, 13, 9, 6, 5, 4, 3, 2], .keepO [], .names []] (ps := [((!r249b) = false), ((!r257b) = false), (True), ((v45 == (0 : Int)) = true), (True)]) (e := .normal) (σ' := ⟨[], [(291, vb (!(r214 == true))), (24, vl r164), (21, vb r139b), (20, vl r139), (16, vb r118b), (15, vi r118), (14, vl r112b), (13, vi r112), (9, vl r87), (6, vb (isQ r61 r61b)), (5, vi (oqV r61 r61b)), (4, vi r61b), (3, vi r61), (2, vb false)], []⟩) (by kernel_rfl) ⟨h25, h26, trivial, h27, trivial, trivial⟩ ?_
                                                exact ⟨(!(r214 == true)), h, rfl⟩
                                              · -- no
                                                refine WP.path tab_ok mixed [(276, An.b false), (280, An.b false), (283, An.b false)] [.keep [291, 24, 21, 20, 16, 15, 14, 13, 9, 6, 5, 4, 3, 2], .keepO [], .names []] (ps := [((!r249b) = false), ((!r257b) = false), (True), ((v45 == (0 : Int)) = false), (True), (True)]) (e := .normal) (σ' := ⟨[], [(291, vb (!(r214 == (v45 == ((List.length r249 : Nat) : Int))))), (24, vl r164), (21, vb r139b), (20, vl r139), (16, vb r118b), (15, vi r118), (14, vl r112b), (13, vi r112), (9, vl r87), (6, vb (isQ r61 r61b)), (5, vi (oqV r61 r61b)), (4, vi r61b), (3, vi r61), (2, vb false)], []⟩) (by kernel_rfl) ⟨h25, h26, trivial, h27, trivial, trivial, trivial⟩ ?_
                                                exact ⟨(!(r214 == (v45 == ((List.length r249 : Nat) : Int)))), h, rfl⟩
                                        · -- from there
                                          intro v291 h0
                                          have h := (show J2 v291 = some y0 from h0)
                                          rw [hJ2] at h
                                          rcases ite_some h with ⟨h28, h⟩ | ⟨h28, h⟩
                                          · -- yes
                                            refine WP.cond (b := v291) rfl (fun _ => ?_) (fun hh => by rw [h28] at hh; cases hh)
                                            have h := Option.some.inj h
                                            subst h
                                            exact WP.pathW tab_ok mixed [] _ (ps := []) (r := tb false) (by kernel_rfl) trivial (WkT.eq (y := tb false) (WkT.refl _) rfl) (fun _ h => h)
                                          · -- no
                                            refine WP.cond (b := v291) rfl (fun hh => by rw [h28] at hh; cases hh) (fun _ => ?_)
                                            refine WP.path tab_ok mixed [] [.keep [24, 21, 20, 16, 15, 14, 13, 9, 6, 5, 4, 3, 2], .keepO [], .names []] (ps := []) (e := .normal) (σ' := ⟨[], [(24, vl r164), (21, vb r139b), (20, vl r139), (16, vb r118b), (15, vi r118), (14, vl r112b), (13, vi r112), (9, vl r87), (6, vb (isQ r61 r61b)), (5, vi (oqV r61 r61b)), (4, vi r61b), (3, vi r61), (2, vb false)], []⟩) (by kernel_rfl) trivial ?_
                                            exact ⟨(), h, rfl⟩
                                    · -- no
                                      refine WP.cond (b := r214b) rfl (fun hh => by rw [h22] at hh; cases hh) (fun _ => ?_)
                                      refine WP.path tab_ok mixed [] [.keep [24, 21, 20, 16, 15, 14, 13, 9, 6, 5, 4, 3, 2], .keepO [], .names []] (ps := []) (e := .normal) (σ' := ⟨[], [(24, vl r164), (21, vb r139b), (20, vl r139), (16, vb r118b), (15, vi r118), (14, vl r112b), (13, vi r112), (9, vl r87), (6, vb (isQ r61 r61b)), (5, vi (oqV r61 r61b)), (4, vi r61b), (3, vi r61), (2, vb false)], []⟩) (by kernel_rfl) trivial ?_
                                      exact ⟨(), h, rfl⟩
                                  · -- from there
                                    intro _ h0
                                    have h := (show J1 () = some y0 from h0)
                                    rw [hJ1] at h
                                    obtain ⟨J1, hJ1, h⟩ := jn_some h
                                    refine WP.joinA (fun (zz : Unit) => ⟨[], [(16, vb r118b), (15, vi r118), (14, vl r112b), (13, vi r112), (9, vl r87), (6, vb (isQ r61 r61b)), (5, vi (oqV r61 r61b)), (4, vi r61b), (3, vi r61), (2, vb false)], []⟩) (fun zz => J1 () = some y0) ?_ ?_
                                    · -- to where they meet
                                      refine WP.seq ?_
                                      refine WP.path tab_ok mixed [] [.keep [292, 24, 20, 16, 15, 14, 13, 9, 6, 5, 4, 3, 2], .keepO []] (ps := []) (e := .normal) (σ' := ⟨[], [(292, vb r139b), (24, vl r164), (20, vl r139), (16, vb r118b), (15, vi r118), (14, vl r112b), (13, vi r112), (9, vl r87), (6, vb (isQ r61 r61b)), (5, vi (oqV r61 r61b)), (4, vi r61b), (3, vi r61), (2, vb false)], []⟩) (by kernel_rfl) trivial ?_
                                      rcases ite_some h with ⟨h29, h⟩ | ⟨h29, h⟩
                                      · -- yes
                                        refine WP.cond (b := r139b) rfl (fun _ => ?_) (fun hh => by rw [h29] at hh; cases hh)
                                        refine WP.seq ?_
                                        refine WP.path tab_ok mixed [] [.keep [47, 24, 20, 16, 15, 14, 13, 9, 6, 5, 4, 3, 2], .keepO []] (ps := []) (e := .normal) (σ' := ⟨[], [(47, vi 0), (24, vl r164), (20, vl r139), (16, vb r118b), (15, vi r118), (14, vl r112b), (13, vi r112), (9, vl r87), (6, vb (isQ r61 r61b)), (5, vi (oqV r61 r61b)), (4, vi r61b), (3, vi r61), (2, vb false)], []⟩) (by kernel_rfl) trivial ?_
                                        obtain ⟨J2, hJ2, h⟩ := jn_some h
                                        refine WP.joinA (fun (zz : Int) => ⟨[], [(47, vi zz), (20, vl r139), (16, vb r118b), (15, vi r118), (14, vl r112b), (13, vi r112), (9, vl r87), (6, vb (isQ r61 r61b)), (5, vi (oqV r61 r61b)), (4, vi r61b), (3, vi r61), (2, vb false)], []⟩) (fun zz => J2 zz = some y0) ?_ ?_
                                        · -- to where they meet
                                          refine WP.seq ?_
                                          refine WP.path tab_ok mixed [] [.keep [48, 47, 24, 20, 16, 15, 14, 13, 9, 6, 5, 4, 3, 2], .keepO []] (ps := []) (e := .normal) (σ' := ⟨[], [(48, vi 0), (47, vi 0), (24, vl r164), (20, vl r139), (16, vb r118b), (15, vi r118), (14, vl r112b), (13, vi r112), (9, vl r87), (6, vb (isQ r61 r61b)), (5, vi (oqV r61 r61b)), (4, vi r61b), (3, vi r61), (2, vb false)], []⟩) (by kernel_rfl) trivial ?_
                                          refine WP.block ?_
                                          refine WP.wk [.keep [48, 47, 24, 20, 16, 15, 14, 13, 9, 6, 5, 4, 3, 2], .keepO [], .names []] (σ' := ⟨[], [(48, vi 0), (47, vi 0), (24, vl r164), (20, vl r139), (16, vb r118b), (15, vi r118), (14, vl r112b), (13, vi r112), (9, vl r87), (6, vb (isQ r61 r61b)), (5, vi (oqV r61 r61b)), (4, vi r61b), (3, vi r61), (2, vb false)], []⟩) (ps := []) (by kernel_rfl) trivial ?_
                                          refine WP.st (σ' := ⟨[], [(48, vi (0 : Int)), (47, vi (0 : Int)), (24, vl r164), (20, vl r139), (16, vb r118b), (15, vi r118), (14, vl r112b), (13, vi r112), (9, vl r87), (6, vb (isQ r61 r61b)), (5, vi (oqV r61 r61b)), (4, vi r61b), (3, vi r61), (2, vb false)], []⟩) (by first | rfl | (simp only [tlS, tl, vl, vo, oc, ov, tbl, vbl, ty, vy]; done) | (simp only [tlS, tl, vl, vo, oc, ov, tbl, vbl, ty, vy]; rfl) | (simp; done) | (simp []; done) | (rw [List.take_of_length_le (by simp [])]; done) | (rw [List.take_of_length_le (by simp [])]; rfl) | (simp only [tlL]; omega) | (simp; omega)) ?_
                                          refine WP.loop (α := Nat × Int × Int) (fun zz => ⟨[], [(48, vi zz.2.1), (47, vi zz.2.2), (24, vl r164), (20, vl r139), (16, vb r118b), (15, vi r118), (14, vl r112b), (13, vi r112), (9, vl r87), (6, vb (isQ r61 r61b)), (5, vi (oqV r61 r61b)), (4, vi r61b), (3, vi r61), (2, vb false)], []⟩) (fun zz => F_laws_FnQuestions_L2 r164 J2 zz.1 zz.2.1 zz.2.2 = some y0) (fun zz => zz.1) (fuel, (0 : Int), (0 : Int)) h ?_
                                          rintro ⟨n, v48, v47⟩ h0
                                          have h := (show F_laws_FnQuestions_L2 r164 J2 n v48 v47 = some y0 from h0)
                                          rcases n with _ | n
                                          · rw [F_laws_FnQuestions_L2] at h; cases h
                                          · rw [F_laws_FnQuestions_L2] at h
                                            refine WP.seq ?_
                                            refine WP.seq ?_
                                            refine WP.path tab_ok mixed [] [.keep [296, 48, 47, 24, 20, 16, 15, 14, 13, 9, 6, 5, 4, 3, 2], .keepO []] (ps := [(True)]) (e := .normal) (σ' := ⟨[], [(296, vb (decide (v48 < ((List.length r164 : Nat) : Int)))), (48, vi v48), (47, vi v47), (24, vl r164), (20, vl r139), (16, vb r118b), (15, vi r118), (14, vl r112b), (13, vi r112), (9, vl r87), (6, vb (isQ r61 r61b)), (5, vi (oqV r61 r61b)), (4, vi r61b), (3, vi r61), (2, vb false)], []⟩) (by kernel_rfl) ⟨trivial, trivial⟩ ?_
                                            rcases ite_some h with ⟨h30, h⟩ | ⟨h30, h⟩
                                            · -- yes
                                              refine WP.cond (b := decide (v48 < ((List.length r164 : Nat) : Int))) rfl (fun _ => ?_) (fun hh => by rw [h30] at hh; cases hh)
                                              refine WP.path tab_ok mixed [] [.keep [48, 47, 24, 20, 16, 15, 14, 13, 9, 6, 5, 4, 3, 2], .keepO []] (ps := []) (e := .normal) (σ' := ⟨[], [(48, vi v48), (47, vi v47), (24, vl r164), (20, vl r139), (16, vb r118b), (15, vi r118), (14, vl r112b), (13, vi r112), (9, vl r87), (6, vb (isQ r61 r61b)), (5, vi (oqV r61 r61b)), (4, vi r61b), (3, vi r61), (2, vb false)], []⟩) (by kernel_rfl) trivial ?_
                                              refine WP.seq ?_
                                              refine WP.block ?_
                                              obtain ⟨c19, h⟩ := chk_some h
                                              obtain ⟨c20, h⟩ := chk_some h
                                              refine WP.path tab_ok mixed [(303, An.v (ti (List.getD r164 (Int.toNat v48) 0))), (304, An.v (T.int .i64 (v47 + (List.getD r164 (Int.toNat v48) 0))))] [.keep [47, 48, 24, 20, 16, 15, 14, 13, 9, 6, 5, 4, 3, 2], .keepO []] (ps := [((0 ≤ v48 ∧ v48 < ((List.length r164 : Nat) : Int))), ((List.drop ((Int.toNat v48) * 1) (List.map (T.int .i64) r164) : List T)[0]? = some (ti (List.getD r164 (Int.toNat v48) 0))), (ti (List.getD r164 (Int.toNat v48) 0) = ti (List.getD r164 (Int.toNat v48) 0)), (True), (T.int .i64 (IntKind.wrap .i64 (v47 + (List.getD r164 (Int.toNat v48) 0))) = T.int .i64 (v47 + (List.getD r164 (Int.toNat v48) 0)))]) (e := .normal) (σ' := ⟨[], [(47, vi (v47 + (List.getD r164 (Int.toNat v48) 0))), (48, vi v48), (24, vl r164), (20, vl r139), (16, vb r118b), (15, vi r118), (14, vl r112b), (13, vi r112), (9, vl r87), (6, vb (isQ r61 r61b)), (5, vi (oqV r61 r61b)), (4, vi r61b), (3, vi r61), (2, vb false)], []⟩) (by kernel_rfl) ⟨c19, at1 (by simp) (by omega), rfl, trivial, wrapI c20, trivial⟩ ?_
                                              obtain ⟨c21, h⟩ := chk_some h
                                              refine WP.path tab_ok mixed [(298, An.v (T.int .i64 (v48 + (1 : Int))))] [.keep [48, 47, 24, 20, 16, 15, 14, 13, 9, 6, 5, 4, 3, 2], .keepO [], .names []] (ps := [(True), (T.int .i64 (IntKind.wrap .i64 (v48 + (1 : Int))) = T.int .i64 (v48 + (1 : Int)))]) (e := .normal) (σ' := ⟨[], [(48, vi (v48 + (1 : Int))), (47, vi (v47 + (List.getD r164 (Int.toNat v48) 0))), (24, vl r164), (20, vl r139), (16, vb r118b), (15, vi r118), (14, vl r112b), (13, vi r112), (9, vl r87), (6, vb (isQ r61 r61b)), (5, vi (oqV r61 r61b)), (4, vi r61b), (3, vi r61), (2, vb false)], []⟩) (by kernel_rfl) ⟨trivial, wrapI c21, trivial⟩ ?_
                                              exact ⟨(n, (v48 + (1 : Int)), (v47 + (List.getD r164 (Int.toNat v48) 0))), h, Nat.lt_succ_self _, rfl⟩
                                            · -- no
                                              refine WP.cond (b := decide (v48 < ((List.length r164 : Nat) : Int))) rfl (fun hh => by rw [h30] at hh; cases hh) (fun _ => ?_)
                                              refine WP.path tab_ok mixed [] [.keep [47, 20, 16, 15, 14, 13, 9, 6, 5, 4, 3, 2], .keepO [], .names []] (ps := []) (e := (.exit 2)) (σ' := ⟨[], [(47, vi v47), (20, vl r139), (16, vb r118b), (15, vi r118), (14, vl r112b), (13, vi r112), (9, vl r87), (6, vb (isQ r61 r61b)), (5, vi (oqV r61 r61b)), (4, vi r61b), (3, vi r61), (2, vb false)], []⟩) (by kernel_rfl) trivial ?_
                                              exact ⟨(v47), h, rfl⟩
                                        · -- from there
                                          intro v47 h0
                                          have h := (show J2 v47 = some y0 from h0)
                                          rw [hJ2] at h
                                          refine WP.seq ?_
                                          refine WP.path tab_ok mixed [] [.keep [308, 16, 15, 14, 13, 9, 6, 5, 4, 3, 2], .keepO []] (ps := [(True)]) (e := .normal) (σ' := ⟨[], [(308, vb (v47 != ((List.length r139 : Nat) : Int))), (16, vb r118b), (15, vi r118), (14, vl r112b), (13, vi r112), (9, vl r87), (6, vb (isQ r61 r61b)), (5, vi (oqV r61 r61b)), (4, vi r61b), (3, vi r61), (2, vb false)], []⟩) (by kernel_rfl) ⟨trivial, trivial⟩ ?_
                                          rcases ite_some h with ⟨h31, h⟩ | ⟨h31, h⟩
                                          · -- yes
                                            refine WP.cond (b := v47 != ((List.length r139 : Nat) : Int)) rfl (fun _ => ?_) (fun hh => by rw [h31] at hh; cases hh)
                                            have h := Option.some.inj h
                                            subst h
                                            exact WP.pathW tab_ok mixed [] _ (ps := []) (r := tb false) (by kernel_rfl) trivial (WkT.eq (y := tb false) (WkT.refl _) rfl) (fun _ h => h)
                                          · -- no
                                            refine WP.cond (b := v47 != ((List.length r139 : Nat) : Int)) rfl (fun hh => by rw [h31] at hh; cases hh) (fun _ => ?_)
                                            refine WP.path tab_ok mixed [] [.keep [16, 15, 14, 13, 9, 6, 5, 4, 3, 2], .keepO [], .names []] (ps := []) (e := .normal) (σ' := ⟨[], [(16, vb r118b), (15, vi r118), (14, vl r112b), (13, vi r112), (9, vl r87), (6, vb (isQ r61 r61b)), (5, vi (oqV r61 r61b)), (4, vi r61b), (3, vi r61), (2, vb false)], []⟩) (by kernel_rfl) trivial ?_
                                            exact ⟨(), h, rfl⟩
                                      · -- no
                                        refine WP.cond (b := r139b) rfl (fun hh => by rw [h29] at hh; cases hh) (fun _ => ?_)
                                        refine WP.path tab_ok mixed [] [.keep [16, 15, 14, 13, 9, 6, 5, 4, 3, 2], .keepO [], .names []] (ps := []) (e := .normal) (σ' := ⟨[], [(16, vb r118b), (15, vi r118), (14, vl r112b), (13, vi r112), (9, vl r87), (6, vb (isQ r61 r61b)), (5, vi (oqV r61 r61b)), (4, vi r61b), (3, vi r61), (2, vb false)], []⟩) (by kernel_rfl) trivial ?_
                                        exact ⟨(), h, rfl⟩
                                    · -- from there
                                      intro _ h0
                                      have h := (show J1 () = some y0 from h0)
                                      rw [hJ1] at h
                                      obtain ⟨J1, hJ1, h⟩ := jn_some h
                                      refine WP.joinA (fun (zz : Unit) => ⟨[], [(9, vl r87), (6, vb (isQ r61 r61b)), (5, vi (oqV r61 r61b)), (4, vi r61b), (3, vi r61), (2, vb false)], []⟩) (fun zz => J1 () = some y0) ?_ ?_
                                      · -- to where they meet
                                        refine WP.seq ?_
                                        refine WP.path tab_ok mixed [] [.keep [309, 15, 14, 13, 9, 6, 5, 4, 3, 2], .keepO []] (ps := []) (e := .normal) (σ' := ⟨[], [(309, vb r118b), (15, vi r118), (14, vl r112b), (13, vi r112), (9, vl r87), (6, vb (isQ r61 r61b)), (5, vi (oqV r61 r61b)), (4, vi r61b), (3, vi r61), (2, vb false)], []⟩) (by kernel_rfl) trivial ?_
                                        rcases ite_some h with ⟨h32, h⟩ | ⟨h32, h⟩
                                        · -- yes
                                          refine WP.cond (b := r118b) rfl (fun _ => ?_) (fun hh => by rw [h32] at hh; cases hh)
                                          refine WP.seq ?_
                                          obtain ⟨r313, r313b, c19, h⟩ := bnd2_some h
                                          refine WP.path tab_ok mixed [(313, An.call (T.tup [tl r313, tb r313b]))] [.keep [50, 49, 14, 9, 6, 5, 4, 3, 2], .keepO []] (ps := [(C Try.prog 91 [ti r112, ti r118] (T.tup [tl r313, tb r313b]))]) (e := .normal) (σ' := ⟨[], [(50, vb r313b), (49, vl r313), (14, vl r112b), (9, vl r87), (6, vb (isQ r61 r61b)), (5, vi (oqV r61 r61b)), (4, vi r61b), (3, vi r61), (2, vb false)], []⟩) (by kernel_rfl) ⟨(F_impl_NumbersOf_W_C r112 r118 r313 r313b c19), trivial⟩ ?_
                                          refine WP.seq ?_
                                          refine WP.seq ?_
                                          refine WP.path tab_ok mixed [] [.keep [317, 49, 14, 9, 6, 5, 4, 3, 2], .keepO []] (ps := []) (e := .normal) (σ' := ⟨[], [(317, vb !r313b), (49, vl r313), (14, vl r112b), (9, vl r87), (6, vb (isQ r61 r61b)), (5, vi (oqV r61 r61b)), (4, vi r61b), (3, vi r61), (2, vb false)], []⟩) (by kernel_rfl) trivial ?_
                                          rcases ite_some h with ⟨h33, h⟩ | ⟨h33, h⟩
                                          · -- yes
                                            refine WP.cond (b := !r313b) rfl (fun _ => ?_) (fun hh => by rw [h33] at hh; cases hh)
                                            have h := Option.some.inj h
                                            subst h
                                            exact WP.pathW tab_ok mixed [] _ (ps := []) (r := tb false) (by kernel_rfl) trivial (WkT.eq (y := tb false) (WkT.refl _) rfl) (fun _ h => h)
                                          · -- no
                                            refine WP.cond (b := !r313b) rfl (fun hh => by rw [h33] at hh; cases hh) (fun _ => ?_)
                                            refine WP.path tab_ok mixed [] [.keep [49, 14, 9, 6, 5, 4, 3, 2], .keepO []] (ps := []) (e := .normal) (σ' := ⟨[], [(49, vl r313), (14, vl r112b), (9, vl r87), (6, vb (isQ r61 r61b)), (5, vi (oqV r61 r61b)), (4, vi r61b), (3, vi r61), (2, vb false)], []⟩) (by kernel_rfl) trivial ?_
                                            obtain ⟨J2, hJ2, h⟩ := jn_some h
                                            refine WP.joinA (fun (zz : Unit) => ⟨[], [(49, vl r313), (14, vl r112b), (9, vl r87), (6, vb (isQ r61 r61b)), (5, vi (oqV r61 r61b)), (4, vi r61b), (3, vi r61), (2, vb false)], []⟩) (fun zz => J2 () = some y0) ?_ ?_
                                            · -- to where they meet
                                              refine WP.seq ?_
                                              refine WP.path tab_ok mixed [] [.keep [51, 49, 14, 9, 6, 5, 4, 3, 2], .keepO []] (ps := []) (e := .normal) (σ' := ⟨[], [(51, vi 0), (49, vl r313), (14, vl r112b), (9, vl r87), (6, vb (isQ r61 r61b)), (5, vi (oqV r61 r61b)), (4, vi r61b), (3, vi r61), (2, vb false)], []⟩) (by kernel_rfl) trivial ?_
                                              refine WP.block ?_
                                              refine WP.wk [.keep [51, 49, 14, 9, 6, 5, 4, 3, 2], .keepO [], .names []] (σ' := ⟨[], [(51, vi 0), (49, vl r313), (14, vl r112b), (9, vl r87), (6, vb (isQ r61 r61b)), (5, vi (oqV r61 r61b)), (4, vi r61b), (3, vi r61), (2, vb false)], []⟩) (ps := []) (by kernel_rfl) trivial ?_
                                              refine WP.st (σ' := ⟨[], [(51, vi (0 : Int)), (49, vl r313), (14, vl r112b), (9, vl r87), (6, vb (isQ r61 r61b)), (5, vi (oqV r61 r61b)), (4, vi r61b), (3, vi r61), (2, vb false)], []⟩) (by first | rfl | (simp only [tlS, tl, vl, vo, oc, ov, tbl, vbl, ty, vy]; done) | (simp only [tlS, tl, vl, vo, oc, ov, tbl, vbl, ty, vy]; rfl) | (simp; done) | (simp []; done) | (rw [List.take_of_length_le (by simp [])]; done) | (rw [List.take_of_length_le (by simp [])]; rfl) | (simp only [tlL]; omega) | (simp; omega)) ?_
                                              refine WP.loop (α := Nat × Int) (fun zz => ⟨[], [(51, vi zz.2), (49, vl r313), (14, vl r112b), (9, vl r87), (6, vb (isQ r61 r61b)), (5, vi (oqV r61 r61b)), (4, vi r61b), (3, vi r61), (2, vb false)], []⟩) (fun zz => F_laws_FnQuestions_L3 r112b r313 J2 zz.1 zz.2 = some y0) (fun zz => zz.1) (fuel, (0 : Int)) h ?_
                                              rintro ⟨n, v51⟩ h0
                                              have h := (show F_laws_FnQuestions_L3 r112b r313 J2 n v51 = some y0 from h0)
                                              rcases n with _ | n
                                              · rw [F_laws_FnQuestions_L3] at h; cases h
                                              · rw [F_laws_FnQuestions_L3] at h
                                                refine WP.seq ?_
                                                refine WP.seq ?_
                                                refine WP.path tab_ok mixed [] [.keep [321, 51, 49, 14, 9, 6, 5, 4, 3, 2], .keepO []] (ps := [(True)]) (e := .normal) (σ' := ⟨[], [(321, vb (decide (v51 < ((List.length r112b : Nat) : Int)))), (51, vi v51), (49, vl r313), (14, vl r112b), (9, vl r87), (6, vb (isQ r61 r61b)), (5, vi (oqV r61 r61b)), (4, vi r61b), (3, vi r61), (2, vb false)], []⟩) (by kernel_rfl) ⟨trivial, trivial⟩ ?_
                                                rcases ite_some h with ⟨h34, h⟩ | ⟨h34, h⟩
                                                · -- yes
                                                  refine WP.cond (b := decide (v51 < ((List.length r112b : Nat) : Int))) rfl (fun _ => ?_) (fun hh => by rw [h34] at hh; cases hh)
                                                  refine WP.path tab_ok mixed [] [.keep [51, 49, 14, 9, 6, 5, 4, 3, 2], .keepO []] (ps := []) (e := .normal) (σ' := ⟨[], [(51, vi v51), (49, vl r313), (14, vl r112b), (9, vl r87), (6, vb (isQ r61 r61b)), (5, vi (oqV r61 r61b)), (4, vi r61b), (3, vi r61), (2, vb false)], []⟩) (by kernel_rfl) trivial ?_
                                                  refine WP.seq ?_
                                                  refine WP.block ?_
                                                  refine WP.seq ?_
                                                  obtain ⟨c20, h⟩ := chk_some h
                                                  obtain ⟨r329, c21, h⟩ := bnd1_some h
                                                  refine WP.path tab_ok mixed [(328, An.v (ti (List.getD r112b (Int.toNat v51) 0))), (329, An.call (tb r329))] [.keep [330, 51, 49, 14, 9, 6, 5, 4, 3, 2], .keepO []] (ps := [((0 ≤ v51 ∧ v51 < ((List.length r112b : Nat) : Int))), ((List.drop ((Int.toNat v51) * 1) (List.map (T.int .i64) r112b) : List T)[0]? = some (ti (List.getD r112b (Int.toNat v51) 0))), (ti (List.getD r112b (Int.toNat v51) 0) = ti (List.getD r112b (Int.toNat v51) 0)), (C Try.prog 108 [tl r313, ti (List.getD r112b (Int.toNat v51) 0)] (tb r329))]) (e := .normal) (σ' := ⟨[], [(330, vb !r329), (51, vi v51), (49, vl r313), (14, vl r112b), (9, vl r87), (6, vb (isQ r61 r61b)), (5, vi (oqV r61 r61b)), (4, vi r61b), (3, vi r61), (2, vb false)], []⟩) (by kernel_rfl) ⟨c20, at1 (by simp) (by omega), rfl, (F_laws_rHas_W r313 (List.getD r112b (Int.toNat v51) 0) r329 c21), trivial⟩ ?_
                                                  rcases ite_some h with ⟨h35, h⟩ | ⟨h35, h⟩
                                                  · -- yes
                                                    refine WP.cond (b := !r329) rfl (fun _ => ?_) (fun hh => by rw [h35] at hh; cases hh)
                                                    have h := Option.some.inj h
                                                    subst h
                                                    exact WP.pathW tab_ok mixed [] _ (ps := []) (r := tb false) (by kernel_rfl) trivial (WkT.eq (y := tb false) (WkT.refl _) rfl) (fun _ h => h)
                                                  · -- no
                                                    refine WP.cond (b := !r329) rfl (fun hh => by rw [h35] at hh; cases hh) (fun _ => ?_)
                                                    refine WP.path tab_ok mixed [] [.keep [51, 49, 14, 9, 6, 5, 4, 3, 2], .keepO []] (ps := []) (e := .normal) (σ' := ⟨[], [(51, vi v51), (49, vl r313), (14, vl r112b), (9, vl r87), (6, vb (isQ r61 r61b)), (5, vi (oqV r61 r61b)), (4, vi r61b), (3, vi r61), (2, vb false)], []⟩) (by kernel_rfl) trivial ?_
                                                    obtain ⟨c22, h⟩ := chk_some h
                                                    refine WP.path tab_ok mixed [(323, An.v (T.int .i64 (v51 + (1 : Int))))] [.keep [51, 49, 14, 9, 6, 5, 4, 3, 2], .keepO [], .names []] (ps := [(True), (T.int .i64 (IntKind.wrap .i64 (v51 + (1 : Int))) = T.int .i64 (v51 + (1 : Int)))]) (e := .normal) (σ' := ⟨[], [(51, vi (v51 + (1 : Int))), (49, vl r313), (14, vl r112b), (9, vl r87), (6, vb (isQ r61 r61b)), (5, vi (oqV r61 r61b)), (4, vi r61b), (3, vi r61), (2, vb false)], []⟩) (by kernel_rfl) ⟨trivial, wrapI c22, trivial⟩ ?_
                                                    exact ⟨(n, (v51 + (1 : Int))), h, Nat.lt_succ_self _, rfl⟩
                                                · -- no
                                                  refine WP.cond (b := decide (v51 < ((List.length r112b : Nat) : Int))) rfl (fun hh => by rw [h34] at hh; cases hh) (fun _ => ?_)
                                                  refine WP.path tab_ok mixed [] [.keep [49, 14, 9, 6, 5, 4, 3, 2], .keepO [], .names []] (ps := []) (e := (.exit 4)) (σ' := ⟨[], [(49, vl r313), (14, vl r112b), (9, vl r87), (6, vb (isQ r61 r61b)), (5, vi (oqV r61 r61b)), (4, vi r61b), (3, vi r61), (2, vb false)], []⟩) (by kernel_rfl) trivial ?_
                                                  exact ⟨(), h, rfl⟩
                                            · -- from there
                                              intro _ h0
                                              have h := (show J2 () = some y0 from h0)
                                              rw [hJ2] at h
                                              refine WP.seq ?_
                                              refine WP.path tab_ok mixed [] [.keep [52, 49, 14, 9, 6, 5, 4, 3, 2], .keepO []] (ps := []) (e := .normal) (σ' := ⟨[], [(52, vi 0), (49, vl r313), (14, vl r112b), (9, vl r87), (6, vb (isQ r61 r61b)), (5, vi (oqV r61 r61b)), (4, vi r61b), (3, vi r61), (2, vb false)], []⟩) (by kernel_rfl) trivial ?_
                                              refine WP.block ?_
                                              refine WP.wk [.keep [52, 49, 14, 9, 6, 5, 4, 3, 2], .keepO [], .names []] (σ' := ⟨[], [(52, vi 0), (49, vl r313), (14, vl r112b), (9, vl r87), (6, vb (isQ r61 r61b)), (5, vi (oqV r61 r61b)), (4, vi r61b), (3, vi r61), (2, vb false)], []⟩) (ps := []) (by kernel_rfl) trivial ?_
                                              refine WP.st (σ' := ⟨[], [(52, vi (0 : Int)), (49, vl r313), (14, vl r112b), (9, vl r87), (6, vb (isQ r61 r61b)), (5, vi (oqV r61 r61b)), (4, vi r61b), (3, vi r61), (2, vb false)], []⟩) (by first | rfl | (simp only [tlS, tl, vl, vo, oc, ov, tbl, vbl, ty, vy]; done) | (simp only [tlS, tl, vl, vo, oc, ov, tbl, vbl, ty, vy]; rfl) | (simp; done) | (simp []; done) | (rw [List.take_of_length_le (by simp [])]; done) | (rw [List.take_of_length_le (by simp [])]; rfl) | (simp only [tlL]; omega) | (simp; omega)) ?_
                                              refine WP.loop (α := Nat × Int) (fun zz => ⟨[], [(52, vi zz.2), (49, vl r313), (14, vl r112b), (9, vl r87), (6, vb (isQ r61 r61b)), (5, vi (oqV r61 r61b)), (4, vi r61b), (3, vi r61), (2, vb false)], []⟩) (fun zz => F_laws_FnQuestions_L4 r112b J1 r313 zz.1 zz.2 = some y0) (fun zz => zz.1) (fuel, (0 : Int)) h ?_
                                              rintro ⟨n, v52⟩ h0
                                              have h := (show F_laws_FnQuestions_L4 r112b J1 r313 n v52 = some y0 from h0)
                                              rcases n with _ | n
                                              · rw [F_laws_FnQuestions_L4] at h; cases h
                                              · rw [F_laws_FnQuestions_L4] at h
                                                refine WP.seq ?_
                                                refine WP.seq ?_
                                                refine WP.path tab_ok mixed [] [.keep [334, 52, 49, 14, 9, 6, 5, 4, 3, 2], .keepO []] (ps := [(True)]) (e := .normal) (σ' := ⟨[], [(334, vb (decide (v52 < ((List.length r313 : Nat) : Int)))), (52, vi v52), (49, vl r313), (14, vl r112b), (9, vl r87), (6, vb (isQ r61 r61b)), (5, vi (oqV r61 r61b)), (4, vi r61b), (3, vi r61), (2, vb false)], []⟩) (by kernel_rfl) ⟨trivial, trivial⟩ ?_
                                                rcases ite_some h with ⟨h36, h⟩ | ⟨h36, h⟩
                                                · -- yes
                                                  refine WP.cond (b := decide (v52 < ((List.length r313 : Nat) : Int))) rfl (fun _ => ?_) (fun hh => by rw [h36] at hh; cases hh)
                                                  refine WP.path tab_ok mixed [] [.keep [52, 49, 14, 9, 6, 5, 4, 3, 2], .keepO []] (ps := []) (e := .normal) (σ' := ⟨[], [(52, vi v52), (49, vl r313), (14, vl r112b), (9, vl r87), (6, vb (isQ r61 r61b)), (5, vi (oqV r61 r61b)), (4, vi r61b), (3, vi r61), (2, vb false)], []⟩) (by kernel_rfl) trivial ?_
                                                  refine WP.seq ?_
                                                  refine WP.block ?_
                                                  refine WP.seq ?_
                                                  obtain ⟨c20, h⟩ := chk_some h
                                                  obtain ⟨r342, c21, h⟩ := bnd1_some h
                                                  refine WP.path tab_ok mixed [(341, An.v (ti (List.getD r313 (Int.toNat v52) 0))), (342, An.call (tb r342))] [.keep [343, 52, 49, 14, 9, 6, 5, 4, 3, 2], .keepO []] (ps := [((0 ≤ v52 ∧ v52 < ((List.length r313 : Nat) : Int))), ((List.drop ((Int.toNat v52) * 1) (List.map (T.int .i64) r313) : List T)[0]? = some (ti (List.getD r313 (Int.toNat v52) 0))), (ti (List.getD r313 (Int.toNat v52) 0) = ti (List.getD r313 (Int.toNat v52) 0)), (C Try.prog 108 [tl r112b, ti (List.getD r313 (Int.toNat v52) 0)] (tb r342))]) (e := .normal) (σ' := ⟨[], [(343, vb !r342), (52, vi v52), (49, vl r313), (14, vl r112b), (9, vl r87), (6, vb (isQ r61 r61b)), (5, vi (oqV r61 r61b)), (4, vi r61b), (3, vi r61), (2, vb false)], []⟩) (by kernel_rfl) ⟨c20, at1 (by simp) (by omega), rfl, (F_laws_rHas_W r112b (List.getD r313 (Int.toNat v52) 0) r342 c21), trivial⟩ ?_
                                                  rcases ite_some h with ⟨h37, h⟩ | ⟨h37, h⟩
                                                  · -- yes
                                                    refine WP.cond (b := !r342) rfl (fun _ => ?_) (fun hh => by rw [h37] at hh; cases hh)
                                                    have h := Option.some.inj h
                                                    subst h
                                                    exact WP.pathW tab_ok mixed [] _ (ps := []) (r := tb false) (by kernel_rfl) trivial (WkT.eq (y := tb false) (WkT.refl _) rfl) (fun _ h => h)
                                                  · -- no
                                                    refine WP.cond (b := !r342) rfl (fun hh => by rw [h37] at hh; cases hh) (fun _ => ?_)
                                                    refine WP.path tab_ok mixed [] [.keep [52, 49, 14, 9, 6, 5, 4, 3, 2], .keepO []] (ps := []) (e := .normal) (σ' := ⟨[], [(52, vi v52), (49, vl r313), (14, vl r112b), (9, vl r87), (6, vb (isQ r61 r61b)), (5, vi (oqV r61 r61b)), (4, vi r61b), (3, vi r61), (2, vb false)], []⟩) (by kernel_rfl) trivial ?_
                                                    obtain ⟨c22, h⟩ := chk_some h
                                                    refine WP.path tab_ok mixed [(336, An.v (T.int .i64 (v52 + (1 : Int))))] [.keep [52, 49, 14, 9, 6, 5, 4, 3, 2], .keepO [], .names []] (ps := [(True), (T.int .i64 (IntKind.wrap .i64 (v52 + (1 : Int))) = T.int .i64 (v52 + (1 : Int)))]) (e := .normal) (σ' := ⟨[], [(52, vi (v52 + (1 : Int))), (49, vl r313), (14, vl r112b), (9, vl r87), (6, vb (isQ r61 r61b)), (5, vi (oqV r61 r61b)), (4, vi r61b), (3, vi r61), (2, vb false)], []⟩) (by kernel_rfl) ⟨trivial, wrapI c22, trivial⟩ ?_
                                                    exact ⟨(n, (v52 + (1 : Int))), h, Nat.lt_succ_self _, rfl⟩
                                                · -- no
                                                  refine WP.cond (b := decide (v52 < ((List.length r313 : Nat) : Int))) rfl (fun hh => by rw [h36] at hh; cases hh) (fun _ => ?_)
                                                  refine WP.path tab_ok mixed [] [.keep [9, 6, 5, 4, 3, 2], .keepO [], .names []] (ps := []) (e := (.exit 6)) (σ' := ⟨[], [(9, vl r87), (6, vb (isQ r61 r61b)), (5, vi (oqV r61 r61b)), (4, vi r61b), (3, vi r61), (2, vb false)], []⟩) (by kernel_rfl) trivial ?_
                                                  exact ⟨(), h, rfl⟩
                                        · -- no
                                          refine WP.cond (b := r118b) rfl (fun hh => by rw [h32] at hh; cases hh) (fun _ => ?_)
                                          refine WP.path tab_ok mixed [] [.keep [9, 6, 5, 4, 3, 2], .keepO [], .names []] (ps := []) (e := .normal) (σ' := ⟨[], [(9, vl r87), (6, vb (isQ r61 r61b)), (5, vi (oqV r61 r61b)), (4, vi r61b), (3, vi r61), (2, vb false)], []⟩) (by kernel_rfl) trivial ?_
                                          exact ⟨(), h, rfl⟩
                                      · -- from there
                                        intro _ h0
                                        have h := (show J1 () = some y0 from h0)
                                        rw [hJ1] at h
                                        refine WP.seq ?_
                                        refine WP.seq ?_
                                        refine WP.path tab_ok mixed [] [.keep [345, 9, 5, 4, 3, 2], .keepO []] (ps := []) (e := .normal) (σ' := ⟨[], [(345, vb (!(isQ r61 r61b))), (9, vl r87), (5, vi (oqV r61 r61b)), (4, vi r61b), (3, vi r61), (2, vb false)], []⟩) (by kernel_rfl) trivial ?_
                                        rcases ite_some h with ⟨h38, h⟩ | ⟨h38, h⟩
                                        · -- yes
                                          refine WP.cond (b := !(isQ r61 r61b)) rfl (fun _ => ?_) (fun hh => by rw [h38] at hh; cases hh)
                                          have h := Option.some.inj h
                                          subst h
                                          exact WP.pathW tab_ok mixed [] _ (ps := []) (r := tb true) (by kernel_rfl) trivial (WkT.eq (y := tb true) (WkT.refl _) rfl) (fun _ h => h)
                                        · -- no
                                          refine WP.cond (b := !(isQ r61 r61b)) rfl (fun hh => by rw [h38] at hh; cases hh) (fun _ => ?_)
                                          refine WP.path tab_ok mixed [] [.keep [9, 5, 4, 3, 2], .keepO []] (ps := []) (e := .normal) (σ' := ⟨[], [(9, vl r87), (5, vi (oqV r61 r61b)), (4, vi r61b), (3, vi r61), (2, vb false)], []⟩) (by kernel_rfl) trivial ?_
                                          obtain ⟨r349, r349b, c19, h⟩ := bnd2_some h
                                          rcases ite_some h with ⟨h39, h⟩ | ⟨h39, h⟩
                                          · -- yes
                                            rcases ite_some h with ⟨h40, h⟩ | ⟨h40, h⟩
                                            · -- yes
                                              rcases ite_some h with ⟨h41, h⟩ | ⟨h41, h⟩
                                              · -- yes
                                                rcases ite_some h with ⟨h42, h⟩ | ⟨h42, h⟩
                                                · -- yes
                                                  have h := Option.some.inj h
                                                  subst h
                                                  exact WP.pathW tab_ok mixed [(349, An.call (T.tup [ti r349, tb r349b])), (351, An.b true), (355, An.call (T.tup [ti (oqV r61 (oqV r61 r61b)), tb (isQ r61 (oqV r61 r61b))])), (357, An.b true), (365, An.b true), (370, An.b true)] _ (ps := [(C Try.prog 95 [ti r61, tl r87] (T.tup [ti r349, tb r349b])), ((r349b) = true), (C Try.prog 89 [ti r61, ti (oqV r61 r61b)] (T.tup [ti (oqV r61 (oqV r61 r61b)), tb (isQ r61 (oqV r61 r61b))])), ((isQ r61 (oqV r61 r61b)) = true), (True), ((r349 == r61b) = true), (True), (((oqV r61 (oqV r61 r61b)) == r61b) = true), (True), (True)]) (r := tb ((bits .and .i64 r61b (oqV r61 r61b)) == (0 : Int))) (by kernel_rfl) ⟨(F_impl_QuestionOf_W r61 r87 r349 r349b c19), h39, (iOtherQuestion_C r61 (oqV r61 r61b)), h40, trivial, h41, trivial, h42, trivial, trivial, trivial⟩ (WkT.eq (y := tb ((bits .and .i64 r61b (oqV r61 r61b)) == (0 : Int))) (WkT.refl _) rfl) (fun _ h => h)
                                                · -- no
                                                  have h := Option.some.inj h
                                                  subst h
                                                  exact WP.pathW tab_ok mixed [(349, An.call (T.tup [ti r349, tb r349b])), (351, An.b true), (355, An.call (T.tup [ti (oqV r61 (oqV r61 r61b)), tb (isQ r61 (oqV r61 r61b))])), (357, An.b true), (365, An.b true), (370, An.b false)] _ (ps := [(C Try.prog 95 [ti r61, tl r87] (T.tup [ti r349, tb r349b])), ((r349b) = true), (C Try.prog 89 [ti r61, ti (oqV r61 r61b)] (T.tup [ti (oqV r61 (oqV r61 r61b)), tb (isQ r61 (oqV r61 r61b))])), ((isQ r61 (oqV r61 r61b)) = true), (True), ((r349 == r61b) = true), (True), (((oqV r61 (oqV r61 r61b)) == r61b) = false)]) (r := tb false) (by kernel_rfl) ⟨(F_impl_QuestionOf_W r61 r87 r349 r349b c19), h39, (iOtherQuestion_C r61 (oqV r61 r61b)), h40, trivial, h41, trivial, h42, trivial⟩ (WkT.eq (y := tb false) (WkT.refl _) rfl) (fun _ h => h)
                                              · -- no
                                                have h := Option.some.inj h
                                                subst h
                                                exact WP.pathW tab_ok mixed [(349, An.call (T.tup [ti r349, tb r349b])), (351, An.b true), (355, An.call (T.tup [ti (oqV r61 (oqV r61 r61b)), tb (isQ r61 (oqV r61 r61b))])), (357, An.b true), (365, An.b false)] _ (ps := [(C Try.prog 95 [ti r61, tl r87] (T.tup [ti r349, tb r349b])), ((r349b) = true), (C Try.prog 89 [ti r61, ti (oqV r61 r61b)] (T.tup [ti (oqV r61 (oqV r61 r61b)), tb (isQ r61 (oqV r61 r61b))])), ((isQ r61 (oqV r61 r61b)) = true), (True), ((r349 == r61b) = false)]) (r := tb false) (by kernel_rfl) ⟨(F_impl_QuestionOf_W r61 r87 r349 r349b c19), h39, (iOtherQuestion_C r61 (oqV r61 r61b)), h40, trivial, h41, trivial⟩ (WkT.eq (y := tb false) (WkT.refl _) rfl) (fun _ h => h)
                                            · -- no
                                              have h := Option.some.inj h
                                              subst h
                                              exact WP.pathW tab_ok mixed [(349, An.call (T.tup [ti r349, tb r349b])), (351, An.b true), (355, An.call (T.tup [ti (oqV r61 (oqV r61 r61b)), tb (isQ r61 (oqV r61 r61b))])), (357, An.b false)] _ (ps := [(C Try.prog 95 [ti r61, tl r87] (T.tup [ti r349, tb r349b])), ((r349b) = true), (C Try.prog 89 [ti r61, ti (oqV r61 r61b)] (T.tup [ti (oqV r61 (oqV r61 r61b)), tb (isQ r61 (oqV r61 r61b))])), ((isQ r61 (oqV r61 r61b)) = false)]) (r := tb false) (by kernel_rfl) ⟨(F_impl_QuestionOf_W r61 r87 r349 r349b c19), h39, (iOtherQuestion_C r61 (oqV r61 r61b)), h40, trivial⟩ (WkT.eq (y := tb false) (WkT.refl _) rfl) (fun _ h => h)
                                          · -- no
                                            have h := Option.some.inj h
                                            subst h
                                            exact WP.pathW tab_ok mixed [(349, An.call (T.tup [ti r349, tb r349b])), (351, An.b false), (355, An.call (T.tup [ti (oqV r61 (oqV r61 r61b)), tb (isQ r61 (oqV r61 r61b))]))] _ (ps := [(C Try.prog 95 [ti r61, tl r87] (T.tup [ti r349, tb r349b])), ((r349b) = false), (C Try.prog 89 [ti r61, ti (oqV r61 r61b)] (T.tup [ti (oqV r61 (oqV r61 r61b)), tb (isQ r61 (oqV r61 r61b))]))]) (r := tb false) (by kernel_rfl) ⟨(F_impl_QuestionOf_W r61 r87 r349 r349b c19), h39, (iOtherQuestion_C r61 (oqV r61 r61b)), trivial⟩ (WkT.eq (y := tb false) (WkT.refl _) rfl) (fun _ h => h)

end Go.Proofs.Ytofiecpgfjofdaa.AuQ
