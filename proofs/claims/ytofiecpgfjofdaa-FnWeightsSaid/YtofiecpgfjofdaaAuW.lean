/-
  The walks: each function of the program returns what the plain function beside it returns. No statement is proved here.
-/
import Derived.Test.YtofiecpgfjofdaaTlV
import Derived.Test.YtofiecpgfjofdaaTlCI
import Derived.Test.YtofiecpgfjofdaaAuWF
import Derived.Test.YtofiecpgfjofdaaProg
import Derived.Test.YtofiecpgfjofdaaAuWO
import Derived.Test.YtofiecpgfjofdaaAuWa
namespace Go.Proofs.Ytofiecpgfjofdaa.AuW
open Go Go.Tl Go.Proofs
open Go.Proofs.Ytofiecpgfjofdaa.AuWO hiding tab tab_ok mixed
open Go.Proofs.Ytofiecpgfjofdaa.AuWa hiding tab tab_ok mixed
set_option linter.unusedVariables false
set_option linter.unusedSimpArgs false
set_option maxRecDepth 100000
def tab : Tab := [(3, ⟨.int .i64, 1, 8, [.int .i64 0]⟩), (4, ⟨.bool, 1, 1, [.bool false]⟩), (5, ⟨.int .u8, 1, 1, [.int .u8 0]⟩), (26, ⟨.slice 3 1 8, 1, 24, [.nils]⟩), (28, ⟨.struct [(0, 1, false), (1, 1, false)], 2, 32, [.nils, .int .i64 0]⟩), (40, ⟨.slice 5 1 1, 1, 24, [.nils]⟩), (148, ⟨.pointer 151, 1, 8, [.nilp]⟩), (149, ⟨.int .u64, 1, 8, [.int .u64 0]⟩), (151, ⟨.struct [(0, 1, false), (1, 1, false), (2, 1, false)], 3, 40, [.nils, .int .i64 0, .int .u64 0]⟩)]
theorem tab_ok : chkTab Try.prog tab = true := by kernel_rfl
theorem mixed : Try.prog.follows .mixedOrders = true := by kernel_rfl
theorem F_laws_FnWeights_W (x0 : List Int) (y0 : Bool) (h : F_laws_FnWeights x0 = some y0) : C Try.prog 5 [ty x0] (tb y0) := by
  unfold F_laws_FnWeights at h
  refine C.intro (tab := tab) tab_ok (fn := Try.f5) Try.func5 (by kernel_rfl) rfl (Nat.le_of_ble_eq_true rfl) ?_
  refine WP.seq ?_
  refine WP.path tab_ok mixed [] [.keep [2, 0], .keepO []] (ps := []) (e := .normal) (σ' := ⟨[], [(2, vb false), (0, vy x0)], []⟩) (by kernel_rfl) trivial ?_
  refine WP.seq ?_
  refine WP.seq ?_
  obtain ⟨c0, h⟩ := chk_some h
  refine WP.path tab_ok mixed [(58, An.call (tb (decide (((List.length x0 : Nat) : Int) > (65536 : Int)))))] [.keep [58, 2, 0], .keepO []] (ps := [(C Try.prog 20 [ty x0] (tb (decide (((List.length x0 : Nat) : Int) > (65536 : Int)))))]) (e := .normal) (σ' := ⟨[], [(58, vb (decide (((List.length x0 : Nat) : Int) > (65536 : Int)))), (2, vb false), (0, vy x0)], []⟩) (by kernel_rfl) ⟨(vBig_C x0 c0), trivial⟩ ?_
  rcases ite_some h with ⟨h1, h⟩ | ⟨h1, h⟩
  · -- yes
    refine WP.cond (b := decide (((List.length x0 : Nat) : Int) > (65536 : Int))) rfl (fun _ => ?_) (fun hh => by rw [h1] at hh; cases hh)
    have h := Option.some.inj h
    subst h
    exact WP.pathW tab_ok mixed [] _ (ps := []) (r := tb true) (by kernel_rfl) trivial (WkT.eq (y := tb true) (WkT.refl _) rfl) (fun _ h => h)
  · -- no
    refine WP.cond (b := decide (((List.length x0 : Nat) : Int) > (65536 : Int))) rfl (fun hh => by rw [h1] at hh; cases hh) (fun _ => ?_)
    refine WP.path tab_ok mixed [] [.keep [2, 0], .keepO []] (ps := []) (e := .normal) (σ' := ⟨[], [(2, vb false), (0, vy x0)], []⟩) (by kernel_rfl) trivial ?_
    refine WP.seq ?_
    obtain ⟨r61, r61b, r61c, r61d, c1, h⟩ := bnd4_some h
    refine WP.path tab_ok mixed [(61, An.call (T.tup [T.agg [tl r61, ti r61b], ti r61c, ti r61d])), (3, An.id 2003)] [.keep [5, 4, 3, 2, 0], .keepO [2003]] (ps := [(C Try.prog 48 [ty x0] (T.tup [T.agg [tl r61, ti r61b], ti r61c, ti r61d])), ((0 + 2 ≤ 2 ∧ 2 = 2))]) (e := .normal) (σ' := ⟨[2003], [(5, vi r61d), (4, vi r61c), (3, V.ref 2003 0), (2, vb false), (0, vy x0)], [(2003, oc 28 [tl r61, ti r61b])]⟩) (by kernel_rfl) ⟨(F_spec_DrawNumberWeight_W_C x0 r61 r61b r61c r61d c1), by decide, trivial⟩ ?_
    refine WP.seq ?_
    obtain ⟨r69, r69b, c2, h⟩ := bnd2_some h
    refine WP.path tab_ok mixed [(69, An.call (T.tup [ti r69, tb r69b]))] [.keep [7, 6, 5, 4, 3, 2, 0], .keepO [2003]] (ps := [(0 + 2 ≤ 2), (C Try.prog 49 [T.agg [tl r61, ti r61b], ti r61c, ti r61d] (T.tup [ti r69, tb r69b]))]) (e := .normal) (σ' := ⟨[2003], [(7, vb r69b), (6, vi r69), (5, vi r61d), (4, vi r61c), (3, V.ref 2003 0), (2, vb false), (0, vy x0)], [(2003, oc 28 [tl r61, ti r61b])]⟩) (by kernel_rfl) ⟨by decide, (F_impl_NumberWeight_W r61 r61b r61c r61d r69 r69b c2), trivial⟩ ?_
    refine WP.seq ?_
    obtain ⟨r76, r76b, c3, h⟩ := bnd2_some h
    refine WP.path tab_ok mixed [(76, An.call (T.tup [ti r76, tb r76b]))] [.keep [9, 8, 7, 6, 5, 3, 2, 0], .keepO [2003]] (ps := [(0 + 2 ≤ 2), (C Try.prog 50 [T.agg [tl r61, ti r61b], ti r61c, ti r61d] (T.tup [ti r76, tb r76b]))]) (e := .normal) (σ' := ⟨[2003], [(9, vb r76b), (8, vi r76), (7, vb r69b), (6, vi r69), (5, vi r61d), (3, V.ref 2003 0), (2, vb false), (0, vy x0)], [(2003, oc 28 [tl r61, ti r61b])]⟩) (by kernel_rfl) ⟨by decide, (F_spec_NumberWeight_W r61 r61b r61c r61d r76 r76b c3), trivial⟩ ?_
    refine WP.seq ?_
    obtain ⟨r82, r82b, c4, h⟩ := bnd2_some h
    refine WP.path tab_ok mixed [(82, An.call (T.tup [ti r82, tb r82b]))] [.keep [11, 10, 9, 8, 7, 6, 5, 3, 2, 0], .keepO [2003]] (ps := [(0 + 2 ≤ 2), (C Try.prog 51 [T.agg [tl r61, ti r61b], ti r61d] (T.tup [ti r82, tb r82b]))]) (e := .normal) (σ' := ⟨[2003], [(11, vb r82b), (10, vi r82), (9, vb r76b), (8, vi r76), (7, vb r69b), (6, vi r69), (5, vi r61d), (3, V.ref 2003 0), (2, vb false), (0, vy x0)], [(2003, oc 28 [tl r61, ti r61b])]⟩) (by kernel_rfl) ⟨by decide, (F_impl_StateWeight_W r61 r61b r61d r82 r82b c4), trivial⟩ ?_
    refine WP.seq ?_
    obtain ⟨r88, r88b, c5, h⟩ := bnd2_some h
    refine WP.path tab_ok mixed [(88, An.call (T.tup [ti r88, tb r88b]))] [.keep [13, 12, 11, 10, 9, 8, 7, 6, 5, 3, 2, 0], .keepO [2003]] (ps := [(0 + 2 ≤ 2), (C Try.prog 52 [T.agg [tl r61, ti r61b], ti r61d] (T.tup [ti r88, tb r88b]))]) (e := .normal) (σ' := ⟨[2003], [(13, vb r88b), (12, vi r88), (11, vb r82b), (10, vi r82), (9, vb r76b), (8, vi r76), (7, vb r69b), (6, vi r69), (5, vi r61d), (3, V.ref 2003 0), (2, vb false), (0, vy x0)], [(2003, oc 28 [tl r61, ti r61b])]⟩) (by kernel_rfl) ⟨by decide, (F_spec_StateWeight_W r61 r61b r61d r88 r88b c5), trivial⟩ ?_
    refine WP.seq ?_
    obtain ⟨r94, r94b, c6, h⟩ := bnd2_some h
    refine WP.path tab_ok mixed [(94, An.call (T.tup [ti r94, tb r94b]))] [.keep [15, 14, 13, 12, 11, 10, 9, 8, 7, 6, 5, 3, 2, 0], .keepO [2003]] (ps := [(0 + 2 ≤ 2), (C Try.prog 53 [T.agg [tl r61, ti r61b], ti r61d] (T.tup [ti r94, tb r94b]))]) (e := .normal) (σ' := ⟨[2003], [(15, vb r94b), (14, vi r94), (13, vb r88b), (12, vi r88), (11, vb r82b), (10, vi r82), (9, vb r76b), (8, vi r76), (7, vb r69b), (6, vi r69), (5, vi r61d), (3, V.ref 2003 0), (2, vb false), (0, vy x0)], [(2003, oc 28 [tl r61, ti r61b])]⟩) (by kernel_rfl) ⟨by decide, (F_impl_RoomOf_W r61 r61b r61d r94 r94b c6), trivial⟩ ?_
    refine WP.seq ?_
    obtain ⟨r100, r100b, c7, h⟩ := bnd2_some h
    refine WP.path tab_ok mixed [(100, An.call (T.tup [ti r100, tb r100b]))] [.keep [17, 16, 15, 14, 13, 12, 11, 10, 9, 8, 7, 6, 5, 3, 2, 0], .keepO [2003]] (ps := [(0 + 2 ≤ 2), (C Try.prog 54 [T.agg [tl r61, ti r61b], ti r61d] (T.tup [ti r100, tb r100b]))]) (e := .normal) (σ' := ⟨[2003], [(17, vb r100b), (16, vi r100), (15, vb r94b), (14, vi r94), (13, vb r88b), (12, vi r88), (11, vb r82b), (10, vi r82), (9, vb r76b), (8, vi r76), (7, vb r69b), (6, vi r69), (5, vi r61d), (3, V.ref 2003 0), (2, vb false), (0, vy x0)], [(2003, oc 28 [tl r61, ti r61b])]⟩) (by kernel_rfl) ⟨by decide, (F_spec_RoomOf_W r61 r61b r61d r100 r100b c7), trivial⟩ ?_
    refine WP.seq ?_
    obtain ⟨r105, r105b, c8, h⟩ := bnd2_some h
    refine WP.path tab_ok mixed [(105, An.call (T.tup [ti r105, tb r105b]))] [.keep [19, 18, 17, 16, 15, 14, 13, 12, 11, 10, 9, 8, 7, 6, 5, 3, 2, 0], .keepO [2003]] (ps := [(0 + 2 ≤ 2), (C Try.prog 55 [T.agg [tl r61, ti r61b]] (T.tup [ti r105, tb r105b]))]) (e := .normal) (σ' := ⟨[2003], [(19, vb r105b), (18, vi r105), (17, vb r100b), (16, vi r100), (15, vb r94b), (14, vi r94), (13, vb r88b), (12, vi r88), (11, vb r82b), (10, vi r82), (9, vb r76b), (8, vi r76), (7, vb r69b), (6, vi r69), (5, vi r61d), (3, V.ref 2003 0), (2, vb false), (0, vy x0)], [(2003, oc 28 [tl r61, ti r61b])]⟩) (by kernel_rfl) ⟨by decide, (F_impl_BoundOf_W r61 r61b r105 r105b c8), trivial⟩ ?_
    refine WP.seq ?_
    obtain ⟨r110, r110b, c9, h⟩ := bnd2_some h
    refine WP.path tab_ok mixed [(110, An.call (T.tup [ti r110, tb r110b]))] [.keep [21, 20, 19, 18, 17, 16, 15, 14, 13, 12, 11, 10, 9, 8, 7, 6, 5, 3, 2, 0], .keepO [2003]] (ps := [(0 + 2 ≤ 2), (C Try.prog 56 [T.agg [tl r61, ti r61b]] (T.tup [ti r110, tb r110b]))]) (e := .normal) (σ' := ⟨[2003], [(21, vb r110b), (20, vi r110), (19, vb r105b), (18, vi r105), (17, vb r100b), (16, vi r100), (15, vb r94b), (14, vi r94), (13, vb r88b), (12, vi r88), (11, vb r82b), (10, vi r82), (9, vb r76b), (8, vi r76), (7, vb r69b), (6, vi r69), (5, vi r61d), (3, V.ref 2003 0), (2, vb false), (0, vy x0)], [(2003, oc 28 [tl r61, ti r61b])]⟩) (by kernel_rfl) ⟨by decide, (F_spec_BoundOf_W r61 r61b r110 r110b c9), trivial⟩ ?_
    refine WP.seq ?_
    obtain ⟨c10, h⟩ := chk_some h
    obtain ⟨r116, r116b, c11, h⟩ := bnd2_some h
    refine WP.path tab_ok mixed [(115, An.call (ty (cutY x0 (1 : Int)))), (116, An.call (T.tup [ti r116, ti r116b]))] [.keep [23, 22, 21, 20, 19, 18, 17, 16, 15, 14, 13, 12, 11, 10, 9, 8, 7, 6, 5, 3, 2, 0], .keepO [2003]] (ps := [(C Try.prog 27 [ty x0, ti 1] (ty (cutY x0 (1 : Int)))), (C Try.prog 57 [ty (cutY x0 (1 : Int))] (T.tup [ti r116, ti r116b]))]) (e := .normal) (σ' := ⟨[2003], [(23, vi r116b), (22, vi r116), (21, vb r110b), (20, vi r110), (19, vb r105b), (18, vi r105), (17, vb r100b), (16, vi r100), (15, vb r94b), (14, vi r94), (13, vb r88b), (12, vi r88), (11, vb r82b), (10, vi r82), (9, vb r76b), (8, vi r76), (7, vb r69b), (6, vi r69), (5, vi r61d), (3, V.ref 2003 0), (2, vb false), (0, vy x0)], [(2003, oc 28 [tl r61, ti r61b])]⟩) (by kernel_rfl) ⟨(by have hh := (vCut_C x0 (1 : Int) (show 0 ≤ (1 : Int) by first | decide | (simp only [maxLen]; omega) | (unfold I64; omega) | (unfold I64; decide)) (show (1 : Int) ≤ 255 by first | decide | (simp only [maxLen]; omega) | (unfold I64; omega) | (unfold I64; decide)) c10); simpa using hh), (F_spec_DrawWaysOf_W (cutY x0 (1 : Int)) r116 r116b c11), trivial⟩ ?_
    refine WP.seq ?_
    obtain ⟨r122, r122b, c12, h⟩ := bnd2_some h
    refine WP.path tab_ok mixed [(122, An.call (T.tup [ti r122, tb r122b]))] [.keep [25, 24, 23, 22, 21, 20, 19, 18, 17, 16, 15, 14, 13, 12, 11, 10, 9, 8, 7, 6, 5, 3, 2, 0], .keepO [2003]] (ps := [(C Try.prog 58 [ti r116, ti r116b] (T.tup [ti r122, tb r122b]))]) (e := .normal) (σ' := ⟨[2003], [(25, vb r122b), (24, vi r122), (23, vi r116b), (22, vi r116), (21, vb r110b), (20, vi r110), (19, vb r105b), (18, vi r105), (17, vb r100b), (16, vi r100), (15, vb r94b), (14, vi r94), (13, vb r88b), (12, vi r88), (11, vb r82b), (10, vi r82), (9, vb r76b), (8, vi r76), (7, vb r69b), (6, vi r69), (5, vi r61d), (3, V.ref 2003 0), (2, vb false), (0, vy x0)], [(2003, oc 28 [tl r61, ti r61b])]⟩) (by kernel_rfl) ⟨(F_impl_WaysOf_W r116 r116b r122 r122b c12), trivial⟩ ?_
    refine WP.seq ?_
    obtain ⟨r128, r128b, c13, h⟩ := bnd2_some h
    refine WP.path tab_ok mixed [(128, An.call (T.tup [ti r128, tb r128b]))] [.keep [27, 26, 25, 24, 23, 22, 21, 20, 19, 18, 17, 16, 15, 14, 13, 12, 11, 10, 9, 8, 7, 6, 5, 3, 2, 0], .keepO [2003]] (ps := [(C Try.prog 59 [ti r116, ti r116b] (T.tup [ti r128, tb r128b]))]) (e := .normal) (σ' := ⟨[2003], [(27, vb r128b), (26, vi r128), (25, vb r122b), (24, vi r122), (23, vi r116b), (22, vi r116), (21, vb r110b), (20, vi r110), (19, vb r105b), (18, vi r105), (17, vb r100b), (16, vi r100), (15, vb r94b), (14, vi r94), (13, vb r88b), (12, vi r88), (11, vb r82b), (10, vi r82), (9, vb r76b), (8, vi r76), (7, vb r69b), (6, vi r69), (5, vi r61d), (3, V.ref 2003 0), (2, vb false), (0, vy x0)], [(2003, oc 28 [tl r61, ti r61b])]⟩) (by kernel_rfl) ⟨(F_spec_WaysOf_W r116 r116b r128 r128b c13), trivial⟩ ?_
    refine WP.seq ?_
    obtain ⟨r134, r134b, c14, h⟩ := bnd2_some h
    refine WP.path tab_ok mixed [(134, An.call (T.tup [ti r134, tb r134b]))] [.keep [29, 28, 27, 26, 25, 24, 23, 22, 21, 20, 19, 18, 17, 16, 15, 14, 13, 12, 11, 10, 9, 8, 7, 6, 5, 3, 2, 0], .keepO [2003]] (ps := [(C Try.prog 60 [ti r116, ti r116b] (T.tup [ti r134, tb r134b]))]) (e := .normal) (σ' := ⟨[2003], [(29, vb r134b), (28, vi r134), (27, vb r128b), (26, vi r128), (25, vb r122b), (24, vi r122), (23, vi r116b), (22, vi r116), (21, vb r110b), (20, vi r110), (19, vb r105b), (18, vi r105), (17, vb r100b), (16, vi r100), (15, vb r94b), (14, vi r94), (13, vb r88b), (12, vi r88), (11, vb r82b), (10, vi r82), (9, vb r76b), (8, vi r76), (7, vb r69b), (6, vi r69), (5, vi r61d), (3, V.ref 2003 0), (2, vb false), (0, vy x0)], [(2003, oc 28 [tl r61, ti r61b])]⟩) (by kernel_rfl) ⟨(F_impl_BallOf_W r116 r116b r134 r134b c14), trivial⟩ ?_
    refine WP.seq ?_
    obtain ⟨r140, r140b, c15, h⟩ := bnd2_some h
    refine WP.path tab_ok mixed [(140, An.call (T.tup [ti r140, tb r140b]))] [.keep [31, 30, 29, 28, 27, 26, 25, 24, 23, 22, 21, 20, 19, 18, 17, 16, 15, 14, 13, 12, 11, 10, 9, 8, 7, 6, 5, 3, 2, 0], .keepO [2003]] (ps := [(C Try.prog 61 [ti r116, ti r116b] (T.tup [ti r140, tb r140b]))]) (e := .normal) (σ' := ⟨[2003], [(31, vb r140b), (30, vi r140), (29, vb r134b), (28, vi r134), (27, vb r128b), (26, vi r128), (25, vb r122b), (24, vi r122), (23, vi r116b), (22, vi r116), (21, vb r110b), (20, vi r110), (19, vb r105b), (18, vi r105), (17, vb r100b), (16, vi r100), (15, vb r94b), (14, vi r94), (13, vb r88b), (12, vi r88), (11, vb r82b), (10, vi r82), (9, vb r76b), (8, vi r76), (7, vb r69b), (6, vi r69), (5, vi r61d), (3, V.ref 2003 0), (2, vb false), (0, vy x0)], [(2003, oc 28 [tl r61, ti r61b])]⟩) (by kernel_rfl) ⟨(F_spec_BallOf_W r116 r116b r140 r140b c15), trivial⟩ ?_
    refine WP.seq ?_
    obtain ⟨r146, r146b, c16, h⟩ := bnd2_some h
    refine WP.path tab_ok mixed [(145, An.call (ty (cutY x0 (2 : Int)))), (146, An.call (T.tup [ti r146, ti r146b]))] [.keep [33, 32, 31, 30, 29, 28, 27, 26, 25, 24, 23, 22, 21, 20, 19, 18, 17, 16, 15, 14, 13, 12, 11, 10, 9, 8, 7, 6, 5, 3, 2, 0], .keepO [2003]] (ps := [(C Try.prog 27 [ty x0, ti 2] (ty (cutY x0 (2 : Int)))), (C Try.prog 62 [ty (cutY x0 (2 : Int))] (T.tup [ti r146, ti r146b]))]) (e := .normal) (σ' := ⟨[2003], [(33, vi r146b), (32, vi r146), (31, vb r140b), (30, vi r140), (29, vb r134b), (28, vi r134), (27, vb r128b), (26, vi r128), (25, vb r122b), (24, vi r122), (23, vi r116b), (22, vi r116), (21, vb r110b), (20, vi r110), (19, vb r105b), (18, vi r105), (17, vb r100b), (16, vi r100), (15, vb r94b), (14, vi r94), (13, vb r88b), (12, vi r88), (11, vb r82b), (10, vi r82), (9, vb r76b), (8, vi r76), (7, vb r69b), (6, vi r69), (5, vi r61d), (3, V.ref 2003 0), (2, vb false), (0, vy x0)], [(2003, oc 28 [tl r61, ti r61b])]⟩) (by kernel_rfl) ⟨(by have hh := (vCut_C x0 (2 : Int) (show 0 ≤ (2 : Int) by first | decide | (simp only [maxLen]; omega) | (unfold I64; omega) | (unfold I64; decide)) (show (2 : Int) ≤ 255 by first | decide | (simp only [maxLen]; omega) | (unfold I64; omega) | (unfold I64; decide)) c10); simpa using hh), (F_spec_DrawWeightTable_W (cutY x0 (2 : Int)) r146 r146b c16), trivial⟩ ?_
    refine WP.seq ?_
    obtain ⟨r152, r152b, c17, h⟩ := bnd2_some h
    refine WP.path tab_ok mixed [(152, An.call (T.tup [tl r152, tb r152b]))] [.keep [35, 34, 33, 32, 31, 30, 29, 28, 27, 26, 25, 24, 23, 22, 21, 20, 19, 18, 17, 16, 15, 14, 13, 12, 11, 10, 9, 8, 7, 6, 5, 3, 2, 0], .keepO [2003]] (ps := [(C Try.prog 63 [ti r146, ti r146b] (T.tup [tl r152, tb r152b]))]) (e := .normal) (σ' := ⟨[2003], [(35, vb r152b), (34, vl r152), (33, vi r146b), (32, vi r146), (31, vb r140b), (30, vi r140), (29, vb r134b), (28, vi r134), (27, vb r128b), (26, vi r128), (25, vb r122b), (24, vi r122), (23, vi r116b), (22, vi r116), (21, vb r110b), (20, vi r110), (19, vb r105b), (18, vi r105), (17, vb r100b), (16, vi r100), (15, vb r94b), (14, vi r94), (13, vb r88b), (12, vi r88), (11, vb r82b), (10, vi r82), (9, vb r76b), (8, vi r76), (7, vb r69b), (6, vi r69), (5, vi r61d), (3, V.ref 2003 0), (2, vb false), (0, vy x0)], [(2003, oc 28 [tl r61, ti r61b])]⟩) (by kernel_rfl) ⟨(F_impl_WeightTable_W_C r146 r146b r152 r152b c17), trivial⟩ ?_
    refine WP.seq ?_
    obtain ⟨r158, r158b, c18, h⟩ := bnd2_some h
    refine WP.path tab_ok mixed [(158, An.call (T.tup [tl r158, tb r158b]))] [.keep [37, 36, 35, 34, 32, 31, 30, 29, 28, 27, 26, 25, 24, 23, 22, 21, 20, 19, 18, 17, 16, 15, 14, 13, 12, 11, 10, 9, 8, 7, 6, 5, 3, 2, 0], .keepO [2003]] (ps := [(C Try.prog 64 [ti r146, ti r146b] (T.tup [tl r158, tb r158b]))]) (e := .normal) (σ' := ⟨[2003], [(37, vb r158b), (36, vl r158), (35, vb r152b), (34, vl r152), (32, vi r146), (31, vb r140b), (30, vi r140), (29, vb r134b), (28, vi r134), (27, vb r128b), (26, vi r128), (25, vb r122b), (24, vi r122), (23, vi r116b), (22, vi r116), (21, vb r110b), (20, vi r110), (19, vb r105b), (18, vi r105), (17, vb r100b), (16, vi r100), (15, vb r94b), (14, vi r94), (13, vb r88b), (12, vi r88), (11, vb r82b), (10, vi r82), (9, vb r76b), (8, vi r76), (7, vb r69b), (6, vi r69), (5, vi r61d), (3, V.ref 2003 0), (2, vb false), (0, vy x0)], [(2003, oc 28 [tl r61, ti r61b])]⟩) (by kernel_rfl) ⟨(F_spec_WeightTable_W_C r146 r146b r158 r158b c18), trivial⟩ ?_
    refine WP.seq ?_
    obtain ⟨r163, r163b, c19, h⟩ := bnd2_some h
    refine WP.path tab_ok mixed [(163, An.call (T.tup [ti r163, ti r163b]))] [.keep [39, 38, 37, 36, 35, 34, 32, 31, 30, 29, 28, 27, 26, 25, 24, 23, 22, 21, 20, 19, 18, 17, 16, 15, 14, 13, 12, 11, 10, 9, 8, 7, 6, 5, 3, 2], .keepO [2003]] (ps := [(C Try.prog 65 [ty x0] (T.tup [ti r163, ti r163b]))]) (e := .normal) (σ' := ⟨[2003], [(39, vi r163b), (38, vi r163), (37, vb r158b), (36, vl r158), (35, vb r152b), (34, vl r152), (32, vi r146), (31, vb r140b), (30, vi r140), (29, vb r134b), (28, vi r134), (27, vb r128b), (26, vi r128), (25, vb r122b), (24, vi r122), (23, vi r116b), (22, vi r116), (21, vb r110b), (20, vi r110), (19, vb r105b), (18, vi r105), (17, vb r100b), (16, vi r100), (15, vb r94b), (14, vi r94), (13, vb r88b), (12, vi r88), (11, vb r82b), (10, vi r82), (9, vb r76b), (8, vi r76), (7, vb r69b), (6, vi r69), (5, vi r61d), (3, V.ref 2003 0), (2, vb false)], [(2003, oc 28 [tl r61, ti r61b])]⟩) (by kernel_rfl) ⟨(F_spec_DrawMostByWeight_W x0 r163 r163b c19), trivial⟩ ?_
    refine WP.seq ?_
    obtain ⟨r169, r169b, c20, h⟩ := bnd2_some h
    refine WP.path tab_ok mixed [(169, An.call (T.tup [ti r169, tb r169b]))] [.keep [41, 40, 39, 38, 37, 36, 35, 34, 32, 31, 30, 29, 28, 27, 26, 25, 24, 23, 22, 21, 20, 19, 18, 17, 16, 15, 14, 13, 12, 11, 10, 9, 8, 7, 6, 5, 3, 2], .keepO [2003]] (ps := [(C Try.prog 66 [ti r163, ti r163b] (T.tup [ti r169, tb r169b]))]) (e := .normal) (σ' := ⟨[2003], [(41, vb r169b), (40, vi r169), (39, vi r163b), (38, vi r163), (37, vb r158b), (36, vl r158), (35, vb r152b), (34, vl r152), (32, vi r146), (31, vb r140b), (30, vi r140), (29, vb r134b), (28, vi r134), (27, vb r128b), (26, vi r128), (25, vb r122b), (24, vi r122), (23, vi r116b), (22, vi r116), (21, vb r110b), (20, vi r110), (19, vb r105b), (18, vi r105), (17, vb r100b), (16, vi r100), (15, vb r94b), (14, vi r94), (13, vb r88b), (12, vi r88), (11, vb r82b), (10, vi r82), (9, vb r76b), (8, vi r76), (7, vb r69b), (6, vi r69), (5, vi r61d), (3, V.ref 2003 0), (2, vb false)], [(2003, oc 28 [tl r61, ti r61b])]⟩) (by kernel_rfl) ⟨(F_impl_MostByWeight_W r163 r163b r169 r169b c20), trivial⟩ ?_
    refine WP.seq ?_
    obtain ⟨r175, r175b, c21, h⟩ := bnd2_some h
    refine WP.path tab_ok mixed [(175, An.call (T.tup [ti r175, tb r175b]))] [.keep [43, 42, 41, 40, 39, 38, 37, 36, 35, 34, 32, 31, 30, 29, 28, 27, 26, 25, 24, 23, 22, 21, 20, 19, 18, 17, 16, 15, 14, 13, 12, 11, 10, 9, 8, 7, 6, 5, 3, 2], .keepO [2003]] (ps := [(C Try.prog 67 [ti r163, ti r163b] (T.tup [ti r175, tb r175b]))]) (e := .normal) (σ' := ⟨[2003], [(43, vb r175b), (42, vi r175), (41, vb r169b), (40, vi r169), (39, vi r163b), (38, vi r163), (37, vb r158b), (36, vl r158), (35, vb r152b), (34, vl r152), (32, vi r146), (31, vb r140b), (30, vi r140), (29, vb r134b), (28, vi r134), (27, vb r128b), (26, vi r128), (25, vb r122b), (24, vi r122), (23, vi r116b), (22, vi r116), (21, vb r110b), (20, vi r110), (19, vb r105b), (18, vi r105), (17, vb r100b), (16, vi r100), (15, vb r94b), (14, vi r94), (13, vb r88b), (12, vi r88), (11, vb r82b), (10, vi r82), (9, vb r76b), (8, vi r76), (7, vb r69b), (6, vi r69), (5, vi r61d), (3, V.ref 2003 0), (2, vb false)], [(2003, oc 28 [tl r61, ti r61b])]⟩) (by kernel_rfl) ⟨(F_spec_MostByWeight_W r163 r163b r175 r175b c21), trivial⟩ ?_
    refine WP.seq ?_
    obtain ⟨J1, hJ1, h⟩ := jn_some h
    refine WP.joinA (fun (zz : Bool) => ⟨[2003], [(273, vb zz), (41, vb r169b), (40, vi r169), (39, vi r163b), (38, vi r163), (35, vb r152b), (34, vl r152), (32, vi r146), (28, vi r134), (25, vb r122b), (24, vi r122), (23, vi r116b), (22, vi r116), (18, vi r105), (14, vi r94), (11, vb r82b), (10, vi r82), (5, vi r61d), (3, V.ref 2003 0), (2, vb false)], [(2003, oc 28 [tl r61, ti r61b])]⟩) (fun zz => J1 zz = some y0) ?_ ?_
    · -- to where they meet
      rcases ite_some h with ⟨h2, h⟩ | ⟨h2, h⟩
      · -- yes
        refine WP.path tab_ok mixed [(180, An.b true)] [.keep [273, 41, 40, 39, 38, 35, 34, 32, 28, 25, 24, 23, 22, 18, 14, 11, 10, 5, 3, 2], .keepO [2003], .names [(2003, 2003)]] (ps := [(True), ((r69 != r76) = true)]) (e := .normal) (σ' := ⟨[2003], [(273, vb true), (41, vb r169b), (40, vi r169), (39, vi r163b), (38, vi r163), (35, vb r152b), (34, vl r152), (32, vi r146), (28, vi r134), (25, vb r122b), (24, vi r122), (23, vi r116b), (22, vi r116), (18, vi r105), (14, vi r94), (11, vb r82b), (10, vi r82), (5, vi r61d), (3, V.ref 2003 0), (2, vb false)], [(2003, oc 28 [tl r61, ti r61b])]⟩) (by kernel_rfl) ⟨trivial, h2, trivial⟩ ?_
        exact ⟨(true), h, rfl⟩
      · -- no
        rcases ite_some h with ⟨h3, h⟩ | ⟨h3, h⟩
        · -- yes
          refine WP.path tab_ok mixed [(180, An.b false), (184, An.b true)] [.keep [273, 41, 40, 39, 38, 35, 34, 32, 28, 25, 24, 23, 22, 18, 14, 11, 10, 5, 3, 2], .keepO [2003], .names [(2003, 2003)]] (ps := [(True), ((r69 != r76) = false), (True), ((!(r69b == r76b)) = true)]) (e := .normal) (σ' := ⟨[2003], [(273, vb true), (41, vb r169b), (40, vi r169), (39, vi r163b), (38, vi r163), (35, vb r152b), (34, vl r152), (32, vi r146), (28, vi r134), (25, vb r122b), (24, vi r122), (23, vi r116b), (22, vi r116), (18, vi r105), (14, vi r94), (11, vb r82b), (10, vi r82), (5, vi r61d), (3, V.ref 2003 0), (2, vb false)], [(2003, oc 28 [tl r61, ti r61b])]⟩) (by kernel_rfl) ⟨trivial, h2, trivial, h3, trivial⟩ ?_
          exact ⟨(true), h, rfl⟩
        · -- no
          rcases ite_some h with ⟨h4, h⟩ | ⟨h4, h⟩
          · -- yes
            refine WP.path tab_ok mixed [(180, An.b false), (184, An.b false), (189, An.b true)] [.keep [273, 41, 40, 39, 38, 35, 34, 32, 28, 25, 24, 23, 22, 18, 14, 11, 10, 5, 3, 2], .keepO [2003], .names [(2003, 2003)]] (ps := [(True), ((r69 != r76) = false), (True), ((!(r69b == r76b)) = false), (True), ((r82 != r88) = true)]) (e := .normal) (σ' := ⟨[2003], [(273, vb true), (41, vb r169b), (40, vi r169), (39, vi r163b), (38, vi r163), (35, vb r152b), (34, vl r152), (32, vi r146), (28, vi r134), (25, vb r122b), (24, vi r122), (23, vi r116b), (22, vi r116), (18, vi r105), (14, vi r94), (11, vb r82b), (10, vi r82), (5, vi r61d), (3, V.ref 2003 0), (2, vb false)], [(2003, oc 28 [tl r61, ti r61b])]⟩) (by kernel_rfl) ⟨trivial, h2, trivial, h3, trivial, h4, trivial⟩ ?_
            exact ⟨(true), h, rfl⟩
          · -- no
            rcases ite_some h with ⟨h5, h⟩ | ⟨h5, h⟩
            · -- yes
              refine WP.path tab_ok mixed [(180, An.b false), (184, An.b false), (189, An.b false), (194, An.b true)] [.keep [273, 41, 40, 39, 38, 35, 34, 32, 28, 25, 24, 23, 22, 18, 14, 11, 10, 5, 3, 2], .keepO [2003], .names [(2003, 2003)]] (ps := [(True), ((r69 != r76) = false), (True), ((!(r69b == r76b)) = false), (True), ((r82 != r88) = false), (True), ((!(r82b == r88b)) = true)]) (e := .normal) (σ' := ⟨[2003], [(273, vb true), (41, vb r169b), (40, vi r169), (39, vi r163b), (38, vi r163), (35, vb r152b), (34, vl r152), (32, vi r146), (28, vi r134), (25, vb r122b), (24, vi r122), (23, vi r116b), (22, vi r116), (18, vi r105), (14, vi r94), (11, vb r82b), (10, vi r82), (5, vi r61d), (3, V.ref 2003 0), (2, vb false)], [(2003, oc 28 [tl r61, ti r61b])]⟩) (by kernel_rfl) ⟨trivial, h2, trivial, h3, trivial, h4, trivial, h5, trivial⟩ ?_
              exact ⟨(true), h, rfl⟩
            · -- no
              rcases ite_some h with ⟨h6, h⟩ | ⟨h6, h⟩
              · -- yes
                refine WP.path tab_ok mixed [(180, An.b false), (184, An.b false), (189, An.b false), (194, An.b false), (199, An.b true)] [.keep [273, 41, 40, 39, 38, 35, 34, 32, 28, 25, 24, 23, 22, 18, 14, 11, 10, 5, 3, 2], .keepO [2003], .names [(2003, 2003)]] (ps := [(True), ((r69 != r76) = false), (True), ((!(r69b == r76b)) = false), (True), ((r82 != r88) = false), (True), ((!(r82b == r88b)) = false), (True), ((r94 != r100) = true)]) (e := .normal) (σ' := ⟨[2003], [(273, vb true), (41, vb r169b), (40, vi r169), (39, vi r163b), (38, vi r163), (35, vb r152b), (34, vl r152), (32, vi r146), (28, vi r134), (25, vb r122b), (24, vi r122), (23, vi r116b), (22, vi r116), (18, vi r105), (14, vi r94), (11, vb r82b), (10, vi r82), (5, vi r61d), (3, V.ref 2003 0), (2, vb false)], [(2003, oc 28 [tl r61, ti r61b])]⟩) (by kernel_rfl) ⟨trivial, h2, trivial, h3, trivial, h4, trivial, h5, trivial, h6, trivial⟩ ?_
                exact ⟨(true), h, rfl⟩
              · -- no
                rcases ite_some h with ⟨h7, h⟩ | ⟨h7, h⟩
                · -- yes
                  refine WP.path tab_ok mixed [(180, An.b false), (184, An.b false), (189, An.b false), (194, An.b false), (199, An.b false), (204, An.b true)] [.keep [273, 41, 40, 39, 38, 35, 34, 32, 28, 25, 24, 23, 22, 18, 14, 11, 10, 5, 3, 2], .keepO [2003], .names [(2003, 2003)]] (ps := [(True), ((r69 != r76) = false), (True), ((!(r69b == r76b)) = false), (True), ((r82 != r88) = false), (True), ((!(r82b == r88b)) = false), (True), ((r94 != r100) = false), (True), ((!(r94b == r100b)) = true)]) (e := .normal) (σ' := ⟨[2003], [(273, vb true), (41, vb r169b), (40, vi r169), (39, vi r163b), (38, vi r163), (35, vb r152b), (34, vl r152), (32, vi r146), (28, vi r134), (25, vb r122b), (24, vi r122), (23, vi r116b), (22, vi r116), (18, vi r105), (14, vi r94), (11, vb r82b), (10, vi r82), (5, vi r61d), (3, V.ref 2003 0), (2, vb false)], [(2003, oc 28 [tl r61, ti r61b])]⟩) (by kernel_rfl) ⟨trivial, h2, trivial, h3, trivial, h4, trivial, h5, trivial, h6, trivial, h7, trivial⟩ ?_
                  exact ⟨(true), h, rfl⟩
                · -- no
                  rcases ite_some h with ⟨h8, h⟩ | ⟨h8, h⟩
                  · -- yes
                    refine WP.path tab_ok mixed [(180, An.b false), (184, An.b false), (189, An.b false), (194, An.b false), (199, An.b false), (204, An.b false), (209, An.b true)] [.keep [273, 41, 40, 39, 38, 35, 34, 32, 28, 25, 24, 23, 22, 18, 14, 11, 10, 5, 3, 2], .keepO [2003], .names [(2003, 2003)]] (ps := [(True), ((r69 != r76) = false), (True), ((!(r69b == r76b)) = false), (True), ((r82 != r88) = false), (True), ((!(r82b == r88b)) = false), (True), ((r94 != r100) = false), (True), ((!(r94b == r100b)) = false), (True), ((r105 != r110) = true)]) (e := .normal) (σ' := ⟨[2003], [(273, vb true), (41, vb r169b), (40, vi r169), (39, vi r163b), (38, vi r163), (35, vb r152b), (34, vl r152), (32, vi r146), (28, vi r134), (25, vb r122b), (24, vi r122), (23, vi r116b), (22, vi r116), (18, vi r105), (14, vi r94), (11, vb r82b), (10, vi r82), (5, vi r61d), (3, V.ref 2003 0), (2, vb false)], [(2003, oc 28 [tl r61, ti r61b])]⟩) (by kernel_rfl) ⟨trivial, h2, trivial, h3, trivial, h4, trivial, h5, trivial, h6, trivial, h7, trivial, h8, trivial⟩ ?_
                    exact ⟨(true), h, rfl⟩
                  · -- no
                    rcases ite_some h with ⟨h9, h⟩ | ⟨h9, h⟩
                    · -- yes
                      refine WP.path tab_ok mixed [(180, An.b false), (184, An.b false), (189, An.b false), (194, An.b false), (199, An.b false), (204, An.b false), (209, An.b false), (214, An.b true)] [.keep [273, 41, 40, 39, 38, 35, 34, 32, 28, 25, 24, 23, 22, 18, 14, 11, 10, 5, 3, 2], .keepO [2003], .names [(2003, 2003)]] (ps := [(True), ((r69 != r76) = false), (True), ((!(r69b == r76b)) = false), (True), ((r82 != r88) = false), (True), ((!(r82b == r88b)) = false), (True), ((r94 != r100) = false), (True), ((!(r94b == r100b)) = false), (True), ((r105 != r110) = false), (True), ((!(r105b == r110b)) = true)]) (e := .normal) (σ' := ⟨[2003], [(273, vb true), (41, vb r169b), (40, vi r169), (39, vi r163b), (38, vi r163), (35, vb r152b), (34, vl r152), (32, vi r146), (28, vi r134), (25, vb r122b), (24, vi r122), (23, vi r116b), (22, vi r116), (18, vi r105), (14, vi r94), (11, vb r82b), (10, vi r82), (5, vi r61d), (3, V.ref 2003 0), (2, vb false)], [(2003, oc 28 [tl r61, ti r61b])]⟩) (by kernel_rfl) ⟨trivial, h2, trivial, h3, trivial, h4, trivial, h5, trivial, h6, trivial, h7, trivial, h8, trivial, h9, trivial⟩ ?_
                      exact ⟨(true), h, rfl⟩
                    · -- no
                      rcases ite_some h with ⟨h10, h⟩ | ⟨h10, h⟩
                      · -- yes
                        refine WP.path tab_ok mixed [(180, An.b false), (184, An.b false), (189, An.b false), (194, An.b false), (199, An.b false), (204, An.b false), (209, An.b false), (214, An.b false), (219, An.b true)] [.keep [273, 41, 40, 39, 38, 35, 34, 32, 28, 25, 24, 23, 22, 18, 14, 11, 10, 5, 3, 2], .keepO [2003], .names [(2003, 2003)]] (ps := [(True), ((r69 != r76) = false), (True), ((!(r69b == r76b)) = false), (True), ((r82 != r88) = false), (True), ((!(r82b == r88b)) = false), (True), ((r94 != r100) = false), (True), ((!(r94b == r100b)) = false), (True), ((r105 != r110) = false), (True), ((!(r105b == r110b)) = false), (True), ((r122 != r128) = true)]) (e := .normal) (σ' := ⟨[2003], [(273, vb true), (41, vb r169b), (40, vi r169), (39, vi r163b), (38, vi r163), (35, vb r152b), (34, vl r152), (32, vi r146), (28, vi r134), (25, vb r122b), (24, vi r122), (23, vi r116b), (22, vi r116), (18, vi r105), (14, vi r94), (11, vb r82b), (10, vi r82), (5, vi r61d), (3, V.ref 2003 0), (2, vb false)], [(2003, oc 28 [tl r61, ti r61b])]⟩) (by kernel_rfl) ⟨trivial, h2, trivial, h3, trivial, h4, trivial, h5, trivial, h6, trivial, h7, trivial, h8, trivial, h9, trivial, h10, trivial⟩ ?_
                        exact ⟨(true), h, rfl⟩
                      · -- no
                        rcases ite_some h with ⟨h11, h⟩ | ⟨h11, h⟩
                        · -- yes
                          refine WP.path tab_ok mixed [(180, An.b false), (184, An.b false), (189, An.b false), (194, An.b false), (199, An.b false), (204, An.b false), (209, An.b false), (214, An.b false), (219, An.b false), (224, An.b true)] [.keep [273, 41, 40, 39, 38, 35, 34, 32, 28, 25, 24, 23, 22, 18, 14, 11, 10, 5, 3, 2], .keepO [2003], .names [(2003, 2003)]] (ps := [(True), ((r69 != r76) = false), (True), ((!(r69b == r76b)) = false), (True), ((r82 != r88) = false), (True), ((!(r82b == r88b)) = false), (True), ((r94 != r100) = false), (True), ((!(r94b == r100b)) = false), (True), ((r105 != r110) = false), (True), ((!(r105b == r110b)) = false), (True), ((r122 != r128) = false), (True), ((!(r122b == r128b)) = true)]) (e := .normal) (σ' := ⟨[2003], [(273, vb true), (41, vb r169b), (40, vi r169), (39, vi r163b), (38, vi r163), (35, vb r152b), (34, vl r152), (32, vi r146), (28, vi r134), (25, vb r122b), (24, vi r122), (23, vi r116b), (22, vi r116), (18, vi r105), (14, vi r94), (11, vb r82b), (10, vi r82), (5, vi r61d), (3, V.ref 2003 0), (2, vb false)], [(2003, oc 28 [tl r61, ti r61b])]⟩) (by kernel_rfl) ⟨trivial, h2, trivial, h3, trivial, h4, trivial, h5, trivial, h6, trivial, h7, trivial, h8, trivial, h9, trivial, h10, trivial, h11, trivial⟩ ?_
                          exact ⟨(true), h, rfl⟩
                        · -- no
                          rcases ite_some h with ⟨h12, h⟩ | ⟨h12, h⟩
                          · -- yes
                            refine WP.path tab_ok mixed [(180, An.b false), (184, An.b false), (189, An.b false), (194, An.b false), (199, An.b false), (204, An.b false), (209, An.b false), (214, An.b false), (219, An.b false), (224, An.b false), (229, An.b true)] [.keep [273, 41, 40, 39, 38, 35, 34, 32, 28, 25, 24, 23, 22, 18, 14, 11, 10, 5, 3, 2], .keepO [2003], .names [(2003, 2003)]] (ps := [(True), ((r69 != r76) = false), (True), ((!(r69b == r76b)) = false), (True), ((r82 != r88) = false), (True), ((!(r82b == r88b)) = false), (True), ((r94 != r100) = false), (True), ((!(r94b == r100b)) = false), (True), ((r105 != r110) = false), (True), ((!(r105b == r110b)) = false), (True), ((r122 != r128) = false), (True), ((!(r122b == r128b)) = false), (True), ((r134 != r140) = true)]) (e := .normal) (σ' := ⟨[2003], [(273, vb true), (41, vb r169b), (40, vi r169), (39, vi r163b), (38, vi r163), (35, vb r152b), (34, vl r152), (32, vi r146), (28, vi r134), (25, vb r122b), (24, vi r122), (23, vi r116b), (22, vi r116), (18, vi r105), (14, vi r94), (11, vb r82b), (10, vi r82), (5, vi r61d), (3, V.ref 2003 0), (2, vb false)], [(2003, oc 28 [tl r61, ti r61b])]⟩) (by kernel_rfl) ⟨trivial, h2, trivial, h3, trivial, h4, trivial, h5, trivial, h6, trivial, h7, trivial, h8, trivial, h9, trivial, h10, trivial, h11, trivial, h12, trivial⟩ ?_
                            exact ⟨(true), h, rfl⟩
                          · -- no
                            rcases ite_some h with ⟨h13, h⟩ | ⟨h13, h⟩
                            · -- yes
                              refine WP.path tab_ok mixed [(180, An.b false), (184, An.b false), (189, An.b false), (194, An.b false), (199, An.b false), (204, An.b false), (209, An.b false), (214, An.b false), (219, An.b false), (224, An.b false), (229, An.b false), (234, An.b true)] [.keep [273, 41, 40, 39, 38, 35, 34, 32, 28, 25, 24, 23, 22, 18, 14, 11, 10, 5, 3, 2], .keepO [2003], .names [(2003, 2003)]] (ps := [(True), ((r69 != r76) = false), (True), ((!(r69b == r76b)) = false), (True), ((r82 != r88) = false), (True), ((!(r82b == r88b)) = false), (True), ((r94 != r100) = false), (True), ((!(r94b == r100b)) = false), (True), ((r105 != r110) = false), (True), ((!(r105b == r110b)) = false), (True), ((r122 != r128) = false), (True), ((!(r122b == r128b)) = false), (True), ((r134 != r140) = false), (True), ((!(r134b == r140b)) = true)]) (e := .normal) (σ' := ⟨[2003], [(273, vb true), (41, vb r169b), (40, vi r169), (39, vi r163b), (38, vi r163), (35, vb r152b), (34, vl r152), (32, vi r146), (28, vi r134), (25, vb r122b), (24, vi r122), (23, vi r116b), (22, vi r116), (18, vi r105), (14, vi r94), (11, vb r82b), (10, vi r82), (5, vi r61d), (3, V.ref 2003 0), (2, vb false)], [(2003, oc 28 [tl r61, ti r61b])]⟩) (by kernel_rfl) ⟨trivial, h2, trivial, h3, trivial, h4, trivial, h5, trivial, h6, trivial, h7, trivial, h8, trivial, h9, trivial, h10, trivial, h11, trivial, h12, trivial, h13, trivial⟩ ?_
                              exact ⟨(true), h, rfl⟩
                            · -- no
                              rcases ite_some h with ⟨h14, h⟩ | ⟨h14, h⟩
                              · -- yes
                                refine WP.path tab_ok mixed [(180, An.b false), (184, An.b false), (189, An.b false), (194, An.b false), (199, An.b false), (204, An.b false), (209, An.b false), (214, An.b false), (219, An.b false), (224, An.b false), (229, An.b false), (234, An.b false), (239, An.b true)] [.keep [273, 41, 40, 39, 38, 35, 34, 32, 28, 25, 24, 23, 22, 18, 14, 11, 10, 5, 3, 2], .keepO [2003], .names [(2003, 2003)]] (ps := [(True), ((r69 != r76) = false), (True), ((!(r69b == r76b)) = false), (True), ((r82 != r88) = false), (True), ((!(r82b == r88b)) = false), (True), ((r94 != r100) = false), (True), ((!(r94b == r100b)) = false), (True), ((r105 != r110) = false), (True), ((!(r105b == r110b)) = false), (True), ((r122 != r128) = false), (True), ((!(r122b == r128b)) = false), (True), ((r134 != r140) = false), (True), ((!(r134b == r140b)) = false), (True), ((!(r152b == r158b)) = true)]) (e := .normal) (σ' := ⟨[2003], [(273, vb true), (41, vb r169b), (40, vi r169), (39, vi r163b), (38, vi r163), (35, vb r152b), (34, vl r152), (32, vi r146), (28, vi r134), (25, vb r122b), (24, vi r122), (23, vi r116b), (22, vi r116), (18, vi r105), (14, vi r94), (11, vb r82b), (10, vi r82), (5, vi r61d), (3, V.ref 2003 0), (2, vb false)], [(2003, oc 28 [tl r61, ti r61b])]⟩) (by kernel_rfl) ⟨trivial, h2, trivial, h3, trivial, h4, trivial, h5, trivial, h6, trivial, h7, trivial, h8, trivial, h9, trivial, h10, trivial, h11, trivial, h12, trivial, h13, trivial, h14, trivial⟩ ?_
                                exact ⟨(true), h, rfl⟩
                              · -- no
                                obtain ⟨c22, h⟩ := chk_some h
                                obtain ⟨c23, h⟩ := chk_some h
                                rcases ite_some h with ⟨h15, h⟩ | ⟨h15, h⟩
                                · -- yes
                                  refine WP.path tab_ok mixed [(180, An.b false), (184, An.b false), (189, An.b false), (194, An.b false), (199, An.b false), (204, An.b false), (209, An.b false), (214, An.b false), (219, An.b false), (224, An.b false), (229, An.b false), (234, An.b false), (239, An.b false), (244, An.call (tb (r152 == r158))), (247, An.b true)] [.keep [273, 41, 40, 39, 38, 35, 34, 32, 28, 25, 24, 23, 22, 18, 14, 11, 10, 5, 3, 2], .keepO [2003], .names [(2003, 2003)]] (ps := [(True), ((r69 != r76) = false), (True), ((!(r69b == r76b)) = false), (True), ((r82 != r88) = false), (True), ((!(r82b == r88b)) = false), (True), ((r94 != r100) = false), (True), ((!(r94b == r100b)) = false), (True), ((r105 != r110) = false), (True), ((!(r105b == r110b)) = false), (True), ((r122 != r128) = false), (True), ((!(r122b == r128b)) = false), (True), ((r134 != r140) = false), (True), ((!(r134b == r140b)) = false), (True), ((!(r152b == r158b)) = false), (C Try.prog 68 [tl r152, tl r158] (tb (r152 == r158))), ((!(r152 == r158)) = true)]) (e := .normal) (σ' := ⟨[2003], [(273, vb true), (41, vb r169b), (40, vi r169), (39, vi r163b), (38, vi r163), (35, vb r152b), (34, vl r152), (32, vi r146), (28, vi r134), (25, vb r122b), (24, vi r122), (23, vi r116b), (22, vi r116), (18, vi r105), (14, vi r94), (11, vb r82b), (10, vi r82), (5, vi r61d), (3, V.ref 2003 0), (2, vb false)], [(2003, oc 28 [tl r61, ti r61b])]⟩) (by kernel_rfl) ⟨trivial, h2, trivial, h3, trivial, h4, trivial, h5, trivial, h6, trivial, h7, trivial, h8, trivial, h9, trivial, h10, trivial, h11, trivial, h12, trivial, h13, trivial, h14, (vInts_C r152 r158 c22 c23), h15, trivial⟩ ?_
                                  exact ⟨(true), h, rfl⟩
                                · -- no
                                  rcases ite_some h with ⟨h16, h⟩ | ⟨h16, h⟩
                                  · -- yes
                                    refine WP.path tab_ok mixed [(180, An.b false), (184, An.b false), (189, An.b false), (194, An.b false), (199, An.b false), (204, An.b false), (209, An.b false), (214, An.b false), (219, An.b false), (224, An.b false), (229, An.b false), (234, An.b false), (239, An.b false), (244, An.call (tb (r152 == r158))), (247, An.b false), (250, An.b true)] [.keep [273, 41, 40, 39, 38, 35, 34, 32, 28, 25, 24, 23, 22, 18, 14, 11, 10, 5, 3, 2], .keepO [2003], .names [(2003, 2003)]] (ps := [(True), ((r69 != r76) = false), (True), ((!(r69b == r76b)) = false), (True), ((r82 != r88) = false), (True), ((!(r82b == r88b)) = false), (True), ((r94 != r100) = false), (True), ((!(r94b == r100b)) = false), (True), ((r105 != r110) = false), (True), ((!(r105b == r110b)) = false), (True), ((r122 != r128) = false), (True), ((!(r122b == r128b)) = false), (True), ((r134 != r140) = false), (True), ((!(r134b == r140b)) = false), (True), ((!(r152b == r158b)) = false), (C Try.prog 68 [tl r152, tl r158] (tb (r152 == r158))), ((!(r152 == r158)) = false), (True), ((r169 != r175) = true)]) (e := .normal) (σ' := ⟨[2003], [(273, vb true), (41, vb r169b), (40, vi r169), (39, vi r163b), (38, vi r163), (35, vb r152b), (34, vl r152), (32, vi r146), (28, vi r134), (25, vb r122b), (24, vi r122), (23, vi r116b), (22, vi r116), (18, vi r105), (14, vi r94), (11, vb r82b), (10, vi r82), (5, vi r61d), (3, V.ref 2003 0), (2, vb false)], [(2003, oc 28 [tl r61, ti r61b])]⟩) (by kernel_rfl) ⟨trivial, h2, trivial, h3, trivial, h4, trivial, h5, trivial, h6, trivial, h7, trivial, h8, trivial, h9, trivial, h10, trivial, h11, trivial, h12, trivial, h13, trivial, h14, (vInts_C r152 r158 c22 c23), h15, trivial, h16, trivial⟩ ?_
                                    exact ⟨(true), h, rfl⟩
                                  · -- no
                                    rcases ite_some h with ⟨h17, h⟩ | ⟨h17, h⟩
                                    · -- yes
                                      refine WP.path tab_ok mixed [(180, An.b false), (184, An.b false), (189, An.b false), (194, An.b false), (199, An.b false), (204, An.b false), (209, An.b false), (214, An.b false), (219, An.b false), (224, An.b false), (229, An.b false), (234, An.b false), (239, An.b false), (244, An.call (tb (r152 == r158))), (247, An.b false), (250, An.b false), (255, An.b true)] [.keep [273, 41, 40, 39, 38, 35, 34, 32, 28, 25, 24, 23, 22, 18, 14, 11, 10, 5, 3, 2], .keepO [2003], .names [(2003, 2003)]] (ps := [(True), ((r69 != r76) = false), (True), ((!(r69b == r76b)) = false), (True), ((r82 != r88) = false), (True), ((!(r82b == r88b)) = false), (True), ((r94 != r100) = false), (True), ((!(r94b == r100b)) = false), (True), ((r105 != r110) = false), (True), ((!(r105b == r110b)) = false), (True), ((r122 != r128) = false), (True), ((!(r122b == r128b)) = false), (True), ((r134 != r140) = false), (True), ((!(r134b == r140b)) = false), (True), ((!(r152b == r158b)) = false), (C Try.prog 68 [tl r152, tl r158] (tb (r152 == r158))), ((!(r152 == r158)) = false), (True), ((r169 != r175) = false), (True), ((!(r169b == r175b)) = true)]) (e := .normal) (σ' := ⟨[2003], [(273, vb true), (41, vb r169b), (40, vi r169), (39, vi r163b), (38, vi r163), (35, vb r152b), (34, vl r152), (32, vi r146), (28, vi r134), (25, vb r122b), (24, vi r122), (23, vi r116b), (22, vi r116), (18, vi r105), (14, vi r94), (11, vb r82b), (10, vi r82), (5, vi r61d), (3, V.ref 2003 0), (2, vb false)], [(2003, oc 28 [tl r61, ti r61b])]⟩) (by kernel_rfl) ⟨trivial, h2, trivial, h3, trivial, h4, trivial, h5, trivial, h6, trivial, h7, trivial, h8, trivial, h9, trivial, h10, trivial, h11, trivial, h12, trivial, h13, trivial, h14, (vInts_C r152 r158 c22 c23), h15, trivial, h16, trivial, h17, trivial⟩ ?_
                                      exact ⟨(true), h, rfl⟩
                                    · -- no
                                      rcases ite_some h with ⟨h18, h⟩ | ⟨h18, h⟩
                                      · -- yes
                                        refine WP.path tab_ok mixed [(180, An.b false), (184, An.b false), (189, An.b false), (194, An.b false), (199, An.b false), (204, An.b false), (209, An.b false), (214, An.b false), (219, An.b false), (224, An.b false), (229, An.b false), (234, An.b false), (239, An.b false), (244, An.call (tb (r152 == r158))), (247, An.b false), (250, An.b false), (255, An.b false), (260, An.b true)] [.keep [273, 41, 40, 39, 38, 35, 34, 32, 28, 25, 24, 23, 22, 18, 14, 11, 10, 5, 3, 2], .keepO [2003], .names [(2003, 2003)]] (ps := [(True), ((r69 != r76) = false), (True), ((!(r69b == r76b)) = false), (True), ((r82 != r88) = false), (True), ((!(r82b == r88b)) = false), (True), ((r94 != r100) = false), (True), ((!(r94b == r100b)) = false), (True), ((r105 != r110) = false), (True), ((!(r105b == r110b)) = false), (True), ((r122 != r128) = false), (True), ((!(r122b == r128b)) = false), (True), ((r134 != r140) = false), (True), ((!(r134b == r140b)) = false), (True), ((!(r152b == r158b)) = false), (C Try.prog 68 [tl r152, tl r158] (tb (r152 == r158))), ((!(r152 == r158)) = false), (True), ((r169 != r175) = false), (True), ((!(r169b == r175b)) = false), (True), ((!(r82b == r94b)) = true)]) (e := .normal) (σ' := ⟨[2003], [(273, vb true), (41, vb r169b), (40, vi r169), (39, vi r163b), (38, vi r163), (35, vb r152b), (34, vl r152), (32, vi r146), (28, vi r134), (25, vb r122b), (24, vi r122), (23, vi r116b), (22, vi r116), (18, vi r105), (14, vi r94), (11, vb r82b), (10, vi r82), (5, vi r61d), (3, V.ref 2003 0), (2, vb false)], [(2003, oc 28 [tl r61, ti r61b])]⟩) (by kernel_rfl) ⟨trivial, h2, trivial, h3, trivial, h4, trivial, h5, trivial, h6, trivial, h7, trivial, h8, trivial, h9, trivial, h10, trivial, h11, trivial, h12, trivial, h13, trivial, h14, (vInts_C r152 r158 c22 c23), h15, trivial, h16, trivial, h17, trivial, h18, trivial⟩ ?_
                                        exact ⟨(true), h, rfl⟩
                                      · -- no
                                        rcases ite_some h with ⟨h19, h⟩ | ⟨h19, h⟩
                                        · -- yes
                                          rcases ite_some h with ⟨h20, h⟩ | ⟨h20, h⟩
                                          · -- yes
                                            refine WP.path tab_ok mixed [(180, An.b false), (184, An.b false), (189, An.b false), (194, An.b false), (199, An.b false), (204, An.b false), (209, An.b false), (214, An.b false), (219, An.b false), (224, An.b false), (229, An.b false), (234, An.b false), (239, An.b false), (244, An.call (tb (r152 == r158))), (247, An.b false), (250, An.b false), (255, An.b false), (260, An.b false), (264, An.b true), (269, An.b true)] [.keep [273, 41, 40, 39, 38, 35, 34, 32, 28, 25, 24, 23, 22, 18, 14, 11, 10, 5, 3, 2], .keepO [2003], .names [(2003, 2003)]] (ps := [(True), ((r69 != r76) = false), (True), ((!(r69b == r76b)) = false), (True), ((r82 != r88) = false), (True), ((!(r82b == r88b)) = false), (True), ((r94 != r100) = false), (True), ((!(r94b == r100b)) = false), (True), ((r105 != r110) = false), (True), ((!(r105b == r110b)) = false), (True), ((r122 != r128) = false), (True), ((!(r122b == r128b)) = false), (True), ((r134 != r140) = false), (True), ((!(r134b == r140b)) = false), (True), ((!(r152b == r158b)) = false), (C Try.prog 68 [tl r152, tl r158] (tb (r152 == r158))), ((!(r152 == r158)) = false), (True), ((r169 != r175) = false), (True), ((!(r169b == r175b)) = false), (True), ((!(r82b == r94b)) = false), ((r69b) = true), ((!r82b) = true)]) (e := .normal) (σ' := ⟨[2003], [(273, vb true), (41, vb r169b), (40, vi r169), (39, vi r163b), (38, vi r163), (35, vb r152b), (34, vl r152), (32, vi r146), (28, vi r134), (25, vb r122b), (24, vi r122), (23, vi r116b), (22, vi r116), (18, vi r105), (14, vi r94), (11, vb r82b), (10, vi r82), (5, vi r61d), (3, V.ref 2003 0), (2, vb false)], [(2003, oc 28 [tl r61, ti r61b])]⟩) (by kernel_rfl) ⟨trivial, h2, trivial, h3, trivial, h4, trivial, h5, trivial, h6, trivial, h7, trivial, h8, trivial, h9, trivial, h10, trivial, h11, trivial, h12, trivial, h13, trivial, h14, (vInts_C r152 r158 c22 c23), h15, trivial, h16, trivial, h17, trivial, h18, h19, h20, trivial⟩ ?_
                                            exact ⟨(true), h, rfl⟩
                                          · -- no
                                            refine WP.path tab_ok mixed [(180, An.b false), (184, An.b false), (189, An.b false), (194, An.b false), (199, An.b false), (204, An.b false), (209, An.b false), (214, An.b false), (219, An.b false), (224, An.b false), (229, An.b false), (234, An.b false), (239, An.b false), (244, An.call (tb (r152 == r158))), (247, An.b false), (250, An.b false), (255, An.b false), (260, An.b false), (264, An.b true), (269, An.b false)] [.keep [273, 41, 40, 39, 38, 35, 34, 32, 28, 25, 24, 23, 22, 18, 14, 11, 10, 5, 3, 2], .keepO [2003], .names [(2003, 2003)]] (ps := [(True), ((r69 != r76) = false), (True), ((!(r69b == r76b)) = false), (True), ((r82 != r88) = false), (True), ((!(r82b == r88b)) = false), (True), ((r94 != r100) = false), (True), ((!(r94b == r100b)) = false), (True), ((r105 != r110) = false), (True), ((!(r105b == r110b)) = false), (True), ((r122 != r128) = false), (True), ((!(r122b == r128b)) = false), (True), ((r134 != r140) = false), (True), ((!(r134b == r140b)) = false), (True), ((!(r152b == r158b)) = false), (C Try.prog 68 [tl r152, tl r158] (tb (r152 == r158))), ((!(r152 == r158)) = false), (True), ((r169 != r175) = false), (True), ((!(r169b == r175b)) = false), (True), ((!(r82b == r94b)) = false), ((r69b) = true), ((!r82b) = false), (True)]) (e := .normal) (σ' := ⟨[2003], [(273, vb (!(r122b == r134b))), (41, vb r169b), (40, vi r169), (39, vi r163b), (38, vi r163), (35, vb r152b), (34, vl r152), (32, vi r146), (28, vi r134), (25, vb r122b), (24, vi r122), (23, vi r116b), (22, vi r116), (18, vi r105), (14, vi r94), (11, vb r82b), (10, vi r82), (5, vi r61d), (3, V.ref 2003 0), (2, vb false)], [(2003, oc 28 [tl r61, ti r61b])]⟩) (by kernel_rfl) ⟨trivial, h2, trivial, h3, trivial, h4, trivial, h5, trivial, h6, trivial, h7, trivial, h8, trivial, h9, trivial, h10, trivial, h11, trivial, h12, trivial, h13, trivial, h14, (vInts_C r152 r158 c22 c23), h15, trivial, h16, trivial, h17, trivial, h18, h19, h20, trivial, trivial⟩ ?_
                                            exact ⟨(!(r122b == r134b)), h, rfl⟩
                                        · -- no
                                          refine WP.path tab_ok mixed [(180, An.b false), (184, An.b false), (189, An.b false), (194, An.b false), (199, An.b false), (204, An.b false), (209, An.b false), (214, An.b false), (219, An.b false), (224, An.b false), (229, An.b false), (234, An.b false), (239, An.b false), (244, An.call (tb (r152 == r158))), (247, An.b false), (250, An.b false), (255, An.b false), (260, An.b false), (264, An.b false)] [.keep [273, 41, 40, 39, 38, 35, 34, 32, 28, 25, 24, 23, 22, 18, 14, 11, 10, 5, 3, 2], .keepO [2003], .names [(2003, 2003)]] (ps := [(True), ((r69 != r76) = false), (True), ((!(r69b == r76b)) = false), (True), ((r82 != r88) = false), (True), ((!(r82b == r88b)) = false), (True), ((r94 != r100) = false), (True), ((!(r94b == r100b)) = false), (True), ((r105 != r110) = false), (True), ((!(r105b == r110b)) = false), (True), ((r122 != r128) = false), (True), ((!(r122b == r128b)) = false), (True), ((r134 != r140) = false), (True), ((!(r134b == r140b)) = false), (True), ((!(r152b == r158b)) = false), (C Try.prog 68 [tl r152, tl r158] (tb (r152 == r158))), ((!(r152 == r158)) = false), (True), ((r169 != r175) = false), (True), ((!(r169b == r175b)) = false), (True), ((!(r82b == r94b)) = false), ((r69b) = false), (True)]) (e := .normal) (σ' := ⟨[2003], [(273, vb (!(r122b == r134b))), (41, vb r169b), (40, vi r169), (39, vi r163b), (38, vi r163), (35, vb r152b), (34, vl r152), (32, vi r146), (28, vi r134), (25, vb r122b), (24, vi r122), (23, vi r116b), (22, vi r116), (18, vi r105), (14, vi r94), (11, vb r82b), (10, vi r82), (5, vi r61d), (3, V.ref 2003 0), (2, vb false)], [(2003, oc 28 [tl r61, ti r61b])]⟩) (by kernel_rfl) ⟨trivial, h2, trivial, h3, trivial, h4, trivial, h5, trivial, h6, trivial, h7, trivial, h8, trivial, h9, trivial, h10, trivial, h11, trivial, h12, trivial, h13, trivial, h14, (vInts_C r152 r158 c22 c23), h15, trivial, h16, trivial, h17, trivial, h18, h19, trivial, trivial⟩ ?_
                                          exact ⟨(!(r122b == r134b)), h, rfl⟩
    · -- from there
      intro v273 h0
      have h := (show J1 v273 = some y0 from h0)
      rw [hJ1] at h
      rcases ite_some h with ⟨h21, h⟩ | ⟨h21, h⟩
      · -- yes
        refine WP.cond (b := v273) rfl (fun _ => ?_) (fun hh => by rw [h21] at hh; cases hh)
        have h := Option.some.inj h
        subst h
        exact WP.pathW tab_ok mixed [] _ (ps := []) (r := tb false) (by kernel_rfl) trivial (WkT.eq (y := tb false) (WkT.refl _) rfl) (fun _ h => h)
      · -- no
        refine WP.cond (b := v273) rfl (fun hh => by rw [h21] at hh; cases hh) (fun _ => ?_)
        refine WP.path tab_ok mixed [] [.keep [41, 40, 39, 38, 35, 34, 32, 28, 25, 24, 23, 22, 18, 14, 11, 10, 5, 3, 2], .keepO [2003]] (ps := []) (e := .normal) (σ' := ⟨[2003], [(41, vb r169b), (40, vi r169), (39, vi r163b), (38, vi r163), (35, vb r152b), (34, vl r152), (32, vi r146), (28, vi r134), (25, vb r122b), (24, vi r122), (23, vi r116b), (22, vi r116), (18, vi r105), (14, vi r94), (11, vb r82b), (10, vi r82), (5, vi r61d), (3, V.ref 2003 0), (2, vb false)], [(2003, oc 28 [tl r61, ti r61b])]⟩) (by kernel_rfl) trivial ?_
        obtain ⟨J1, hJ1, h⟩ := jn_some h
        refine WP.joinA (fun (zz : Unit) => ⟨[], [(41, vb r169b), (40, vi r169), (39, vi r163b), (38, vi r163), (35, vb r152b), (34, vl r152), (32, vi r146), (28, vi r134), (25, vb r122b), (24, vi r122), (23, vi r116b), (22, vi r116), (2, vb false)], []⟩) (fun zz => J1 () = some y0) ?_ ?_
        · -- to where they meet
          refine WP.seq ?_
          refine WP.path tab_ok mixed [] [.keep [274, 41, 40, 39, 38, 35, 34, 32, 28, 25, 24, 23, 22, 18, 14, 10, 5, 3, 2], .keepO [2003]] (ps := []) (e := .normal) (σ' := ⟨[2003], [(274, vb r82b), (41, vb r169b), (40, vi r169), (39, vi r163b), (38, vi r163), (35, vb r152b), (34, vl r152), (32, vi r146), (28, vi r134), (25, vb r122b), (24, vi r122), (23, vi r116b), (22, vi r116), (18, vi r105), (14, vi r94), (10, vi r82), (5, vi r61d), (3, V.ref 2003 0), (2, vb false)], [(2003, oc 28 [tl r61, ti r61b])]⟩) (by kernel_rfl) trivial ?_
          rcases ite_some h with ⟨h22, h⟩ | ⟨h22, h⟩
          · -- yes
            refine WP.cond (b := r82b) rfl (fun _ => ?_) (fun hh => by rw [h22] at hh; cases hh)
            refine WP.seq ?_
            refine WP.path tab_ok mixed [] [.keep [44, 41, 40, 39, 38, 35, 34, 32, 28, 25, 24, 23, 22, 18, 14, 10, 5, 3, 2], .keepO [2003]] (ps := []) (e := .normal) (σ' := ⟨[2003], [(44, vi 0), (41, vb r169b), (40, vi r169), (39, vi r163b), (38, vi r163), (35, vb r152b), (34, vl r152), (32, vi r146), (28, vi r134), (25, vb r122b), (24, vi r122), (23, vi r116b), (22, vi r116), (18, vi r105), (14, vi r94), (10, vi r82), (5, vi r61d), (3, V.ref 2003 0), (2, vb false)], [(2003, oc 28 [tl r61, ti r61b])]⟩) (by kernel_rfl) trivial ?_
            obtain ⟨J2, hJ2, h⟩ := jn_some h
            refine WP.joinA (fun (zz : Int) => ⟨[], [(44, vi zz), (41, vb r169b), (40, vi r169), (39, vi r163b), (38, vi r163), (35, vb r152b), (34, vl r152), (32, vi r146), (28, vi r134), (25, vb r122b), (24, vi r122), (23, vi r116b), (22, vi r116), (18, vi r105), (14, vi r94), (10, vi r82), (5, vi r61d), (2, vb false)], []⟩) (fun zz => J2 zz = some y0) ?_ ?_
            · -- to where they meet
              refine WP.seq ?_
              refine WP.path tab_ok mixed [] [.keep [45, 44, 41, 40, 39, 38, 35, 34, 32, 28, 25, 24, 23, 22, 18, 14, 10, 5, 3, 2], .keepO [2003]] (ps := []) (e := .normal) (σ' := ⟨[2003], [(45, vi 0), (44, vi 0), (41, vb r169b), (40, vi r169), (39, vi r163b), (38, vi r163), (35, vb r152b), (34, vl r152), (32, vi r146), (28, vi r134), (25, vb r122b), (24, vi r122), (23, vi r116b), (22, vi r116), (18, vi r105), (14, vi r94), (10, vi r82), (5, vi r61d), (3, V.ref 2003 0), (2, vb false)], [(2003, oc 28 [tl r61, ti r61b])]⟩) (by kernel_rfl) trivial ?_
              refine WP.block ?_
              refine WP.wk [.keep [45, 44, 41, 40, 39, 38, 35, 34, 32, 28, 25, 24, 23, 22, 18, 14, 10, 5, 3, 2], .keepO [2003], .names [(2003, 2003)]] (σ' := ⟨[2003], [(45, vi 0), (44, vi 0), (41, vb r169b), (40, vi r169), (39, vi r163b), (38, vi r163), (35, vb r152b), (34, vl r152), (32, vi r146), (28, vi r134), (25, vb r122b), (24, vi r122), (23, vi r116b), (22, vi r116), (18, vi r105), (14, vi r94), (10, vi r82), (5, vi r61d), (3, V.ref 2003 0), (2, vb false)], [(2003, oc 28 [tl r61, ti r61b])]⟩) (ps := []) (by kernel_rfl) trivial ?_
              refine WP.st (σ' := ⟨[2003], [(45, vi (0 : Int)), (44, vi (0 : Int)), (41, vb r169b), (40, vi r169), (39, vi r163b), (38, vi r163), (35, vb r152b), (34, vl r152), (32, vi r146), (28, vi r134), (25, vb r122b), (24, vi r122), (23, vi r116b), (22, vi r116), (18, vi r105), (14, vi r94), (10, vi r82), (5, vi r61d), (3, V.ref 2003 0), (2, vb false)], [(2003, oc 28 [tl r61, ti r61b])]⟩) (by first | rfl | (simp only [tlS, tl, vl, vo, oc, ov, tbl, vbl, ty, vy]; done) | (simp only [tlS, tl, vl, vo, oc, ov, tbl, vbl, ty, vy]; rfl) | (simp; done) | (simp []; done) | (rw [List.take_of_length_le (by simp [])]; done) | (rw [List.take_of_length_le (by simp [])]; rfl) | (simp only [tlL]; omega) | (simp; omega)) ?_
              refine WP.loop (α := Nat × Int × Int) (fun zz => ⟨[2003], [(45, vi zz.2.1), (44, vi zz.2.2), (41, vb r169b), (40, vi r169), (39, vi r163b), (38, vi r163), (35, vb r152b), (34, vl r152), (32, vi r146), (28, vi r134), (25, vb r122b), (24, vi r122), (23, vi r116b), (22, vi r116), (18, vi r105), (14, vi r94), (10, vi r82), (5, vi r61d), (3, V.ref 2003 0), (2, vb false)], [(2003, oc 28 [tl r61, ti r61b])]⟩) (fun zz => F_laws_FnWeights_L1 r61 r61b r61d J2 zz.1 zz.2.1 zz.2.2 = some y0) (fun zz => zz.1) (fuel, (0 : Int), (0 : Int)) h ?_
              rintro ⟨n, v45, v44⟩ h0
              have h := (show F_laws_FnWeights_L1 r61 r61b r61d J2 n v45 v44 = some y0 from h0)
              rcases n with _ | n
              · rw [F_laws_FnWeights_L1] at h; cases h
              · rw [F_laws_FnWeights_L1] at h
                refine WP.seq ?_
                refine WP.seq ?_
                refine WP.path tab_ok mixed [] [.keep [279, 45, 44, 41, 40, 39, 38, 35, 34, 32, 28, 25, 24, 23, 22, 18, 14, 10, 5, 3, 2], .keepO [2003]] (ps := [(True), (True)]) (e := .normal) (σ' := ⟨[2003], [(279, vb (decide (v45 < ((List.length r61 : Nat) : Int)))), (45, vi v45), (44, vi v44), (41, vb r169b), (40, vi r169), (39, vi r163b), (38, vi r163), (35, vb r152b), (34, vl r152), (32, vi r146), (28, vi r134), (25, vb r122b), (24, vi r122), (23, vi r116b), (22, vi r116), (18, vi r105), (14, vi r94), (10, vi r82), (5, vi r61d), (3, V.ref 2003 0), (2, vb false)], [(2003, oc 28 [tl r61, ti r61b])]⟩) (by kernel_rfl) ⟨trivial, trivial, trivial⟩ ?_
                rcases ite_some h with ⟨h23, h⟩ | ⟨h23, h⟩
                · -- yes
                  refine WP.cond (b := decide (v45 < ((List.length r61 : Nat) : Int))) rfl (fun _ => ?_) (fun hh => by rw [h23] at hh; cases hh)
                  refine WP.path tab_ok mixed [] [.keep [45, 44, 41, 40, 39, 38, 35, 34, 32, 28, 25, 24, 23, 22, 18, 14, 10, 5, 3, 2], .keepO [2003]] (ps := []) (e := .normal) (σ' := ⟨[2003], [(45, vi v45), (44, vi v44), (41, vb r169b), (40, vi r169), (39, vi r163b), (38, vi r163), (35, vb r152b), (34, vl r152), (32, vi r146), (28, vi r134), (25, vb r122b), (24, vi r122), (23, vi r116b), (22, vi r116), (18, vi r105), (14, vi r94), (10, vi r82), (5, vi r61d), (3, V.ref 2003 0), (2, vb false)], [(2003, oc 28 [tl r61, ti r61b])]⟩) (by kernel_rfl) trivial ?_
                  refine WP.seq ?_
                  refine WP.block ?_
                  refine WP.seq ?_
                  obtain ⟨r286, r286b, c22, h⟩ := bnd2_some h
                  refine WP.path tab_ok mixed [(286, An.call (T.tup [ti r286, tb r286b]))] [.keep [47, 46, 45, 44, 41, 40, 39, 38, 35, 34, 32, 28, 25, 24, 23, 22, 18, 14, 10, 5, 3, 2], .keepO [2003]] (ps := [(0 + 2 ≤ 2), (C Try.prog 49 [T.agg [tl r61, ti r61b], ti v45, ti r61d] (T.tup [ti r286, tb r286b]))]) (e := .normal) (σ' := ⟨[2003], [(47, vb r286b), (46, vi r286), (45, vi v45), (44, vi v44), (41, vb r169b), (40, vi r169), (39, vi r163b), (38, vi r163), (35, vb r152b), (34, vl r152), (32, vi r146), (28, vi r134), (25, vb r122b), (24, vi r122), (23, vi r116b), (22, vi r116), (18, vi r105), (14, vi r94), (10, vi r82), (5, vi r61d), (3, V.ref 2003 0), (2, vb false)], [(2003, oc 28 [tl r61, ti r61b])]⟩) (by kernel_rfl) ⟨by decide, (F_impl_NumberWeight_W r61 r61b v45 r61d r286 r286b c22), trivial⟩ ?_
                  refine WP.seq ?_
                  obtain ⟨J3, hJ3, h⟩ := jn_some h
                  refine WP.joinA (fun (zz : Bool) => ⟨[2003], [(301, vb zz), (46, vi r286), (45, vi v45), (44, vi v44), (41, vb r169b), (40, vi r169), (39, vi r163b), (38, vi r163), (35, vb r152b), (34, vl r152), (32, vi r146), (28, vi r134), (25, vb r122b), (24, vi r122), (23, vi r116b), (22, vi r116), (18, vi r105), (14, vi r94), (10, vi r82), (5, vi r61d), (3, V.ref 2003 0), (2, vb false)], [(2003, oc 28 [tl r61, ti r61b])]⟩) (fun zz => J3 zz = some y0) ?_ ?_
                  · -- to where they meet
                    rcases ite_some h with ⟨h24, h⟩ | ⟨h24, h⟩
                    · -- yes
                      refine WP.path tab_ok mixed [(291, An.b true)] [.keep [301, 46, 45, 44, 41, 40, 39, 38, 35, 34, 32, 28, 25, 24, 23, 22, 18, 14, 10, 5, 3, 2], .keepO [2003], .names [(2003, 2003)]] (ps := [((!r286b) = true)]) (e := .normal) (σ' := ⟨[2003], [(301, vb true), (46, vi r286), (45, vi v45), (44, vi v44), (41, vb r169b), (40, vi r169), (39, vi r163b), (38, vi r163), (35, vb r152b), (34, vl r152), (32, vi r146), (28, vi r134), (25, vb r122b), (24, vi r122), (23, vi r116b), (22, vi r116), (18, vi r105), (14, vi r94), (10, vi r82), (5, vi r61d), (3, V.ref 2003 0), (2, vb false)], [(2003, oc 28 [tl r61, ti r61b])]⟩) (by kernel_rfl) ⟨h24, trivial⟩ ?_
                      exact ⟨(true), h, rfl⟩
                    · -- no
                      obtain ⟨c23, h⟩ := chk_some h
                      refine WP.path tab_ok mixed [(291, An.b false), (298, An.v (ti (List.getD r61 (Int.toNat v45) 0)))] [.keep [301, 46, 45, 44, 41, 40, 39, 38, 35, 34, 32, 28, 25, 24, 23, 22, 18, 14, 10, 5, 3, 2], .keepO [2003], .names [(2003, 2003)]] (ps := [((!r286b) = false), (True), (True), ((0 ≤ v45 ∧ v45 < ((List.length r61 : Nat) : Int))), ((List.drop ((Int.toNat v45) * 1) (List.map (T.int .i64) r61) : List T)[0]? = some (ti (List.getD r61 (Int.toNat v45) 0))), (ti (List.getD r61 (Int.toNat v45) 0) = ti (List.getD r61 (Int.toNat v45) 0)), (True), (True)]) (e := .normal) (σ' := ⟨[2003], [(301, vb (!((r286 == (0 : Int)) == (decide ((List.getD r61 (Int.toNat v45) 0) < (0 : Int)))))), (46, vi r286), (45, vi v45), (44, vi v44), (41, vb r169b), (40, vi r169), (39, vi r163b), (38, vi r163), (35, vb r152b), (34, vl r152), (32, vi r146), (28, vi r134), (25, vb r122b), (24, vi r122), (23, vi r116b), (22, vi r116), (18, vi r105), (14, vi r94), (10, vi r82), (5, vi r61d), (3, V.ref 2003 0), (2, vb false)], [(2003, oc 28 [tl r61, ti r61b])]⟩) (by kernel_rfl) ⟨h24, trivial, trivial, c23, at1 (by simp) (by omega), rfl, trivial, trivial, trivial⟩ ?_
                      exact ⟨(!((r286 == (0 : Int)) == (decide ((List.getD r61 (Int.toNat v45) 0) < (0 : Int))))), h, rfl⟩
                  · -- from there
                    intro v301 h0
                    have h := (show J3 v301 = some y0 from h0)
                    rw [hJ3] at h
                    rcases ite_some h with ⟨h25, h⟩ | ⟨h25, h⟩
                    · -- yes
                      refine WP.cond (b := v301) rfl (fun _ => ?_) (fun hh => by rw [h25] at hh; cases hh)
                      have h := Option.some.inj h
                      subst h
                      exact WP.pathW tab_ok mixed [] _ (ps := []) (r := tb false) (by kernel_rfl) trivial (WkT.eq (y := tb false) (WkT.refl _) rfl) (fun _ h => h)
                    · -- no
                      refine WP.cond (b := v301) rfl (fun hh => by rw [h25] at hh; cases hh) (fun _ => ?_)
                      refine WP.path tab_ok mixed [] [.keep [46, 45, 44, 41, 40, 39, 38, 35, 34, 32, 28, 25, 24, 23, 22, 18, 14, 10, 5, 3, 2], .keepO [2003]] (ps := []) (e := .normal) (σ' := ⟨[2003], [(46, vi r286), (45, vi v45), (44, vi v44), (41, vb r169b), (40, vi r169), (39, vi r163b), (38, vi r163), (35, vb r152b), (34, vl r152), (32, vi r146), (28, vi r134), (25, vb r122b), (24, vi r122), (23, vi r116b), (22, vi r116), (18, vi r105), (14, vi r94), (10, vi r82), (5, vi r61d), (3, V.ref 2003 0), (2, vb false)], [(2003, oc 28 [tl r61, ti r61b])]⟩) (by kernel_rfl) trivial ?_
                      obtain ⟨c23, h⟩ := chk_some h
                      refine WP.path tab_ok mixed [(304, An.v (T.int .i64 (v44 + r286)))] [.keep [44, 45, 41, 40, 39, 38, 35, 34, 32, 28, 25, 24, 23, 22, 18, 14, 10, 5, 3, 2], .keepO [2003]] (ps := [(True), (T.int .i64 (IntKind.wrap .i64 (v44 + r286)) = T.int .i64 (v44 + r286))]) (e := .normal) (σ' := ⟨[2003], [(44, vi (v44 + r286)), (45, vi v45), (41, vb r169b), (40, vi r169), (39, vi r163b), (38, vi r163), (35, vb r152b), (34, vl r152), (32, vi r146), (28, vi r134), (25, vb r122b), (24, vi r122), (23, vi r116b), (22, vi r116), (18, vi r105), (14, vi r94), (10, vi r82), (5, vi r61d), (3, V.ref 2003 0), (2, vb false)], [(2003, oc 28 [tl r61, ti r61b])]⟩) (by kernel_rfl) ⟨trivial, wrapI c23, trivial⟩ ?_
                      obtain ⟨c24, h⟩ := chk_some h
                      refine WP.path tab_ok mixed [(281, An.v (T.int .i64 (v45 + (1 : Int))))] [.keep [45, 44, 41, 40, 39, 38, 35, 34, 32, 28, 25, 24, 23, 22, 18, 14, 10, 5, 3, 2], .keepO [2003], .names [(2003, 2003)]] (ps := [(True), (T.int .i64 (IntKind.wrap .i64 (v45 + (1 : Int))) = T.int .i64 (v45 + (1 : Int)))]) (e := .normal) (σ' := ⟨[2003], [(45, vi (v45 + (1 : Int))), (44, vi (v44 + r286)), (41, vb r169b), (40, vi r169), (39, vi r163b), (38, vi r163), (35, vb r152b), (34, vl r152), (32, vi r146), (28, vi r134), (25, vb r122b), (24, vi r122), (23, vi r116b), (22, vi r116), (18, vi r105), (14, vi r94), (10, vi r82), (5, vi r61d), (3, V.ref 2003 0), (2, vb false)], [(2003, oc 28 [tl r61, ti r61b])]⟩) (by kernel_rfl) ⟨trivial, wrapI c24, trivial⟩ ?_
                      exact ⟨(n, (v45 + (1 : Int)), (v44 + r286)), h, Nat.lt_succ_self _, rfl⟩
                · -- no
                  refine WP.cond (b := decide (v45 < ((List.length r61 : Nat) : Int))) rfl (fun hh => by rw [h23] at hh; cases hh) (fun _ => ?_)
                  refine WP.path tab_ok mixed [] [.keep [44, 41, 40, 39, 38, 35, 34, 32, 28, 25, 24, 23, 22, 18, 14, 10, 5, 2], .keepO [], .names []] (ps := []) (e := (.exit 0)) (σ' := ⟨[], [(44, vi v44), (41, vb r169b), (40, vi r169), (39, vi r163b), (38, vi r163), (35, vb r152b), (34, vl r152), (32, vi r146), (28, vi r134), (25, vb r122b), (24, vi r122), (23, vi r116b), (22, vi r116), (18, vi r105), (14, vi r94), (10, vi r82), (5, vi r61d), (2, vb false)], []⟩) (by kernel_rfl) trivial ?_
                  exact ⟨(v44), h, rfl⟩
            · -- from there
              intro v44 h0
              have h := (show J2 v44 = some y0 from h0)
              rw [hJ2] at h
              obtain ⟨J2, hJ2, h⟩ := jn_some h
              refine WP.joinA (fun (zz : Bool) => ⟨[], [(338, vb zz), (41, vb r169b), (40, vi r169), (39, vi r163b), (38, vi r163), (35, vb r152b), (34, vl r152), (32, vi r146), (28, vi r134), (25, vb r122b), (24, vi r122), (23, vi r116b), (22, vi r116), (2, vb false)], []⟩) (fun zz => J2 zz = some y0) ?_ ?_
              · -- to where they meet
                rcases ite_some h with ⟨h26, h⟩ | ⟨h26, h⟩
                · -- yes
                  refine WP.path tab_ok mixed [(307, An.b true)] [.keep [338, 41, 40, 39, 38, 35, 34, 32, 28, 25, 24, 23, 22, 2], .keepO [], .names []] (ps := [(True), ((v44 != r82) = true)]) (e := .normal) (σ' := ⟨[], [(338, vb true), (41, vb r169b), (40, vi r169), (39, vi r163b), (38, vi r163), (35, vb r152b), (34, vl r152), (32, vi r146), (28, vi r134), (25, vb r122b), (24, vi r122), (23, vi r116b), (22, vi r116), (2, vb false)], []⟩) (by kernel_rfl) ⟨trivial, h26, trivial⟩ ?_
                  exact ⟨(true), h, rfl⟩
                · -- no
                  obtain ⟨c22, h⟩ := chk_some h
                  obtain ⟨c23, h⟩ := chk_some h
                  rcases ite_some h with ⟨h27, h⟩ | ⟨h27, h⟩
                  · -- yes
                    refine WP.path tab_ok mixed [(307, An.b false), (311, An.v (T.int .i64 ((1 : Int) * 2 ^ Int.toNat r61d))), (313, An.v (T.int .i64 (((1 : Int) * 2 ^ Int.toNat r61d) - r82))), (314, An.b true)] [.keep [338, 41, 40, 39, 38, 35, 34, 32, 28, 25, 24, 23, 22, 2], .keepO [], .names []] (ps := [(True), ((v44 != r82) = false), (0 ≤ r61d), (T.int .i64 (IntKind.wrap .i64 ((1 : Int) * 2 ^ (min (Int.toNat r61d) 64))) = T.int .i64 ((1 : Int) * 2 ^ Int.toNat r61d)), (True), (T.int .i64 (IntKind.wrap .i64 (((1 : Int) * 2 ^ Int.toNat r61d) - r82)) = T.int .i64 (((1 : Int) * 2 ^ Int.toNat r61d) - r82)), (True), ((r94 != (((1 : Int) * 2 ^ Int.toNat r61d) - r82)) = true)]) (e := .normal) (σ' := ⟨[], [(338, vb true), (41, vb r169b), (40, vi r169), (39, vi r163b), (38, vi r163), (35, vb r152b), (34, vl r152), (32, vi r146), (28, vi r134), (25, vb r122b), (24, vi r122), (23, vi r116b), (22, vi r116), (2, vb false)], []⟩) (by kernel_rfl) ⟨trivial, h26, c22.1, shl_told c22, trivial, wrapI c23, trivial, h27, trivial⟩ ?_
                    exact ⟨(true), h, rfl⟩
                  · -- no
                    rcases ite_some h with ⟨h28, h⟩ | ⟨h28, h⟩
                    · -- yes
                      rcases ite_some h with ⟨h29, h⟩ | ⟨h29, h⟩
                      · -- yes
                        refine WP.path tab_ok mixed [(307, An.b false), (311, An.v (T.int .i64 ((1 : Int) * 2 ^ Int.toNat r61d))), (313, An.v (T.int .i64 (((1 : Int) * 2 ^ Int.toNat r61d) - r82))), (314, An.b false), (319, An.b true), (322, An.b true)] [.keep [338, 41, 40, 39, 38, 35, 34, 32, 28, 25, 24, 23, 22, 2], .keepO [], .names []] (ps := [(True), ((v44 != r82) = false), (0 ≤ r61d), (T.int .i64 (IntKind.wrap .i64 ((1 : Int) * 2 ^ (min (Int.toNat r61d) 64))) = T.int .i64 ((1 : Int) * 2 ^ Int.toNat r61d)), (True), (T.int .i64 (IntKind.wrap .i64 (((1 : Int) * 2 ^ Int.toNat r61d) - r82)) = T.int .i64 (((1 : Int) * 2 ^ Int.toNat r61d) - r82)), (True), ((r94 != (((1 : Int) * 2 ^ Int.toNat r61d) - r82)) = false), (True), ((decide (r61d ≥ r105)) = true), (True), ((decide (r94 < (0 : Int))) = true)]) (e := .normal) (σ' := ⟨[], [(338, vb true), (41, vb r169b), (40, vi r169), (39, vi r163b), (38, vi r163), (35, vb r152b), (34, vl r152), (32, vi r146), (28, vi r134), (25, vb r122b), (24, vi r122), (23, vi r116b), (22, vi r116), (2, vb false)], []⟩) (by kernel_rfl) ⟨trivial, h26, c22.1, shl_told c22, trivial, wrapI c23, trivial, h27, trivial, h28, trivial, h29, trivial⟩ ?_
                        exact ⟨(true), h, rfl⟩
                      · -- no
                        rcases ite_some h with ⟨h30, h⟩ | ⟨h30, h⟩
                        · -- yes
                          obtain ⟨c24, h⟩ := chk_some h
                          rcases ite_some h with ⟨h31, h⟩ | ⟨h31, h⟩
                          · -- yes
                            refine WP.path tab_ok mixed [(307, An.b false), (311, An.v (T.int .i64 ((1 : Int) * 2 ^ Int.toNat r61d))), (313, An.v (T.int .i64 (((1 : Int) * 2 ^ Int.toNat r61d) - r82))), (314, An.b false), (319, An.b true), (322, An.b false), (327, An.b true), (331, An.v (T.int .i64 (r105 - (1 : Int)))), (332, An.b true)] [.keep [338, 41, 40, 39, 38, 35, 34, 32, 28, 25, 24, 23, 22, 2], .keepO [], .names []] (ps := [(True), ((v44 != r82) = false), (0 ≤ r61d), (T.int .i64 (IntKind.wrap .i64 ((1 : Int) * 2 ^ (min (Int.toNat r61d) 64))) = T.int .i64 ((1 : Int) * 2 ^ Int.toNat r61d)), (True), (T.int .i64 (IntKind.wrap .i64 (((1 : Int) * 2 ^ Int.toNat r61d) - r82)) = T.int .i64 (((1 : Int) * 2 ^ Int.toNat r61d) - r82)), (True), ((r94 != (((1 : Int) * 2 ^ Int.toNat r61d) - r82)) = false), (True), ((decide (r61d ≥ r105)) = true), (True), ((decide (r94 < (0 : Int))) = false), (True), ((decide (r105 > (0 : Int))) = true), (True), (T.int .i64 (IntKind.wrap .i64 (r105 - (1 : Int))) = T.int .i64 (r105 - (1 : Int))), (True), ((r61d == (r105 - (1 : Int))) = true), (True)]) (e := .normal) (σ' := ⟨[], [(338, vb (decide (r94 ≥ (0 : Int)))), (41, vb r169b), (40, vi r169), (39, vi r163b), (38, vi r163), (35, vb r152b), (34, vl r152), (32, vi r146), (28, vi r134), (25, vb r122b), (24, vi r122), (23, vi r116b), (22, vi r116), (2, vb false)], []⟩) (by kernel_rfl) ⟨trivial, h26, c22.1, shl_told c22, trivial, wrapI c23, trivial, h27, trivial, h28, trivial, h29, trivial, h30, trivial, wrapI c24, trivial, h31, trivial, trivial⟩ ?_
                            exact ⟨(decide (r94 ≥ (0 : Int))), h, rfl⟩
                          · -- no
                            refine WP.path tab_ok mixed [(307, An.b false), (311, An.v (T.int .i64 ((1 : Int) * 2 ^ Int.toNat r61d))), (313, An.v (T.int .i64 (((1 : Int) * 2 ^ Int.toNat r61d) - r82))), (314, An.b false), (319, An.b true), (322, An.b false), (327, An.b true), (331, An.v (T.int .i64 (r105 - (1 : Int)))), (332, An.b false)] [.keep [338, 41, 40, 39, 38, 35, 34, 32, 28, 25, 24, 23, 22, 2], .keepO [], .names []] (ps := [(True), ((v44 != r82) = false), (0 ≤ r61d), (T.int .i64 (IntKind.wrap .i64 ((1 : Int) * 2 ^ (min (Int.toNat r61d) 64))) = T.int .i64 ((1 : Int) * 2 ^ Int.toNat r61d)), (True), (T.int .i64 (IntKind.wrap .i64 (((1 : Int) * 2 ^ Int.toNat r61d) - r82)) = T.int .i64 (((1 : Int) * 2 ^ Int.toNat r61d) - r82)), (True), ((r94 != (((1 : Int) * 2 ^ Int.toNat r61d) - r82)) = false), (True), ((decide (r61d ≥ r105)) = true), (True), ((decide (r94 < (0 : Int))) = false), (True), ((decide (r105 > (0 : Int))) = true), (True), (T.int .i64 (IntKind.wrap .i64 (r105 - (1 : Int))) = T.int .i64 (r105 - (1 : Int))), (True), ((r61d == (r105 - (1 : Int))) = false)]) (e := .normal) (σ' := ⟨[], [(338, vb false), (41, vb r169b), (40, vi r169), (39, vi r163b), (38, vi r163), (35, vb r152b), (34, vl r152), (32, vi r146), (28, vi r134), (25, vb r122b), (24, vi r122), (23, vi r116b), (22, vi r116), (2, vb false)], []⟩) (by kernel_rfl) ⟨trivial, h26, c22.1, shl_told c22, trivial, wrapI c23, trivial, h27, trivial, h28, trivial, h29, trivial, h30, trivial, wrapI c24, trivial, h31, trivial⟩ ?_
                            exact ⟨(false), h, rfl⟩
                        · -- no
                          refine WP.path tab_ok mixed [(307, An.b false), (311, An.v (T.int .i64 ((1 : Int) * 2 ^ Int.toNat r61d))), (313, An.v (T.int .i64 (((1 : Int) * 2 ^ Int.toNat r61d) - r82))), (314, An.b false), (319, An.b true), (322, An.b false), (327, An.b false)] [.keep [338, 41, 40, 39, 38, 35, 34, 32, 28, 25, 24, 23, 22, 2], .keepO [], .names []] (ps := [(True), ((v44 != r82) = false), (0 ≤ r61d), (T.int .i64 (IntKind.wrap .i64 ((1 : Int) * 2 ^ (min (Int.toNat r61d) 64))) = T.int .i64 ((1 : Int) * 2 ^ Int.toNat r61d)), (True), (T.int .i64 (IntKind.wrap .i64 (((1 : Int) * 2 ^ Int.toNat r61d) - r82)) = T.int .i64 (((1 : Int) * 2 ^ Int.toNat r61d) - r82)), (True), ((r94 != (((1 : Int) * 2 ^ Int.toNat r61d) - r82)) = false), (True), ((decide (r61d ≥ r105)) = true), (True), ((decide (r94 < (0 : Int))) = false), (True), ((decide (r105 > (0 : Int))) = false)]) (e := .normal) (σ' := ⟨[], [(338, vb false), (41, vb r169b), (40, vi r169), (39, vi r163b), (38, vi r163), (35, vb r152b), (34, vl r152), (32, vi r146), (28, vi r134), (25, vb r122b), (24, vi r122), (23, vi r116b), (22, vi r116), (2, vb false)], []⟩) (by kernel_rfl) ⟨trivial, h26, c22.1, shl_told c22, trivial, wrapI c23, trivial, h27, trivial, h28, trivial, h29, trivial, h30, trivial⟩ ?_
                          exact ⟨(false), h, rfl⟩
                    · -- no
                      rcases ite_some h with ⟨h32, h⟩ | ⟨h32, h⟩
                      · -- yes
                        obtain ⟨c24, h⟩ := chk_some h
                        rcases ite_some h with ⟨h33, h⟩ | ⟨h33, h⟩
                        · -- yes
                          refine WP.path tab_ok mixed [(307, An.b false), (311, An.v (T.int .i64 ((1 : Int) * 2 ^ Int.toNat r61d))), (313, An.v (T.int .i64 (((1 : Int) * 2 ^ Int.toNat r61d) - r82))), (314, An.b false), (319, An.b false), (327, An.b true), (331, An.v (T.int .i64 (r105 - (1 : Int)))), (332, An.b true)] [.keep [338, 41, 40, 39, 38, 35, 34, 32, 28, 25, 24, 23, 22, 2], .keepO [], .names []] (ps := [(True), ((v44 != r82) = false), (0 ≤ r61d), (T.int .i64 (IntKind.wrap .i64 ((1 : Int) * 2 ^ (min (Int.toNat r61d) 64))) = T.int .i64 ((1 : Int) * 2 ^ Int.toNat r61d)), (True), (T.int .i64 (IntKind.wrap .i64 (((1 : Int) * 2 ^ Int.toNat r61d) - r82)) = T.int .i64 (((1 : Int) * 2 ^ Int.toNat r61d) - r82)), (True), ((r94 != (((1 : Int) * 2 ^ Int.toNat r61d) - r82)) = false), (True), ((decide (r61d ≥ r105)) = false), (True), ((decide (r105 > (0 : Int))) = true), (True), (T.int .i64 (IntKind.wrap .i64 (r105 - (1 : Int))) = T.int .i64 (r105 - (1 : Int))), (True), ((r61d == (r105 - (1 : Int))) = true), (True)]) (e := .normal) (σ' := ⟨[], [(338, vb (decide (r94 ≥ (0 : Int)))), (41, vb r169b), (40, vi r169), (39, vi r163b), (38, vi r163), (35, vb r152b), (34, vl r152), (32, vi r146), (28, vi r134), (25, vb r122b), (24, vi r122), (23, vi r116b), (22, vi r116), (2, vb false)], []⟩) (by kernel_rfl) ⟨trivial, h26, c22.1, shl_told c22, trivial, wrapI c23, trivial, h27, trivial, h28, trivial, h32, trivial, wrapI c24, trivial, h33, trivial, trivial⟩ ?_
                          exact ⟨(decide (r94 ≥ (0 : Int))), h, rfl⟩
                        · -- no
                          refine WP.path tab_ok mixed [(307, An.b false), (311, An.v (T.int .i64 ((1 : Int) * 2 ^ Int.toNat r61d))), (313, An.v (T.int .i64 (((1 : Int) * 2 ^ Int.toNat r61d) - r82))), (314, An.b false), (319, An.b false), (327, An.b true), (331, An.v (T.int .i64 (r105 - (1 : Int)))), (332, An.b false)] [.keep [338, 41, 40, 39, 38, 35, 34, 32, 28, 25, 24, 23, 22, 2], .keepO [], .names []] (ps := [(True), ((v44 != r82) = false), (0 ≤ r61d), (T.int .i64 (IntKind.wrap .i64 ((1 : Int) * 2 ^ (min (Int.toNat r61d) 64))) = T.int .i64 ((1 : Int) * 2 ^ Int.toNat r61d)), (True), (T.int .i64 (IntKind.wrap .i64 (((1 : Int) * 2 ^ Int.toNat r61d) - r82)) = T.int .i64 (((1 : Int) * 2 ^ Int.toNat r61d) - r82)), (True), ((r94 != (((1 : Int) * 2 ^ Int.toNat r61d) - r82)) = false), (True), ((decide (r61d ≥ r105)) = false), (True), ((decide (r105 > (0 : Int))) = true), (True), (T.int .i64 (IntKind.wrap .i64 (r105 - (1 : Int))) = T.int .i64 (r105 - (1 : Int))), (True), ((r61d == (r105 - (1 : Int))) = false)]) (e := .normal) (σ' := ⟨[], [(338, vb false), (41, vb r169b), (40, vi r169), (39, vi r163b), (38, vi r163), (35, vb r152b), (34, vl r152), (32, vi r146), (28, vi r134), (25, vb r122b), (24, vi r122), (23, vi r116b), (22, vi r116), (2, vb false)], []⟩) (by kernel_rfl) ⟨trivial, h26, c22.1, shl_told c22, trivial, wrapI c23, trivial, h27, trivial, h28, trivial, h32, trivial, wrapI c24, trivial, h33, trivial⟩ ?_
                          exact ⟨(false), h, rfl⟩
                      · -- no
                        refine WP.path tab_ok mixed [(307, An.b false), (311, An.v (T.int .i64 ((1 : Int) * 2 ^ Int.toNat r61d))), (313, An.v (T.int .i64 (((1 : Int) * 2 ^ Int.toNat r61d) - r82))), (314, An.b false), (319, An.b false), (327, An.b false)] [.keep [338, 41, 40, 39, 38, 35, 34, 32, 28, 25, 24, 23, 22, 2], .keepO [], .names []] (ps := [(True), ((v44 != r82) = false), (0 ≤ r61d), (T.int .i64 (IntKind.wrap .i64 ((1 : Int) * 2 ^ (min (Int.toNat r61d) 64))) = T.int .i64 ((1 : Int) * 2 ^ Int.toNat r61d)), (True), (T.int .i64 (IntKind.wrap .i64 (((1 : Int) * 2 ^ Int.toNat r61d) - r82)) = T.int .i64 (((1 : Int) * 2 ^ Int.toNat r61d) - r82)), (True), ((r94 != (((1 : Int) * 2 ^ Int.toNat r61d) - r82)) = false), (True), ((decide (r61d ≥ r105)) = false), (True), ((decide (r105 > (0 : Int))) = false)]) (e := .normal) (σ' := ⟨[], [(338, vb false), (41, vb r169b), (40, vi r169), (39, vi r163b), (38, vi r163), (35, vb r152b), (34, vl r152), (32, vi r146), (28, vi r134), (25, vb r122b), (24, vi r122), (23, vi r116b), (22, vi r116), (2, vb false)], []⟩) (by kernel_rfl) ⟨trivial, h26, c22.1, shl_told c22, trivial, wrapI c23, trivial, h27, trivial, h28, trivial, h32, trivial⟩ ?_
                        exact ⟨(false), h, rfl⟩
              · -- from there
                intro v338 h0
                have h := (show J2 v338 = some y0 from h0)
                rw [hJ2] at h
                rcases ite_some h with ⟨h34, h⟩ | ⟨h34, h⟩
                · -- yes
                  refine WP.cond (b := v338) rfl (fun _ => ?_) (fun hh => by rw [h34] at hh; cases hh)
                  have h := Option.some.inj h
                  subst h
                  exact WP.pathW tab_ok mixed [] _ (ps := []) (r := tb false) (by kernel_rfl) trivial (WkT.eq (y := tb false) (WkT.refl _) rfl) (fun _ h => h)
                · -- no
                  refine WP.cond (b := v338) rfl (fun hh => by rw [h34] at hh; cases hh) (fun _ => ?_)
                  refine WP.path tab_ok mixed [] [.keep [41, 40, 39, 38, 35, 34, 32, 28, 25, 24, 23, 22, 2], .keepO [], .names []] (ps := []) (e := .normal) (σ' := ⟨[], [(41, vb r169b), (40, vi r169), (39, vi r163b), (38, vi r163), (35, vb r152b), (34, vl r152), (32, vi r146), (28, vi r134), (25, vb r122b), (24, vi r122), (23, vi r116b), (22, vi r116), (2, vb false)], []⟩) (by kernel_rfl) trivial ?_
                  exact ⟨(), h, rfl⟩
          · -- no
            refine WP.cond (b := r82b) rfl (fun hh => by rw [h22] at hh; cases hh) (fun _ => ?_)
            refine WP.path tab_ok mixed [] [.keep [41, 40, 39, 38, 35, 34, 32, 28, 25, 24, 23, 22, 2], .keepO [], .names []] (ps := []) (e := .normal) (σ' := ⟨[], [(41, vb r169b), (40, vi r169), (39, vi r163b), (38, vi r163), (35, vb r152b), (34, vl r152), (32, vi r146), (28, vi r134), (25, vb r122b), (24, vi r122), (23, vi r116b), (22, vi r116), (2, vb false)], []⟩) (by kernel_rfl) trivial ?_
            exact ⟨(), h, rfl⟩
        · -- from there
          intro _ h0
          have h := (show J1 () = some y0 from h0)
          rw [hJ1] at h
          obtain ⟨J1, hJ1, h⟩ := jn_some h
          refine WP.joinA (fun (zz : Unit) => ⟨[], [(41, vb r169b), (40, vi r169), (39, vi r163b), (38, vi r163), (35, vb r152b), (34, vl r152), (32, vi r146), (2, vb false)], []⟩) (fun zz => J1 () = some y0) ?_ ?_
          · -- to where they meet
            refine WP.seq ?_
            refine WP.path tab_ok mixed [] [.keep [339, 41, 40, 39, 38, 35, 34, 32, 28, 24, 23, 22, 2], .keepO []] (ps := []) (e := .normal) (σ' := ⟨[], [(339, vb r122b), (41, vb r169b), (40, vi r169), (39, vi r163b), (38, vi r163), (35, vb r152b), (34, vl r152), (32, vi r146), (28, vi r134), (24, vi r122), (23, vi r116b), (22, vi r116), (2, vb false)], []⟩) (by kernel_rfl) trivial ?_
            rcases ite_some h with ⟨h35, h⟩ | ⟨h35, h⟩
            · -- yes
              refine WP.cond (b := r122b) rfl (fun _ => ?_) (fun hh => by rw [h35] at hh; cases hh)
              refine WP.seq ?_
              obtain ⟨J2, hJ2, h⟩ := jn_some h
              refine WP.joinA (fun (zz : Bool) => ⟨[], [(349, vb zz), (41, vb r169b), (40, vi r169), (39, vi r163b), (38, vi r163), (35, vb r152b), (34, vl r152), (32, vi r146), (28, vi r134), (24, vi r122), (23, vi r116b), (22, vi r116), (2, vb false)], []⟩) (fun zz => J2 zz = some y0) ?_ ?_
              · -- to where they meet
                rcases ite_some h with ⟨h36, h⟩ | ⟨h36, h⟩
                · -- yes
                  rcases ite_some h with ⟨h37, h⟩ | ⟨h37, h⟩
                  · -- yes
                    refine WP.path tab_ok mixed [(341, An.b true), (344, An.b true)] [.keep [349, 41, 40, 39, 38, 35, 34, 32, 28, 24, 23, 22, 2], .keepO [], .names []] (ps := [(True), ((r116b == (0 : Int)) = true), (True), ((r134 != (1 : Int)) = true)]) (e := .normal) (σ' := ⟨[], [(349, vb true), (41, vb r169b), (40, vi r169), (39, vi r163b), (38, vi r163), (35, vb r152b), (34, vl r152), (32, vi r146), (28, vi r134), (24, vi r122), (23, vi r116b), (22, vi r116), (2, vb false)], []⟩) (by kernel_rfl) ⟨trivial, h36, trivial, h37, trivial⟩ ?_
                    exact ⟨(true), h, rfl⟩
                  · -- no
                    refine WP.path tab_ok mixed [(341, An.b true), (344, An.b false)] [.keep [349, 41, 40, 39, 38, 35, 34, 32, 28, 24, 23, 22, 2], .keepO [], .names []] (ps := [(True), ((r116b == (0 : Int)) = true), (True), ((r134 != (1 : Int)) = false), (True)]) (e := .normal) (σ' := ⟨[], [(349, vb (r122 != (1 : Int))), (41, vb r169b), (40, vi r169), (39, vi r163b), (38, vi r163), (35, vb r152b), (34, vl r152), (32, vi r146), (28, vi r134), (24, vi r122), (23, vi r116b), (22, vi r116), (2, vb false)], []⟩) (by kernel_rfl) ⟨trivial, h36, trivial, h37, trivial, trivial⟩ ?_
                    exact ⟨(r122 != (1 : Int)), h, rfl⟩
                · -- no
                  refine WP.path tab_ok mixed [(341, An.b false)] [.keep [349, 41, 40, 39, 38, 35, 34, 32, 28, 24, 23, 22, 2], .keepO [], .names []] (ps := [(True), ((r116b == (0 : Int)) = false)]) (e := .normal) (σ' := ⟨[], [(349, vb false), (41, vb r169b), (40, vi r169), (39, vi r163b), (38, vi r163), (35, vb r152b), (34, vl r152), (32, vi r146), (28, vi r134), (24, vi r122), (23, vi r116b), (22, vi r116), (2, vb false)], []⟩) (by kernel_rfl) ⟨trivial, h36, trivial⟩ ?_
                  exact ⟨(false), h, rfl⟩
              · -- from there
                intro v349 h0
                have h := (show J2 v349 = some y0 from h0)
                rw [hJ2] at h
                rcases ite_some h with ⟨h38, h⟩ | ⟨h38, h⟩
                · -- yes
                  refine WP.cond (b := v349) rfl (fun _ => ?_) (fun hh => by rw [h38] at hh; cases hh)
                  have h := Option.some.inj h
                  subst h
                  exact WP.pathW tab_ok mixed [] _ (ps := []) (r := tb false) (by kernel_rfl) trivial (WkT.eq (y := tb false) (WkT.refl _) rfl) (fun _ h => h)
                · -- no
                  refine WP.cond (b := v349) rfl (fun hh => by rw [h38] at hh; cases hh) (fun _ => ?_)
                  refine WP.path tab_ok mixed [] [.keep [41, 40, 39, 38, 35, 34, 32, 28, 24, 23, 22, 2], .keepO []] (ps := []) (e := .normal) (σ' := ⟨[], [(41, vb r169b), (40, vi r169), (39, vi r163b), (38, vi r163), (35, vb r152b), (34, vl r152), (32, vi r146), (28, vi r134), (24, vi r122), (23, vi r116b), (22, vi r116), (2, vb false)], []⟩) (by kernel_rfl) trivial ?_
                  obtain ⟨J2, hJ2, h⟩ := jn_some h
                  refine WP.joinA (fun (zz : Unit) => ⟨[], [(41, vb r169b), (40, vi r169), (39, vi r163b), (38, vi r163), (35, vb r152b), (34, vl r152), (32, vi r146), (28, vi r134), (23, vi r116b), (22, vi r116), (2, vb false)], []⟩) (fun zz => J2 () = some y0) ?_ ?_
                  · -- to where they meet
                    refine WP.seq ?_
                    refine WP.path tab_ok mixed [] [.keep [351, 41, 40, 39, 38, 35, 34, 32, 28, 24, 23, 22, 2], .keepO []] (ps := [(True)]) (e := .normal) (σ' := ⟨[], [(351, vb (decide (r116b > (0 : Int)))), (41, vb r169b), (40, vi r169), (39, vi r163b), (38, vi r163), (35, vb r152b), (34, vl r152), (32, vi r146), (28, vi r134), (24, vi r122), (23, vi r116b), (22, vi r116), (2, vb false)], []⟩) (by kernel_rfl) ⟨trivial, trivial⟩ ?_
                    rcases ite_some h with ⟨h39, h⟩ | ⟨h39, h⟩
                    · -- yes
                      refine WP.cond (b := decide (r116b > (0 : Int))) rfl (fun _ => ?_) (fun hh => by rw [h39] at hh; cases hh)
                      refine WP.seq ?_
                      obtain ⟨c22, h⟩ := chk_some h
                      obtain ⟨r356, r356b, c23, h⟩ := bnd2_some h
                      refine WP.path tab_ok mixed [(355, An.v (T.int .i64 (r116b - (1 : Int)))), (356, An.call (T.tup [ti r356, tb r356b]))] [.keep [49, 48, 41, 40, 39, 38, 35, 34, 32, 28, 24, 23, 22, 2], .keepO []] (ps := [(True), (T.int .i64 (IntKind.wrap .i64 (r116b - (1 : Int))) = T.int .i64 (r116b - (1 : Int))), (C Try.prog 60 [ti r116, ti (r116b - (1 : Int))] (T.tup [ti r356, tb r356b]))]) (e := .normal) (σ' := ⟨[], [(49, vb r356b), (48, vi r356), (41, vb r169b), (40, vi r169), (39, vi r163b), (38, vi r163), (35, vb r152b), (34, vl r152), (32, vi r146), (28, vi r134), (24, vi r122), (23, vi r116b), (22, vi r116), (2, vb false)], []⟩) (by kernel_rfl) ⟨trivial, wrapI c22, (F_impl_BallOf_W r116 (r116b - (1 : Int)) r356 r356b c23), trivial⟩ ?_
                      obtain ⟨J3, hJ3, h⟩ := jn_some h
                      refine WP.joinA (fun (zz : Bool) => ⟨[], [(367, vb zz), (41, vb r169b), (40, vi r169), (39, vi r163b), (38, vi r163), (35, vb r152b), (34, vl r152), (32, vi r146), (28, vi r134), (23, vi r116b), (22, vi r116), (2, vb false)], []⟩) (fun zz => J3 zz = some y0) ?_ ?_
                      · -- to where they meet
                        rcases ite_some h with ⟨h40, h⟩ | ⟨h40, h⟩
                        · -- yes
                          refine WP.path tab_ok mixed [(361, An.b true)] [.keep [367, 41, 40, 39, 38, 35, 34, 32, 28, 23, 22, 2], .keepO [], .names []] (ps := [((!r356b) = true)]) (e := .normal) (σ' := ⟨[], [(367, vb true), (41, vb r169b), (40, vi r169), (39, vi r163b), (38, vi r163), (35, vb r152b), (34, vl r152), (32, vi r146), (28, vi r134), (23, vi r116b), (22, vi r116), (2, vb false)], []⟩) (by kernel_rfl) ⟨h40, trivial⟩ ?_
                          exact ⟨(true), h, rfl⟩
                        · -- no
                          obtain ⟨c24, h⟩ := chk_some h
                          refine WP.path tab_ok mixed [(361, An.b false), (364, An.v (T.int .i64 (r356 + r122)))] [.keep [367, 41, 40, 39, 38, 35, 34, 32, 28, 23, 22, 2], .keepO [], .names []] (ps := [((!r356b) = false), (True), (T.int .i64 (IntKind.wrap .i64 (r356 + r122)) = T.int .i64 (r356 + r122)), (True)]) (e := .normal) (σ' := ⟨[], [(367, vb ((r356 + r122) != r134)), (41, vb r169b), (40, vi r169), (39, vi r163b), (38, vi r163), (35, vb r152b), (34, vl r152), (32, vi r146), (28, vi r134), (23, vi r116b), (22, vi r116), (2, vb false)], []⟩) (by kernel_rfl) ⟨h40, trivial, wrapI c24, trivial, trivial⟩ ?_
                          exact ⟨((r356 + r122) != r134), h, rfl⟩
                      · -- from there
                        intro v367 h0
                        have h := (show J3 v367 = some y0 from h0)
                        rw [hJ3] at h
                        rcases ite_some h with ⟨h41, h⟩ | ⟨h41, h⟩
                        · -- yes
                          refine WP.cond (b := v367) rfl (fun _ => ?_) (fun hh => by rw [h41] at hh; cases hh)
                          have h := Option.some.inj h
                          subst h
                          exact WP.pathW tab_ok mixed [] _ (ps := []) (r := tb false) (by kernel_rfl) trivial (WkT.eq (y := tb false) (WkT.refl _) rfl) (fun _ h => h)
                        · -- no
                          refine WP.cond (b := v367) rfl (fun hh => by rw [h41] at hh; cases hh) (fun _ => ?_)
                          refine WP.path tab_ok mixed [] [.keep [41, 40, 39, 38, 35, 34, 32, 28, 23, 22, 2], .keepO [], .names []] (ps := []) (e := .normal) (σ' := ⟨[], [(41, vb r169b), (40, vi r169), (39, vi r163b), (38, vi r163), (35, vb r152b), (34, vl r152), (32, vi r146), (28, vi r134), (23, vi r116b), (22, vi r116), (2, vb false)], []⟩) (by kernel_rfl) trivial ?_
                          exact ⟨(), h, rfl⟩
                    · -- no
                      refine WP.cond (b := decide (r116b > (0 : Int))) rfl (fun hh => by rw [h39] at hh; cases hh) (fun _ => ?_)
                      refine WP.path tab_ok mixed [] [.keep [41, 40, 39, 38, 35, 34, 32, 28, 23, 22, 2], .keepO [], .names []] (ps := []) (e := .normal) (σ' := ⟨[], [(41, vb r169b), (40, vi r169), (39, vi r163b), (38, vi r163), (35, vb r152b), (34, vl r152), (32, vi r146), (28, vi r134), (23, vi r116b), (22, vi r116), (2, vb false)], []⟩) (by kernel_rfl) trivial ?_
                      exact ⟨(), h, rfl⟩
                  · -- from there
                    intro _ h0
                    have h := (show J2 () = some y0 from h0)
                    rw [hJ2] at h
                    obtain ⟨J2, hJ2, h⟩ := jn_some h
                    refine WP.joinA (fun (zz : Bool) => ⟨[], [(376, vb zz), (41, vb r169b), (40, vi r169), (39, vi r163b), (38, vi r163), (35, vb r152b), (34, vl r152), (32, vi r146), (2, vb false)], []⟩) (fun zz => J2 zz = some y0) ?_ ?_
                    · -- to where they meet
                      rcases ite_some h with ⟨h42, h⟩ | ⟨h42, h⟩
                      · -- yes
                        obtain ⟨c22, h⟩ := chk_some h
                        refine WP.path tab_ok mixed [(370, An.b true), (374, An.v (T.int .i64 ((1 : Int) * 2 ^ Int.toNat r116)))] [.keep [376, 41, 40, 39, 38, 35, 34, 32, 2], .keepO [], .names []] (ps := [(True), ((r116b == r116) = true), (0 ≤ r116), (T.int .i64 (IntKind.wrap .i64 ((1 : Int) * 2 ^ (min (Int.toNat r116) 64))) = T.int .i64 ((1 : Int) * 2 ^ Int.toNat r116)), (True)]) (e := .normal) (σ' := ⟨[], [(376, vb (r134 != ((1 : Int) * 2 ^ Int.toNat r116))), (41, vb r169b), (40, vi r169), (39, vi r163b), (38, vi r163), (35, vb r152b), (34, vl r152), (32, vi r146), (2, vb false)], []⟩) (by kernel_rfl) ⟨trivial, h42, c22.1, shl_told c22, trivial, trivial⟩ ?_
                        exact ⟨(r134 != ((1 : Int) * 2 ^ Int.toNat r116)), h, rfl⟩
                      · -- no
                        refine WP.path tab_ok mixed [(370, An.b false)] [.keep [376, 41, 40, 39, 38, 35, 34, 32, 2], .keepO [], .names []] (ps := [(True), ((r116b == r116) = false)]) (e := .normal) (σ' := ⟨[], [(376, vb false), (41, vb r169b), (40, vi r169), (39, vi r163b), (38, vi r163), (35, vb r152b), (34, vl r152), (32, vi r146), (2, vb false)], []⟩) (by kernel_rfl) ⟨trivial, h42, trivial⟩ ?_
                        exact ⟨(false), h, rfl⟩
                    · -- from there
                      intro v376 h0
                      have h := (show J2 v376 = some y0 from h0)
                      rw [hJ2] at h
                      rcases ite_some h with ⟨h43, h⟩ | ⟨h43, h⟩
                      · -- yes
                        refine WP.cond (b := v376) rfl (fun _ => ?_) (fun hh => by rw [h43] at hh; cases hh)
                        have h := Option.some.inj h
                        subst h
                        exact WP.pathW tab_ok mixed [] _ (ps := []) (r := tb false) (by kernel_rfl) trivial (WkT.eq (y := tb false) (WkT.refl _) rfl) (fun _ h => h)
                      · -- no
                        refine WP.cond (b := v376) rfl (fun hh => by rw [h43] at hh; cases hh) (fun _ => ?_)
                        refine WP.path tab_ok mixed [] [.keep [41, 40, 39, 38, 35, 34, 32, 2], .keepO [], .names []] (ps := []) (e := .normal) (σ' := ⟨[], [(41, vb r169b), (40, vi r169), (39, vi r163b), (38, vi r163), (35, vb r152b), (34, vl r152), (32, vi r146), (2, vb false)], []⟩) (by kernel_rfl) trivial ?_
                        exact ⟨(), h, rfl⟩
            · -- no
              refine WP.cond (b := r122b) rfl (fun hh => by rw [h35] at hh; cases hh) (fun _ => ?_)
              refine WP.path tab_ok mixed [] [.keep [41, 40, 39, 38, 35, 34, 32, 2], .keepO [], .names []] (ps := []) (e := .normal) (σ' := ⟨[], [(41, vb r169b), (40, vi r169), (39, vi r163b), (38, vi r163), (35, vb r152b), (34, vl r152), (32, vi r146), (2, vb false)], []⟩) (by kernel_rfl) trivial ?_
              exact ⟨(), h, rfl⟩
          · -- from there
            intro _ h0
            have h := (show J1 () = some y0 from h0)
            rw [hJ1] at h
            obtain ⟨J1, hJ1, h⟩ := jn_some h
            refine WP.joinA (fun (zz : Unit) => ⟨[], [(41, vb r169b), (40, vi r169), (39, vi r163b), (38, vi r163), (2, vb false)], []⟩) (fun zz => J1 () = some y0) ?_ ?_
            · -- to where they meet
              refine WP.seq ?_
              refine WP.path tab_ok mixed [] [.keep [377, 41, 40, 39, 38, 34, 32, 2], .keepO []] (ps := []) (e := .normal) (σ' := ⟨[], [(377, vb r152b), (41, vb r169b), (40, vi r169), (39, vi r163b), (38, vi r163), (34, vl r152), (32, vi r146), (2, vb false)], []⟩) (by kernel_rfl) trivial ?_
              rcases ite_some h with ⟨h44, h⟩ | ⟨h44, h⟩
              · -- yes
                refine WP.cond (b := r152b) rfl (fun _ => ?_) (fun hh => by rw [h44] at hh; cases hh)
                obtain ⟨J2, hJ2, h⟩ := jn_some h
                refine WP.joinA (fun (zz : Unit) => ⟨[], [(41, vb r169b), (40, vi r169), (39, vi r163b), (38, vi r163), (34, vl r152), (32, vi r146), (2, vb false)], []⟩) (fun zz => J2 () = some y0) ?_ ?_
                · -- to where they meet
                  refine WP.seq ?_
                  refine WP.path tab_ok mixed [] [.keep [50, 41, 40, 39, 38, 34, 32, 2], .keepO []] (ps := []) (e := .normal) (σ' := ⟨[], [(50, vi 1), (41, vb r169b), (40, vi r169), (39, vi r163b), (38, vi r163), (34, vl r152), (32, vi r146), (2, vb false)], []⟩) (by kernel_rfl) trivial ?_
                  refine WP.block ?_
                  refine WP.wk [.keep [50, 41, 40, 39, 38, 34, 32, 2], .keepO [], .names []] (σ' := ⟨[], [(50, vi 1), (41, vb r169b), (40, vi r169), (39, vi r163b), (38, vi r163), (34, vl r152), (32, vi r146), (2, vb false)], []⟩) (ps := []) (by kernel_rfl) trivial ?_
                  refine WP.st (σ' := ⟨[], [(50, vi (1 : Int)), (41, vb r169b), (40, vi r169), (39, vi r163b), (38, vi r163), (34, vl r152), (32, vi r146), (2, vb false)], []⟩) (by first | rfl | (simp only [tlS, tl, vl, vo, oc, ov, tbl, vbl, ty, vy]; done) | (simp only [tlS, tl, vl, vo, oc, ov, tbl, vbl, ty, vy]; rfl) | (simp; done) | (simp []; done) | (rw [List.take_of_length_le (by simp [])]; done) | (rw [List.take_of_length_le (by simp [])]; rfl) | (simp only [tlL]; omega) | (simp; omega)) ?_
                  refine WP.loop (α := Nat × Int) (fun zz => ⟨[], [(50, vi zz.2), (41, vb r169b), (40, vi r169), (39, vi r163b), (38, vi r163), (34, vl r152), (32, vi r146), (2, vb false)], []⟩) (fun zz => F_laws_FnWeights_L2 r152 J2 zz.1 zz.2 = some y0) (fun zz => zz.1) (fuel, (1 : Int)) h ?_
                  rintro ⟨n, v50⟩ h0
                  have h := (show F_laws_FnWeights_L2 r152 J2 n v50 = some y0 from h0)
                  rcases n with _ | n
                  · rw [F_laws_FnWeights_L2] at h; cases h
                  · rw [F_laws_FnWeights_L2] at h
                    refine WP.seq ?_
                    refine WP.seq ?_
                    refine WP.path tab_ok mixed [] [.keep [381, 50, 41, 40, 39, 38, 34, 32, 2], .keepO []] (ps := [(True)]) (e := .normal) (σ' := ⟨[], [(381, vb (decide (v50 < ((List.length r152 : Nat) : Int)))), (50, vi v50), (41, vb r169b), (40, vi r169), (39, vi r163b), (38, vi r163), (34, vl r152), (32, vi r146), (2, vb false)], []⟩) (by kernel_rfl) ⟨trivial, trivial⟩ ?_
                    rcases ite_some h with ⟨h45, h⟩ | ⟨h45, h⟩
                    · -- yes
                      refine WP.cond (b := decide (v50 < ((List.length r152 : Nat) : Int))) rfl (fun _ => ?_) (fun hh => by rw [h45] at hh; cases hh)
                      refine WP.path tab_ok mixed [] [.keep [50, 41, 40, 39, 38, 34, 32, 2], .keepO []] (ps := []) (e := .normal) (σ' := ⟨[], [(50, vi v50), (41, vb r169b), (40, vi r169), (39, vi r163b), (38, vi r163), (34, vl r152), (32, vi r146), (2, vb false)], []⟩) (by kernel_rfl) trivial ?_
                      refine WP.seq ?_
                      refine WP.block ?_
                      refine WP.seq ?_
                      obtain ⟨c22, h⟩ := chk_some h
                      obtain ⟨c23, h⟩ := chk_some h
                      obtain ⟨c24, h⟩ := chk_some h
                      refine WP.path tab_ok mixed [(387, An.v (ti (List.getD r152 (Int.toNat v50) 0))), (390, An.v (T.int .i64 (v50 - (1 : Int)))), (392, An.v (ti (List.getD r152 (Int.toNat (v50 - (1 : Int))) 0)))] [.keep [393, 50, 41, 40, 39, 38, 34, 32, 2], .keepO []] (ps := [((0 ≤ v50 ∧ v50 < ((List.length r152 : Nat) : Int))), ((List.drop ((Int.toNat v50) * 1) (List.map (T.int .i64) r152) : List T)[0]? = some (ti (List.getD r152 (Int.toNat v50) 0))), (ti (List.getD r152 (Int.toNat v50) 0) = ti (List.getD r152 (Int.toNat v50) 0)), (True), (T.int .i64 (IntKind.wrap .i64 (v50 - (1 : Int))) = T.int .i64 (v50 - (1 : Int))), ((0 ≤ (v50 - (1 : Int)) ∧ (v50 - (1 : Int)) < ((List.length r152 : Nat) : Int))), ((List.drop ((Int.toNat (v50 - (1 : Int))) * 1) (List.map (T.int .i64) r152) : List T)[0]? = some (ti (List.getD r152 (Int.toNat (v50 - (1 : Int))) 0))), (ti (List.getD r152 (Int.toNat (v50 - (1 : Int))) 0) = ti (List.getD r152 (Int.toNat (v50 - (1 : Int))) 0)), (True)]) (e := .normal) (σ' := ⟨[], [(393, vb (decide ((List.getD r152 (Int.toNat v50) 0) > (List.getD r152 (Int.toNat (v50 - (1 : Int))) 0)))), (50, vi v50), (41, vb r169b), (40, vi r169), (39, vi r163b), (38, vi r163), (34, vl r152), (32, vi r146), (2, vb false)], []⟩) (by kernel_rfl) ⟨c22, at1 (by simp) (by omega), rfl, trivial, wrapI c23, c24, at1 (by simp) (by omega), rfl, trivial, trivial⟩ ?_
                      rcases ite_some h with ⟨h46, h⟩ | ⟨h46, h⟩
                      · -- yes
                        refine WP.cond (b := decide ((List.getD r152 (Int.toNat v50) 0) > (List.getD r152 (Int.toNat (v50 - (1 : Int))) 0))) rfl (fun _ => ?_) (fun hh => by rw [h46] at hh; cases hh)
                        have h := Option.some.inj h
                        subst h
                        exact WP.pathW tab_ok mixed [] _ (ps := []) (r := tb false) (by kernel_rfl) trivial (WkT.eq (y := tb false) (WkT.refl _) rfl) (fun _ h => h)
                      · -- no
                        refine WP.cond (b := decide ((List.getD r152 (Int.toNat v50) 0) > (List.getD r152 (Int.toNat (v50 - (1 : Int))) 0))) rfl (fun hh => by rw [h46] at hh; cases hh) (fun _ => ?_)
                        refine WP.path tab_ok mixed [] [.keep [50, 41, 40, 39, 38, 34, 32, 2], .keepO []] (ps := []) (e := .normal) (σ' := ⟨[], [(50, vi v50), (41, vb r169b), (40, vi r169), (39, vi r163b), (38, vi r163), (34, vl r152), (32, vi r146), (2, vb false)], []⟩) (by kernel_rfl) trivial ?_
                        obtain ⟨c25, h⟩ := chk_some h
                        refine WP.path tab_ok mixed [(383, An.v (T.int .i64 (v50 + (1 : Int))))] [.keep [50, 41, 40, 39, 38, 34, 32, 2], .keepO [], .names []] (ps := [(True), (T.int .i64 (IntKind.wrap .i64 (v50 + (1 : Int))) = T.int .i64 (v50 + (1 : Int)))]) (e := .normal) (σ' := ⟨[], [(50, vi (v50 + (1 : Int))), (41, vb r169b), (40, vi r169), (39, vi r163b), (38, vi r163), (34, vl r152), (32, vi r146), (2, vb false)], []⟩) (by kernel_rfl) ⟨trivial, wrapI c25, trivial⟩ ?_
                        exact ⟨(n, (v50 + (1 : Int))), h, Nat.lt_succ_self _, rfl⟩
                    · -- no
                      refine WP.cond (b := decide (v50 < ((List.length r152 : Nat) : Int))) rfl (fun hh => by rw [h45] at hh; cases hh) (fun _ => ?_)
                      refine WP.path tab_ok mixed [] [.keep [41, 40, 39, 38, 34, 32, 2], .keepO [], .names []] (ps := []) (e := (.exit 2)) (σ' := ⟨[], [(41, vb r169b), (40, vi r169), (39, vi r163b), (38, vi r163), (34, vl r152), (32, vi r146), (2, vb false)], []⟩) (by kernel_rfl) trivial ?_
                      exact ⟨(), h, rfl⟩
                · -- from there
                  intro _ h0
                  have h := (show J2 () = some y0 from h0)
                  rw [hJ2] at h
                  obtain ⟨J2, hJ2, h⟩ := jn_some h
                  refine WP.joinA (fun (zz : Bool) => ⟨[], [(405, vb zz), (41, vb r169b), (40, vi r169), (39, vi r163b), (38, vi r163), (2, vb false)], []⟩) (fun zz => J2 zz = some y0) ?_ ?_
                  · -- to where they meet
                    obtain ⟨c22, h⟩ := chk_some h
                    rcases ite_some h with ⟨h47, h⟩ | ⟨h47, h⟩
                    · -- yes
                      refine WP.path tab_ok mixed [(397, An.v (T.int .i64 (r146 + (1 : Int)))), (398, An.b true)] [.keep [405, 41, 40, 39, 38, 2], .keepO [], .names []] (ps := [(True), (T.int .i64 (IntKind.wrap .i64 (r146 + (1 : Int))) = T.int .i64 (r146 + (1 : Int))), (True), ((((List.length r152 : Nat) : Int) != (r146 + (1 : Int))) = true)]) (e := .normal) (σ' := ⟨[], [(405, vb true), (41, vb r169b), (40, vi r169), (39, vi r163b), (38, vi r163), (2, vb false)], []⟩) (by kernel_rfl) ⟨trivial, wrapI c22, trivial, h47, trivial⟩ ?_
                      exact ⟨(true), h, rfl⟩
                    · -- no
                      obtain ⟨c23, h⟩ := chk_some h
                      refine WP.path tab_ok mixed [(397, An.v (T.int .i64 (r146 + (1 : Int)))), (398, An.b false), (403, An.v (ti (List.getD r152 (Int.toNat r146) 0)))] [.keep [405, 41, 40, 39, 38, 2], .keepO [], .names []] (ps := [(True), (T.int .i64 (IntKind.wrap .i64 (r146 + (1 : Int))) = T.int .i64 (r146 + (1 : Int))), (True), ((((List.length r152 : Nat) : Int) != (r146 + (1 : Int))) = false), ((0 ≤ r146 ∧ r146 < ((List.length r152 : Nat) : Int))), ((List.drop ((Int.toNat r146) * 1) (List.map (T.int .i64) r152) : List T)[0]? = some (ti (List.getD r152 (Int.toNat r146) 0))), (ti (List.getD r152 (Int.toNat r146) 0) = ti (List.getD r152 (Int.toNat r146) 0)), (True)]) (e := .normal) (σ' := ⟨[], [(405, vb ((List.getD r152 (Int.toNat r146) 0) != (1 : Int))), (41, vb r169b), (40, vi r169), (39, vi r163b), (38, vi r163), (2, vb false)], []⟩) (by kernel_rfl) ⟨trivial, wrapI c22, trivial, h47, c23, at1 (by simp) (by omega), rfl, trivial, trivial⟩ ?_
                      exact ⟨((List.getD r152 (Int.toNat r146) 0) != (1 : Int)), h, rfl⟩
                  · -- from there
                    intro v405 h0
                    have h := (show J2 v405 = some y0 from h0)
                    rw [hJ2] at h
                    rcases ite_some h with ⟨h48, h⟩ | ⟨h48, h⟩
                    · -- yes
                      refine WP.cond (b := v405) rfl (fun _ => ?_) (fun hh => by rw [h48] at hh; cases hh)
                      have h := Option.some.inj h
                      subst h
                      exact WP.pathW tab_ok mixed [] _ (ps := []) (r := tb false) (by kernel_rfl) trivial (WkT.eq (y := tb false) (WkT.refl _) rfl) (fun _ h => h)
                    · -- no
                      refine WP.cond (b := v405) rfl (fun hh => by rw [h48] at hh; cases hh) (fun _ => ?_)
                      refine WP.path tab_ok mixed [] [.keep [41, 40, 39, 38, 2], .keepO [], .names []] (ps := []) (e := .normal) (σ' := ⟨[], [(41, vb r169b), (40, vi r169), (39, vi r163b), (38, vi r163), (2, vb false)], []⟩) (by kernel_rfl) trivial ?_
                      exact ⟨(), h, rfl⟩
              · -- no
                refine WP.cond (b := r152b) rfl (fun hh => by rw [h44] at hh; cases hh) (fun _ => ?_)
                refine WP.path tab_ok mixed [] [.keep [41, 40, 39, 38, 2], .keepO [], .names []] (ps := []) (e := .normal) (σ' := ⟨[], [(41, vb r169b), (40, vi r169), (39, vi r163b), (38, vi r163), (2, vb false)], []⟩) (by kernel_rfl) trivial ?_
                exact ⟨(), h, rfl⟩
            · -- from there
              intro _ h0
              have h := (show J1 () = some y0 from h0)
              rw [hJ1] at h
              refine WP.seq ?_
              refine WP.seq ?_
              refine WP.path tab_ok mixed [] [.keep [406, 40, 39, 38, 2], .keepO []] (ps := []) (e := .normal) (σ' := ⟨[], [(406, vb r169b), (40, vi r169), (39, vi r163b), (38, vi r163), (2, vb false)], []⟩) (by kernel_rfl) trivial ?_
              rcases ite_some h with ⟨h49, h⟩ | ⟨h49, h⟩
              · -- yes
                refine WP.cond (b := r169b) rfl (fun _ => ?_) (fun hh => by rw [h49] at hh; cases hh)
                refine WP.seq ?_
                obtain ⟨r410, r410b, c22, h⟩ := bnd2_some h
                refine WP.path tab_ok mixed [(410, An.call (T.tup [ti r410, tb r410b]))] [.keep [52, 51, 40, 39, 38, 2], .keepO []] (ps := [(C Try.prog 60 [ti r163, ti r163b] (T.tup [ti r410, tb r410b]))]) (e := .normal) (σ' := ⟨[], [(52, vb r410b), (51, vi r410), (40, vi r169), (39, vi r163b), (38, vi r163), (2, vb false)], []⟩) (by kernel_rfl) ⟨(F_impl_BallOf_W r163 r163b r410 r410b c22), trivial⟩ ?_
                refine WP.seq ?_
                obtain ⟨J1, hJ1, h⟩ := jn_some h
                refine WP.joinA (fun (zz : Bool) => ⟨[], [(431, vb zz), (40, vi r169), (39, vi r163b), (38, vi r163), (2, vb false)], []⟩) (fun zz => J1 zz = some y0) ?_ ?_
                · -- to where they meet
                  rcases ite_some h with ⟨h50, h⟩ | ⟨h50, h⟩
                  · -- yes
                    refine WP.path tab_ok mixed [(415, An.b true)] [.keep [431, 40, 39, 38, 2], .keepO [], .names []] (ps := [((!r410b) = true)]) (e := .normal) (σ' := ⟨[], [(431, vb true), (40, vi r169), (39, vi r163b), (38, vi r163), (2, vb false)], []⟩) (by kernel_rfl) ⟨h50, trivial⟩ ?_
                    exact ⟨(true), h, rfl⟩
                  · -- no
                    obtain ⟨c23, h⟩ := chk_some h
                    obtain ⟨c24, h⟩ := chk_some h
                    rcases ite_some h with ⟨h51, h⟩ | ⟨h51, h⟩
                    · -- yes
                      refine WP.path tab_ok mixed [(415, An.b false), (418, An.v (T.int .i64 (r169 * r410))), (420, An.v (T.int .i64 ((1 : Int) * 2 ^ Int.toNat r163))), (421, An.b true)] [.keep [431, 40, 39, 38, 2], .keepO [], .names []] (ps := [((!r410b) = false), (True), (T.int .i64 (IntKind.wrap .i64 (r169 * r410)) = T.int .i64 (r169 * r410)), (0 ≤ r163), (T.int .i64 (IntKind.wrap .i64 ((1 : Int) * 2 ^ (min (Int.toNat r163) 64))) = T.int .i64 ((1 : Int) * 2 ^ Int.toNat r163)), (True), ((decide ((r169 * r410) > ((1 : Int) * 2 ^ Int.toNat r163))) = true)]) (e := .normal) (σ' := ⟨[], [(431, vb true), (40, vi r169), (39, vi r163b), (38, vi r163), (2, vb false)], []⟩) (by kernel_rfl) ⟨h50, trivial, wrapI c23, c24.1, shl_told c24, trivial, h51, trivial⟩ ?_
                      exact ⟨(true), h, rfl⟩
                    · -- no
                      obtain ⟨c25, h⟩ := chk_some h
                      obtain ⟨c26, h⟩ := chk_some h
                      refine WP.path tab_ok mixed [(415, An.b false), (418, An.v (T.int .i64 (r169 * r410))), (420, An.v (T.int .i64 ((1 : Int) * 2 ^ Int.toNat r163))), (421, An.b false), (425, An.v (T.int .i64 (r169 + (1 : Int)))), (427, An.v (T.int .i64 ((r169 + (1 : Int)) * r410))), (429, An.v (T.int .i64 ((1 : Int) * 2 ^ Int.toNat r163)))] [.keep [431, 40, 39, 38, 2], .keepO [], .names []] (ps := [((!r410b) = false), (True), (T.int .i64 (IntKind.wrap .i64 (r169 * r410)) = T.int .i64 (r169 * r410)), (0 ≤ r163), (T.int .i64 (IntKind.wrap .i64 ((1 : Int) * 2 ^ (min (Int.toNat r163) 64))) = T.int .i64 ((1 : Int) * 2 ^ Int.toNat r163)), (True), ((decide ((r169 * r410) > ((1 : Int) * 2 ^ Int.toNat r163))) = false), (True), (T.int .i64 (IntKind.wrap .i64 (r169 + (1 : Int))) = T.int .i64 (r169 + (1 : Int))), (True), (T.int .i64 (IntKind.wrap .i64 ((r169 + (1 : Int)) * r410)) = T.int .i64 ((r169 + (1 : Int)) * r410)), (0 ≤ r163), (T.int .i64 (IntKind.wrap .i64 ((1 : Int) * 2 ^ (min (Int.toNat r163) 64))) = T.int .i64 ((1 : Int) * 2 ^ Int.toNat r163)), (True)]) (e := .normal) (σ' := ⟨[], [(431, vb (decide (((r169 + (1 : Int)) * r410) ≤ ((1 : Int) * 2 ^ Int.toNat r163)))), (40, vi r169), (39, vi r163b), (38, vi r163), (2, vb false)], []⟩) (by kernel_rfl) ⟨h50, trivial, wrapI c23, c24.1, shl_told c24, trivial, h51, trivial, wrapI c25, trivial, wrapI c26, c24.1, shl_told c24, trivial, trivial⟩ ?_
                      exact ⟨(decide (((r169 + (1 : Int)) * r410) ≤ ((1 : Int) * 2 ^ Int.toNat r163))), h, rfl⟩
                · -- from there
                  intro v431 h0
                  have h := (show J1 v431 = some y0 from h0)
                  rw [hJ1] at h
                  rcases ite_some h with ⟨h52, h⟩ | ⟨h52, h⟩
                  · -- yes
                    refine WP.cond (b := v431) rfl (fun _ => ?_) (fun hh => by rw [h52] at hh; cases hh)
                    have h := Option.some.inj h
                    subst h
                    exact WP.pathW tab_ok mixed [] _ (ps := []) (r := tb false) (by kernel_rfl) trivial (WkT.eq (y := tb false) (WkT.refl _) rfl) (fun _ h => h)
                  · -- no
                    refine WP.cond (b := v431) rfl (fun hh => by rw [h52] at hh; cases hh) (fun _ => ?_)
                    refine WP.path tab_ok mixed [] [.keep [40, 39, 38, 2], .keepO []] (ps := []) (e := .normal) (σ' := ⟨[], [(40, vi r169), (39, vi r163b), (38, vi r163), (2, vb false)], []⟩) (by kernel_rfl) trivial ?_
                    obtain ⟨J1, hJ1, h⟩ := jn_some h
                    refine WP.joinA (fun (zz : Bool) => ⟨[], [(437, vb zz), (40, vi r169), (39, vi r163b), (38, vi r163), (2, vb false)], []⟩) (fun zz => J1 zz = some y0) ?_ ?_
                    · -- to where they meet
                      rcases ite_some h with ⟨h53, h⟩ | ⟨h53, h⟩
                      · -- yes
                        refine WP.path tab_ok mixed [(433, An.b true)] [.keep [437, 40, 39, 38, 2], .keepO [], .names []] (ps := [(True), ((decide (r169 > (0 : Int))) = true), (True)]) (e := .normal) (σ' := ⟨[], [(437, vb (decide (r169 ≤ (12 : Int)))), (40, vi r169), (39, vi r163b), (38, vi r163), (2, vb false)], []⟩) (by kernel_rfl) ⟨trivial, h53, trivial, trivial⟩ ?_
                        exact ⟨(decide (r169 ≤ (12 : Int))), h, rfl⟩
                      · -- no
                        refine WP.path tab_ok mixed [(433, An.b false)] [.keep [437, 40, 39, 38, 2], .keepO [], .names []] (ps := [(True), ((decide (r169 > (0 : Int))) = false)]) (e := .normal) (σ' := ⟨[], [(437, vb false), (40, vi r169), (39, vi r163b), (38, vi r163), (2, vb false)], []⟩) (by kernel_rfl) ⟨trivial, h53, trivial⟩ ?_
                        exact ⟨(false), h, rfl⟩
                    · -- from there
                      intro v437 h0
                      have h := (show J1 v437 = some y0 from h0)
                      rw [hJ1] at h
                      rcases ite_some h with ⟨h54, h⟩ | ⟨h54, h⟩
                      · -- yes
                        refine WP.cond (b := v437) rfl (fun _ => ?_) (fun hh => by rw [h54] at hh; cases hh)
                        obtain ⟨r446, r446b, c23, h⟩ := bnd2_some h
                        rcases ite_some h with ⟨h55, h⟩ | ⟨h55, h⟩
                        · -- yes
                          rcases ite_some h with ⟨h56, h⟩ | ⟨h56, h⟩
                          · -- yes
                            have h := Option.some.inj h
                            subst h
                            exact WP.pathW tab_ok mixed [(441, An.call (T.tup [T.agg [tl (ssL r169 r163b), ti (ssM r169 r163b)], tb (ssB r169 r163b)])), (443, An.b true), (53, An.id 2053), (446, An.call (T.tup [ti r446, tb r446b])), (448, An.b true)] _ (ps := [(C Try.prog 69 [ti r169, ti r163b] (T.tup [T.agg [tl (ssL r169 r163b), ti (ssM r169 r163b)], tb (ssB r169 r163b)])), ((ssB r169 r163b) = true), ((0 + 2 ≤ 2 ∧ 2 = 2)), (0 + 2 ≤ 2), (C Try.prog 55 [T.agg [tl (ssL r169 r163b), ti (ssM r169 r163b)]] (T.tup [ti r446, tb r446b])), ((r446b) = true), (True)]) (r := tb (decide (r446 ≤ r163))) (by kernel_rfl) ⟨(iStartState_C r169 r163b), h55, by decide, by decide, (F_impl_BoundOf_W (ssL r169 r163b) (ssM r169 r163b) r446 r446b c23), h56, trivial, trivial⟩ (WkT.eq (y := tb (decide (r446 ≤ r163))) (WkT.refl _) rfl) (fun _ h => h)
                          · -- no
                            have h := Option.some.inj h
                            subst h
                            exact WP.pathW tab_ok mixed [(441, An.call (T.tup [T.agg [tl (ssL r169 r163b), ti (ssM r169 r163b)], tb (ssB r169 r163b)])), (443, An.b true), (53, An.id 2053), (446, An.call (T.tup [ti r446, tb r446b])), (448, An.b false)] _ (ps := [(C Try.prog 69 [ti r169, ti r163b] (T.tup [T.agg [tl (ssL r169 r163b), ti (ssM r169 r163b)], tb (ssB r169 r163b)])), ((ssB r169 r163b) = true), ((0 + 2 ≤ 2 ∧ 2 = 2)), (0 + 2 ≤ 2), (C Try.prog 55 [T.agg [tl (ssL r169 r163b), ti (ssM r169 r163b)]] (T.tup [ti r446, tb r446b])), ((r446b) = false)]) (r := tb false) (by kernel_rfl) ⟨(iStartState_C r169 r163b), h55, by decide, by decide, (F_impl_BoundOf_W (ssL r169 r163b) (ssM r169 r163b) r446 r446b c23), h56, trivial⟩ (WkT.eq (y := tb false) (WkT.refl _) rfl) (fun _ h => h)
                        · -- no
                          have h := Option.some.inj h
                          subst h
                          exact WP.pathW tab_ok mixed [(441, An.call (T.tup [T.agg [tl (ssL r169 r163b), ti (ssM r169 r163b)], tb (ssB r169 r163b)])), (443, An.b false), (53, An.id 2053), (446, An.call (T.tup [ti r446, tb r446b]))] _ (ps := [(C Try.prog 69 [ti r169, ti r163b] (T.tup [T.agg [tl (ssL r169 r163b), ti (ssM r169 r163b)], tb (ssB r169 r163b)])), ((ssB r169 r163b) = false), ((0 + 2 ≤ 2 ∧ 2 = 2)), (0 + 2 ≤ 2), (C Try.prog 55 [T.agg [tl (ssL r169 r163b), ti (ssM r169 r163b)]] (T.tup [ti r446, tb r446b]))]) (r := tb false) (by kernel_rfl) ⟨(iStartState_C r169 r163b), h55, by decide, by decide, (F_impl_BoundOf_W (ssL r169 r163b) (ssM r169 r163b) r446 r446b c23), trivial⟩ (WkT.eq (y := tb false) (WkT.refl _) rfl) (fun _ h => h)
                      · -- no
                        refine WP.cond (b := v437) rfl (fun hh => by rw [h54] at hh; cases hh) (fun _ => ?_)
                        refine WP.path tab_ok mixed [] [.keep [2], .keepO []] (ps := []) (e := .normal) (σ' := ⟨[], [(2, vb false)], []⟩) (by kernel_rfl) trivial ?_
                        have h := Option.some.inj h
                        subst h
                        exact WP.pathW tab_ok mixed [] _ (ps := []) (r := tb true) (by kernel_rfl) trivial (WkT.eq (y := tb true) (WkT.refl _) rfl) (fun _ h => h)
              · -- no
                refine WP.cond (b := r169b) rfl (fun hh => by rw [h49] at hh; cases hh) (fun _ => ?_)
                refine WP.path tab_ok mixed [] [.keep [2], .keepO []] (ps := []) (e := .normal) (σ' := ⟨[], [(2, vb false)], []⟩) (by kernel_rfl) trivial ?_
                have h := Option.some.inj h
                subst h
                exact WP.pathW tab_ok mixed [] _ (ps := []) (r := tb true) (by kernel_rfl) trivial (WkT.eq (y := tb true) (WkT.refl _) rfl) (fun _ h => h)

end Go.Proofs.Ytofiecpgfjofdaa.AuW
