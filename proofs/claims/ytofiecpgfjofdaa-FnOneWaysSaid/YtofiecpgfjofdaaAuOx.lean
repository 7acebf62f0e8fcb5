/-
  The walks: each function of the program returns what the plain function beside it returns. No statement is proved here.
-/
import Derived.Test.YtofiecpgfjofdaaTlV
import Derived.Test.YtofiecpgfjofdaaTlCI
import Derived.Test.YtofiecpgfjofdaaAuOxF
import Derived.Test.YtofiecpgfjofdaaProg
import Derived.Test.YtofiecpgfjofdaaAuOxO
import Derived.Test.YtofiecpgfjofdaaAuOxa
namespace Go.Proofs.Ytofiecpgfjofdaa.AuOx
open Go Go.Tl Go.Proofs
open Go.Proofs.Ytofiecpgfjofdaa.AuOxO hiding tab tab_ok mixed
open Go.Proofs.Ytofiecpgfjofdaa.AuOxa hiding tab tab_ok mixed
set_option linter.unusedVariables false
set_option linter.unusedSimpArgs false
set_option maxRecDepth 100000
def tab : Tab := [(3, ⟨.int .i64, 1, 8, [.int .i64 0]⟩), (4, ⟨.bool, 1, 1, [.bool false]⟩), (5, ⟨.int .u8, 1, 1, [.int .u8 0]⟩), (26, ⟨.slice 3 1 8, 1, 24, [.nils]⟩), (28, ⟨.struct [(0, 1, false), (1, 1, false)], 2, 32, [.nils, .int .i64 0]⟩), (40, ⟨.slice 5 1 1, 1, 24, [.nils]⟩), (65, ⟨.slice 85 2 16, 1, 24, [.nils]⟩), (85, ⟨.struct [(0, 1, false), (1, 1, false)], 2, 16, [.int .i64 0, .bool false]⟩), (148, ⟨.pointer 151, 1, 8, [.nilp]⟩), (149, ⟨.int .u64, 1, 8, [.int .u64 0]⟩), (151, ⟨.struct [(0, 1, false), (1, 1, false), (2, 1, false)], 3, 40, [.nils, .int .i64 0, .int .u64 0]⟩), (213, ⟨.func, 1, 8, [.nilf]⟩)]
theorem tab_ok : chkTab Try.prog tab = true := by kernel_rfl
theorem mixed : Try.prog.follows .mixedOrders = true := by kernel_rfl
theorem F_laws_FnOneWays_W (x0 : List Int) (y0 : Bool) (h : F_laws_FnOneWays x0 = some y0) : C Try.prog 6 [ty x0] (tb y0) := by
  unfold F_laws_FnOneWays at h
  refine C.intro (tab := tab) tab_ok (fn := Try.f6) Try.func6 (by kernel_rfl) rfl (Nat.le_of_ble_eq_true rfl) ?_
  refine WP.seq ?_
  refine WP.path tab_ok mixed [] [.keep [2, 0], .keepO []] (ps := []) (e := .normal) (σ' := ⟨[], [(2, vb false), (0, vy x0)], []⟩) (by kernel_rfl) trivial ?_
  refine WP.seq ?_
  refine WP.seq ?_
  obtain ⟨c0, h⟩ := chk_some h
  refine WP.path tab_ok mixed [(31, An.call (tb (decide (((List.length x0 : Nat) : Int) > (65536 : Int)))))] [.keep [31, 2, 0], .keepO []] (ps := [(C Try.prog 70 [ty x0] (tb (decide (((List.length x0 : Nat) : Int) > (65536 : Int)))))]) (e := .normal) (σ' := ⟨[], [(31, vb (decide (((List.length x0 : Nat) : Int) > (65536 : Int)))), (2, vb false), (0, vy x0)], []⟩) (by kernel_rfl) ⟨(rBig_C x0 c0), trivial⟩ ?_
  rcases ite_some h with ⟨h1, h⟩ | ⟨h1, h⟩
  · -- yes
    refine WP.cond (b := decide (((List.length x0 : Nat) : Int) > (65536 : Int))) rfl (fun _ => ?_) (fun hh => by rw [h1] at hh; cases hh)
    have h := Option.some.inj h
    subst h
    exact WP.pathW tab_ok mixed [] _ (ps := []) (r := tb true) (by kernel_rfl) trivial (WkT.eq (y := tb true) (WkT.refl _) rfl) (fun _ h => h)
  · -- no
    refine WP.cond (b := decide (((List.length x0 : Nat) : Int) > (65536 : Int))) rfl (fun hh => by rw [h1] at hh; cases hh) (fun _ => ?_)
    refine WP.path tab_ok mixed [] [.keep [2, 0], .keepO []] (ps := []) (e := .normal) (σ' := ⟨[], [(2, vb false), (0, vy x0)], []⟩) (by kernel_rfl) trivial ?_
    refine WP.seq ?_
    obtain ⟨r34, r34b, r34c, c1, h⟩ := bnd3_some h
    refine WP.path tab_ok mixed [(34, An.call (T.tup [ti r34, ti r34b, T.list (List.length r34c) 2 (List.flatMap askedC r34c)]))] [.keep [5, 4, 3, 2, 0], .keepO []] (ps := [(C Try.prog 71 [ty x0] (T.tup [ti r34, ti r34b, T.list (List.length r34c) 2 (List.flatMap askedC r34c)]))]) (e := .normal) (σ' := ⟨[], [(5, V.t (T.list (List.length r34c) 2 (List.flatMap askedC r34c))), (4, vi r34b), (3, vi r34), (2, vb false), (0, vy x0)], []⟩) (by kernel_rfl) ⟨(F_spec_DrawOneWayAll_W_C x0 r34 r34b r34c c1), trivial⟩ ?_
    refine WP.seq ?_
    obtain ⟨r42, r42b, r42c, c2, h⟩ := bnd3_some h
    refine WP.path tab_ok mixed [(42, An.call (T.tup [T.agg [tl r42, ti r42b], tb r42c])), (6, An.id 2006)] [.keep [7, 6, 5, 4, 3, 2, 0], .keepO [2006]] (ps := [(C Try.prog 72 [ti r34, ti r34b, T.list (List.length r34c) 2 (List.flatMap askedC r34c)] (T.tup [T.agg [tl r42, ti r42b], tb r42c])), ((0 + 2 ≤ 2 ∧ 2 = 2))]) (e := .normal) (σ' := ⟨[2006], [(7, vb r42c), (6, V.ref 2006 0), (5, V.t (T.list (List.length r34c) 2 (List.flatMap askedC r34c))), (4, vi r34b), (3, vi r34), (2, vb false), (0, vy x0)], [(2006, oc 28 [tl r42, ti r42b])]⟩) (by kernel_rfl) ⟨(F_impl_OneWayAll_W_C r34 r34b r34c r42 r42b r42c c2), by decide, trivial⟩ ?_
    refine WP.seq ?_
    refine WP.seq ?_
    obtain ⟨r49, r49b, r49c, c3, h⟩ := bnd3_some h
    refine WP.path tab_ok mixed [(49, An.call (T.tup [T.agg [tl r49, ti r49b], tb r49c])), (8, An.id 2008)] [.keep [9, 8, 7, 6, 5, 4, 3, 2, 0], .keepO [2006, 2008]] (ps := [(C Try.prog 73 [ti r34, ti r34b, T.list (List.length r34c) 2 (List.flatMap askedC r34c)] (T.tup [T.agg [tl r49, ti r49b], tb r49c])), ((0 + 2 ≤ 2 ∧ 2 = 2))]) (e := .normal) (σ' := ⟨[2008, 2006], [(9, vb r49c), (8, V.ref 2008 0), (7, vb r42c), (6, V.ref 2006 0), (5, V.t (T.list (List.length r34c) 2 (List.flatMap askedC r34c))), (4, vi r34b), (3, vi r34), (2, vb false), (0, vy x0)], [(2006, oc 28 [tl r42, ti r42b]), (2008, oc 28 [tl r49, ti r49b])]⟩) (by kernel_rfl) ⟨(F_spec_OneWayAll_W_C r34 r34b r34c r49 r49b r49c c3), by decide, trivial⟩ ?_
    obtain ⟨J1, hJ1, h⟩ := jn_some h
    refine WP.joinA (fun (zz : Bool) => ⟨[2006], [(60, vb zz), (7, vb r42c), (6, V.ref 2006 0), (5, V.t (T.list (List.length r34c) 2 (List.flatMap askedC r34c))), (4, vi r34b), (3, vi r34), (2, vb false), (0, vy x0)], [(2006, oc 28 [tl r42, ti r42b])]⟩) (fun zz => J1 zz = some y0) ?_ ?_
    · -- to where they meet
      rcases ite_some h with ⟨h2, h⟩ | ⟨h2, h⟩
      · -- yes
        refine WP.path tab_ok mixed [(54, An.b true)] [.keep [60, 7, 6, 5, 4, 3, 2, 0], .keepO [2006], .names [(2006, 2006)]] (ps := [(True), ((!(r42c == r49c)) = true)]) (e := .normal) (σ' := ⟨[2006], [(60, vb true), (7, vb r42c), (6, V.ref 2006 0), (5, V.t (T.list (List.length r34c) 2 (List.flatMap askedC r34c))), (4, vi r34b), (3, vi r34), (2, vb false), (0, vy x0)], [(2006, oc 28 [tl r42, ti r42b])]⟩) (by kernel_rfl) ⟨trivial, h2, trivial⟩ ?_
        exact ⟨(true), h, rfl⟩
      · -- no
        obtain ⟨r58, c4, h⟩ := bnd1_some h
        refine WP.path tab_ok mixed [(54, An.b false), (58, An.call (tb r58))] [.keep [60, 7, 6, 5, 4, 3, 2, 0], .keepO [2006], .names [(2006, 2006)]] (ps := [(True), ((!(r42c == r49c)) = false), (0 + 2 ≤ 2), (0 + 2 ≤ 2), (C Try.prog 74 [T.agg [tl r42, ti r42b], T.agg [tl r49, ti r49b]] (tb r58))]) (e := .normal) (σ' := ⟨[2006], [(60, vb !r58), (7, vb r42c), (6, V.ref 2006 0), (5, V.t (T.list (List.length r34c) 2 (List.flatMap askedC r34c))), (4, vi r34b), (3, vi r34), (2, vb false), (0, vy x0)], [(2006, oc 28 [tl r42, ti r42b])]⟩) (by kernel_rfl) ⟨trivial, h2, by decide, by decide, (F_laws_rState_W r42 r42b r49 r49b r58 c4), trivial⟩ ?_
        exact ⟨(!r58), h, rfl⟩
    · -- from there
      intro v60 h0
      have h := (show J1 v60 = some y0 from h0)
      rw [hJ1] at h
      rcases ite_some h with ⟨h3, h⟩ | ⟨h3, h⟩
      · -- yes
        refine WP.cond (b := v60) rfl (fun _ => ?_) (fun hh => by rw [h3] at hh; cases hh)
        have h := Option.some.inj h
        subst h
        exact WP.pathW tab_ok mixed [] _ (ps := []) (r := tb false) (by kernel_rfl) trivial (WkT.eq (y := tb false) (WkT.refl _) rfl) (fun _ h => h)
      · -- no
        refine WP.cond (b := v60) rfl (fun hh => by rw [h3] at hh; cases hh) (fun _ => ?_)
        refine WP.path tab_ok mixed [] [.keep [7, 6, 5, 4, 3, 2, 0], .keepO [2006]] (ps := []) (e := .normal) (σ' := ⟨[2006], [(7, vb r42c), (6, V.ref 2006 0), (5, V.t (T.list (List.length r34c) 2 (List.flatMap askedC r34c))), (4, vi r34b), (3, vi r34), (2, vb false), (0, vy x0)], [(2006, oc 28 [tl r42, ti r42b])]⟩) (by kernel_rfl) trivial ?_
        refine WP.seq ?_
        obtain ⟨r63, r63b, r63c, r63d, c4, h⟩ := bnd4_some h
        refine WP.path tab_ok mixed [(63, An.call (T.tup [T.agg [tl r63, ti r63b], T.agg [ti r63c, tb r63d]])), (10, An.id 2010), (11, An.id 2011)] [.keep [11, 10, 7, 6, 5, 4, 3, 2, 0], .keepO [2006, 2010, 2011]] (ps := [(C Try.prog 75 [ty x0] (T.tup [T.agg [tl r63, ti r63b], T.agg [ti r63c, tb r63d]])), ((0 + 2 ≤ 2 ∧ 2 = 2)), ((0 + 2 ≤ 2 ∧ 2 = 2))]) (e := .normal) (σ' := ⟨[2011, 2010, 2006], [(11, V.ref 2011 0), (10, V.ref 2010 0), (7, vb r42c), (6, V.ref 2006 0), (5, V.t (T.list (List.length r34c) 2 (List.flatMap askedC r34c))), (4, vi r34b), (3, vi r34), (2, vb false), (0, vy x0)], [(2006, oc 28 [tl r42, ti r42b]), (2010, oc 28 [tl r63, ti r63b]), (2011, oc 85 [ti r63c, tb r63d])]⟩) (by kernel_rfl) ⟨(F_spec_DrawOneWayState_W_C x0 r63 r63b r63c r63d c4), by decide, by decide, trivial⟩ ?_
        refine WP.seq ?_
        obtain ⟨r69, r69b, r69c, c5, h⟩ := bnd3_some h
        refine WP.path tab_ok mixed [(69, An.call (T.tup [T.agg [tl r69, ti r69b], tb r69c])), (12, An.id 2012)] [.keep [13, 12, 11, 10, 7, 6, 5, 4, 3, 2, 0], .keepO [2006, 2010, 2011, 2012]] (ps := [(0 + 2 ≤ 2), (0 + 2 ≤ 2), (C Try.prog 76 [T.agg [tl r63, ti r63b], T.agg [ti r63c, tb r63d]] (T.tup [T.agg [tl r69, ti r69b], tb r69c])), ((0 + 2 ≤ 2 ∧ 2 = 2))]) (e := .normal) (σ' := ⟨[2012, 2011, 2010, 2006], [(13, vb r69c), (12, V.ref 2012 0), (11, V.ref 2011 0), (10, V.ref 2010 0), (7, vb r42c), (6, V.ref 2006 0), (5, V.t (T.list (List.length r34c) 2 (List.flatMap askedC r34c))), (4, vi r34b), (3, vi r34), (2, vb false), (0, vy x0)], [(2006, oc 28 [tl r42, ti r42b]), (2010, oc 28 [tl r63, ti r63b]), (2011, oc 85 [ti r63c, tb r63d]), (2012, oc 28 [tl r69, ti r69b])]⟩) (by kernel_rfl) ⟨by decide, by decide, (F_impl_OneWayState_W_C r63 r63b r63c r63d r69 r69b r69c c5), by decide, trivial⟩ ?_
        refine WP.seq ?_
        refine WP.seq ?_
        obtain ⟨r75, r75b, r75c, c6, h⟩ := bnd3_some h
        refine WP.path tab_ok mixed [(75, An.call (T.tup [T.agg [tl r75, ti r75b], tb r75c])), (14, An.id 2014)] [.keep [15, 14, 13, 12, 11, 10, 7, 6, 5, 4, 3, 2, 0], .keepO [2006, 2010, 2011, 2012, 2014]] (ps := [(0 + 2 ≤ 2), (0 + 2 ≤ 2), (C Try.prog 77 [T.agg [tl r63, ti r63b], T.agg [ti r63c, tb r63d]] (T.tup [T.agg [tl r75, ti r75b], tb r75c])), ((0 + 2 ≤ 2 ∧ 2 = 2))]) (e := .normal) (σ' := ⟨[2014, 2012, 2011, 2010, 2006], [(15, vb r75c), (14, V.ref 2014 0), (13, vb r69c), (12, V.ref 2012 0), (11, V.ref 2011 0), (10, V.ref 2010 0), (7, vb r42c), (6, V.ref 2006 0), (5, V.t (T.list (List.length r34c) 2 (List.flatMap askedC r34c))), (4, vi r34b), (3, vi r34), (2, vb false), (0, vy x0)], [(2006, oc 28 [tl r42, ti r42b]), (2010, oc 28 [tl r63, ti r63b]), (2011, oc 85 [ti r63c, tb r63d]), (2012, oc 28 [tl r69, ti r69b]), (2014, oc 28 [tl r75, ti r75b])]⟩) (by kernel_rfl) ⟨by decide, by decide, (F_spec_OneWayState_W_C r63 r63b r63c r63d r75 r75b r75c c6), by decide, trivial⟩ ?_
        obtain ⟨J1, hJ1, h⟩ := jn_some h
        refine WP.joinA (fun (zz : Bool) => ⟨[2006, 2010, 2011, 2012], [(86, vb zz), (13, vb r69c), (12, V.ref 2012 0), (11, V.ref 2011 0), (10, V.ref 2010 0), (7, vb r42c), (6, V.ref 2006 0), (5, V.t (T.list (List.length r34c) 2 (List.flatMap askedC r34c))), (4, vi r34b), (3, vi r34), (2, vb false), (0, vy x0)], [(2006, oc 28 [tl r42, ti r42b]), (2010, oc 28 [tl r63, ti r63b]), (2011, oc 85 [ti r63c, tb r63d]), (2012, oc 28 [tl r69, ti r69b])]⟩) (fun zz => J1 zz = some y0) ?_ ?_
        · -- to where they meet
          rcases ite_some h with ⟨h4, h⟩ | ⟨h4, h⟩
          · -- yes
            refine WP.path tab_ok mixed [(80, An.b true)] [.keep [86, 13, 12, 11, 10, 7, 6, 5, 4, 3, 2, 0], .keepO [2006, 2010, 2011, 2012], .names [(2006, 2006), (2010, 2010), (2011, 2011), (2012, 2012)]] (ps := [(True), ((!(r69c == r75c)) = true)]) (e := .normal) (σ' := ⟨[2006, 2010, 2011, 2012], [(86, vb true), (13, vb r69c), (12, V.ref 2012 0), (11, V.ref 2011 0), (10, V.ref 2010 0), (7, vb r42c), (6, V.ref 2006 0), (5, V.t (T.list (List.length r34c) 2 (List.flatMap askedC r34c))), (4, vi r34b), (3, vi r34), (2, vb false), (0, vy x0)], [(2006, oc 28 [tl r42, ti r42b]), (2010, oc 28 [tl r63, ti r63b]), (2011, oc 85 [ti r63c, tb r63d]), (2012, oc 28 [tl r69, ti r69b])]⟩) (by kernel_rfl) ⟨trivial, h4, trivial⟩ ?_
            exact ⟨(true), h, rfl⟩
          · -- no
            obtain ⟨r84, c7, h⟩ := bnd1_some h
            refine WP.path tab_ok mixed [(80, An.b false), (84, An.call (tb r84))] [.keep [86, 13, 12, 11, 10, 7, 6, 5, 4, 3, 2, 0], .keepO [2006, 2010, 2011, 2012], .names [(2006, 2006), (2010, 2010), (2011, 2011), (2012, 2012)]] (ps := [(True), ((!(r69c == r75c)) = false), (0 + 2 ≤ 2), (0 + 2 ≤ 2), (C Try.prog 74 [T.agg [tl r69, ti r69b], T.agg [tl r75, ti r75b]] (tb r84))]) (e := .normal) (σ' := ⟨[2006, 2010, 2011, 2012], [(86, vb !r84), (13, vb r69c), (12, V.ref 2012 0), (11, V.ref 2011 0), (10, V.ref 2010 0), (7, vb r42c), (6, V.ref 2006 0), (5, V.t (T.list (List.length r34c) 2 (List.flatMap askedC r34c))), (4, vi r34b), (3, vi r34), (2, vb false), (0, vy x0)], [(2006, oc 28 [tl r42, ti r42b]), (2010, oc 28 [tl r63, ti r63b]), (2011, oc 85 [ti r63c, tb r63d]), (2012, oc 28 [tl r69, ti r69b])]⟩) (by kernel_rfl) ⟨trivial, h4, by decide, by decide, (F_laws_rState_W r69 r69b r75 r75b r84 c7), trivial⟩ ?_
            exact ⟨(!r84), h, rfl⟩
        · -- from there
          intro v86 h0
          have h := (show J1 v86 = some y0 from h0)
          rw [hJ1] at h
          rcases ite_some h with ⟨h5, h⟩ | ⟨h5, h⟩
          · -- yes
            refine WP.cond (b := v86) rfl (fun _ => ?_) (fun hh => by rw [h5] at hh; cases hh)
            have h := Option.some.inj h
            subst h
            exact WP.pathW tab_ok mixed [] _ (ps := []) (r := tb false) (by kernel_rfl) trivial (WkT.eq (y := tb false) (WkT.refl _) rfl) (fun _ h => h)
          · -- no
            refine WP.cond (b := v86) rfl (fun hh => by rw [h5] at hh; cases hh) (fun _ => ?_)
            refine WP.path tab_ok mixed [] [.keep [13, 12, 11, 10, 7, 6, 5, 4, 3, 2, 0], .keepO [2006, 2010, 2011, 2012]] (ps := []) (e := .normal) (σ' := ⟨[2006, 2010, 2011, 2012], [(13, vb r69c), (12, V.ref 2012 0), (11, V.ref 2011 0), (10, V.ref 2010 0), (7, vb r42c), (6, V.ref 2006 0), (5, V.t (T.list (List.length r34c) 2 (List.flatMap askedC r34c))), (4, vi r34b), (3, vi r34), (2, vb false), (0, vy x0)], [(2006, oc 28 [tl r42, ti r42b]), (2010, oc 28 [tl r63, ti r63b]), (2011, oc 85 [ti r63c, tb r63d]), (2012, oc 28 [tl r69, ti r69b])]⟩) (by kernel_rfl) trivial ?_
            refine WP.seq ?_
            obtain ⟨r89, r89b, r89c, c7, h⟩ := bnd3_some h
            refine WP.path tab_ok mixed [(89, An.call (T.tup [ti r89, ti r89b, T.list (List.length r89c) 2 (List.flatMap askedC r89c)]))] [.keep [18, 17, 16, 13, 12, 11, 10, 7, 6, 5, 4, 3, 2], .keepO [2006, 2010, 2011, 2012]] (ps := [(C Try.prog 78 [ty x0] (T.tup [ti r89, ti r89b, T.list (List.length r89c) 2 (List.flatMap askedC r89c)]))]) (e := .normal) (σ' := ⟨[2006, 2010, 2011, 2012], [(18, V.t (T.list (List.length r89c) 2 (List.flatMap askedC r89c))), (17, vi r89b), (16, vi r89), (13, vb r69c), (12, V.ref 2012 0), (11, V.ref 2011 0), (10, V.ref 2010 0), (7, vb r42c), (6, V.ref 2006 0), (5, V.t (T.list (List.length r34c) 2 (List.flatMap askedC r34c))), (4, vi r34b), (3, vi r34), (2, vb false)], [(2006, oc 28 [tl r42, ti r42b]), (2010, oc 28 [tl r63, ti r63b]), (2011, oc 85 [ti r63c, tb r63d]), (2012, oc 28 [tl r69, ti r69b])]⟩) (by kernel_rfl) ⟨(F_spec_DrawSameOneWay_W_C x0 r89 r89b r89c c7), trivial⟩ ?_
            refine WP.seq ?_
            obtain ⟨r97, r97b, c8, h⟩ := bnd2_some h
            refine WP.path tab_ok mixed [(97, An.call (T.tup [tb r97, tb r97b]))] [.keep [20, 19, 18, 17, 16, 13, 12, 11, 10, 7, 6, 5, 4, 3, 2], .keepO [2006, 2010, 2011, 2012]] (ps := [(C Try.prog 79 [ti r89, ti r89b, T.list (List.length r89c) 2 (List.flatMap askedC r89c)] (T.tup [tb r97, tb r97b]))]) (e := .normal) (σ' := ⟨[2006, 2010, 2011, 2012], [(20, vb r97b), (19, vb r97), (18, V.t (T.list (List.length r89c) 2 (List.flatMap askedC r89c))), (17, vi r89b), (16, vi r89), (13, vb r69c), (12, V.ref 2012 0), (11, V.ref 2011 0), (10, V.ref 2010 0), (7, vb r42c), (6, V.ref 2006 0), (5, V.t (T.list (List.length r34c) 2 (List.flatMap askedC r34c))), (4, vi r34b), (3, vi r34), (2, vb false)], [(2006, oc 28 [tl r42, ti r42b]), (2010, oc 28 [tl r63, ti r63b]), (2011, oc 85 [ti r63c, tb r63d]), (2012, oc 28 [tl r69, ti r69b])]⟩) (by kernel_rfl) ⟨(F_impl_SameOneWay_W r89 r89b r89c r97 r97b c8), trivial⟩ ?_
            refine WP.seq ?_
            refine WP.seq ?_
            obtain ⟨r104, r104b, c9, h⟩ := bnd2_some h
            refine WP.path tab_ok mixed [(104, An.call (T.tup [tb r104, tb r104b]))] [.keep [22, 21, 20, 19, 18, 17, 13, 12, 11, 10, 7, 6, 5, 4, 3, 2], .keepO [2006, 2010, 2011, 2012]] (ps := [(C Try.prog 80 [ti r89, ti r89b, T.list (List.length r89c) 2 (List.flatMap askedC r89c)] (T.tup [tb r104, tb r104b]))]) (e := .normal) (σ' := ⟨[2006, 2010, 2011, 2012], [(22, vb r104b), (21, vb r104), (20, vb r97b), (19, vb r97), (18, V.t (T.list (List.length r89c) 2 (List.flatMap askedC r89c))), (17, vi r89b), (13, vb r69c), (12, V.ref 2012 0), (11, V.ref 2011 0), (10, V.ref 2010 0), (7, vb r42c), (6, V.ref 2006 0), (5, V.t (T.list (List.length r34c) 2 (List.flatMap askedC r34c))), (4, vi r34b), (3, vi r34), (2, vb false)], [(2006, oc 28 [tl r42, ti r42b]), (2010, oc 28 [tl r63, ti r63b]), (2011, oc 85 [ti r63c, tb r63d]), (2012, oc 28 [tl r69, ti r69b])]⟩) (by kernel_rfl) ⟨(F_spec_SameOneWay_W r89 r89b r89c r104 r104b c9), trivial⟩ ?_
            obtain ⟨J1, hJ1, h⟩ := jn_some h
            refine WP.joinA (fun (zz : Bool) => ⟨[2006, 2010, 2011, 2012], [(114, vb zz), (20, vb r97b), (19, vb r97), (18, V.t (T.list (List.length r89c) 2 (List.flatMap askedC r89c))), (17, vi r89b), (13, vb r69c), (12, V.ref 2012 0), (11, V.ref 2011 0), (10, V.ref 2010 0), (7, vb r42c), (6, V.ref 2006 0), (5, V.t (T.list (List.length r34c) 2 (List.flatMap askedC r34c))), (4, vi r34b), (3, vi r34), (2, vb false)], [(2006, oc 28 [tl r42, ti r42b]), (2010, oc 28 [tl r63, ti r63b]), (2011, oc 85 [ti r63c, tb r63d]), (2012, oc 28 [tl r69, ti r69b])]⟩) (fun zz => J1 zz = some y0) ?_ ?_
            · -- to where they meet
              rcases ite_some h with ⟨h6, h⟩ | ⟨h6, h⟩
              · -- yes
                refine WP.path tab_ok mixed [(109, An.b true)] [.keep [114, 20, 19, 18, 17, 13, 12, 11, 10, 7, 6, 5, 4, 3, 2], .keepO [2006, 2010, 2011, 2012], .names [(2006, 2006), (2010, 2010), (2011, 2011), (2012, 2012)]] (ps := [(True), ((!(r97 == r104)) = true)]) (e := .normal) (σ' := ⟨[2006, 2010, 2011, 2012], [(114, vb true), (20, vb r97b), (19, vb r97), (18, V.t (T.list (List.length r89c) 2 (List.flatMap askedC r89c))), (17, vi r89b), (13, vb r69c), (12, V.ref 2012 0), (11, V.ref 2011 0), (10, V.ref 2010 0), (7, vb r42c), (6, V.ref 2006 0), (5, V.t (T.list (List.length r34c) 2 (List.flatMap askedC r34c))), (4, vi r34b), (3, vi r34), (2, vb false)], [(2006, oc 28 [tl r42, ti r42b]), (2010, oc 28 [tl r63, ti r63b]), (2011, oc 85 [ti r63c, tb r63d]), (2012, oc 28 [tl r69, ti r69b])]⟩) (by kernel_rfl) ⟨trivial, h6, trivial⟩ ?_
                exact ⟨(true), h, rfl⟩
              · -- no
                refine WP.path tab_ok mixed [(109, An.b false)] [.keep [114, 20, 19, 18, 17, 13, 12, 11, 10, 7, 6, 5, 4, 3, 2], .keepO [2006, 2010, 2011, 2012], .names [(2006, 2006), (2010, 2010), (2011, 2011), (2012, 2012)]] (ps := [(True), ((!(r97 == r104)) = false), (True)]) (e := .normal) (σ' := ⟨[2006, 2010, 2011, 2012], [(114, vb (!(r97b == r104b))), (20, vb r97b), (19, vb r97), (18, V.t (T.list (List.length r89c) 2 (List.flatMap askedC r89c))), (17, vi r89b), (13, vb r69c), (12, V.ref 2012 0), (11, V.ref 2011 0), (10, V.ref 2010 0), (7, vb r42c), (6, V.ref 2006 0), (5, V.t (T.list (List.length r34c) 2 (List.flatMap askedC r34c))), (4, vi r34b), (3, vi r34), (2, vb false)], [(2006, oc 28 [tl r42, ti r42b]), (2010, oc 28 [tl r63, ti r63b]), (2011, oc 85 [ti r63c, tb r63d]), (2012, oc 28 [tl r69, ti r69b])]⟩) (by kernel_rfl) ⟨trivial, h6, trivial, trivial⟩ ?_
                exact ⟨(!(r97b == r104b)), h, rfl⟩
            · -- from there
              intro v114 h0
              have h := (show J1 v114 = some y0 from h0)
              rw [hJ1] at h
              rcases ite_some h with ⟨h7, h⟩ | ⟨h7, h⟩
              · -- yes
                refine WP.cond (b := v114) rfl (fun _ => ?_) (fun hh => by rw [h7] at hh; cases hh)
                have h := Option.some.inj h
                subst h
                exact WP.pathW tab_ok mixed [] _ (ps := []) (r := tb false) (by kernel_rfl) trivial (WkT.eq (y := tb false) (WkT.refl _) rfl) (fun _ h => h)
              · -- no
                refine WP.cond (b := v114) rfl (fun hh => by rw [h7] at hh; cases hh) (fun _ => ?_)
                refine WP.path tab_ok mixed [] [.keep [20, 19, 18, 17, 13, 12, 11, 10, 7, 6, 5, 4, 3, 2], .keepO [2006, 2010, 2011, 2012]] (ps := []) (e := .normal) (σ' := ⟨[2006, 2010, 2011, 2012], [(20, vb r97b), (19, vb r97), (18, V.t (T.list (List.length r89c) 2 (List.flatMap askedC r89c))), (17, vi r89b), (13, vb r69c), (12, V.ref 2012 0), (11, V.ref 2011 0), (10, V.ref 2010 0), (7, vb r42c), (6, V.ref 2006 0), (5, V.t (T.list (List.length r34c) 2 (List.flatMap askedC r34c))), (4, vi r34b), (3, vi r34), (2, vb false)], [(2006, oc 28 [tl r42, ti r42b]), (2010, oc 28 [tl r63, ti r63b]), (2011, oc 85 [ti r63c, tb r63d]), (2012, oc 28 [tl r69, ti r69b])]⟩) (by kernel_rfl) trivial ?_
                obtain ⟨J1, hJ1, h⟩ := jn_some h
                refine WP.joinA (fun (zz : Unit) => ⟨[2006], [(20, vb r97b), (19, vb r97), (18, V.t (T.list (List.length r89c) 2 (List.flatMap askedC r89c))), (17, vi r89b), (7, vb r42c), (6, V.ref 2006 0), (5, V.t (T.list (List.length r34c) 2 (List.flatMap askedC r34c))), (4, vi r34b), (3, vi r34), (2, vb false)], [(2006, oc 28 [tl r42, ti r42b])]⟩) (fun zz => J1 () = some y0) ?_ ?_
                · -- to where they meet
                  refine WP.seq ?_
                  refine WP.path tab_ok mixed [] [.keep [115, 20, 19, 18, 17, 12, 11, 10, 7, 6, 5, 4, 3, 2], .keepO [2006, 2010, 2011, 2012]] (ps := []) (e := .normal) (σ' := ⟨[2006, 2010, 2011, 2012], [(115, vb r69c), (20, vb r97b), (19, vb r97), (18, V.t (T.list (List.length r89c) 2 (List.flatMap askedC r89c))), (17, vi r89b), (12, V.ref 2012 0), (11, V.ref 2011 0), (10, V.ref 2010 0), (7, vb r42c), (6, V.ref 2006 0), (5, V.t (T.list (List.length r34c) 2 (List.flatMap askedC r34c))), (4, vi r34b), (3, vi r34), (2, vb false)], [(2006, oc 28 [tl r42, ti r42b]), (2010, oc 28 [tl r63, ti r63b]), (2011, oc 85 [ti r63c, tb r63d]), (2012, oc 28 [tl r69, ti r69b])]⟩) (by kernel_rfl) trivial ?_
                  rcases ite_some h with ⟨h8, h⟩ | ⟨h8, h⟩
                  · -- yes
                    refine WP.cond (b := r69c) rfl (fun _ => ?_) (fun hh => by rw [h8] at hh; cases hh)
                    refine WP.seq ?_
                    refine WP.path tab_ok mixed [] [.keep [23, 20, 19, 18, 17, 12, 11, 10, 7, 6, 5, 4, 3, 2], .keepO [2006, 2010, 2011, 2012]] (ps := []) (e := .normal) (σ' := ⟨[2006, 2010, 2011, 2012], [(23, vi 0), (20, vb r97b), (19, vb r97), (18, V.t (T.list (List.length r89c) 2 (List.flatMap askedC r89c))), (17, vi r89b), (12, V.ref 2012 0), (11, V.ref 2011 0), (10, V.ref 2010 0), (7, vb r42c), (6, V.ref 2006 0), (5, V.t (T.list (List.length r34c) 2 (List.flatMap askedC r34c))), (4, vi r34b), (3, vi r34), (2, vb false)], [(2006, oc 28 [tl r42, ti r42b]), (2010, oc 28 [tl r63, ti r63b]), (2011, oc 85 [ti r63c, tb r63d]), (2012, oc 28 [tl r69, ti r69b])]⟩) (by kernel_rfl) trivial ?_
                    refine WP.block ?_
                    refine WP.wk [.keep [23, 20, 19, 18, 17, 12, 11, 10, 7, 6, 5, 4, 3, 2], .keepO [2006, 2010, 2011, 2012], .names [(2006, 2006), (2010, 2010), (2011, 2011), (2012, 2012)]] (σ' := ⟨[2006, 2010, 2011, 2012], [(23, vi 0), (20, vb r97b), (19, vb r97), (18, V.t (T.list (List.length r89c) 2 (List.flatMap askedC r89c))), (17, vi r89b), (12, V.ref 2012 0), (11, V.ref 2011 0), (10, V.ref 2010 0), (7, vb r42c), (6, V.ref 2006 0), (5, V.t (T.list (List.length r34c) 2 (List.flatMap askedC r34c))), (4, vi r34b), (3, vi r34), (2, vb false)], [(2006, oc 28 [tl r42, ti r42b]), (2010, oc 28 [tl r63, ti r63b]), (2011, oc 85 [ti r63c, tb r63d]), (2012, oc 28 [tl r69, ti r69b])]⟩) (ps := []) (by kernel_rfl) trivial ?_
                    refine WP.st (σ' := ⟨[2006, 2010, 2011, 2012], [(23, vi (0 : Int)), (20, vb r97b), (19, vb r97), (18, V.t (T.list (List.length r89c) 2 (List.flatMap askedC r89c))), (17, vi r89b), (12, V.ref 2012 0), (11, V.ref 2011 0), (10, V.ref 2010 0), (7, vb r42c), (6, V.ref 2006 0), (5, V.t (T.list (List.length r34c) 2 (List.flatMap askedC r34c))), (4, vi r34b), (3, vi r34), (2, vb false)], [(2006, oc 28 [tl r42, ti r42b]), (2010, oc 28 [tl r63, ti r63b]), (2011, oc 85 [ti r63c, tb r63d]), (2012, oc 28 [tl r69, ti r69b])]⟩) (by first | rfl | (simp only [tlS, tl, vl, vo, oc, ov, tbl, vbl, ty, vy] <;> rfl) | (simp <;> omega) | (simp []; done) | (rw [List.take_of_length_le (by simp [])] <;> rfl)) ?_
                    refine WP.loop (α := Nat × Int) (fun zz => ⟨[2006, 2010, 2011, 2012], [(23, vi zz.2), (20, vb r97b), (19, vb r97), (18, V.t (T.list (List.length r89c) 2 (List.flatMap askedC r89c))), (17, vi r89b), (12, V.ref 2012 0), (11, V.ref 2011 0), (10, V.ref 2010 0), (7, vb r42c), (6, V.ref 2006 0), (5, V.t (T.list (List.length r34c) 2 (List.flatMap askedC r34c))), (4, vi r34b), (3, vi r34), (2, vb false)], [(2006, oc 28 [tl r42, ti r42b]), (2010, oc 28 [tl r63, ti r63b]), (2011, oc 85 [ti r63c, tb r63d]), (2012, oc 28 [tl r69, ti r69b])]⟩) (fun zz => F_laws_FnOneWays_L1 r63 r63c r63d r69 J1 zz.1 zz.2 = some y0) (fun zz => zz.1) (fuel, (0 : Int)) h ?_
                    rintro ⟨n, v23⟩ h0
                    have h := (show F_laws_FnOneWays_L1 r63 r63c r63d r69 J1 n v23 = some y0 from h0)
                    rcases n with _ | n
                    · rw [F_laws_FnOneWays_L1] at h; cases h
                    · rw [F_laws_FnOneWays_L1] at h
                      refine WP.seq ?_
                      refine WP.seq ?_
                      refine WP.path tab_ok mixed [] [.keep [120, 23, 20, 19, 18, 17, 12, 11, 10, 7, 6, 5, 4, 3, 2], .keepO [2006, 2010, 2011, 2012]] (ps := [(True), (True)]) (e := .normal) (σ' := ⟨[2006, 2010, 2011, 2012], [(120, vb (decide (v23 < ((List.length r63 : Nat) : Int)))), (23, vi v23), (20, vb r97b), (19, vb r97), (18, V.t (T.list (List.length r89c) 2 (List.flatMap askedC r89c))), (17, vi r89b), (12, V.ref 2012 0), (11, V.ref 2011 0), (10, V.ref 2010 0), (7, vb r42c), (6, V.ref 2006 0), (5, V.t (T.list (List.length r34c) 2 (List.flatMap askedC r34c))), (4, vi r34b), (3, vi r34), (2, vb false)], [(2006, oc 28 [tl r42, ti r42b]), (2010, oc 28 [tl r63, ti r63b]), (2011, oc 85 [ti r63c, tb r63d]), (2012, oc 28 [tl r69, ti r69b])]⟩) (by kernel_rfl) ⟨trivial, trivial, trivial⟩ ?_
                      rcases ite_some h with ⟨h9, h⟩ | ⟨h9, h⟩
                      · -- yes
                        refine WP.cond (b := decide (v23 < ((List.length r63 : Nat) : Int))) rfl (fun _ => ?_) (fun hh => by rw [h9] at hh; cases hh)
                        refine WP.path tab_ok mixed [] [.keep [23, 20, 19, 18, 17, 12, 11, 10, 7, 6, 5, 4, 3, 2], .keepO [2006, 2010, 2011, 2012]] (ps := []) (e := .normal) (σ' := ⟨[2006, 2010, 2011, 2012], [(23, vi v23), (20, vb r97b), (19, vb r97), (18, V.t (T.list (List.length r89c) 2 (List.flatMap askedC r89c))), (17, vi r89b), (12, V.ref 2012 0), (11, V.ref 2011 0), (10, V.ref 2010 0), (7, vb r42c), (6, V.ref 2006 0), (5, V.t (T.list (List.length r34c) 2 (List.flatMap askedC r34c))), (4, vi r34b), (3, vi r34), (2, vb false)], [(2006, oc 28 [tl r42, ti r42b]), (2010, oc 28 [tl r63, ti r63b]), (2011, oc 85 [ti r63c, tb r63d]), (2012, oc 28 [tl r69, ti r69b])]⟩) (by kernel_rfl) trivial ?_
                        refine WP.seq ?_
                        refine WP.block ?_
                        refine WP.seq ?_
                        obtain ⟨c10, h⟩ := chk_some h
                        obtain ⟨n127, c11, h⟩ := nam_some h
                        refine WP.path tab_ok mixed [(126, An.v (T.int .i64 (r63c / 2 ^ Int.toNat v23))), (127, An.v (ti n127))] [.keep [24, 23, 20, 19, 18, 17, 12, 11, 10, 7, 6, 5, 4, 3, 2], .keepO [2006, 2010, 2011, 2012]] (ps := [(True), (0 ≤ v23), (T.int .i64 (Int.fdiv r63c (2 ^ (min (Int.toNat v23) 64))) = T.int .i64 (r63c / 2 ^ Int.toNat v23)), (True), (ti (bits .and .i64 (r63c / 2 ^ Int.toNat v23) (1 : Int)) = ti n127), (True)]) (e := .normal) (σ' := ⟨[2006, 2010, 2011, 2012], [(24, vb (n127 == (1 : Int))), (23, vi v23), (20, vb r97b), (19, vb r97), (18, V.t (T.list (List.length r89c) 2 (List.flatMap askedC r89c))), (17, vi r89b), (12, V.ref 2012 0), (11, V.ref 2011 0), (10, V.ref 2010 0), (7, vb r42c), (6, V.ref 2006 0), (5, V.t (T.list (List.length r34c) 2 (List.flatMap askedC r34c))), (4, vi r34b), (3, vi r34), (2, vb false)], [(2006, oc 28 [tl r42, ti r42b]), (2010, oc 28 [tl r63, ti r63b]), (2011, oc 85 [ti r63c, tb r63d]), (2012, oc 28 [tl r69, ti r69b])]⟩) (by kernel_rfl) ⟨trivial, c10.1, shr_told c10, trivial, congrArg (ti) c11, trivial, trivial⟩ ?_
                        obtain ⟨J2, hJ2, h⟩ := jn_some h
                        refine WP.joinA (fun (zz : Bool) => ⟨[2006, 2010, 2011, 2012], [(184, vb zz), (23, vi v23), (20, vb r97b), (19, vb r97), (18, V.t (T.list (List.length r89c) 2 (List.flatMap askedC r89c))), (17, vi r89b), (12, V.ref 2012 0), (11, V.ref 2011 0), (10, V.ref 2010 0), (7, vb r42c), (6, V.ref 2006 0), (5, V.t (T.list (List.length r34c) 2 (List.flatMap askedC r34c))), (4, vi r34b), (3, vi r34), (2, vb false)], [(2006, oc 28 [tl r42, ti r42b]), (2010, oc 28 [tl r63, ti r63b]), (2011, oc 85 [ti r63c, tb r63d]), (2012, oc 28 [tl r69, ti r69b])]⟩) (fun zz => J2 zz = some y0) ?_ ?_
                        · -- to where they meet
                          rcases ite_some h with ⟨h10, h⟩ | ⟨h10, h⟩
                          · -- yes
                            rcases ite_some h with ⟨h11, h⟩ | ⟨h11, h⟩
                            · -- yes
                              obtain ⟨c12, h⟩ := chk_some h
                              obtain ⟨c13, h⟩ := chk_some h
                              rcases ite_some h with ⟨h12, h⟩ | ⟨h12, h⟩
                              · -- yes
                                refine WP.path tab_ok mixed [(131, An.b true), (134, An.b true), (139, An.v (ti (List.getD r69 (Int.toNat v23) 0))), (144, An.v (ti (List.getD r63 (Int.toNat v23) 0))), (145, An.b true)] [.keep [184, 23, 20, 19, 18, 17, 12, 11, 10, 7, 6, 5, 4, 3, 2], .keepO [2006, 2010, 2011, 2012], .names [(2006, 2006), (2010, 2010), (2011, 2011), (2012, 2012)]] (ps := [(True), ((r63d) = true), ((n127 == (1 : Int)) = true), (True), ((0 ≤ v23 ∧ v23 < ((List.length r69 : Nat) : Int))), ((List.drop ((Int.toNat v23) * 1) (List.map (T.int .i64) r69) : List T)[0]? = some (ti (List.getD r69 (Int.toNat v23) 0))), (ti (List.getD r69 (Int.toNat v23) 0) = ti (List.getD r69 (Int.toNat v23) 0)), (True), ((0 ≤ v23 ∧ v23 < ((List.length r63 : Nat) : Int))), ((List.drop ((Int.toNat v23) * 1) (List.map (T.int .i64) r63) : List T)[0]? = some (ti (List.getD r63 (Int.toNat v23) 0))), (ti (List.getD r63 (Int.toNat v23) 0) = ti (List.getD r63 (Int.toNat v23) 0)), (True), (((List.getD r69 (Int.toNat v23) 0) != (List.getD r63 (Int.toNat v23) 0)) = true)]) (e := .normal) (σ' := ⟨[2006, 2010, 2011, 2012], [(184, vb true), (23, vi v23), (20, vb r97b), (19, vb r97), (18, V.t (T.list (List.length r89c) 2 (List.flatMap askedC r89c))), (17, vi r89b), (12, V.ref 2012 0), (11, V.ref 2011 0), (10, V.ref 2010 0), (7, vb r42c), (6, V.ref 2006 0), (5, V.t (T.list (List.length r34c) 2 (List.flatMap askedC r34c))), (4, vi r34b), (3, vi r34), (2, vb false)], [(2006, oc 28 [tl r42, ti r42b]), (2010, oc 28 [tl r63, ti r63b]), (2011, oc 85 [ti r63c, tb r63d]), (2012, oc 28 [tl r69, ti r69b])]⟩) (by kernel_rfl) ⟨trivial, h10, h11, trivial, c12, at1 (by simp) (by omega), rfl, trivial, c13, at1 (by simp) (by omega), rfl, trivial, h12, trivial⟩ ?_
                                exact ⟨(true), h, rfl⟩
                              · -- no
                                rcases ite_some h with ⟨h13, h⟩ | ⟨h13, h⟩
                                · -- yes
                                  rcases ite_some h with ⟨h14, h⟩ | ⟨h14, h⟩
                                  · -- yes
                                    refine WP.path tab_ok mixed [(131, An.b true), (134, An.b true), (139, An.v (ti (List.getD r69 (Int.toNat v23) 0))), (144, An.v (ti (List.getD r63 (Int.toNat v23) 0))), (145, An.b false), (150, An.b true), (154, An.b true), (159, An.v (ti (List.getD r69 (Int.toNat v23) 0))), (160, An.b true)] [.keep [184, 23, 20, 19, 18, 17, 12, 11, 10, 7, 6, 5, 4, 3, 2], .keepO [2006, 2010, 2011, 2012], .names [(2006, 2006), (2010, 2010), (2011, 2011), (2012, 2012)]] (ps := [(True), ((r63d) = true), ((n127 == (1 : Int)) = true), (True), ((0 ≤ v23 ∧ v23 < ((List.length r69 : Nat) : Int))), ((List.drop ((Int.toNat v23) * 1) (List.map (T.int .i64) r69) : List T)[0]? = some (ti (List.getD r69 (Int.toNat v23) 0))), (ti (List.getD r69 (Int.toNat v23) 0) = ti (List.getD r69 (Int.toNat v23) 0)), (True), ((0 ≤ v23 ∧ v23 < ((List.length r63 : Nat) : Int))), ((List.drop ((Int.toNat v23) * 1) (List.map (T.int .i64) r63) : List T)[0]? = some (ti (List.getD r63 (Int.toNat v23) 0))), (ti (List.getD r63 (Int.toNat v23) 0) = ti (List.getD r63 (Int.toNat v23) 0)), (True), (((List.getD r69 (Int.toNat v23) 0) != (List.getD r63 (Int.toNat v23) 0)) = false), (True), ((r63d) = true), ((!(n127 == (1 : Int))) = true), (True), ((0 ≤ v23 ∧ v23 < ((List.length r69 : Nat) : Int))), ((List.drop ((Int.toNat v23) * 1) (List.map (T.int .i64) r69) : List T)[0]? = some (ti (List.getD r69 (Int.toNat v23) 0))), (ti (List.getD r69 (Int.toNat v23) 0) = ti (List.getD r69 (Int.toNat v23) 0)), (True), (((List.getD r69 (Int.toNat v23) 0) != (-1 : Int)) = true)]) (e := .normal) (σ' := ⟨[2006, 2010, 2011, 2012], [(184, vb true), (23, vi v23), (20, vb r97b), (19, vb r97), (18, V.t (T.list (List.length r89c) 2 (List.flatMap askedC r89c))), (17, vi r89b), (12, V.ref 2012 0), (11, V.ref 2011 0), (10, V.ref 2010 0), (7, vb r42c), (6, V.ref 2006 0), (5, V.t (T.list (List.length r34c) 2 (List.flatMap askedC r34c))), (4, vi r34b), (3, vi r34), (2, vb false)], [(2006, oc 28 [tl r42, ti r42b]), (2010, oc 28 [tl r63, ti r63b]), (2011, oc 85 [ti r63c, tb r63d]), (2012, oc 28 [tl r69, ti r69b])]⟩) (by kernel_rfl) ⟨trivial, h10, h11, trivial, c12, at1 (by simp) (by omega), rfl, trivial, c13, at1 (by simp) (by omega), rfl, trivial, h12, trivial, h10, h13, trivial, c12, at1 (by simp) (by omega), rfl, trivial, h14, trivial⟩ ?_
                                    exact ⟨(true), h, rfl⟩
                                  · -- no
                                    rcases ite_some h with ⟨h15, h⟩ | ⟨h15, h⟩
                                    · -- yes
                                      refine WP.path tab_ok mixed [(131, An.b true), (134, An.b true), (139, An.v (ti (List.getD r69 (Int.toNat v23) 0))), (144, An.v (ti (List.getD r63 (Int.toNat v23) 0))), (145, An.b false), (150, An.b true), (154, An.b true), (159, An.v (ti (List.getD r69 (Int.toNat v23) 0))), (160, An.b false), (167, An.b true), (171, An.b true), (176, An.v (ti (List.getD r69 (Int.toNat v23) 0))), (181, An.v (ti (List.getD r63 (Int.toNat v23) 0))), (182, An.b false)] [.keep [184, 23, 20, 19, 18, 17, 12, 11, 10, 7, 6, 5, 4, 3, 2], .keepO [2006, 2010, 2011, 2012], .names [(2006, 2006), (2010, 2010), (2011, 2011), (2012, 2012)]] (ps := [(True), ((r63d) = true), ((n127 == (1 : Int)) = true), (True), ((0 ≤ v23 ∧ v23 < ((List.length r69 : Nat) : Int))), ((List.drop ((Int.toNat v23) * 1) (List.map (T.int .i64) r69) : List T)[0]? = some (ti (List.getD r69 (Int.toNat v23) 0))), (ti (List.getD r69 (Int.toNat v23) 0) = ti (List.getD r69 (Int.toNat v23) 0)), (True), ((0 ≤ v23 ∧ v23 < ((List.length r63 : Nat) : Int))), ((List.drop ((Int.toNat v23) * 1) (List.map (T.int .i64) r63) : List T)[0]? = some (ti (List.getD r63 (Int.toNat v23) 0))), (ti (List.getD r63 (Int.toNat v23) 0) = ti (List.getD r63 (Int.toNat v23) 0)), (True), (((List.getD r69 (Int.toNat v23) 0) != (List.getD r63 (Int.toNat v23) 0)) = false), (True), ((r63d) = true), ((!(n127 == (1 : Int))) = true), (True), ((0 ≤ v23 ∧ v23 < ((List.length r69 : Nat) : Int))), ((List.drop ((Int.toNat v23) * 1) (List.map (T.int .i64) r69) : List T)[0]? = some (ti (List.getD r69 (Int.toNat v23) 0))), (ti (List.getD r69 (Int.toNat v23) 0) = ti (List.getD r69 (Int.toNat v23) 0)), (True), (((List.getD r69 (Int.toNat v23) 0) != (-1 : Int)) = false), (True), ((!r63d) = true), ((!(n127 == (1 : Int))) = true), (True), ((0 ≤ v23 ∧ v23 < ((List.length r69 : Nat) : Int))), ((List.drop ((Int.toNat v23) * 1) (List.map (T.int .i64) r69) : List T)[0]? = some (ti (List.getD r69 (Int.toNat v23) 0))), (ti (List.getD r69 (Int.toNat v23) 0) = ti (List.getD r69 (Int.toNat v23) 0)), (True), ((0 ≤ v23 ∧ v23 < ((List.length r63 : Nat) : Int))), ((List.drop ((Int.toNat v23) * 1) (List.map (T.int .i64) r63) : List T)[0]? = some (ti (List.getD r63 (Int.toNat v23) 0))), (ti (List.getD r63 (Int.toNat v23) 0) = ti (List.getD r63 (Int.toNat v23) 0)), (True), (((List.getD r69 (Int.toNat v23) 0) != (List.getD r63 (Int.toNat v23) 0)) = false)]) (e := .normal) (σ' := ⟨[2006, 2010, 2011, 2012], [(184, vb false), (23, vi v23), (20, vb r97b), (19, vb r97), (18, V.t (T.list (List.length r89c) 2 (List.flatMap askedC r89c))), (17, vi r89b), (12, V.ref 2012 0), (11, V.ref 2011 0), (10, V.ref 2010 0), (7, vb r42c), (6, V.ref 2006 0), (5, V.t (T.list (List.length r34c) 2 (List.flatMap askedC r34c))), (4, vi r34b), (3, vi r34), (2, vb false)], [(2006, oc 28 [tl r42, ti r42b]), (2010, oc 28 [tl r63, ti r63b]), (2011, oc 85 [ti r63c, tb r63d]), (2012, oc 28 [tl r69, ti r69b])]⟩) (by kernel_rfl) ⟨trivial, h10, h11, trivial, c12, at1 (by simp) (by omega), rfl, trivial, c13, at1 (by simp) (by omega), rfl, trivial, h12, trivial, h10, h13, trivial, c12, at1 (by simp) (by omega), rfl, trivial, h14, trivial, h15, h13, trivial, c12, at1 (by simp) (by omega), rfl, trivial, c13, at1 (by simp) (by omega), rfl, trivial, h12, trivial⟩ ?_
                                      exact ⟨(false), h, rfl⟩
                                    · -- no
                                      refine WP.path tab_ok mixed [(131, An.b true), (134, An.b true), (139, An.v (ti (List.getD r69 (Int.toNat v23) 0))), (144, An.v (ti (List.getD r63 (Int.toNat v23) 0))), (145, An.b false), (150, An.b true), (154, An.b true), (159, An.v (ti (List.getD r69 (Int.toNat v23) 0))), (160, An.b false), (167, An.b false)] [.keep [184, 23, 20, 19, 18, 17, 12, 11, 10, 7, 6, 5, 4, 3, 2], .keepO [2006, 2010, 2011, 2012], .names [(2006, 2006), (2010, 2010), (2011, 2011), (2012, 2012)]] (ps := [(True), ((r63d) = true), ((n127 == (1 : Int)) = true), (True), ((0 ≤ v23 ∧ v23 < ((List.length r69 : Nat) : Int))), ((List.drop ((Int.toNat v23) * 1) (List.map (T.int .i64) r69) : List T)[0]? = some (ti (List.getD r69 (Int.toNat v23) 0))), (ti (List.getD r69 (Int.toNat v23) 0) = ti (List.getD r69 (Int.toNat v23) 0)), (True), ((0 ≤ v23 ∧ v23 < ((List.length r63 : Nat) : Int))), ((List.drop ((Int.toNat v23) * 1) (List.map (T.int .i64) r63) : List T)[0]? = some (ti (List.getD r63 (Int.toNat v23) 0))), (ti (List.getD r63 (Int.toNat v23) 0) = ti (List.getD r63 (Int.toNat v23) 0)), (True), (((List.getD r69 (Int.toNat v23) 0) != (List.getD r63 (Int.toNat v23) 0)) = false), (True), ((r63d) = true), ((!(n127 == (1 : Int))) = true), (True), ((0 ≤ v23 ∧ v23 < ((List.length r69 : Nat) : Int))), ((List.drop ((Int.toNat v23) * 1) (List.map (T.int .i64) r69) : List T)[0]? = some (ti (List.getD r69 (Int.toNat v23) 0))), (ti (List.getD r69 (Int.toNat v23) 0) = ti (List.getD r69 (Int.toNat v23) 0)), (True), (((List.getD r69 (Int.toNat v23) 0) != (-1 : Int)) = false), (True), ((!r63d) = false)]) (e := .normal) (σ' := ⟨[2006, 2010, 2011, 2012], [(184, vb false), (23, vi v23), (20, vb r97b), (19, vb r97), (18, V.t (T.list (List.length r89c) 2 (List.flatMap askedC r89c))), (17, vi r89b), (12, V.ref 2012 0), (11, V.ref 2011 0), (10, V.ref 2010 0), (7, vb r42c), (6, V.ref 2006 0), (5, V.t (T.list (List.length r34c) 2 (List.flatMap askedC r34c))), (4, vi r34b), (3, vi r34), (2, vb false)], [(2006, oc 28 [tl r42, ti r42b]), (2010, oc 28 [tl r63, ti r63b]), (2011, oc 85 [ti r63c, tb r63d]), (2012, oc 28 [tl r69, ti r69b])]⟩) (by kernel_rfl) ⟨trivial, h10, h11, trivial, c12, at1 (by simp) (by omega), rfl, trivial, c13, at1 (by simp) (by omega), rfl, trivial, h12, trivial, h10, h13, trivial, c12, at1 (by simp) (by omega), rfl, trivial, h14, trivial, h15, trivial⟩ ?_
                                      exact ⟨(false), h, rfl⟩
                                · -- no
                                  rcases ite_some h with ⟨h16, h⟩ | ⟨h16, h⟩
                                  · -- yes
                                    refine WP.path tab_ok mixed [(131, An.b true), (134, An.b true), (139, An.v (ti (List.getD r69 (Int.toNat v23) 0))), (144, An.v (ti (List.getD r63 (Int.toNat v23) 0))), (145, An.b false), (150, An.b true), (154, An.b false), (167, An.b true), (171, An.b false)] [.keep [184, 23, 20, 19, 18, 17, 12, 11, 10, 7, 6, 5, 4, 3, 2], .keepO [2006, 2010, 2011, 2012], .names [(2006, 2006), (2010, 2010), (2011, 2011), (2012, 2012)]] (ps := [(True), ((r63d) = true), ((n127 == (1 : Int)) = true), (True), ((0 ≤ v23 ∧ v23 < ((List.length r69 : Nat) : Int))), ((List.drop ((Int.toNat v23) * 1) (List.map (T.int .i64) r69) : List T)[0]? = some (ti (List.getD r69 (Int.toNat v23) 0))), (ti (List.getD r69 (Int.toNat v23) 0) = ti (List.getD r69 (Int.toNat v23) 0)), (True), ((0 ≤ v23 ∧ v23 < ((List.length r63 : Nat) : Int))), ((List.drop ((Int.toNat v23) * 1) (List.map (T.int .i64) r63) : List T)[0]? = some (ti (List.getD r63 (Int.toNat v23) 0))), (ti (List.getD r63 (Int.toNat v23) 0) = ti (List.getD r63 (Int.toNat v23) 0)), (True), (((List.getD r69 (Int.toNat v23) 0) != (List.getD r63 (Int.toNat v23) 0)) = false), (True), ((r63d) = true), ((!(n127 == (1 : Int))) = false), (True), ((!r63d) = true), ((!(n127 == (1 : Int))) = false)]) (e := .normal) (σ' := ⟨[2006, 2010, 2011, 2012], [(184, vb false), (23, vi v23), (20, vb r97b), (19, vb r97), (18, V.t (T.list (List.length r89c) 2 (List.flatMap askedC r89c))), (17, vi r89b), (12, V.ref 2012 0), (11, V.ref 2011 0), (10, V.ref 2010 0), (7, vb r42c), (6, V.ref 2006 0), (5, V.t (T.list (List.length r34c) 2 (List.flatMap askedC r34c))), (4, vi r34b), (3, vi r34), (2, vb false)], [(2006, oc 28 [tl r42, ti r42b]), (2010, oc 28 [tl r63, ti r63b]), (2011, oc 85 [ti r63c, tb r63d]), (2012, oc 28 [tl r69, ti r69b])]⟩) (by kernel_rfl) ⟨trivial, h10, h11, trivial, c12, at1 (by simp) (by omega), rfl, trivial, c13, at1 (by simp) (by omega), rfl, trivial, h12, trivial, h10, h13, trivial, h16, h13, trivial⟩ ?_
                                    exact ⟨(false), h, rfl⟩
                                  · -- no
                                    refine WP.path tab_ok mixed [(131, An.b true), (134, An.b true), (139, An.v (ti (List.getD r69 (Int.toNat v23) 0))), (144, An.v (ti (List.getD r63 (Int.toNat v23) 0))), (145, An.b false), (150, An.b true), (154, An.b false), (167, An.b false)] [.keep [184, 23, 20, 19, 18, 17, 12, 11, 10, 7, 6, 5, 4, 3, 2], .keepO [2006, 2010, 2011, 2012], .names [(2006, 2006), (2010, 2010), (2011, 2011), (2012, 2012)]] (ps := [(True), ((r63d) = true), ((n127 == (1 : Int)) = true), (True), ((0 ≤ v23 ∧ v23 < ((List.length r69 : Nat) : Int))), ((List.drop ((Int.toNat v23) * 1) (List.map (T.int .i64) r69) : List T)[0]? = some (ti (List.getD r69 (Int.toNat v23) 0))), (ti (List.getD r69 (Int.toNat v23) 0) = ti (List.getD r69 (Int.toNat v23) 0)), (True), ((0 ≤ v23 ∧ v23 < ((List.length r63 : Nat) : Int))), ((List.drop ((Int.toNat v23) * 1) (List.map (T.int .i64) r63) : List T)[0]? = some (ti (List.getD r63 (Int.toNat v23) 0))), (ti (List.getD r63 (Int.toNat v23) 0) = ti (List.getD r63 (Int.toNat v23) 0)), (True), (((List.getD r69 (Int.toNat v23) 0) != (List.getD r63 (Int.toNat v23) 0)) = false), (True), ((r63d) = true), ((!(n127 == (1 : Int))) = false), (True), ((!r63d) = false)]) (e := .normal) (σ' := ⟨[2006, 2010, 2011, 2012], [(184, vb false), (23, vi v23), (20, vb r97b), (19, vb r97), (18, V.t (T.list (List.length r89c) 2 (List.flatMap askedC r89c))), (17, vi r89b), (12, V.ref 2012 0), (11, V.ref 2011 0), (10, V.ref 2010 0), (7, vb r42c), (6, V.ref 2006 0), (5, V.t (T.list (List.length r34c) 2 (List.flatMap askedC r34c))), (4, vi r34b), (3, vi r34), (2, vb false)], [(2006, oc 28 [tl r42, ti r42b]), (2010, oc 28 [tl r63, ti r63b]), (2011, oc 85 [ti r63c, tb r63d]), (2012, oc 28 [tl r69, ti r69b])]⟩) (by kernel_rfl) ⟨trivial, h10, h11, trivial, c12, at1 (by simp) (by omega), rfl, trivial, c13, at1 (by simp) (by omega), rfl, trivial, h12, trivial, h10, h13, trivial, h16, trivial⟩ ?_
                                    exact ⟨(false), h, rfl⟩
                            · -- no
                              rcases ite_some h with ⟨h17, h⟩ | ⟨h17, h⟩
                              · -- yes
                                obtain ⟨c12, h⟩ := chk_some h
                                rcases ite_some h with ⟨h18, h⟩ | ⟨h18, h⟩
                                · -- yes
                                  refine WP.path tab_ok mixed [(131, An.b true), (134, An.b false), (150, An.b true), (154, An.b true), (159, An.v (ti (List.getD r69 (Int.toNat v23) 0))), (160, An.b true)] [.keep [184, 23, 20, 19, 18, 17, 12, 11, 10, 7, 6, 5, 4, 3, 2], .keepO [2006, 2010, 2011, 2012], .names [(2006, 2006), (2010, 2010), (2011, 2011), (2012, 2012)]] (ps := [(True), ((r63d) = true), ((n127 == (1 : Int)) = false), (True), ((r63d) = true), ((!(n127 == (1 : Int))) = true), (True), ((0 ≤ v23 ∧ v23 < ((List.length r69 : Nat) : Int))), ((List.drop ((Int.toNat v23) * 1) (List.map (T.int .i64) r69) : List T)[0]? = some (ti (List.getD r69 (Int.toNat v23) 0))), (ti (List.getD r69 (Int.toNat v23) 0) = ti (List.getD r69 (Int.toNat v23) 0)), (True), (((List.getD r69 (Int.toNat v23) 0) != (-1 : Int)) = true)]) (e := .normal) (σ' := ⟨[2006, 2010, 2011, 2012], [(184, vb true), (23, vi v23), (20, vb r97b), (19, vb r97), (18, V.t (T.list (List.length r89c) 2 (List.flatMap askedC r89c))), (17, vi r89b), (12, V.ref 2012 0), (11, V.ref 2011 0), (10, V.ref 2010 0), (7, vb r42c), (6, V.ref 2006 0), (5, V.t (T.list (List.length r34c) 2 (List.flatMap askedC r34c))), (4, vi r34b), (3, vi r34), (2, vb false)], [(2006, oc 28 [tl r42, ti r42b]), (2010, oc 28 [tl r63, ti r63b]), (2011, oc 85 [ti r63c, tb r63d]), (2012, oc 28 [tl r69, ti r69b])]⟩) (by kernel_rfl) ⟨trivial, h10, h11, trivial, h10, h17, trivial, c12, at1 (by simp) (by omega), rfl, trivial, h18, trivial⟩ ?_
                                  exact ⟨(true), h, rfl⟩
                                · -- no
                                  rcases ite_some h with ⟨h19, h⟩ | ⟨h19, h⟩
                                  · -- yes
                                    obtain ⟨c13, h⟩ := chk_some h
                                    refine WP.path tab_ok mixed [(131, An.b true), (134, An.b false), (150, An.b true), (154, An.b true), (159, An.v (ti (List.getD r69 (Int.toNat v23) 0))), (160, An.b false), (167, An.b true), (171, An.b true), (176, An.v (ti (List.getD r69 (Int.toNat v23) 0))), (181, An.v (ti (List.getD r63 (Int.toNat v23) 0)))] [.keep [184, 23, 20, 19, 18, 17, 12, 11, 10, 7, 6, 5, 4, 3, 2], .keepO [2006, 2010, 2011, 2012], .names [(2006, 2006), (2010, 2010), (2011, 2011), (2012, 2012)]] (ps := [(True), ((r63d) = true), ((n127 == (1 : Int)) = false), (True), ((r63d) = true), ((!(n127 == (1 : Int))) = true), (True), ((0 ≤ v23 ∧ v23 < ((List.length r69 : Nat) : Int))), ((List.drop ((Int.toNat v23) * 1) (List.map (T.int .i64) r69) : List T)[0]? = some (ti (List.getD r69 (Int.toNat v23) 0))), (ti (List.getD r69 (Int.toNat v23) 0) = ti (List.getD r69 (Int.toNat v23) 0)), (True), (((List.getD r69 (Int.toNat v23) 0) != (-1 : Int)) = false), (True), ((!r63d) = true), ((!(n127 == (1 : Int))) = true), (True), ((0 ≤ v23 ∧ v23 < ((List.length r69 : Nat) : Int))), ((List.drop ((Int.toNat v23) * 1) (List.map (T.int .i64) r69) : List T)[0]? = some (ti (List.getD r69 (Int.toNat v23) 0))), (ti (List.getD r69 (Int.toNat v23) 0) = ti (List.getD r69 (Int.toNat v23) 0)), (True), ((0 ≤ v23 ∧ v23 < ((List.length r63 : Nat) : Int))), ((List.drop ((Int.toNat v23) * 1) (List.map (T.int .i64) r63) : List T)[0]? = some (ti (List.getD r63 (Int.toNat v23) 0))), (ti (List.getD r63 (Int.toNat v23) 0) = ti (List.getD r63 (Int.toNat v23) 0)), (True)]) (e := .normal) (σ' := ⟨[2006, 2010, 2011, 2012], [(184, vb ((List.getD r69 (Int.toNat v23) 0) != (List.getD r63 (Int.toNat v23) 0))), (23, vi v23), (20, vb r97b), (19, vb r97), (18, V.t (T.list (List.length r89c) 2 (List.flatMap askedC r89c))), (17, vi r89b), (12, V.ref 2012 0), (11, V.ref 2011 0), (10, V.ref 2010 0), (7, vb r42c), (6, V.ref 2006 0), (5, V.t (T.list (List.length r34c) 2 (List.flatMap askedC r34c))), (4, vi r34b), (3, vi r34), (2, vb false)], [(2006, oc 28 [tl r42, ti r42b]), (2010, oc 28 [tl r63, ti r63b]), (2011, oc 85 [ti r63c, tb r63d]), (2012, oc 28 [tl r69, ti r69b])]⟩) (by kernel_rfl) ⟨trivial, h10, h11, trivial, h10, h17, trivial, c12, at1 (by simp) (by omega), rfl, trivial, h18, trivial, h19, h17, trivial, c12, at1 (by simp) (by omega), rfl, trivial, c13, at1 (by simp) (by omega), rfl, trivial, trivial⟩ ?_
                                    exact ⟨((List.getD r69 (Int.toNat v23) 0) != (List.getD r63 (Int.toNat v23) 0)), h, rfl⟩
                                  · -- no
                                    refine WP.path tab_ok mixed [(131, An.b true), (134, An.b false), (150, An.b true), (154, An.b true), (159, An.v (ti (List.getD r69 (Int.toNat v23) 0))), (160, An.b false), (167, An.b false)] [.keep [184, 23, 20, 19, 18, 17, 12, 11, 10, 7, 6, 5, 4, 3, 2], .keepO [2006, 2010, 2011, 2012], .names [(2006, 2006), (2010, 2010), (2011, 2011), (2012, 2012)]] (ps := [(True), ((r63d) = true), ((n127 == (1 : Int)) = false), (True), ((r63d) = true), ((!(n127 == (1 : Int))) = true), (True), ((0 ≤ v23 ∧ v23 < ((List.length r69 : Nat) : Int))), ((List.drop ((Int.toNat v23) * 1) (List.map (T.int .i64) r69) : List T)[0]? = some (ti (List.getD r69 (Int.toNat v23) 0))), (ti (List.getD r69 (Int.toNat v23) 0) = ti (List.getD r69 (Int.toNat v23) 0)), (True), (((List.getD r69 (Int.toNat v23) 0) != (-1 : Int)) = false), (True), ((!r63d) = false)]) (e := .normal) (σ' := ⟨[2006, 2010, 2011, 2012], [(184, vb false), (23, vi v23), (20, vb r97b), (19, vb r97), (18, V.t (T.list (List.length r89c) 2 (List.flatMap askedC r89c))), (17, vi r89b), (12, V.ref 2012 0), (11, V.ref 2011 0), (10, V.ref 2010 0), (7, vb r42c), (6, V.ref 2006 0), (5, V.t (T.list (List.length r34c) 2 (List.flatMap askedC r34c))), (4, vi r34b), (3, vi r34), (2, vb false)], [(2006, oc 28 [tl r42, ti r42b]), (2010, oc 28 [tl r63, ti r63b]), (2011, oc 85 [ti r63c, tb r63d]), (2012, oc 28 [tl r69, ti r69b])]⟩) (by kernel_rfl) ⟨trivial, h10, h11, trivial, h10, h17, trivial, c12, at1 (by simp) (by omega), rfl, trivial, h18, trivial, h19, trivial⟩ ?_
                                    exact ⟨(false), h, rfl⟩
                              · -- no
                                rcases ite_some h with ⟨h20, h⟩ | ⟨h20, h⟩
                                · -- yes
                                  refine WP.path tab_ok mixed [(131, An.b true), (134, An.b false), (150, An.b true), (154, An.b false), (167, An.b true), (171, An.b false)] [.keep [184, 23, 20, 19, 18, 17, 12, 11, 10, 7, 6, 5, 4, 3, 2], .keepO [2006, 2010, 2011, 2012], .names [(2006, 2006), (2010, 2010), (2011, 2011), (2012, 2012)]] (ps := [(True), ((r63d) = true), ((n127 == (1 : Int)) = false), (True), ((r63d) = true), ((!(n127 == (1 : Int))) = false), (True), ((!r63d) = true), ((!(n127 == (1 : Int))) = false)]) (e := .normal) (σ' := ⟨[2006, 2010, 2011, 2012], [(184, vb false), (23, vi v23), (20, vb r97b), (19, vb r97), (18, V.t (T.list (List.length r89c) 2 (List.flatMap askedC r89c))), (17, vi r89b), (12, V.ref 2012 0), (11, V.ref 2011 0), (10, V.ref 2010 0), (7, vb r42c), (6, V.ref 2006 0), (5, V.t (T.list (List.length r34c) 2 (List.flatMap askedC r34c))), (4, vi r34b), (3, vi r34), (2, vb false)], [(2006, oc 28 [tl r42, ti r42b]), (2010, oc 28 [tl r63, ti r63b]), (2011, oc 85 [ti r63c, tb r63d]), (2012, oc 28 [tl r69, ti r69b])]⟩) (by kernel_rfl) ⟨trivial, h10, h11, trivial, h10, h17, trivial, h20, h17, trivial⟩ ?_
                                  exact ⟨(false), h, rfl⟩
                                · -- no
                                  refine WP.path tab_ok mixed [(131, An.b true), (134, An.b false), (150, An.b true), (154, An.b false), (167, An.b false)] [.keep [184, 23, 20, 19, 18, 17, 12, 11, 10, 7, 6, 5, 4, 3, 2], .keepO [2006, 2010, 2011, 2012], .names [(2006, 2006), (2010, 2010), (2011, 2011), (2012, 2012)]] (ps := [(True), ((r63d) = true), ((n127 == (1 : Int)) = false), (True), ((r63d) = true), ((!(n127 == (1 : Int))) = false), (True), ((!r63d) = false)]) (e := .normal) (σ' := ⟨[2006, 2010, 2011, 2012], [(184, vb false), (23, vi v23), (20, vb r97b), (19, vb r97), (18, V.t (T.list (List.length r89c) 2 (List.flatMap askedC r89c))), (17, vi r89b), (12, V.ref 2012 0), (11, V.ref 2011 0), (10, V.ref 2010 0), (7, vb r42c), (6, V.ref 2006 0), (5, V.t (T.list (List.length r34c) 2 (List.flatMap askedC r34c))), (4, vi r34b), (3, vi r34), (2, vb false)], [(2006, oc 28 [tl r42, ti r42b]), (2010, oc 28 [tl r63, ti r63b]), (2011, oc 85 [ti r63c, tb r63d]), (2012, oc 28 [tl r69, ti r69b])]⟩) (by kernel_rfl) ⟨trivial, h10, h11, trivial, h10, h17, trivial, h20, trivial⟩ ?_
                                  exact ⟨(false), h, rfl⟩
                          · -- no
                            rcases ite_some h with ⟨h21, h⟩ | ⟨h21, h⟩
                            · -- yes
                              rcases ite_some h with ⟨h22, h⟩ | ⟨h22, h⟩
                              · -- yes
                                obtain ⟨c12, h⟩ := chk_some h
                                obtain ⟨c13, h⟩ := chk_some h
                                refine WP.path tab_ok mixed [(131, An.b false), (150, An.b false), (167, An.b true), (171, An.b true), (176, An.v (ti (List.getD r69 (Int.toNat v23) 0))), (181, An.v (ti (List.getD r63 (Int.toNat v23) 0)))] [.keep [184, 23, 20, 19, 18, 17, 12, 11, 10, 7, 6, 5, 4, 3, 2], .keepO [2006, 2010, 2011, 2012], .names [(2006, 2006), (2010, 2010), (2011, 2011), (2012, 2012)]] (ps := [(True), ((r63d) = false), (True), ((r63d) = false), (True), ((!r63d) = true), ((!(n127 == (1 : Int))) = true), (True), ((0 ≤ v23 ∧ v23 < ((List.length r69 : Nat) : Int))), ((List.drop ((Int.toNat v23) * 1) (List.map (T.int .i64) r69) : List T)[0]? = some (ti (List.getD r69 (Int.toNat v23) 0))), (ti (List.getD r69 (Int.toNat v23) 0) = ti (List.getD r69 (Int.toNat v23) 0)), (True), ((0 ≤ v23 ∧ v23 < ((List.length r63 : Nat) : Int))), ((List.drop ((Int.toNat v23) * 1) (List.map (T.int .i64) r63) : List T)[0]? = some (ti (List.getD r63 (Int.toNat v23) 0))), (ti (List.getD r63 (Int.toNat v23) 0) = ti (List.getD r63 (Int.toNat v23) 0)), (True)]) (e := .normal) (σ' := ⟨[2006, 2010, 2011, 2012], [(184, vb ((List.getD r69 (Int.toNat v23) 0) != (List.getD r63 (Int.toNat v23) 0))), (23, vi v23), (20, vb r97b), (19, vb r97), (18, V.t (T.list (List.length r89c) 2 (List.flatMap askedC r89c))), (17, vi r89b), (12, V.ref 2012 0), (11, V.ref 2011 0), (10, V.ref 2010 0), (7, vb r42c), (6, V.ref 2006 0), (5, V.t (T.list (List.length r34c) 2 (List.flatMap askedC r34c))), (4, vi r34b), (3, vi r34), (2, vb false)], [(2006, oc 28 [tl r42, ti r42b]), (2010, oc 28 [tl r63, ti r63b]), (2011, oc 85 [ti r63c, tb r63d]), (2012, oc 28 [tl r69, ti r69b])]⟩) (by kernel_rfl) ⟨trivial, h10, trivial, h10, trivial, h21, h22, trivial, c12, at1 (by simp) (by omega), rfl, trivial, c13, at1 (by simp) (by omega), rfl, trivial, trivial⟩ ?_
                                exact ⟨((List.getD r69 (Int.toNat v23) 0) != (List.getD r63 (Int.toNat v23) 0)), h, rfl⟩
                              · -- no
                                refine WP.path tab_ok mixed [(131, An.b false), (150, An.b false), (167, An.b true), (171, An.b false)] [.keep [184, 23, 20, 19, 18, 17, 12, 11, 10, 7, 6, 5, 4, 3, 2], .keepO [2006, 2010, 2011, 2012], .names [(2006, 2006), (2010, 2010), (2011, 2011), (2012, 2012)]] (ps := [(True), ((r63d) = false), (True), ((r63d) = false), (True), ((!r63d) = true), ((!(n127 == (1 : Int))) = false)]) (e := .normal) (σ' := ⟨[2006, 2010, 2011, 2012], [(184, vb false), (23, vi v23), (20, vb r97b), (19, vb r97), (18, V.t (T.list (List.length r89c) 2 (List.flatMap askedC r89c))), (17, vi r89b), (12, V.ref 2012 0), (11, V.ref 2011 0), (10, V.ref 2010 0), (7, vb r42c), (6, V.ref 2006 0), (5, V.t (T.list (List.length r34c) 2 (List.flatMap askedC r34c))), (4, vi r34b), (3, vi r34), (2, vb false)], [(2006, oc 28 [tl r42, ti r42b]), (2010, oc 28 [tl r63, ti r63b]), (2011, oc 85 [ti r63c, tb r63d]), (2012, oc 28 [tl r69, ti r69b])]⟩) (by kernel_rfl) ⟨trivial, h10, trivial, h10, trivial, h21, h22, trivial⟩ ?_
                                exact ⟨(false), h, rfl⟩
                            · -- no
                              refine WP.path tab_ok mixed [(131, An.b false), (150, An.b false), (167, An.b false)] [.keep [184, 23, 20, 19, 18, 17, 12, 11, 10, 7, 6, 5, 4, 3, 2], .keepO [2006, 2010, 2011, 2012], .names [(2006, 2006), (2010, 2010), (2011, 2011), (2012, 2012)]] (ps := [(True), ((r63d) = false), (True), ((r63d) = false), (True), ((!r63d) = false)]) (e := .normal) (σ' := ⟨[2006, 2010, 2011, 2012], [(184, vb false), (23, vi v23), (20, vb r97b), (19, vb r97), (18, V.t (T.list (List.length r89c) 2 (List.flatMap askedC r89c))), (17, vi r89b), (12, V.ref 2012 0), (11, V.ref 2011 0), (10, V.ref 2010 0), (7, vb r42c), (6, V.ref 2006 0), (5, V.t (T.list (List.length r34c) 2 (List.flatMap askedC r34c))), (4, vi r34b), (3, vi r34), (2, vb false)], [(2006, oc 28 [tl r42, ti r42b]), (2010, oc 28 [tl r63, ti r63b]), (2011, oc 85 [ti r63c, tb r63d]), (2012, oc 28 [tl r69, ti r69b])]⟩) (by kernel_rfl) ⟨trivial, h10, trivial, h10, trivial, h21, trivial⟩ ?_
                              exact ⟨(false), h, rfl⟩
                        · -- from there
                          intro v184 h0
                          have h := (show J2 v184 = some y0 from h0)
                          rw [hJ2] at h
                          rcases ite_some h with ⟨h23, h⟩ | ⟨h23, h⟩
                          · -- yes
                            refine WP.cond (b := v184) rfl (fun _ => ?_) (fun hh => by rw [h23] at hh; cases hh)
                            have h := Option.some.inj h
                            subst h
                            exact WP.pathW tab_ok mixed [] _ (ps := []) (r := tb false) (by kernel_rfl) trivial (WkT.eq (y := tb false) (WkT.refl _) rfl) (fun _ h => h)
                          · -- no
                            refine WP.cond (b := v184) rfl (fun hh => by rw [h23] at hh; cases hh) (fun _ => ?_)
                            refine WP.path tab_ok mixed [] [.keep [23, 20, 19, 18, 17, 12, 11, 10, 7, 6, 5, 4, 3, 2], .keepO [2006, 2010, 2011, 2012]] (ps := []) (e := .normal) (σ' := ⟨[2006, 2010, 2011, 2012], [(23, vi v23), (20, vb r97b), (19, vb r97), (18, V.t (T.list (List.length r89c) 2 (List.flatMap askedC r89c))), (17, vi r89b), (12, V.ref 2012 0), (11, V.ref 2011 0), (10, V.ref 2010 0), (7, vb r42c), (6, V.ref 2006 0), (5, V.t (T.list (List.length r34c) 2 (List.flatMap askedC r34c))), (4, vi r34b), (3, vi r34), (2, vb false)], [(2006, oc 28 [tl r42, ti r42b]), (2010, oc 28 [tl r63, ti r63b]), (2011, oc 85 [ti r63c, tb r63d]), (2012, oc 28 [tl r69, ti r69b])]⟩) (by kernel_rfl) trivial ?_
                            obtain ⟨c12, h⟩ := chk_some h
                            refine WP.path tab_ok mixed [(122, An.v (T.int .i64 (v23 + (1 : Int))))] [.keep [23, 20, 19, 18, 17, 12, 11, 10, 7, 6, 5, 4, 3, 2], .keepO [2006, 2010, 2011, 2012], .names [(2006, 2006), (2010, 2010), (2011, 2011), (2012, 2012)]] (ps := [(True), (T.int .i64 (IntKind.wrap .i64 (v23 + (1 : Int))) = T.int .i64 (v23 + (1 : Int)))]) (e := .normal) (σ' := ⟨[2006, 2010, 2011, 2012], [(23, vi (v23 + (1 : Int))), (20, vb r97b), (19, vb r97), (18, V.t (T.list (List.length r89c) 2 (List.flatMap askedC r89c))), (17, vi r89b), (12, V.ref 2012 0), (11, V.ref 2011 0), (10, V.ref 2010 0), (7, vb r42c), (6, V.ref 2006 0), (5, V.t (T.list (List.length r34c) 2 (List.flatMap askedC r34c))), (4, vi r34b), (3, vi r34), (2, vb false)], [(2006, oc 28 [tl r42, ti r42b]), (2010, oc 28 [tl r63, ti r63b]), (2011, oc 85 [ti r63c, tb r63d]), (2012, oc 28 [tl r69, ti r69b])]⟩) (by kernel_rfl) ⟨trivial, wrapI c12, trivial⟩ ?_
                            exact ⟨(n, (v23 + (1 : Int))), h, Nat.lt_succ_self _, rfl⟩
                      · -- no
                        refine WP.cond (b := decide (v23 < ((List.length r63 : Nat) : Int))) rfl (fun hh => by rw [h9] at hh; cases hh) (fun _ => ?_)
                        refine WP.path tab_ok mixed [] [.keep [20, 19, 18, 17, 7, 6, 5, 4, 3, 2], .keepO [2006], .names [(2006, 2006)]] (ps := []) (e := (.exit 0)) (σ' := ⟨[2006], [(20, vb r97b), (19, vb r97), (18, V.t (T.list (List.length r89c) 2 (List.flatMap askedC r89c))), (17, vi r89b), (7, vb r42c), (6, V.ref 2006 0), (5, V.t (T.list (List.length r34c) 2 (List.flatMap askedC r34c))), (4, vi r34b), (3, vi r34), (2, vb false)], [(2006, oc 28 [tl r42, ti r42b])]⟩) (by kernel_rfl) trivial ?_
                        exact ⟨(), h, rfl⟩
                  · -- no
                    refine WP.cond (b := r69c) rfl (fun hh => by rw [h8] at hh; cases hh) (fun _ => ?_)
                    refine WP.path tab_ok mixed [] [.keep [20, 19, 18, 17, 7, 6, 5, 4, 3, 2], .keepO [2006], .names [(2006, 2006)]] (ps := []) (e := .normal) (σ' := ⟨[2006], [(20, vb r97b), (19, vb r97), (18, V.t (T.list (List.length r89c) 2 (List.flatMap askedC r89c))), (17, vi r89b), (7, vb r42c), (6, V.ref 2006 0), (5, V.t (T.list (List.length r34c) 2 (List.flatMap askedC r34c))), (4, vi r34b), (3, vi r34), (2, vb false)], [(2006, oc 28 [tl r42, ti r42b])]⟩) (by kernel_rfl) trivial ?_
                    exact ⟨(), h, rfl⟩
                · -- from there
                  intro _ h0
                  have h := (show J1 () = some y0 from h0)
                  rw [hJ1] at h
                  obtain ⟨J1, hJ1, h⟩ := jn_some h
                  refine WP.joinA (fun (zz : Unit) => ⟨[2006], [(7, vb r42c), (6, V.ref 2006 0), (5, V.t (T.list (List.length r34c) 2 (List.flatMap askedC r34c))), (4, vi r34b), (3, vi r34), (2, vb false)], [(2006, oc 28 [tl r42, ti r42b])]⟩) (fun zz => J1 () = some y0) ?_ ?_
                  · -- to where they meet
                    refine WP.seq ?_
                    refine WP.path tab_ok mixed [] [.keep [185, 19, 18, 17, 7, 6, 5, 4, 3, 2], .keepO [2006]] (ps := []) (e := .normal) (σ' := ⟨[2006], [(185, vb r97b), (19, vb r97), (18, V.t (T.list (List.length r89c) 2 (List.flatMap askedC r89c))), (17, vi r89b), (7, vb r42c), (6, V.ref 2006 0), (5, V.t (T.list (List.length r34c) 2 (List.flatMap askedC r34c))), (4, vi r34b), (3, vi r34), (2, vb false)], [(2006, oc 28 [tl r42, ti r42b])]⟩) (by kernel_rfl) trivial ?_
                    rcases ite_some h with ⟨h24, h⟩ | ⟨h24, h⟩
                    · -- yes
                      refine WP.cond (b := r97b) rfl (fun _ => ?_) (fun hh => by rw [h24] at hh; cases hh)
                      refine WP.seq ?_
                      refine WP.path tab_ok mixed [] [.keep [25, 19, 18, 17, 7, 6, 5, 4, 3, 2], .keepO [2006]] (ps := []) (e := .normal) (σ' := ⟨[2006], [(25, vb true), (19, vb r97), (18, V.t (T.list (List.length r89c) 2 (List.flatMap askedC r89c))), (17, vi r89b), (7, vb r42c), (6, V.ref 2006 0), (5, V.t (T.list (List.length r34c) 2 (List.flatMap askedC r34c))), (4, vi r34b), (3, vi r34), (2, vb false)], [(2006, oc 28 [tl r42, ti r42b])]⟩) (by kernel_rfl) trivial ?_
                      obtain ⟨J2, hJ2, h⟩ := jn_some h
                      refine WP.joinA (fun (zz : Bool) => ⟨[2006], [(25, vb zz), (19, vb r97), (17, vi r89b), (7, vb r42c), (6, V.ref 2006 0), (5, V.t (T.list (List.length r34c) 2 (List.flatMap askedC r34c))), (4, vi r34b), (3, vi r34), (2, vb false)], [(2006, oc 28 [tl r42, ti r42b])]⟩) (fun zz => J2 zz = some y0) ?_ ?_
                      · -- to where they meet
                        refine WP.seq ?_
                        refine WP.path tab_ok mixed [] [.keep [26, 25, 19, 18, 17, 7, 6, 5, 4, 3, 2], .keepO [2006]] (ps := []) (e := .normal) (σ' := ⟨[2006], [(26, vi 0), (25, vb true), (19, vb r97), (18, V.t (T.list (List.length r89c) 2 (List.flatMap askedC r89c))), (17, vi r89b), (7, vb r42c), (6, V.ref 2006 0), (5, V.t (T.list (List.length r34c) 2 (List.flatMap askedC r34c))), (4, vi r34b), (3, vi r34), (2, vb false)], [(2006, oc 28 [tl r42, ti r42b])]⟩) (by kernel_rfl) trivial ?_
                        refine WP.block ?_
                        refine WP.wk [.keep [26, 25, 19, 18, 17, 7, 6, 5, 4, 3, 2], .keepO [2006], .names [(2006, 2006)]] (σ' := ⟨[2006], [(26, vi 0), (25, vb true), (19, vb r97), (18, V.t (T.list (List.length r89c) 2 (List.flatMap askedC r89c))), (17, vi r89b), (7, vb r42c), (6, V.ref 2006 0), (5, V.t (T.list (List.length r34c) 2 (List.flatMap askedC r34c))), (4, vi r34b), (3, vi r34), (2, vb false)], [(2006, oc 28 [tl r42, ti r42b])]⟩) (ps := []) (by kernel_rfl) trivial ?_
                        refine WP.st (σ' := ⟨[2006], [(26, vi (0 : Int)), (25, vb true), (19, vb r97), (18, V.t (T.list (List.length r89c) 2 (List.flatMap askedC r89c))), (17, vi r89b), (7, vb r42c), (6, V.ref 2006 0), (5, V.t (T.list (List.length r34c) 2 (List.flatMap askedC r34c))), (4, vi r34b), (3, vi r34), (2, vb false)], [(2006, oc 28 [tl r42, ti r42b])]⟩) (by first | rfl | (simp only [tlS, tl, vl, vo, oc, ov, tbl, vbl, ty, vy] <;> rfl) | (simp <;> omega) | (simp []; done) | (rw [List.take_of_length_le (by simp [])] <;> rfl)) ?_
                        refine WP.loop (α := Nat × Int × Bool) (fun zz => ⟨[2006], [(26, vi zz.2.1), (25, vb zz.2.2), (19, vb r97), (18, V.t (T.list (List.length r89c) 2 (List.flatMap askedC r89c))), (17, vi r89b), (7, vb r42c), (6, V.ref 2006 0), (5, V.t (T.list (List.length r34c) 2 (List.flatMap askedC r34c))), (4, vi r34b), (3, vi r34), (2, vb false)], [(2006, oc 28 [tl r42, ti r42b])]⟩) (fun zz => F_laws_FnOneWays_L2 r89c J2 zz.1 zz.2.1 zz.2.2 = some y0) (fun zz => zz.1) (fuel, (0 : Int), true) h ?_
                        rintro ⟨n, v26, v25⟩ h0
                        have h := (show F_laws_FnOneWays_L2 r89c J2 n v26 v25 = some y0 from h0)
                        rcases n with _ | n
                        · rw [F_laws_FnOneWays_L2] at h; cases h
                        · rw [F_laws_FnOneWays_L2] at h
                          refine WP.seq ?_
                          refine WP.seq ?_
                          refine WP.path tab_ok mixed [] [.keep [189, 26, 25, 19, 18, 17, 7, 6, 5, 4, 3, 2], .keepO [2006]] (ps := [(True)]) (e := .normal) (σ' := ⟨[2006], [(189, vb (decide (v26 < ((List.length r89c : Nat) : Int)))), (26, vi v26), (25, vb v25), (19, vb r97), (18, V.t (T.list (List.length r89c) 2 (List.flatMap askedC r89c))), (17, vi r89b), (7, vb r42c), (6, V.ref 2006 0), (5, V.t (T.list (List.length r34c) 2 (List.flatMap askedC r34c))), (4, vi r34b), (3, vi r34), (2, vb false)], [(2006, oc 28 [tl r42, ti r42b])]⟩) (by kernel_rfl) ⟨trivial, trivial⟩ ?_
                          rcases ite_some h with ⟨h25, h⟩ | ⟨h25, h⟩
                          · -- yes
                            refine WP.cond (b := decide (v26 < ((List.length r89c : Nat) : Int))) rfl (fun _ => ?_) (fun hh => by rw [h25] at hh; cases hh)
                            refine WP.path tab_ok mixed [] [.keep [26, 25, 19, 18, 17, 7, 6, 5, 4, 3, 2], .keepO [2006]] (ps := []) (e := .normal) (σ' := ⟨[2006], [(26, vi v26), (25, vb v25), (19, vb r97), (18, V.t (T.list (List.length r89c) 2 (List.flatMap askedC r89c))), (17, vi r89b), (7, vb r42c), (6, V.ref 2006 0), (5, V.t (T.list (List.length r34c) 2 (List.flatMap askedC r34c))), (4, vi r34b), (3, vi r34), (2, vb false)], [(2006, oc 28 [tl r42, ti r42b])]⟩) (by kernel_rfl) trivial ?_
                            refine WP.seq ?_
                            refine WP.block ?_
                            rcases ite_some h with ⟨h26, h⟩ | ⟨h26, h⟩
                            · -- yes
                              obtain ⟨c10, h⟩ := chk_some h
                              refine WP.path tab_ok mixed [(193, An.b true), (198, An.v (tb ((List.getD r89c (Int.toNat v26) (0, false)).2)))] [.keep [25, 26, 19, 18, 17, 7, 6, 5, 4, 3, 2], .keepO [2006]] (ps := [((v25) = true), ((0 ≤ v26 ∧ v26 < ((List.length r89c : Nat) : Int))), ((List.drop 1 (List.drop ((Int.toNat v26) * 2) (List.flatMap askedC r89c)) : List T)[0]? = some (tb ((List.getD r89c (Int.toNat v26) (0, false)).2))), (tb ((List.getD r89c (Int.toNat v26) (0, false)).2) = tb ((List.getD r89c (Int.toNat v26) (0, false)).2))]) (e := .normal) (σ' := ⟨[2006], [(25, vb (!((List.getD r89c (Int.toNat v26) (0, false)).2))), (26, vi v26), (19, vb r97), (18, V.t (T.list (List.length r89c) 2 (List.flatMap askedC r89c))), (17, vi r89b), (7, vb r42c), (6, V.ref 2006 0), (5, V.t (T.list (List.length r34c) 2 (List.flatMap askedC r34c))), (4, vi r34b), (3, vi r34), (2, vb false)], [(2006, oc 28 [tl r42, ti r42b])]⟩) (by kernel_rfl) ⟨h26, c10, fld_asked (by simp) (by omega) rfl, rfl, trivial⟩ ?_
                              obtain ⟨c11, h⟩ := chk_some h
                              refine WP.path tab_ok mixed [(191, An.v (T.int .i64 (v26 + (1 : Int))))] [.keep [26, 25, 19, 18, 17, 7, 6, 5, 4, 3, 2], .keepO [2006], .names [(2006, 2006)]] (ps := [(True), (T.int .i64 (IntKind.wrap .i64 (v26 + (1 : Int))) = T.int .i64 (v26 + (1 : Int)))]) (e := .normal) (σ' := ⟨[2006], [(26, vi (v26 + (1 : Int))), (25, vb (!((List.getD r89c (Int.toNat v26) (0, false)).2))), (19, vb r97), (18, V.t (T.list (List.length r89c) 2 (List.flatMap askedC r89c))), (17, vi r89b), (7, vb r42c), (6, V.ref 2006 0), (5, V.t (T.list (List.length r34c) 2 (List.flatMap askedC r34c))), (4, vi r34b), (3, vi r34), (2, vb false)], [(2006, oc 28 [tl r42, ti r42b])]⟩) (by kernel_rfl) ⟨trivial, wrapI c11, trivial⟩ ?_
                              exact ⟨(n, (v26 + (1 : Int)), !((List.getD r89c (Int.toNat v26) (0, false)).2)), h, Nat.lt_succ_self _, rfl⟩
                            · -- no
                              refine WP.path tab_ok mixed [(193, An.b false)] [.keep [25, 26, 19, 18, 17, 7, 6, 5, 4, 3, 2], .keepO [2006]] (ps := [((v25) = false)]) (e := .normal) (σ' := ⟨[2006], [(25, vb false), (26, vi v26), (19, vb r97), (18, V.t (T.list (List.length r89c) 2 (List.flatMap askedC r89c))), (17, vi r89b), (7, vb r42c), (6, V.ref 2006 0), (5, V.t (T.list (List.length r34c) 2 (List.flatMap askedC r34c))), (4, vi r34b), (3, vi r34), (2, vb false)], [(2006, oc 28 [tl r42, ti r42b])]⟩) (by kernel_rfl) ⟨h26, trivial⟩ ?_
                              obtain ⟨c10, h⟩ := chk_some h
                              refine WP.path tab_ok mixed [(191, An.v (T.int .i64 (v26 + (1 : Int))))] [.keep [26, 25, 19, 18, 17, 7, 6, 5, 4, 3, 2], .keepO [2006], .names [(2006, 2006)]] (ps := [(True), (T.int .i64 (IntKind.wrap .i64 (v26 + (1 : Int))) = T.int .i64 (v26 + (1 : Int)))]) (e := .normal) (σ' := ⟨[2006], [(26, vi (v26 + (1 : Int))), (25, vb false), (19, vb r97), (18, V.t (T.list (List.length r89c) 2 (List.flatMap askedC r89c))), (17, vi r89b), (7, vb r42c), (6, V.ref 2006 0), (5, V.t (T.list (List.length r34c) 2 (List.flatMap askedC r34c))), (4, vi r34b), (3, vi r34), (2, vb false)], [(2006, oc 28 [tl r42, ti r42b])]⟩) (by kernel_rfl) ⟨trivial, wrapI c10, trivial⟩ ?_
                              exact ⟨(n, (v26 + (1 : Int)), false), h, Nat.lt_succ_self _, rfl⟩
                          · -- no
                            refine WP.cond (b := decide (v26 < ((List.length r89c : Nat) : Int))) rfl (fun hh => by rw [h25] at hh; cases hh) (fun _ => ?_)
                            refine WP.path tab_ok mixed [] [.keep [25, 19, 17, 7, 6, 5, 4, 3, 2], .keepO [2006], .names [(2006, 2006)]] (ps := []) (e := (.exit 2)) (σ' := ⟨[2006], [(25, vb v25), (19, vb r97), (17, vi r89b), (7, vb r42c), (6, V.ref 2006 0), (5, V.t (T.list (List.length r34c) 2 (List.flatMap askedC r34c))), (4, vi r34b), (3, vi r34), (2, vb false)], [(2006, oc 28 [tl r42, ti r42b])]⟩) (by kernel_rfl) trivial ?_
                            exact ⟨(v25), h, rfl⟩
                      · -- from there
                        intro v25 h0
                        have h := (show J2 v25 = some y0 from h0)
                        rw [hJ2] at h
                        obtain ⟨J2, hJ2, h⟩ := jn_some h
                        refine WP.joinA (fun (zz : Bool) => ⟨[2006], [(209, vb zz), (7, vb r42c), (6, V.ref 2006 0), (5, V.t (T.list (List.length r34c) 2 (List.flatMap askedC r34c))), (4, vi r34b), (3, vi r34), (2, vb false)], [(2006, oc 28 [tl r42, ti r42b])]⟩) (fun zz => J2 zz = some y0) ?_ ?_
                        · -- to where they meet
                          rcases ite_some h with ⟨h27, h⟩ | ⟨h27, h⟩
                          · -- yes
                            refine WP.path tab_ok mixed [(202, An.b true)] [.keep [209, 7, 6, 5, 4, 3, 2], .keepO [2006], .names [(2006, 2006)]] (ps := [((v25) = true)]) (e := .normal) (σ' := ⟨[2006], [(209, vb !r97), (7, vb r42c), (6, V.ref 2006 0), (5, V.t (T.list (List.length r34c) 2 (List.flatMap askedC r34c))), (4, vi r34b), (3, vi r34), (2, vb false)], [(2006, oc 28 [tl r42, ti r42b])]⟩) (by kernel_rfl) ⟨h27, trivial⟩ ?_
                            exact ⟨(!r97), h, rfl⟩
                          · -- no
                            rcases ite_some h with ⟨h28, h⟩ | ⟨h28, h⟩
                            · -- yes
                              refine WP.path tab_ok mixed [(202, An.b false), (204, An.b true)] [.keep [209, 7, 6, 5, 4, 3, 2], .keepO [2006], .names [(2006, 2006)]] (ps := [((v25) = false), (True), ((r89b == (0 : Int)) = true)]) (e := .normal) (σ' := ⟨[2006], [(209, vb !r97), (7, vb r42c), (6, V.ref 2006 0), (5, V.t (T.list (List.length r34c) 2 (List.flatMap askedC r34c))), (4, vi r34b), (3, vi r34), (2, vb false)], [(2006, oc 28 [tl r42, ti r42b])]⟩) (by kernel_rfl) ⟨h27, trivial, h28, trivial⟩ ?_
                              exact ⟨(!r97), h, rfl⟩
                            · -- no
                              refine WP.path tab_ok mixed [(202, An.b false), (204, An.b false)] [.keep [209, 7, 6, 5, 4, 3, 2], .keepO [2006], .names [(2006, 2006)]] (ps := [((v25) = false), (True), ((r89b == (0 : Int)) = false)]) (e := .normal) (σ' := ⟨[2006], [(209, vb false), (7, vb r42c), (6, V.ref 2006 0), (5, V.t (T.list (List.length r34c) 2 (List.flatMap askedC r34c))), (4, vi r34b), (3, vi r34), (2, vb false)], [(2006, oc 28 [tl r42, ti r42b])]⟩) (by kernel_rfl) ⟨h27, trivial, h28, trivial⟩ ?_
                              exact ⟨(false), h, rfl⟩
                        · -- from there
                          intro v209 h0
                          have h := (show J2 v209 = some y0 from h0)
                          rw [hJ2] at h
                          rcases ite_some h with ⟨h29, h⟩ | ⟨h29, h⟩
                          · -- yes
                            refine WP.cond (b := v209) rfl (fun _ => ?_) (fun hh => by rw [h29] at hh; cases hh)
                            have h := Option.some.inj h
                            subst h
                            exact WP.pathW tab_ok mixed [] _ (ps := []) (r := tb false) (by kernel_rfl) trivial (WkT.eq (y := tb false) (WkT.refl _) rfl) (fun _ h => h)
                          · -- no
                            refine WP.cond (b := v209) rfl (fun hh => by rw [h29] at hh; cases hh) (fun _ => ?_)
                            refine WP.path tab_ok mixed [] [.keep [7, 6, 5, 4, 3, 2], .keepO [2006], .names [(2006, 2006)]] (ps := []) (e := .normal) (σ' := ⟨[2006], [(7, vb r42c), (6, V.ref 2006 0), (5, V.t (T.list (List.length r34c) 2 (List.flatMap askedC r34c))), (4, vi r34b), (3, vi r34), (2, vb false)], [(2006, oc 28 [tl r42, ti r42b])]⟩) (by kernel_rfl) trivial ?_
                            exact ⟨(), h, rfl⟩
                    · -- no
                      refine WP.cond (b := r97b) rfl (fun hh => by rw [h24] at hh; cases hh) (fun _ => ?_)
                      refine WP.path tab_ok mixed [] [.keep [7, 6, 5, 4, 3, 2], .keepO [2006], .names [(2006, 2006)]] (ps := []) (e := .normal) (σ' := ⟨[2006], [(7, vb r42c), (6, V.ref 2006 0), (5, V.t (T.list (List.length r34c) 2 (List.flatMap askedC r34c))), (4, vi r34b), (3, vi r34), (2, vb false)], [(2006, oc 28 [tl r42, ti r42b])]⟩) (by kernel_rfl) trivial ?_
                      exact ⟨(), h, rfl⟩
                  · -- from there
                    intro _ h0
                    have h := (show J1 () = some y0 from h0)
                    rw [hJ1] at h
                    refine WP.seq ?_
                    refine WP.seq ?_
                    refine WP.path tab_ok mixed [] [.keep [211, 6, 5, 4, 3, 2], .keepO [2006]] (ps := []) (e := .normal) (σ' := ⟨[2006], [(211, vb !r42c), (6, V.ref 2006 0), (5, V.t (T.list (List.length r34c) 2 (List.flatMap askedC r34c))), (4, vi r34b), (3, vi r34), (2, vb false)], [(2006, oc 28 [tl r42, ti r42b])]⟩) (by kernel_rfl) trivial ?_
                    rcases ite_some h with ⟨h30, h⟩ | ⟨h30, h⟩
                    · -- yes
                      refine WP.cond (b := !r42c) rfl (fun _ => ?_) (fun hh => by rw [h30] at hh; cases hh)
                      have h := Option.some.inj h
                      subst h
                      exact WP.pathW tab_ok mixed [] _ (ps := []) (r := tb true) (by kernel_rfl) trivial (WkT.eq (y := tb true) (WkT.refl _) rfl) (fun _ h => h)
                    · -- no
                      refine WP.cond (b := !r42c) rfl (fun hh => by rw [h30] at hh; cases hh) (fun _ => ?_)
                      refine WP.path tab_ok mixed [] [.keep [6, 5, 4, 3, 2], .keepO [2006]] (ps := []) (e := .normal) (σ' := ⟨[2006], [(6, V.ref 2006 0), (5, V.t (T.list (List.length r34c) 2 (List.flatMap askedC r34c))), (4, vi r34b), (3, vi r34), (2, vb false)], [(2006, oc 28 [tl r42, ti r42b])]⟩) (by kernel_rfl) trivial ?_
                      refine WP.seq ?_
                      obtain ⟨r216, r216b, r216c, c10, h⟩ := bnd3_some h
                      refine WP.path tab_ok mixed [(216, An.call (T.tup [T.agg [tl r216, ti r216b], tb r216c])), (27, An.id 2027)] [.keep [28, 27, 6, 3, 2], .keepO [2006, 2027]] (ps := [(C Try.prog 45 [ti r34, ti r34b, T.list (List.length r34c) 2 (List.flatMap askedC r34c)] (T.tup [T.agg [tl r216, ti r216b], tb r216c])), ((0 + 2 ≤ 2 ∧ 2 = 2))]) (e := .normal) (σ' := ⟨[2027, 2006], [(28, vb r216c), (27, V.ref 2027 0), (6, V.ref 2006 0), (3, vi r34), (2, vb false)], [(2006, oc 28 [tl r42, ti r42b]), (2027, oc 28 [tl r216, ti r216b])]⟩) (by kernel_rfl) ⟨(F_impl_AnswerAll_W_C r34 r34b r34c r216 r216b r216c c10), by decide, trivial⟩ ?_
                      refine WP.seq ?_
                      refine WP.seq ?_
                      refine WP.path tab_ok mixed [] [.keep [220, 27, 6, 3, 2], .keepO [2006, 2027]] (ps := []) (e := .normal) (σ' := ⟨[2027, 2006], [(220, vb !r216c), (27, V.ref 2027 0), (6, V.ref 2006 0), (3, vi r34), (2, vb false)], [(2006, oc 28 [tl r42, ti r42b]), (2027, oc 28 [tl r216, ti r216b])]⟩) (by kernel_rfl) trivial ?_
                      rcases ite_some h with ⟨h31, h⟩ | ⟨h31, h⟩
                      · -- yes
                        refine WP.cond (b := !r216c) rfl (fun _ => ?_) (fun hh => by rw [h31] at hh; cases hh)
                        have h := Option.some.inj h
                        subst h
                        exact WP.pathW tab_ok mixed [] _ (ps := []) (r := tb false) (by kernel_rfl) trivial (WkT.eq (y := tb false) (WkT.refl _) rfl) (fun _ h => h)
                      · -- no
                        refine WP.cond (b := !r216c) rfl (fun hh => by rw [h31] at hh; cases hh) (fun _ => ?_)
                        refine WP.path tab_ok mixed [] [.keep [27, 6, 3, 2], .keepO [2006, 2027]] (ps := []) (e := .normal) (σ' := ⟨[2027, 2006], [(27, V.ref 2027 0), (6, V.ref 2006 0), (3, vi r34), (2, vb false)], [(2006, oc 28 [tl r42, ti r42b]), (2027, oc 28 [tl r216, ti r216b])]⟩) (by kernel_rfl) trivial ?_
                        obtain ⟨J1, hJ1, h⟩ := jn_some h
                        refine WP.joinA (fun (zz : Unit) => ⟨[], [(2, vb false)], []⟩) (fun zz => J1 () = some y0) ?_ ?_
                        · -- to where they meet
                          refine WP.seq ?_
                          refine WP.path tab_ok mixed [] [.keep [29, 27, 6, 3, 2], .keepO [2006, 2027]] (ps := []) (e := .normal) (σ' := ⟨[2027, 2006], [(29, vi 0), (27, V.ref 2027 0), (6, V.ref 2006 0), (3, vi r34), (2, vb false)], [(2006, oc 28 [tl r42, ti r42b]), (2027, oc 28 [tl r216, ti r216b])]⟩) (by kernel_rfl) trivial ?_
                          refine WP.block ?_
                          refine WP.wk [.keep [29, 27, 6, 3, 2], .keepO [2006, 2027], .names [(2006, 2006), (2027, 2027)]] (σ' := ⟨[2006, 2027], [(29, vi 0), (27, V.ref 2027 0), (6, V.ref 2006 0), (3, vi r34), (2, vb false)], [(2006, oc 28 [tl r42, ti r42b]), (2027, oc 28 [tl r216, ti r216b])]⟩) (ps := []) (by kernel_rfl) trivial ?_
                          refine WP.st (σ' := ⟨[2006, 2027], [(29, vi (0 : Int)), (27, V.ref 2027 0), (6, V.ref 2006 0), (3, vi r34), (2, vb false)], [(2006, oc 28 [tl r42, ti r42b]), (2027, oc 28 [tl r216, ti r216b])]⟩) (by first | rfl | (simp only [tlS, tl, vl, vo, oc, ov, tbl, vbl, ty, vy] <;> rfl) | (simp <;> omega) | (simp []; done) | (rw [List.take_of_length_le (by simp [])] <;> rfl)) ?_
                          refine WP.loop (α := Nat × Int) (fun zz => ⟨[2006, 2027], [(29, vi zz.2), (27, V.ref 2027 0), (6, V.ref 2006 0), (3, vi r34), (2, vb false)], [(2006, oc 28 [tl r42, ti r42b]), (2027, oc 28 [tl r216, ti r216b])]⟩) (fun zz => F_laws_FnOneWays_L3 r34 r42 r216 J1 zz.1 zz.2 = some y0) (fun zz => zz.1) (fuel, (0 : Int)) h ?_
                          rintro ⟨n, v29⟩ h0
                          have h := (show F_laws_FnOneWays_L3 r34 r42 r216 J1 n v29 = some y0 from h0)
                          rcases n with _ | n
                          · rw [F_laws_FnOneWays_L3] at h; cases h
                          · rw [F_laws_FnOneWays_L3] at h
                            refine WP.seq ?_
                            refine WP.seq ?_
                            refine WP.path tab_ok mixed [] [.keep [223, 29, 27, 6, 3, 2], .keepO [2006, 2027]] (ps := [(True)]) (e := .normal) (σ' := ⟨[2006, 2027], [(223, vb (decide (v29 < r34))), (29, vi v29), (27, V.ref 2027 0), (6, V.ref 2006 0), (3, vi r34), (2, vb false)], [(2006, oc 28 [tl r42, ti r42b]), (2027, oc 28 [tl r216, ti r216b])]⟩) (by kernel_rfl) ⟨trivial, trivial⟩ ?_
                            rcases ite_some h with ⟨h32, h⟩ | ⟨h32, h⟩
                            · -- yes
                              refine WP.cond (b := decide (v29 < r34)) rfl (fun _ => ?_) (fun hh => by rw [h32] at hh; cases hh)
                              refine WP.path tab_ok mixed [] [.keep [29, 27, 6, 3, 2], .keepO [2006, 2027]] (ps := []) (e := .normal) (σ' := ⟨[2006, 2027], [(29, vi v29), (27, V.ref 2027 0), (6, V.ref 2006 0), (3, vi r34), (2, vb false)], [(2006, oc 28 [tl r42, ti r42b]), (2027, oc 28 [tl r216, ti r216b])]⟩) (by kernel_rfl) trivial ?_
                              refine WP.seq ?_
                              refine WP.block ?_
                              obtain ⟨J2, hJ2, h⟩ := jn_some h
                              refine WP.joinA (fun (zz : Bool) => ⟨[2006, 2027], [(244, vb zz), (29, vi v29), (27, V.ref 2027 0), (6, V.ref 2006 0), (3, vi r34), (2, vb false)], [(2006, oc 28 [tl r42, ti r42b]), (2027, oc 28 [tl r216, ti r216b])]⟩) (fun zz => J2 zz = some y0) ?_ ?_
                              · -- to where they meet
                                obtain ⟨c11, h⟩ := chk_some h
                                rcases ite_some h with ⟨h33, h⟩ | ⟨h33, h⟩
                                · -- yes
                                  obtain ⟨c12, h⟩ := chk_some h
                                  refine WP.path tab_ok mixed [(230, An.v (ti (List.getD r42 (Int.toNat v29) 0))), (231, An.b true), (237, An.v (ti (List.getD r216 (Int.toNat v29) 0))), (242, An.v (ti (List.getD r42 (Int.toNat v29) 0)))] [.keep [244, 29, 27, 6, 3, 2], .keepO [2006, 2027], .names [(2006, 2006), (2027, 2027)]] (ps := [(True), ((0 ≤ v29 ∧ v29 < ((List.length r42 : Nat) : Int))), ((List.drop ((Int.toNat v29) * 1) (List.map (T.int .i64) r42) : List T)[0]? = some (ti (List.getD r42 (Int.toNat v29) 0))), (ti (List.getD r42 (Int.toNat v29) 0) = ti (List.getD r42 (Int.toNat v29) 0)), (True), ((decide ((List.getD r42 (Int.toNat v29) 0) ≥ (0 : Int))) = true), (True), ((0 ≤ v29 ∧ v29 < ((List.length r216 : Nat) : Int))), ((List.drop ((Int.toNat v29) * 1) (List.map (T.int .i64) r216) : List T)[0]? = some (ti (List.getD r216 (Int.toNat v29) 0))), (ti (List.getD r216 (Int.toNat v29) 0) = ti (List.getD r216 (Int.toNat v29) 0)), (True), ((0 ≤ v29 ∧ v29 < ((List.length r42 : Nat) : Int))), ((List.drop ((Int.toNat v29) * 1) (List.map (T.int .i64) r42) : List T)[0]? = some (ti (List.getD r42 (Int.toNat v29) 0))), (ti (List.getD r42 (Int.toNat v29) 0) = ti (List.getD r42 (Int.toNat v29) 0)), (True)]) (e := .normal) (σ' := ⟨[2006, 2027], [(244, vb ((List.getD r216 (Int.toNat v29) 0) != (List.getD r42 (Int.toNat v29) 0))), (29, vi v29), (27, V.ref 2027 0), (6, V.ref 2006 0), (3, vi r34), (2, vb false)], [(2006, oc 28 [tl r42, ti r42b]), (2027, oc 28 [tl r216, ti r216b])]⟩) (by kernel_rfl) ⟨trivial, c11, at1 (by simp) (by omega), rfl, trivial, h33, trivial, c12, at1 (by simp) (by omega), rfl, trivial, c11, at1 (by simp) (by omega), rfl, trivial, trivial⟩ ?_
                                  exact ⟨((List.getD r216 (Int.toNat v29) 0) != (List.getD r42 (Int.toNat v29) 0)), h, rfl⟩
                                · -- no
                                  refine WP.path tab_ok mixed [(230, An.v (ti (List.getD r42 (Int.toNat v29) 0))), (231, An.b false)] [.keep [244, 29, 27, 6, 3, 2], .keepO [2006, 2027], .names [(2006, 2006), (2027, 2027)]] (ps := [(True), ((0 ≤ v29 ∧ v29 < ((List.length r42 : Nat) : Int))), ((List.drop ((Int.toNat v29) * 1) (List.map (T.int .i64) r42) : List T)[0]? = some (ti (List.getD r42 (Int.toNat v29) 0))), (ti (List.getD r42 (Int.toNat v29) 0) = ti (List.getD r42 (Int.toNat v29) 0)), (True), ((decide ((List.getD r42 (Int.toNat v29) 0) ≥ (0 : Int))) = false)]) (e := .normal) (σ' := ⟨[2006, 2027], [(244, vb false), (29, vi v29), (27, V.ref 2027 0), (6, V.ref 2006 0), (3, vi r34), (2, vb false)], [(2006, oc 28 [tl r42, ti r42b]), (2027, oc 28 [tl r216, ti r216b])]⟩) (by kernel_rfl) ⟨trivial, c11, at1 (by simp) (by omega), rfl, trivial, h33, trivial⟩ ?_
                                  exact ⟨(false), h, rfl⟩
                              · -- from there
                                intro v244 h0
                                have h := (show J2 v244 = some y0 from h0)
                                rw [hJ2] at h
                                rcases ite_some h with ⟨h34, h⟩ | ⟨h34, h⟩
                                · -- yes
                                  refine WP.cond (b := v244) rfl (fun _ => ?_) (fun hh => by rw [h34] at hh; cases hh)
                                  have h := Option.some.inj h
                                  subst h
                                  exact WP.pathW tab_ok mixed [] _ (ps := []) (r := tb false) (by kernel_rfl) trivial (WkT.eq (y := tb false) (WkT.refl _) rfl) (fun _ h => h)
                                · -- no
                                  refine WP.cond (b := v244) rfl (fun hh => by rw [h34] at hh; cases hh) (fun _ => ?_)
                                  refine WP.path tab_ok mixed [] [.keep [29, 27, 6, 3, 2], .keepO [2006, 2027]] (ps := []) (e := .normal) (σ' := ⟨[2006, 2027], [(29, vi v29), (27, V.ref 2027 0), (6, V.ref 2006 0), (3, vi r34), (2, vb false)], [(2006, oc 28 [tl r42, ti r42b]), (2027, oc 28 [tl r216, ti r216b])]⟩) (by kernel_rfl) trivial ?_
                                  obtain ⟨c11, h⟩ := chk_some h
                                  refine WP.path tab_ok mixed [(225, An.v (T.int .i64 (v29 + (1 : Int))))] [.keep [29, 27, 6, 3, 2], .keepO [2006, 2027], .names [(2006, 2006), (2027, 2027)]] (ps := [(True), (T.int .i64 (IntKind.wrap .i64 (v29 + (1 : Int))) = T.int .i64 (v29 + (1 : Int)))]) (e := .normal) (σ' := ⟨[2006, 2027], [(29, vi (v29 + (1 : Int))), (27, V.ref 2027 0), (6, V.ref 2006 0), (3, vi r34), (2, vb false)], [(2006, oc 28 [tl r42, ti r42b]), (2027, oc 28 [tl r216, ti r216b])]⟩) (by kernel_rfl) ⟨trivial, wrapI c11, trivial⟩ ?_
                                  exact ⟨(n, (v29 + (1 : Int))), h, Nat.lt_succ_self _, rfl⟩
                            · -- no
                              refine WP.cond (b := decide (v29 < r34)) rfl (fun hh => by rw [h32] at hh; cases hh) (fun _ => ?_)
                              refine WP.path tab_ok mixed [] [.keep [2], .keepO [], .names []] (ps := []) (e := (.exit 4)) (σ' := ⟨[], [(2, vb false)], []⟩) (by kernel_rfl) trivial ?_
                              exact ⟨(), h, rfl⟩
                        · -- from there
                          intro _ h0
                          have h := (show J1 () = some y0 from h0)
                          rw [hJ1] at h
                          have h := Option.some.inj h
                          subst h
                          exact WP.pathW tab_ok mixed [] _ (ps := []) (r := tb true) (by kernel_rfl) trivial (WkT.eq (y := tb true) (WkT.refl _) rfl) (fun _ h => h)

end Go.Proofs.Ytofiecpgfjofdaa.AuOx
