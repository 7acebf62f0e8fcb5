/-
  The walks: each function of the program returns what the plain function beside it returns. No statement is proved here.
-/
import Derived.Test.YtnpdbllidpijfaaTlV
import Derived.Test.YtnpdbllidpijfaaTlCI
import Derived.Test.YtnpdbllidpijfaaAuRacesF
import Derived.Test.YtnpdbllidpijfaaProg
import Derived.Test.YtnpdbllidpijfaaAuRacesO
import Derived.Test.YtnpdbllidpijfaaAuRacesa
import Derived.Test.YtnpdbllidpijfaaAuRacesb
namespace Go.Proofs.Ytnpdbllidpijfaa.AuRaces
open Go Go.Tl Go.Proofs
open Go.Proofs.Ytnpdbllidpijfaa.AuRacesO hiding tab tab_ok mixed
open Go.Proofs.Ytnpdbllidpijfaa.AuRacesa hiding tab tab_ok mixed
open Go.Proofs.Ytnpdbllidpijfaa.AuRacesb hiding tab tab_ok mixed
set_option linter.unusedVariables false
set_option linter.unusedSimpArgs false
set_option maxRecDepth 100000
def tab : Tab := [(3, ⟨.int .i64, 1, 8, [.int .i64 0]⟩), (4, ⟨.bool, 1, 1, [.bool false]⟩), (5, ⟨.int .u8, 1, 1, [.int .u8 0]⟩), (22, ⟨.slice 3 1 8, 1, 24, [.nils]⟩), (28, ⟨.struct [(0, 1, false), (1, 1, false)], 2, 32, [.nils, .int .i64 0]⟩), (40, ⟨.slice 4 1 1, 1, 24, [.nils]⟩), (51, ⟨.slice 5 1 1, 1, 24, [.nils]⟩), (65, ⟨.struct [(0, 1, false), (1, 1, false)], 2, 16, [.int .i64 0, .bool false]⟩), (70, ⟨.struct [(0, 1, false), (1, 1, false), (2, 1, false), (3, 1, false), (4, 1, false)], 5, 32, [.bool false, .bool false, .int .i64 0, .int .i64 0, .int .i64 0]⟩), (71, ⟨.slice 70 5 32, 1, 24, [.nils]⟩), (75, ⟨.pointer 104, 1, 8, [.nilp]⟩), (90, ⟨.pointer 93, 1, 8, [.nilp]⟩), (91, ⟨.int .u64, 1, 8, [.int .u64 0]⟩), (93, ⟨.struct [(0, 1, false), (1, 1, false), (2, 1, false)], 3, 40, [.nils, .int .i64 0, .int .u64 0]⟩), (99, ⟨.array 3 3 1 false, 3, 24, [.int .i64 0, .int .i64 0, .int .i64 0]⟩), (101, ⟨.map 3 4, 1, 8, [.nilm]⟩), (102, ⟨.map 3 99, 1, 8, [.nilm]⟩), (104, ⟨.struct [(0, 1, false), (1, 1, false), (2, 1, false)], 3, 40, [.nils, .nilm, .nilm]⟩), (107, ⟨.array 2 28 2 true, 4, 64, [.nils, .int .i64 0, .nils, .int .i64 0]⟩)]
theorem tab_ok : chkTab Try.prog tab = true := by kernel_rfl
theorem mixed : Try.prog.follows .mixedOrders = true := by kernel_rfl
theorem F_laws_FnRaces_W (x0 : List Int) (y0 : Bool) (h : F_laws_FnRaces x0 = some y0) : C Try.prog 10 [ty x0] (tb y0) := by
  unfold F_laws_FnRaces at h
  refine C.intro (tab := tab) tab_ok (fn := Try.f10) Try.func10 (by kernel_rfl) rfl (Nat.le_of_ble_eq_true rfl) ?_
  refine WP.seq ?_
  refine WP.path tab_ok mixed [] [.keep [2, 0], .keepO []] (ps := []) (e := .normal) (σ' := ⟨[], [(2, vb false), (0, vy x0)], []⟩) (by kernel_rfl) trivial ?_
  refine WP.seq ?_
  refine WP.seq ?_
  obtain ⟨c0, h⟩ := chk_some h
  refine WP.path tab_ok mixed [(39, An.call (tb (decide (((List.length x0 : Nat) : Int) > (65536 : Int)))))] [.keep [39, 2, 0], .keepO []] (ps := [(C Try.prog 40 [ty x0] (tb (decide (((List.length x0 : Nat) : Int) > (65536 : Int)))))]) (e := .normal) (σ' := ⟨[], [(39, vb (decide (((List.length x0 : Nat) : Int) > (65536 : Int)))), (2, vb false), (0, vy x0)], []⟩) (by kernel_rfl) ⟨(rBig_C x0 c0), trivial⟩ ?_
  rcases ite_some h with ⟨h1, h⟩ | ⟨h1, h⟩
  · -- yes
    refine WP.cond (b := decide (((List.length x0 : Nat) : Int) > (65536 : Int))) rfl (fun _ => ?_) (fun hh => by rw [h1] at hh; cases hh)
    have h := Option.some.inj h
    subst h
    exact WP.pathW tab_ok mixed [] _ (ps := []) (r := tb true) (by kernel_rfl) trivial (WkT.eq (y := tb true) (WkT.refl _) rfl) (fun _ h => h)
  · -- no
    refine WP.cond (b := decide (((List.length x0 : Nat) : Int) > (65536 : Int))) rfl (fun hh => by rw [h1] at hh; cases hh) (fun _ => ?_)
    refine WP.path tab_ok mixed [] [.keep [2, 0], .keepO []] (ps := []) (e := .normal) (σ' := ⟨[], [(2, vb false), (0, vy x0)], []⟩) (by kernel_rfl) trivial ?_
    refine WP.seq ?_
    obtain ⟨r42, r42b, r42c, c1, h⟩ := bnd3_some h
    refine WP.path tab_ok mixed [(42, An.call (T.tup [T.agg [tl r42, ti r42b], tl r42c])), (3, An.id 2003)] [.keep [4, 3, 2], .keepO [2003]] (ps := [(C Try.prog 41 [ty x0] (T.tup [T.agg [tl r42, ti r42b], tl r42c])), ((0 + 2 ≤ 2 ∧ 2 = 2))]) (e := .normal) (σ' := ⟨[2003], [(4, vl r42c), (3, V.ref 2003 0), (2, vb false)], [(2003, oc 28 [tl r42, ti r42b])]⟩) (by kernel_rfl) ⟨(F_spec_DrawRaceWins_W_C x0 r42 r42b r42c c1), by decide, trivial⟩ ?_
    refine WP.seq ?_
    obtain ⟨r48, r48b, c2, h⟩ := bnd2_some h
    refine WP.path tab_ok mixed [(48, An.call (T.tup [tb r48, tb r48b]))] [.keep [6, 5, 4, 3, 2], .keepO [2003]] (ps := [(0 + 2 ≤ 2), (C Try.prog 24 [T.agg [tl r42, ti r42b], tl r42c] (T.tup [tb r48, tb r48b]))]) (e := .normal) (σ' := ⟨[2003], [(6, vb r48b), (5, vb r48), (4, vl r42c), (3, V.ref 2003 0), (2, vb false)], [(2003, oc 28 [tl r42, ti r42b])]⟩) (by kernel_rfl) ⟨by decide, (F_impl_RaceWins_W r42 r42b r42c r48 r48b c2), trivial⟩ ?_
    refine WP.seq ?_
    refine WP.seq ?_
    obtain ⟨r54, r54b, c3, h⟩ := bnd2_some h
    refine WP.path tab_ok mixed [(54, An.call (T.tup [tb r54, tb r54b]))] [.keep [8, 7, 6, 5, 4, 3, 2], .keepO [2003]] (ps := [(0 + 2 ≤ 2), (C Try.prog 23 [T.agg [tl r42, ti r42b], tl r42c] (T.tup [tb r54, tb r54b]))]) (e := .normal) (σ' := ⟨[2003], [(8, vb r54b), (7, vb r54), (6, vb r48b), (5, vb r48), (4, vl r42c), (3, V.ref 2003 0), (2, vb false)], [(2003, oc 28 [tl r42, ti r42b])]⟩) (by kernel_rfl) ⟨by decide, (F_spec_RaceWins_W r42 r42b r42c r54 r54b c3), trivial⟩ ?_
    obtain ⟨J1, hJ1, h⟩ := jn_some h
    refine WP.joinA (fun (zz : Bool) => ⟨[2003], [(64, vb zz), (6, vb r48b), (5, vb r48), (4, vl r42c), (3, V.ref 2003 0), (2, vb false)], [(2003, oc 28 [tl r42, ti r42b])]⟩) (fun zz => J1 zz = some y0) ?_ ?_
    · -- to where they meet
      rcases ite_some h with ⟨h2, h⟩ | ⟨h2, h⟩
      · -- yes
        refine WP.path tab_ok mixed [(59, An.b true)] [.keep [64, 6, 5, 4, 3, 2], .keepO [2003], .names [(2003, 2003)]] (ps := [(True), ((!(r48 == r54)) = true)]) (e := .normal) (σ' := ⟨[2003], [(64, vb true), (6, vb r48b), (5, vb r48), (4, vl r42c), (3, V.ref 2003 0), (2, vb false)], [(2003, oc 28 [tl r42, ti r42b])]⟩) (by kernel_rfl) ⟨trivial, h2, trivial⟩ ?_
        exact ⟨(true), h, rfl⟩
      · -- no
        refine WP.path tab_ok mixed [(59, An.b false)] [.keep [64, 6, 5, 4, 3, 2], .keepO [2003], .names [(2003, 2003)]] (ps := [(True), ((!(r48 == r54)) = false), (True)]) (e := .normal) (σ' := ⟨[2003], [(64, vb (!(r48b == r54b))), (6, vb r48b), (5, vb r48), (4, vl r42c), (3, V.ref 2003 0), (2, vb false)], [(2003, oc 28 [tl r42, ti r42b])]⟩) (by kernel_rfl) ⟨trivial, h2, trivial, trivial⟩ ?_
        exact ⟨(!(r48b == r54b)), h, rfl⟩
    · -- from there
      intro v64 h0
      have h := (show J1 v64 = some y0 from h0)
      rw [hJ1] at h
      rcases ite_some h with ⟨h3, h⟩ | ⟨h3, h⟩
      · -- yes
        refine WP.cond (b := v64) rfl (fun _ => ?_) (fun hh => by rw [h3] at hh; cases hh)
        have h := Option.some.inj h
        subst h
        exact WP.pathW tab_ok mixed [] _ (ps := []) (r := tb false) (by kernel_rfl) trivial (WkT.eq (y := tb false) (WkT.refl _) rfl) (fun _ h => h)
      · -- no
        refine WP.cond (b := v64) rfl (fun hh => by rw [h3] at hh; cases hh) (fun _ => ?_)
        refine WP.path tab_ok mixed [] [.keep [6, 5, 4, 3, 2], .keepO [2003]] (ps := []) (e := .normal) (σ' := ⟨[2003], [(6, vb r48b), (5, vb r48), (4, vl r42c), (3, V.ref 2003 0), (2, vb false)], [(2003, oc 28 [tl r42, ti r42b])]⟩) (by kernel_rfl) trivial ?_
        refine WP.seq ?_
        obtain ⟨r68, r68b, c4, h⟩ := bnd2_some h
        refine WP.path tab_ok mixed [(68, An.call (T.tup [tl r68, tb r68b]))] [.keep [10, 9, 6, 5, 4, 3, 2], .keepO [2003]] (ps := [(0 + 2 ≤ 2), (C Try.prog 26 [T.agg [tl r42, ti r42b], tl r42c] (T.tup [tl r68, tb r68b]))]) (e := .normal) (σ' := ⟨[2003], [(10, vb r68b), (9, vl r68), (6, vb r48b), (5, vb r48), (4, vl r42c), (3, V.ref 2003 0), (2, vb false)], [(2003, oc 28 [tl r42, ti r42b])]⟩) (by kernel_rfl) ⟨by decide, (F_impl_WinningQuestions_W_C r42 r42b r42c r68 r68b c4), trivial⟩ ?_
        refine WP.seq ?_
        refine WP.seq ?_
        obtain ⟨r74, r74b, c5, h⟩ := bnd2_some h
        refine WP.path tab_ok mixed [(74, An.call (T.tup [tl r74, tb r74b]))] [.keep [12, 11, 10, 9, 6, 5, 4, 3, 2], .keepO [2003]] (ps := [(0 + 2 ≤ 2), (C Try.prog 25 [T.agg [tl r42, ti r42b], tl r42c] (T.tup [tl r74, tb r74b]))]) (e := .normal) (σ' := ⟨[2003], [(12, vb r74b), (11, vl r74), (10, vb r68b), (9, vl r68), (6, vb r48b), (5, vb r48), (4, vl r42c), (3, V.ref 2003 0), (2, vb false)], [(2003, oc 28 [tl r42, ti r42b])]⟩) (by kernel_rfl) ⟨by decide, (F_spec_WinningQuestions_W_C r42 r42b r42c r74 r74b c5), trivial⟩ ?_
        obtain ⟨J1, hJ1, h⟩ := jn_some h
        refine WP.joinA (fun (zz : Bool) => ⟨[2003], [(100, vb zz), (9, vl r68), (6, vb r48b), (4, vl r42c), (3, V.ref 2003 0), (2, vb false)], [(2003, oc 28 [tl r42, ti r42b])]⟩) (fun zz => J1 zz = some y0) ?_ ?_
        · -- to where they meet
          rcases ite_some h with ⟨h4, h⟩ | ⟨h4, h⟩
          · -- yes
            refine WP.path tab_ok mixed [(79, An.b true)] [.keep [100, 9, 6, 4, 3, 2], .keepO [2003], .names [(2003, 2003)]] (ps := [(True), ((!(r68b == r74b)) = true)]) (e := .normal) (σ' := ⟨[2003], [(100, vb true), (9, vl r68), (6, vb r48b), (4, vl r42c), (3, V.ref 2003 0), (2, vb false)], [(2003, oc 28 [tl r42, ti r42b])]⟩) (by kernel_rfl) ⟨trivial, h4, trivial⟩ ?_
            exact ⟨(true), h, rfl⟩
          · -- no
            rcases ite_some h with ⟨h5, h⟩ | ⟨h5, h⟩
            · -- yes
              refine WP.path tab_ok mixed [(79, An.b false), (83, An.b true)] [.keep [100, 9, 6, 4, 3, 2], .keepO [2003], .names [(2003, 2003)]] (ps := [(True), ((!(r68b == r74b)) = false), (True), ((!(r68b == r48b)) = true)]) (e := .normal) (σ' := ⟨[2003], [(100, vb true), (9, vl r68), (6, vb r48b), (4, vl r42c), (3, V.ref 2003 0), (2, vb false)], [(2003, oc 28 [tl r42, ti r42b])]⟩) (by kernel_rfl) ⟨trivial, h4, trivial, h5, trivial⟩ ?_
              exact ⟨(true), h, rfl⟩
            · -- no
              obtain ⟨r88, c6, h⟩ := bnd1_some h
              rcases ite_some h with ⟨h6, h⟩ | ⟨h6, h⟩
              · -- yes
                refine WP.path tab_ok mixed [(79, An.b false), (83, An.b false), (88, An.call (tb r88)), (91, An.b true)] [.keep [100, 9, 6, 4, 3, 2], .keepO [2003], .names [(2003, 2003)]] (ps := [(True), ((!(r68b == r74b)) = false), (True), ((!(r68b == r48b)) = false), (C Try.prog 42 [tl r68, tl r74] (tb r88)), ((!r88) = true)]) (e := .normal) (σ' := ⟨[2003], [(100, vb true), (9, vl r68), (6, vb r48b), (4, vl r42c), (3, V.ref 2003 0), (2, vb false)], [(2003, oc 28 [tl r42, ti r42b])]⟩) (by kernel_rfl) ⟨trivial, h4, trivial, h5, (F_laws_rInts_W r68 r74 r88 c6), h6, trivial⟩ ?_
                exact ⟨(true), h, rfl⟩
              · -- no
                rcases ite_some h with ⟨h7, h⟩ | ⟨h7, h⟩
                · -- yes
                  refine WP.path tab_ok mixed [(79, An.b false), (83, An.b false), (88, An.call (tb r88)), (91, An.b false), (93, An.b true)] [.keep [100, 9, 6, 4, 3, 2], .keepO [2003], .names [(2003, 2003)]] (ps := [(True), ((!(r68b == r74b)) = false), (True), ((!(r68b == r48b)) = false), (C Try.prog 42 [tl r68, tl r74] (tb r88)), ((!r88) = false), ((r68b) = true), (True), (True)]) (e := .normal) (σ' := ⟨[2003], [(100, vb (!(r48 == (decide (((List.length r68 : Nat) : Int) > (0 : Int)))))), (9, vl r68), (6, vb r48b), (4, vl r42c), (3, V.ref 2003 0), (2, vb false)], [(2003, oc 28 [tl r42, ti r42b])]⟩) (by kernel_rfl) ⟨trivial, h4, trivial, h5, (F_laws_rInts_W r68 r74 r88 c6), h6, h7, trivial, trivial, trivial⟩ ?_
                  exact ⟨(!(r48 == (decide (((List.length r68 : Nat) : Int) > (0 : Int))))), h, rfl⟩
                · -- no
                  refine WP.path tab_ok mixed [(79, An.b false), (83, An.b false), (88, An.call (tb r88)), (91, An.b false), (93, An.b false)] [.keep [100, 9, 6, 4, 3, 2], .keepO [2003], .names [(2003, 2003)]] (ps := [(True), ((!(r68b == r74b)) = false), (True), ((!(r68b == r48b)) = false), (C Try.prog 42 [tl r68, tl r74] (tb r88)), ((!r88) = false), ((r68b) = false)]) (e := .normal) (σ' := ⟨[2003], [(100, vb false), (9, vl r68), (6, vb r48b), (4, vl r42c), (3, V.ref 2003 0), (2, vb false)], [(2003, oc 28 [tl r42, ti r42b])]⟩) (by kernel_rfl) ⟨trivial, h4, trivial, h5, (F_laws_rInts_W r68 r74 r88 c6), h6, h7, trivial⟩ ?_
                  exact ⟨(false), h, rfl⟩
        · -- from there
          intro v100 h0
          have h := (show J1 v100 = some y0 from h0)
          rw [hJ1] at h
          rcases ite_some h with ⟨h8, h⟩ | ⟨h8, h⟩
          · -- yes
            refine WP.cond (b := v100) rfl (fun _ => ?_) (fun hh => by rw [h8] at hh; cases hh)
            have h := Option.some.inj h
            subst h
            exact WP.pathW tab_ok mixed [] _ (ps := []) (r := tb false) (by kernel_rfl) trivial (WkT.eq (y := tb false) (WkT.refl _) rfl) (fun _ h => h)
          · -- no
            refine WP.cond (b := v100) rfl (fun hh => by rw [h8] at hh; cases hh) (fun _ => ?_)
            refine WP.path tab_ok mixed [] [.keep [9, 6, 4, 3, 2], .keepO [2003]] (ps := []) (e := .normal) (σ' := ⟨[2003], [(9, vl r68), (6, vb r48b), (4, vl r42c), (3, V.ref 2003 0), (2, vb false)], [(2003, oc 28 [tl r42, ti r42b])]⟩) (by kernel_rfl) trivial ?_
            refine WP.seq ?_
            obtain ⟨r104, r104b, c6, h⟩ := bnd2_some h
            refine WP.path tab_ok mixed [(104, An.call (T.tup [tl r104, tb r104b]))] [.keep [14, 13, 9, 6, 4, 3, 2], .keepO [2003]] (ps := [(0 + 2 ≤ 2), (C Try.prog 43 [T.agg [tl r42, ti r42b], tl r42c] (T.tup [tl r104, tb r104b]))]) (e := .normal) (σ' := ⟨[2003], [(14, vb r104b), (13, vl r104), (9, vl r68), (6, vb r48b), (4, vl r42c), (3, V.ref 2003 0), (2, vb false)], [(2003, oc 28 [tl r42, ti r42b])]⟩) (by kernel_rfl) ⟨by decide, (F_impl_ChoicesAt_W_C r42 r42b r42c r104 r104b c6), trivial⟩ ?_
            refine WP.seq ?_
            refine WP.seq ?_
            obtain ⟨r110, r110b, c7, h⟩ := bnd2_some h
            refine WP.path tab_ok mixed [(110, An.call (T.tup [tl r110, tb r110b]))] [.keep [16, 15, 14, 13, 9, 6, 4, 3, 2], .keepO [2003]] (ps := [(0 + 2 ≤ 2), (C Try.prog 44 [T.agg [tl r42, ti r42b], tl r42c] (T.tup [tl r110, tb r110b]))]) (e := .normal) (σ' := ⟨[2003], [(16, vb r110b), (15, vl r110), (14, vb r104b), (13, vl r104), (9, vl r68), (6, vb r48b), (4, vl r42c), (3, V.ref 2003 0), (2, vb false)], [(2003, oc 28 [tl r42, ti r42b])]⟩) (by kernel_rfl) ⟨by decide, (F_spec_ChoicesAt_W_C r42 r42b r42c r110 r110b c7), trivial⟩ ?_
            obtain ⟨J1, hJ1, h⟩ := jn_some h
            refine WP.joinA (fun (zz : Bool) => ⟨[2003], [(126, vb zz), (13, vl r104), (9, vl r68), (6, vb r48b), (4, vl r42c), (3, V.ref 2003 0), (2, vb false)], [(2003, oc 28 [tl r42, ti r42b])]⟩) (fun zz => J1 zz = some y0) ?_ ?_
            · -- to where they meet
              rcases ite_some h with ⟨h9, h⟩ | ⟨h9, h⟩
              · -- yes
                refine WP.path tab_ok mixed [(115, An.b true)] [.keep [126, 13, 9, 6, 4, 3, 2], .keepO [2003], .names [(2003, 2003)]] (ps := [(True), ((!(r104b == r110b)) = true)]) (e := .normal) (σ' := ⟨[2003], [(126, vb true), (13, vl r104), (9, vl r68), (6, vb r48b), (4, vl r42c), (3, V.ref 2003 0), (2, vb false)], [(2003, oc 28 [tl r42, ti r42b])]⟩) (by kernel_rfl) ⟨trivial, h9, trivial⟩ ?_
                exact ⟨(true), h, rfl⟩
              · -- no
                rcases ite_some h with ⟨h10, h⟩ | ⟨h10, h⟩
                · -- yes
                  refine WP.path tab_ok mixed [(115, An.b false), (119, An.b true)] [.keep [126, 13, 9, 6, 4, 3, 2], .keepO [2003], .names [(2003, 2003)]] (ps := [(True), ((!(r104b == r110b)) = false), (True), ((!(r104b == r48b)) = true)]) (e := .normal) (σ' := ⟨[2003], [(126, vb true), (13, vl r104), (9, vl r68), (6, vb r48b), (4, vl r42c), (3, V.ref 2003 0), (2, vb false)], [(2003, oc 28 [tl r42, ti r42b])]⟩) (by kernel_rfl) ⟨trivial, h9, trivial, h10, trivial⟩ ?_
                  exact ⟨(true), h, rfl⟩
                · -- no
                  obtain ⟨r124, c8, h⟩ := bnd1_some h
                  refine WP.path tab_ok mixed [(115, An.b false), (119, An.b false), (124, An.call (tb r124))] [.keep [126, 13, 9, 6, 4, 3, 2], .keepO [2003], .names [(2003, 2003)]] (ps := [(True), ((!(r104b == r110b)) = false), (True), ((!(r104b == r48b)) = false), (C Try.prog 42 [tl r104, tl r110] (tb r124))]) (e := .normal) (σ' := ⟨[2003], [(126, vb !r124), (13, vl r104), (9, vl r68), (6, vb r48b), (4, vl r42c), (3, V.ref 2003 0), (2, vb false)], [(2003, oc 28 [tl r42, ti r42b])]⟩) (by kernel_rfl) ⟨trivial, h9, trivial, h10, (F_laws_rInts_W r104 r110 r124 c8), trivial⟩ ?_
                  exact ⟨(!r124), h, rfl⟩
            · -- from there
              intro v126 h0
              have h := (show J1 v126 = some y0 from h0)
              rw [hJ1] at h
              rcases ite_some h with ⟨h11, h⟩ | ⟨h11, h⟩
              · -- yes
                refine WP.cond (b := v126) rfl (fun _ => ?_) (fun hh => by rw [h11] at hh; cases hh)
                have h := Option.some.inj h
                subst h
                exact WP.pathW tab_ok mixed [] _ (ps := []) (r := tb false) (by kernel_rfl) trivial (WkT.eq (y := tb false) (WkT.refl _) rfl) (fun _ h => h)
              · -- no
                refine WP.cond (b := v126) rfl (fun hh => by rw [h11] at hh; cases hh) (fun _ => ?_)
                refine WP.path tab_ok mixed [] [.keep [13, 9, 6, 4, 3, 2], .keepO [2003]] (ps := []) (e := .normal) (σ' := ⟨[2003], [(13, vl r104), (9, vl r68), (6, vb r48b), (4, vl r42c), (3, V.ref 2003 0), (2, vb false)], [(2003, oc 28 [tl r42, ti r42b])]⟩) (by kernel_rfl) trivial ?_
                refine WP.seq ?_
                obtain ⟨r130, r130b, c8, h⟩ := bnd2_some h
                refine WP.path tab_ok mixed [(130, An.call (T.tup [ti r130, tb r130b]))] [.keep [18, 17, 13, 9, 6, 4, 3, 2], .keepO [2003]] (ps := [(0 + 2 ≤ 2), (C Try.prog 20 [T.agg [tl r42, ti r42b], tl r42c] (T.tup [ti r130, tb r130b]))]) (e := .normal) (σ' := ⟨[2003], [(18, vb r130b), (17, vi r130), (13, vl r104), (9, vl r68), (6, vb r48b), (4, vl r42c), (3, V.ref 2003 0), (2, vb false)], [(2003, oc 28 [tl r42, ti r42b])]⟩) (by kernel_rfl) ⟨by decide, (F_impl_LongestRace_W r42 r42b r42c r130 r130b c8), trivial⟩ ?_
                refine WP.seq ?_
                refine WP.seq ?_
                obtain ⟨r136, r136b, c9, h⟩ := bnd2_some h
                refine WP.path tab_ok mixed [(136, An.call (T.tup [ti r136, tb r136b]))] [.keep [20, 19, 18, 17, 13, 9, 6, 4, 3, 2], .keepO [2003]] (ps := [(0 + 2 ≤ 2), (C Try.prog 19 [T.agg [tl r42, ti r42b], tl r42c] (T.tup [ti r136, tb r136b]))]) (e := .normal) (σ' := ⟨[2003], [(20, vb r136b), (19, vi r136), (18, vb r130b), (17, vi r130), (13, vl r104), (9, vl r68), (6, vb r48b), (4, vl r42c), (3, V.ref 2003 0), (2, vb false)], [(2003, oc 28 [tl r42, ti r42b])]⟩) (by kernel_rfl) ⟨by decide, (F_spec_LongestRace_W r42 r42b r42c r136 r136b c9), trivial⟩ ?_
                obtain ⟨J1, hJ1, h⟩ := jn_some h
                refine WP.joinA (fun (zz : Bool) => ⟨[2003], [(151, vb zz), (17, vi r130), (13, vl r104), (9, vl r68), (6, vb r48b), (4, vl r42c), (3, V.ref 2003 0), (2, vb false)], [(2003, oc 28 [tl r42, ti r42b])]⟩) (fun zz => J1 zz = some y0) ?_ ?_
                · -- to where they meet
                  rcases ite_some h with ⟨h12, h⟩ | ⟨h12, h⟩
                  · -- yes
                    refine WP.path tab_ok mixed [(141, An.b true)] [.keep [151, 17, 13, 9, 6, 4, 3, 2], .keepO [2003], .names [(2003, 2003)]] (ps := [(True), ((r130 != r136) = true)]) (e := .normal) (σ' := ⟨[2003], [(151, vb true), (17, vi r130), (13, vl r104), (9, vl r68), (6, vb r48b), (4, vl r42c), (3, V.ref 2003 0), (2, vb false)], [(2003, oc 28 [tl r42, ti r42b])]⟩) (by kernel_rfl) ⟨trivial, h12, trivial⟩ ?_
                    exact ⟨(true), h, rfl⟩
                  · -- no
                    rcases ite_some h with ⟨h13, h⟩ | ⟨h13, h⟩
                    · -- yes
                      refine WP.path tab_ok mixed [(141, An.b false), (145, An.b true)] [.keep [151, 17, 13, 9, 6, 4, 3, 2], .keepO [2003], .names [(2003, 2003)]] (ps := [(True), ((r130 != r136) = false), (True), ((!(r130b == r136b)) = true)]) (e := .normal) (σ' := ⟨[2003], [(151, vb true), (17, vi r130), (13, vl r104), (9, vl r68), (6, vb r48b), (4, vl r42c), (3, V.ref 2003 0), (2, vb false)], [(2003, oc 28 [tl r42, ti r42b])]⟩) (by kernel_rfl) ⟨trivial, h12, trivial, h13, trivial⟩ ?_
                      exact ⟨(true), h, rfl⟩
                    · -- no
                      refine WP.path tab_ok mixed [(141, An.b false), (145, An.b false)] [.keep [151, 17, 13, 9, 6, 4, 3, 2], .keepO [2003], .names [(2003, 2003)]] (ps := [(True), ((r130 != r136) = false), (True), ((!(r130b == r136b)) = false), (True)]) (e := .normal) (σ' := ⟨[2003], [(151, vb (!(r130b == r48b))), (17, vi r130), (13, vl r104), (9, vl r68), (6, vb r48b), (4, vl r42c), (3, V.ref 2003 0), (2, vb false)], [(2003, oc 28 [tl r42, ti r42b])]⟩) (by kernel_rfl) ⟨trivial, h12, trivial, h13, trivial, trivial⟩ ?_
                      exact ⟨(!(r130b == r48b)), h, rfl⟩
                · -- from there
                  intro v151 h0
                  have h := (show J1 v151 = some y0 from h0)
                  rw [hJ1] at h
                  rcases ite_some h with ⟨h14, h⟩ | ⟨h14, h⟩
                  · -- yes
                    refine WP.cond (b := v151) rfl (fun _ => ?_) (fun hh => by rw [h14] at hh; cases hh)
                    have h := Option.some.inj h
                    subst h
                    exact WP.pathW tab_ok mixed [] _ (ps := []) (r := tb false) (by kernel_rfl) trivial (WkT.eq (y := tb false) (WkT.refl _) rfl) (fun _ h => h)
                  · -- no
                    refine WP.cond (b := v151) rfl (fun hh => by rw [h14] at hh; cases hh) (fun _ => ?_)
                    refine WP.path tab_ok mixed [] [.keep [17, 13, 9, 6, 4, 3, 2], .keepO [2003]] (ps := []) (e := .normal) (σ' := ⟨[2003], [(17, vi r130), (13, vl r104), (9, vl r68), (6, vb r48b), (4, vl r42c), (3, V.ref 2003 0), (2, vb false)], [(2003, oc 28 [tl r42, ti r42b])]⟩) (by kernel_rfl) trivial ?_
                    refine WP.seq ?_
                    obtain ⟨r155, r155b, c10, h⟩ := bnd2_some h
                    refine WP.path tab_ok mixed [(155, An.call (T.tup [ti r155, tb r155b]))] [.keep [22, 21, 17, 13, 9, 6, 4, 3, 2], .keepO [2003]] (ps := [(0 + 2 ≤ 2), (C Try.prog 22 [T.agg [tl r42, ti r42b], tl r42c] (T.tup [ti r155, tb r155b]))]) (e := .normal) (σ' := ⟨[2003], [(22, vb r155b), (21, vi r155), (17, vi r130), (13, vl r104), (9, vl r68), (6, vb r48b), (4, vl r42c), (3, V.ref 2003 0), (2, vb false)], [(2003, oc 28 [tl r42, ti r42b])]⟩) (by kernel_rfl) ⟨by decide, (F_impl_ShortestRace_W r42 r42b r42c r155 r155b c10), trivial⟩ ?_
                    refine WP.seq ?_
                    refine WP.seq ?_
                    obtain ⟨r161, r161b, c11, h⟩ := bnd2_some h
                    refine WP.path tab_ok mixed [(161, An.call (T.tup [ti r161, tb r161b]))] [.keep [24, 23, 22, 21, 17, 13, 9, 6, 4, 3, 2], .keepO [2003]] (ps := [(0 + 2 ≤ 2), (C Try.prog 21 [T.agg [tl r42, ti r42b], tl r42c] (T.tup [ti r161, tb r161b]))]) (e := .normal) (σ' := ⟨[2003], [(24, vb r161b), (23, vi r161), (22, vb r155b), (21, vi r155), (17, vi r130), (13, vl r104), (9, vl r68), (6, vb r48b), (4, vl r42c), (3, V.ref 2003 0), (2, vb false)], [(2003, oc 28 [tl r42, ti r42b])]⟩) (by kernel_rfl) ⟨by decide, (F_spec_ShortestRace_W r42 r42b r42c r161 r161b c11), trivial⟩ ?_
                    obtain ⟨J1, hJ1, h⟩ := jn_some h
                    refine WP.joinA (fun (zz : Bool) => ⟨[2003], [(192, vb zz), (13, vl r104), (9, vl r68), (6, vb r48b), (4, vl r42c), (3, V.ref 2003 0), (2, vb false)], [(2003, oc 28 [tl r42, ti r42b])]⟩) (fun zz => J1 zz = some y0) ?_ ?_
                    · -- to where they meet
                      rcases ite_some h with ⟨h15, h⟩ | ⟨h15, h⟩
                      · -- yes
                        refine WP.path tab_ok mixed [(166, An.b true)] [.keep [192, 13, 9, 6, 4, 3, 2], .keepO [2003], .names [(2003, 2003)]] (ps := [(True), ((r155 != r161) = true)]) (e := .normal) (σ' := ⟨[2003], [(192, vb true), (13, vl r104), (9, vl r68), (6, vb r48b), (4, vl r42c), (3, V.ref 2003 0), (2, vb false)], [(2003, oc 28 [tl r42, ti r42b])]⟩) (by kernel_rfl) ⟨trivial, h15, trivial⟩ ?_
                        exact ⟨(true), h, rfl⟩
                      · -- no
                        rcases ite_some h with ⟨h16, h⟩ | ⟨h16, h⟩
                        · -- yes
                          refine WP.path tab_ok mixed [(166, An.b false), (170, An.b true)] [.keep [192, 13, 9, 6, 4, 3, 2], .keepO [2003], .names [(2003, 2003)]] (ps := [(True), ((r155 != r161) = false), (True), ((!(r155b == r161b)) = true)]) (e := .normal) (σ' := ⟨[2003], [(192, vb true), (13, vl r104), (9, vl r68), (6, vb r48b), (4, vl r42c), (3, V.ref 2003 0), (2, vb false)], [(2003, oc 28 [tl r42, ti r42b])]⟩) (by kernel_rfl) ⟨trivial, h15, trivial, h16, trivial⟩ ?_
                          exact ⟨(true), h, rfl⟩
                        · -- no
                          rcases ite_some h with ⟨h17, h⟩ | ⟨h17, h⟩
                          · -- yes
                            refine WP.path tab_ok mixed [(166, An.b false), (170, An.b false), (175, An.b true)] [.keep [192, 13, 9, 6, 4, 3, 2], .keepO [2003], .names [(2003, 2003)]] (ps := [(True), ((r155 != r161) = false), (True), ((!(r155b == r161b)) = false), (True), ((!(r155b == r48b)) = true)]) (e := .normal) (σ' := ⟨[2003], [(192, vb true), (13, vl r104), (9, vl r68), (6, vb r48b), (4, vl r42c), (3, V.ref 2003 0), (2, vb false)], [(2003, oc 28 [tl r42, ti r42b])]⟩) (by kernel_rfl) ⟨trivial, h15, trivial, h16, trivial, h17, trivial⟩ ?_
                            exact ⟨(true), h, rfl⟩
                          · -- no
                            rcases ite_some h with ⟨h18, h⟩ | ⟨h18, h⟩
                            · -- yes
                              rcases ite_some h with ⟨h19, h⟩ | ⟨h19, h⟩
                              · -- yes
                                refine WP.path tab_ok mixed [(166, An.b false), (170, An.b false), (175, An.b false), (179, An.b true), (182, An.b true)] [.keep [192, 13, 9, 6, 4, 3, 2], .keepO [2003], .names [(2003, 2003)]] (ps := [(True), ((r155 != r161) = false), (True), ((!(r155b == r161b)) = false), (True), ((!(r155b == r48b)) = false), ((r155b) = true), (True), ((decide (r155 > r130)) = true)]) (e := .normal) (σ' := ⟨[2003], [(192, vb true), (13, vl r104), (9, vl r68), (6, vb r48b), (4, vl r42c), (3, V.ref 2003 0), (2, vb false)], [(2003, oc 28 [tl r42, ti r42b])]⟩) (by kernel_rfl) ⟨trivial, h15, trivial, h16, trivial, h17, h18, trivial, h19, trivial⟩ ?_
                                exact ⟨(true), h, rfl⟩
                              · -- no
                                refine WP.path tab_ok mixed [(166, An.b false), (170, An.b false), (175, An.b false), (179, An.b true), (182, An.b false)] [.keep [192, 13, 9, 6, 4, 3, 2], .keepO [2003], .names [(2003, 2003)]] (ps := [(True), ((r155 != r161) = false), (True), ((!(r155b == r161b)) = false), (True), ((!(r155b == r48b)) = false), ((r155b) = true), (True), ((decide (r155 > r130)) = false), (True), (True), (True)]) (e := .normal) (σ' := ⟨[2003], [(192, vb (!((r130 == (0 : Int)) == (((List.length r104 : Nat) : Int) == (0 : Int))))), (13, vl r104), (9, vl r68), (6, vb r48b), (4, vl r42c), (3, V.ref 2003 0), (2, vb false)], [(2003, oc 28 [tl r42, ti r42b])]⟩) (by kernel_rfl) ⟨trivial, h15, trivial, h16, trivial, h17, h18, trivial, h19, trivial, trivial, trivial, trivial⟩ ?_
                                exact ⟨(!((r130 == (0 : Int)) == (((List.length r104 : Nat) : Int) == (0 : Int)))), h, rfl⟩
                            · -- no
                              refine WP.path tab_ok mixed [(166, An.b false), (170, An.b false), (175, An.b false), (179, An.b false)] [.keep [192, 13, 9, 6, 4, 3, 2], .keepO [2003], .names [(2003, 2003)]] (ps := [(True), ((r155 != r161) = false), (True), ((!(r155b == r161b)) = false), (True), ((!(r155b == r48b)) = false), ((r155b) = false)]) (e := .normal) (σ' := ⟨[2003], [(192, vb false), (13, vl r104), (9, vl r68), (6, vb r48b), (4, vl r42c), (3, V.ref 2003 0), (2, vb false)], [(2003, oc 28 [tl r42, ti r42b])]⟩) (by kernel_rfl) ⟨trivial, h15, trivial, h16, trivial, h17, h18, trivial⟩ ?_
                              exact ⟨(false), h, rfl⟩
                    · -- from there
                      intro v192 h0
                      have h := (show J1 v192 = some y0 from h0)
                      rw [hJ1] at h
                      rcases ite_some h with ⟨h20, h⟩ | ⟨h20, h⟩
                      · -- yes
                        refine WP.cond (b := v192) rfl (fun _ => ?_) (fun hh => by rw [h20] at hh; cases hh)
                        have h := Option.some.inj h
                        subst h
                        exact WP.pathW tab_ok mixed [] _ (ps := []) (r := tb false) (by kernel_rfl) trivial (WkT.eq (y := tb false) (WkT.refl _) rfl) (fun _ h => h)
                      · -- no
                        refine WP.cond (b := v192) rfl (fun hh => by rw [h20] at hh; cases hh) (fun _ => ?_)
                        refine WP.path tab_ok mixed [] [.keep [13, 9, 6, 4, 3, 2], .keepO [2003]] (ps := []) (e := .normal) (σ' := ⟨[2003], [(13, vl r104), (9, vl r68), (6, vb r48b), (4, vl r42c), (3, V.ref 2003 0), (2, vb false)], [(2003, oc 28 [tl r42, ti r42b])]⟩) (by kernel_rfl) trivial ?_
                        refine WP.seq ?_
                        obtain ⟨r196, r196b, c12, h⟩ := bnd2_some h
                        refine WP.path tab_ok mixed [(196, An.call (T.tup [ti r196, tb r196b]))] [.keep [26, 25, 13, 9, 6, 4, 3, 2], .keepO [2003]] (ps := [(0 + 2 ≤ 2), (C Try.prog 16 [T.agg [tl r42, ti r42b], tl r42c] (T.tup [ti r196, tb r196b]))]) (e := .normal) (σ' := ⟨[2003], [(26, vb r196b), (25, vi r196), (13, vl r104), (9, vl r68), (6, vb r48b), (4, vl r42c), (3, V.ref 2003 0), (2, vb false)], [(2003, oc 28 [tl r42, ti r42b])]⟩) (by kernel_rfl) ⟨by decide, (F_impl_CountRaces_W r42 r42b r42c r196 r196b c12), trivial⟩ ?_
                        refine WP.seq ?_
                        refine WP.seq ?_
                        obtain ⟨r202, r202b, c13, h⟩ := bnd2_some h
                        refine WP.path tab_ok mixed [(202, An.call (T.tup [ti r202, tb r202b]))] [.keep [28, 27, 26, 25, 13, 9, 6, 4, 3, 2], .keepO [2003]] (ps := [(0 + 2 ≤ 2), (C Try.prog 13 [T.agg [tl r42, ti r42b], tl r42c] (T.tup [ti r202, tb r202b]))]) (e := .normal) (σ' := ⟨[2003], [(28, vb r202b), (27, vi r202), (26, vb r196b), (25, vi r196), (13, vl r104), (9, vl r68), (6, vb r48b), (4, vl r42c), (3, V.ref 2003 0), (2, vb false)], [(2003, oc 28 [tl r42, ti r42b])]⟩) (by kernel_rfl) ⟨by decide, (F_spec_CountRaces_W r42 r42b r42c r202 r202b c13), trivial⟩ ?_
                        obtain ⟨J1, hJ1, h⟩ := jn_some h
                        refine WP.joinA (fun (zz : Bool) => ⟨[2003], [(224, vb zz), (13, vl r104), (9, vl r68), (6, vb r48b), (4, vl r42c), (3, V.ref 2003 0), (2, vb false)], [(2003, oc 28 [tl r42, ti r42b])]⟩) (fun zz => J1 zz = some y0) ?_ ?_
                        · -- to where they meet
                          rcases ite_some h with ⟨h21, h⟩ | ⟨h21, h⟩
                          · -- yes
                            refine WP.path tab_ok mixed [(207, An.b true)] [.keep [224, 13, 9, 6, 4, 3, 2], .keepO [2003], .names [(2003, 2003)]] (ps := [(True), ((r196 != r202) = true)]) (e := .normal) (σ' := ⟨[2003], [(224, vb true), (13, vl r104), (9, vl r68), (6, vb r48b), (4, vl r42c), (3, V.ref 2003 0), (2, vb false)], [(2003, oc 28 [tl r42, ti r42b])]⟩) (by kernel_rfl) ⟨trivial, h21, trivial⟩ ?_
                            exact ⟨(true), h, rfl⟩
                          · -- no
                            rcases ite_some h with ⟨h22, h⟩ | ⟨h22, h⟩
                            · -- yes
                              refine WP.path tab_ok mixed [(207, An.b false), (211, An.b true)] [.keep [224, 13, 9, 6, 4, 3, 2], .keepO [2003], .names [(2003, 2003)]] (ps := [(True), ((r196 != r202) = false), (True), ((!(r196b == r202b)) = true)]) (e := .normal) (σ' := ⟨[2003], [(224, vb true), (13, vl r104), (9, vl r68), (6, vb r48b), (4, vl r42c), (3, V.ref 2003 0), (2, vb false)], [(2003, oc 28 [tl r42, ti r42b])]⟩) (by kernel_rfl) ⟨trivial, h21, trivial, h22, trivial⟩ ?_
                              exact ⟨(true), h, rfl⟩
                            · -- no
                              rcases ite_some h with ⟨h23, h⟩ | ⟨h23, h⟩
                              · -- yes
                                refine WP.path tab_ok mixed [(207, An.b false), (211, An.b false), (216, An.b true)] [.keep [224, 13, 9, 6, 4, 3, 2], .keepO [2003], .names [(2003, 2003)]] (ps := [(True), ((r196 != r202) = false), (True), ((!(r196b == r202b)) = false), (True), ((!(r196b == r48b)) = true)]) (e := .normal) (σ' := ⟨[2003], [(224, vb true), (13, vl r104), (9, vl r68), (6, vb r48b), (4, vl r42c), (3, V.ref 2003 0), (2, vb false)], [(2003, oc 28 [tl r42, ti r42b])]⟩) (by kernel_rfl) ⟨trivial, h21, trivial, h22, trivial, h23, trivial⟩ ?_
                                exact ⟨(true), h, rfl⟩
                              · -- no
                                rcases ite_some h with ⟨h24, h⟩ | ⟨h24, h⟩
                                · -- yes
                                  refine WP.path tab_ok mixed [(207, An.b false), (211, An.b false), (216, An.b false), (220, An.b true)] [.keep [224, 13, 9, 6, 4, 3, 2], .keepO [2003], .names [(2003, 2003)]] (ps := [(True), ((r196 != r202) = false), (True), ((!(r196b == r202b)) = false), (True), ((!(r196b == r48b)) = false), ((r196b) = true), (True)]) (e := .normal) (σ' := ⟨[2003], [(224, vb (decide (r196 < (1 : Int)))), (13, vl r104), (9, vl r68), (6, vb r48b), (4, vl r42c), (3, V.ref 2003 0), (2, vb false)], [(2003, oc 28 [tl r42, ti r42b])]⟩) (by kernel_rfl) ⟨trivial, h21, trivial, h22, trivial, h23, h24, trivial, trivial⟩ ?_
                                  exact ⟨(decide (r196 < (1 : Int))), h, rfl⟩
                                · -- no
                                  refine WP.path tab_ok mixed [(207, An.b false), (211, An.b false), (216, An.b false), (220, An.b false)] [.keep [224, 13, 9, 6, 4, 3, 2], .keepO [2003], .names [(2003, 2003)]] (ps := [(True), ((r196 != r202) = false), (True), ((!(r196b == r202b)) = false), (True), ((!(r196b == r48b)) = false), ((r196b) = false)]) (e := .normal) (σ' := ⟨[2003], [(224, vb false), (13, vl r104), (9, vl r68), (6, vb r48b), (4, vl r42c), (3, V.ref 2003 0), (2, vb false)], [(2003, oc 28 [tl r42, ti r42b])]⟩) (by kernel_rfl) ⟨trivial, h21, trivial, h22, trivial, h23, h24, trivial⟩ ?_
                                  exact ⟨(false), h, rfl⟩
                        · -- from there
                          intro v224 h0
                          have h := (show J1 v224 = some y0 from h0)
                          rw [hJ1] at h
                          rcases ite_some h with ⟨h25, h⟩ | ⟨h25, h⟩
                          · -- yes
                            refine WP.cond (b := v224) rfl (fun _ => ?_) (fun hh => by rw [h25] at hh; cases hh)
                            have h := Option.some.inj h
                            subst h
                            exact WP.pathW tab_ok mixed [] _ (ps := []) (r := tb false) (by kernel_rfl) trivial (WkT.eq (y := tb false) (WkT.refl _) rfl) (fun _ h => h)
                          · -- no
                            refine WP.cond (b := v224) rfl (fun hh => by rw [h25] at hh; cases hh) (fun _ => ?_)
                            refine WP.path tab_ok mixed [] [.keep [13, 9, 6, 4, 3, 2], .keepO [2003]] (ps := []) (e := .normal) (σ' := ⟨[2003], [(13, vl r104), (9, vl r68), (6, vb r48b), (4, vl r42c), (3, V.ref 2003 0), (2, vb false)], [(2003, oc 28 [tl r42, ti r42b])]⟩) (by kernel_rfl) trivial ?_
                            refine WP.seq ?_
                            obtain ⟨r228, r228b, c14, h⟩ := bnd2_some h
                            refine WP.path tab_ok mixed [(228, An.call (T.tup [tb r228, tb r228b]))] [.keep [30, 29, 13, 9, 6, 4, 3, 2], .keepO [2003]] (ps := [(0 + 2 ≤ 2), (C Try.prog 45 [T.agg [tl r42, ti r42b], tl r42c] (T.tup [tb r228, tb r228b]))]) (e := .normal) (σ' := ⟨[2003], [(30, vb r228b), (29, vb r228), (13, vl r104), (9, vl r68), (6, vb r48b), (4, vl r42c), (3, V.ref 2003 0), (2, vb false)], [(2003, oc 28 [tl r42, ti r42b])]⟩) (by kernel_rfl) ⟨by decide, (F_impl_IsChoice_W r42 r42b r42c r228 r228b c14), trivial⟩ ?_
                            refine WP.seq ?_
                            refine WP.seq ?_
                            obtain ⟨r234, r234b, c15, h⟩ := bnd2_some h
                            refine WP.path tab_ok mixed [(234, An.call (T.tup [tb r234, tb r234b]))] [.keep [32, 31, 30, 29, 13, 9, 6, 4, 3, 2], .keepO [2003]] (ps := [(0 + 2 ≤ 2), (C Try.prog 46 [T.agg [tl r42, ti r42b], tl r42c] (T.tup [tb r234, tb r234b]))]) (e := .normal) (σ' := ⟨[2003], [(32, vb r234b), (31, vb r234), (30, vb r228b), (29, vb r228), (13, vl r104), (9, vl r68), (6, vb r48b), (4, vl r42c), (3, V.ref 2003 0), (2, vb false)], [(2003, oc 28 [tl r42, ti r42b])]⟩) (by kernel_rfl) ⟨by decide, (F_spec_IsChoice_W r42 r42b r42c r234 r234b c15), trivial⟩ ?_
                            obtain ⟨J1, hJ1, h⟩ := jn_some h
                            refine WP.joinA (fun (zz : Bool) => ⟨[2003], [(251, vb zz), (13, vl r104), (9, vl r68), (4, vl r42c), (3, V.ref 2003 0), (2, vb false)], [(2003, oc 28 [tl r42, ti r42b])]⟩) (fun zz => J1 zz = some y0) ?_ ?_
                            · -- to where they meet
                              rcases ite_some h with ⟨h26, h⟩ | ⟨h26, h⟩
                              · -- yes
                                refine WP.path tab_ok mixed [(239, An.b true)] [.keep [251, 13, 9, 4, 3, 2], .keepO [2003], .names [(2003, 2003)]] (ps := [(True), ((!(r228 == r234)) = true)]) (e := .normal) (σ' := ⟨[2003], [(251, vb true), (13, vl r104), (9, vl r68), (4, vl r42c), (3, V.ref 2003 0), (2, vb false)], [(2003, oc 28 [tl r42, ti r42b])]⟩) (by kernel_rfl) ⟨trivial, h26, trivial⟩ ?_
                                exact ⟨(true), h, rfl⟩
                              · -- no
                                rcases ite_some h with ⟨h27, h⟩ | ⟨h27, h⟩
                                · -- yes
                                  refine WP.path tab_ok mixed [(239, An.b false), (243, An.b true)] [.keep [251, 13, 9, 4, 3, 2], .keepO [2003], .names [(2003, 2003)]] (ps := [(True), ((!(r228 == r234)) = false), (True), ((!(r228b == r234b)) = true)]) (e := .normal) (σ' := ⟨[2003], [(251, vb true), (13, vl r104), (9, vl r68), (4, vl r42c), (3, V.ref 2003 0), (2, vb false)], [(2003, oc 28 [tl r42, ti r42b])]⟩) (by kernel_rfl) ⟨trivial, h26, trivial, h27, trivial⟩ ?_
                                  exact ⟨(true), h, rfl⟩
                                · -- no
                                  rcases ite_some h with ⟨h28, h⟩ | ⟨h28, h⟩
                                  · -- yes
                                    refine WP.path tab_ok mixed [(239, An.b false), (243, An.b false), (247, An.b true)] [.keep [251, 13, 9, 4, 3, 2], .keepO [2003], .names [(2003, 2003)]] (ps := [(True), ((!(r228 == r234)) = false), (True), ((!(r228b == r234b)) = false), ((r48b) = true)]) (e := .normal) (σ' := ⟨[2003], [(251, vb !r228), (13, vl r104), (9, vl r68), (4, vl r42c), (3, V.ref 2003 0), (2, vb false)], [(2003, oc 28 [tl r42, ti r42b])]⟩) (by kernel_rfl) ⟨trivial, h26, trivial, h27, h28, trivial⟩ ?_
                                    exact ⟨(!r228), h, rfl⟩
                                  · -- no
                                    refine WP.path tab_ok mixed [(239, An.b false), (243, An.b false), (247, An.b false)] [.keep [251, 13, 9, 4, 3, 2], .keepO [2003], .names [(2003, 2003)]] (ps := [(True), ((!(r228 == r234)) = false), (True), ((!(r228b == r234b)) = false), ((r48b) = false)]) (e := .normal) (σ' := ⟨[2003], [(251, vb false), (13, vl r104), (9, vl r68), (4, vl r42c), (3, V.ref 2003 0), (2, vb false)], [(2003, oc 28 [tl r42, ti r42b])]⟩) (by kernel_rfl) ⟨trivial, h26, trivial, h27, h28, trivial⟩ ?_
                                    exact ⟨(false), h, rfl⟩
                            · -- from there
                              intro v251 h0
                              have h := (show J1 v251 = some y0 from h0)
                              rw [hJ1] at h
                              rcases ite_some h with ⟨h29, h⟩ | ⟨h29, h⟩
                              · -- yes
                                refine WP.cond (b := v251) rfl (fun _ => ?_) (fun hh => by rw [h29] at hh; cases hh)
                                have h := Option.some.inj h
                                subst h
                                exact WP.pathW tab_ok mixed [] _ (ps := []) (r := tb false) (by kernel_rfl) trivial (WkT.eq (y := tb false) (WkT.refl _) rfl) (fun _ h => h)
                              · -- no
                                refine WP.cond (b := v251) rfl (fun hh => by rw [h29] at hh; cases hh) (fun _ => ?_)
                                refine WP.path tab_ok mixed [] [.keep [13, 9, 4, 3, 2], .keepO [2003]] (ps := []) (e := .normal) (σ' := ⟨[2003], [(13, vl r104), (9, vl r68), (4, vl r42c), (3, V.ref 2003 0), (2, vb false)], [(2003, oc 28 [tl r42, ti r42b])]⟩) (by kernel_rfl) trivial ?_
                                obtain ⟨J1, hJ1, h⟩ := jn_some h
                                refine WP.joinA (fun (zz : Unit) => ⟨[], [(2, vb false)], []⟩) (fun zz => J1 () = some y0) ?_ ?_
                                · -- to where they meet
                                  refine WP.seq ?_
                                  refine WP.path tab_ok mixed [] [.keep [33, 13, 9, 4, 3, 2], .keepO [2003]] (ps := []) (e := .normal) (σ' := ⟨[2003], [(33, vi 0), (13, vl r104), (9, vl r68), (4, vl r42c), (3, V.ref 2003 0), (2, vb false)], [(2003, oc 28 [tl r42, ti r42b])]⟩) (by kernel_rfl) trivial ?_
                                  refine WP.block ?_
                                  refine WP.wk [.keep [33, 13, 9, 4, 3, 2], .keepO [2003], .names [(2003, 2003)]] (σ' := ⟨[2003], [(33, vi 0), (13, vl r104), (9, vl r68), (4, vl r42c), (3, V.ref 2003 0), (2, vb false)], [(2003, oc 28 [tl r42, ti r42b])]⟩) (ps := []) (by kernel_rfl) trivial ?_
                                  refine WP.st (σ' := ⟨[2003], [(33, vi (0 : Int)), (13, vl r104), (9, vl r68), (4, vl r42c), (3, V.ref 2003 0), (2, vb false)], [(2003, oc 28 [tl r42, ti r42b])]⟩) (by first | rfl | (simp only [tlS, tl, vl, vo, oc, ov, tbl, vbl, ty, vy] <;> rfl) | (simp <;> omega) | (simp []; done) | (rw [List.take_of_length_le (by simp [])] <;> rfl)) ?_
                                  refine WP.loop (α := Nat × Int) (fun zz => ⟨[2003], [(33, vi zz.2), (13, vl r104), (9, vl r68), (4, vl r42c), (3, V.ref 2003 0), (2, vb false)], [(2003, oc 28 [tl r42, ti r42b])]⟩) (fun zz => F_laws_FnRaces_L1 r42 r42b r42c r68 r104 J1 zz.1 zz.2 = some y0) (fun zz => zz.1) (fuel, (0 : Int)) h ?_
                                  rintro ⟨n, v33⟩ h0
                                  have h := (show F_laws_FnRaces_L1 r42 r42b r42c r68 r104 J1 n v33 = some y0 from h0)
                                  rcases n with _ | n
                                  · rw [F_laws_FnRaces_L1] at h; cases h
                                  · rw [F_laws_FnRaces_L1] at h
                                    refine WP.seq ?_
                                    refine WP.seq ?_
                                    refine WP.path tab_ok mixed [] [.keep [255, 33, 13, 9, 4, 3, 2], .keepO [2003]] (ps := [(True)]) (e := .normal) (σ' := ⟨[2003], [(255, vb (decide (v33 < ((List.length r104 : Nat) : Int)))), (33, vi v33), (13, vl r104), (9, vl r68), (4, vl r42c), (3, V.ref 2003 0), (2, vb false)], [(2003, oc 28 [tl r42, ti r42b])]⟩) (by kernel_rfl) ⟨trivial, trivial⟩ ?_
                                    rcases ite_some h with ⟨h30, h⟩ | ⟨h30, h⟩
                                    · -- yes
                                      refine WP.cond (b := decide (v33 < ((List.length r104 : Nat) : Int))) rfl (fun _ => ?_) (fun hh => by rw [h30] at hh; cases hh)
                                      refine WP.path tab_ok mixed [] [.keep [33, 13, 9, 4, 3, 2], .keepO [2003]] (ps := []) (e := .normal) (σ' := ⟨[2003], [(33, vi v33), (13, vl r104), (9, vl r68), (4, vl r42c), (3, V.ref 2003 0), (2, vb false)], [(2003, oc 28 [tl r42, ti r42b])]⟩) (by kernel_rfl) trivial ?_
                                      refine WP.seq ?_
                                      refine WP.block ?_
                                      refine WP.seq ?_
                                      obtain ⟨c16, h⟩ := chk_some h
                                      obtain ⟨r265, r265b, c17, h⟩ := bnd2_some h
                                      refine WP.path tab_ok mixed [(264, An.v (ti (List.getD r104 (Int.toNat v33) 0))), (265, An.call (T.tup [tbl r265, tb r265b]))] [.keep [35, 34, 33, 13, 9, 4, 3, 2], .keepO [2003]] (ps := [(0 + 2 ≤ 2), ((0 ≤ v33 ∧ v33 < ((List.length r104 : Nat) : Int))), ((List.drop ((Int.toNat v33) * 1) (List.map (T.int .i64) r104) : List T)[0]? = some (ti (List.getD r104 (Int.toNat v33) 0))), (ti (List.getD r104 (Int.toNat v33) 0) = ti (List.getD r104 (Int.toNat v33) 0)), (C Try.prog 31 [T.agg [tl r42, ti r42b], tl r42c, ti (List.getD r104 (Int.toNat v33) 0)] (T.tup [tbl r265, tb r265b]))]) (e := .normal) (σ' := ⟨[2003], [(35, vb r265b), (34, vbl r265), (33, vi v33), (13, vl r104), (9, vl r68), (4, vl r42c), (3, V.ref 2003 0), (2, vb false)], [(2003, oc 28 [tl r42, ti r42b])]⟩) (by kernel_rfl) ⟨by decide, c16, at1 (by simp) (by omega), rfl, (F_impl_LosingAnswers_W_C r42 r42b r42c (List.getD r104 (Int.toNat v33) 0) r265 r265b c17), trivial⟩ ?_
                                      refine WP.seq ?_
                                      obtain ⟨r274, r274b, c18, h⟩ := bnd2_some h
                                      refine WP.path tab_ok mixed [(273, An.v (ti (List.getD r104 (Int.toNat v33) 0))), (274, An.call (T.tup [tb r274, tb r274b]))] [.keep [37, 36, 35, 34, 33, 13, 9, 4, 3, 2], .keepO [2003]] (ps := [(0 + 2 ≤ 2), ((0 ≤ v33 ∧ v33 < ((List.length r104 : Nat) : Int))), ((List.drop ((Int.toNat v33) * 1) (List.map (T.int .i64) r104) : List T)[0]? = some (ti (List.getD r104 (Int.toNat v33) 0))), (ti (List.getD r104 (Int.toNat v33) 0) = ti (List.getD r104 (Int.toNat v33) 0)), (C Try.prog 47 [T.agg [tl r42, ti r42b], ti (List.getD r104 (Int.toNat v33) 0)] (T.tup [tb r274, tb r274b]))]) (e := .normal) (σ' := ⟨[2003], [(37, vb r274b), (36, vb r274), (35, vb r265b), (34, vbl r265), (33, vi v33), (13, vl r104), (9, vl r68), (4, vl r42c), (3, V.ref 2003 0), (2, vb false)], [(2003, oc 28 [tl r42, ti r42b])]⟩) (by kernel_rfl) ⟨by decide, c16, at1 (by simp) (by omega), rfl, (F_impl_VainQuestion_W r42 r42b (List.getD r104 (Int.toNat v33) 0) r274 r274b c18), trivial⟩ ?_
                                      obtain ⟨J2, hJ2, h⟩ := jn_some h
                                      refine WP.joinA (fun (zz : Bool) => ⟨[2003], [(297, vb zz), (33, vi v33), (13, vl r104), (9, vl r68), (4, vl r42c), (3, V.ref 2003 0), (2, vb false)], [(2003, oc 28 [tl r42, ti r42b])]⟩) (fun zz => J2 zz = some y0) ?_ ?_
                                      · -- to where they meet
                                        rcases ite_some h with ⟨h31, h⟩ | ⟨h31, h⟩
                                        · -- yes
                                          refine WP.path tab_ok mixed [(279, An.b true)] [.keep [297, 33, 13, 9, 4, 3, 2], .keepO [2003], .names [(2003, 2003)]] (ps := [((!r265b) = true)]) (e := .normal) (σ' := ⟨[2003], [(297, vb true), (33, vi v33), (13, vl r104), (9, vl r68), (4, vl r42c), (3, V.ref 2003 0), (2, vb false)], [(2003, oc 28 [tl r42, ti r42b])]⟩) (by kernel_rfl) ⟨h31, trivial⟩ ?_
                                          exact ⟨(true), h, rfl⟩
                                        · -- no
                                          rcases ite_some h with ⟨h32, h⟩ | ⟨h32, h⟩
                                          · -- yes
                                            refine WP.path tab_ok mixed [(279, An.b false), (283, An.b true)] [.keep [297, 33, 13, 9, 4, 3, 2], .keepO [2003], .names [(2003, 2003)]] (ps := [((!r265b) = false), ((!r274b) = true)]) (e := .normal) (σ' := ⟨[2003], [(297, vb true), (33, vi v33), (13, vl r104), (9, vl r68), (4, vl r42c), (3, V.ref 2003 0), (2, vb false)], [(2003, oc 28 [tl r42, ti r42b])]⟩) (by kernel_rfl) ⟨h31, h32, trivial⟩ ?_
                                            exact ⟨(true), h, rfl⟩
                                          · -- no
                                            rcases ite_some h with ⟨h33, h⟩ | ⟨h33, h⟩
                                            · -- yes
                                              refine WP.path tab_ok mixed [(279, An.b false), (283, An.b false), (286, An.b true)] [.keep [297, 33, 13, 9, 4, 3, 2], .keepO [2003], .names [(2003, 2003)]] (ps := [((!r265b) = false), ((!r274b) = false), ((r274) = true)]) (e := .normal) (σ' := ⟨[2003], [(297, vb true), (33, vi v33), (13, vl r104), (9, vl r68), (4, vl r42c), (3, V.ref 2003 0), (2, vb false)], [(2003, oc 28 [tl r42, ti r42b])]⟩) (by kernel_rfl) ⟨h31, h32, h33, trivial⟩ ?_
                                              exact ⟨(true), h, rfl⟩
                                            · -- no
                                              obtain ⟨r295, c19, h⟩ := bnd1_some h
                                              refine WP.path tab_ok mixed [(279, An.b false), (283, An.b false), (286, An.b false), (294, An.v (ti (List.getD r104 (Int.toNat v33) 0))), (295, An.call (tb r295))] [.keep [297, 33, 13, 9, 4, 3, 2], .keepO [2003], .names [(2003, 2003)]] (ps := [((!r265b) = false), ((!r274b) = false), ((r274) = false), (True), ((0 ≤ v33 ∧ v33 < ((List.length r104 : Nat) : Int))), ((List.drop ((Int.toNat v33) * 1) (List.map (T.int .i64) r104) : List T)[0]? = some (ti (List.getD r104 (Int.toNat v33) 0))), (ti (List.getD r104 (Int.toNat v33) 0) = ti (List.getD r104 (Int.toNat v33) 0)), (C Try.prog 48 [tl r68, ti (List.getD r104 (Int.toNat v33) 0)] (tb r295)), (True)]) (e := .normal) (σ' := ⟨[2003], [(297, vb (!((((List.length r265 : Nat) : Int) == (0 : Int)) == r295))), (33, vi v33), (13, vl r104), (9, vl r68), (4, vl r42c), (3, V.ref 2003 0), (2, vb false)], [(2003, oc 28 [tl r42, ti r42b])]⟩) (by kernel_rfl) ⟨h31, h32, h33, trivial, c16, at1 (by simp) (by omega), rfl, (F_laws_rHas_W r68 (List.getD r104 (Int.toNat v33) 0) r295 c19), trivial, trivial⟩ ?_
                                              exact ⟨(!((((List.length r265 : Nat) : Int) == (0 : Int)) == r295)), h, rfl⟩
                                      · -- from there
                                        intro v297 h0
                                        have h := (show J2 v297 = some y0 from h0)
                                        rw [hJ2] at h
                                        rcases ite_some h with ⟨h34, h⟩ | ⟨h34, h⟩
                                        · -- yes
                                          refine WP.cond (b := v297) rfl (fun _ => ?_) (fun hh => by rw [h34] at hh; cases hh)
                                          have h := Option.some.inj h
                                          subst h
                                          exact WP.pathW tab_ok mixed [] _ (ps := []) (r := tb false) (by kernel_rfl) trivial (WkT.eq (y := tb false) (WkT.refl _) rfl) (fun _ h => h)
                                        · -- no
                                          refine WP.cond (b := v297) rfl (fun hh => by rw [h34] at hh; cases hh) (fun _ => ?_)
                                          refine WP.path tab_ok mixed [] [.keep [33, 13, 9, 4, 3, 2], .keepO [2003]] (ps := []) (e := .normal) (σ' := ⟨[2003], [(33, vi v33), (13, vl r104), (9, vl r68), (4, vl r42c), (3, V.ref 2003 0), (2, vb false)], [(2003, oc 28 [tl r42, ti r42b])]⟩) (by kernel_rfl) trivial ?_
                                          obtain ⟨c19, h⟩ := chk_some h
                                          refine WP.path tab_ok mixed [(257, An.v (T.int .i64 (v33 + (1 : Int))))] [.keep [33, 13, 9, 4, 3, 2], .keepO [2003], .names [(2003, 2003)]] (ps := [(True), (T.int .i64 (IntKind.wrap .i64 (v33 + (1 : Int))) = T.int .i64 (v33 + (1 : Int)))]) (e := .normal) (σ' := ⟨[2003], [(33, vi (v33 + (1 : Int))), (13, vl r104), (9, vl r68), (4, vl r42c), (3, V.ref 2003 0), (2, vb false)], [(2003, oc 28 [tl r42, ti r42b])]⟩) (by kernel_rfl) ⟨trivial, wrapI c19, trivial⟩ ?_
                                          exact ⟨(n, (v33 + (1 : Int))), h, Nat.lt_succ_self _, rfl⟩
                                    · -- no
                                      refine WP.cond (b := decide (v33 < ((List.length r104 : Nat) : Int))) rfl (fun hh => by rw [h30] at hh; cases hh) (fun _ => ?_)
                                      refine WP.path tab_ok mixed [] [.keep [2], .keepO [], .names []] (ps := []) (e := (.exit 0)) (σ' := ⟨[], [(2, vb false)], []⟩) (by kernel_rfl) trivial ?_
                                      exact ⟨(), h, rfl⟩
                                · -- from there
                                  intro _ h0
                                  have h := (show J1 () = some y0 from h0)
                                  rw [hJ1] at h
                                  have h := Option.some.inj h
                                  subst h
                                  exact WP.pathW tab_ok mixed [] _ (ps := []) (r := tb true) (by kernel_rfl) trivial (WkT.eq (y := tb true) (WkT.refl _) rfl) (fun _ h => h)

end Go.Proofs.Ytnpdbllidpijfaa.AuRaces
