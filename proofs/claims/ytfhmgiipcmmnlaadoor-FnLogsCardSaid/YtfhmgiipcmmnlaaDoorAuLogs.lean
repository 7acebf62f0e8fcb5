/-
  The walks: each function of the program returns what the plain function beside it returns. No statement is proved here.
-/
import Derived.Test.YtfhmgiipcmmnlaaDoorTlGroupc

import Derived.Test.YtfhmgiipcmmnlaaDoorAuLogsF
import Derived.Test.YtfhmgiipcmmnlaaDoorProg
import Derived.Test.YtfhmgiipcmmnlaaDoorAuLogsO
import Derived.Test.YtfhmgiipcmmnlaaDoorAuLogsa
namespace Go.Proofs.YtfhmgiipcmmnlaaDoor.AuLogs
open Go Go.Tl Go.Proofs
open Go.Proofs.YtfhmgiipcmmnlaaDoor.AuLogsO hiding tab tab_ok mixed
open Go.Proofs.YtfhmgiipcmmnlaaDoor.AuLogsa hiding tab tab_ok mixed
set_option linter.unusedVariables false
set_option linter.unusedSimpArgs false
set_option maxRecDepth 100000
def tab : Tab := [(3, ⟨.int .i64, 1, 8, [.int .i64 0]⟩), (4, ⟨.bool, 1, 1, [.bool false]⟩), (5, ⟨.int .u8, 1, 1, [.int .u8 0]⟩), (9, ⟨.string, 1, 16, [.str ⟨#[]⟩]⟩), (27, ⟨.struct [(0, 1, false), (1, 1, false)], 2, 32, [.str ⟨#[]⟩, .str ⟨#[]⟩]⟩), (31, ⟨.struct [(0, 1, false), (1, 1, false), (2, 1, false)], 3, 40, [.str ⟨#[]⟩, .str ⟨#[]⟩, .int .i64 0]⟩), (48, ⟨.slice 27 2 32, 1, 24, [.nils]⟩), (65, ⟨.slice 5 1 1, 1, 24, [.nils]⟩), (77, ⟨.slice 90 2 16, 1, 24, [.nils]⟩), (80, ⟨.slice 3 1 8, 1, 24, [.nils]⟩), (82, ⟨.struct [(0, 1, false), (1, 1, false)], 2, 32, [.nils, .int .i64 0]⟩), (90, ⟨.struct [(0, 1, false), (1, 1, false)], 2, 16, [.int .i64 0, .bool false]⟩), (124, ⟨.pointer 127, 1, 8, [.nilp]⟩), (125, ⟨.int .u64, 1, 8, [.int .u64 0]⟩), (127, ⟨.struct [(0, 1, false), (1, 1, false), (2, 1, false)], 3, 40, [.nils, .int .i64 0, .int .u64 0]⟩), (158, ⟨.slice 9 1 16, 1, 24, [.nils]⟩)]
theorem tab_ok : chkTab Tryd.prog tab = true := by kernel_rfl
theorem mixed : Tryd.prog.follows .mixedOrders = true := by kernel_rfl
theorem F_laws_vRecords_W (x0 : List (ByteArray × ByteArray)) (x1 : List (ByteArray × ByteArray)) (y0 : Bool) (h : F_laws_vRecords x0 x1 = some y0) : C Tryd.prog 48 [T.list (List.length x0) 2 (List.flatMap recsC x0), T.list (List.length x1) 2 (List.flatMap recsC x1)] (tb y0) := by
  unfold F_laws_vRecords at h
  refine C.intro (tab := tab) tab_ok (fn := Tryd.f48) Tryd.func48 (by kernel_rfl) rfl (Nat.le_of_ble_eq_true rfl) ?_
  refine WP.seq ?_
  refine WP.path tab_ok mixed [] [.keep [4, 0, 1], .keepO []] (ps := []) (e := .normal) (σ' := ⟨[], [(4, vb false), (0, V.t (T.list (List.length x0) 2 (List.flatMap recsC x0))), (1, V.t (T.list (List.length x1) 2 (List.flatMap recsC x1)))], []⟩) (by kernel_rfl) trivial ?_
  refine WP.seq ?_
  refine WP.seq ?_
  refine WP.path tab_ok mixed [] [.keep [10, 4, 0, 1], .keepO []] (ps := [(True)]) (e := .normal) (σ' := ⟨[], [(10, vb (((List.length x0 : Nat) : Int) != ((List.length x1 : Nat) : Int))), (4, vb false), (0, V.t (T.list (List.length x0) 2 (List.flatMap recsC x0))), (1, V.t (T.list (List.length x1) 2 (List.flatMap recsC x1)))], []⟩) (by kernel_rfl) ⟨trivial, trivial⟩ ?_
  rcases ite_some h with ⟨h1, h⟩ | ⟨h1, h⟩
  · -- yes
    refine WP.cond (b := ((List.length x0 : Nat) : Int) != ((List.length x1 : Nat) : Int)) rfl (fun _ => ?_) (fun hh => by rw [h1] at hh; cases hh)
    have h := Option.some.inj h
    subst h
    exact WP.pathW tab_ok mixed [] _ (ps := []) (r := tb false) (by kernel_rfl) trivial (WkT.eq (y := tb false) (WkT.refl _) rfl) (fun _ h => h)
  · -- no
    refine WP.cond (b := ((List.length x0 : Nat) : Int) != ((List.length x1 : Nat) : Int)) rfl (fun hh => by rw [h1] at hh; cases hh) (fun _ => ?_)
    refine WP.path tab_ok mixed [] [.keep [4, 0, 1], .keepO []] (ps := []) (e := .normal) (σ' := ⟨[], [(4, vb false), (0, V.t (T.list (List.length x0) 2 (List.flatMap recsC x0))), (1, V.t (T.list (List.length x1) 2 (List.flatMap recsC x1)))], []⟩) (by kernel_rfl) trivial ?_
    obtain ⟨J1, hJ1, h⟩ := jn_some h
    refine WP.joinA (fun (zz : Unit) => ⟨[], [(4, vb false)], []⟩) (fun zz => J1 () = some y0) ?_ ?_
    · -- to where they meet
      refine WP.seq ?_
      refine WP.path tab_ok mixed [] [.keep [5, 4, 0, 1], .keepO []] (ps := []) (e := .normal) (σ' := ⟨[], [(5, vi 0), (4, vb false), (0, V.t (T.list (List.length x0) 2 (List.flatMap recsC x0))), (1, V.t (T.list (List.length x1) 2 (List.flatMap recsC x1)))], []⟩) (by kernel_rfl) trivial ?_
      refine WP.block ?_
      refine WP.wk [.keep [5, 4, 0, 1], .keepO [], .names []] (σ' := ⟨[], [(5, vi 0), (4, vb false), (0, V.t (T.list (List.length x0) 2 (List.flatMap recsC x0))), (1, V.t (T.list (List.length x1) 2 (List.flatMap recsC x1)))], []⟩) (ps := []) (by kernel_rfl) trivial ?_
      refine WP.st (σ' := ⟨[], [(5, vi (0 : Int)), (4, vb false), (0, V.t (T.list (List.length x0) 2 (List.flatMap recsC x0))), (1, V.t (T.list (List.length x1) 2 (List.flatMap recsC x1)))], []⟩) (by first | rfl | (simp only [tlS, tl, vl, vo, oc, ov, tbl, vbl, ty, vy] <;> rfl) | (simp <;> omega) | (simp []; done) | (rw [List.take_of_length_le (by simp [])] <;> rfl) | (simp [List.take_of_length_le]; done)) ?_
      refine WP.loop (α := Nat × Int) (fun zz => ⟨[], [(5, vi zz.2), (4, vb false), (0, V.t (T.list (List.length x0) 2 (List.flatMap recsC x0))), (1, V.t (T.list (List.length x1) 2 (List.flatMap recsC x1)))], []⟩) (fun zz => F_laws_vRecords_L1 x0 x1 J1 zz.1 zz.2 = some y0) (fun zz => zz.1) (fuel, (0 : Int)) h ?_
      rintro ⟨n, v5⟩ h0
      have h := (show F_laws_vRecords_L1 x0 x1 J1 n v5 = some y0 from h0)
      rcases n with _ | n
      · rw [F_laws_vRecords_L1] at h; cases h
      · rw [F_laws_vRecords_L1] at h
        refine WP.seq ?_
        refine WP.seq ?_
        refine WP.path tab_ok mixed [] [.keep [14, 5, 4, 0, 1], .keepO []] (ps := [(True)]) (e := .normal) (σ' := ⟨[], [(14, vb (decide (v5 < ((List.length x0 : Nat) : Int)))), (5, vi v5), (4, vb false), (0, V.t (T.list (List.length x0) 2 (List.flatMap recsC x0))), (1, V.t (T.list (List.length x1) 2 (List.flatMap recsC x1)))], []⟩) (by kernel_rfl) ⟨trivial, trivial⟩ ?_
        rcases ite_some h with ⟨h2, h⟩ | ⟨h2, h⟩
        · -- yes
          refine WP.cond (b := decide (v5 < ((List.length x0 : Nat) : Int))) rfl (fun _ => ?_) (fun hh => by rw [h2] at hh; cases hh)
          refine WP.path tab_ok mixed [] [.keep [5, 4, 0, 1], .keepO []] (ps := []) (e := .normal) (σ' := ⟨[], [(5, vi v5), (4, vb false), (0, V.t (T.list (List.length x0) 2 (List.flatMap recsC x0))), (1, V.t (T.list (List.length x1) 2 (List.flatMap recsC x1)))], []⟩) (by kernel_rfl) trivial ?_
          refine WP.seq ?_
          refine WP.block ?_
          refine WP.seq ?_
          obtain ⟨c0, h⟩ := chk_some h
          obtain ⟨c1, h⟩ := chk_some h
          obtain ⟨n25, c2, h⟩ := nam_some h
          refine WP.path tab_ok mixed [(20, An.v (T.agg [T.str ((List.getD x0 (Int.toNat v5) (ByteArray.empty, ByteArray.empty)).1), T.str ((List.getD x0 (Int.toNat v5) (ByteArray.empty, ByteArray.empty)).2)])), (24, An.v (T.agg [T.str ((List.getD x1 (Int.toNat v5) (ByteArray.empty, ByteArray.empty)).1), T.str ((List.getD x1 (Int.toNat v5) (ByteArray.empty, ByteArray.empty)).2)])), (25, An.v (tb n25))] [.keep [25, 5, 4, 0, 1], .keepO []] (ps := [((0 ≤ v5 ∧ v5 < ((List.length x0 : Nat) : Int))), (2 ≤ List.length (List.drop ((Int.toNat v5) * 2) (List.flatMap recsC x0))), (T.agg (List.take 2 (List.drop ((Int.toNat v5) * 2) (List.flatMap recsC x0))) = T.agg [T.str ((List.getD x0 (Int.toNat v5) (ByteArray.empty, ByteArray.empty)).1), T.str ((List.getD x0 (Int.toNat v5) (ByteArray.empty, ByteArray.empty)).2)]), ((0 ≤ v5 ∧ v5 < ((List.length x1 : Nat) : Int))), (2 ≤ List.length (List.drop ((Int.toNat v5) * 2) (List.flatMap recsC x1))), (T.agg (List.take 2 (List.drop ((Int.toNat v5) * 2) (List.flatMap recsC x1))) = T.agg [T.str ((List.getD x1 (Int.toNat v5) (ByteArray.empty, ByteArray.empty)).1), T.str ((List.getD x1 (Int.toNat v5) (ByteArray.empty, ByteArray.empty)).2)]), (chkEq Tryd.prog 27 [T.str ((List.getD x0 (Int.toNat v5) (ByteArray.empty, ByteArray.empty)).1), T.str ((List.getD x0 (Int.toNat v5) (ByteArray.empty, ByteArray.empty)).2)] = true), (tb (!((((List.getD x0 (Int.toNat v5) (ByteArray.empty, ByteArray.empty)).1).toList == ((List.getD x1 (Int.toNat v5) (ByteArray.empty, ByteArray.empty)).1).toList) && ((((List.getD x0 (Int.toNat v5) (ByteArray.empty, ByteArray.empty)).2).toList == ((List.getD x1 (Int.toNat v5) (ByteArray.empty, ByteArray.empty)).2).toList) && (true)))) = tb n25)]) (e := .normal) (σ' := ⟨[], [(25, vb n25), (5, vi v5), (4, vb false), (0, V.t (T.list (List.length x0) 2 (List.flatMap recsC x0))), (1, V.t (T.list (List.length x1) 2 (List.flatMap recsC x1)))], []⟩) (by kernel_rfl) ⟨c0, fit_recs (i := Int.toNat v5) (by simp) (by omega), at_recs (by simp) (by omega), c1, fit_recs (i := Int.toNat v5) (by simp) (by omega), at_recs (by simp) (by omega), by kernel_rfl, congrArg (tb) c2, trivial⟩ ?_
          rcases ite_some h with ⟨h3, h⟩ | ⟨h3, h⟩
          · -- yes
            refine WP.cond (b := n25) rfl (fun _ => ?_) (fun hh => by rw [h3] at hh; cases hh)
            have h := Option.some.inj h
            subst h
            exact WP.pathW tab_ok mixed [] _ (ps := []) (r := tb false) (by kernel_rfl) trivial (WkT.eq (y := tb false) (WkT.refl _) rfl) (fun _ h => h)
          · -- no
            refine WP.cond (b := n25) rfl (fun hh => by rw [h3] at hh; cases hh) (fun _ => ?_)
            refine WP.path tab_ok mixed [] [.keep [5, 4, 0, 1], .keepO []] (ps := []) (e := .normal) (σ' := ⟨[], [(5, vi v5), (4, vb false), (0, V.t (T.list (List.length x0) 2 (List.flatMap recsC x0))), (1, V.t (T.list (List.length x1) 2 (List.flatMap recsC x1)))], []⟩) (by kernel_rfl) trivial ?_
            obtain ⟨c3, h⟩ := chk_some h
            refine WP.path tab_ok mixed [(16, An.v (T.int .i64 (v5 + (1 : Int))))] [.keep [5, 4, 0, 1], .keepO [], .names []] (ps := [(True), (T.int .i64 (IntKind.wrap .i64 (v5 + (1 : Int))) = T.int .i64 (v5 + (1 : Int)))]) (e := .normal) (σ' := ⟨[], [(5, vi (v5 + (1 : Int))), (4, vb false), (0, V.t (T.list (List.length x0) 2 (List.flatMap recsC x0))), (1, V.t (T.list (List.length x1) 2 (List.flatMap recsC x1)))], []⟩) (by kernel_rfl) ⟨trivial, wrapI c3, trivial⟩ ?_
            exact ⟨(n, (v5 + (1 : Int))), h, Nat.lt_succ_self _, rfl⟩
        · -- no
          refine WP.cond (b := decide (v5 < ((List.length x0 : Nat) : Int))) rfl (fun hh => by rw [h2] at hh; cases hh) (fun _ => ?_)
          refine WP.path tab_ok mixed [] [.keep [4], .keepO [], .names []] (ps := []) (e := (.exit 0)) (σ' := ⟨[], [(4, vb false)], []⟩) (by kernel_rfl) trivial ?_
          exact ⟨(), h, rfl⟩
    · -- from there
      intro _ h0
      have h := (show J1 () = some y0 from h0)
      rw [hJ1] at h
      have h := Option.some.inj h
      subst h
      exact WP.pathW tab_ok mixed [] _ (ps := []) (r := tb true) (by kernel_rfl) trivial (WkT.eq (y := tb true) (WkT.refl _) rfl) (fun _ h => h)
theorem F_laws_FnLogs_W (x0 : List Int) (y0 : Bool) (h : F_laws_FnLogs x0 = some y0) : C Tryd.prog 11 [ty x0] (tb y0) := by
  unfold F_laws_FnLogs at h
  refine C.intro (tab := tab) tab_ok (fn := Tryd.f11) Tryd.func11 (by kernel_rfl) rfl (Nat.le_of_ble_eq_true rfl) ?_
  refine WP.seq ?_
  refine WP.path tab_ok mixed [] [.keep [2, 0], .keepO []] (ps := []) (e := .normal) (σ' := ⟨[], [(2, vb false), (0, vy x0)], []⟩) (by kernel_rfl) trivial ?_
  refine WP.seq ?_
  refine WP.seq ?_
  obtain ⟨c0, h⟩ := chk_some h
  refine WP.path tab_ok mixed [(30, An.call (tb (decide (((List.length x0 : Nat) : Int) > (65536 : Int)))))] [.keep [30, 2, 0], .keepO []] (ps := [(C Tryd.prog 40 [ty x0] (tb (decide (((List.length x0 : Nat) : Int) > (65536 : Int)))))]) (e := .normal) (σ' := ⟨[], [(30, vb (decide (((List.length x0 : Nat) : Int) > (65536 : Int)))), (2, vb false), (0, vy x0)], []⟩) (by kernel_rfl) ⟨(vBig_C x0 c0), trivial⟩ ?_
  rcases ite_some h with ⟨h1, h⟩ | ⟨h1, h⟩
  · -- yes
    refine WP.cond (b := decide (((List.length x0 : Nat) : Int) > (65536 : Int))) rfl (fun _ => ?_) (fun hh => by rw [h1] at hh; cases hh)
    have h := Option.some.inj h
    subst h
    exact WP.pathW tab_ok mixed [] _ (ps := []) (r := tb true) (by kernel_rfl) trivial (WkT.eq (y := tb true) (WkT.refl _) rfl) (fun _ h => h)
  · -- no
    refine WP.cond (b := decide (((List.length x0 : Nat) : Int) > (65536 : Int))) rfl (fun hh => by rw [h1] at hh; cases hh) (fun _ => ?_)
    refine WP.path tab_ok mixed [] [.keep [2, 0], .keepO []] (ps := []) (e := .normal) (σ' := ⟨[], [(2, vb false), (0, vy x0)], []⟩) (by kernel_rfl) trivial ?_
    refine WP.seq ?_
    obtain ⟨r32, r32b, c1, h⟩ := bnd2_some h
    refine WP.path tab_ok mixed [(32, An.call (T.agg [T.str r32, T.str r32b])), (3, An.id 2003)] [.keep [3, 2, 0], .keepO [2003]] (ps := [(C Tryd.prog 41 [ty x0] (T.agg [T.str r32, T.str r32b])), ((0 + 2 ≤ 2 ∧ 2 = 2))]) (e := .normal) (σ' := ⟨[2003], [(3, V.ref 2003 0), (2, vb false), (0, vy x0)], [(2003, oc 27 [T.str r32, T.str r32b])]⟩) (by kernel_rfl) ⟨(F_spec_DrawIsValidRecord_W x0 r32 r32b c1), by decide, trivial⟩ ?_
    refine WP.seq ?_
    obtain ⟨c2, h⟩ := chk_some h
    obtain ⟨r36, r36b, r36c, c3, h⟩ := bnd3_some h
    refine WP.path tab_ok mixed [(35, An.call (ty (cutY x0 (1 : Int)))), (36, An.call (T.tup [ti r36, T.agg [T.str r36b, T.str r36c]])), (5, An.id 2005)] [.keep [4, 5, 3, 2, 0], .keepO [2003, 2005]] (ps := [(C Tryd.prog 43 [ty x0, ti 1] (ty (cutY x0 (1 : Int)))), (C Tryd.prog 42 [ty (cutY x0 (1 : Int))] (T.tup [ti r36, T.agg [T.str r36b, T.str r36c]])), ((0 + 2 ≤ 2 ∧ 2 = 2))]) (e := .normal) (σ' := ⟨[2005, 2003], [(4, vi r36), (5, V.ref 2005 0), (3, V.ref 2003 0), (2, vb false), (0, vy x0)], [(2003, oc 27 [T.str r32, T.str r32b]), (2005, oc 27 [T.str r36b, T.str r36c])]⟩) (by kernel_rfl) ⟨(by have hh := (vCut_C x0 (1 : Int) (show 0 ≤ (1 : Int) by first | decide | (simp only [maxLen]; omega) | (unfold I64; omega) | (unfold I64; decide)) (show (1 : Int) ≤ 255 by first | decide | (simp only [maxLen]; omega) | (unfold I64; omega) | (unfold I64; decide)) c2); first | exact hh | simpa using hh), (F_spec_DrawEncodeRecord_W (cutY x0 (1 : Int)) r36 r36b r36c c3), by decide, trivial⟩ ?_
    refine WP.seq ?_
    obtain ⟨r42, r42b, c4, h⟩ := bnd2_some h
    refine WP.path tab_ok mixed [(42, An.call (T.tup [T.str r42, tb r42b]))] [.keep [7, 6, 4, 5, 3, 2, 0], .keepO [2003, 2005]] (ps := [(0 + 2 ≤ 2), (C Tryd.prog 17 [ti r36, T.agg [T.str r36b, T.str r36c]] (T.tup [T.str r42, tb r42b]))]) (e := .normal) (σ' := ⟨[2005, 2003], [(7, vb r42b), (6, V.t (T.str r42)), (4, vi r36), (5, V.ref 2005 0), (3, V.ref 2003 0), (2, vb false), (0, vy x0)], [(2003, oc 27 [T.str r32, T.str r32b]), (2005, oc 27 [T.str r36b, T.str r36c])]⟩) (by kernel_rfl) ⟨by decide, (F_impl_EncodeRecord_W r36 r36b r36c r42 r42b c4), trivial⟩ ?_
    refine WP.seq ?_
    obtain ⟨r48, r48b, c5, h⟩ := bnd2_some h
    refine WP.path tab_ok mixed [(48, An.call (T.tup [T.str r48, tb r48b]))] [.keep [9, 8, 7, 6, 3, 2, 0], .keepO [2003]] (ps := [(0 + 2 ≤ 2), (C Tryd.prog 15 [ti r36, T.agg [T.str r36b, T.str r36c]] (T.tup [T.str r48, tb r48b]))]) (e := .normal) (σ' := ⟨[2005, 2003], [(9, vb r48b), (8, V.t (T.str r48)), (7, vb r42b), (6, V.t (T.str r42)), (3, V.ref 2003 0), (2, vb false), (0, vy x0)], [(2003, oc 27 [T.str r32, T.str r32b])]⟩) (by kernel_rfl) ⟨by decide, (F_spec_EncodeRecord_W r36 r36b r36c r48 r48b c5), trivial⟩ ?_
    refine WP.seq ?_
    obtain ⟨r53, r53b, r53c, c6, h⟩ := bnd3_some h
    refine WP.path tab_ok mixed [(52, An.call (ty (cutY x0 (2 : Int)))), (53, An.call (T.agg [T.str r53, T.str r53b, ti r53c])), (10, An.id 2010)] [.keep [10, 9, 8, 7, 6, 3, 2, 0], .keepO [2003, 2010]] (ps := [(C Tryd.prog 43 [ty x0, ti 2] (ty (cutY x0 (2 : Int)))), (C Tryd.prog 44 [ty (cutY x0 (2 : Int))] (T.agg [T.str r53, T.str r53b, ti r53c])), ((0 + 3 ≤ 3 ∧ 3 = 3))]) (e := .normal) (σ' := ⟨[2010, 2005, 2003], [(10, V.ref 2010 0), (9, vb r48b), (8, V.t (T.str r48)), (7, vb r42b), (6, V.t (T.str r42)), (3, V.ref 2003 0), (2, vb false), (0, vy x0)], [(2003, oc 27 [T.str r32, T.str r32b]), (2010, oc 31 [T.str r53, T.str r53b, ti r53c])]⟩) (by kernel_rfl) ⟨(by have hh := (vCut_C x0 (2 : Int) (show 0 ≤ (2 : Int) by first | decide | (simp only [maxLen]; omega) | (unfold I64; omega) | (unfold I64; decide)) (show (2 : Int) ≤ 255 by first | decide | (simp only [maxLen]; omega) | (unfold I64; omega) | (unfold I64; decide)) c2); first | exact hh | simpa using hh), (F_spec_DrawIsValidLog_W (cutY x0 (2 : Int)) r53 r53b r53c c6), by decide, trivial⟩ ?_
    refine WP.seq ?_
    obtain ⟨r57, r57b, r57c, r57d, r57e, c7, h⟩ := bnd5_some h
    refine WP.path tab_ok mixed [(56, An.call (ty (cutY x0 (3 : Int)))), (57, An.call (T.tup [T.agg [T.str r57, T.str r57b, ti r57c], T.agg [T.str r57d, T.str r57e]])), (11, An.id 2011), (12, An.id 2012)] [.keep [12, 11, 10, 9, 8, 7, 6, 3, 2], .keepO [2003, 2010, 2011, 2012]] (ps := [(C Tryd.prog 43 [ty x0, ti 3] (ty (cutY x0 (3 : Int)))), (C Tryd.prog 45 [ty (cutY x0 (3 : Int))] (T.tup [T.agg [T.str r57, T.str r57b, ti r57c], T.agg [T.str r57d, T.str r57e]])), ((0 + 3 ≤ 3 ∧ 3 = 3)), ((0 + 2 ≤ 2 ∧ 2 = 2))]) (e := .normal) (σ' := ⟨[2012, 2011, 2010, 2005, 2003], [(12, V.ref 2012 0), (11, V.ref 2011 0), (10, V.ref 2010 0), (9, vb r48b), (8, V.t (T.str r48)), (7, vb r42b), (6, V.t (T.str r42)), (3, V.ref 2003 0), (2, vb false)], [(2003, oc 27 [T.str r32, T.str r32b]), (2010, oc 31 [T.str r53, T.str r53b, ti r53c]), (2011, oc 31 [T.str r57, T.str r57b, ti r57c]), (2012, oc 27 [T.str r57d, T.str r57e])]⟩) (by kernel_rfl) ⟨(by have hh := (vCut_C x0 (3 : Int) (show 0 ≤ (3 : Int) by first | decide | (simp only [maxLen]; omega) | (unfold I64; omega) | (unfold I64; decide)) (show (3 : Int) ≤ 255 by first | decide | (simp only [maxLen]; omega) | (unfold I64; omega) | (unfold I64; decide)) c2); first | exact hh | simpa using hh), (F_spec_DrawAppendRecord_W (cutY x0 (3 : Int)) r57 r57b r57c r57d r57e c7), by decide, by decide, trivial⟩ ?_
    refine WP.seq ?_
    obtain ⟨r63, r63b, r63c, r63d, c8, h⟩ := bnd4_some h
    refine WP.path tab_ok mixed [(63, An.call (T.tup [T.agg [T.str r63, T.str r63b, ti r63c], ti r63d])), (13, An.id 2013)] [.keep [14, 13, 12, 11, 10, 9, 8, 7, 6, 3, 2], .keepO [2003, 2010, 2011, 2012, 2013]] (ps := [(0 + 3 ≤ 3), (0 + 2 ≤ 2), (C Tryd.prog 30 [T.agg [T.str r57, T.str r57b, ti r57c], T.agg [T.str r57d, T.str r57e]] (T.tup [T.agg [T.str r63, T.str r63b, ti r63c], ti r63d])), ((0 + 3 ≤ 3 ∧ 3 = 3))]) (e := .normal) (σ' := ⟨[2013, 2012, 2011, 2010, 2005, 2003], [(14, vi r63d), (13, V.ref 2013 0), (12, V.ref 2012 0), (11, V.ref 2011 0), (10, V.ref 2010 0), (9, vb r48b), (8, V.t (T.str r48)), (7, vb r42b), (6, V.t (T.str r42)), (3, V.ref 2003 0), (2, vb false)], [(2003, oc 27 [T.str r32, T.str r32b]), (2010, oc 31 [T.str r53, T.str r53b, ti r53c]), (2011, oc 31 [T.str r57, T.str r57b, ti r57c]), (2012, oc 27 [T.str r57d, T.str r57e]), (2013, oc 31 [T.str r63, T.str r63b, ti r63c])]⟩) (by kernel_rfl) ⟨by decide, by decide, (F_impl_AppendRecord_W r57 r57b r57c r57d r57e r63 r63b r63c r63d c8), by decide, trivial⟩ ?_
    refine WP.seq ?_
    obtain ⟨r69, r69b, r69c, r69d, c9, h⟩ := bnd4_some h
    refine WP.path tab_ok mixed [(69, An.call (T.tup [T.agg [T.str r69, T.str r69b, ti r69c], ti r69d])), (15, An.id 2015)] [.keep [16, 15, 14, 13, 12, 11, 10, 9, 8, 7, 6, 3, 2], .keepO [2003, 2010, 2011, 2012, 2013, 2015]] (ps := [(0 + 3 ≤ 3), (0 + 2 ≤ 2), (C Tryd.prog 29 [T.agg [T.str r57, T.str r57b, ti r57c], T.agg [T.str r57d, T.str r57e]] (T.tup [T.agg [T.str r69, T.str r69b, ti r69c], ti r69d])), ((0 + 3 ≤ 3 ∧ 3 = 3))]) (e := .normal) (σ' := ⟨[2015, 2013, 2012, 2011, 2010, 2005, 2003], [(16, vi r69d), (15, V.ref 2015 0), (14, vi r63d), (13, V.ref 2013 0), (12, V.ref 2012 0), (11, V.ref 2011 0), (10, V.ref 2010 0), (9, vb r48b), (8, V.t (T.str r48)), (7, vb r42b), (6, V.t (T.str r42)), (3, V.ref 2003 0), (2, vb false)], [(2003, oc 27 [T.str r32, T.str r32b]), (2010, oc 31 [T.str r53, T.str r53b, ti r53c]), (2011, oc 31 [T.str r57, T.str r57b, ti r57c]), (2012, oc 27 [T.str r57d, T.str r57e]), (2013, oc 31 [T.str r63, T.str r63b, ti r63c]), (2015, oc 31 [T.str r69, T.str r69b, ti r69c])]⟩) (by kernel_rfl) ⟨by decide, by decide, (F_spec_AppendRecord_W r57 r57b r57c r57d r57e r69 r69b r69c r69d c9), by decide, trivial⟩ ?_
    refine WP.seq ?_
    obtain ⟨J1, hJ1, h⟩ := jn_some h
    refine WP.joinA (fun (zz : Bool) => ⟨[2011, 2012, 2013], [(103, vb zz), (14, vi r63d), (13, V.ref 2013 0), (12, V.ref 2012 0), (11, V.ref 2011 0), (2, vb false)], [(2011, oc 31 [T.str r57, T.str r57b, ti r57c]), (2012, oc 27 [T.str r57d, T.str r57e]), (2013, oc 31 [T.str r63, T.str r63b, ti r63c])]⟩) (fun zz => J1 zz = some y0) ?_ ?_
    · -- to where they meet
      obtain ⟨c10, h⟩ := chk_some h
      obtain ⟨c11, h⟩ := chk_some h
      rcases ite_some h with ⟨h2, h⟩ | ⟨h2, h⟩
      · -- yes
        refine WP.path tab_ok mixed [(73, An.call (tb (isValidRecordN r32 r32b))), (75, An.call (tb (l12RecordN r32 r32b))), (76, An.b true)] [.keep [103, 14, 13, 12, 11, 2], .keepO [2011, 2012, 2013], .names [(2011, 2011), (2012, 2012), (2013, 2013)]] (ps := [(0 + 2 ≤ 2), (C Tryd.prog 46 [T.agg [T.str r32, T.str r32b]] (tb (isValidRecordN r32 r32b))), (0 + 2 ≤ 2), (C Tryd.prog 47 [T.agg [T.str r32, T.str r32b]] (tb (l12RecordN r32 r32b))), (True), ((!((isValidRecordN r32 r32b) == (l12RecordN r32 r32b))) = true)]) (e := .normal) (σ' := ⟨[2011, 2012, 2013], [(103, vb true), (14, vi r63d), (13, V.ref 2013 0), (12, V.ref 2012 0), (11, V.ref 2011 0), (2, vb false)], [(2011, oc 31 [T.str r57, T.str r57b, ti r57c]), (2012, oc 27 [T.str r57d, T.str r57e]), (2013, oc 31 [T.str r63, T.str r63b, ti r63c])]⟩) (by kernel_rfl) ⟨by decide, (iIsValidRecord_C r32 r32b c10 c11), by decide, (sIsValidRecord_C r32 r32b c10 c11), trivial, h2, trivial⟩ ?_
        exact ⟨(true), h, rfl⟩
      · -- no
        rcases ite_some h with ⟨h3, h⟩ | ⟨h3, h⟩
        · -- yes
          refine WP.path tab_ok mixed [(73, An.call (tb (isValidRecordN r32 r32b))), (75, An.call (tb (l12RecordN r32 r32b))), (76, An.b false), (80, An.b true)] [.keep [103, 14, 13, 12, 11, 2], .keepO [2011, 2012, 2013], .names [(2011, 2011), (2012, 2012), (2013, 2013)]] (ps := [(0 + 2 ≤ 2), (C Tryd.prog 46 [T.agg [T.str r32, T.str r32b]] (tb (isValidRecordN r32 r32b))), (0 + 2 ≤ 2), (C Tryd.prog 47 [T.agg [T.str r32, T.str r32b]] (tb (l12RecordN r32 r32b))), (True), ((!((isValidRecordN r32 r32b) == (l12RecordN r32 r32b))) = false), (True), ((!(r42.toList == r48.toList)) = true)]) (e := .normal) (σ' := ⟨[2011, 2012, 2013], [(103, vb true), (14, vi r63d), (13, V.ref 2013 0), (12, V.ref 2012 0), (11, V.ref 2011 0), (2, vb false)], [(2011, oc 31 [T.str r57, T.str r57b, ti r57c]), (2012, oc 27 [T.str r57d, T.str r57e]), (2013, oc 31 [T.str r63, T.str r63b, ti r63c])]⟩) (by kernel_rfl) ⟨by decide, (iIsValidRecord_C r32 r32b c10 c11), by decide, (sIsValidRecord_C r32 r32b c10 c11), trivial, h2, trivial, h3, trivial⟩ ?_
          exact ⟨(true), h, rfl⟩
        · -- no
          rcases ite_some h with ⟨h4, h⟩ | ⟨h4, h⟩
          · -- yes
            refine WP.path tab_ok mixed [(73, An.call (tb (isValidRecordN r32 r32b))), (75, An.call (tb (l12RecordN r32 r32b))), (76, An.b false), (80, An.b false), (85, An.b true)] [.keep [103, 14, 13, 12, 11, 2], .keepO [2011, 2012, 2013], .names [(2011, 2011), (2012, 2012), (2013, 2013)]] (ps := [(0 + 2 ≤ 2), (C Tryd.prog 46 [T.agg [T.str r32, T.str r32b]] (tb (isValidRecordN r32 r32b))), (0 + 2 ≤ 2), (C Tryd.prog 47 [T.agg [T.str r32, T.str r32b]] (tb (l12RecordN r32 r32b))), (True), ((!((isValidRecordN r32 r32b) == (l12RecordN r32 r32b))) = false), (True), ((!(r42.toList == r48.toList)) = false), (True), ((!(r42b == r48b)) = true)]) (e := .normal) (σ' := ⟨[2011, 2012, 2013], [(103, vb true), (14, vi r63d), (13, V.ref 2013 0), (12, V.ref 2012 0), (11, V.ref 2011 0), (2, vb false)], [(2011, oc 31 [T.str r57, T.str r57b, ti r57c]), (2012, oc 27 [T.str r57d, T.str r57e]), (2013, oc 31 [T.str r63, T.str r63b, ti r63c])]⟩) (by kernel_rfl) ⟨by decide, (iIsValidRecord_C r32 r32b c10 c11), by decide, (sIsValidRecord_C r32 r32b c10 c11), trivial, h2, trivial, h3, trivial, h4, trivial⟩ ?_
            exact ⟨(true), h, rfl⟩
          · -- no
            obtain ⟨r89, c12, h⟩ := bnd1_some h
            obtain ⟨r91, c13, h⟩ := bnd1_some h
            rcases ite_some h with ⟨h5, h⟩ | ⟨h5, h⟩
            · -- yes
              refine WP.path tab_ok mixed [(73, An.call (tb (isValidRecordN r32 r32b))), (75, An.call (tb (l12RecordN r32 r32b))), (76, An.b false), (80, An.b false), (85, An.b false), (89, An.call (tb r89)), (91, An.call (tb r91)), (92, An.b true)] [.keep [103, 14, 13, 12, 11, 2], .keepO [2011, 2012, 2013], .names [(2011, 2011), (2012, 2012), (2013, 2013)]] (ps := [(0 + 2 ≤ 2), (C Tryd.prog 46 [T.agg [T.str r32, T.str r32b]] (tb (isValidRecordN r32 r32b))), (0 + 2 ≤ 2), (C Tryd.prog 47 [T.agg [T.str r32, T.str r32b]] (tb (l12RecordN r32 r32b))), (True), ((!((isValidRecordN r32 r32b) == (l12RecordN r32 r32b))) = false), (True), ((!(r42.toList == r48.toList)) = false), (True), ((!(r42b == r48b)) = false), (0 + 3 ≤ 3), (C Tryd.prog 24 [T.agg [T.str r53, T.str r53b, ti r53c]] (tb r89)), (0 + 3 ≤ 3), (C Tryd.prog 22 [T.agg [T.str r53, T.str r53b, ti r53c]] (tb r91)), (True), ((!(r89 == r91)) = true)]) (e := .normal) (σ' := ⟨[2011, 2012, 2013], [(103, vb true), (14, vi r63d), (13, V.ref 2013 0), (12, V.ref 2012 0), (11, V.ref 2011 0), (2, vb false)], [(2011, oc 31 [T.str r57, T.str r57b, ti r57c]), (2012, oc 27 [T.str r57d, T.str r57e]), (2013, oc 31 [T.str r63, T.str r63b, ti r63c])]⟩) (by kernel_rfl) ⟨by decide, (iIsValidRecord_C r32 r32b c10 c11), by decide, (sIsValidRecord_C r32 r32b c10 c11), trivial, h2, trivial, h3, trivial, h4, by decide, (F_impl_IsValidLog_W r53 r53b r53c r89 c12), by decide, (F_spec_IsValidLog_W r53 r53b r53c r91 c13), trivial, h5, trivial⟩ ?_
              exact ⟨(true), h, rfl⟩
            · -- no
              rcases ite_some h with ⟨h6, h⟩ | ⟨h6, h⟩
              · -- yes
                refine WP.path tab_ok mixed [(73, An.call (tb (isValidRecordN r32 r32b))), (75, An.call (tb (l12RecordN r32 r32b))), (76, An.b false), (80, An.b false), (85, An.b false), (89, An.call (tb r89)), (91, An.call (tb r91)), (92, An.b false), (97, An.b true)] [.keep [103, 14, 13, 12, 11, 2], .keepO [2011, 2012, 2013], .names [(2011, 2011), (2012, 2012), (2013, 2013)]] (ps := [(0 + 2 ≤ 2), (C Tryd.prog 46 [T.agg [T.str r32, T.str r32b]] (tb (isValidRecordN r32 r32b))), (0 + 2 ≤ 2), (C Tryd.prog 47 [T.agg [T.str r32, T.str r32b]] (tb (l12RecordN r32 r32b))), (True), ((!((isValidRecordN r32 r32b) == (l12RecordN r32 r32b))) = false), (True), ((!(r42.toList == r48.toList)) = false), (True), ((!(r42b == r48b)) = false), (0 + 3 ≤ 3), (C Tryd.prog 24 [T.agg [T.str r53, T.str r53b, ti r53c]] (tb r89)), (0 + 3 ≤ 3), (C Tryd.prog 22 [T.agg [T.str r53, T.str r53b, ti r53c]] (tb r91)), (True), ((!(r89 == r91)) = false), (0 + 3 ≤ 3), (0 + 3 ≤ 3), (chkEq Tryd.prog 31 [T.str r63, T.str r63b, ti r63c] = true), ((!((r63.toList == r69.toList) && ((r63b.toList == r69b.toList) && ((r63c == r69c) && (true))))) = true)]) (e := .normal) (σ' := ⟨[2011, 2012, 2013], [(103, vb true), (14, vi r63d), (13, V.ref 2013 0), (12, V.ref 2012 0), (11, V.ref 2011 0), (2, vb false)], [(2011, oc 31 [T.str r57, T.str r57b, ti r57c]), (2012, oc 27 [T.str r57d, T.str r57e]), (2013, oc 31 [T.str r63, T.str r63b, ti r63c])]⟩) (by kernel_rfl) ⟨by decide, (iIsValidRecord_C r32 r32b c10 c11), by decide, (sIsValidRecord_C r32 r32b c10 c11), trivial, h2, trivial, h3, trivial, h4, by decide, (F_impl_IsValidLog_W r53 r53b r53c r89 c12), by decide, (F_spec_IsValidLog_W r53 r53b r53c r91 c13), trivial, h5, by decide, by decide, by kernel_rfl, h6, trivial⟩ ?_
                exact ⟨(true), h, rfl⟩
              · -- no
                refine WP.path tab_ok mixed [(73, An.call (tb (isValidRecordN r32 r32b))), (75, An.call (tb (l12RecordN r32 r32b))), (76, An.b false), (80, An.b false), (85, An.b false), (89, An.call (tb r89)), (91, An.call (tb r91)), (92, An.b false), (97, An.b false)] [.keep [103, 14, 13, 12, 11, 2], .keepO [2011, 2012, 2013], .names [(2011, 2011), (2012, 2012), (2013, 2013)]] (ps := [(0 + 2 ≤ 2), (C Tryd.prog 46 [T.agg [T.str r32, T.str r32b]] (tb (isValidRecordN r32 r32b))), (0 + 2 ≤ 2), (C Tryd.prog 47 [T.agg [T.str r32, T.str r32b]] (tb (l12RecordN r32 r32b))), (True), ((!((isValidRecordN r32 r32b) == (l12RecordN r32 r32b))) = false), (True), ((!(r42.toList == r48.toList)) = false), (True), ((!(r42b == r48b)) = false), (0 + 3 ≤ 3), (C Tryd.prog 24 [T.agg [T.str r53, T.str r53b, ti r53c]] (tb r89)), (0 + 3 ≤ 3), (C Tryd.prog 22 [T.agg [T.str r53, T.str r53b, ti r53c]] (tb r91)), (True), ((!(r89 == r91)) = false), (0 + 3 ≤ 3), (0 + 3 ≤ 3), (chkEq Tryd.prog 31 [T.str r63, T.str r63b, ti r63c] = true), ((!((r63.toList == r69.toList) && ((r63b.toList == r69b.toList) && ((r63c == r69c) && (true))))) = false), (True)]) (e := .normal) (σ' := ⟨[2011, 2012, 2013], [(103, vb (r63d != r69d)), (14, vi r63d), (13, V.ref 2013 0), (12, V.ref 2012 0), (11, V.ref 2011 0), (2, vb false)], [(2011, oc 31 [T.str r57, T.str r57b, ti r57c]), (2012, oc 27 [T.str r57d, T.str r57e]), (2013, oc 31 [T.str r63, T.str r63b, ti r63c])]⟩) (by kernel_rfl) ⟨by decide, (iIsValidRecord_C r32 r32b c10 c11), by decide, (sIsValidRecord_C r32 r32b c10 c11), trivial, h2, trivial, h3, trivial, h4, by decide, (F_impl_IsValidLog_W r53 r53b r53c r89 c12), by decide, (F_spec_IsValidLog_W r53 r53b r53c r91 c13), trivial, h5, by decide, by decide, by kernel_rfl, h6, trivial, trivial⟩ ?_
                exact ⟨(r63d != r69d), h, rfl⟩
    · -- from there
      intro v103 h0
      have h := (show J1 v103 = some y0 from h0)
      rw [hJ1] at h
      rcases ite_some h with ⟨h7, h⟩ | ⟨h7, h⟩
      · -- yes
        refine WP.cond (b := v103) rfl (fun _ => ?_) (fun hh => by rw [h7] at hh; cases hh)
        have h := Option.some.inj h
        subst h
        exact WP.pathW tab_ok mixed [] _ (ps := []) (r := tb false) (by kernel_rfl) trivial (WkT.eq (y := tb false) (WkT.refl _) rfl) (fun _ h => h)
      · -- no
        refine WP.cond (b := v103) rfl (fun hh => by rw [h7] at hh; cases hh) (fun _ => ?_)
        refine WP.path tab_ok mixed [] [.keep [14, 13, 12, 11, 2], .keepO [2011, 2012, 2013]] (ps := []) (e := .normal) (σ' := ⟨[2011, 2012, 2013], [(14, vi r63d), (13, V.ref 2013 0), (12, V.ref 2012 0), (11, V.ref 2011 0), (2, vb false)], [(2011, oc 31 [T.str r57, T.str r57b, ti r57c]), (2012, oc 27 [T.str r57d, T.str r57e]), (2013, oc 31 [T.str r63, T.str r63b, ti r63c])]⟩) (by kernel_rfl) trivial ?_
        refine WP.seq ?_
        obtain ⟨r106, r106b, r106c, r106d, c10, h⟩ := bnd4_some h
        refine WP.path tab_ok mixed [(106, An.call (T.tup [T.agg [T.str r106, T.str r106b, ti r106c], tb r106d])), (17, An.id 2017)] [.keep [18, 17, 14, 13, 12, 11, 2], .keepO [2011, 2012, 2013, 2017]] (ps := [(0 + 3 ≤ 3), (C Tryd.prog 28 [T.agg [T.str r57, T.str r57b, ti r57c]] (T.tup [T.agg [T.str r106, T.str r106b, ti r106c], tb r106d])), ((0 + 3 ≤ 3 ∧ 3 = 3))]) (e := .normal) (σ' := ⟨[2017, 2011, 2012, 2013], [(18, vb r106d), (17, V.ref 2017 0), (14, vi r63d), (13, V.ref 2013 0), (12, V.ref 2012 0), (11, V.ref 2011 0), (2, vb false)], [(2011, oc 31 [T.str r57, T.str r57b, ti r57c]), (2012, oc 27 [T.str r57d, T.str r57e]), (2013, oc 31 [T.str r63, T.str r63b, ti r63c]), (2017, oc 31 [T.str r106, T.str r106b, ti r106c])]⟩) (by kernel_rfl) ⟨by decide, (F_impl_SyncLog_W r57 r57b r57c r106 r106b r106c r106d c10), by decide, trivial⟩ ?_
        refine WP.seq ?_
        obtain ⟨r111, r111b, r111c, r111d, c11, h⟩ := bnd4_some h
        refine WP.path tab_ok mixed [(111, An.call (T.tup [T.agg [T.str r111, T.str r111b, ti r111c], tb r111d])), (19, An.id 2019)] [.keep [20, 19, 18, 17, 14, 13, 12, 11, 2], .keepO [2011, 2012, 2013, 2017, 2019]] (ps := [(0 + 3 ≤ 3), (C Tryd.prog 27 [T.agg [T.str r57, T.str r57b, ti r57c]] (T.tup [T.agg [T.str r111, T.str r111b, ti r111c], tb r111d])), ((0 + 3 ≤ 3 ∧ 3 = 3))]) (e := .normal) (σ' := ⟨[2019, 2017, 2011, 2012, 2013], [(20, vb r111d), (19, V.ref 2019 0), (18, vb r106d), (17, V.ref 2017 0), (14, vi r63d), (13, V.ref 2013 0), (12, V.ref 2012 0), (11, V.ref 2011 0), (2, vb false)], [(2011, oc 31 [T.str r57, T.str r57b, ti r57c]), (2012, oc 27 [T.str r57d, T.str r57e]), (2013, oc 31 [T.str r63, T.str r63b, ti r63c]), (2017, oc 31 [T.str r106, T.str r106b, ti r106c]), (2019, oc 31 [T.str r111, T.str r111b, ti r111c])]⟩) (by kernel_rfl) ⟨by decide, (F_spec_SyncLog_W r57 r57b r57c r111 r111b r111c r111d c11), by decide, trivial⟩ ?_
        refine WP.seq ?_
        obtain ⟨r116, r116b, c12, h⟩ := bnd2_some h
        refine WP.path tab_ok mixed [(116, An.call (T.tup [T.list (List.length r116) 2 (List.flatMap recsC r116), tb r116b]))] [.keep [22, 21, 20, 19, 18, 17, 14, 13, 12, 11, 2], .keepO [2011, 2012, 2013, 2017, 2019]] (ps := [(0 + 3 ≤ 3), (C Tryd.prog 32 [T.agg [T.str r57, T.str r57b, ti r57c]] (T.tup [T.list (List.length r116) 2 (List.flatMap recsC r116), tb r116b]))]) (e := .normal) (σ' := ⟨[2019, 2017, 2011, 2012, 2013], [(22, vb r116b), (21, V.t (T.list (List.length r116) 2 (List.flatMap recsC r116))), (20, vb r111d), (19, V.ref 2019 0), (18, vb r106d), (17, V.ref 2017 0), (14, vi r63d), (13, V.ref 2013 0), (12, V.ref 2012 0), (11, V.ref 2011 0), (2, vb false)], [(2011, oc 31 [T.str r57, T.str r57b, ti r57c]), (2012, oc 27 [T.str r57d, T.str r57e]), (2013, oc 31 [T.str r63, T.str r63b, ti r63c]), (2017, oc 31 [T.str r106, T.str r106b, ti r106c]), (2019, oc 31 [T.str r111, T.str r111b, ti r111c])]⟩) (by kernel_rfl) ⟨by decide, (F_impl_LogRecords_W_C r57 r57b r57c r116 r116b c12), trivial⟩ ?_
        refine WP.seq ?_
        obtain ⟨r121, r121b, c13, h⟩ := bnd2_some h
        refine WP.path tab_ok mixed [(121, An.call (T.tup [T.list (List.length r121) 2 (List.flatMap recsC r121), tb r121b]))] [.keep [24, 23, 22, 21, 20, 19, 18, 17, 14, 13, 12, 11, 2], .keepO [2011, 2012, 2013, 2017, 2019]] (ps := [(0 + 3 ≤ 3), (C Tryd.prog 31 [T.agg [T.str r57, T.str r57b, ti r57c]] (T.tup [T.list (List.length r121) 2 (List.flatMap recsC r121), tb r121b]))]) (e := .normal) (σ' := ⟨[2019, 2017, 2011, 2012, 2013], [(24, vb r121b), (23, V.t (T.list (List.length r121) 2 (List.flatMap recsC r121))), (22, vb r116b), (21, V.t (T.list (List.length r116) 2 (List.flatMap recsC r116))), (20, vb r111d), (19, V.ref 2019 0), (18, vb r106d), (17, V.ref 2017 0), (14, vi r63d), (13, V.ref 2013 0), (12, V.ref 2012 0), (11, V.ref 2011 0), (2, vb false)], [(2011, oc 31 [T.str r57, T.str r57b, ti r57c]), (2012, oc 27 [T.str r57d, T.str r57e]), (2013, oc 31 [T.str r63, T.str r63b, ti r63c]), (2017, oc 31 [T.str r106, T.str r106b, ti r106c]), (2019, oc 31 [T.str r111, T.str r111b, ti r111c])]⟩) (by kernel_rfl) ⟨by decide, (F_spec_LogRecords_W_C r57 r57b r57c r121 r121b c13), trivial⟩ ?_
        refine WP.seq ?_
        obtain ⟨J1, hJ1, h⟩ := jn_some h
        refine WP.joinA (fun (zz : Bool) => ⟨[2011, 2012, 2013, 2017], [(142, vb zz), (21, V.t (T.list (List.length r116) 2 (List.flatMap recsC r116))), (18, vb r106d), (17, V.ref 2017 0), (14, vi r63d), (13, V.ref 2013 0), (12, V.ref 2012 0), (11, V.ref 2011 0), (2, vb false)], [(2011, oc 31 [T.str r57, T.str r57b, ti r57c]), (2012, oc 27 [T.str r57d, T.str r57e]), (2013, oc 31 [T.str r63, T.str r63b, ti r63c]), (2017, oc 31 [T.str r106, T.str r106b, ti r106c])]⟩) (fun zz => J1 zz = some y0) ?_ ?_
        · -- to where they meet
          rcases ite_some h with ⟨h8, h⟩ | ⟨h8, h⟩
          · -- yes
            refine WP.path tab_ok mixed [(126, An.b true)] [.keep [142, 21, 18, 17, 14, 13, 12, 11, 2], .keepO [2011, 2012, 2013, 2017], .names [(2011, 2011), (2012, 2012), (2013, 2013), (2017, 2017)]] (ps := [(0 + 3 ≤ 3), (0 + 3 ≤ 3), (chkEq Tryd.prog 31 [T.str r106, T.str r106b, ti r106c] = true), ((!((r106.toList == r111.toList) && ((r106b.toList == r111b.toList) && ((r106c == r111c) && (true))))) = true)]) (e := .normal) (σ' := ⟨[2011, 2012, 2013, 2017], [(142, vb true), (21, V.t (T.list (List.length r116) 2 (List.flatMap recsC r116))), (18, vb r106d), (17, V.ref 2017 0), (14, vi r63d), (13, V.ref 2013 0), (12, V.ref 2012 0), (11, V.ref 2011 0), (2, vb false)], [(2011, oc 31 [T.str r57, T.str r57b, ti r57c]), (2012, oc 27 [T.str r57d, T.str r57e]), (2013, oc 31 [T.str r63, T.str r63b, ti r63c]), (2017, oc 31 [T.str r106, T.str r106b, ti r106c])]⟩) (by kernel_rfl) ⟨by decide, by decide, by kernel_rfl, h8, trivial⟩ ?_
            exact ⟨(true), h, rfl⟩
          · -- no
            rcases ite_some h with ⟨h9, h⟩ | ⟨h9, h⟩
            · -- yes
              refine WP.path tab_ok mixed [(126, An.b false), (130, An.b true)] [.keep [142, 21, 18, 17, 14, 13, 12, 11, 2], .keepO [2011, 2012, 2013, 2017], .names [(2011, 2011), (2012, 2012), (2013, 2013), (2017, 2017)]] (ps := [(0 + 3 ≤ 3), (0 + 3 ≤ 3), (chkEq Tryd.prog 31 [T.str r106, T.str r106b, ti r106c] = true), ((!((r106.toList == r111.toList) && ((r106b.toList == r111b.toList) && ((r106c == r111c) && (true))))) = false), (True), ((!(r106d == r111d)) = true)]) (e := .normal) (σ' := ⟨[2011, 2012, 2013, 2017], [(142, vb true), (21, V.t (T.list (List.length r116) 2 (List.flatMap recsC r116))), (18, vb r106d), (17, V.ref 2017 0), (14, vi r63d), (13, V.ref 2013 0), (12, V.ref 2012 0), (11, V.ref 2011 0), (2, vb false)], [(2011, oc 31 [T.str r57, T.str r57b, ti r57c]), (2012, oc 27 [T.str r57d, T.str r57e]), (2013, oc 31 [T.str r63, T.str r63b, ti r63c]), (2017, oc 31 [T.str r106, T.str r106b, ti r106c])]⟩) (by kernel_rfl) ⟨by decide, by decide, by kernel_rfl, h8, trivial, h9, trivial⟩ ?_
              exact ⟨(true), h, rfl⟩
            · -- no
              rcases ite_some h with ⟨h10, h⟩ | ⟨h10, h⟩
              · -- yes
                refine WP.path tab_ok mixed [(126, An.b false), (130, An.b false), (135, An.b true)] [.keep [142, 21, 18, 17, 14, 13, 12, 11, 2], .keepO [2011, 2012, 2013, 2017], .names [(2011, 2011), (2012, 2012), (2013, 2013), (2017, 2017)]] (ps := [(0 + 3 ≤ 3), (0 + 3 ≤ 3), (chkEq Tryd.prog 31 [T.str r106, T.str r106b, ti r106c] = true), ((!((r106.toList == r111.toList) && ((r106b.toList == r111b.toList) && ((r106c == r111c) && (true))))) = false), (True), ((!(r106d == r111d)) = false), (True), ((!(r116b == r121b)) = true)]) (e := .normal) (σ' := ⟨[2011, 2012, 2013, 2017], [(142, vb true), (21, V.t (T.list (List.length r116) 2 (List.flatMap recsC r116))), (18, vb r106d), (17, V.ref 2017 0), (14, vi r63d), (13, V.ref 2013 0), (12, V.ref 2012 0), (11, V.ref 2011 0), (2, vb false)], [(2011, oc 31 [T.str r57, T.str r57b, ti r57c]), (2012, oc 27 [T.str r57d, T.str r57e]), (2013, oc 31 [T.str r63, T.str r63b, ti r63c]), (2017, oc 31 [T.str r106, T.str r106b, ti r106c])]⟩) (by kernel_rfl) ⟨by decide, by decide, by kernel_rfl, h8, trivial, h9, trivial, h10, trivial⟩ ?_
                exact ⟨(true), h, rfl⟩
              · -- no
                obtain ⟨r140, c14, h⟩ := bnd1_some h
                refine WP.path tab_ok mixed [(126, An.b false), (130, An.b false), (135, An.b false), (140, An.call (tb r140))] [.keep [142, 21, 18, 17, 14, 13, 12, 11, 2], .keepO [2011, 2012, 2013, 2017], .names [(2011, 2011), (2012, 2012), (2013, 2013), (2017, 2017)]] (ps := [(0 + 3 ≤ 3), (0 + 3 ≤ 3), (chkEq Tryd.prog 31 [T.str r106, T.str r106b, ti r106c] = true), ((!((r106.toList == r111.toList) && ((r106b.toList == r111b.toList) && ((r106c == r111c) && (true))))) = false), (True), ((!(r106d == r111d)) = false), (True), ((!(r116b == r121b)) = false), (C Tryd.prog 48 [T.list (List.length r116) 2 (List.flatMap recsC r116), T.list (List.length r121) 2 (List.flatMap recsC r121)] (tb r140))]) (e := .normal) (σ' := ⟨[2011, 2012, 2013, 2017], [(142, vb (!r140)), (21, V.t (T.list (List.length r116) 2 (List.flatMap recsC r116))), (18, vb r106d), (17, V.ref 2017 0), (14, vi r63d), (13, V.ref 2013 0), (12, V.ref 2012 0), (11, V.ref 2011 0), (2, vb false)], [(2011, oc 31 [T.str r57, T.str r57b, ti r57c]), (2012, oc 27 [T.str r57d, T.str r57e]), (2013, oc 31 [T.str r63, T.str r63b, ti r63c]), (2017, oc 31 [T.str r106, T.str r106b, ti r106c])]⟩) (by kernel_rfl) ⟨by decide, by decide, by kernel_rfl, h8, trivial, h9, trivial, h10, (F_laws_vRecords_W r116 r121 r140 c14), trivial⟩ ?_
                exact ⟨(!r140), h, rfl⟩
        · -- from there
          intro v142 h0
          have h := (show J1 v142 = some y0 from h0)
          rw [hJ1] at h
          rcases ite_some h with ⟨h11, h⟩ | ⟨h11, h⟩
          · -- yes
            refine WP.cond (b := v142) rfl (fun _ => ?_) (fun hh => by rw [h11] at hh; cases hh)
            have h := Option.some.inj h
            subst h
            exact WP.pathW tab_ok mixed [] _ (ps := []) (r := tb false) (by kernel_rfl) trivial (WkT.eq (y := tb false) (WkT.refl _) rfl) (fun _ h => h)
          · -- no
            refine WP.cond (b := v142) rfl (fun hh => by rw [h11] at hh; cases hh) (fun _ => ?_)
            refine WP.path tab_ok mixed [] [.keep [21, 18, 17, 14, 13, 12, 11, 2], .keepO [2011, 2012, 2013, 2017]] (ps := []) (e := .normal) (σ' := ⟨[2011, 2012, 2013, 2017], [(21, V.t (T.list (List.length r116) 2 (List.flatMap recsC r116))), (18, vb r106d), (17, V.ref 2017 0), (14, vi r63d), (13, V.ref 2013 0), (12, V.ref 2012 0), (11, V.ref 2011 0), (2, vb false)], [(2011, oc 31 [T.str r57, T.str r57b, ti r57c]), (2012, oc 27 [T.str r57d, T.str r57e]), (2013, oc 31 [T.str r63, T.str r63b, ti r63c]), (2017, oc 31 [T.str r106, T.str r106b, ti r106c])]⟩) (by kernel_rfl) trivial ?_
            refine WP.seq ?_
            obtain ⟨r145, r145b, c14, h⟩ := bnd2_some h
            refine WP.path tab_ok mixed [(145, An.call (T.tup [T.list (List.length r145) 2 (List.flatMap recsC r145), tb r145b]))] [.keep [25, 21, 18, 14, 13, 12, 11, 2], .keepO [2011, 2012, 2013]] (ps := [(0 + 3 ≤ 3), (C Tryd.prog 32 [T.agg [T.str r106, T.str r106b, ti r106c]] (T.tup [T.list (List.length r145) 2 (List.flatMap recsC r145), tb r145b]))]) (e := .normal) (σ' := ⟨[2011, 2012, 2013, 2017], [(25, V.t (T.list (List.length r145) 2 (List.flatMap recsC r145))), (21, V.t (T.list (List.length r116) 2 (List.flatMap recsC r116))), (18, vb r106d), (14, vi r63d), (13, V.ref 2013 0), (12, V.ref 2012 0), (11, V.ref 2011 0), (2, vb false)], [(2011, oc 31 [T.str r57, T.str r57b, ti r57c]), (2012, oc 27 [T.str r57d, T.str r57e]), (2013, oc 31 [T.str r63, T.str r63b, ti r63c])]⟩) (by kernel_rfl) ⟨by decide, (F_impl_LogRecords_W_C r106 r106b r106c r145 r145b c14), trivial⟩ ?_
            refine WP.seq ?_
            obtain ⟨J1, hJ1, h⟩ := jn_some h
            refine WP.joinA (fun (zz : Bool) => ⟨[2011, 2012, 2013], [(154, vb zz), (21, V.t (T.list (List.length r116) 2 (List.flatMap recsC r116))), (14, vi r63d), (13, V.ref 2013 0), (12, V.ref 2012 0), (11, V.ref 2011 0), (2, vb false)], [(2011, oc 31 [T.str r57, T.str r57b, ti r57c]), (2012, oc 27 [T.str r57d, T.str r57e]), (2013, oc 31 [T.str r63, T.str r63b, ti r63c])]⟩) (fun zz => J1 zz = some y0) ?_ ?_
            · -- to where they meet
              rcases ite_some h with ⟨h12, h⟩ | ⟨h12, h⟩
              · -- yes
                obtain ⟨r152, c15, h⟩ := bnd1_some h
                refine WP.path tab_ok mixed [(149, An.b true), (152, An.call (tb r152))] [.keep [154, 21, 14, 13, 12, 11, 2], .keepO [2011, 2012, 2013], .names [(2011, 2011), (2012, 2012), (2013, 2013)]] (ps := [((r106d) = true), (C Tryd.prog 48 [T.list (List.length r145) 2 (List.flatMap recsC r145), T.list (List.length r116) 2 (List.flatMap recsC r116)] (tb r152))]) (e := .normal) (σ' := ⟨[2011, 2012, 2013], [(154, vb (!r152)), (21, V.t (T.list (List.length r116) 2 (List.flatMap recsC r116))), (14, vi r63d), (13, V.ref 2013 0), (12, V.ref 2012 0), (11, V.ref 2011 0), (2, vb false)], [(2011, oc 31 [T.str r57, T.str r57b, ti r57c]), (2012, oc 27 [T.str r57d, T.str r57e]), (2013, oc 31 [T.str r63, T.str r63b, ti r63c])]⟩) (by kernel_rfl) ⟨h12, (F_laws_vRecords_W r145 r116 r152 c15), trivial⟩ ?_
                exact ⟨(!r152), h, rfl⟩
              · -- no
                refine WP.path tab_ok mixed [(149, An.b false)] [.keep [154, 21, 14, 13, 12, 11, 2], .keepO [2011, 2012, 2013], .names [(2011, 2011), (2012, 2012), (2013, 2013)]] (ps := [((r106d) = false)]) (e := .normal) (σ' := ⟨[2011, 2012, 2013], [(154, vb false), (21, V.t (T.list (List.length r116) 2 (List.flatMap recsC r116))), (14, vi r63d), (13, V.ref 2013 0), (12, V.ref 2012 0), (11, V.ref 2011 0), (2, vb false)], [(2011, oc 31 [T.str r57, T.str r57b, ti r57c]), (2012, oc 27 [T.str r57d, T.str r57e]), (2013, oc 31 [T.str r63, T.str r63b, ti r63c])]⟩) (by kernel_rfl) ⟨h12, trivial⟩ ?_
                exact ⟨(false), h, rfl⟩
            · -- from there
              intro v154 h0
              have h := (show J1 v154 = some y0 from h0)
              rw [hJ1] at h
              rcases ite_some h with ⟨h13, h⟩ | ⟨h13, h⟩
              · -- yes
                refine WP.cond (b := v154) rfl (fun _ => ?_) (fun hh => by rw [h13] at hh; cases hh)
                have h := Option.some.inj h
                subst h
                exact WP.pathW tab_ok mixed [] _ (ps := []) (r := tb false) (by kernel_rfl) trivial (WkT.eq (y := tb false) (WkT.refl _) rfl) (fun _ h => h)
              · -- no
                refine WP.cond (b := v154) rfl (fun hh => by rw [h13] at hh; cases hh) (fun _ => ?_)
                refine WP.path tab_ok mixed [] [.keep [21, 14, 13, 12, 11, 2], .keepO [2011, 2012, 2013]] (ps := []) (e := .normal) (σ' := ⟨[2011, 2012, 2013], [(21, V.t (T.list (List.length r116) 2 (List.flatMap recsC r116))), (14, vi r63d), (13, V.ref 2013 0), (12, V.ref 2012 0), (11, V.ref 2011 0), (2, vb false)], [(2011, oc 31 [T.str r57, T.str r57b, ti r57c]), (2012, oc 27 [T.str r57d, T.str r57e]), (2013, oc 31 [T.str r63, T.str r63b, ti r63c])]⟩) (by kernel_rfl) trivial ?_
                refine WP.seq ?_
                refine WP.seq ?_
                refine WP.path tab_ok mixed [] [.keep [156, 21, 13, 12, 11, 2], .keepO [2011, 2012, 2013]] (ps := [(True)]) (e := .normal) (σ' := ⟨[2011, 2012, 2013], [(156, vb (r63d != (0 : Int))), (21, V.t (T.list (List.length r116) 2 (List.flatMap recsC r116))), (13, V.ref 2013 0), (12, V.ref 2012 0), (11, V.ref 2011 0), (2, vb false)], [(2011, oc 31 [T.str r57, T.str r57b, ti r57c]), (2012, oc 27 [T.str r57d, T.str r57e]), (2013, oc 31 [T.str r63, T.str r63b, ti r63c])]⟩) (by kernel_rfl) ⟨trivial, trivial⟩ ?_
                rcases ite_some h with ⟨h14, h⟩ | ⟨h14, h⟩
                · -- yes
                  refine WP.cond (b := r63d != (0 : Int)) rfl (fun _ => ?_) (fun hh => by rw [h14] at hh; cases hh)
                  have h := Option.some.inj h
                  subst h
                  exact WP.pathW tab_ok mixed [] _ (ps := [(0 + 3 ≤ 3), (0 + 3 ≤ 3), (chkEq Tryd.prog 31 [T.str r63, T.str r63b, ti r63c] = true)]) (r := tb ((r63.toList == r57.toList) && ((r63b.toList == r57b.toList) && ((r63c == r57c) && (true))))) (by kernel_rfl) ⟨by decide, by decide, by kernel_rfl, trivial⟩ (WkT.eq (y := tb ((r63.toList == r57.toList) && ((r63b.toList == r57b.toList) && ((r63c == r57c) && (true))))) (WkT.refl _) rfl) (fun _ h => h)
                · -- no
                  refine WP.cond (b := r63d != (0 : Int)) rfl (fun hh => by rw [h14] at hh; cases hh) (fun _ => ?_)
                  refine WP.path tab_ok mixed [] [.keep [21, 13, 12, 2], .keepO [2012, 2013]] (ps := []) (e := .normal) (σ' := ⟨[2011, 2012, 2013], [(21, V.t (T.list (List.length r116) 2 (List.flatMap recsC r116))), (13, V.ref 2013 0), (12, V.ref 2012 0), (2, vb false)], [(2012, oc 27 [T.str r57d, T.str r57e]), (2013, oc 31 [T.str r63, T.str r63b, ti r63c])]⟩) (by kernel_rfl) trivial ?_
                  obtain ⟨r162, r162b, c15, h⟩ := bnd2_some h
                  obtain ⟨r166, c16, h⟩ := bnd1_some h
                  rcases ite_some h with ⟨h15, h⟩ | ⟨h15, h⟩
                  · -- yes
                    obtain ⟨c17, h⟩ := chk_some h
                    obtain ⟨n172, c18, h⟩ := nam_some h
                    rcases ite_some h with ⟨h16, h⟩ | ⟨h16, h⟩
                    · -- yes
                      obtain ⟨c19, h⟩ := chk_some h
                      obtain ⟨r181, c20, h⟩ := bnd1_some h
                      rcases ite_some h with ⟨h17, h⟩ | ⟨h17, h⟩
                      · -- yes
                        obtain ⟨c21, h⟩ := chk_some h
                        obtain ⟨n190, c22, h⟩ := nam_some h
                        have h := Option.some.inj h
                        subst h
                        exact WP.pathW tab_ok mixed [(162, An.call (T.tup [T.list (List.length r162) 2 (List.flatMap recsC r162), tb r162b])), (166, An.call (tb r166)), (167, An.b true), (172, An.v (ti n172)), (173, An.b true), (179, An.v (T.list (List.length (List.take (Int.toNat ((List.length r116 : Nat) : Int) - Int.toNat (0 : Int)) (List.drop (Int.toNat (0 : Int)) r162))) 2 (List.flatMap recsC (List.take (Int.toNat ((List.length r116 : Nat) : Int) - Int.toNat (0 : Int)) (List.drop (Int.toNat (0 : Int)) r162))))), (181, An.call (tb r181)), (183, An.b true), (188, An.v (T.agg [T.str ((List.getD r162 (List.length r116) (ByteArray.empty, ByteArray.empty)).1), T.str ((List.getD r162 (List.length r116) (ByteArray.empty, ByteArray.empty)).2)])), (190, An.v (tb n190))] _ (ps := [(0 + 3 ≤ 3), (C Tryd.prog 32 [T.agg [T.str r63, T.str r63b, ti r63c]] (T.tup [T.list (List.length r162) 2 (List.flatMap recsC r162), tb r162b])), (0 + 3 ≤ 3), (C Tryd.prog 24 [T.agg [T.str r63, T.str r63b, ti r63c]] (tb r166)), ((r166) = true), (True), (T.int .i64 (IntKind.wrap .i64 (((List.length r116 : Nat) : Int) + (1 : Int))) = ti n172), (True), ((((List.length r162 : Nat) : Int) == n172) = true), ((0 ≤ (0 : Int) ∧ (0 : Int) ≤ ((List.length r116 : Nat) : Int) ∧ ((List.length r116 : Nat) : Int) ≤ ((List.length r162 : Nat) : Int))), (T.list ((Int.toNat ((List.length r116 : Nat) : Int)) - 0) 2 (List.take (((Int.toNat ((List.length r116 : Nat) : Int)) - 0) * 2) (List.flatMap recsC r162)) = T.list (List.length (List.take (Int.toNat ((List.length r116 : Nat) : Int) - Int.toNat (0 : Int)) (List.drop (Int.toNat (0 : Int)) r162))) 2 (List.flatMap recsC (List.take (Int.toNat ((List.length r116 : Nat) : Int) - Int.toNat (0 : Int)) (List.drop (Int.toNat (0 : Int)) r162)))), (C Tryd.prog 48 [T.list (List.length (List.take (Int.toNat ((List.length r116 : Nat) : Int) - Int.toNat (0 : Int)) (List.drop (Int.toNat (0 : Int)) r162))) 2 (List.flatMap recsC (List.take (Int.toNat ((List.length r116 : Nat) : Int) - Int.toNat (0 : Int)) (List.drop (Int.toNat (0 : Int)) r162))), T.list (List.length r116) 2 (List.flatMap recsC r116)] (tb r181)), ((r181) = true), ((0 ≤ ((List.length r116 : Nat) : Int) ∧ ((List.length r116 : Nat) : Int) < ((List.length r162 : Nat) : Int))), (2 ≤ List.length (List.drop ((Int.toNat ((List.length r116 : Nat) : Int)) * 2) (List.flatMap recsC r162))), (T.agg (List.take 2 (List.drop ((Int.toNat ((List.length r116 : Nat) : Int)) * 2) (List.flatMap recsC r162))) = T.agg [T.str ((List.getD r162 (List.length r116) (ByteArray.empty, ByteArray.empty)).1), T.str ((List.getD r162 (List.length r116) (ByteArray.empty, ByteArray.empty)).2)]), (0 + 2 ≤ 2), (chkEq Tryd.prog 27 [T.str ((List.getD r162 (List.length r116) (ByteArray.empty, ByteArray.empty)).1), T.str ((List.getD r162 (List.length r116) (ByteArray.empty, ByteArray.empty)).2)] = true), (tb ((((List.getD r162 (List.length r116) (ByteArray.empty, ByteArray.empty)).1).toList == r57d.toList) && ((((List.getD r162 (List.length r116) (ByteArray.empty, ByteArray.empty)).2).toList == r57e.toList) && (true))) = tb n190)]) (r := tb n190) (by kernel_rfl) ⟨by decide, (F_impl_LogRecords_W_C r63 r63b r63c r162 r162b c15), by decide, (F_impl_IsValidLog_W r63 r63b r63c r166 c16), h15, trivial, Eq.trans (wrapI c17) (congrArg (ti) c18), trivial, h16, c19, slFz (f := recsC) (k := 2) (fun _ => rfl) (l := (0 : Int)) (h := ((List.length r116 : Nat) : Int)) c19 (by first | rfl | (simp; done) | omega) (by first | rfl | omega | (simp; done)) (by first | rfl | omega | (simp; done)), (F_laws_vRecords_W (List.take (Int.toNat ((List.length r116 : Nat) : Int) - Int.toNat (0 : Int)) (List.drop (Int.toNat (0 : Int)) r162)) r116 r181 c20), h17, c21, fit_recs (i := List.length r116) (by simp) (by omega), at_recs (by simp) (by omega), by decide, by kernel_rfl, congrArg (tb) c22, trivial⟩ (WkT.eq (y := tb n190) (WkT.refl _) rfl) (fun _ h => h)
                      · -- no
                        have h := Option.some.inj h
                        subst h
                        exact WP.pathW tab_ok mixed [(162, An.call (T.tup [T.list (List.length r162) 2 (List.flatMap recsC r162), tb r162b])), (166, An.call (tb r166)), (167, An.b true), (172, An.v (ti n172)), (173, An.b true), (179, An.v (T.list (List.length (List.take (Int.toNat ((List.length r116 : Nat) : Int) - Int.toNat (0 : Int)) (List.drop (Int.toNat (0 : Int)) r162))) 2 (List.flatMap recsC (List.take (Int.toNat ((List.length r116 : Nat) : Int) - Int.toNat (0 : Int)) (List.drop (Int.toNat (0 : Int)) r162))))), (181, An.call (tb r181)), (183, An.b false)] _ (ps := [(0 + 3 ≤ 3), (C Tryd.prog 32 [T.agg [T.str r63, T.str r63b, ti r63c]] (T.tup [T.list (List.length r162) 2 (List.flatMap recsC r162), tb r162b])), (0 + 3 ≤ 3), (C Tryd.prog 24 [T.agg [T.str r63, T.str r63b, ti r63c]] (tb r166)), ((r166) = true), (True), (T.int .i64 (IntKind.wrap .i64 (((List.length r116 : Nat) : Int) + (1 : Int))) = ti n172), (True), ((((List.length r162 : Nat) : Int) == n172) = true), ((0 ≤ (0 : Int) ∧ (0 : Int) ≤ ((List.length r116 : Nat) : Int) ∧ ((List.length r116 : Nat) : Int) ≤ ((List.length r162 : Nat) : Int))), (T.list ((Int.toNat ((List.length r116 : Nat) : Int)) - 0) 2 (List.take (((Int.toNat ((List.length r116 : Nat) : Int)) - 0) * 2) (List.flatMap recsC r162)) = T.list (List.length (List.take (Int.toNat ((List.length r116 : Nat) : Int) - Int.toNat (0 : Int)) (List.drop (Int.toNat (0 : Int)) r162))) 2 (List.flatMap recsC (List.take (Int.toNat ((List.length r116 : Nat) : Int) - Int.toNat (0 : Int)) (List.drop (Int.toNat (0 : Int)) r162)))), (C Tryd.prog 48 [T.list (List.length (List.take (Int.toNat ((List.length r116 : Nat) : Int) - Int.toNat (0 : Int)) (List.drop (Int.toNat (0 : Int)) r162))) 2 (List.flatMap recsC (List.take (Int.toNat ((List.length r116 : Nat) : Int) - Int.toNat (0 : Int)) (List.drop (Int.toNat (0 : Int)) r162))), T.list (List.length r116) 2 (List.flatMap recsC r116)] (tb r181)), ((r181) = false)]) (r := tb false) (by kernel_rfl) ⟨by decide, (F_impl_LogRecords_W_C r63 r63b r63c r162 r162b c15), by decide, (F_impl_IsValidLog_W r63 r63b r63c r166 c16), h15, trivial, Eq.trans (wrapI c17) (congrArg (ti) c18), trivial, h16, c19, slFz (f := recsC) (k := 2) (fun _ => rfl) (l := (0 : Int)) (h := ((List.length r116 : Nat) : Int)) c19 (by first | rfl | (simp; done) | omega) (by first | rfl | omega | (simp; done)) (by first | rfl | omega | (simp; done)), (F_laws_vRecords_W (List.take (Int.toNat ((List.length r116 : Nat) : Int) - Int.toNat (0 : Int)) (List.drop (Int.toNat (0 : Int)) r162)) r116 r181 c20), h17, trivial⟩ (WkT.eq (y := tb false) (WkT.refl _) rfl) (fun _ h => h)
                    · -- no
                      have h := Option.some.inj h
                      subst h
                      exact WP.pathW tab_ok mixed [(162, An.call (T.tup [T.list (List.length r162) 2 (List.flatMap recsC r162), tb r162b])), (166, An.call (tb r166)), (167, An.b true), (172, An.v (ti n172)), (173, An.b false)] _ (ps := [(0 + 3 ≤ 3), (C Tryd.prog 32 [T.agg [T.str r63, T.str r63b, ti r63c]] (T.tup [T.list (List.length r162) 2 (List.flatMap recsC r162), tb r162b])), (0 + 3 ≤ 3), (C Tryd.prog 24 [T.agg [T.str r63, T.str r63b, ti r63c]] (tb r166)), ((r166) = true), (True), (T.int .i64 (IntKind.wrap .i64 (((List.length r116 : Nat) : Int) + (1 : Int))) = ti n172), (True), ((((List.length r162 : Nat) : Int) == n172) = false)]) (r := tb false) (by kernel_rfl) ⟨by decide, (F_impl_LogRecords_W_C r63 r63b r63c r162 r162b c15), by decide, (F_impl_IsValidLog_W r63 r63b r63c r166 c16), h15, trivial, Eq.trans (wrapI c17) (congrArg (ti) c18), trivial, h16, trivial⟩ (WkT.eq (y := tb false) (WkT.refl _) rfl) (fun _ h => h)
                  · -- no
                    have h := Option.some.inj h
                    subst h
                    exact WP.pathW tab_ok mixed [(162, An.call (T.tup [T.list (List.length r162) 2 (List.flatMap recsC r162), tb r162b])), (166, An.call (tb r166)), (167, An.b false)] _ (ps := [(0 + 3 ≤ 3), (C Tryd.prog 32 [T.agg [T.str r63, T.str r63b, ti r63c]] (T.tup [T.list (List.length r162) 2 (List.flatMap recsC r162), tb r162b])), (0 + 3 ≤ 3), (C Tryd.prog 24 [T.agg [T.str r63, T.str r63b, ti r63c]] (tb r166)), ((r166) = false)]) (r := tb false) (by kernel_rfl) ⟨by decide, (F_impl_LogRecords_W_C r63 r63b r63c r162 r162b c15), by decide, (F_impl_IsValidLog_W r63 r63b r63c r166 c16), h15, trivial⟩ (WkT.eq (y := tb false) (WkT.refl _) rfl) (fun _ h => h)

end Go.Proofs.YtfhmgiipcmmnlaaDoor.AuLogs
