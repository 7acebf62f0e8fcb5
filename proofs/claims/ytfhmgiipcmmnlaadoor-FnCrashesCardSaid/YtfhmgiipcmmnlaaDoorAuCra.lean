/-
  The walks: each function of the program returns what the plain function beside it returns. No statement is proved here.
-/
import Derived.Test.YtfhmgiipcmmnlaaDoorTlGroupc

import Derived.Test.YtfhmgiipcmmnlaaDoorAuCraF
import Derived.Test.YtfhmgiipcmmnlaaDoorProg
import Derived.Test.YtfhmgiipcmmnlaaDoorAuCraO
import Derived.Test.YtfhmgiipcmmnlaaDoorAuCraa
namespace Go.Proofs.YtfhmgiipcmmnlaaDoor.AuCra
open Go Go.Tl Go.Proofs
open Go.Proofs.YtfhmgiipcmmnlaaDoor.AuCraO hiding tab tab_ok mixed
open Go.Proofs.YtfhmgiipcmmnlaaDoor.AuCraa hiding tab tab_ok mixed
set_option linter.unusedVariables false
set_option linter.unusedSimpArgs false
set_option maxRecDepth 100000
def tab : Tab := [(3, ⟨.int .i64, 1, 8, [.int .i64 0]⟩), (4, ⟨.bool, 1, 1, [.bool false]⟩), (5, ⟨.int .u8, 1, 1, [.int .u8 0]⟩), (9, ⟨.string, 1, 16, [.str ⟨#[]⟩]⟩), (27, ⟨.struct [(0, 1, false), (1, 1, false)], 2, 32, [.str ⟨#[]⟩, .str ⟨#[]⟩]⟩), (31, ⟨.struct [(0, 1, false), (1, 1, false), (2, 1, false)], 3, 40, [.str ⟨#[]⟩, .str ⟨#[]⟩, .int .i64 0]⟩), (48, ⟨.slice 27 2 32, 1, 24, [.nils]⟩), (65, ⟨.slice 5 1 1, 1, 24, [.nils]⟩), (77, ⟨.slice 90 2 16, 1, 24, [.nils]⟩), (80, ⟨.slice 3 1 8, 1, 24, [.nils]⟩), (82, ⟨.struct [(0, 1, false), (1, 1, false)], 2, 32, [.nils, .int .i64 0]⟩), (90, ⟨.struct [(0, 1, false), (1, 1, false)], 2, 16, [.int .i64 0, .bool false]⟩), (124, ⟨.pointer 127, 1, 8, [.nilp]⟩), (125, ⟨.int .u64, 1, 8, [.int .u64 0]⟩), (127, ⟨.struct [(0, 1, false), (1, 1, false), (2, 1, false)], 3, 40, [.nils, .int .i64 0, .int .u64 0]⟩), (158, ⟨.slice 9 1 16, 1, 24, [.nils]⟩)]
theorem tab_ok : chkTab Tryd.prog tab = true := by kernel_rfl
theorem mixed : Tryd.prog.follows .mixedOrders = true := by kernel_rfl
theorem F_spec_DrawRecoverLog_W (x0 : List Int) (y0 : ByteArray) (h : F_spec_DrawRecoverLog x0 = some y0) : C Tryd.prog 50 [ty x0] (T.str y0) := by
  unfold F_spec_DrawRecoverLog at h
  refine C.intro (tab := tab) tab_ok (fn := Tryd.f50) Tryd.func50 (by kernel_rfl) rfl (Nat.le_of_ble_eq_true rfl) ?_
  refine WP.seq ?_
  refine WP.path tab_ok mixed [] [.keep [2, 0], .keepO []] (ps := []) (e := .normal) (σ' := ⟨[], [(2, V.t (T.str (ByteArray.mk #[]))), (0, vy x0)], []⟩) (by kernel_rfl) trivial ?_
  refine WP.seq ?_
  refine WP.path tab_ok mixed [(8, An.id 2008)] [.keep [3, 2], .keepO [2008]] (ps := [((1 = 1 ∧ 0 + 1 ≤ 3) ∧ True)]) (e := .normal) (σ' := ⟨[2008], [(3, V.ref 2008 0), (2, V.t (T.str (ByteArray.mk #[])))], [(2008, oc 127 [ty x0, ti 0, T.int .u64 0])]⟩) (by kernel_rfl) ⟨⟨⟨by first | rfl | (simp; done) | (simp []; done) | omega, by first | decide | (simp; done) | (simp []; done) | omega | (simp only [tlL]; omega) | (simp; omega)⟩, trivial⟩, trivial⟩ ?_
  refine WP.seq ?_
  obtain ⟨r10, r10b, r10c, r10d, r10e, r10g, c0, h⟩ := bnd6_some h
  refine WP.path tab_ok mixed [(10, An.callG [(500, 2008)] [V.ref 500 0] [(500, oc 127 [ty x0, ti 0, T.int .u64 0])] (V.t (T.agg [T.str r10, T.str r10b, ti r10c])) [(500, oc 127 [ty r10d, ti r10e, T.int .u64 r10g])]), (4, An.id 2004)] [.keep [4, 3, 2], .keepO [2004, 2008]] (ps := [(CG Tryd.prog 102 [V.ref 500 0] [(500, oc 127 [ty x0, ti 0, T.int .u64 0])] (V.t (T.agg [T.str r10, T.str r10b, ti r10c])) [(500, oc 127 [ty r10d, ti r10e, T.int .u64 r10g])]), ((V.ref 500 0).ren (renF [(500, 2008)]) = V.ref 2008 0), ((oc 127 [ty x0, ti 0, T.int .u64 0]) = (oc 127 [ty x0, ti 0, T.int .u64 0]).ren (renF [(500, 2008)])), ((0 + 3 ≤ 3 ∧ 3 = 3))]) (e := .normal) (σ' := ⟨[2004, 2008], [(4, V.ref 2004 0), (3, V.ref 2008 0), (2, V.t (T.str (ByteArray.mk #[])))], [(2004, oc 31 [T.str r10, T.str r10b, ti r10c]), (2008, oc 127 [ty r10d, ti r10e, T.int .u64 r10g])]⟩) (by kernel_rfl) ⟨(F_p_spec_l1Cur_log12_W x0 (0 : Int) (0 : Int) r10 r10b r10c r10d r10e r10g c0), by first | rfl | (simp [V.ren, V.renL, renF, lk]; done) | (simp [V.ren, V.renL, renF, lk]; omega), by first | rfl | (simp only [tlS]; rfl) | (simp [Tl.Obj.ren, V.ren, V.renL, renF, lk]; done), by decide, trivial⟩ ?_
  refine WP.seq ?_
  obtain ⟨c1, h⟩ := chk_some h
  refine WP.path tab_ok mixed [] [.keep [5, 3, 2], .keepO [2008]] (ps := [(True), (True), (r10.size + r10b.size ≤ 9223372036854775807)]) (e := .normal) (σ' := ⟨[2004, 2008], [(5, V.t (T.str (r10 ++ r10b))), (3, V.ref 2008 0), (2, V.t (T.str (ByteArray.mk #[])))], [(2008, oc 127 [ty r10d, ti r10e, T.int .u64 r10g])]⟩) (by kernel_rfl) ⟨trivial, trivial, c1, trivial⟩ ?_
  obtain ⟨J1, hJ1, h⟩ := jn_some h
  refine WP.joinA (fun (zz : (List Int) × Int × Int × ByteArray) => ⟨[2008], [(5, V.t (T.str zz.2.2.2)), (3, V.ref 2008 0), (2, V.t (T.str (ByteArray.mk #[])))], [(2008, oc 127 [ty zz.1, ti zz.2.1, T.int .u64 zz.2.2.1])]⟩) (fun zz => J1 zz.1 zz.2.1 zz.2.2.1 zz.2.2.2 = some y0) ?_ ?_
  · -- to where they meet
    refine WP.seq ?_
    obtain ⟨r17, r17b, r17c, r17d, c2, h⟩ := bnd4_some h
    refine WP.path tab_ok mixed [(17, An.callG [(500, 2008)] [V.ref 500 0, vi 4] [(500, oc 127 [ty r10d, ti r10e, T.int .u64 r10g])] (vi r17) [(500, oc 127 [ty r17b, ti r17c, T.int .u64 r17d])])] [.keep [17, 5, 3, 2], .keepO [2008]] (ps := [(CG Tryd.prog 99 [V.ref 500 0, vi 4] [(500, oc 127 [ty r10d, ti r10e, T.int .u64 r10g])] (vi r17) [(500, oc 127 [ty r17b, ti r17c, T.int .u64 r17d])]), ((V.ref 500 0).ren (renF [(500, 2008)]) = V.ref 2008 0), (WkT (ti 4) (ti 4)), ((oc 127 [ty r10d, ti r10e, T.int .u64 r10g]) = (oc 127 [ty r10d, ti r10e, T.int .u64 r10g]).ren (renF [(500, 2008)]))]) (e := .normal) (σ' := ⟨[2004, 2008], [(17, vi r17), (5, V.t (T.str (r10 ++ r10b))), (3, V.ref 2008 0), (2, V.t (T.str (ByteArray.mk #[])))], [(2008, oc 127 [ty r17b, ti r17c, T.int .u64 r17d])]⟩) (by kernel_rfl) ⟨(F_p_spec_l1Cur_pick_W r10d r10e r10g (4 : Int) r17 r17b r17c r17d c2), by first | rfl | (simp [V.ren, V.renL, renF, lk]; done) | (simp [V.ren, V.renL, renF, lk]; omega), WkT.refl _, by first | rfl | (simp only [tlS]; rfl) | (simp [Tl.Obj.ren, V.ren, V.renL, renF, lk]; done), trivial⟩ ?_
    refine WP.block ?_
    refine WP.seq ?_
    refine WP.path tab_ok mixed [] [.keep [18, 17, 5, 3, 2], .keepO [2008]] (ps := [(True)]) (e := .normal) (σ' := ⟨[2004, 2008], [(18, vb (r17 == (0 : Int))), (17, vi r17), (5, V.t (T.str (r10 ++ r10b))), (3, V.ref 2008 0), (2, V.t (T.str (ByteArray.mk #[])))], [(2008, oc 127 [ty r17b, ti r17c, T.int .u64 r17d])]⟩) (by kernel_rfl) ⟨trivial, trivial⟩ ?_
    rcases ite_some h with ⟨h1, h⟩ | ⟨h1, h⟩
    · -- yes
      refine WP.cond (b := r17 == (0 : Int)) rfl (fun _ => ?_) (fun hh => by rw [h1] at hh; cases hh)
      obtain ⟨r22, r22b, r22c, r22d, c3, h⟩ := bnd4_some h
      refine WP.path tab_ok mixed [(22, An.callG [(500, 2008)] [V.ref 500 0, V.t (T.str (r10 ++ r10b)), V.t (T.str (ByteArray.mk #[35, 64, 10, 48, 49]))] [(500, oc 127 [ty r17b, ti r17c, T.int .u64 r17d])] (V.t (T.str r22)) [(500, oc 127 [ty r22b, ti r22c, T.int .u64 r22d])])] [.keep [5, 3, 2], .keepO [2008], .names [(2008, 2008)]] (ps := [(CG Tryd.prog 103 [V.ref 500 0, V.t (T.str (r10 ++ r10b)), V.t (T.str (ByteArray.mk #[35, 64, 10, 48, 49]))] [(500, oc 127 [ty r17b, ti r17c, T.int .u64 r17d])] (V.t (T.str r22)) [(500, oc 127 [ty r22b, ti r22c, T.int .u64 r22d])]), ((V.ref 500 0).ren (renF [(500, 2008)]) = V.ref 2008 0), (WkT (T.str (r10 ++ r10b)) (T.str (r10 ++ r10b))), (WkT (T.str (ByteArray.mk #[35, 64, 10, 48, 49])) (T.str (ByteArray.mk #[35, 64, 10, 48, 49]))), ((oc 127 [ty r17b, ti r17c, T.int .u64 r17d]) = (oc 127 [ty r17b, ti r17c, T.int .u64 r17d]).ren (renF [(500, 2008)]))]) (e := .normal) (σ' := ⟨[2008], [(5, V.t (T.str r22)), (3, V.ref 2008 0), (2, V.t (T.str (ByteArray.mk #[])))], [(2008, oc 127 [ty r22b, ti r22c, T.int .u64 r22d])]⟩) (by kernel_rfl) ⟨(F_p_spec_l1Cur_spoilt_W r17b r17c r17d (r10 ++ r10b) (ByteArray.mk #[35, 64, 10, 48, 49]) r22 r22b r22c r22d c3), by first | rfl | (simp [V.ren, V.renL, renF, lk]; done) | (simp [V.ren, V.renL, renF, lk]; omega), WkT.refl _, WkT.refl _, by first | rfl | (simp only [tlS]; rfl) | (simp [Tl.Obj.ren, V.ren, V.renL, renF, lk]; done), trivial⟩ ?_
      exact ⟨(r22b, r22c, r22d, r22), h, rfl⟩
    · -- no
      refine WP.cond (b := r17 == (0 : Int)) rfl (fun hh => by rw [h1] at hh; cases hh) (fun _ => ?_)
      refine WP.seq ?_
      refine WP.path tab_ok mixed [] [.keep [23, 17, 5, 3, 2], .keepO [2008]] (ps := [(True)]) (e := .normal) (σ' := ⟨[2004, 2008], [(23, vb (r17 == (1 : Int))), (17, vi r17), (5, V.t (T.str (r10 ++ r10b))), (3, V.ref 2008 0), (2, V.t (T.str (ByteArray.mk #[])))], [(2008, oc 127 [ty r17b, ti r17c, T.int .u64 r17d])]⟩) (by kernel_rfl) ⟨trivial, trivial⟩ ?_
      rcases ite_some h with ⟨h2, h⟩ | ⟨h2, h⟩
      · -- yes
        refine WP.cond (b := r17 == (1 : Int)) rfl (fun _ => ?_) (fun hh => by rw [h2] at hh; cases hh)
        obtain ⟨c3, h⟩ := chk_some h
        obtain ⟨n29, c4, h⟩ := nam_some h
        obtain ⟨r30, r30b, r30c, r30d, c5, h⟩ := bnd4_some h
        obtain ⟨c6, h⟩ := chk_some h
        refine WP.path tab_ok mixed [(29, An.v (ti n29)), (30, An.callG [(500, 2008)] [V.ref 500 0, vi n29] [(500, oc 127 [ty r17b, ti r17c, T.int .u64 r17d])] (vi r30) [(500, oc 127 [ty r30b, ti r30c, T.int .u64 r30d])])] [.keep [5, 3, 2], .keepO [2008], .names [(2008, 2008)]] (ps := [(True), (T.int .i64 (IntKind.wrap .i64 (((ByteArray.size (r10 ++ r10b) : Nat) : Int) + (1 : Int))) = ti n29), (CG Tryd.prog 99 [V.ref 500 0, vi n29] [(500, oc 127 [ty r17b, ti r17c, T.int .u64 r17d])] (vi r30) [(500, oc 127 [ty r30b, ti r30c, T.int .u64 r30d])]), ((V.ref 500 0).ren (renF [(500, 2008)]) = V.ref 2008 0), (WkT (ti n29) (ti n29)), ((oc 127 [ty r17b, ti r17c, T.int .u64 r17d]) = (oc 127 [ty r17b, ti r17c, T.int .u64 r17d]).ren (renF [(500, 2008)])), ((0 ≤ (0 : Int) ∧ (0 : Int) ≤ r30 ∧ r30 ≤ ((ByteArray.size (r10 ++ r10b) : Nat) : Int)))]) (e := .normal) (σ' := ⟨[2008], [(5, V.t (T.str (ByteArray.extract (r10 ++ r10b) 0 (Int.toNat r30)))), (3, V.ref 2008 0), (2, V.t (T.str (ByteArray.mk #[])))], [(2008, oc 127 [ty r30b, ti r30c, T.int .u64 r30d])]⟩) (by kernel_rfl) ⟨trivial, Eq.trans (wrapI c3) (congrArg (ti) c4), (F_p_spec_l1Cur_pick_W r17b r17c r17d n29 r30 r30b r30c r30d c5), by first | rfl | (simp [V.ren, V.renL, renF, lk]; done) | (simp [V.ren, V.renL, renF, lk]; omega), WkT.refl _, by first | rfl | (simp only [tlS]; rfl) | (simp [Tl.Obj.ren, V.ren, V.renL, renF, lk]; done), c6, trivial⟩ ?_
        exact ⟨(r30b, r30c, r30d, (ByteArray.extract (r10 ++ r10b) 0 (Int.toNat r30))), h, rfl⟩
      · -- no
        refine WP.cond (b := r17 == (1 : Int)) rfl (fun hh => by rw [h2] at hh; cases hh) (fun _ => ?_)
        refine WP.seq ?_
        refine WP.path tab_ok mixed [] [.keep [32, 5, 3, 2], .keepO [2008]] (ps := [(True)]) (e := .normal) (σ' := ⟨[2004, 2008], [(32, vb (r17 == (2 : Int))), (5, V.t (T.str (r10 ++ r10b))), (3, V.ref 2008 0), (2, V.t (T.str (ByteArray.mk #[])))], [(2008, oc 127 [ty r17b, ti r17c, T.int .u64 r17d])]⟩) (by kernel_rfl) ⟨trivial, trivial⟩ ?_
        rcases ite_some h with ⟨h3, h⟩ | ⟨h3, h⟩
        · -- yes
          refine WP.cond (b := r17 == (2 : Int)) rfl (fun _ => ?_) (fun hh => by rw [h3] at hh; cases hh)
          obtain ⟨r36, r36b, r36c, r36d, c3, h⟩ := bnd4_some h
          obtain ⟨r38, r38b, r38c, r38d, r38e, c4, h⟩ := bnd5_some h
          obtain ⟨r39, c5, h⟩ := bnd1_some h
          obtain ⟨c6, h⟩ := chk_some h
          refine WP.path tab_ok mixed [(36, An.callG [(500, 2008)] [V.ref 500 0, vi 4] [(500, oc 127 [ty r17b, ti r17c, T.int .u64 r17d])] (vi r36) [(500, oc 127 [ty r36b, ti r36c, T.int .u64 r36d])]), (38, An.callG [(500, 2008)] [V.ref 500 0] [(500, oc 127 [ty r36b, ti r36c, T.int .u64 r36d])] (V.t (T.agg [T.str r38, T.str r38b])) [(500, oc 127 [ty r38c, ti r38d, T.int .u64 r38e])]), (39, An.call (T.str r39))] [.keep [5, 3, 2], .keepO [2008], .names [(2008, 2008)]] (ps := [(CG Tryd.prog 99 [V.ref 500 0, vi 4] [(500, oc 127 [ty r17b, ti r17c, T.int .u64 r17d])] (vi r36) [(500, oc 127 [ty r36b, ti r36c, T.int .u64 r36d])]), ((V.ref 500 0).ren (renF [(500, 2008)]) = V.ref 2008 0), (WkT (ti 4) (ti 4)), ((oc 127 [ty r17b, ti r17c, T.int .u64 r17d]) = (oc 127 [ty r17b, ti r17c, T.int .u64 r17d]).ren (renF [(500, 2008)])), (CG Tryd.prog 95 [V.ref 500 0] [(500, oc 127 [ty r36b, ti r36c, T.int .u64 r36d])] (V.t (T.agg [T.str r38, T.str r38b])) [(500, oc 127 [ty r38c, ti r38d, T.int .u64 r38e])]), ((V.ref 500 0).ren (renF [(500, 2008)]) = V.ref 2008 0), ((oc 127 [ty r36b, ti r36c, T.int .u64 r36d]) = (oc 127 [ty r36b, ti r36c, T.int .u64 r36d]).ren (renF [(500, 2008)])), (C Tryd.prog 82 [ti r36, T.agg [T.str r38, T.str r38b]] (T.str r39)), ((r10 ++ r10b).size + r39.size ≤ 9223372036854775807)]) (e := .normal) (σ' := ⟨[2008], [(5, V.t (T.str ((r10 ++ r10b) ++ r39))), (3, V.ref 2008 0), (2, V.t (T.str (ByteArray.mk #[])))], [(2008, oc 127 [ty r38c, ti r38d, T.int .u64 r38e])]⟩) (by kernel_rfl) ⟨(F_p_spec_l1Cur_pick_W r17b r17c r17d (4 : Int) r36 r36b r36c r36d c3), by first | rfl | (simp [V.ren, V.renL, renF, lk]; done) | (simp [V.ren, V.renL, renF, lk]; omega), WkT.refl _, by first | rfl | (simp only [tlS]; rfl) | (simp [Tl.Obj.ren, V.ren, V.renL, renF, lk]; done), (F_p_spec_l1Cur_logRecord_W r36b r36c r36d r38 r38b r38c r38d r38e c4), by first | rfl | (simp [V.ren, V.renL, renF, lk]; done) | (simp [V.ren, V.renL, renF, lk]; omega), by first | rfl | (simp only [tlS]; rfl) | (simp [Tl.Obj.ren, V.ren, V.renL, renF, lk]; done), (F_spec_l12Line_W r36 r38 r38b r39 c5), c6, trivial⟩ ?_
          exact ⟨(r38c, r38d, r38e, ((r10 ++ r10b) ++ r39)), h, rfl⟩
        · -- no
          refine WP.cond (b := r17 == (2 : Int)) rfl (fun hh => by rw [h3] at hh; cases hh) (fun _ => ?_)
          refine WP.path tab_ok mixed [] [.keep [5, 3, 2], .keepO [2008], .names [(2008, 2008)]] (ps := []) (e := .normal) (σ' := ⟨[2008], [(5, V.t (T.str (r10 ++ r10b))), (3, V.ref 2008 0), (2, V.t (T.str (ByteArray.mk #[])))], [(2008, oc 127 [ty r17b, ti r17c, T.int .u64 r17d])]⟩) (by kernel_rfl) trivial ?_
          exact ⟨(r17b, r17c, r17d, (r10 ++ r10b)), h, rfl⟩
  · -- from there
    rintro ⟨o8, o8b, o8c, v5⟩ h0
    have h := (show J1 o8 o8b o8c v5 = some y0 from h0)
    rw [hJ1] at h
    refine WP.seq ?_
    refine WP.seq ?_
    obtain ⟨r42, r42b, r42c, r42d, c2, h⟩ := bnd4_some h
    refine WP.path tab_ok mixed [(42, An.callG [(500, 2008)] [V.ref 500 0, vi 40] [(500, oc 127 [ty o8, ti o8b, T.int .u64 o8c])] (vb r42) [(500, oc 127 [ty r42b, ti r42c, T.int .u64 r42d])])] [.keep [42, 5, 3, 2], .keepO [2008]] (ps := [(CG Tryd.prog 98 [V.ref 500 0, vi 40] [(500, oc 127 [ty o8, ti o8b, T.int .u64 o8c])] (vb r42) [(500, oc 127 [ty r42b, ti r42c, T.int .u64 r42d])]), ((V.ref 500 0).ren (renF [(500, 2008)]) = V.ref 2008 0), (WkT (ti 40) (ti 40)), ((oc 127 [ty o8, ti o8b, T.int .u64 o8c]) = (oc 127 [ty o8, ti o8b, T.int .u64 o8c]).ren (renF [(500, 2008)]))]) (e := .normal) (σ' := ⟨[2008], [(42, vb r42), (5, V.t (T.str v5)), (3, V.ref 2008 0), (2, V.t (T.str (ByteArray.mk #[])))], [(2008, oc 127 [ty r42b, ti r42c, T.int .u64 r42d])]⟩) (by kernel_rfl) ⟨(F_p_spec_l1Cur_one_W o8 o8b o8c (40 : Int) r42 r42b r42c r42d c2), by first | rfl | (simp [V.ren, V.renL, renF, lk]; done) | (simp [V.ren, V.renL, renF, lk]; omega), WkT.refl _, by first | rfl | (simp only [tlS]; rfl) | (simp [Tl.Obj.ren, V.ren, V.renL, renF, lk]; done), trivial⟩ ?_
    rcases ite_some h with ⟨h4, h⟩ | ⟨h4, h⟩
    · -- yes
      refine WP.cond (b := r42) rfl (fun _ => ?_) (fun hh => by rw [h4] at hh; cases hh)
      obtain ⟨r44, r44b, r44c, r44d, c3, h⟩ := bnd4_some h
      obtain ⟨c4, h⟩ := chk_some h
      obtain ⟨c5, h⟩ := chk_some h
      refine WP.path tab_ok mixed [(44, An.callG [(500, 2008)] [V.ref 500 0, vi 2] [(500, oc 127 [ty r42b, ti r42c, T.int .u64 r42d])] (vi r44) [(500, oc 127 [ty r44b, ti r44c, T.int .u64 r44d])]), (45, An.v (T.int .i64 ((30000 : Int) + r44))), (46, An.id 2046), (47, An.same (List.replicate (Int.toNat ((30000 : Int) + r44)) (0 : Int)))] [.keep [5, 2], .keepO []] (ps := [(CG Tryd.prog 99 [V.ref 500 0, vi 2] [(500, oc 127 [ty r42b, ti r42c, T.int .u64 r42d])] (vi r44) [(500, oc 127 [ty r44b, ti r44c, T.int .u64 r44d])]), ((V.ref 500 0).ren (renF [(500, 2008)]) = V.ref 2008 0), (WkT (ti 2) (ti 2)), ((oc 127 [ty r42b, ti r42c, T.int .u64 r42d]) = (oc 127 [ty r42b, ti r42c, T.int .u64 r42d]).ren (renF [(500, 2008)])), (True), (T.int .i64 (IntKind.wrap .i64 ((30000 : Int) + r44)) = T.int .i64 ((30000 : Int) + r44)), ((0 ≤ ((30000 : Int) + r44) ∧ ((30000 : Int) + r44) ≤ ((30000 : Int) + r44) ∧ (1 : Int) * ((30000 : Int) + r44) ≤ 281474976710656 ∧ ((30000 : Int) + r44) ≤ (maxLen : Int))), (List.length (List.replicate (Int.toNat ((30000 : Int) + r44)) (T.int .u8 0)) = (Int.toNat ((30000 : Int) + r44)) * 1), (List.replicate (Int.toNat ((30000 : Int) + r44)) (T.int .u8 0) = List.map (T.int .u8) (List.replicate (Int.toNat ((30000 : Int) + r44)) (0 : Int)))]) (e := .normal) (σ' := ⟨[2046, 2008], [(5, V.t (T.str (bstr (List.replicate (Int.toNat ((30000 : Int) + r44)) (0 : Int))))), (2, V.t (T.str (ByteArray.mk #[])))], []⟩) (by kernel_rfl) ⟨(F_p_spec_l1Cur_pick_W r42b r42c r42d (2 : Int) r44 r44b r44c r44d c3), by first | rfl | (simp [V.ren, V.renL, renF, lk]; done) | (simp [V.ren, V.renL, renF, lk]; omega), WkT.refl _, by first | rfl | (simp only [tlS]; rfl) | (simp [Tl.Obj.ren, V.ren, V.renL, renF, lk]; done), trivial, wrapI c4, c5, by first | rfl | omega | (simp only [tlL] <;> omega) | (simp <;> omega) | (simp [] <;> omega), (by first | rfl | (simp only [tlS]; done) | (simp; done)), trivial⟩ ?_
      have h := Option.some.inj h
      subst h
      exact WP.pathW tab_ok mixed [] _ (ps := []) (r := T.str (bstr (List.replicate (Int.toNat ((30000 : Int) + r44)) (0 : Int)))) (by kernel_rfl) trivial (WkT.eq (y := T.str (bstr (List.replicate (Int.toNat ((30000 : Int) + r44)) (0 : Int)))) (WkT.refl _) rfl) (fun _ h => h)
    · -- no
      refine WP.cond (b := r42) rfl (fun hh => by rw [h4] at hh; cases hh) (fun _ => ?_)
      refine WP.path tab_ok mixed [] [.keep [5, 2], .keepO []] (ps := []) (e := .normal) (σ' := ⟨[2008], [(5, V.t (T.str v5)), (2, V.t (T.str (ByteArray.mk #[])))], []⟩) (by kernel_rfl) trivial ?_
      have h := Option.some.inj h
      subst h
      exact WP.pathW tab_ok mixed [] _ (ps := []) (r := T.str v5) (by kernel_rfl) trivial (WkT.eq (y := T.str v5) (WkT.refl _) rfl) (fun _ h => h)
theorem F_laws_FnCrashes_W (x0 : List Int) (y0 : Bool) (h : F_laws_FnCrashes x0 = some y0) : C Tryd.prog 12 [ty x0] (tb y0) := by
  unfold F_laws_FnCrashes at h
  refine C.intro (tab := tab) tab_ok (fn := Tryd.f12) Tryd.func12 (by kernel_rfl) rfl (Nat.le_of_ble_eq_true rfl) ?_
  refine WP.seq ?_
  refine WP.path tab_ok mixed [] [.keep [2, 0], .keepO []] (ps := []) (e := .normal) (σ' := ⟨[], [(2, vb false), (0, vy x0)], []⟩) (by kernel_rfl) trivial ?_
  refine WP.seq ?_
  refine WP.seq ?_
  obtain ⟨c0, h⟩ := chk_some h
  refine WP.path tab_ok mixed [(25, An.call (tb (decide (((List.length x0 : Nat) : Int) > (65536 : Int)))))] [.keep [25, 2, 0], .keepO []] (ps := [(C Tryd.prog 40 [ty x0] (tb (decide (((List.length x0 : Nat) : Int) > (65536 : Int)))))]) (e := .normal) (σ' := ⟨[], [(25, vb (decide (((List.length x0 : Nat) : Int) > (65536 : Int)))), (2, vb false), (0, vy x0)], []⟩) (by kernel_rfl) ⟨(vBig_C x0 c0), trivial⟩ ?_
  rcases ite_some h with ⟨h1, h⟩ | ⟨h1, h⟩
  · -- yes
    refine WP.cond (b := decide (((List.length x0 : Nat) : Int) > (65536 : Int))) rfl (fun _ => ?_) (fun hh => by rw [h1] at hh; cases hh)
    have h := Option.some.inj h
    subst h
    exact WP.pathW tab_ok mixed [] _ (ps := []) (r := tb true) (by kernel_rfl) trivial (WkT.eq (y := tb true) (WkT.refl _) rfl) (fun _ h => h)
  · -- no
    refine WP.cond (b := decide (((List.length x0 : Nat) : Int) > (65536 : Int))) rfl (fun hh => by rw [h1] at hh; cases hh) (fun _ => ?_)
    refine WP.path tab_ok mixed [] [.keep [2, 0], .keepO []] (ps := []) (e := .normal) (σ' := ⟨[], [(2, vb false), (0, vy x0)], []⟩) (by kernel_rfl) trivial ?_
    refine WP.seq ?_
    obtain ⟨r28, r28b, r28c, r28d, r28e, c1, h⟩ := bnd5_some h
    refine WP.path tab_ok mixed [(28, An.call (T.tup [T.agg [T.str r28, T.str r28b, ti r28c], ti r28d, tb r28e])), (3, An.id 2003)] [.keep [5, 4, 3, 2, 0], .keepO [2003]] (ps := [(C Tryd.prog 49 [ty x0] (T.tup [T.agg [T.str r28, T.str r28b, ti r28c], ti r28d, tb r28e])), ((0 + 3 ≤ 3 ∧ 3 = 3))]) (e := .normal) (σ' := ⟨[2003], [(5, vb r28e), (4, vi r28d), (3, V.ref 2003 0), (2, vb false), (0, vy x0)], [(2003, oc 31 [T.str r28, T.str r28b, ti r28c])]⟩) (by kernel_rfl) ⟨(F_spec_DrawCrashLog_W x0 r28 r28b r28c r28d r28e c1), by decide, trivial⟩ ?_
    refine WP.seq ?_
    obtain ⟨r36, r36b, c2, h⟩ := bnd2_some h
    refine WP.path tab_ok mixed [(36, An.call (T.tup [T.str r36, tb r36b]))] [.keep [7, 6, 5, 4, 3, 2, 0], .keepO [2003]] (ps := [(0 + 3 ≤ 3), (C Tryd.prog 26 [T.agg [T.str r28, T.str r28b, ti r28c], ti r28d, tb r28e] (T.tup [T.str r36, tb r36b]))]) (e := .normal) (σ' := ⟨[2003], [(7, vb r36b), (6, V.t (T.str r36)), (5, vb r28e), (4, vi r28d), (3, V.ref 2003 0), (2, vb false), (0, vy x0)], [(2003, oc 31 [T.str r28, T.str r28b, ti r28c])]⟩) (by kernel_rfl) ⟨by decide, (F_impl_CrashLog_W r28 r28b r28c r28d r28e r36 r36b c2), trivial⟩ ?_
    refine WP.seq ?_
    obtain ⟨r43, r43b, c3, h⟩ := bnd2_some h
    refine WP.path tab_ok mixed [(43, An.call (T.tup [T.str r43, tb r43b]))] [.keep [9, 8, 7, 6, 5, 4, 3, 2, 0], .keepO [2003]] (ps := [(0 + 3 ≤ 3), (C Tryd.prog 25 [T.agg [T.str r28, T.str r28b, ti r28c], ti r28d, tb r28e] (T.tup [T.str r43, tb r43b]))]) (e := .normal) (σ' := ⟨[2003], [(9, vb r43b), (8, V.t (T.str r43)), (7, vb r36b), (6, V.t (T.str r36)), (5, vb r28e), (4, vi r28d), (3, V.ref 2003 0), (2, vb false), (0, vy x0)], [(2003, oc 31 [T.str r28, T.str r28b, ti r28c])]⟩) (by kernel_rfl) ⟨by decide, (F_spec_CrashLog_W r28 r28b r28c r28d r28e r43 r43b c3), trivial⟩ ?_
    refine WP.seq ?_
    obtain ⟨c4, h⟩ := chk_some h
    obtain ⟨r48, c5, h⟩ := bnd1_some h
    refine WP.path tab_ok mixed [(47, An.call (ty (cutY x0 (1 : Int)))), (48, An.call (T.str r48))] [.keep [10, 9, 8, 7, 6, 5, 4, 3, 2], .keepO [2003]] (ps := [(C Tryd.prog 43 [ty x0, ti 1] (ty (cutY x0 (1 : Int)))), (C Tryd.prog 50 [ty (cutY x0 (1 : Int))] (T.str r48))]) (e := .normal) (σ' := ⟨[2003], [(10, V.t (T.str r48)), (9, vb r43b), (8, V.t (T.str r43)), (7, vb r36b), (6, V.t (T.str r36)), (5, vb r28e), (4, vi r28d), (3, V.ref 2003 0), (2, vb false)], [(2003, oc 31 [T.str r28, T.str r28b, ti r28c])]⟩) (by kernel_rfl) ⟨(by have hh := (vCut_C x0 (1 : Int) (show 0 ≤ (1 : Int) by first | decide | (simp only [maxLen]; omega) | (unfold I64; omega) | (unfold I64; decide)) (show (1 : Int) ≤ 255 by first | decide | (simp only [maxLen]; omega) | (unfold I64; omega) | (unfold I64; decide)) c4); first | exact hh | simpa using hh), (F_spec_DrawRecoverLog_W (cutY x0 (1 : Int)) r48 c5), trivial⟩ ?_
    refine WP.seq ?_
    obtain ⟨r51, r51b, r51c, r51d, r51e, c6, h⟩ := bnd5_some h
    refine WP.path tab_ok mixed [(51, An.call (T.tup [T.agg [T.str r51, T.str r51b, ti r51c], ti r51d, tb r51e])), (11, An.id 2011)] [.keep [13, 12, 11, 10, 9, 8, 7, 6, 5, 4, 3, 2], .keepO [2003, 2011]] (ps := [(C Tryd.prog 19 [T.str r48] (T.tup [T.agg [T.str r51, T.str r51b, ti r51c], ti r51d, tb r51e])), ((0 + 3 ≤ 3 ∧ 3 = 3))]) (e := .normal) (σ' := ⟨[2011, 2003], [(13, vb r51e), (12, vi r51d), (11, V.ref 2011 0), (10, V.t (T.str r48)), (9, vb r43b), (8, V.t (T.str r43)), (7, vb r36b), (6, V.t (T.str r36)), (5, vb r28e), (4, vi r28d), (3, V.ref 2003 0), (2, vb false)], [(2003, oc 31 [T.str r28, T.str r28b, ti r28c]), (2011, oc 31 [T.str r51, T.str r51b, ti r51c])]⟩) (by kernel_rfl) ⟨(F_impl_RecoverLog_W r48 r51 r51b r51c r51d r51e c6), by decide, trivial⟩ ?_
    refine WP.seq ?_
    obtain ⟨r57, r57b, r57c, r57d, r57e, c7, h⟩ := bnd5_some h
    refine WP.path tab_ok mixed [(57, An.call (T.tup [T.agg [T.str r57, T.str r57b, ti r57c], ti r57d, tb r57e])), (14, An.id 2014)] [.keep [16, 15, 14, 13, 12, 11, 9, 8, 7, 6, 5, 4, 3, 2], .keepO [2003, 2011, 2014]] (ps := [(C Tryd.prog 18 [T.str r48] (T.tup [T.agg [T.str r57, T.str r57b, ti r57c], ti r57d, tb r57e])), ((0 + 3 ≤ 3 ∧ 3 = 3))]) (e := .normal) (σ' := ⟨[2014, 2011, 2003], [(16, vb r57e), (15, vi r57d), (14, V.ref 2014 0), (13, vb r51e), (12, vi r51d), (11, V.ref 2011 0), (9, vb r43b), (8, V.t (T.str r43)), (7, vb r36b), (6, V.t (T.str r36)), (5, vb r28e), (4, vi r28d), (3, V.ref 2003 0), (2, vb false)], [(2003, oc 31 [T.str r28, T.str r28b, ti r28c]), (2011, oc 31 [T.str r51, T.str r51b, ti r51c]), (2014, oc 31 [T.str r57, T.str r57b, ti r57c])]⟩) (by kernel_rfl) ⟨(F_spec_RecoverLog_W r48 r57 r57b r57c r57d r57e c7), by decide, trivial⟩ ?_
    refine WP.seq ?_
    obtain ⟨J1, hJ1, h⟩ := jn_some h
    refine WP.joinA (fun (zz : Bool) => ⟨[2003], [(83, vb zz), (7, vb r36b), (6, V.t (T.str r36)), (5, vb r28e), (4, vi r28d), (3, V.ref 2003 0), (2, vb false)], [(2003, oc 31 [T.str r28, T.str r28b, ti r28c])]⟩) (fun zz => J1 zz = some y0) ?_ ?_
    · -- to where they meet
      rcases ite_some h with ⟨h2, h⟩ | ⟨h2, h⟩
      · -- yes
        refine WP.path tab_ok mixed [(63, An.b true)] [.keep [83, 7, 6, 5, 4, 3, 2], .keepO [2003], .names [(2003, 2003)]] (ps := [(True), ((!(r36.toList == r43.toList)) = true)]) (e := .normal) (σ' := ⟨[2003], [(83, vb true), (7, vb r36b), (6, V.t (T.str r36)), (5, vb r28e), (4, vi r28d), (3, V.ref 2003 0), (2, vb false)], [(2003, oc 31 [T.str r28, T.str r28b, ti r28c])]⟩) (by kernel_rfl) ⟨trivial, h2, trivial⟩ ?_
        exact ⟨(true), h, rfl⟩
      · -- no
        rcases ite_some h with ⟨h3, h⟩ | ⟨h3, h⟩
        · -- yes
          refine WP.path tab_ok mixed [(63, An.b false), (67, An.b true)] [.keep [83, 7, 6, 5, 4, 3, 2], .keepO [2003], .names [(2003, 2003)]] (ps := [(True), ((!(r36.toList == r43.toList)) = false), (True), ((!(r36b == r43b)) = true)]) (e := .normal) (σ' := ⟨[2003], [(83, vb true), (7, vb r36b), (6, V.t (T.str r36)), (5, vb r28e), (4, vi r28d), (3, V.ref 2003 0), (2, vb false)], [(2003, oc 31 [T.str r28, T.str r28b, ti r28c])]⟩) (by kernel_rfl) ⟨trivial, h2, trivial, h3, trivial⟩ ?_
          exact ⟨(true), h, rfl⟩
        · -- no
          rcases ite_some h with ⟨h4, h⟩ | ⟨h4, h⟩
          · -- yes
            refine WP.path tab_ok mixed [(63, An.b false), (67, An.b false), (72, An.b true)] [.keep [83, 7, 6, 5, 4, 3, 2], .keepO [2003], .names [(2003, 2003)]] (ps := [(True), ((!(r36.toList == r43.toList)) = false), (True), ((!(r36b == r43b)) = false), (0 + 3 ≤ 3), (0 + 3 ≤ 3), (chkEq Tryd.prog 31 [T.str r51, T.str r51b, ti r51c] = true), ((!((r51.toList == r57.toList) && ((r51b.toList == r57b.toList) && ((r51c == r57c) && (true))))) = true)]) (e := .normal) (σ' := ⟨[2003], [(83, vb true), (7, vb r36b), (6, V.t (T.str r36)), (5, vb r28e), (4, vi r28d), (3, V.ref 2003 0), (2, vb false)], [(2003, oc 31 [T.str r28, T.str r28b, ti r28c])]⟩) (by kernel_rfl) ⟨trivial, h2, trivial, h3, by decide, by decide, by kernel_rfl, h4, trivial⟩ ?_
            exact ⟨(true), h, rfl⟩
          · -- no
            rcases ite_some h with ⟨h5, h⟩ | ⟨h5, h⟩
            · -- yes
              refine WP.path tab_ok mixed [(63, An.b false), (67, An.b false), (72, An.b false), (77, An.b true)] [.keep [83, 7, 6, 5, 4, 3, 2], .keepO [2003], .names [(2003, 2003)]] (ps := [(True), ((!(r36.toList == r43.toList)) = false), (True), ((!(r36b == r43b)) = false), (0 + 3 ≤ 3), (0 + 3 ≤ 3), (chkEq Tryd.prog 31 [T.str r51, T.str r51b, ti r51c] = true), ((!((r51.toList == r57.toList) && ((r51b.toList == r57b.toList) && ((r51c == r57c) && (true))))) = false), (True), ((r51d != r57d) = true)]) (e := .normal) (σ' := ⟨[2003], [(83, vb true), (7, vb r36b), (6, V.t (T.str r36)), (5, vb r28e), (4, vi r28d), (3, V.ref 2003 0), (2, vb false)], [(2003, oc 31 [T.str r28, T.str r28b, ti r28c])]⟩) (by kernel_rfl) ⟨trivial, h2, trivial, h3, by decide, by decide, by kernel_rfl, h4, trivial, h5, trivial⟩ ?_
              exact ⟨(true), h, rfl⟩
            · -- no
              refine WP.path tab_ok mixed [(63, An.b false), (67, An.b false), (72, An.b false), (77, An.b false)] [.keep [83, 7, 6, 5, 4, 3, 2], .keepO [2003], .names [(2003, 2003)]] (ps := [(True), ((!(r36.toList == r43.toList)) = false), (True), ((!(r36b == r43b)) = false), (0 + 3 ≤ 3), (0 + 3 ≤ 3), (chkEq Tryd.prog 31 [T.str r51, T.str r51b, ti r51c] = true), ((!((r51.toList == r57.toList) && ((r51b.toList == r57b.toList) && ((r51c == r57c) && (true))))) = false), (True), ((r51d != r57d) = false), (True)]) (e := .normal) (σ' := ⟨[2003], [(83, vb (!(r51e == r57e))), (7, vb r36b), (6, V.t (T.str r36)), (5, vb r28e), (4, vi r28d), (3, V.ref 2003 0), (2, vb false)], [(2003, oc 31 [T.str r28, T.str r28b, ti r28c])]⟩) (by kernel_rfl) ⟨trivial, h2, trivial, h3, by decide, by decide, by kernel_rfl, h4, trivial, h5, trivial, trivial⟩ ?_
              exact ⟨(!(r51e == r57e)), h, rfl⟩
    · -- from there
      intro v83 h0
      have h := (show J1 v83 = some y0 from h0)
      rw [hJ1] at h
      rcases ite_some h with ⟨h6, h⟩ | ⟨h6, h⟩
      · -- yes
        refine WP.cond (b := v83) rfl (fun _ => ?_) (fun hh => by rw [h6] at hh; cases hh)
        have h := Option.some.inj h
        subst h
        exact WP.pathW tab_ok mixed [] _ (ps := []) (r := tb false) (by kernel_rfl) trivial (WkT.eq (y := tb false) (WkT.refl _) rfl) (fun _ h => h)
      · -- no
        refine WP.cond (b := v83) rfl (fun hh => by rw [h6] at hh; cases hh) (fun _ => ?_)
        refine WP.path tab_ok mixed [] [.keep [7, 6, 5, 4, 3, 2], .keepO [2003]] (ps := []) (e := .normal) (σ' := ⟨[2003], [(7, vb r36b), (6, V.t (T.str r36)), (5, vb r28e), (4, vi r28d), (3, V.ref 2003 0), (2, vb false)], [(2003, oc 31 [T.str r28, T.str r28b, ti r28c])]⟩) (by kernel_rfl) trivial ?_
        refine WP.seq ?_
        refine WP.seq ?_
        refine WP.path tab_ok mixed [] [.keep [85, 6, 5, 4, 3, 2], .keepO [2003]] (ps := []) (e := .normal) (σ' := ⟨[2003], [(85, vb (!r36b)), (6, V.t (T.str r36)), (5, vb r28e), (4, vi r28d), (3, V.ref 2003 0), (2, vb false)], [(2003, oc 31 [T.str r28, T.str r28b, ti r28c])]⟩) (by kernel_rfl) trivial ?_
        rcases ite_some h with ⟨h7, h⟩ | ⟨h7, h⟩
        · -- yes
          refine WP.cond (b := !r36b) rfl (fun _ => ?_) (fun hh => by rw [h7] at hh; cases hh)
          have h := Option.some.inj h
          subst h
          exact WP.pathW tab_ok mixed [] _ (ps := []) (r := tb true) (by kernel_rfl) trivial (WkT.eq (y := tb true) (WkT.refl _) rfl) (fun _ h => h)
        · -- no
          refine WP.cond (b := !r36b) rfl (fun hh => by rw [h7] at hh; cases hh) (fun _ => ?_)
          refine WP.path tab_ok mixed [] [.keep [6, 5, 4, 3, 2], .keepO [2003]] (ps := []) (e := .normal) (σ' := ⟨[2003], [(6, V.t (T.str r36)), (5, vb r28e), (4, vi r28d), (3, V.ref 2003 0), (2, vb false)], [(2003, oc 31 [T.str r28, T.str r28b, ti r28c])]⟩) (by kernel_rfl) trivial ?_
          refine WP.seq ?_
          obtain ⟨r88, r88b, r88c, r88d, r88e, c8, h⟩ := bnd5_some h
          refine WP.path tab_ok mixed [(88, An.call (T.tup [T.agg [T.str r88, T.str r88b, ti r88c], ti r88d, tb r88e])), (17, An.id 2017)] [.keep [19, 18, 17, 5, 4, 3, 2], .keepO [2003, 2017]] (ps := [(C Tryd.prog 19 [T.str r36] (T.tup [T.agg [T.str r88, T.str r88b, ti r88c], ti r88d, tb r88e])), ((0 + 3 ≤ 3 ∧ 3 = 3))]) (e := .normal) (σ' := ⟨[2017, 2003], [(19, vb r88e), (18, vi r88d), (17, V.ref 2017 0), (5, vb r28e), (4, vi r28d), (3, V.ref 2003 0), (2, vb false)], [(2003, oc 31 [T.str r28, T.str r28b, ti r28c]), (2017, oc 31 [T.str r88, T.str r88b, ti r88c])]⟩) (by kernel_rfl) ⟨(F_impl_RecoverLog_W r36 r88 r88b r88c r88d r88e c8), by decide, trivial⟩ ?_
          refine WP.seq ?_
          obtain ⟨J1, hJ1, h⟩ := jn_some h
          refine WP.joinA (fun (zz : Bool) => ⟨[2003, 2017], [(112, vb zz), (17, V.ref 2017 0), (5, vb r28e), (4, vi r28d), (3, V.ref 2003 0), (2, vb false)], [(2003, oc 31 [T.str r28, T.str r28b, ti r28c]), (2017, oc 31 [T.str r88, T.str r88b, ti r88c])]⟩) (fun zz => J1 zz = some y0) ?_ ?_
          · -- to where they meet
            rcases ite_some h with ⟨h8, h⟩ | ⟨h8, h⟩
            · -- yes
              refine WP.path tab_ok mixed [(94, An.b true)] [.keep [112, 17, 5, 4, 3, 2], .keepO [2003, 2017], .names [(2003, 2003), (2017, 2017)]] (ps := [((!r88e) = true)]) (e := .normal) (σ' := ⟨[2003, 2017], [(112, vb true), (17, V.ref 2017 0), (5, vb r28e), (4, vi r28d), (3, V.ref 2003 0), (2, vb false)], [(2003, oc 31 [T.str r28, T.str r28b, ti r28c]), (2017, oc 31 [T.str r88, T.str r88b, ti r88c])]⟩) (by kernel_rfl) ⟨h8, trivial⟩ ?_
              exact ⟨(true), h, rfl⟩
            · -- no
              obtain ⟨r96, c9, h⟩ := bnd1_some h
              rcases ite_some h with ⟨h9, h⟩ | ⟨h9, h⟩
              · -- yes
                refine WP.path tab_ok mixed [(94, An.b false), (96, An.call (tb r96)), (99, An.b true)] [.keep [112, 17, 5, 4, 3, 2], .keepO [2003, 2017], .names [(2003, 2003), (2017, 2017)]] (ps := [((!r88e) = false), (0 + 3 ≤ 3), (C Tryd.prog 24 [T.agg [T.str r88, T.str r88b, ti r88c]] (tb r96)), ((!r96) = true)]) (e := .normal) (σ' := ⟨[2003, 2017], [(112, vb true), (17, V.ref 2017 0), (5, vb r28e), (4, vi r28d), (3, V.ref 2003 0), (2, vb false)], [(2003, oc 31 [T.str r28, T.str r28b, ti r28c]), (2017, oc 31 [T.str r88, T.str r88b, ti r88c])]⟩) (by kernel_rfl) ⟨h8, by decide, (F_impl_IsValidLog_W r88 r88b r88c r96 c9), h9, trivial⟩ ?_
                exact ⟨(true), h, rfl⟩
              · -- no
                rcases ite_some h with ⟨h10, h⟩ | ⟨h10, h⟩
                · -- yes
                  refine WP.path tab_ok mixed [(94, An.b false), (96, An.call (tb r96)), (99, An.b false), (104, An.b true)] [.keep [112, 17, 5, 4, 3, 2], .keepO [2003, 2017], .names [(2003, 2003), (2017, 2017)]] (ps := [((!r88e) = false), (0 + 3 ≤ 3), (C Tryd.prog 24 [T.agg [T.str r88, T.str r88b, ti r88c]] (tb r96)), ((!r96) = false), (True), (True), ((decide (r88d < ((ByteArray.size r28 : Nat) : Int))) = true)]) (e := .normal) (σ' := ⟨[2003, 2017], [(112, vb true), (17, V.ref 2017 0), (5, vb r28e), (4, vi r28d), (3, V.ref 2003 0), (2, vb false)], [(2003, oc 31 [T.str r28, T.str r28b, ti r28c]), (2017, oc 31 [T.str r88, T.str r88b, ti r88c])]⟩) (by kernel_rfl) ⟨h8, by decide, (F_impl_IsValidLog_W r88 r88b r88c r96 c9), h9, trivial, trivial, h10, trivial⟩ ?_
                  exact ⟨(true), h, rfl⟩
                · -- no
                  refine WP.path tab_ok mixed [(94, An.b false), (96, An.call (tb r96)), (99, An.b false), (104, An.b false)] [.keep [112, 17, 5, 4, 3, 2], .keepO [2003, 2017], .names [(2003, 2003), (2017, 2017)]] (ps := [((!r88e) = false), (0 + 3 ≤ 3), (C Tryd.prog 24 [T.agg [T.str r88, T.str r88b, ti r88c]] (tb r96)), ((!r96) = false), (True), (True), ((decide (r88d < ((ByteArray.size r28 : Nat) : Int))) = false), (True), (True)]) (e := .normal) (σ' := ⟨[2003, 2017], [(112, vb (((ByteArray.size r88 : Nat) : Int) != r88d)), (17, V.ref 2017 0), (5, vb r28e), (4, vi r28d), (3, V.ref 2003 0), (2, vb false)], [(2003, oc 31 [T.str r28, T.str r28b, ti r28c]), (2017, oc 31 [T.str r88, T.str r88b, ti r88c])]⟩) (by kernel_rfl) ⟨h8, by decide, (F_impl_IsValidLog_W r88 r88b r88c r96 c9), h9, trivial, trivial, h10, trivial, trivial, trivial⟩ ?_
                  exact ⟨(((ByteArray.size r88 : Nat) : Int) != r88d), h, rfl⟩
          · -- from there
            intro v112 h0
            have h := (show J1 v112 = some y0 from h0)
            rw [hJ1] at h
            rcases ite_some h with ⟨h11, h⟩ | ⟨h11, h⟩
            · -- yes
              refine WP.cond (b := v112) rfl (fun _ => ?_) (fun hh => by rw [h11] at hh; cases hh)
              have h := Option.some.inj h
              subst h
              exact WP.pathW tab_ok mixed [] _ (ps := []) (r := tb false) (by kernel_rfl) trivial (WkT.eq (y := tb false) (WkT.refl _) rfl) (fun _ h => h)
            · -- no
              refine WP.cond (b := v112) rfl (fun hh => by rw [h11] at hh; cases hh) (fun _ => ?_)
              refine WP.path tab_ok mixed [] [.keep [17, 5, 4, 3, 2], .keepO [2003, 2017]] (ps := []) (e := .normal) (σ' := ⟨[2003, 2017], [(17, V.ref 2017 0), (5, vb r28e), (4, vi r28d), (3, V.ref 2003 0), (2, vb false)], [(2003, oc 31 [T.str r28, T.str r28b, ti r28c]), (2017, oc 31 [T.str r88, T.str r88b, ti r88c])]⟩) (by kernel_rfl) trivial ?_
              obtain ⟨r115, r115b, c9, h⟩ := bnd2_some h
              obtain ⟨r120, r120b, c10, h⟩ := bnd2_some h
              rcases ite_some h with ⟨h12, h⟩ | ⟨h12, h⟩
              · -- yes
                obtain ⟨c11, h⟩ := chk_some h
                obtain ⟨r134, c12, h⟩ := bnd1_some h
                rcases ite_some h with ⟨h13, h⟩ | ⟨h13, h⟩
                · -- yes
                  rcases ite_some h with ⟨h14, h⟩ | ⟨h14, h⟩
                  · -- yes
                    have h := Option.some.inj h
                    subst h
                    exact WP.pathW tab_ok mixed [(115, An.call (T.tup [T.list (List.length r115) 2 (List.flatMap recsC r115), tb r115b])), (120, An.call (T.tup [T.list (List.length r120) 2 (List.flatMap recsC r120), tb r120b])), (127, An.b true), (133, An.v (T.list (List.length (List.take (Int.toNat ((List.length r120 : Nat) : Int) - Int.toNat (0 : Int)) (List.drop (Int.toNat (0 : Int)) r115))) 2 (List.flatMap recsC (List.take (Int.toNat ((List.length r120 : Nat) : Int) - Int.toNat (0 : Int)) (List.drop (Int.toNat (0 : Int)) r115))))), (134, An.call (tb r134)), (136, An.b true), (138, An.b true)] _ (ps := [(0 + 3 ≤ 3), (C Tryd.prog 32 [T.agg [T.str r28, T.str r28b, ti r28c]] (T.tup [T.list (List.length r115) 2 (List.flatMap recsC r115), tb r115b])), (0 + 3 ≤ 3), (C Tryd.prog 32 [T.agg [T.str r88, T.str r88b, ti r88c]] (T.tup [T.list (List.length r120) 2 (List.flatMap recsC r120), tb r120b])), (True), ((decide (((List.length r120 : Nat) : Int) ≤ ((List.length r115 : Nat) : Int))) = true), ((0 ≤ (0 : Int) ∧ (0 : Int) ≤ ((List.length r120 : Nat) : Int) ∧ ((List.length r120 : Nat) : Int) ≤ ((List.length r115 : Nat) : Int))), (T.list ((Int.toNat ((List.length r120 : Nat) : Int)) - 0) 2 (List.take (((Int.toNat ((List.length r120 : Nat) : Int)) - 0) * 2) (List.flatMap recsC r115)) = T.list (List.length (List.take (Int.toNat ((List.length r120 : Nat) : Int) - Int.toNat (0 : Int)) (List.drop (Int.toNat (0 : Int)) r115))) 2 (List.flatMap recsC (List.take (Int.toNat ((List.length r120 : Nat) : Int) - Int.toNat (0 : Int)) (List.drop (Int.toNat (0 : Int)) r115)))), (C Tryd.prog 48 [T.list (List.length r120) 2 (List.flatMap recsC r120), T.list (List.length (List.take (Int.toNat ((List.length r120 : Nat) : Int) - Int.toNat (0 : Int)) (List.drop (Int.toNat (0 : Int)) r115))) 2 (List.flatMap recsC (List.take (Int.toNat ((List.length r120 : Nat) : Int) - Int.toNat (0 : Int)) (List.drop (Int.toNat (0 : Int)) r115)))] (tb r134)), ((r134) = true), ((r28e) = true)]) (r := tb true) (by kernel_rfl) ⟨by decide, (F_impl_LogRecords_W_C r28 r28b r28c r115 r115b c9), by decide, (F_impl_LogRecords_W_C r88 r88b r88c r120 r120b c10), trivial, h12, c11, slFz (f := recsC) (k := 2) (fun _ => rfl) (l := (0 : Int)) (h := ((List.length r120 : Nat) : Int)) c11 (by first | rfl | (simp; done) | omega) (by first | rfl | omega | (simp; done)) (by first | rfl | omega | (simp; done)), (F_laws_vRecords_W r120 (List.take (Int.toNat ((List.length r120 : Nat) : Int) - Int.toNat (0 : Int)) (List.drop (Int.toNat (0 : Int)) r115)) r134 c12), h13, h14, trivial⟩ (WkT.eq (y := tb true) (WkT.refl _) rfl) (fun _ h => h)
                  · -- no
                    rcases ite_some h with ⟨h15, h⟩ | ⟨h15, h⟩
                    · -- yes
                      have h := Option.some.inj h
                      subst h
                      exact WP.pathW tab_ok mixed [(115, An.call (T.tup [T.list (List.length r115) 2 (List.flatMap recsC r115), tb r115b])), (120, An.call (T.tup [T.list (List.length r120) 2 (List.flatMap recsC r120), tb r120b])), (127, An.b true), (133, An.v (T.list (List.length (List.take (Int.toNat ((List.length r120 : Nat) : Int) - Int.toNat (0 : Int)) (List.drop (Int.toNat (0 : Int)) r115))) 2 (List.flatMap recsC (List.take (Int.toNat ((List.length r120 : Nat) : Int) - Int.toNat (0 : Int)) (List.drop (Int.toNat (0 : Int)) r115))))), (134, An.call (tb r134)), (136, An.b true), (138, An.b false), (143, An.b true)] _ (ps := [(0 + 3 ≤ 3), (C Tryd.prog 32 [T.agg [T.str r28, T.str r28b, ti r28c]] (T.tup [T.list (List.length r115) 2 (List.flatMap recsC r115), tb r115b])), (0 + 3 ≤ 3), (C Tryd.prog 32 [T.agg [T.str r88, T.str r88b, ti r88c]] (T.tup [T.list (List.length r120) 2 (List.flatMap recsC r120), tb r120b])), (True), ((decide (((List.length r120 : Nat) : Int) ≤ ((List.length r115 : Nat) : Int))) = true), ((0 ≤ (0 : Int) ∧ (0 : Int) ≤ ((List.length r120 : Nat) : Int) ∧ ((List.length r120 : Nat) : Int) ≤ ((List.length r115 : Nat) : Int))), (T.list ((Int.toNat ((List.length r120 : Nat) : Int)) - 0) 2 (List.take (((Int.toNat ((List.length r120 : Nat) : Int)) - 0) * 2) (List.flatMap recsC r115)) = T.list (List.length (List.take (Int.toNat ((List.length r120 : Nat) : Int) - Int.toNat (0 : Int)) (List.drop (Int.toNat (0 : Int)) r115))) 2 (List.flatMap recsC (List.take (Int.toNat ((List.length r120 : Nat) : Int) - Int.toNat (0 : Int)) (List.drop (Int.toNat (0 : Int)) r115)))), (C Tryd.prog 48 [T.list (List.length r120) 2 (List.flatMap recsC r120), T.list (List.length (List.take (Int.toNat ((List.length r120 : Nat) : Int) - Int.toNat (0 : Int)) (List.drop (Int.toNat (0 : Int)) r115))) 2 (List.flatMap recsC (List.take (Int.toNat ((List.length r120 : Nat) : Int) - Int.toNat (0 : Int)) (List.drop (Int.toNat (0 : Int)) r115)))] (tb r134)), ((r134) = true), ((r28e) = false), (True), (True), ((decide (r28d < ((ByteArray.size r28b : Nat) : Int))) = true)]) (r := tb true) (by kernel_rfl) ⟨by decide, (F_impl_LogRecords_W_C r28 r28b r28c r115 r115b c9), by decide, (F_impl_LogRecords_W_C r88 r88b r88c r120 r120b c10), trivial, h12, c11, slFz (f := recsC) (k := 2) (fun _ => rfl) (l := (0 : Int)) (h := ((List.length r120 : Nat) : Int)) c11 (by first | rfl | (simp; done) | omega) (by first | rfl | omega | (simp; done)) (by first | rfl | omega | (simp; done)), (F_laws_vRecords_W r120 (List.take (Int.toNat ((List.length r120 : Nat) : Int) - Int.toNat (0 : Int)) (List.drop (Int.toNat (0 : Int)) r115)) r134 c12), h13, h14, trivial, trivial, h15, trivial⟩ (WkT.eq (y := tb true) (WkT.refl _) rfl) (fun _ h => h)
                    · -- no
                      have h := Option.some.inj h
                      subst h
                      exact WP.pathW tab_ok mixed [(115, An.call (T.tup [T.list (List.length r115) 2 (List.flatMap recsC r115), tb r115b])), (120, An.call (T.tup [T.list (List.length r120) 2 (List.flatMap recsC r120), tb r120b])), (127, An.b true), (133, An.v (T.list (List.length (List.take (Int.toNat ((List.length r120 : Nat) : Int) - Int.toNat (0 : Int)) (List.drop (Int.toNat (0 : Int)) r115))) 2 (List.flatMap recsC (List.take (Int.toNat ((List.length r120 : Nat) : Int) - Int.toNat (0 : Int)) (List.drop (Int.toNat (0 : Int)) r115))))), (134, An.call (tb r134)), (136, An.b true), (138, An.b false), (143, An.b false)] _ (ps := [(0 + 3 ≤ 3), (C Tryd.prog 32 [T.agg [T.str r28, T.str r28b, ti r28c]] (T.tup [T.list (List.length r115) 2 (List.flatMap recsC r115), tb r115b])), (0 + 3 ≤ 3), (C Tryd.prog 32 [T.agg [T.str r88, T.str r88b, ti r88c]] (T.tup [T.list (List.length r120) 2 (List.flatMap recsC r120), tb r120b])), (True), ((decide (((List.length r120 : Nat) : Int) ≤ ((List.length r115 : Nat) : Int))) = true), ((0 ≤ (0 : Int) ∧ (0 : Int) ≤ ((List.length r120 : Nat) : Int) ∧ ((List.length r120 : Nat) : Int) ≤ ((List.length r115 : Nat) : Int))), (T.list ((Int.toNat ((List.length r120 : Nat) : Int)) - 0) 2 (List.take (((Int.toNat ((List.length r120 : Nat) : Int)) - 0) * 2) (List.flatMap recsC r115)) = T.list (List.length (List.take (Int.toNat ((List.length r120 : Nat) : Int) - Int.toNat (0 : Int)) (List.drop (Int.toNat (0 : Int)) r115))) 2 (List.flatMap recsC (List.take (Int.toNat ((List.length r120 : Nat) : Int) - Int.toNat (0 : Int)) (List.drop (Int.toNat (0 : Int)) r115)))), (C Tryd.prog 48 [T.list (List.length r120) 2 (List.flatMap recsC r120), T.list (List.length (List.take (Int.toNat ((List.length r120 : Nat) : Int) - Int.toNat (0 : Int)) (List.drop (Int.toNat (0 : Int)) r115))) 2 (List.flatMap recsC (List.take (Int.toNat ((List.length r120 : Nat) : Int) - Int.toNat (0 : Int)) (List.drop (Int.toNat (0 : Int)) r115)))] (tb r134)), ((r134) = true), ((r28e) = false), (True), (True), ((decide (r28d < ((ByteArray.size r28b : Nat) : Int))) = false), (True)]) (r := tb (((List.length r120 : Nat) : Int) == ((List.length r115 : Nat) : Int))) (by kernel_rfl) ⟨by decide, (F_impl_LogRecords_W_C r28 r28b r28c r115 r115b c9), by decide, (F_impl_LogRecords_W_C r88 r88b r88c r120 r120b c10), trivial, h12, c11, slFz (f := recsC) (k := 2) (fun _ => rfl) (l := (0 : Int)) (h := ((List.length r120 : Nat) : Int)) c11 (by first | rfl | (simp; done) | omega) (by first | rfl | omega | (simp; done)) (by first | rfl | omega | (simp; done)), (F_laws_vRecords_W r120 (List.take (Int.toNat ((List.length r120 : Nat) : Int) - Int.toNat (0 : Int)) (List.drop (Int.toNat (0 : Int)) r115)) r134 c12), h13, h14, trivial, trivial, h15, trivial, trivial⟩ (WkT.eq (y := tb (((List.length r120 : Nat) : Int) == ((List.length r115 : Nat) : Int))) (WkT.refl _) rfl) (fun _ h => h)
                · -- no
                  have h := Option.some.inj h
                  subst h
                  exact WP.pathW tab_ok mixed [(115, An.call (T.tup [T.list (List.length r115) 2 (List.flatMap recsC r115), tb r115b])), (120, An.call (T.tup [T.list (List.length r120) 2 (List.flatMap recsC r120), tb r120b])), (127, An.b true), (133, An.v (T.list (List.length (List.take (Int.toNat ((List.length r120 : Nat) : Int) - Int.toNat (0 : Int)) (List.drop (Int.toNat (0 : Int)) r115))) 2 (List.flatMap recsC (List.take (Int.toNat ((List.length r120 : Nat) : Int) - Int.toNat (0 : Int)) (List.drop (Int.toNat (0 : Int)) r115))))), (134, An.call (tb r134)), (136, An.b false)] _ (ps := [(0 + 3 ≤ 3), (C Tryd.prog 32 [T.agg [T.str r28, T.str r28b, ti r28c]] (T.tup [T.list (List.length r115) 2 (List.flatMap recsC r115), tb r115b])), (0 + 3 ≤ 3), (C Tryd.prog 32 [T.agg [T.str r88, T.str r88b, ti r88c]] (T.tup [T.list (List.length r120) 2 (List.flatMap recsC r120), tb r120b])), (True), ((decide (((List.length r120 : Nat) : Int) ≤ ((List.length r115 : Nat) : Int))) = true), ((0 ≤ (0 : Int) ∧ (0 : Int) ≤ ((List.length r120 : Nat) : Int) ∧ ((List.length r120 : Nat) : Int) ≤ ((List.length r115 : Nat) : Int))), (T.list ((Int.toNat ((List.length r120 : Nat) : Int)) - 0) 2 (List.take (((Int.toNat ((List.length r120 : Nat) : Int)) - 0) * 2) (List.flatMap recsC r115)) = T.list (List.length (List.take (Int.toNat ((List.length r120 : Nat) : Int) - Int.toNat (0 : Int)) (List.drop (Int.toNat (0 : Int)) r115))) 2 (List.flatMap recsC (List.take (Int.toNat ((List.length r120 : Nat) : Int) - Int.toNat (0 : Int)) (List.drop (Int.toNat (0 : Int)) r115)))), (C Tryd.prog 48 [T.list (List.length r120) 2 (List.flatMap recsC r120), T.list (List.length (List.take (Int.toNat ((List.length r120 : Nat) : Int) - Int.toNat (0 : Int)) (List.drop (Int.toNat (0 : Int)) r115))) 2 (List.flatMap recsC (List.take (Int.toNat ((List.length r120 : Nat) : Int) - Int.toNat (0 : Int)) (List.drop (Int.toNat (0 : Int)) r115)))] (tb r134)), ((r134) = false)]) (r := tb false) (by kernel_rfl) ⟨by decide, (F_impl_LogRecords_W_C r28 r28b r28c r115 r115b c9), by decide, (F_impl_LogRecords_W_C r88 r88b r88c r120 r120b c10), trivial, h12, c11, slFz (f := recsC) (k := 2) (fun _ => rfl) (l := (0 : Int)) (h := ((List.length r120 : Nat) : Int)) c11 (by first | rfl | (simp; done) | omega) (by first | rfl | omega | (simp; done)) (by first | rfl | omega | (simp; done)), (F_laws_vRecords_W r120 (List.take (Int.toNat ((List.length r120 : Nat) : Int) - Int.toNat (0 : Int)) (List.drop (Int.toNat (0 : Int)) r115)) r134 c12), h13, trivial⟩ (WkT.eq (y := tb false) (WkT.refl _) rfl) (fun _ h => h)
              · -- no
                have h := Option.some.inj h
                subst h
                exact WP.pathW tab_ok mixed [(115, An.call (T.tup [T.list (List.length r115) 2 (List.flatMap recsC r115), tb r115b])), (120, An.call (T.tup [T.list (List.length r120) 2 (List.flatMap recsC r120), tb r120b])), (127, An.b false)] _ (ps := [(0 + 3 ≤ 3), (C Tryd.prog 32 [T.agg [T.str r28, T.str r28b, ti r28c]] (T.tup [T.list (List.length r115) 2 (List.flatMap recsC r115), tb r115b])), (0 + 3 ≤ 3), (C Tryd.prog 32 [T.agg [T.str r88, T.str r88b, ti r88c]] (T.tup [T.list (List.length r120) 2 (List.flatMap recsC r120), tb r120b])), (True), ((decide (((List.length r120 : Nat) : Int) ≤ ((List.length r115 : Nat) : Int))) = false)]) (r := tb false) (by kernel_rfl) ⟨by decide, (F_impl_LogRecords_W_C r28 r28b r28c r115 r115b c9), by decide, (F_impl_LogRecords_W_C r88 r88b r88c r120 r120b c10), trivial, h12, trivial⟩ (WkT.eq (y := tb false) (WkT.refl _) rfl) (fun _ h => h)

end Go.Proofs.YtfhmgiipcmmnlaaDoor.AuCra
