/-
  The walks: each function of the program returns what the plain function beside it returns. No statement is proved here.
-/
import Derived.Test.YtfhmgiipcmmnlaaDoorTlGroupc

import Derived.Test.YtfhmgiipcmmnlaaDoorAuConsF
import Derived.Test.YtfhmgiipcmmnlaaDoorProg
import Derived.Test.YtfhmgiipcmmnlaaDoorAuConsO
namespace Go.Proofs.YtfhmgiipcmmnlaaDoor.AuCons
open Go Go.Tl Go.Proofs
open Go.Proofs.YtfhmgiipcmmnlaaDoor.AuConsO hiding tab tab_ok mixed
set_option linter.unusedVariables false
set_option linter.unusedSimpArgs false
set_option maxRecDepth 100000
def tab : Tab := [(3, ⟨.int .i64, 1, 8, [.int .i64 0]⟩), (4, ⟨.bool, 1, 1, [.bool false]⟩), (5, ⟨.int .u8, 1, 1, [.int .u8 0]⟩), (9, ⟨.string, 1, 16, [.str ⟨#[]⟩]⟩), (27, ⟨.struct [(0, 1, false), (1, 1, false)], 2, 32, [.str ⟨#[]⟩, .str ⟨#[]⟩]⟩), (31, ⟨.struct [(0, 1, false), (1, 1, false), (2, 1, false)], 3, 40, [.str ⟨#[]⟩, .str ⟨#[]⟩, .int .i64 0]⟩), (36, ⟨.struct [(0, 1, false), (1, 1, false), (2, 1, false)], 3, 40, [.str ⟨#[]⟩, .str ⟨#[]⟩, .int .i64 0]⟩), (48, ⟨.slice 27 2 32, 1, 24, [.nils]⟩), (53, ⟨.array 12 3 1 false, 12, 96, [.int .i64 0, .int .i64 0, .int .i64 0, .int .i64 0, .int .i64 0, .int .i64 0, .int .i64 0, .int .i64 0, .int .i64 0, .int .i64 0, .int .i64 0, .int .i64 0]⟩), (55, ⟨.struct [(0, 12, true), (12, 1, false), (13, 1, false), (14, 1, false)], 15, 120, [.int .i64 0, .int .i64 0, .int .i64 0, .int .i64 0, .int .i64 0, .int .i64 0, .int .i64 0, .int .i64 0, .int .i64 0, .int .i64 0, .int .i64 0, .int .i64 0, .int .i64 0, .int .i64 0, .int .i64 0]⟩), (57, ⟨.struct [(0, 15, true), (15, 3, true)], 18, 160, [.int .i64 0, .int .i64 0, .int .i64 0, .int .i64 0, .int .i64 0, .int .i64 0, .int .i64 0, .int .i64 0, .int .i64 0, .int .i64 0, .int .i64 0, .int .i64 0, .int .i64 0, .int .i64 0, .int .i64 0, .str ⟨#[]⟩, .str ⟨#[]⟩, .int .i64 0]⟩), (60, ⟨.struct [(0, 12, true), (12, 1, false), (13, 1, false), (14, 1, false)], 15, 120, [.int .i64 0, .int .i64 0, .int .i64 0, .int .i64 0, .int .i64 0, .int .i64 0, .int .i64 0, .int .i64 0, .int .i64 0, .int .i64 0, .int .i64 0, .int .i64 0, .int .i64 0, .int .i64 0, .int .i64 0]⟩), (62, ⟨.struct [(0, 15, true), (15, 3, true)], 18, 160, [.int .i64 0, .int .i64 0, .int .i64 0, .int .i64 0, .int .i64 0, .int .i64 0, .int .i64 0, .int .i64 0, .int .i64 0, .int .i64 0, .int .i64 0, .int .i64 0, .int .i64 0, .int .i64 0, .int .i64 0, .str ⟨#[]⟩, .str ⟨#[]⟩, .int .i64 0]⟩), (77, ⟨.slice 90 2 16, 1, 24, [.nils]⟩), (80, ⟨.slice 3 1 8, 1, 24, [.nils]⟩), (82, ⟨.struct [(0, 1, false), (1, 1, false)], 2, 32, [.nils, .int .i64 0]⟩), (90, ⟨.struct [(0, 1, false), (1, 1, false)], 2, 16, [.int .i64 0, .bool false]⟩), (158, ⟨.slice 9 1 16, 1, 24, [.nils]⟩)]
theorem tab_ok : chkTab Tryd.prog tab = true := by kernel_rfl
theorem mixed : Tryd.prog.follows .mixedOrders = true := by kernel_rfl
theorem F_laws_szLog_W (x0 : ByteArray) (x1 : ByteArray) (x2 : Int) (x3 : Int) (y0 : Int) (h : F_laws_szLog x0 x1 x2 x3 = some y0) : C Tryd.prog 21 [T.agg [T.str x0, T.str x1, ti x2], ti x3] (ti y0) := by
  unfold F_laws_szLog at h
  refine C.intro (tab := tab) tab_ok (fn := Tryd.f21) Tryd.func21 (by kernel_rfl) rfl (Nat.le_of_ble_eq_true rfl) ?_
  refine WP.seq ?_
  refine WP.path tab_ok mixed [(2, An.fz)] [.keep [4, 2, 1], .keepO []] (ps := []) (e := .normal) (σ' := ⟨[], [(4, vi 0), (2, V.t (T.ptr [T.str x0, T.str x1, ti x2])), (1, vi x3)], []⟩) (by kernel_rfl) trivial ?_
  refine WP.seq ?_
  obtain ⟨c0, h⟩ := chk_some h
  refine WP.path tab_ok mixed [(9, An.v (T.int .i64 (x3 - ((ByteArray.size x0 : Nat) : Int))))] [.keep [1, 4, 2], .keepO []] (ps := [(True), (True), (T.int .i64 (IntKind.wrap .i64 (x3 - ((ByteArray.size x0 : Nat) : Int))) = T.int .i64 (x3 - ((ByteArray.size x0 : Nat) : Int)))]) (e := .normal) (σ' := ⟨[], [(1, vi (x3 - ((ByteArray.size x0 : Nat) : Int))), (4, vi 0), (2, V.t (T.ptr [T.str x0, T.str x1, ti x2]))], []⟩) (by kernel_rfl) ⟨trivial, trivial, wrapI c0, trivial⟩ ?_
  refine WP.seq ?_
  refine WP.seq ?_
  refine WP.path tab_ok mixed [] [.keep [11, 1, 4, 2], .keepO []] (ps := [(True)]) (e := .normal) (σ' := ⟨[], [(11, vb (decide ((x3 - ((ByteArray.size x0 : Nat) : Int)) < (0 : Int)))), (1, vi (x3 - ((ByteArray.size x0 : Nat) : Int))), (4, vi 0), (2, V.t (T.ptr [T.str x0, T.str x1, ti x2]))], []⟩) (by kernel_rfl) ⟨trivial, trivial⟩ ?_
  rcases ite_some h with ⟨h1, h⟩ | ⟨h1, h⟩
  · -- yes
    refine WP.cond (b := decide ((x3 - ((ByteArray.size x0 : Nat) : Int)) < (0 : Int))) rfl (fun _ => ?_) (fun hh => by rw [h1] at hh; cases hh)
    have h := Option.some.inj h
    subst h
    exact WP.pathW tab_ok mixed [] _ (ps := []) (r := ti (-1)) (by kernel_rfl) trivial (WkT.eq (y := ti (-1)) (WkT.refl _) (by first | rfl | (simp only [tlS, tl, vl, vo, oc, ov, tbl, vbl, ty, vy] <;> rfl) | (simp <;> omega) | (simp []; done) | (rw [List.take_of_length_le (by simp [])] <;> rfl) | (simp [List.take_of_length_le]; done))) (fun _ h => h)
  · -- no
    refine WP.cond (b := decide ((x3 - ((ByteArray.size x0 : Nat) : Int)) < (0 : Int))) rfl (fun hh => by rw [h1] at hh; cases hh) (fun _ => ?_)
    refine WP.path tab_ok mixed [] [.keep [1, 4, 2], .keepO []] (ps := []) (e := .normal) (σ' := ⟨[], [(1, vi (x3 - ((ByteArray.size x0 : Nat) : Int))), (4, vi 0), (2, V.t (T.ptr [T.str x0, T.str x1, ti x2]))], []⟩) (by kernel_rfl) trivial ?_
    refine WP.seq ?_
    obtain ⟨c1, h⟩ := chk_some h
    obtain ⟨n16, c2, h⟩ := nam_some h
    refine WP.path tab_ok mixed [(16, An.v (ti n16))] [.keep [1, 4], .keepO []] (ps := [(True), (True), (T.int .i64 (IntKind.wrap .i64 ((x3 - ((ByteArray.size x0 : Nat) : Int)) - ((ByteArray.size x1 : Nat) : Int))) = ti n16)]) (e := .normal) (σ' := ⟨[], [(1, vi n16), (4, vi 0)], []⟩) (by kernel_rfl) ⟨trivial, trivial, Eq.trans (wrapI c1) (congrArg (ti) c2), trivial⟩ ?_
    refine WP.seq ?_
    refine WP.seq ?_
    refine WP.path tab_ok mixed [] [.keep [18, 1, 4], .keepO []] (ps := [(True)]) (e := .normal) (σ' := ⟨[], [(18, vb (decide (n16 < (0 : Int)))), (1, vi n16), (4, vi 0)], []⟩) (by kernel_rfl) ⟨trivial, trivial⟩ ?_
    rcases ite_some h with ⟨h2, h⟩ | ⟨h2, h⟩
    · -- yes
      refine WP.cond (b := decide (n16 < (0 : Int))) rfl (fun _ => ?_) (fun hh => by rw [h2] at hh; cases hh)
      have h := Option.some.inj h
      subst h
      exact WP.pathW tab_ok mixed [] _ (ps := []) (r := ti (-1)) (by kernel_rfl) trivial (WkT.eq (y := ti (-1)) (WkT.refl _) (by first | rfl | (simp only [tlS, tl, vl, vo, oc, ov, tbl, vbl, ty, vy] <;> rfl) | (simp <;> omega) | (simp []; done) | (rw [List.take_of_length_le (by simp [])] <;> rfl) | (simp [List.take_of_length_le]; done))) (fun _ h => h)
    · -- no
      refine WP.cond (b := decide (n16 < (0 : Int))) rfl (fun hh => by rw [h2] at hh; cases hh) (fun _ => ?_)
      refine WP.path tab_ok mixed [] [.keep [1, 4], .keepO []] (ps := []) (e := .normal) (σ' := ⟨[], [(1, vi n16), (4, vi 0)], []⟩) (by kernel_rfl) trivial ?_
      have h := Option.some.inj h
      subst h
      exact WP.pathW tab_ok mixed [] _ (ps := []) (r := ti n16) (by kernel_rfl) trivial (WkT.eq (y := ti n16) (WkT.refl _) rfl) (fun _ h => h)
theorem F_laws_szConsole_W (x0 : List Int) (x1 : Int) (x2 : Int) (x3 : Int) (x4 : ByteArray) (x5 : ByteArray) (x6 : Int) (x7 : Int) (y0 : Int) (h : F_laws_szConsole x0 x1 x2 x3 x4 x5 x6 x7 = some y0) : C Tryd.prog 36 [T.agg ((List.map (T.int .i64) x0) ++ ([ti x1, ti x2, ti x3, T.str x4, T.str x5, ti x6])), ti x7] (ti y0) := by
  unfold F_laws_szConsole at h
  refine C.intro (tab := tab) tab_ok (fn := Tryd.f36) Tryd.func36 (by kernel_rfl) rfl (Nat.le_of_ble_eq_true rfl) ?_
  obtain ⟨hl_x0, h⟩ := chk_some h
  refine WP.seq ?_
  refine WP.path tab_ok mixed [(2, An.fz)] [.keep [4, 2, 1], .keepO []] (ps := []) (e := .normal) (σ' := ⟨[], [(4, vi 0), (2, V.t (T.ptr ((List.map (T.int .i64) x0) ++ ([ti x1, ti x2, ti x3, T.str x4, T.str x5, ti x6])))), (1, vi x7)], []⟩) (by kernel_rfl) trivial ?_
  refine WP.seq ?_
  obtain ⟨r8, c0, h⟩ := bnd1_some h
  refine WP.path tab_ok mixed [(6, An.v (T.agg [T.str x4, T.str x5, ti x6])), (8, An.call (ti r8))] [.keep [1, 4], .keepO []] (ps := [(3 ≤ List.length (List.drop 15 ((List.map (T.int .i64) x0) ++ ([ti x1, ti x2, ti x3, T.str x4, T.str x5, ti x6])))), (T.agg (List.take 3 (List.drop 15 ((List.map (T.int .i64) x0) ++ ([ti x1, ti x2, ti x3, T.str x4, T.str x5, ti x6])))) = T.agg [T.str x4, T.str x5, ti x6]), (C Tryd.prog 21 [T.agg [T.str x4, T.str x5, ti x6], ti x7] (ti r8))]) (e := .normal) (σ' := ⟨[], [(1, vi r8), (4, vi 0)], []⟩) (by kernel_rfl) ⟨fit_pre (k := 12) (j := 3) (by simp [hl_x0]) (Nat.le_of_ble_eq_true rfl), congrArg (fun l => T.agg (List.take 3 l)) (drop_pre (k := 12) (j := 3) (by simp [hl_x0])), (F_laws_szLog_W x4 x5 x6 x7 r8 c0), trivial⟩ ?_
  refine WP.seq ?_
  refine WP.seq ?_
  refine WP.path tab_ok mixed [] [.keep [10, 1, 4], .keepO []] (ps := [(True)]) (e := .normal) (σ' := ⟨[], [(10, vb (decide (r8 < (0 : Int)))), (1, vi r8), (4, vi 0)], []⟩) (by kernel_rfl) ⟨trivial, trivial⟩ ?_
  rcases ite_some h with ⟨h1, h⟩ | ⟨h1, h⟩
  · -- yes
    refine WP.cond (b := decide (r8 < (0 : Int))) rfl (fun _ => ?_) (fun hh => by rw [h1] at hh; cases hh)
    have h := Option.some.inj h
    subst h
    exact WP.pathW tab_ok mixed [] _ (ps := []) (r := ti (-1)) (by kernel_rfl) trivial (WkT.eq (y := ti (-1)) (WkT.refl _) (by first | rfl | (simp only [tlS, tl, vl, vo, oc, ov, tbl, vbl, ty, vy] <;> rfl) | (simp <;> omega) | (simp [hl_x0]; done) | (rw [List.take_of_length_le (by simp [hl_x0])] <;> rfl) | (simp [List.take_of_length_le, hl_x0]; done))) (fun _ h => h)
  · -- no
    refine WP.cond (b := decide (r8 < (0 : Int))) rfl (fun hh => by rw [h1] at hh; cases hh) (fun _ => ?_)
    refine WP.path tab_ok mixed [] [.keep [1, 4], .keepO []] (ps := []) (e := .normal) (σ' := ⟨[], [(1, vi r8), (4, vi 0)], []⟩) (by kernel_rfl) trivial ?_
    have h := Option.some.inj h
    subst h
    exact WP.pathW tab_ok mixed [] _ (ps := []) (r := ti r8) (by kernel_rfl) trivial (WkT.eq (y := ti r8) (WkT.refl _) rfl) (fun _ h => h)
theorem F_spec_l1Split_W (x0 : ByteArray) (x1 : Int) (y0 : List ByteArray) (h : F_spec_l1Split x0 x1 = some y0) : CG Tryd.prog 143 [V.t (T.str x0), V.t (T.int .u8 x1)] [] (vo 9000 (List.length y0)) [(9000, oc 9 (List.map T.str y0))] := by
  unfold F_spec_l1Split at h
  refine CG.intro (tab := tab) tab_ok (fn := Tryd.f143) Tryd.func143 (by kernel_rfl) rfl (Nat.le_of_ble_eq_true rfl) (by kernel_rfl) ?_
  refine WP.seq ?_
  refine WP.path tab_ok mixed [] [.keep [4, 0, 1], .keepO []] (ps := []) (e := .normal) (σ' := ⟨[], [(4, V.t (T.nils)), (0, V.t (T.str x0)), (1, V.t (T.int .u8 x1))], []⟩) (by kernel_rfl) trivial ?_
  refine WP.seq ?_
  refine WP.path tab_ok mixed [(8, An.id 2008)] [.keep [5, 4, 0, 1], .keepO [2008]] (ps := [(True), (0 = 0 * 1)]) (e := .normal) (σ' := ⟨[2008], [(5, vo 2008 0), (4, V.t (T.nils)), (0, V.t (T.str x0)), (1, V.t (T.int .u8 x1))], [(2008, oc 9 [])]⟩) (by kernel_rfl) ⟨trivial, by decide, trivial⟩ ?_
  refine WP.seq ?_
  refine WP.path tab_ok mixed [] [.keep [6, 5, 4, 0, 1], .keepO [2008]] (ps := []) (e := .normal) (σ' := ⟨[2008], [(6, vi 0), (5, vo 2008 0), (4, V.t (T.nils)), (0, V.t (T.str x0)), (1, V.t (T.int .u8 x1))], [(2008, oc 9 [])]⟩) (by kernel_rfl) trivial ?_
  obtain ⟨J1, hJ1, h⟩ := jn_some h
  refine WP.joinA (fun (zz : (List ByteArray) × Int) => ⟨[2008], [(6, vi zz.2), (5, vo 2008 (List.length zz.1)), (4, V.t (T.nils)), (0, V.t (T.str x0))], [(2008, oc 9 (List.map T.str zz.1))]⟩) (fun zz => J1 zz.1 zz.2 = some y0) ?_ ?_
  · -- to where they meet
    refine WP.seq ?_
    refine WP.path tab_ok mixed [] [.keep [7, 6, 5, 4, 0, 1], .keepO [2008]] (ps := []) (e := .normal) (σ' := ⟨[2008], [(7, vi 0), (6, vi 0), (5, vo 2008 0), (4, V.t (T.nils)), (0, V.t (T.str x0)), (1, V.t (T.int .u8 x1))], [(2008, oc 9 [])]⟩) (by kernel_rfl) trivial ?_
    refine WP.block ?_
    refine WP.wk [.keep [7, 6, 5, 4, 0, 1], .keepO [2008], .names [(2008, 2008)]] (σ' := ⟨[2008], [(7, vi 0), (6, vi 0), (5, vo 2008 0), (4, V.t (T.nils)), (0, V.t (T.str x0)), (1, V.t (T.int .u8 x1))], [(2008, oc 9 [])]⟩) (ps := []) (by kernel_rfl) trivial ?_
    refine WP.st (σ' := ⟨[2008], [(7, vi (0 : Int)), (6, vi (0 : Int)), (5, vo 2008 (List.length ([] : List ByteArray))), (4, V.t (T.nils)), (0, V.t (T.str x0)), (1, V.t (T.int .u8 x1))], [(2008, oc 9 (List.map T.str ([] : List ByteArray)))]⟩) (by first | rfl | (simp only [tlS, tl, vl, vo, oc, ov, tbl, vbl, ty, vy] <;> rfl) | (simp <;> omega) | (simp []; done) | (rw [List.take_of_length_le (by simp [])] <;> rfl) | (simp [List.take_of_length_le]; done)) ?_
    refine WP.loop (α := Nat × (List ByteArray) × Int × Int) (fun zz => ⟨[2008], [(7, vi zz.2.2.1), (6, vi zz.2.2.2), (5, vo 2008 (List.length zz.2.1)), (4, V.t (T.nils)), (0, V.t (T.str x0)), (1, V.t (T.int .u8 x1))], [(2008, oc 9 (List.map T.str zz.2.1))]⟩) (fun zz => F_spec_l1Split_L1 x0 x1 J1 zz.1 zz.2.1 zz.2.2.1 zz.2.2.2 = some y0) (fun zz => zz.1) (fuel, ([] : List ByteArray), (0 : Int), (0 : Int)) h ?_
    rintro ⟨n, o8, v7, v6⟩ h0
    have h := (show F_spec_l1Split_L1 x0 x1 J1 n o8 v7 v6 = some y0 from h0)
    rcases n with _ | n
    · rw [F_spec_l1Split_L1] at h; cases h
    · rw [F_spec_l1Split_L1] at h
      refine WP.seq ?_
      refine WP.seq ?_
      refine WP.path tab_ok mixed [] [.keep [12, 7, 6, 5, 4, 0, 1], .keepO [2008]] (ps := [(True)]) (e := .normal) (σ' := ⟨[2008], [(12, vb (decide (v7 < ((ByteArray.size x0 : Nat) : Int)))), (7, vi v7), (6, vi v6), (5, vo 2008 (List.length o8)), (4, V.t (T.nils)), (0, V.t (T.str x0)), (1, V.t (T.int .u8 x1))], [(2008, oc 9 (List.map T.str o8))]⟩) (by kernel_rfl) ⟨trivial, trivial⟩ ?_
      rcases ite_some h with ⟨h1, h⟩ | ⟨h1, h⟩
      · -- yes
        refine WP.cond (b := decide (v7 < ((ByteArray.size x0 : Nat) : Int))) rfl (fun _ => ?_) (fun hh => by rw [h1] at hh; cases hh)
        refine WP.path tab_ok mixed [] [.keep [7, 6, 5, 4, 0, 1], .keepO [2008]] (ps := []) (e := .normal) (σ' := ⟨[2008], [(7, vi v7), (6, vi v6), (5, vo 2008 (List.length o8)), (4, V.t (T.nils)), (0, V.t (T.str x0)), (1, V.t (T.int .u8 x1))], [(2008, oc 9 (List.map T.str o8))]⟩) (by kernel_rfl) trivial ?_
        refine WP.seq ?_
        refine WP.block ?_
        refine WP.seq ?_
        obtain ⟨c0, h⟩ := chk_some h
        refine WP.path tab_ok mixed [] [.keep [19, 7, 6, 5, 4, 0, 1], .keepO [2008]] (ps := [((0 ≤ v7 ∧ v7 < ((ByteArray.size x0 : Nat) : Int))), (True)]) (e := .normal) (σ' := ⟨[2008], [(19, vb ((byteAt x0 (Int.toNat v7)) == x1)), (7, vi v7), (6, vi v6), (5, vo 2008 (List.length o8)), (4, V.t (T.nils)), (0, V.t (T.str x0)), (1, V.t (T.int .u8 x1))], [(2008, oc 9 (List.map T.str o8))]⟩) (by kernel_rfl) ⟨c0, trivial, trivial⟩ ?_
        rcases ite_some h with ⟨h2, h⟩ | ⟨h2, h⟩
        · -- yes
          refine WP.cond (b := (byteAt x0 (Int.toNat v7)) == x1) rfl (fun _ => ?_) (fun hh => by rw [h2] at hh; cases hh)
          obtain ⟨c1, h⟩ := chk_some h
          obtain ⟨c2, h⟩ := chk_some h
          obtain ⟨c3, h⟩ := chk_some h
          refine WP.path tab_ok mixed [(25, An.fz), (26, An.id 2026), (28, An.v (T.int .i64 (v7 + (1 : Int))))] [.keep [6, 5, 7, 4, 0, 1], .keepO [2026]] (ps := [((0 ≤ v6 ∧ v6 ≤ v7 ∧ v7 ≤ ((ByteArray.size x0 : Nat) : Int))), ((1 = 1 ∧ 0 + 1 ≤ 1) ∧ True), (1 = 1 * 1), (True), (List.length (List.map T.str o8) = (List.length o8) * 1), ((((List.length o8) + 1) * 16 ≤ 140737488355328 ∧ (List.length o8) + 1 ≤ maxLen)), (True), (T.int .i64 (IntKind.wrap .i64 (v7 + (1 : Int))) = T.int .i64 (v7 + (1 : Int)))]) (e := .normal) (σ' := ⟨[2026, 2008], [(6, vi (v7 + (1 : Int))), (5, vo 2026 ((List.length o8) + 1)), (7, vi v7), (4, V.t (T.nils)), (0, V.t (T.str x0)), (1, V.t (T.int .u8 x1))], [(2026, oc 9 ((List.map T.str o8) ++ [T.str (ByteArray.extract x0 (Int.toNat v6) (Int.toNat v7))]))]⟩) (by kernel_rfl) ⟨c1, ⟨⟨by first | rfl | (simp; done) | (simp []; done) | omega, by first | decide | (simp; done) | (simp []; done) | omega | (simp only [tlL]; omega) | (simp; omega)⟩, trivial⟩, by decide, trivial, by first | rfl | omega | (simp only [tlL] <;> omega) | (simp <;> omega) | (simp [] <;> omega), c2, trivial, wrapI c3, trivial⟩ ?_
          refine WP.path tab_ok mixed [(14, An.v (T.int .i64 (v7 + (1 : Int))))] [.keep [7, 6, 5, 4, 0, 1], .keepO [2026], .names [(2026, 2008)]] (ps := [(True), (T.int .i64 (IntKind.wrap .i64 (v7 + (1 : Int))) = T.int .i64 (v7 + (1 : Int)))]) (e := .normal) (σ' := ⟨[2008], [(7, vi (v7 + (1 : Int))), (6, vi (v7 + (1 : Int))), (5, vo 2008 ((List.length o8) + 1)), (4, V.t (T.nils)), (0, V.t (T.str x0)), (1, V.t (T.int .u8 x1))], [(2008, oc 9 ((List.map T.str o8) ++ [T.str (ByteArray.extract x0 (Int.toNat v6) (Int.toNat v7))]))]⟩) (by kernel_rfl) ⟨trivial, wrapI c3, trivial⟩ ?_
          exact ⟨(n, o8 ++ [ByteArray.extract x0 (Int.toNat v6) (Int.toNat v7)], (v7 + (1 : Int)), (v7 + (1 : Int))), h, Nat.lt_succ_self _, (by first | rfl | (simp only [tlS, tl, vl, vo, oc, ov, tbl, vbl, ty, vy] <;> rfl) | (simp <;> omega) | (simp []; done) | (rw [List.take_of_length_le (by simp [])] <;> rfl) | (simp [List.take_of_length_le]; done))⟩
        · -- no
          refine WP.cond (b := (byteAt x0 (Int.toNat v7)) == x1) rfl (fun hh => by rw [h2] at hh; cases hh) (fun _ => ?_)
          refine WP.path tab_ok mixed [] [.keep [7, 6, 5, 4, 0, 1], .keepO [2008]] (ps := []) (e := .normal) (σ' := ⟨[2008], [(7, vi v7), (6, vi v6), (5, vo 2008 (List.length o8)), (4, V.t (T.nils)), (0, V.t (T.str x0)), (1, V.t (T.int .u8 x1))], [(2008, oc 9 (List.map T.str o8))]⟩) (by kernel_rfl) trivial ?_
          obtain ⟨c1, h⟩ := chk_some h
          refine WP.path tab_ok mixed [(14, An.v (T.int .i64 (v7 + (1 : Int))))] [.keep [7, 6, 5, 4, 0, 1], .keepO [2008], .names [(2008, 2008)]] (ps := [(True), (T.int .i64 (IntKind.wrap .i64 (v7 + (1 : Int))) = T.int .i64 (v7 + (1 : Int)))]) (e := .normal) (σ' := ⟨[2008], [(7, vi (v7 + (1 : Int))), (6, vi v6), (5, vo 2008 (List.length o8)), (4, V.t (T.nils)), (0, V.t (T.str x0)), (1, V.t (T.int .u8 x1))], [(2008, oc 9 (List.map T.str o8))]⟩) (by kernel_rfl) ⟨trivial, wrapI c1, trivial⟩ ?_
          exact ⟨(n, o8, (v7 + (1 : Int)), v6), h, Nat.lt_succ_self _, rfl⟩
      · -- no
        refine WP.cond (b := decide (v7 < ((ByteArray.size x0 : Nat) : Int))) rfl (fun hh => by rw [h1] at hh; cases hh) (fun _ => ?_)
        refine WP.path tab_ok mixed [] [.keep [6, 5, 4, 0], .keepO [2008], .names [(2008, 2008)]] (ps := []) (e := (.exit 0)) (σ' := ⟨[2008], [(6, vi v6), (5, vo 2008 (List.length o8)), (4, V.t (T.nils)), (0, V.t (T.str x0))], [(2008, oc 9 (List.map T.str o8))]⟩) (by kernel_rfl) trivial ?_
        exact ⟨(o8, v6), h, rfl⟩
  · -- from there
    rintro ⟨o8, v6⟩ h0
    have h := (show J1 o8 v6 = some y0 from h0)
    rw [hJ1] at h
    obtain ⟨c0, h⟩ := chk_some h
    obtain ⟨c1, h⟩ := chk_some h
    have h := Option.some.inj h
    subst h
    exact WP.pathG tab_ok mixed [(33, An.fz), (34, An.id 2034)] [.keep [4], .keepO [2034], .names [(2034, 9000)]] [9000] _ (r' := vo 9000 (List.length (o8 ++ [ByteArray.extract x0 (Int.toNat v6) (Int.toNat ((ByteArray.size x0 : Nat) : Int))]))) (ps := [((0 ≤ v6 ∧ v6 ≤ ((ByteArray.size x0 : Nat) : Int) ∧ ((ByteArray.size x0 : Nat) : Int) ≤ ((ByteArray.size x0 : Nat) : Int))), ((1 = 1 ∧ 0 + 1 ≤ 1) ∧ True), (1 = 1 * 1), (True), (List.length (List.map T.str o8) = (List.length o8) * 1), ((((List.length o8) + 1) * 16 ≤ 140737488355328 ∧ (List.length o8) + 1 ≤ maxLen))]) (r := vo 9000 ((List.length o8) + 1)) (N := [9000]) (O := [(9000, oc 9 ((List.map T.str o8) ++ [T.str (ByteArray.extract x0 (Int.toNat v6) (Int.toNat ((ByteArray.size x0 : Nat) : Int)))]))]) [] (by kernel_rfl) ⟨c0, ⟨⟨by first | rfl | (simp; done) | (simp []; done) | omega, by first | decide | (simp; done) | (simp []; done) | omega | (simp only [tlL]; omega) | (simp; omega)⟩, trivial⟩, by decide, trivial, by first | rfl | omega | (simp only [tlL] <;> omega) | (simp <;> omega) | (simp [] <;> omega), c1, trivial⟩ ⟨(congrArg (V.own 9000 1) (by first | rfl | (simp only [tlS, tl, vl, vo, oc, ov, tbl, vbl, ty, vy] <;> rfl) | (simp <;> omega) | (simp []; done) | (rw [List.take_of_length_le (by simp [])] <;> rfl) | (simp [List.take_of_length_le]; done))), trivial⟩ rfl (by first | rfl | (simp only [tlS, tl, vl, vo, oc, ov, tbl, vbl, ty, vy] <;> rfl) | (simp <;> omega) | (simp []; done) | (rw [List.take_of_length_le (by simp [])] <;> rfl) | (simp [List.take_of_length_le]; done)) (fun _ h => h)
theorem F_spec_l1Split_W_C (x0 : ByteArray) (x1 : Int) (y0 : List ByteArray) (h : F_spec_l1Split x0 x1 = some y0) : C Tryd.prog 143 [T.str x0, T.int .u8 x1] (T.list (List.length y0) 1 (List.map T.str y0)) :=
  CG.toC (ps := [(List.length (List.map T.str y0) = (List.length y0) * 1)]) (F_spec_l1Split_W  x0 x1 y0 h) (by rfl) ⟨by first | rfl | omega | (simp <;> omega) | (simp [hl] <;> omega), trivial⟩
theorem F_spec_l1Num_B_W (self : Int → Option ByteArray) (hself : ∀ (x0 : Int) (y0 : ByteArray), self x0 = some y0 → C Tryd.prog 139 [ti x0] (T.str y0)) (x0 : Int) (y0 : ByteArray) (h : F_spec_l1Num_B self x0 = some y0) : C Tryd.prog 139 [ti x0] (T.str y0) := by
  unfold F_spec_l1Num_B at h
  refine C.intro (tab := tab) tab_ok (fn := Tryd.f139) Tryd.func139 (by kernel_rfl) rfl (Nat.le_of_ble_eq_true rfl) ?_
  refine WP.seq ?_
  refine WP.path tab_ok mixed [] [.keep [2, 0], .keepO []] (ps := []) (e := .normal) (σ' := ⟨[], [(2, V.t (T.str (ByteArray.mk #[]))), (0, vi x0)], []⟩) (by kernel_rfl) trivial ?_
  refine WP.seq ?_
  refine WP.seq ?_
  refine WP.path tab_ok mixed [] [.keep [4, 2, 0], .keepO []] (ps := [(True)]) (e := .normal) (σ' := ⟨[], [(4, vb (decide (x0 < (0 : Int)))), (2, V.t (T.str (ByteArray.mk #[]))), (0, vi x0)], []⟩) (by kernel_rfl) ⟨trivial, trivial⟩ ?_
  rcases ite_some h with ⟨h1, h⟩ | ⟨h1, h⟩
  · -- yes
    refine WP.cond (b := decide (x0 < (0 : Int))) rfl (fun _ => ?_) (fun hh => by rw [h1] at hh; cases hh)
    refine WP.seq ?_
    refine WP.seq ?_
    refine WP.path tab_ok mixed [] [.keep [6, 2, 0], .keepO []] (ps := [(True)]) (e := .normal) (σ' := ⟨[], [(6, vb (decide (x0 > (-10 : Int)))), (2, V.t (T.str (ByteArray.mk #[]))), (0, vi x0)], []⟩) (by kernel_rfl) ⟨trivial, trivial⟩ ?_
    rcases ite_some h with ⟨h2, h⟩ | ⟨h2, h⟩
    · -- yes
      refine WP.cond (b := decide (x0 > (-10 : Int))) rfl (fun _ => ?_) (fun hh => by rw [h2] at hh; cases hh)
      obtain ⟨c0, h⟩ := chk_some h
      obtain ⟨r9, c1, h⟩ := bnd1_some h
      obtain ⟨c2, h⟩ := chk_some h
      have h := Option.some.inj h
      subst h
      exact WP.pathW tab_ok mixed [(8, An.v (T.int .i64 (0 - x0))), (9, An.call (T.str r9))] _ (ps := [(T.int .i64 (IntKind.wrap .i64 (0 - x0)) = T.int .i64 (0 - x0)), (C Tryd.prog 139 [ti (0 - x0)] (T.str r9)), ((ByteArray.mk #[45]).size + r9.size ≤ 9223372036854775807)]) (r := T.str ((ByteArray.mk #[45]) ++ r9)) (by kernel_rfl) ⟨wrapI c0, (hself (0 - x0) r9 c1), c2, trivial⟩ (WkT.eq (y := T.str ((ByteArray.mk #[45]) ++ r9)) (WkT.refl _) rfl) (fun _ h => h)
    · -- no
      refine WP.cond (b := decide (x0 > (-10 : Int))) rfl (fun hh => by rw [h2] at hh; cases hh) (fun _ => ?_)
      refine WP.path tab_ok mixed [] [.keep [2, 0], .keepO []] (ps := []) (e := .normal) (σ' := ⟨[], [(2, V.t (T.str (ByteArray.mk #[]))), (0, vi x0)], []⟩) (by kernel_rfl) trivial ?_
      obtain ⟨c0, h⟩ := chk_some h
      obtain ⟨r13, c1, h⟩ := bnd1_some h
      obtain ⟨c2, h⟩ := chk_some h
      obtain ⟨r17, c3, h⟩ := bnd1_some h
      obtain ⟨c4, h⟩ := chk_some h
      have h := Option.some.inj h
      subst h
      exact WP.pathW tab_ok mixed [(12, An.v (T.int .i64 (Int.tdiv x0 (10 : Int)))), (13, An.call (T.str r13)), (16, An.v (T.int .i64 (0 - (Int.tmod x0 (10 : Int))))), (17, An.call (T.str r17))] _ (ps := [((10 : Int) ≠ 0), (T.int .i64 (IntKind.wrap .i64 (Int.tdiv x0 (10 : Int))) = T.int .i64 (Int.tdiv x0 (10 : Int))), (C Tryd.prog 139 [ti (Int.tdiv x0 (10 : Int))] (T.str r13)), ((10 : Int) ≠ 0), (T.int .i64 (IntKind.wrap .i64 (0 - (Int.tmod x0 (10 : Int)))) = T.int .i64 (0 - (Int.tmod x0 (10 : Int)))), (C Tryd.prog 139 [ti (0 - (Int.tmod x0 (10 : Int)))] (T.str r17)), (r13.size + r17.size ≤ 9223372036854775807)]) (r := T.str (r13 ++ r17)) (by kernel_rfl) ⟨(show (10 : Int) ≠ 0 by first | decide | (simp only [maxLen]; omega) | (unfold I64; omega) | (unfold I64; decide)), quo_told c0, (hself (Int.tdiv x0 (10 : Int)) r13 c1), by decide, wrapI c2, (hself (0 - (Int.tmod x0 (10 : Int))) r17 c3), c4, trivial⟩ (WkT.eq (y := T.str (r13 ++ r17)) (WkT.refl _) rfl) (fun _ h => h)
  · -- no
    refine WP.cond (b := decide (x0 < (0 : Int))) rfl (fun hh => by rw [h1] at hh; cases hh) (fun _ => ?_)
    refine WP.path tab_ok mixed [] [.keep [2, 0], .keepO []] (ps := []) (e := .normal) (σ' := ⟨[], [(2, V.t (T.str (ByteArray.mk #[]))), (0, vi x0)], []⟩) (by kernel_rfl) trivial ?_
    refine WP.seq ?_
    refine WP.seq ?_
    refine WP.path tab_ok mixed [] [.keep [20, 2, 0], .keepO []] (ps := [(True)]) (e := .normal) (σ' := ⟨[], [(20, vb (decide (x0 < (10 : Int)))), (2, V.t (T.str (ByteArray.mk #[]))), (0, vi x0)], []⟩) (by kernel_rfl) ⟨trivial, trivial⟩ ?_
    rcases ite_some h with ⟨h3, h⟩ | ⟨h3, h⟩
    · -- yes
      refine WP.cond (b := decide (x0 < (10 : Int))) rfl (fun _ => ?_) (fun hh => by rw [h3] at hh; cases hh)
      obtain ⟨c0, h⟩ := chk_some h
      obtain ⟨c1, h⟩ := chk_some h
      have h := Option.some.inj h
      subst h
      exact WP.pathW tab_ok mixed [(23, An.v (T.int .i64 (x0 + (1 : Int))))] _ (ps := [(True), (T.int .i64 (IntKind.wrap .i64 (x0 + (1 : Int))) = T.int .i64 (x0 + (1 : Int))), ((0 ≤ x0 ∧ x0 ≤ (x0 + (1 : Int)) ∧ (x0 + (1 : Int)) ≤ ((ByteArray.size (ByteArray.mk #[48, 49, 50, 51, 52, 53, 54, 55, 56, 57]) : Nat) : Int)))]) (r := T.str (ByteArray.extract (ByteArray.mk #[48, 49, 50, 51, 52, 53, 54, 55, 56, 57]) (Int.toNat x0) (Int.toNat (x0 + (1 : Int))))) (by kernel_rfl) ⟨trivial, wrapI c0, c1, trivial⟩ (WkT.eq (y := T.str (ByteArray.extract (ByteArray.mk #[48, 49, 50, 51, 52, 53, 54, 55, 56, 57]) (Int.toNat x0) (Int.toNat (x0 + (1 : Int))))) (WkT.refl _) rfl) (fun _ h => h)
    · -- no
      refine WP.cond (b := decide (x0 < (10 : Int))) rfl (fun hh => by rw [h3] at hh; cases hh) (fun _ => ?_)
      refine WP.path tab_ok mixed [] [.keep [2, 0], .keepO []] (ps := []) (e := .normal) (σ' := ⟨[], [(2, V.t (T.str (ByteArray.mk #[]))), (0, vi x0)], []⟩) (by kernel_rfl) trivial ?_
      obtain ⟨c0, h⟩ := chk_some h
      obtain ⟨r27, c1, h⟩ := bnd1_some h
      obtain ⟨c2, h⟩ := chk_some h
      obtain ⟨c3, h⟩ := chk_some h
      obtain ⟨c4, h⟩ := chk_some h
      have h := Option.some.inj h
      subst h
      exact WP.pathW tab_ok mixed [(26, An.v (T.int .i64 (Int.tdiv x0 (10 : Int)))), (27, An.call (T.str r27)), (32, An.v (T.int .i64 ((Int.tmod x0 (10 : Int)) + (1 : Int))))] _ (ps := [((10 : Int) ≠ 0), (T.int .i64 (IntKind.wrap .i64 (Int.tdiv x0 (10 : Int))) = T.int .i64 (Int.tdiv x0 (10 : Int))), (C Tryd.prog 139 [ti (Int.tdiv x0 (10 : Int))] (T.str r27)), ((10 : Int) ≠ 0), ((10 : Int) ≠ 0), (True), (T.int .i64 (IntKind.wrap .i64 ((Int.tmod x0 (10 : Int)) + (1 : Int))) = T.int .i64 ((Int.tmod x0 (10 : Int)) + (1 : Int))), ((0 ≤ (Int.tmod x0 (10 : Int)) ∧ (Int.tmod x0 (10 : Int)) ≤ ((Int.tmod x0 (10 : Int)) + (1 : Int)) ∧ ((Int.tmod x0 (10 : Int)) + (1 : Int)) ≤ ((ByteArray.size (ByteArray.mk #[48, 49, 50, 51, 52, 53, 54, 55, 56, 57]) : Nat) : Int))), (r27.size + (ByteArray.extract (ByteArray.mk #[48, 49, 50, 51, 52, 53, 54, 55, 56, 57]) (Int.toNat (Int.tmod x0 (10 : Int))) (Int.toNat ((Int.tmod x0 (10 : Int)) + (1 : Int)))).size ≤ 9223372036854775807)]) (r := T.str (r27 ++ (ByteArray.extract (ByteArray.mk #[48, 49, 50, 51, 52, 53, 54, 55, 56, 57]) (Int.toNat (Int.tmod x0 (10 : Int))) (Int.toNat ((Int.tmod x0 (10 : Int)) + (1 : Int)))))) (by kernel_rfl) ⟨(show (10 : Int) ≠ 0 by first | decide | (simp only [maxLen]; omega) | (unfold I64; omega) | (unfold I64; decide)), quo_told c0, (hself (Int.tdiv x0 (10 : Int)) r27 c1), by decide, by decide, trivial, wrapI c2, c3, c4, trivial⟩ (WkT.eq (y := T.str (r27 ++ (ByteArray.extract (ByteArray.mk #[48, 49, 50, 51, 52, 53, 54, 55, 56, 57]) (Int.toNat (Int.tmod x0 (10 : Int))) (Int.toNat ((Int.tmod x0 (10 : Int)) + (1 : Int)))))) (WkT.refl _) rfl) (fun _ h => h)
theorem F_spec_l1Num_W (n : Nat) : ∀ (x0 : Int) (y0 : ByteArray), F_spec_l1Num n x0 = some y0 → C Tryd.prog 139 [ti x0] (T.str y0) := by
  induction n with
  | zero => intro x0 y0 h; rw [F_spec_l1Num] at h; cases h
  | succ n ih => intro x0 y0 h; rw [F_spec_l1Num] at h; exact F_spec_l1Num_B_W _ ih x0 y0 h
theorem F_spec_l1Sum_W (x0 : ByteArray) (y0 : Int) (h : F_spec_l1Sum x0 = some y0) : C Tryd.prog 161 [T.str x0] (ti y0) := by
  unfold F_spec_l1Sum at h
  refine C.intro (tab := tab) tab_ok (fn := Tryd.f161) Tryd.func161 (by kernel_rfl) rfl (Nat.le_of_ble_eq_true rfl) ?_
  refine WP.seq ?_
  refine WP.path tab_ok mixed [] [.keep [2, 0], .keepO []] (ps := []) (e := .normal) (σ' := ⟨[], [(2, vi 0), (0, V.t (T.str x0))], []⟩) (by kernel_rfl) trivial ?_
  refine WP.seq ?_
  refine WP.path tab_ok mixed [] [.keep [3, 2, 0], .keepO []] (ps := []) (e := .normal) (σ' := ⟨[], [(3, vi 7), (2, vi 0), (0, V.t (T.str x0))], []⟩) (by kernel_rfl) trivial ?_
  obtain ⟨J1, hJ1, h⟩ := jn_some h
  refine WP.joinA (fun (zz : Int) => ⟨[], [(3, vi zz), (2, vi 0)], []⟩) (fun zz => J1 zz = some y0) ?_ ?_
  · -- to where they meet
    refine WP.seq ?_
    refine WP.path tab_ok mixed [] [.keep [4, 3, 2, 0], .keepO []] (ps := []) (e := .normal) (σ' := ⟨[], [(4, vi 0), (3, vi 7), (2, vi 0), (0, V.t (T.str x0))], []⟩) (by kernel_rfl) trivial ?_
    refine WP.block ?_
    refine WP.wk [.keep [4, 3, 2, 0], .keepO [], .names []] (σ' := ⟨[], [(4, vi 0), (3, vi 7), (2, vi 0), (0, V.t (T.str x0))], []⟩) (ps := []) (by kernel_rfl) trivial ?_
    refine WP.st (σ' := ⟨[], [(4, vi (0 : Int)), (3, vi (7 : Int)), (2, vi 0), (0, V.t (T.str x0))], []⟩) (by first | rfl | (simp only [tlS, tl, vl, vo, oc, ov, tbl, vbl, ty, vy] <;> rfl) | (simp <;> omega) | (simp []; done) | (rw [List.take_of_length_le (by simp [])] <;> rfl) | (simp [List.take_of_length_le]; done)) ?_
    refine WP.loop (α := Nat × Int × Int) (fun zz => ⟨[], [(4, vi zz.2.1), (3, vi zz.2.2), (2, vi 0), (0, V.t (T.str x0))], []⟩) (fun zz => F_spec_l1Sum_L1 x0 J1 zz.1 zz.2.1 zz.2.2 = some y0) (fun zz => zz.1) (fuel, (0 : Int), (7 : Int)) h ?_
    rintro ⟨n, v4, v3⟩ h0
    have h := (show F_spec_l1Sum_L1 x0 J1 n v4 v3 = some y0 from h0)
    rcases n with _ | n
    · rw [F_spec_l1Sum_L1] at h; cases h
    · rw [F_spec_l1Sum_L1] at h
      refine WP.seq ?_
      refine WP.seq ?_
      refine WP.path tab_ok mixed [] [.keep [8, 4, 3, 2, 0], .keepO []] (ps := [(True)]) (e := .normal) (σ' := ⟨[], [(8, vb (decide (v4 < ((ByteArray.size x0 : Nat) : Int)))), (4, vi v4), (3, vi v3), (2, vi 0), (0, V.t (T.str x0))], []⟩) (by kernel_rfl) ⟨trivial, trivial⟩ ?_
      rcases ite_some h with ⟨h1, h⟩ | ⟨h1, h⟩
      · -- yes
        refine WP.cond (b := decide (v4 < ((ByteArray.size x0 : Nat) : Int))) rfl (fun _ => ?_) (fun hh => by rw [h1] at hh; cases hh)
        refine WP.path tab_ok mixed [] [.keep [4, 3, 2, 0], .keepO []] (ps := []) (e := .normal) (σ' := ⟨[], [(4, vi v4), (3, vi v3), (2, vi 0), (0, V.t (T.str x0))], []⟩) (by kernel_rfl) trivial ?_
        refine WP.seq ?_
        refine WP.block ?_
        obtain ⟨c0, h⟩ := chk_some h
        obtain ⟨c1, h⟩ := chk_some h
        obtain ⟨c2, h⟩ := chk_some h
        obtain ⟨c3, h⟩ := chk_some h
        obtain ⟨n17, c4, h⟩ := nam_some h
        obtain ⟨c5, h⟩ := chk_some h
        obtain ⟨n19, c6, h⟩ := nam_some h
        refine WP.path tab_ok mixed [(12, An.v (T.int .i64 ((41 : Int) * v3))), (16, An.v (T.int .i64 (byteAt x0 (Int.toNat v4)))), (17, An.v (ti n17)), (18, An.v (T.int .i64 (n17 + (1 : Int)))), (19, An.v (ti n19))] [.keep [3, 4, 2, 0], .keepO []] (ps := [(True), (T.int .i64 (IntKind.wrap .i64 ((41 : Int) * v3)) = T.int .i64 ((41 : Int) * v3)), ((0 ≤ v4 ∧ v4 < ((ByteArray.size x0 : Nat) : Int))), (T.int .i64 (IntKind.wrap .i64 (byteAt x0 (Int.toNat v4))) = T.int .i64 (byteAt x0 (Int.toNat v4))), (True), (T.int .i64 (IntKind.wrap .i64 (((41 : Int) * v3) + (byteAt x0 (Int.toNat v4)))) = ti n17), (True), (T.int .i64 (IntKind.wrap .i64 (n17 + (1 : Int))) = T.int .i64 (n17 + (1 : Int))), ((999979 : Int) ≠ 0), (ti (Int.tmod (n17 + (1 : Int)) (999979 : Int)) = ti n19)]) (e := .normal) (σ' := ⟨[], [(3, vi n19), (4, vi v4), (2, vi 0), (0, V.t (T.str x0))], []⟩) (by kernel_rfl) ⟨trivial, wrapI c0, c1, wrapI c2, trivial, Eq.trans (wrapI c3) (congrArg (ti) c4), trivial, wrapI c5, by decide, congrArg (ti) c6, trivial⟩ ?_
        obtain ⟨c7, h⟩ := chk_some h
        refine WP.path tab_ok mixed [(10, An.v (T.int .i64 (v4 + (1 : Int))))] [.keep [4, 3, 2, 0], .keepO [], .names []] (ps := [(True), (T.int .i64 (IntKind.wrap .i64 (v4 + (1 : Int))) = T.int .i64 (v4 + (1 : Int)))]) (e := .normal) (σ' := ⟨[], [(4, vi (v4 + (1 : Int))), (3, vi n19), (2, vi 0), (0, V.t (T.str x0))], []⟩) (by kernel_rfl) ⟨trivial, wrapI c7, trivial⟩ ?_
        exact ⟨(n, (v4 + (1 : Int)), n19), h, Nat.lt_succ_self _, rfl⟩
      · -- no
        refine WP.cond (b := decide (v4 < ((ByteArray.size x0 : Nat) : Int))) rfl (fun hh => by rw [h1] at hh; cases hh) (fun _ => ?_)
        refine WP.path tab_ok mixed [] [.keep [3, 2], .keepO [], .names []] (ps := []) (e := (.exit 0)) (σ' := ⟨[], [(3, vi v3), (2, vi 0)], []⟩) (by kernel_rfl) trivial ?_
        exact ⟨(v3), h, rfl⟩
  · -- from there
    intro v3 h0
    have h := (show J1 v3 = some y0 from h0)
    rw [hJ1] at h
    have h := Option.some.inj h
    subst h
    exact WP.pathW tab_ok mixed [] _ (ps := []) (r := ti v3) (by kernel_rfl) trivial (WkT.eq (y := ti v3) (WkT.refl _) rfl) (fun _ h => h)
theorem F_spec_l1Seal_W (x0 : ByteArray) (y0 : ByteArray) (h : F_spec_l1Seal x0 = some y0) : C Tryd.prog 138 [T.str x0] (T.str y0) := by
  unfold F_spec_l1Seal at h
  refine C.intro (tab := tab) tab_ok (fn := Tryd.f138) Tryd.func138 (by kernel_rfl) rfl (Nat.le_of_ble_eq_true rfl) ?_
  obtain ⟨c0, h⟩ := chk_some h
  obtain ⟨r6, c1, h⟩ := bnd1_some h
  obtain ⟨r7, c2, h⟩ := bnd1_some h
  obtain ⟨c3, h⟩ := chk_some h
  have h := Option.some.inj h
  subst h
  exact WP.pathW tab_ok mixed [(6, An.call (ti r6)), (7, An.call (T.str r7))] _ (ps := [(x0.size + (ByteArray.mk #[35]).size ≤ 9223372036854775807), (C Tryd.prog 161 [T.str x0] (ti r6)), (C Tryd.prog 139 [ti r6] (T.str r7)), ((x0 ++ (ByteArray.mk #[35])).size + r7.size ≤ 9223372036854775807)]) (r := T.str ((x0 ++ (ByteArray.mk #[35])) ++ r7)) (by kernel_rfl) ⟨c0, (F_spec_l1Sum_W x0 r6 c1), (F_spec_l1Num_W fuel r6 r7 c2), c3, trivial⟩ (WkT.eq (y := T.str ((x0 ++ (ByteArray.mk #[35])) ++ r7)) (WkT.refl _) rfl) (fun _ h => h)
theorem F_spec_l12Line_W (x0 : Int) (x1 : ByteArray) (x2 : ByteArray) (y0 : ByteArray) (h : F_spec_l12Line x0 x1 x2 = some y0) : C Tryd.prog 82 [ti x0, T.agg [T.str x1, T.str x2]] (T.str y0) := by
  unfold F_spec_l12Line at h
  refine C.intro (tab := tab) tab_ok (fn := Tryd.f82) Tryd.func82 (by kernel_rfl) rfl (Nat.le_of_ble_eq_true rfl) ?_
  obtain ⟨r6, c0, h⟩ := bnd1_some h
  obtain ⟨c1, h⟩ := chk_some h
  obtain ⟨c2, h⟩ := chk_some h
  obtain ⟨c3, h⟩ := chk_some h
  obtain ⟨c4, h⟩ := chk_some h
  obtain ⟨r15, c5, h⟩ := bnd1_some h
  obtain ⟨c6, h⟩ := chk_some h
  have h := Option.some.inj h
  subst h
  exact WP.pathW tab_ok mixed [(3, An.fz), (6, An.call (T.str r6)), (15, An.call (T.str r15))] _ (ps := [(C Tryd.prog 139 [ti x0] (T.str r6)), (r6.size + (ByteArray.mk #[32]).size ≤ 9223372036854775807), (True), ((r6 ++ (ByteArray.mk #[32])).size + x1.size ≤ 9223372036854775807), (((r6 ++ (ByteArray.mk #[32])) ++ x1).size + (ByteArray.mk #[64]).size ≤ 9223372036854775807), (True), ((((r6 ++ (ByteArray.mk #[32])) ++ x1) ++ (ByteArray.mk #[64])).size + x2.size ≤ 9223372036854775807), (C Tryd.prog 138 [T.str ((((r6 ++ (ByteArray.mk #[32])) ++ x1) ++ (ByteArray.mk #[64])) ++ x2)] (T.str r15)), (r15.size + (ByteArray.mk #[10]).size ≤ 9223372036854775807)]) (r := T.str (r15 ++ (ByteArray.mk #[10]))) (by kernel_rfl) ⟨(F_spec_l1Num_W fuel x0 r6 c0), c1, trivial, c2, c3, trivial, c4, (F_spec_l1Seal_W ((((r6 ++ (ByteArray.mk #[32])) ++ x1) ++ (ByteArray.mk #[64])) ++ x2) r15 c5), c6, trivial⟩ (WkT.eq (y := T.str (r15 ++ (ByteArray.mk #[10]))) (WkT.refl _) rfl) (fun _ h => h)
theorem F_spec_l12Decode_W (x0 : ByteArray) (x1 : Int) (y0 : ByteArray) (y1 : ByteArray) (y2 : Bool) (h : F_spec_l12Decode x0 x1 = some (y0, y1, y2)) : C Tryd.prog 144 [T.str x0, ti x1] (T.tup [T.agg [T.str y0, T.str y1], tb y2]) := by
  unfold F_spec_l12Decode at h
  refine C.intro (tab := tab) tab_ok (fn := Tryd.f144) Tryd.func144 (by kernel_rfl) rfl (Nat.le_of_ble_eq_true rfl) ?_
  refine WP.seq ?_
  refine WP.path tab_ok mixed [(4, An.id 2004)] [.keep [5, 4, 0, 1], .keepO [2004]] (ps := []) (e := .normal) (σ' := ⟨[2004], [(5, vb false), (4, V.ref 2004 0), (0, V.t (T.str x0)), (1, vi x1)], [(2004, oc 27 [T.str (ByteArray.mk #[]), T.str (ByteArray.mk #[])])]⟩) (by kernel_rfl) trivial ?_
  refine WP.seq ?_
  obtain ⟨r12, c0, h⟩ := bnd1_some h
  obtain ⟨c1, h⟩ := chk_some h
  refine WP.path tab_ok mixed [(12, An.call (T.str r12))] [.keep [6, 5, 4, 0, 1], .keepO [2004]] (ps := [(C Tryd.prog 139 [ti x1] (T.str r12)), (r12.size + (ByteArray.mk #[32]).size ≤ 9223372036854775807)]) (e := .normal) (σ' := ⟨[2004], [(6, V.t (T.str (r12 ++ (ByteArray.mk #[32])))), (5, vb false), (4, V.ref 2004 0), (0, V.t (T.str x0)), (1, vi x1)], [(2004, oc 27 [T.str (ByteArray.mk #[]), T.str (ByteArray.mk #[])])]⟩) (by kernel_rfl) ⟨(F_spec_l1Num_W fuel x1 r12 c0), c1, trivial⟩ ?_
  refine WP.seq ?_
  obtain ⟨r15, c2, h⟩ := bnd1_some h
  obtain ⟨c3, h⟩ := chk_some h
  refine WP.path tab_ok mixed [(15, An.callG [(9000, 10150)] [V.t (T.str x0), V.t (T.int .u8 35)] [] (vo 9000 (List.length r15)) [(9000, oc 9 (List.map T.str r15))]), (17, An.v (T.str (List.getD r15 0 ByteArray.empty)))] [.keep [7, 6, 5, 4, 0, 1], .keepO [2004]] (ps := [(CG Tryd.prog 143 [V.t (T.str x0), V.t (T.int .u8 35)] [] (vo 9000 (List.length r15)) [(9000, oc 9 (List.map T.str r15))]), (WkT (T.str x0) (T.str x0)), (WkT (T.int .u8 35) (T.int .u8 35)), ((0 ≤ (0 : Int) ∧ (0 : Int) < ((List.length r15 : Nat) : Int))), ((List.map T.str r15 : List T)[0]? = some (T.str (List.getD r15 0 ByteArray.empty))), (T.str (List.getD r15 0 ByteArray.empty) = T.str (List.getD r15 0 ByteArray.empty))]) (e := .normal) (σ' := ⟨[10150, 2004], [(7, V.t (T.str (List.getD r15 0 ByteArray.empty))), (6, V.t (T.str (r12 ++ (ByteArray.mk #[32])))), (5, vb false), (4, V.ref 2004 0), (0, V.t (T.str x0)), (1, vi x1)], [(2004, oc 27 [T.str (ByteArray.mk #[]), T.str (ByteArray.mk #[])])]⟩) (by kernel_rfl) ⟨(F_spec_l1Split_W x0 (35 : Int) r15 c2), WkT.refl _, WkT.refl _, c3, atM (by simp) (by omega), rfl, trivial⟩ ?_
  refine WP.seq ?_
  obtain ⟨J1, hJ1, h⟩ := jn_some h
  refine WP.joinA (fun (zz : Bool) => ⟨[2004], [(30, vb zz), (7, V.t (T.str (List.getD r15 0 ByteArray.empty))), (6, V.t (T.str (r12 ++ (ByteArray.mk #[32])))), (5, vb false), (4, V.ref 2004 0), (0, V.t (T.str x0)), (1, vi x1)], [(2004, oc 27 [T.str (ByteArray.mk #[]), T.str (ByteArray.mk #[])])]⟩) (fun zz => J1 zz = some (y0, y1, y2)) ?_ ?_
  · -- to where they meet
    obtain ⟨n22, c4, h⟩ := nam_some h
    rcases ite_some h with ⟨h1, h⟩ | ⟨h1, h⟩
    · -- yes
      refine WP.path tab_ok mixed [(22, An.v (tb n22)), (23, An.b true)] [.keep [30, 7, 6, 5, 4, 0, 1], .keepO [2004], .names [(2004, 2004)]] (ps := [(True), (tb (decide (((ByteArray.size (List.getD r15 0 ByteArray.empty) : Nat) : Int) < ((ByteArray.size (r12 ++ (ByteArray.mk #[32])) : Nat) : Int))) = tb n22), ((n22) = true)]) (e := .normal) (σ' := ⟨[2004], [(30, vb true), (7, V.t (T.str (List.getD r15 0 ByteArray.empty))), (6, V.t (T.str (r12 ++ (ByteArray.mk #[32])))), (5, vb false), (4, V.ref 2004 0), (0, V.t (T.str x0)), (1, vi x1)], [(2004, oc 27 [T.str (ByteArray.mk #[]), T.str (ByteArray.mk #[])])]⟩) (by kernel_rfl) ⟨trivial, congrArg (tb) c4, h1, trivial⟩ ?_
      exact ⟨(true), h, rfl⟩
    · -- no
      obtain ⟨c5, h⟩ := chk_some h
      obtain ⟨n29, c6, h⟩ := nam_some h
      refine WP.path tab_ok mixed [(22, An.v (tb n22)), (23, An.b false), (29, An.v (tb n29))] [.keep [30, 7, 6, 5, 4, 0, 1], .keepO [2004], .names [(2004, 2004)]] (ps := [(True), (tb (decide (((ByteArray.size (List.getD r15 0 ByteArray.empty) : Nat) : Int) < ((ByteArray.size (r12 ++ (ByteArray.mk #[32])) : Nat) : Int))) = tb n22), ((n22) = false), ((0 ≤ (0 : Int) ∧ (0 : Int) ≤ ((ByteArray.size (r12 ++ (ByteArray.mk #[32])) : Nat) : Int) ∧ ((ByteArray.size (r12 ++ (ByteArray.mk #[32])) : Nat) : Int) ≤ ((ByteArray.size (List.getD r15 0 ByteArray.empty) : Nat) : Int))), (True), (tb (!((ByteArray.extract (List.getD r15 0 ByteArray.empty) 0 (Int.toNat ((ByteArray.size (r12 ++ (ByteArray.mk #[32])) : Nat) : Int))).toList == (r12 ++ (ByteArray.mk #[32])).toList)) = tb n29)]) (e := .normal) (σ' := ⟨[2004], [(30, vb n29), (7, V.t (T.str (List.getD r15 0 ByteArray.empty))), (6, V.t (T.str (r12 ++ (ByteArray.mk #[32])))), (5, vb false), (4, V.ref 2004 0), (0, V.t (T.str x0)), (1, vi x1)], [(2004, oc 27 [T.str (ByteArray.mk #[]), T.str (ByteArray.mk #[])])]⟩) (by kernel_rfl) ⟨trivial, congrArg (tb) c4, h1, c5, trivial, congrArg (tb) c6, trivial⟩ ?_
      exact ⟨(n29), h, rfl⟩
  · -- from there
    intro v30 h0
    have h := (show J1 v30 = some (y0, y1, y2) from h0)
    rw [hJ1] at h
    rcases ite_some h with ⟨h2, h⟩ | ⟨h2, h⟩
    · -- yes
      refine WP.cond (b := v30) rfl (fun _ => ?_) (fun hh => by rw [h2] at hh; cases hh)
      simp only [Option.some.injEq, Prod.mk.injEq] at h
      obtain ⟨rfl, rfl, rfl⟩ := h
      exact WP.pathW tab_ok mixed [] _ (ps := [(True), ((0 + 2 ≤ 2 ∧ 2 = 2)), (0 + 2 ≤ 2)]) (r := T.tup [T.agg [T.str (ByteArray.mk #[]), T.str (ByteArray.mk #[])], tb false]) (by kernel_rfl) ⟨trivial, by decide, by first | decide | omega | (simp only [tlL] <;> omega) | (simp <;> omega) | (simp [] <;> omega), trivial⟩ (WkT.eq (y := T.tup [T.agg [T.str (ByteArray.mk #[]), T.str (ByteArray.mk #[])], tb false]) (WkT.refl _) rfl) (fun _ h => h)
    · -- no
      refine WP.cond (b := v30) rfl (fun hh => by rw [h2] at hh; cases hh) (fun _ => ?_)
      refine WP.path tab_ok mixed [] [.keep [7, 6, 5, 4, 0, 1], .keepO [2004]] (ps := []) (e := .normal) (σ' := ⟨[2004], [(7, V.t (T.str (List.getD r15 0 ByteArray.empty))), (6, V.t (T.str (r12 ++ (ByteArray.mk #[32])))), (5, vb false), (4, V.ref 2004 0), (0, V.t (T.str x0)), (1, vi x1)], [(2004, oc 27 [T.str (ByteArray.mk #[]), T.str (ByteArray.mk #[])])]⟩) (by kernel_rfl) trivial ?_
      refine WP.seq ?_
      obtain ⟨c4, h⟩ := chk_some h
      refine WP.path tab_ok mixed [] [.keep [8, 5, 4, 0, 1], .keepO [2004]] (ps := [((0 ≤ ((ByteArray.size (r12 ++ (ByteArray.mk #[32])) : Nat) : Int) ∧ ((ByteArray.size (r12 ++ (ByteArray.mk #[32])) : Nat) : Int) ≤ ((ByteArray.size (List.getD r15 0 ByteArray.empty) : Nat) : Int) ∧ ((ByteArray.size (List.getD r15 0 ByteArray.empty) : Nat) : Int) ≤ ((ByteArray.size (List.getD r15 0 ByteArray.empty) : Nat) : Int)))]) (e := .normal) (σ' := ⟨[2004], [(8, V.t (T.str (ByteArray.extract (List.getD r15 0 ByteArray.empty) (Int.toNat ((ByteArray.size (r12 ++ (ByteArray.mk #[32])) : Nat) : Int)) (Int.toNat ((ByteArray.size (List.getD r15 0 ByteArray.empty) : Nat) : Int))))), (5, vb false), (4, V.ref 2004 0), (0, V.t (T.str x0)), (1, vi x1)], [(2004, oc 27 [T.str (ByteArray.mk #[]), T.str (ByteArray.mk #[])])]⟩) (by kernel_rfl) ⟨c4, trivial⟩ ?_
      refine WP.seq ?_
      obtain ⟨r37, c5, h⟩ := bnd1_some h
      obtain ⟨c6, h⟩ := chk_some h
      refine WP.path tab_ok mixed [(37, An.callG [(9000, 10370)] [V.t (T.str (ByteArray.extract (List.getD r15 0 ByteArray.empty) (Int.toNat ((ByteArray.size (r12 ++ (ByteArray.mk #[32])) : Nat) : Int)) (Int.toNat ((ByteArray.size (List.getD r15 0 ByteArray.empty) : Nat) : Int)))), V.t (T.int .u8 64)] [] (vo 9000 (List.length r37)) [(9000, oc 9 (List.map T.str r37))]), (39, An.v (T.str (List.getD r37 0 ByteArray.empty)))] [.keep [9, 8, 5, 4, 0, 1], .keepO [2004]] (ps := [(CG Tryd.prog 143 [V.t (T.str (ByteArray.extract (List.getD r15 0 ByteArray.empty) (Int.toNat ((ByteArray.size (r12 ++ (ByteArray.mk #[32])) : Nat) : Int)) (Int.toNat ((ByteArray.size (List.getD r15 0 ByteArray.empty) : Nat) : Int)))), V.t (T.int .u8 64)] [] (vo 9000 (List.length r37)) [(9000, oc 9 (List.map T.str r37))]), (WkT (T.str (ByteArray.extract (List.getD r15 0 ByteArray.empty) (Int.toNat ((ByteArray.size (r12 ++ (ByteArray.mk #[32])) : Nat) : Int)) (Int.toNat ((ByteArray.size (List.getD r15 0 ByteArray.empty) : Nat) : Int)))) (T.str (ByteArray.extract (List.getD r15 0 ByteArray.empty) (Int.toNat ((ByteArray.size (r12 ++ (ByteArray.mk #[32])) : Nat) : Int)) (Int.toNat ((ByteArray.size (List.getD r15 0 ByteArray.empty) : Nat) : Int))))), (WkT (T.int .u8 64) (T.int .u8 64)), ((0 ≤ (0 : Int) ∧ (0 : Int) < ((List.length r37 : Nat) : Int))), ((List.map T.str r37 : List T)[0]? = some (T.str (List.getD r37 0 ByteArray.empty))), (T.str (List.getD r37 0 ByteArray.empty) = T.str (List.getD r37 0 ByteArray.empty))]) (e := .normal) (σ' := ⟨[10370, 2004], [(9, V.t (T.str (List.getD r37 0 ByteArray.empty))), (8, V.t (T.str (ByteArray.extract (List.getD r15 0 ByteArray.empty) (Int.toNat ((ByteArray.size (r12 ++ (ByteArray.mk #[32])) : Nat) : Int)) (Int.toNat ((ByteArray.size (List.getD r15 0 ByteArray.empty) : Nat) : Int))))), (5, vb false), (4, V.ref 2004 0), (0, V.t (T.str x0)), (1, vi x1)], [(2004, oc 27 [T.str (ByteArray.mk #[]), T.str (ByteArray.mk #[])])]⟩) (by kernel_rfl) ⟨(F_spec_l1Split_W (ByteArray.extract (List.getD r15 0 ByteArray.empty) (Int.toNat ((ByteArray.size (r12 ++ (ByteArray.mk #[32])) : Nat) : Int)) (Int.toNat ((ByteArray.size (List.getD r15 0 ByteArray.empty) : Nat) : Int))) (64 : Int) r37 c5), WkT.refl _, WkT.refl _, c6, atM (by simp) (by omega), rfl, trivial⟩ ?_
      refine WP.seq ?_
      refine WP.seq ?_
      obtain ⟨n44, c7, h⟩ := nam_some h
      refine WP.path tab_ok mixed [(44, An.v (tb n44))] [.keep [44, 9, 8, 5, 4, 0, 1], .keepO [2004]] (ps := [(True), (tb (((ByteArray.size (List.getD r37 0 ByteArray.empty) : Nat) : Int) == ((ByteArray.size (ByteArray.extract (List.getD r15 0 ByteArray.empty) (Int.toNat ((ByteArray.size (r12 ++ (ByteArray.mk #[32])) : Nat) : Int)) (Int.toNat ((ByteArray.size (List.getD r15 0 ByteArray.empty) : Nat) : Int))) : Nat) : Int)) = tb n44)]) (e := .normal) (σ' := ⟨[10370, 2004], [(44, vb n44), (9, V.t (T.str (List.getD r37 0 ByteArray.empty))), (8, V.t (T.str (ByteArray.extract (List.getD r15 0 ByteArray.empty) (Int.toNat ((ByteArray.size (r12 ++ (ByteArray.mk #[32])) : Nat) : Int)) (Int.toNat ((ByteArray.size (List.getD r15 0 ByteArray.empty) : Nat) : Int))))), (5, vb false), (4, V.ref 2004 0), (0, V.t (T.str x0)), (1, vi x1)], [(2004, oc 27 [T.str (ByteArray.mk #[]), T.str (ByteArray.mk #[])])]⟩) (by kernel_rfl) ⟨trivial, congrArg (tb) c7, trivial⟩ ?_
      rcases ite_some h with ⟨h3, h⟩ | ⟨h3, h⟩
      · -- yes
        refine WP.cond (b := n44) rfl (fun _ => ?_) (fun hh => by rw [h3] at hh; cases hh)
        simp only [Option.some.injEq, Prod.mk.injEq] at h
        obtain ⟨rfl, rfl, rfl⟩ := h
        exact WP.pathW tab_ok mixed [] _ (ps := [(True), ((0 + 2 ≤ 2 ∧ 2 = 2)), (0 + 2 ≤ 2)]) (r := T.tup [T.agg [T.str (ByteArray.mk #[]), T.str (ByteArray.mk #[])], tb false]) (by kernel_rfl) ⟨trivial, by decide, by first | decide | omega | (simp only [tlL] <;> omega) | (simp <;> omega) | (simp [] <;> omega), trivial⟩ (WkT.eq (y := T.tup [T.agg [T.str (ByteArray.mk #[]), T.str (ByteArray.mk #[])], tb false]) (WkT.refl _) rfl) (fun _ h => h)
      · -- no
        refine WP.cond (b := n44) rfl (fun hh => by rw [h3] at hh; cases hh) (fun _ => ?_)
        refine WP.path tab_ok mixed [] [.keep [9, 8, 5, 4, 0, 1], .keepO [2004]] (ps := []) (e := .normal) (σ' := ⟨[10370, 2004], [(9, V.t (T.str (List.getD r37 0 ByteArray.empty))), (8, V.t (T.str (ByteArray.extract (List.getD r15 0 ByteArray.empty) (Int.toNat ((ByteArray.size (r12 ++ (ByteArray.mk #[32])) : Nat) : Int)) (Int.toNat ((ByteArray.size (List.getD r15 0 ByteArray.empty) : Nat) : Int))))), (5, vb false), (4, V.ref 2004 0), (0, V.t (T.str x0)), (1, vi x1)], [(2004, oc 27 [T.str (ByteArray.mk #[]), T.str (ByteArray.mk #[])])]⟩) (by kernel_rfl) trivial ?_
        obtain ⟨c8, h⟩ := chk_some h
        obtain ⟨n50, c9, h⟩ := nam_some h
        obtain ⟨c10, h⟩ := chk_some h
        obtain ⟨c11, h⟩ := chk_some h
        obtain ⟨c12, h⟩ := chk_some h
        rcases ite_some h with ⟨h4, h⟩ | ⟨h4, h⟩
        · -- yes
          obtain ⟨r59, c13, h⟩ := bnd1_some h
          obtain ⟨c14, h⟩ := chk_some h
          simp only [Option.some.injEq, Prod.mk.injEq] at h
          obtain ⟨rfl, rfl, rfl⟩ := h
          exact WP.pathW tab_ok mixed [(50, An.v (ti n50)), (10, An.id 2010), (55, An.call (tb true)), (59, An.call (T.str r59))] _ (ps := [(True), (T.int .i64 (IntKind.wrap .i64 (((ByteArray.size (List.getD r37 0 ByteArray.empty) : Nat) : Int) + (1 : Int))) = ti n50), ((0 ≤ n50 ∧ n50 ≤ ((ByteArray.size (ByteArray.extract (List.getD r15 0 ByteArray.empty) (Int.toNat ((ByteArray.size (r12 ++ (ByteArray.mk #[32])) : Nat) : Int)) (Int.toNat ((ByteArray.size (List.getD r15 0 ByteArray.empty) : Nat) : Int))) : Nat) : Int) ∧ ((ByteArray.size (ByteArray.extract (List.getD r15 0 ByteArray.empty) (Int.toNat ((ByteArray.size (r12 ++ (ByteArray.mk #[32])) : Nat) : Int)) (Int.toNat ((ByteArray.size (List.getD r15 0 ByteArray.empty) : Nat) : Int))) : Nat) : Int) ≤ ((ByteArray.size (ByteArray.extract (List.getD r15 0 ByteArray.empty) (Int.toNat ((ByteArray.size (r12 ++ (ByteArray.mk #[32])) : Nat) : Int)) (Int.toNat ((ByteArray.size (List.getD r15 0 ByteArray.empty) : Nat) : Int))) : Nat) : Int))), ((1 = 1 ∧ 0 + 1 ≤ 2) ∧ (1 = 1 ∧ 1 + 1 ≤ 2) ∧ True), ((0 + 2 ≤ 2 ∧ 2 = 2)), (0 + 2 ≤ 2), (0 + 2 ≤ 2), (C Tryd.prog 81 [T.agg [T.str (List.getD r37 0 ByteArray.empty), T.str (ByteArray.extract (ByteArray.extract (List.getD r15 0 ByteArray.empty) (Int.toNat ((ByteArray.size (r12 ++ (ByteArray.mk #[32])) : Nat) : Int)) (Int.toNat ((ByteArray.size (List.getD r15 0 ByteArray.empty) : Nat) : Int))) (Int.toNat n50) (Int.toNat ((ByteArray.size (ByteArray.extract (List.getD r15 0 ByteArray.empty) (Int.toNat ((ByteArray.size (r12 ++ (ByteArray.mk #[32])) : Nat) : Int)) (Int.toNat ((ByteArray.size (List.getD r15 0 ByteArray.empty) : Nat) : Int))) : Nat) : Int)))]] (tb true)), (0 + 2 ≤ 2), (C Tryd.prog 82 [ti x1, T.agg [T.str (List.getD r37 0 ByteArray.empty), T.str (ByteArray.extract (ByteArray.extract (List.getD r15 0 ByteArray.empty) (Int.toNat ((ByteArray.size (r12 ++ (ByteArray.mk #[32])) : Nat) : Int)) (Int.toNat ((ByteArray.size (List.getD r15 0 ByteArray.empty) : Nat) : Int))) (Int.toNat n50) (Int.toNat ((ByteArray.size (ByteArray.extract (List.getD r15 0 ByteArray.empty) (Int.toNat ((ByteArray.size (r12 ++ (ByteArray.mk #[32])) : Nat) : Int)) (Int.toNat ((ByteArray.size (List.getD r15 0 ByteArray.empty) : Nat) : Int))) : Nat) : Int)))]] (T.str r59)), (x0.size + (ByteArray.mk #[10]).size ≤ 9223372036854775807), (True), ((0 + 2 ≤ 2 ∧ 2 = 2)), (0 + 2 ≤ 2)]) (r := T.tup [T.agg [T.str (List.getD r37 0 ByteArray.empty), T.str (ByteArray.extract (ByteArray.extract (List.getD r15 0 ByteArray.empty) (Int.toNat ((ByteArray.size (r12 ++ (ByteArray.mk #[32])) : Nat) : Int)) (Int.toNat ((ByteArray.size (List.getD r15 0 ByteArray.empty) : Nat) : Int))) (Int.toNat n50) (Int.toNat ((ByteArray.size (ByteArray.extract (List.getD r15 0 ByteArray.empty) (Int.toNat ((ByteArray.size (r12 ++ (ByteArray.mk #[32])) : Nat) : Int)) (Int.toNat ((ByteArray.size (List.getD r15 0 ByteArray.empty) : Nat) : Int))) : Nat) : Int)))], tb (r59.toList == (x0 ++ (ByteArray.mk #[10])).toList)]) (by kernel_rfl) ⟨trivial, Eq.trans (wrapI c8) (congrArg (ti) c9), c10, ⟨⟨by first | rfl | (simp; done) | (simp []; done) | omega, by first | decide | (simp; done) | (simp []; done) | omega | (simp only [tlL]; omega) | (simp; omega)⟩, ⟨by first | rfl | (simp; done) | (simp []; done) | omega, by first | decide | (simp; done) | (simp []; done) | omega | (simp only [tlL]; omega) | (simp; omega)⟩, trivial⟩, by decide, by decide, by decide, (C.toB h4 (l12Record_C (List.getD r37 0 ByteArray.empty) (ByteArray.extract (ByteArray.extract (List.getD r15 0 ByteArray.empty) (Int.toNat ((ByteArray.size (r12 ++ (ByteArray.mk #[32])) : Nat) : Int)) (Int.toNat ((ByteArray.size (List.getD r15 0 ByteArray.empty) : Nat) : Int))) (Int.toNat n50) (Int.toNat ((ByteArray.size (ByteArray.extract (List.getD r15 0 ByteArray.empty) (Int.toNat ((ByteArray.size (r12 ++ (ByteArray.mk #[32])) : Nat) : Int)) (Int.toNat ((ByteArray.size (List.getD r15 0 ByteArray.empty) : Nat) : Int))) : Nat) : Int))) c11 c12)), by decide, (F_spec_l12Line_W x1 (List.getD r37 0 ByteArray.empty) (ByteArray.extract (ByteArray.extract (List.getD r15 0 ByteArray.empty) (Int.toNat ((ByteArray.size (r12 ++ (ByteArray.mk #[32])) : Nat) : Int)) (Int.toNat ((ByteArray.size (List.getD r15 0 ByteArray.empty) : Nat) : Int))) (Int.toNat n50) (Int.toNat ((ByteArray.size (ByteArray.extract (List.getD r15 0 ByteArray.empty) (Int.toNat ((ByteArray.size (r12 ++ (ByteArray.mk #[32])) : Nat) : Int)) (Int.toNat ((ByteArray.size (List.getD r15 0 ByteArray.empty) : Nat) : Int))) : Nat) : Int))) r59 c13), c14, trivial, by decide, by first | decide | omega | (simp only [tlL] <;> omega) | (simp <;> omega) | (simp [] <;> omega), trivial⟩ (WkT.eq (y := T.tup [T.agg [T.str (List.getD r37 0 ByteArray.empty), T.str (ByteArray.extract (ByteArray.extract (List.getD r15 0 ByteArray.empty) (Int.toNat ((ByteArray.size (r12 ++ (ByteArray.mk #[32])) : Nat) : Int)) (Int.toNat ((ByteArray.size (List.getD r15 0 ByteArray.empty) : Nat) : Int))) (Int.toNat n50) (Int.toNat ((ByteArray.size (ByteArray.extract (List.getD r15 0 ByteArray.empty) (Int.toNat ((ByteArray.size (r12 ++ (ByteArray.mk #[32])) : Nat) : Int)) (Int.toNat ((ByteArray.size (List.getD r15 0 ByteArray.empty) : Nat) : Int))) : Nat) : Int)))], tb (r59.toList == (x0 ++ (ByteArray.mk #[10])).toList)]) (WkT.refl _) rfl) (fun _ h => h)
        · -- no
          simp only [Option.some.injEq, Prod.mk.injEq] at h
          obtain ⟨rfl, rfl, rfl⟩ := h
          exact WP.pathW tab_ok mixed [(50, An.v (ti n50)), (10, An.id 2010), (55, An.call (tb false))] _ (ps := [(True), (T.int .i64 (IntKind.wrap .i64 (((ByteArray.size (List.getD r37 0 ByteArray.empty) : Nat) : Int) + (1 : Int))) = ti n50), ((0 ≤ n50 ∧ n50 ≤ ((ByteArray.size (ByteArray.extract (List.getD r15 0 ByteArray.empty) (Int.toNat ((ByteArray.size (r12 ++ (ByteArray.mk #[32])) : Nat) : Int)) (Int.toNat ((ByteArray.size (List.getD r15 0 ByteArray.empty) : Nat) : Int))) : Nat) : Int) ∧ ((ByteArray.size (ByteArray.extract (List.getD r15 0 ByteArray.empty) (Int.toNat ((ByteArray.size (r12 ++ (ByteArray.mk #[32])) : Nat) : Int)) (Int.toNat ((ByteArray.size (List.getD r15 0 ByteArray.empty) : Nat) : Int))) : Nat) : Int) ≤ ((ByteArray.size (ByteArray.extract (List.getD r15 0 ByteArray.empty) (Int.toNat ((ByteArray.size (r12 ++ (ByteArray.mk #[32])) : Nat) : Int)) (Int.toNat ((ByteArray.size (List.getD r15 0 ByteArray.empty) : Nat) : Int))) : Nat) : Int))), ((1 = 1 ∧ 0 + 1 ≤ 2) ∧ (1 = 1 ∧ 1 + 1 ≤ 2) ∧ True), ((0 + 2 ≤ 2 ∧ 2 = 2)), (0 + 2 ≤ 2), (0 + 2 ≤ 2), (C Tryd.prog 81 [T.agg [T.str (List.getD r37 0 ByteArray.empty), T.str (ByteArray.extract (ByteArray.extract (List.getD r15 0 ByteArray.empty) (Int.toNat ((ByteArray.size (r12 ++ (ByteArray.mk #[32])) : Nat) : Int)) (Int.toNat ((ByteArray.size (List.getD r15 0 ByteArray.empty) : Nat) : Int))) (Int.toNat n50) (Int.toNat ((ByteArray.size (ByteArray.extract (List.getD r15 0 ByteArray.empty) (Int.toNat ((ByteArray.size (r12 ++ (ByteArray.mk #[32])) : Nat) : Int)) (Int.toNat ((ByteArray.size (List.getD r15 0 ByteArray.empty) : Nat) : Int))) : Nat) : Int)))]] (tb false)), ((0 + 2 ≤ 2 ∧ 2 = 2)), (0 + 2 ≤ 2)]) (r := T.tup [T.agg [T.str (List.getD r37 0 ByteArray.empty), T.str (ByteArray.extract (ByteArray.extract (List.getD r15 0 ByteArray.empty) (Int.toNat ((ByteArray.size (r12 ++ (ByteArray.mk #[32])) : Nat) : Int)) (Int.toNat ((ByteArray.size (List.getD r15 0 ByteArray.empty) : Nat) : Int))) (Int.toNat n50) (Int.toNat ((ByteArray.size (ByteArray.extract (List.getD r15 0 ByteArray.empty) (Int.toNat ((ByteArray.size (r12 ++ (ByteArray.mk #[32])) : Nat) : Int)) (Int.toNat ((ByteArray.size (List.getD r15 0 ByteArray.empty) : Nat) : Int))) : Nat) : Int)))], tb false]) (by kernel_rfl) ⟨trivial, Eq.trans (wrapI c8) (congrArg (ti) c9), c10, ⟨⟨by first | rfl | (simp; done) | (simp []; done) | omega, by first | decide | (simp; done) | (simp []; done) | omega | (simp only [tlL]; omega) | (simp; omega)⟩, ⟨by first | rfl | (simp; done) | (simp []; done) | omega, by first | decide | (simp; done) | (simp []; done) | omega | (simp only [tlL]; omega) | (simp; omega)⟩, trivial⟩, by decide, by decide, by decide, (C.toB h4 (l12Record_C (List.getD r37 0 ByteArray.empty) (ByteArray.extract (ByteArray.extract (List.getD r15 0 ByteArray.empty) (Int.toNat ((ByteArray.size (r12 ++ (ByteArray.mk #[32])) : Nat) : Int)) (Int.toNat ((ByteArray.size (List.getD r15 0 ByteArray.empty) : Nat) : Int))) (Int.toNat n50) (Int.toNat ((ByteArray.size (ByteArray.extract (List.getD r15 0 ByteArray.empty) (Int.toNat ((ByteArray.size (r12 ++ (ByteArray.mk #[32])) : Nat) : Int)) (Int.toNat ((ByteArray.size (List.getD r15 0 ByteArray.empty) : Nat) : Int))) : Nat) : Int))) c11 c12)), by decide, by first | decide | omega | (simp only [tlL] <;> omega) | (simp <;> omega) | (simp [] <;> omega), trivial⟩ (WkT.eq (y := T.tup [T.agg [T.str (List.getD r37 0 ByteArray.empty), T.str (ByteArray.extract (ByteArray.extract (List.getD r15 0 ByteArray.empty) (Int.toNat ((ByteArray.size (r12 ++ (ByteArray.mk #[32])) : Nat) : Int)) (Int.toNat ((ByteArray.size (List.getD r15 0 ByteArray.empty) : Nat) : Int))) (Int.toNat n50) (Int.toNat ((ByteArray.size (ByteArray.extract (List.getD r15 0 ByteArray.empty) (Int.toNat ((ByteArray.size (r12 ++ (ByteArray.mk #[32])) : Nat) : Int)) (Int.toNat ((ByteArray.size (List.getD r15 0 ByteArray.empty) : Nat) : Int))) : Nat) : Int)))], tb false]) (WkT.refl _) rfl) (fun _ h => h)
theorem F_spec_l12Open_W (x0 : ByteArray) (y0 : List (ByteArray × ByteArray)) (y1 : Int) (h : F_spec_l12Open x0 = some (y0, y1)) : CG Tryd.prog 86 [V.t (T.str x0)] [] (V.tup [V.own 9000 2 (List.length y0), vi y1]) [(9000, oc 27 (List.flatMap recsC y0))] := by
  unfold F_spec_l12Open at h
  refine CG.intro (tab := tab) tab_ok (fn := Tryd.f86) Tryd.func86 (by kernel_rfl) rfl (Nat.le_of_ble_eq_true rfl) (by kernel_rfl) ?_
  refine WP.seq ?_
  refine WP.path tab_ok mixed [] [.keep [3, 2, 0], .keepO []] (ps := []) (e := .normal) (σ' := ⟨[], [(3, vi 0), (2, V.t (T.nils)), (0, V.t (T.str x0))], []⟩) (by kernel_rfl) trivial ?_
  refine WP.seq ?_
  refine WP.path tab_ok mixed [(9, An.id 2009)] [.keep [4, 3, 2, 0], .keepO [2009]] (ps := [(True), (0 = 0 * 2)]) (e := .normal) (σ' := ⟨[2009], [(4, V.own 2009 2 0), (3, vi 0), (2, V.t (T.nils)), (0, V.t (T.str x0))], [(2009, oc 27 [])]⟩) (by kernel_rfl) ⟨trivial, by decide, trivial⟩ ?_
  refine WP.seq ?_
  refine WP.path tab_ok mixed [] [.keep [5, 4, 3, 2, 0], .keepO [2009]] (ps := []) (e := .normal) (σ' := ⟨[2009], [(5, vi 0), (4, V.own 2009 2 0), (3, vi 0), (2, V.t (T.nils)), (0, V.t (T.str x0))], [(2009, oc 27 [])]⟩) (by kernel_rfl) trivial ?_
  obtain ⟨J1, hJ1, h⟩ := jn_some h
  refine WP.joinA (fun (zz : (List (ByteArray × ByteArray)) × Int) => ⟨[2009], [(5, vi zz.2), (4, V.own 2009 2 (List.length zz.1)), (3, vi 0), (2, V.t (T.nils))], [(2009, oc 27 (List.flatMap recsC zz.1))]⟩) (fun zz => J1 zz.1 zz.2 = some (y0, y1)) ?_ ?_
  · -- to where they meet
    refine WP.block ?_
    refine WP.wk [.keep [5, 4, 3, 2, 0], .keepO [2009], .names [(2009, 2009)]] (σ' := ⟨[2009], [(5, vi 0), (4, V.own 2009 2 0), (3, vi 0), (2, V.t (T.nils)), (0, V.t (T.str x0))], [(2009, oc 27 [])]⟩) (ps := []) (by kernel_rfl) trivial ?_
    refine WP.st (σ' := ⟨[2009], [(5, vi (0 : Int)), (4, V.own 2009 2 (List.length ([] : List (ByteArray × ByteArray)))), (3, vi 0), (2, V.t (T.nils)), (0, V.t (T.str x0))], [(2009, oc 27 (List.flatMap recsC ([] : List (ByteArray × ByteArray))))]⟩) (by first | rfl | (simp only [tlS, tl, vl, vo, oc, ov, tbl, vbl, ty, vy] <;> rfl) | (simp <;> omega) | (simp []; done) | (rw [List.take_of_length_le (by simp [])] <;> rfl) | (simp [List.take_of_length_le]; done)) ?_
    refine WP.loop (α := Nat × (List (ByteArray × ByteArray)) × Int) (fun zz => ⟨[2009], [(5, vi zz.2.2), (4, V.own 2009 2 (List.length zz.2.1)), (3, vi 0), (2, V.t (T.nils)), (0, V.t (T.str x0))], [(2009, oc 27 (List.flatMap recsC zz.2.1))]⟩) (fun zz => F_spec_l12Open_L1 x0 J1 zz.1 zz.2.1 zz.2.2 = some (y0, y1)) (fun zz => zz.1) (fuel, ([] : List (ByteArray × ByteArray)), (0 : Int)) h ?_
    rintro ⟨n, o9, v5⟩ h0
    have h := (show F_spec_l12Open_L1 x0 J1 n o9 v5 = some (y0, y1) from h0)
    rcases n with _ | n
    · rw [F_spec_l12Open_L1] at h; cases h
    · rw [F_spec_l12Open_L1] at h
      refine WP.seq ?_
      obtain ⟨J2, hJ2, h⟩ := jn_some h
      refine WP.joinA (fun (zz : Bool) => ⟨[2009], [(18, vb zz), (5, vi v5), (4, V.own 2009 2 (List.length o9)), (3, vi 0), (2, V.t (T.nils)), (0, V.t (T.str x0))], [(2009, oc 27 (List.flatMap recsC o9))]⟩) (fun zz => J2 zz = some (y0, y1)) ?_ ?_
      · -- to where they meet
        rcases ite_some h with ⟨h1, h⟩ | ⟨h1, h⟩
        · -- yes
          refine WP.path tab_ok mixed [(13, An.b true)] [.keep [18, 5, 4, 3, 2, 0], .keepO [2009], .names [(2009, 2009)]] (ps := [(True), ((decide (v5 < ((ByteArray.size x0 : Nat) : Int))) = true), (True)]) (e := .normal) (σ' := ⟨[2009], [(18, vb (decide (((List.length o9 : Nat) : Int) < (60 : Int)))), (5, vi v5), (4, V.own 2009 2 (List.length o9)), (3, vi 0), (2, V.t (T.nils)), (0, V.t (T.str x0))], [(2009, oc 27 (List.flatMap recsC o9))]⟩) (by kernel_rfl) ⟨trivial, h1, trivial, trivial⟩ ?_
          exact ⟨(decide (((List.length o9 : Nat) : Int) < (60 : Int))), h, rfl⟩
        · -- no
          refine WP.path tab_ok mixed [(13, An.b false)] [.keep [18, 5, 4, 3, 2, 0], .keepO [2009], .names [(2009, 2009)]] (ps := [(True), ((decide (v5 < ((ByteArray.size x0 : Nat) : Int))) = false)]) (e := .normal) (σ' := ⟨[2009], [(18, vb false), (5, vi v5), (4, V.own 2009 2 (List.length o9)), (3, vi 0), (2, V.t (T.nils)), (0, V.t (T.str x0))], [(2009, oc 27 (List.flatMap recsC o9))]⟩) (by kernel_rfl) ⟨trivial, h1, trivial⟩ ?_
          exact ⟨(false), h, rfl⟩
      · -- from there
        intro v18 h0
        have h := (show J2 v18 = some (y0, y1) from h0)
        rw [hJ2] at h
        rcases ite_some h with ⟨h2, h⟩ | ⟨h2, h⟩
        · -- yes
          refine WP.cond (b := v18) rfl (fun _ => ?_) (fun hh => by rw [h2] at hh; cases hh)
          refine WP.path tab_ok mixed [] [.keep [5, 4, 3, 2, 0], .keepO [2009]] (ps := []) (e := .normal) (σ' := ⟨[2009], [(5, vi v5), (4, V.own 2009 2 (List.length o9)), (3, vi 0), (2, V.t (T.nils)), (0, V.t (T.str x0))], [(2009, oc 27 (List.flatMap recsC o9))]⟩) (by kernel_rfl) trivial ?_
          refine WP.block ?_
          refine WP.seq ?_
          obtain ⟨c0, h⟩ := chk_some h
          obtain ⟨r22, c1, h⟩ := bnd1_some h
          refine WP.path tab_ok mixed [(22, An.callG [(9000, 10220)] [V.t (T.str (ByteArray.extract x0 (Int.toNat v5) (Int.toNat ((ByteArray.size x0 : Nat) : Int)))), V.t (T.int .u8 10)] [] (vo 9000 (List.length r22)) [(9000, oc 9 (List.map T.str r22))])] [.keep [6, 5, 4, 3, 2, 0], .keepO [2009, 10220]] (ps := [((0 ≤ v5 ∧ v5 ≤ ((ByteArray.size x0 : Nat) : Int) ∧ ((ByteArray.size x0 : Nat) : Int) ≤ ((ByteArray.size x0 : Nat) : Int))), (CG Tryd.prog 143 [V.t (T.str (ByteArray.extract x0 (Int.toNat v5) (Int.toNat ((ByteArray.size x0 : Nat) : Int)))), V.t (T.int .u8 10)] [] (vo 9000 (List.length r22)) [(9000, oc 9 (List.map T.str r22))]), (WkT (T.str (ByteArray.extract x0 (Int.toNat v5) (Int.toNat ((ByteArray.size x0 : Nat) : Int)))) (T.str (ByteArray.extract x0 (Int.toNat v5) (Int.toNat ((ByteArray.size x0 : Nat) : Int))))), (WkT (T.int .u8 10) (T.int .u8 10))]) (e := .normal) (σ' := ⟨[10220, 2009], [(6, vo 10220 (List.length r22)), (5, vi v5), (4, V.own 2009 2 (List.length o9)), (3, vi 0), (2, V.t (T.nils)), (0, V.t (T.str x0))], [(2009, oc 27 (List.flatMap recsC o9)), (10220, oc 9 (List.map T.str r22))]⟩) (by kernel_rfl) ⟨c0, (F_spec_l1Split_W (ByteArray.extract x0 (Int.toNat v5) (Int.toNat ((ByteArray.size x0 : Nat) : Int))) (10 : Int) r22 c1), WkT.refl _, WkT.refl _, trivial⟩ ?_
          refine WP.seq ?_
          obtain ⟨c2, h⟩ := chk_some h
          obtain ⟨r29, r29b, r29c, c3, h⟩ := bnd3_some h
          refine WP.path tab_ok mixed [(26, An.v (T.str (List.getD r22 0 ByteArray.empty))), (29, An.call (T.tup [T.agg [T.str r29, T.str r29b], tb r29c])), (7, An.id 2007)] [.keep [8, 7, 6, 5, 4, 3, 2, 0], .keepO [2007, 2009, 10220]] (ps := [((0 ≤ (0 : Int) ∧ (0 : Int) < ((List.length r22 : Nat) : Int))), ((List.map T.str r22 : List T)[0]? = some (T.str (List.getD r22 0 ByteArray.empty))), (T.str (List.getD r22 0 ByteArray.empty) = T.str (List.getD r22 0 ByteArray.empty)), (C Tryd.prog 144 [T.str (List.getD r22 0 ByteArray.empty), ti ((List.length o9 : Nat) : Int)] (T.tup [T.agg [T.str r29, T.str r29b], tb r29c])), ((0 + 2 ≤ 2 ∧ 2 = 2))]) (e := .normal) (σ' := ⟨[2007, 10220, 2009], [(8, vb r29c), (7, V.ref 2007 0), (6, vo 10220 (List.length r22)), (5, vi v5), (4, V.own 2009 2 (List.length o9)), (3, vi 0), (2, V.t (T.nils)), (0, V.t (T.str x0))], [(2007, oc 27 [T.str r29, T.str r29b]), (2009, oc 27 (List.flatMap recsC o9)), (10220, oc 9 (List.map T.str r22))]⟩) (by kernel_rfl) ⟨c2, atM (by simp) (by omega), rfl, (F_spec_l12Decode_W (List.getD r22 0 ByteArray.empty) ((List.length o9 : Nat) : Int) r29 r29b r29c c3), by decide, trivial⟩ ?_
          refine WP.seq ?_
          obtain ⟨J2, hJ2, h⟩ := jn_some h
          refine WP.joinA (fun (zz : Bool) => ⟨[2007, 2009, 10220], [(38, vb zz), (7, V.ref 2007 0), (6, vo 10220 (List.length r22)), (5, vi v5), (4, V.own 2009 2 (List.length o9)), (3, vi 0), (2, V.t (T.nils)), (0, V.t (T.str x0))], [(2007, oc 27 [T.str r29, T.str r29b]), (2009, oc 27 (List.flatMap recsC o9)), (10220, oc 9 (List.map T.str r22))]⟩) (fun zz => J2 zz = some (y0, y1)) ?_ ?_
          · -- to where they meet
            rcases ite_some h with ⟨h3, h⟩ | ⟨h3, h⟩
            · -- yes
              refine WP.path tab_ok mixed [(34, An.b true)] [.keep [38, 7, 6, 5, 4, 3, 2, 0], .keepO [2007, 2009, 10220], .names [(2007, 2007), (2009, 2009), (10220, 10220)]] (ps := [(True), ((decide (((List.length r22 : Nat) : Int) < (2 : Int))) = true)]) (e := .normal) (σ' := ⟨[2007, 2009, 10220], [(38, vb true), (7, V.ref 2007 0), (6, vo 10220 (List.length r22)), (5, vi v5), (4, V.own 2009 2 (List.length o9)), (3, vi 0), (2, V.t (T.nils)), (0, V.t (T.str x0))], [(2007, oc 27 [T.str r29, T.str r29b]), (2009, oc 27 (List.flatMap recsC o9)), (10220, oc 9 (List.map T.str r22))]⟩) (by kernel_rfl) ⟨trivial, h3, trivial⟩ ?_
              exact ⟨(true), h, rfl⟩
            · -- no
              refine WP.path tab_ok mixed [(34, An.b false)] [.keep [38, 7, 6, 5, 4, 3, 2, 0], .keepO [2007, 2009, 10220], .names [(2007, 2007), (2009, 2009), (10220, 10220)]] (ps := [(True), ((decide (((List.length r22 : Nat) : Int) < (2 : Int))) = false)]) (e := .normal) (σ' := ⟨[2007, 2009, 10220], [(38, vb (!r29c)), (7, V.ref 2007 0), (6, vo 10220 (List.length r22)), (5, vi v5), (4, V.own 2009 2 (List.length o9)), (3, vi 0), (2, V.t (T.nils)), (0, V.t (T.str x0))], [(2007, oc 27 [T.str r29, T.str r29b]), (2009, oc 27 (List.flatMap recsC o9)), (10220, oc 9 (List.map T.str r22))]⟩) (by kernel_rfl) ⟨trivial, h3, trivial⟩ ?_
              exact ⟨(!r29c), h, rfl⟩
          · -- from there
            intro v38 h0
            have h := (show J2 v38 = some (y0, y1) from h0)
            rw [hJ2] at h
            rcases ite_some h with ⟨h4, h⟩ | ⟨h4, h⟩
            · -- yes
              refine WP.cond (b := v38) rfl (fun _ => ?_) (fun hh => by rw [h4] at hh; cases hh)
              refine WP.path tab_ok mixed [] [.keep [5, 4, 3, 2], .keepO [2009], .names [(2009, 2009)]] (ps := []) (e := (.exit 0)) (σ' := ⟨[2009], [(5, vi v5), (4, V.own 2009 2 (List.length o9)), (3, vi 0), (2, V.t (T.nils))], [(2009, oc 27 (List.flatMap recsC o9))]⟩) (by kernel_rfl) trivial ?_
              exact ⟨(o9, v5), h, rfl⟩
            · -- no
              refine WP.cond (b := v38) rfl (fun hh => by rw [h4] at hh; cases hh) (fun _ => ?_)
              refine WP.path tab_ok mixed [] [.keep [7, 6, 5, 4, 3, 2, 0], .keepO [2007, 2009, 10220]] (ps := []) (e := .normal) (σ' := ⟨[2007, 2009, 10220], [(7, V.ref 2007 0), (6, vo 10220 (List.length r22)), (5, vi v5), (4, V.own 2009 2 (List.length o9)), (3, vi 0), (2, V.t (T.nils)), (0, V.t (T.str x0))], [(2007, oc 27 [T.str r29, T.str r29b]), (2009, oc 27 (List.flatMap recsC o9)), (10220, oc 9 (List.map T.str r22))]⟩) (by kernel_rfl) trivial ?_
              obtain ⟨c4, h⟩ := chk_some h
              obtain ⟨c5, h⟩ := chk_some h
              obtain ⟨n48, c6, h⟩ := nam_some h
              obtain ⟨c7, h⟩ := chk_some h
              refine WP.path tab_ok mixed [(41, An.fz), (42, An.id 2042), (46, An.v (T.str (List.getD r22 0 ByteArray.empty))), (48, An.v (ti n48)), (49, An.v (T.int .i64 (n48 + (1 : Int))))] [.keep [5, 4, 3, 2, 0], .keepO [2042], .names [(2042, 2009)]] (ps := [(0 + 2 ≤ 2), ((2 = 2 ∧ 0 + 2 ≤ 2) ∧ True), (2 = 1 * 2), (True), (List.length (List.flatMap recsC o9) = (List.length o9) * 2), ((((List.length o9) + 1) * 32 ≤ 140737488355328 ∧ (List.length o9) + 1 ≤ maxLen)), ((0 ≤ (0 : Int) ∧ (0 : Int) < ((List.length r22 : Nat) : Int))), ((List.map T.str r22 : List T)[0]? = some (T.str (List.getD r22 0 ByteArray.empty))), (T.str (List.getD r22 0 ByteArray.empty) = T.str (List.getD r22 0 ByteArray.empty)), (True), (T.int .i64 (IntKind.wrap .i64 (v5 + ((ByteArray.size (List.getD r22 0 ByteArray.empty) : Nat) : Int))) = ti n48), (True), (T.int .i64 (IntKind.wrap .i64 (n48 + (1 : Int))) = T.int .i64 (n48 + (1 : Int)))]) (e := .normal) (σ' := ⟨[2009], [(5, vi (n48 + (1 : Int))), (4, V.own 2009 2 ((List.length o9) + 1)), (3, vi 0), (2, V.t (T.nils)), (0, V.t (T.str x0))], [(2009, oc 27 ((List.flatMap recsC o9) ++ [T.str r29, T.str r29b]))]⟩) (by kernel_rfl) ⟨by decide, ⟨⟨by first | rfl | (simp; done) | (simp []; done) | omega, by first | decide | (simp; done) | (simp []; done) | omega | (simp only [tlL]; omega) | (simp; omega)⟩, trivial⟩, by decide, trivial, by first | exact len_recs _ | (rw [len_recs]; first | done | omega | (simp; done) | (simp only [tlL]; omega) | (simp; omega)), c4, c2, atM (by simp) (by omega), rfl, trivial, Eq.trans (wrapI c5) (congrArg (ti) c6), trivial, wrapI c7, trivial⟩ ?_
              exact ⟨(n, o9 ++ [(r29, r29b)], (n48 + (1 : Int))), h, Nat.lt_succ_self _, (by first | rfl | (simp only [tlS, tl, vl, vo, oc, ov, tbl, vbl, ty, vy] <;> rfl) | (simp <;> omega) | (simp []; done) | (rw [List.take_of_length_le (by simp [])] <;> rfl) | (simp [List.take_of_length_le]; done))⟩
        · -- no
          refine WP.cond (b := v18) rfl (fun hh => by rw [h2] at hh; cases hh) (fun _ => ?_)
          refine WP.path tab_ok mixed [] [.keep [5, 4, 3, 2], .keepO [2009], .names [(2009, 2009)]] (ps := []) (e := (.exit 0)) (σ' := ⟨[2009], [(5, vi v5), (4, V.own 2009 2 (List.length o9)), (3, vi 0), (2, V.t (T.nils))], [(2009, oc 27 (List.flatMap recsC o9))]⟩) (by kernel_rfl) trivial ?_
          exact ⟨(o9, v5), h, rfl⟩
  · -- from there
    rintro ⟨o9, v5⟩ h0
    have h := (show J1 o9 v5 = some (y0, y1) from h0)
    rw [hJ1] at h
    simp only [Option.some.injEq, Prod.mk.injEq] at h
    obtain ⟨rfl, rfl⟩ := h
    exact WP.pathG tab_ok mixed [] [.keep [2, 3], .keepO [2009], .names [(2009, 9000)]] [9000] _ (r' := V.tup [V.own 9000 2 (List.length o9), vi v5]) (ps := []) (r := V.tup [V.own 9000 2 (List.length o9), vi v5]) (N := [9000]) (O := [(9000, oc 27 (List.flatMap recsC o9))]) [] (by kernel_rfl) trivial ⟨rfl, (WkT.refl _), trivial⟩ rfl rfl (fun _ h => h)
theorem F_spec_l12Open_W_C (x0 : ByteArray) (y0 : List (ByteArray × ByteArray)) (y1 : Int) (h : F_spec_l12Open x0 = some (y0, y1)) : C Tryd.prog 86 [T.str x0] (T.tup [T.list (List.length y0) 2 (List.flatMap recsC y0), ti y1]) :=
  CG.toC (ps := [(List.length (List.flatMap recsC y0) = (List.length y0) * 2)]) (F_spec_l12Open_W  x0 y0 y1 h) (by rfl) ⟨by first | exact len_recs _ | (rw [len_recs]; first | done | omega | (simp; done) | (simp; omega)), trivial⟩
theorem F_spec_l12Valid_W (x0 : ByteArray) (x1 : ByteArray) (x2 : Int) (y0 : Bool) (h : F_spec_l12Valid x0 x1 x2 = some y0) : C Tryd.prog 88 [T.agg [T.str x0, T.str x1, ti x2]] (tb y0) := by
  unfold F_spec_l12Valid at h
  refine C.intro (tab := tab) tab_ok (fn := Tryd.f88) Tryd.func88 (by kernel_rfl) rfl (Nat.le_of_ble_eq_true rfl) ?_
  refine WP.seq ?_
  refine WP.path tab_ok mixed [(1, An.fz)] [.keep [2, 1], .keepO []] (ps := []) (e := .normal) (σ' := ⟨[], [(2, vb false), (1, V.t (T.ptr [T.str x0, T.str x1, ti x2]))], []⟩) (by kernel_rfl) trivial ?_
  refine WP.seq ?_
  refine WP.seq ?_
  obtain ⟨c0, h⟩ := chk_some h
  obtain ⟨n13, c1, h⟩ := nam_some h
  refine WP.path tab_ok mixed [(13, An.v (ti n13))] [.keep [14, 2, 1], .keepO []] (ps := [(True), (True), (True), (T.int .i64 (IntKind.wrap .i64 (((ByteArray.size x0 : Nat) : Int) + ((ByteArray.size x1 : Nat) : Int))) = ti n13), (True)]) (e := .normal) (σ' := ⟨[], [(14, vb (decide (n13 > (30000 : Int)))), (2, vb false), (1, V.t (T.ptr [T.str x0, T.str x1, ti x2]))], []⟩) (by kernel_rfl) ⟨trivial, trivial, trivial, Eq.trans (wrapI c0) (congrArg (ti) c1), trivial, trivial⟩ ?_
  rcases ite_some h with ⟨h1, h⟩ | ⟨h1, h⟩
  · -- yes
    refine WP.cond (b := decide (n13 > (30000 : Int))) rfl (fun _ => ?_) (fun hh => by rw [h1] at hh; cases hh)
    have h := Option.some.inj h
    subst h
    exact WP.pathW tab_ok mixed [] _ (ps := []) (r := tb false) (by kernel_rfl) trivial (WkT.eq (y := tb false) (WkT.refl _) rfl) (fun _ h => h)
  · -- no
    refine WP.cond (b := decide (n13 > (30000 : Int))) rfl (fun hh => by rw [h1] at hh; cases hh) (fun _ => ?_)
    refine WP.path tab_ok mixed [] [.keep [2, 1], .keepO []] (ps := []) (e := .normal) (σ' := ⟨[], [(2, vb false), (1, V.t (T.ptr [T.str x0, T.str x1, ti x2]))], []⟩) (by kernel_rfl) trivial ?_
    obtain ⟨c2, h⟩ := chk_some h
    obtain ⟨r21, r21b, c3, h⟩ := bnd2_some h
    obtain ⟨r27, r27b, c4, h⟩ := bnd2_some h
    obtain ⟨n37, c5, h⟩ := nam_some h
    rcases ite_some h with ⟨h2, h⟩ | ⟨h2, h⟩
    · -- yes
      rcases ite_some h with ⟨h3, h⟩ | ⟨h3, h⟩
      · -- yes
        have h := Option.some.inj h
        subst h
        exact WP.pathW tab_ok mixed [(21, An.callG [(9000, 10210)] [V.t (T.str (x0 ++ x1))] [] (V.tup [V.own 9000 2 (List.length r21), vi r21b]) [(9000, oc 27 (List.flatMap recsC r21))]), (27, An.callG [(9000, 10270)] [V.t (T.str x0)] [] (V.tup [V.own 9000 2 (List.length r27), vi r27b]) [(9000, oc 27 (List.flatMap recsC r27))]), (37, An.v (ti n37)), (38, An.b true), (44, An.b true)] _ (ps := [(True), (True), (x0.size + x1.size ≤ 9223372036854775807), (CG Tryd.prog 86 [V.t (T.str (x0 ++ x1))] [] (V.tup [V.own 9000 2 (List.length r21), vi r21b]) [(9000, oc 27 (List.flatMap recsC r21))]), (WkT (T.str (x0 ++ x1)) (T.str (x0 ++ x1))), (True), (CG Tryd.prog 86 [V.t (T.str x0)] [] (V.tup [V.own 9000 2 (List.length r27), vi r27b]) [(9000, oc 27 (List.flatMap recsC r27))]), (WkT (T.str x0) (T.str x0)), (True), (True), (True), (T.int .i64 (IntKind.wrap .i64 (((ByteArray.size x0 : Nat) : Int) + ((ByteArray.size x1 : Nat) : Int))) = ti n37), (True), ((r21b == n37) = true), (True), (True), ((r27b == ((ByteArray.size x0 : Nat) : Int)) = true), (True), (True)]) (r := tb (((List.length r21 : Nat) : Int) == x2)) (by kernel_rfl) ⟨trivial, trivial, c2, (F_spec_l12Open_W (x0 ++ x1) r21 r21b c3), WkT.refl _, trivial, (F_spec_l12Open_W x0 r27 r27b c4), WkT.refl _, trivial, trivial, trivial, Eq.trans (wrapI c0) (congrArg (ti) c5), trivial, h2, trivial, trivial, h3, trivial, trivial, trivial⟩ (WkT.eq (y := tb (((List.length r21 : Nat) : Int) == x2)) (WkT.refl _) rfl) (fun _ h => h)
      · -- no
        have h := Option.some.inj h
        subst h
        exact WP.pathW tab_ok mixed [(21, An.callG [(9000, 10210)] [V.t (T.str (x0 ++ x1))] [] (V.tup [V.own 9000 2 (List.length r21), vi r21b]) [(9000, oc 27 (List.flatMap recsC r21))]), (27, An.callG [(9000, 10270)] [V.t (T.str x0)] [] (V.tup [V.own 9000 2 (List.length r27), vi r27b]) [(9000, oc 27 (List.flatMap recsC r27))]), (37, An.v (ti n37)), (38, An.b true), (44, An.b false)] _ (ps := [(True), (True), (x0.size + x1.size ≤ 9223372036854775807), (CG Tryd.prog 86 [V.t (T.str (x0 ++ x1))] [] (V.tup [V.own 9000 2 (List.length r21), vi r21b]) [(9000, oc 27 (List.flatMap recsC r21))]), (WkT (T.str (x0 ++ x1)) (T.str (x0 ++ x1))), (True), (CG Tryd.prog 86 [V.t (T.str x0)] [] (V.tup [V.own 9000 2 (List.length r27), vi r27b]) [(9000, oc 27 (List.flatMap recsC r27))]), (WkT (T.str x0) (T.str x0)), (True), (True), (True), (T.int .i64 (IntKind.wrap .i64 (((ByteArray.size x0 : Nat) : Int) + ((ByteArray.size x1 : Nat) : Int))) = ti n37), (True), ((r21b == n37) = true), (True), (True), ((r27b == ((ByteArray.size x0 : Nat) : Int)) = false)]) (r := tb false) (by kernel_rfl) ⟨trivial, trivial, c2, (F_spec_l12Open_W (x0 ++ x1) r21 r21b c3), WkT.refl _, trivial, (F_spec_l12Open_W x0 r27 r27b c4), WkT.refl _, trivial, trivial, trivial, Eq.trans (wrapI c0) (congrArg (ti) c5), trivial, h2, trivial, trivial, h3, trivial⟩ (WkT.eq (y := tb false) (WkT.refl _) rfl) (fun _ h => h)
    · -- no
      have h := Option.some.inj h
      subst h
      exact WP.pathW tab_ok mixed [(21, An.callG [(9000, 10210)] [V.t (T.str (x0 ++ x1))] [] (V.tup [V.own 9000 2 (List.length r21), vi r21b]) [(9000, oc 27 (List.flatMap recsC r21))]), (27, An.callG [(9000, 10270)] [V.t (T.str x0)] [] (V.tup [V.own 9000 2 (List.length r27), vi r27b]) [(9000, oc 27 (List.flatMap recsC r27))]), (37, An.v (ti n37)), (38, An.b false)] _ (ps := [(True), (True), (x0.size + x1.size ≤ 9223372036854775807), (CG Tryd.prog 86 [V.t (T.str (x0 ++ x1))] [] (V.tup [V.own 9000 2 (List.length r21), vi r21b]) [(9000, oc 27 (List.flatMap recsC r21))]), (WkT (T.str (x0 ++ x1)) (T.str (x0 ++ x1))), (True), (CG Tryd.prog 86 [V.t (T.str x0)] [] (V.tup [V.own 9000 2 (List.length r27), vi r27b]) [(9000, oc 27 (List.flatMap recsC r27))]), (WkT (T.str x0) (T.str x0)), (True), (True), (True), (T.int .i64 (IntKind.wrap .i64 (((ByteArray.size x0 : Nat) : Int) + ((ByteArray.size x1 : Nat) : Int))) = ti n37), (True), ((r21b == n37) = false)]) (r := tb false) (by kernel_rfl) ⟨trivial, trivial, c2, (F_spec_l12Open_W (x0 ++ x1) r21 r21b c3), WkT.refl _, trivial, (F_spec_l12Open_W x0 r27 r27b c4), WkT.refl _, trivial, trivial, trivial, Eq.trans (wrapI c0) (congrArg (ti) c5), trivial, h2, trivial⟩ (WkT.eq (y := tb false) (WkT.refl _) rfl) (fun _ h => h)
theorem F_spec_IsValidConsole_W (x0 : List Int) (x1 : Int) (x2 : Int) (x3 : Int) (x4 : ByteArray) (x5 : ByteArray) (x6 : Int) (y0 : Bool) (h : F_spec_IsValidConsole x0 x1 x2 x3 x4 x5 x6 = some y0) : C Tryd.prog 37 [T.agg ((List.map (T.int .i64) x0) ++ ([ti x1, ti x2, ti x3, T.str x4, T.str x5, ti x6]))] (tb y0) := by
  unfold F_spec_IsValidConsole at h
  refine C.intro (tab := tab) tab_ok (fn := Tryd.f37) Tryd.func37 (by kernel_rfl) rfl (Nat.le_of_ble_eq_true rfl) ?_
  obtain ⟨hl_x0, h⟩ := chk_some h
  obtain ⟨c0, h⟩ := chk_some h
  rcases ite_some h with ⟨h1, h⟩ | ⟨h1, h⟩
  · -- yes
    obtain ⟨r9, c1, h⟩ := bnd1_some h
    have h := Option.some.inj h
    subst h
    exact WP.pathW tab_ok mixed [(1, An.fz), (4, An.v (T.agg ((List.map (T.int .i64) x0) ++ ([ti x1, ti x2, ti x3])))), (5, An.call (tb true)), (8, An.v (T.agg [T.str x4, T.str x5, ti x6])), (9, An.call (tb r9))] _ (ps := [(15 ≤ List.length ((List.map (T.int .i64) x0) ++ ([ti x1, ti x2, ti x3, T.str x4, T.str x5, ti x6]))), (T.agg (List.take 15 ((List.map (T.int .i64) x0) ++ ([ti x1, ti x2, ti x3, T.str x4, T.str x5, ti x6]))) = T.agg ((List.map (T.int .i64) x0) ++ ([ti x1, ti x2, ti x3]))), (C Tryd.prog 92 [T.agg ((List.map (T.int .i64) x0) ++ ([ti x1, ti x2, ti x3]))] (tb true)), (3 ≤ List.length (List.drop 15 ((List.map (T.int .i64) x0) ++ ([ti x1, ti x2, ti x3, T.str x4, T.str x5, ti x6])))), (T.agg (List.take 3 (List.drop 15 ((List.map (T.int .i64) x0) ++ ([ti x1, ti x2, ti x3, T.str x4, T.str x5, ti x6])))) = T.agg [T.str x4, T.str x5, ti x6]), (C Tryd.prog 88 [T.agg [T.str x4, T.str x5, ti x6]] (tb r9))]) (r := tb r9) (by kernel_rfl) ⟨by first | decide | omega | (simp only [tlL, hl_x0] <;> omega) | (simp <;> omega) | (simp [hl_x0] <;> omega), congrArg T.agg (take_pre (k := 12) (j := 3) (by simp [hl_x0])), (C.toB h1 (l12Good_C x0 x1 x2 x3 c0)), fit_pre (k := 12) (j := 3) (by simp [hl_x0]) (Nat.le_of_ble_eq_true rfl), congrArg (fun l => T.agg (List.take 3 l)) (drop_pre (k := 12) (j := 3) (by simp [hl_x0])), (F_spec_l12Valid_W x4 x5 x6 r9 c1), trivial⟩ (WkT.eq (y := tb r9) (WkT.refl _) rfl) (fun _ h => h)
  · -- no
    have h := Option.some.inj h
    subst h
    exact WP.pathW tab_ok mixed [(1, An.fz), (4, An.v (T.agg ((List.map (T.int .i64) x0) ++ ([ti x1, ti x2, ti x3])))), (5, An.call (tb false))] _ (ps := [(15 ≤ List.length ((List.map (T.int .i64) x0) ++ ([ti x1, ti x2, ti x3, T.str x4, T.str x5, ti x6]))), (T.agg (List.take 15 ((List.map (T.int .i64) x0) ++ ([ti x1, ti x2, ti x3, T.str x4, T.str x5, ti x6]))) = T.agg ((List.map (T.int .i64) x0) ++ ([ti x1, ti x2, ti x3]))), (C Tryd.prog 92 [T.agg ((List.map (T.int .i64) x0) ++ ([ti x1, ti x2, ti x3]))] (tb false))]) (r := tb false) (by kernel_rfl) ⟨by first | decide | omega | (simp only [tlL, hl_x0] <;> omega) | (simp <;> omega) | (simp [hl_x0] <;> omega), congrArg T.agg (take_pre (k := 12) (j := 3) (by simp [hl_x0])), (C.toB h1 (l12Good_C x0 x1 x2 x3 c0)), trivial⟩ (WkT.eq (y := tb false) (WkT.refl _) rfl) (fun _ h => h)
theorem F_laws_toLog_W (x0 : ByteArray) (x1 : ByteArray) (x2 : Int) (y0 : ByteArray) (y1 : ByteArray) (y2 : Int) (h : F_laws_toLog x0 x1 x2 = some (y0, y1, y2)) : C Tryd.prog 23 [T.agg [T.str x0, T.str x1, ti x2]] (T.agg [T.str y0, T.str y1, ti y2]) := by
  unfold F_laws_toLog at h
  refine C.intro (tab := tab) tab_ok (fn := Tryd.f23) Tryd.func23 (by kernel_rfl) rfl (Nat.le_of_ble_eq_true rfl) ?_
  simp only [Option.some.injEq, Prod.mk.injEq] at h
  obtain ⟨rfl, rfl, rfl⟩ := h
  exact WP.pathW tab_ok mixed [(1, An.fz), (2, An.id 2002), (3, An.id 2003)] _ (ps := [(True), (0 < 3), (True), (1 < 3), (True), (2 < 3), (0 + 3 ≤ 3), ((0 + 3 ≤ 3 ∧ 3 = 3)), (0 + 3 ≤ 3)]) (r := T.agg [T.str x0, T.str x1, ti x2]) (by kernel_rfl) ⟨trivial, by decide, trivial, by decide, trivial, by decide, by decide, by decide, by first | decide | omega | (simp only [tlL] <;> omega) | (simp <;> omega) | (simp [] <;> omega), trivial⟩ (WkT.eq (y := T.agg [T.str x0, T.str x1, ti x2]) (WkT.refl _) rfl) (fun _ h => h)
theorem F_laws_toConsole_W (x0 : List Int) (x1 : Int) (x2 : Int) (x3 : Int) (x4 : ByteArray) (x5 : ByteArray) (x6 : Int) (y0 : List Int) (y1 : Int) (y2 : Int) (y3 : Int) (y4 : ByteArray) (y5 : ByteArray) (y6 : Int) (h : F_laws_toConsole x0 x1 x2 x3 x4 x5 x6 = some (y0, y1, y2, y3, y4, y5, y6)) : CG Tryd.prog 38 [V.t (T.agg ((List.map (T.int .i64) x0) ++ ([ti x1, ti x2, ti x3, T.str x4, T.str x5, ti x6])))] [] (V.t (T.agg ((List.map (T.int .i64) y0) ++ ([ti y1, ti y2, ti y3, T.str y4, T.str y5, ti y6])))) [] := by
  unfold F_laws_toConsole at h
  refine CG.intro (tab := tab) tab_ok (fn := Tryd.f38) Tryd.func38 (by kernel_rfl) rfl (Nat.le_of_ble_eq_true rfl) (by kernel_rfl) ?_
  obtain ⟨hl_x0, h⟩ := chk_some h
  obtain ⟨c0, h⟩ := chk_some h
  obtain ⟨r10, r10b, r10c, c1, h⟩ := bnd3_some h
  simp only [Option.some.injEq, Prod.mk.injEq] at h
  obtain ⟨rfl, rfl, rfl, rfl, rfl, rfl, rfl⟩ := h
  exact WP.pathG tab_ok mixed [(1, An.fz), (2, An.id 2002), (3, An.id 2003), (5, An.v (T.agg ((List.map (T.int .i64) x0) ++ ([ti x1, ti x2, ti x3])))), (6, An.call (T.agg ((List.map (T.int .i64) x0) ++ ([ti x1, ti x2, ti x3])))), (1000007, An.o (((List.map (T.int .i64) x0) ++ ([ti x1, ti x2, ti x3])) ++ ([T.str (ByteArray.mk #[]), T.str (ByteArray.mk #[]), ti 0]))), (9, An.v (T.agg [T.str x4, T.str x5, ti x6])), (10, An.call (T.agg [T.str r10, T.str r10b, ti r10c])), (1000011, An.o (((List.map (T.int .i64) x0) ++ ([ti x1, ti x2, ti x3])) ++ ([T.str r10, T.str r10b, ti r10c]))), (12, An.v (T.agg (((List.map (T.int .i64) x0) ++ ([ti x1, ti x2, ti x3])) ++ ([T.str r10, T.str r10b, ti r10c])))), (1000002, An.o (((List.map (T.int .i64) x0) ++ ([ti x1, ti x2, ti x3])) ++ ([T.str r10, T.str r10b, ti r10c])))] [.keep [2], .keepO [2002], .names [(2002, 2002)]] [] _ (r' := V.t (T.agg ((List.map (T.int .i64) x0) ++ ([ti x1, ti x2, ti x3, T.str r10, T.str r10b, ti r10c])))) (ps := [(15 ≤ List.length ((List.map (T.int .i64) x0) ++ ([ti x1, ti x2, ti x3, T.str x4, T.str x5, ti x6]))), (T.agg (List.take 15 ((List.map (T.int .i64) x0) ++ ([ti x1, ti x2, ti x3, T.str x4, T.str x5, ti x6]))) = T.agg ((List.map (T.int .i64) x0) ++ ([ti x1, ti x2, ti x3]))), (C Tryd.prog 93 [T.agg ((List.map (T.int .i64) x0) ++ ([ti x1, ti x2, ti x3]))] (T.agg ((List.map (T.int .i64) x0) ++ ([ti x1, ti x2, ti x3])))), ((0 + 15 ≤ 18 ∧ List.length ((List.map (T.int .i64) x0) ++ ([ti x1, ti x2, ti x3])) = 15)), ((((List.map (T.int .i64) x0) ++ ([ti x1, ti x2, ti x3])) ++ [T.str (ByteArray.mk #[]), T.str (ByteArray.mk #[]), ti 0] : List T) = (((List.map (T.int .i64) x0) ++ ([ti x1, ti x2, ti x3])) ++ ([T.str (ByteArray.mk #[]), T.str (ByteArray.mk #[]), ti 0]))), (3 ≤ List.length (List.drop 15 ((List.map (T.int .i64) x0) ++ ([ti x1, ti x2, ti x3, T.str x4, T.str x5, ti x6])))), (T.agg (List.take 3 (List.drop 15 ((List.map (T.int .i64) x0) ++ ([ti x1, ti x2, ti x3, T.str x4, T.str x5, ti x6])))) = T.agg [T.str x4, T.str x5, ti x6]), (C Tryd.prog 23 [T.agg [T.str x4, T.str x5, ti x6]] (T.agg [T.str r10, T.str r10b, ti r10c])), ((15 + 3 ≤ List.length (((List.map (T.int .i64) x0) ++ ([ti x1, ti x2, ti x3])) ++ ([T.str (ByteArray.mk #[]), T.str (ByteArray.mk #[]), ti 0])) ∧ 3 = 3)), ((((List.take 15 (((List.map (T.int .i64) x0) ++ ([ti x1, ti x2, ti x3])) ++ ([T.str (ByteArray.mk #[]), T.str (ByteArray.mk #[]), ti 0]))) ++ [T.str r10, T.str r10b, ti r10c]) ++ (List.drop 18 (((List.map (T.int .i64) x0) ++ ([ti x1, ti x2, ti x3])) ++ ([T.str (ByteArray.mk #[]), T.str (ByteArray.mk #[]), ti 0]))) : List T) = (((List.map (T.int .i64) x0) ++ ([ti x1, ti x2, ti x3])) ++ ([T.str r10, T.str r10b, ti r10c]))), (0 + 18 ≤ List.length (((List.map (T.int .i64) x0) ++ ([ti x1, ti x2, ti x3])) ++ ([T.str r10, T.str r10b, ti r10c]))), (T.agg (List.take 18 (((List.map (T.int .i64) x0) ++ ([ti x1, ti x2, ti x3])) ++ ([T.str r10, T.str r10b, ti r10c]))) = T.agg (((List.map (T.int .i64) x0) ++ ([ti x1, ti x2, ti x3])) ++ ([T.str r10, T.str r10b, ti r10c]))), ((0 + 18 ≤ 18 ∧ List.length (((List.map (T.int .i64) x0) ++ ([ti x1, ti x2, ti x3])) ++ ([T.str r10, T.str r10b, ti r10c])) = 18)), (((((List.map (T.int .i64) x0) ++ ([ti x1, ti x2, ti x3])) ++ ([T.str r10, T.str r10b, ti r10c])) ++ [] : List T) = (((List.map (T.int .i64) x0) ++ ([ti x1, ti x2, ti x3])) ++ ([T.str r10, T.str r10b, ti r10c]))), (0 + 18 ≤ List.length (((List.map (T.int .i64) x0) ++ ([ti x1, ti x2, ti x3])) ++ ([T.str r10, T.str r10b, ti r10c])))]) (r := V.t (T.agg (List.take 18 (((List.map (T.int .i64) x0) ++ ([ti x1, ti x2, ti x3])) ++ ([T.str r10, T.str r10b, ti r10c]))))) (N := [2002]) (O := []) [] (by kernel_rfl) ⟨by first | decide | omega | (simp only [tlL, hl_x0] <;> omega) | (simp <;> omega) | (simp [hl_x0] <;> omega), congrArg T.agg (take_pre (k := 12) (j := 3) (by simp [hl_x0])), (toRoom_C x0 x1 x2 x3 c0), ⟨by first | decide | omega | (simp only [tlL, hl_x0] <;> omega) | (simp <;> omega) | (simp [hl_x0] <;> omega), by first | rfl | omega | (simp only [tlL, hl_x0] <;> omega) | (simp <;> omega) | (simp [hl_x0] <;> omega)⟩, by first | rfl | (simp [hl_x0]; done) | (simp [List.set_append, hl_x0]; done) | (simp [List.take_append, List.take_of_length_le, List.drop_of_length_le, hl_x0]; done), fit_pre (k := 12) (j := 3) (by simp [hl_x0]) (Nat.le_of_ble_eq_true rfl), congrArg (fun l => T.agg (List.take 3 l)) (drop_pre (k := 12) (j := 3) (by simp [hl_x0])), (F_laws_toLog_W x4 x5 x6 r10 r10b r10c c1), ⟨by first | decide | omega | (simp only [tlL, hl_x0] <;> omega) | (simp <;> omega) | (simp [hl_x0] <;> omega), by first | rfl | omega | (simp only [tlL, hl_x0] <;> omega) | (simp <;> omega) | (simp [hl_x0] <;> omega)⟩, by first | rfl | (simp [hl_x0]; done) | (simp [List.set_append, hl_x0]; done) | (simp [List.take_append, List.take_of_length_le, List.drop_of_length_le, hl_x0]; done), by first | decide | omega | (simp only [tlL, hl_x0] <;> omega) | (simp <;> omega) | (simp [hl_x0] <;> omega), by first | (simp [hl_x0]; done) | (rw [List.take_of_length_le]; simp only [tlL, hl_x0] <;> omega) | (rw [List.take_of_length_le]; simp [hl_x0]; done) | (rw [List.take_of_length_le]; simp; omega) | (simp only [tlL]; omega) | (simp; omega), ⟨by first | decide | omega | (simp only [tlL, hl_x0] <;> omega) | (simp <;> omega) | (simp [hl_x0] <;> omega), by first | rfl | omega | (simp only [tlL, hl_x0] <;> omega) | (simp <;> omega) | (simp [hl_x0] <;> omega)⟩, by first | rfl | (simp [hl_x0]; done) | (simp [List.set_append, hl_x0]; done) | (simp [List.take_append, List.take_of_length_le, List.drop_of_length_le, hl_x0]; done), by first | decide | omega | (simp only [tlL, hl_x0] <;> omega) | (simp <;> omega) | (simp [hl_x0] <;> omega), trivial⟩ ⟨(WkT.eq (WkT.refl _) (by first | rfl | (simp only [tlS, tl, vl, vo, oc, ov, tbl, vbl, ty, vy] <;> rfl) | (simp <;> omega) | (simp [hl_x0]; done) | (rw [List.take_of_length_le (by simp [hl_x0])] <;> rfl) | (simp [List.take_of_length_le, hl_x0]; done))), trivial⟩ rfl rfl (fun _ h => h)
theorem F_laws_toConsole_W_C (x0 : List Int) (x1 : Int) (x2 : Int) (x3 : Int) (x4 : ByteArray) (x5 : ByteArray) (x6 : Int) (y0 : List Int) (y1 : Int) (y2 : Int) (y3 : Int) (y4 : ByteArray) (y5 : ByteArray) (y6 : Int) (h : F_laws_toConsole x0 x1 x2 x3 x4 x5 x6 = some (y0, y1, y2, y3, y4, y5, y6)) : C Tryd.prog 38 [T.agg ((List.map (T.int .i64) x0) ++ ([ti x1, ti x2, ti x3, T.str x4, T.str x5, ti x6]))] (T.agg ((List.map (T.int .i64) y0) ++ ([ti y1, ti y2, ti y3, T.str y4, T.str y5, ti y6]))) :=
  CG.toC (ps := []) (F_laws_toConsole_W  x0 x1 x2 x3 x4 x5 x6 y0 y1 y2 y3 y4 y5 y6 h) (by rfl) trivial
theorem F_strings_Index_W (x0 : ByteArray) (x1 : ByteArray) (y0 : Int) (h : F_strings_Index x0 x1 = some y0) : C Tryd.prog 162 [T.str x0, T.str x1] (ti y0) := by
  unfold F_strings_Index at h
  refine C.intro (tab := tab) tab_ok (fn := Tryd.f162) Tryd.func162 (by kernel_rfl) rfl (Nat.le_of_ble_eq_true rfl) ?_
  obtain ⟨c0, h⟩ := chk_some h
  have h := Option.some.inj h
  subst h
  exact WP.pathW tab_ok mixed [(7, An.call (ti (firstIdx x0 (hd1 x1))))] _ (ps := [(C Tryd.prog 169 [T.str x0, T.str x1] (ti (firstIdx x0 (hd1 x1))))]) (r := ti (firstIdx x0 (hd1 x1))) (by kernel_rfl) ⟨(sliteIndex1_C x0 x1 c0), trivial⟩ (WkT.eq (y := ti (firstIdx x0 (hd1 x1))) (WkT.refl _) rfl) (fun _ h => h)
theorem F_strings_Contains_W (x0 : ByteArray) (x1 : ByteArray) (y0 : Bool) (h : F_strings_Contains x0 x1 = some y0) : C Tryd.prog 140 [T.str x0, T.str x1] (tb y0) := by
  unfold F_strings_Contains at h
  refine C.intro (tab := tab) tab_ok (fn := Tryd.f140) Tryd.func140 (by kernel_rfl) rfl (Nat.le_of_ble_eq_true rfl) ?_
  obtain ⟨r7, c0, h⟩ := bnd1_some h
  have h := Option.some.inj h
  subst h
  exact WP.pathW tab_ok mixed [(7, An.call (ti r7))] _ (ps := [(C Tryd.prog 162 [T.str x0, T.str x1] (ti r7)), (True)]) (r := tb (decide (r7 ≥ (0 : Int)))) (by kernel_rfl) ⟨(F_strings_Index_W x0 x1 r7 c0), trivial, trivial⟩ (WkT.eq (y := tb (decide (r7 ≥ (0 : Int)))) (WkT.refl _) rfl) (fun _ h => h)
theorem F_impl_checksum_W (x0 : ByteArray) (y0 : Int) (h : F_impl_checksum x0 = some y0) : C Tryd.prog 141 [T.str x0] (ti y0) := by
  unfold F_impl_checksum at h
  refine C.intro (tab := tab) tab_ok (fn := Tryd.f141) Tryd.func141 (by kernel_rfl) rfl (Nat.le_of_ble_eq_true rfl) ?_
  refine WP.seq ?_
  refine WP.path tab_ok mixed [] [.keep [2, 0], .keepO []] (ps := []) (e := .normal) (σ' := ⟨[], [(2, vi 0), (0, V.t (T.str x0))], []⟩) (by kernel_rfl) trivial ?_
  refine WP.seq ?_
  refine WP.path tab_ok mixed [] [.keep [3, 2, 0], .keepO []] (ps := []) (e := .normal) (σ' := ⟨[], [(3, vi 7), (2, vi 0), (0, V.t (T.str x0))], []⟩) (by kernel_rfl) trivial ?_
  obtain ⟨J1, hJ1, h⟩ := jn_some h
  refine WP.joinA (fun (zz : Int) => ⟨[], [(3, vi zz), (2, vi 0)], []⟩) (fun zz => J1 zz = some y0) ?_ ?_
  · -- to where they meet
    refine WP.seq ?_
    refine WP.path tab_ok mixed [] [.keep [7, 6, 3, 2, 0], .keepO []] (ps := []) (e := .normal) (σ' := ⟨[], [(7, vi 0), (6, vi ((ByteArray.size x0 : Nat) : Int)), (3, vi 7), (2, vi 0), (0, V.t (T.str x0))], []⟩) (by kernel_rfl) trivial ?_
    refine WP.block ?_
    refine WP.wk [.keep [7, 6, 3, 2, 0], .keepO [], .names []] (σ' := ⟨[], [(7, vi 0), (6, vi ((ByteArray.size x0 : Nat) : Int)), (3, vi 7), (2, vi 0), (0, V.t (T.str x0))], []⟩) (ps := []) (by kernel_rfl) trivial ?_
    refine WP.st (σ' := ⟨[], [(7, vi (0 : Int)), (6, vi ((ByteArray.size x0 : Nat) : Int)), (3, vi (7 : Int)), (2, vi 0), (0, V.t (T.str x0))], []⟩) (by first | rfl | (simp only [tlS, tl, vl, vo, oc, ov, tbl, vbl, ty, vy] <;> rfl) | (simp <;> omega) | (simp []; done) | (rw [List.take_of_length_le (by simp [])] <;> rfl) | (simp [List.take_of_length_le]; done)) ?_
    refine WP.loop (α := Nat × Int × Int) (fun zz => ⟨[], [(7, vi zz.2.1), (6, vi ((ByteArray.size x0 : Nat) : Int)), (3, vi zz.2.2), (2, vi 0), (0, V.t (T.str x0))], []⟩) (fun zz => F_impl_checksum_L1 x0 J1 zz.1 zz.2.1 zz.2.2 = some y0) (fun zz => zz.1) (fuel, (0 : Int), (7 : Int)) h ?_
    rintro ⟨n, v7, v3⟩ h0
    have h := (show F_impl_checksum_L1 x0 J1 n v7 v3 = some y0 from h0)
    rcases n with _ | n
    · rw [F_impl_checksum_L1] at h; cases h
    · rw [F_impl_checksum_L1] at h
      refine WP.seq ?_
      refine WP.path tab_ok mixed [] [.keep [8, 7, 6, 3, 2, 0], .keepO []] (ps := [(True)]) (e := .normal) (σ' := ⟨[], [(8, vb (decide (v7 < ((ByteArray.size x0 : Nat) : Int)))), (7, vi v7), (6, vi ((ByteArray.size x0 : Nat) : Int)), (3, vi v3), (2, vi 0), (0, V.t (T.str x0))], []⟩) (by kernel_rfl) ⟨trivial, trivial⟩ ?_
      refine WP.seq ?_
      rcases ite_some h with ⟨h1, h⟩ | ⟨h1, h⟩
      · -- yes
        refine WP.cond (b := decide (v7 < ((ByteArray.size x0 : Nat) : Int))) rfl (fun _ => ?_) (fun hh => by rw [h1] at hh; cases hh)
        refine WP.path tab_ok mixed [] [.keep [7, 6, 3, 2, 0], .keepO []] (ps := []) (e := .normal) (σ' := ⟨[], [(7, vi v7), (6, vi ((ByteArray.size x0 : Nat) : Int)), (3, vi v3), (2, vi 0), (0, V.t (T.str x0))], []⟩) (by kernel_rfl) trivial ?_
        refine WP.seq ?_
        refine WP.block ?_
        obtain ⟨c0, h⟩ := chk_some h
        obtain ⟨c1, h⟩ := chk_some h
        obtain ⟨c2, h⟩ := chk_some h
        obtain ⟨c3, h⟩ := chk_some h
        obtain ⟨n16, c4, h⟩ := nam_some h
        obtain ⟨c5, h⟩ := chk_some h
        obtain ⟨n18, c6, h⟩ := nam_some h
        refine WP.path tab_ok mixed [(11, An.v (T.int .i64 ((41 : Int) * v3))), (15, An.v (T.int .i64 (byteAt x0 (Int.toNat v7)))), (16, An.v (ti n16)), (17, An.v (T.int .i64 (n16 + (1 : Int)))), (18, An.v (ti n18))] [.keep [3, 7, 6, 2, 0], .keepO []] (ps := [(True), (T.int .i64 (IntKind.wrap .i64 ((41 : Int) * v3)) = T.int .i64 ((41 : Int) * v3)), ((0 ≤ v7 ∧ v7 < ((ByteArray.size x0 : Nat) : Int))), (T.int .i64 (IntKind.wrap .i64 (byteAt x0 (Int.toNat v7))) = T.int .i64 (byteAt x0 (Int.toNat v7))), (True), (T.int .i64 (IntKind.wrap .i64 (((41 : Int) * v3) + (byteAt x0 (Int.toNat v7)))) = ti n16), (True), (T.int .i64 (IntKind.wrap .i64 (n16 + (1 : Int))) = T.int .i64 (n16 + (1 : Int))), ((999979 : Int) ≠ 0), (ti (Int.tmod (n16 + (1 : Int)) (999979 : Int)) = ti n18)]) (e := .normal) (σ' := ⟨[], [(3, vi n18), (7, vi v7), (6, vi ((ByteArray.size x0 : Nat) : Int)), (2, vi 0), (0, V.t (T.str x0))], []⟩) (by kernel_rfl) ⟨trivial, wrapI c0, c1, wrapI c2, trivial, Eq.trans (wrapI c3) (congrArg (ti) c4), trivial, wrapI c5, by decide, congrArg (ti) c6, trivial⟩ ?_
        obtain ⟨c7, h⟩ := chk_some h
        refine WP.path tab_ok mixed [(19, An.v (T.int .i64 (v7 + (1 : Int))))] [.keep [7, 6, 3, 2, 0], .keepO [], .names []] (ps := [(True), (T.int .i64 (IntKind.wrap .i64 (v7 + (1 : Int))) = T.int .i64 (v7 + (1 : Int)))]) (e := .normal) (σ' := ⟨[], [(7, vi (v7 + (1 : Int))), (6, vi ((ByteArray.size x0 : Nat) : Int)), (3, vi n18), (2, vi 0), (0, V.t (T.str x0))], []⟩) (by kernel_rfl) ⟨trivial, wrapI c7, trivial⟩ ?_
        exact ⟨(n, (v7 + (1 : Int)), n18), h, Nat.lt_succ_self _, rfl⟩
      · -- no
        refine WP.cond (b := decide (v7 < ((ByteArray.size x0 : Nat) : Int))) rfl (fun hh => by rw [h1] at hh; cases hh) (fun _ => ?_)
        refine WP.path tab_ok mixed [] [.keep [3, 2], .keepO [], .names []] (ps := []) (e := (.exit 0)) (σ' := ⟨[], [(3, vi v3), (2, vi 0)], []⟩) (by kernel_rfl) trivial ?_
        exact ⟨(v3), h, rfl⟩
  · -- from there
    intro v3 h0
    have h := (show J1 v3 = some y0 from h0)
    rw [hJ1] at h
    have h := Option.some.inj h
    subst h
    exact WP.pathW tab_ok mixed [] _ (ps := []) (r := ti v3) (by kernel_rfl) trivial (WkT.eq (y := ti v3) (WkT.refl _) rfl) (fun _ h => h)
theorem F_impl_AppendChecksum_W (x0 : ByteArray) (y0 : ByteArray) (y1 : Bool) (h : F_impl_AppendChecksum x0 = some (y0, y1)) : C Tryd.prog 84 [T.str x0] (T.tup [T.str y0, tb y1]) := by
  unfold F_impl_AppendChecksum at h
  refine C.intro (tab := tab) tab_ok (fn := Tryd.f84) Tryd.func84 (by kernel_rfl) rfl (Nat.le_of_ble_eq_true rfl) ?_
  refine WP.seq ?_
  refine WP.path tab_ok mixed [] [.keep [3, 2, 0], .keepO []] (ps := []) (e := .normal) (σ' := ⟨[], [(3, vb false), (2, V.t (T.str (ByteArray.mk #[]))), (0, V.t (T.str x0))], []⟩) (by kernel_rfl) trivial ?_
  refine WP.seq ?_
  obtain ⟨J1, hJ1, h⟩ := jn_some h
  refine WP.joinA (fun (zz : Bool) => ⟨[], [(11, vb zz), (3, vb false), (2, V.t (T.str (ByteArray.mk #[]))), (0, V.t (T.str x0))], []⟩) (fun zz => J1 zz = some (y0, y1)) ?_ ?_
  · -- to where they meet
    rcases ite_some h with ⟨h1, h⟩ | ⟨h1, h⟩
    · -- yes
      refine WP.path tab_ok mixed [(7, An.b true)] [.keep [11, 3, 2, 0], .keepO [], .names []] (ps := [(True), ((decide (((ByteArray.size x0 : Nat) : Int) > (4000 : Int))) = true)]) (e := .normal) (σ' := ⟨[], [(11, vb true), (3, vb false), (2, V.t (T.str (ByteArray.mk #[]))), (0, V.t (T.str x0))], []⟩) (by kernel_rfl) ⟨trivial, h1, trivial⟩ ?_
      exact ⟨(true), h, rfl⟩
    · -- no
      obtain ⟨r10, c0, h⟩ := bnd1_some h
      refine WP.path tab_ok mixed [(7, An.b false), (10, An.call (tb r10))] [.keep [11, 3, 2, 0], .keepO [], .names []] (ps := [(True), ((decide (((ByteArray.size x0 : Nat) : Int) > (4000 : Int))) = false), (C Tryd.prog 140 [T.str x0, T.str (ByteArray.mk #[35])] (tb r10))]) (e := .normal) (σ' := ⟨[], [(11, vb r10), (3, vb false), (2, V.t (T.str (ByteArray.mk #[]))), (0, V.t (T.str x0))], []⟩) (by kernel_rfl) ⟨trivial, h1, (F_strings_Contains_W x0 (ByteArray.mk #[35]) r10 c0), trivial⟩ ?_
      exact ⟨(r10), h, rfl⟩
  · -- from there
    intro v11 h0
    have h := (show J1 v11 = some (y0, y1) from h0)
    rw [hJ1] at h
    rcases ite_some h with ⟨h2, h⟩ | ⟨h2, h⟩
    · -- yes
      refine WP.cond (b := v11) rfl (fun _ => ?_) (fun hh => by rw [h2] at hh; cases hh)
      simp only [Option.some.injEq, Prod.mk.injEq] at h
      obtain ⟨rfl, rfl⟩ := h
      exact WP.pathW tab_ok mixed [] _ (ps := []) (r := T.tup [T.str (ByteArray.mk #[]), tb false]) (by kernel_rfl) trivial (WkT.eq (y := T.tup [T.str (ByteArray.mk #[]), tb false]) (WkT.refl _) rfl) (fun _ h => h)
    · -- no
      refine WP.cond (b := v11) rfl (fun hh => by rw [h2] at hh; cases hh) (fun _ => ?_)
      refine WP.path tab_ok mixed [] [.keep [3, 2, 0], .keepO []] (ps := []) (e := .normal) (σ' := ⟨[], [(3, vb false), (2, V.t (T.str (ByteArray.mk #[]))), (0, V.t (T.str x0))], []⟩) (by kernel_rfl) trivial ?_
      refine WP.seq ?_
      obtain ⟨c0, h⟩ := chk_some h
      obtain ⟨r15, c1, h⟩ := bnd1_some h
      obtain ⟨c2, h⟩ := chk_some h
      obtain ⟨c3, h⟩ := chk_some h
      refine WP.path tab_ok mixed [(15, An.call (ti r15)), (16, An.call (T.str (itoaB r15)))] [.keep [4, 3, 2], .keepO []] (ps := [(x0.size + (ByteArray.mk #[35]).size ≤ 9223372036854775807), (C Tryd.prog 141 [T.str x0] (ti r15)), (C Tryd.prog 85 [ti r15] (T.str (itoaB r15))), ((x0 ++ (ByteArray.mk #[35])).size + (itoaB r15).size ≤ 9223372036854775807)]) (e := .normal) (σ' := ⟨[], [(4, V.t (T.str ((x0 ++ (ByteArray.mk #[35])) ++ (itoaB r15)))), (3, vb false), (2, V.t (T.str (ByteArray.mk #[])))], []⟩) (by kernel_rfl) ⟨c0, (F_impl_checksum_W x0 r15 c1), (itoa_C r15 c2), c3, trivial⟩ ?_
      refine WP.seq ?_
      refine WP.seq ?_
      refine WP.path tab_ok mixed [] [.keep [20, 4, 3, 2], .keepO []] (ps := [(True)]) (e := .normal) (σ' := ⟨[], [(20, vb (decide (((ByteArray.size ((x0 ++ (ByteArray.mk #[35])) ++ (itoaB r15)) : Nat) : Int) > (4000 : Int)))), (4, V.t (T.str ((x0 ++ (ByteArray.mk #[35])) ++ (itoaB r15)))), (3, vb false), (2, V.t (T.str (ByteArray.mk #[])))], []⟩) (by kernel_rfl) ⟨trivial, trivial⟩ ?_
      rcases ite_some h with ⟨h3, h⟩ | ⟨h3, h⟩
      · -- yes
        refine WP.cond (b := decide (((ByteArray.size ((x0 ++ (ByteArray.mk #[35])) ++ (itoaB r15)) : Nat) : Int) > (4000 : Int))) rfl (fun _ => ?_) (fun hh => by rw [h3] at hh; cases hh)
        simp only [Option.some.injEq, Prod.mk.injEq] at h
        obtain ⟨rfl, rfl⟩ := h
        exact WP.pathW tab_ok mixed [] _ (ps := []) (r := T.tup [T.str (ByteArray.mk #[]), tb false]) (by kernel_rfl) trivial (WkT.eq (y := T.tup [T.str (ByteArray.mk #[]), tb false]) (WkT.refl _) rfl) (fun _ h => h)
      · -- no
        refine WP.cond (b := decide (((ByteArray.size ((x0 ++ (ByteArray.mk #[35])) ++ (itoaB r15)) : Nat) : Int) > (4000 : Int))) rfl (fun hh => by rw [h3] at hh; cases hh) (fun _ => ?_)
        refine WP.path tab_ok mixed [] [.keep [4, 3, 2], .keepO []] (ps := []) (e := .normal) (σ' := ⟨[], [(4, V.t (T.str ((x0 ++ (ByteArray.mk #[35])) ++ (itoaB r15)))), (3, vb false), (2, V.t (T.str (ByteArray.mk #[])))], []⟩) (by kernel_rfl) trivial ?_
        simp only [Option.some.injEq, Prod.mk.injEq] at h
        obtain ⟨rfl, rfl⟩ := h
        exact WP.pathW tab_ok mixed [] _ (ps := []) (r := T.tup [T.str ((x0 ++ (ByteArray.mk #[35])) ++ (itoaB r15)), tb true]) (by kernel_rfl) trivial (WkT.eq (y := T.tup [T.str ((x0 ++ (ByteArray.mk #[35])) ++ (itoaB r15)), tb true]) (WkT.refl _) rfl) (fun _ h => h)
theorem F_impl_EncodeRecord_W (x0 : Int) (x1 : ByteArray) (x2 : ByteArray) (y0 : ByteArray) (y1 : Bool) (h : F_impl_EncodeRecord x0 x1 x2 = some (y0, y1)) : C Tryd.prog 17 [ti x0, T.agg [T.str x1, T.str x2]] (T.tup [T.str y0, tb y1]) := by
  unfold F_impl_EncodeRecord at h
  refine C.intro (tab := tab) tab_ok (fn := Tryd.f17) Tryd.func17 (by kernel_rfl) rfl (Nat.le_of_ble_eq_true rfl) ?_
  refine WP.seq ?_
  refine WP.path tab_ok mixed [(3, An.fz)] [.keep [5, 4, 3, 0], .keepO []] (ps := []) (e := .normal) (σ' := ⟨[], [(5, vb false), (4, V.t (T.str (ByteArray.mk #[]))), (3, V.t (T.ptr [T.str x1, T.str x2])), (0, vi x0)], []⟩) (by kernel_rfl) trivial ?_
  refine WP.seq ?_
  obtain ⟨J1, hJ1, h⟩ := jn_some h
  refine WP.joinA (fun (zz : Bool) => ⟨[], [(15, vb zz), (5, vb false), (4, V.t (T.str (ByteArray.mk #[]))), (3, V.t (T.ptr [T.str x1, T.str x2])), (0, vi x0)], []⟩) (fun zz => J1 zz = some (y0, y1)) ?_ ?_
  · -- to where they meet
    rcases ite_some h with ⟨h1, h⟩ | ⟨h1, h⟩
    · -- yes
      refine WP.path tab_ok mixed [(9, An.call (tb (decide ((0 : Int) ≤ x0) && decide (x0 ≤ (59 : Int))))), (11, An.b true)] [.keep [15, 5, 4, 3, 0], .keepO [], .names []] (ps := [(C Tryd.prog 83 [ti x0, ti 0, ti 59] (tb (decide ((0 : Int) ≤ x0) && decide (x0 ≤ (59 : Int))))), ((!(decide ((0 : Int) ≤ x0) && decide (x0 ≤ (59 : Int)))) = true)]) (e := .normal) (σ' := ⟨[], [(15, vb true), (5, vb false), (4, V.t (T.str (ByteArray.mk #[]))), (3, V.t (T.ptr [T.str x1, T.str x2])), (0, vi x0)], []⟩) (by kernel_rfl) ⟨(by have hh := (in_C x0 (0 : Int) (59 : Int)); first | exact hh | simpa using hh), h1, trivial⟩ ?_
      exact ⟨(true), h, rfl⟩
    · -- no
      obtain ⟨c0, h⟩ := chk_some h
      obtain ⟨c1, h⟩ := chk_some h
      refine WP.path tab_ok mixed [(9, An.call (tb (decide ((0 : Int) ≤ x0) && decide (x0 ≤ (59 : Int))))), (11, An.b false), (13, An.call (tb (isValidRecordN x1 x2)))] [.keep [15, 5, 4, 3, 0], .keepO [], .names []] (ps := [(C Tryd.prog 83 [ti x0, ti 0, ti 59] (tb (decide ((0 : Int) ≤ x0) && decide (x0 ≤ (59 : Int))))), ((!(decide ((0 : Int) ≤ x0) && decide (x0 ≤ (59 : Int)))) = false), (2 ≤ 2), (C Tryd.prog 46 [T.agg [T.str x1, T.str x2]] (tb (isValidRecordN x1 x2)))]) (e := .normal) (σ' := ⟨[], [(15, vb (!(isValidRecordN x1 x2))), (5, vb false), (4, V.t (T.str (ByteArray.mk #[]))), (3, V.t (T.ptr [T.str x1, T.str x2])), (0, vi x0)], []⟩) (by kernel_rfl) ⟨(by have hh := (in_C x0 (0 : Int) (59 : Int)); first | exact hh | simpa using hh), h1, by decide, (iIsValidRecord_C x1 x2 c0 c1), trivial⟩ ?_
      exact ⟨(!(isValidRecordN x1 x2)), h, rfl⟩
  · -- from there
    intro v15 h0
    have h := (show J1 v15 = some (y0, y1) from h0)
    rw [hJ1] at h
    rcases ite_some h with ⟨h2, h⟩ | ⟨h2, h⟩
    · -- yes
      refine WP.cond (b := v15) rfl (fun _ => ?_) (fun hh => by rw [h2] at hh; cases hh)
      simp only [Option.some.injEq, Prod.mk.injEq] at h
      obtain ⟨rfl, rfl⟩ := h
      exact WP.pathW tab_ok mixed [] _ (ps := []) (r := T.tup [T.str (ByteArray.mk #[]), tb false]) (by kernel_rfl) trivial (WkT.eq (y := T.tup [T.str (ByteArray.mk #[]), tb false]) (WkT.refl _) rfl) (fun _ h => h)
    · -- no
      refine WP.cond (b := v15) rfl (fun hh => by rw [h2] at hh; cases hh) (fun _ => ?_)
      refine WP.path tab_ok mixed [] [.keep [5, 4, 3, 0], .keepO []] (ps := []) (e := .normal) (σ' := ⟨[], [(5, vb false), (4, V.t (T.str (ByteArray.mk #[]))), (3, V.t (T.ptr [T.str x1, T.str x2])), (0, vi x0)], []⟩) (by kernel_rfl) trivial ?_
      refine WP.seq ?_
      obtain ⟨c0, h⟩ := chk_some h
      obtain ⟨c1, h⟩ := chk_some h
      obtain ⟨c2, h⟩ := chk_some h
      obtain ⟨c3, h⟩ := chk_some h
      obtain ⟨c4, h⟩ := chk_some h
      obtain ⟨r27, r27b, c5, h⟩ := bnd2_some h
      refine WP.path tab_ok mixed [(18, An.call (T.str (itoaB x0))), (27, An.call (T.tup [T.str r27, tb r27b]))] [.keep [7, 6, 5, 4], .keepO []] (ps := [(C Tryd.prog 85 [ti x0] (T.str (itoaB x0))), ((itoaB x0).size + (ByteArray.mk #[32]).size ≤ 9223372036854775807), (True), (((itoaB x0) ++ (ByteArray.mk #[32])).size + x1.size ≤ 9223372036854775807), ((((itoaB x0) ++ (ByteArray.mk #[32])) ++ x1).size + (ByteArray.mk #[64]).size ≤ 9223372036854775807), (True), (((((itoaB x0) ++ (ByteArray.mk #[32])) ++ x1) ++ (ByteArray.mk #[64])).size + x2.size ≤ 9223372036854775807), (C Tryd.prog 84 [T.str (((((itoaB x0) ++ (ByteArray.mk #[32])) ++ x1) ++ (ByteArray.mk #[64])) ++ x2)] (T.tup [T.str r27, tb r27b]))]) (e := .normal) (σ' := ⟨[], [(7, vb r27b), (6, V.t (T.str r27)), (5, vb false), (4, V.t (T.str (ByteArray.mk #[])))], []⟩) (by kernel_rfl) ⟨(itoa_C x0 c0), c1, trivial, c2, c3, trivial, c4, (F_impl_AppendChecksum_W (((((itoaB x0) ++ (ByteArray.mk #[32])) ++ x1) ++ (ByteArray.mk #[64])) ++ x2) r27 r27b c5), trivial⟩ ?_
      refine WP.seq ?_
      refine WP.seq ?_
      refine WP.path tab_ok mixed [] [.keep [31, 6, 5, 4], .keepO []] (ps := []) (e := .normal) (σ' := ⟨[], [(31, vb (!r27b)), (6, V.t (T.str r27)), (5, vb false), (4, V.t (T.str (ByteArray.mk #[])))], []⟩) (by kernel_rfl) trivial ?_
      rcases ite_some h with ⟨h3, h⟩ | ⟨h3, h⟩
      · -- yes
        refine WP.cond (b := !r27b) rfl (fun _ => ?_) (fun hh => by rw [h3] at hh; cases hh)
        simp only [Option.some.injEq, Prod.mk.injEq] at h
        obtain ⟨rfl, rfl⟩ := h
        exact WP.pathW tab_ok mixed [] _ (ps := []) (r := T.tup [T.str (ByteArray.mk #[]), tb false]) (by kernel_rfl) trivial (WkT.eq (y := T.tup [T.str (ByteArray.mk #[]), tb false]) (WkT.refl _) rfl) (fun _ h => h)
      · -- no
        refine WP.cond (b := !r27b) rfl (fun hh => by rw [h3] at hh; cases hh) (fun _ => ?_)
        refine WP.path tab_ok mixed [] [.keep [6, 5, 4], .keepO []] (ps := []) (e := .normal) (σ' := ⟨[], [(6, V.t (T.str r27)), (5, vb false), (4, V.t (T.str (ByteArray.mk #[])))], []⟩) (by kernel_rfl) trivial ?_
        obtain ⟨c6, h⟩ := chk_some h
        simp only [Option.some.injEq, Prod.mk.injEq] at h
        obtain ⟨rfl, rfl⟩ := h
        exact WP.pathW tab_ok mixed [] _ (ps := [(r27.size + (ByteArray.mk #[10]).size ≤ 9223372036854775807)]) (r := T.tup [T.str (r27 ++ (ByteArray.mk #[10])), tb true]) (by kernel_rfl) ⟨c6, trivial⟩ (WkT.eq (y := T.tup [T.str (r27 ++ (ByteArray.mk #[10])), tb true]) (WkT.refl _) rfl) (fun _ h => h)
theorem F_internal_stringslite_Cut_W (x0 : ByteArray) (x1 : ByteArray) (y0 : ByteArray) (y1 : ByteArray) (y2 : Bool) (h : F_internal_stringslite_Cut x0 x1 = some (y0, y1, y2)) : C Tryd.prog 174 [T.str x0, T.str x1] (T.tup [T.str y0, T.str y1, tb y2]) := by
  unfold F_internal_stringslite_Cut at h
  refine C.intro (tab := tab) tab_ok (fn := Tryd.f174) Tryd.func174 (by kernel_rfl) rfl (Nat.le_of_ble_eq_true rfl) ?_
  refine WP.seq ?_
  refine WP.path tab_ok mixed [] [.keep [6, 5, 4, 0, 1], .keepO []] (ps := []) (e := .normal) (σ' := ⟨[], [(6, vb false), (5, V.t (T.str (ByteArray.mk #[]))), (4, V.t (T.str (ByteArray.mk #[]))), (0, V.t (T.str x0)), (1, V.t (T.str x1))], []⟩) (by kernel_rfl) trivial ?_
  refine WP.seq ?_
  refine WP.seq ?_
  obtain ⟨c0, h⟩ := chk_some h
  refine WP.path tab_ok mixed [(10, An.call (ti (firstIdx x0 (hd1 x1))))] [.keep [7, 6, 5, 4, 0, 1], .keepO []] (ps := [(C Tryd.prog 169 [T.str x0, T.str x1] (ti (firstIdx x0 (hd1 x1))))]) (e := .normal) (σ' := ⟨[], [(7, vi (firstIdx x0 (hd1 x1))), (6, vb false), (5, V.t (T.str (ByteArray.mk #[]))), (4, V.t (T.str (ByteArray.mk #[]))), (0, V.t (T.str x0)), (1, V.t (T.str x1))], []⟩) (by kernel_rfl) ⟨(sliteIndex1_C x0 x1 c0), trivial⟩ ?_
  refine WP.seq ?_
  refine WP.path tab_ok mixed [] [.keep [12, 7, 6, 5, 4, 0, 1], .keepO []] (ps := [(True)]) (e := .normal) (σ' := ⟨[], [(12, vb (decide ((firstIdx x0 (hd1 x1)) ≥ (0 : Int)))), (7, vi (firstIdx x0 (hd1 x1))), (6, vb false), (5, V.t (T.str (ByteArray.mk #[]))), (4, V.t (T.str (ByteArray.mk #[]))), (0, V.t (T.str x0)), (1, V.t (T.str x1))], []⟩) (by kernel_rfl) ⟨trivial, trivial⟩ ?_
  rcases ite_some h with ⟨h1, h⟩ | ⟨h1, h⟩
  · -- yes
    refine WP.cond (b := decide ((firstIdx x0 (hd1 x1)) ≥ (0 : Int))) rfl (fun _ => ?_) (fun hh => by rw [h1] at hh; cases hh)
    obtain ⟨c1, h⟩ := chk_some h
    obtain ⟨c2, h⟩ := chk_some h
    obtain ⟨n20, c3, h⟩ := nam_some h
    obtain ⟨c4, h⟩ := chk_some h
    simp only [Option.some.injEq, Prod.mk.injEq] at h
    obtain ⟨rfl, rfl, rfl⟩ := h
    exact WP.pathW tab_ok mixed [(20, An.v (ti n20))] _ (ps := [((0 ≤ (0 : Int) ∧ (0 : Int) ≤ (firstIdx x0 (hd1 x1)) ∧ (firstIdx x0 (hd1 x1)) ≤ ((ByteArray.size x0 : Nat) : Int))), (True), (T.int .i64 (IntKind.wrap .i64 ((firstIdx x0 (hd1 x1)) + ((ByteArray.size x1 : Nat) : Int))) = ti n20), ((0 ≤ n20 ∧ n20 ≤ ((ByteArray.size x0 : Nat) : Int) ∧ ((ByteArray.size x0 : Nat) : Int) ≤ ((ByteArray.size x0 : Nat) : Int)))]) (r := T.tup [T.str (ByteArray.extract x0 0 (Int.toNat (firstIdx x0 (hd1 x1)))), T.str (ByteArray.extract x0 (Int.toNat n20) (Int.toNat ((ByteArray.size x0 : Nat) : Int))), tb true]) (by kernel_rfl) ⟨c1, trivial, Eq.trans (wrapI c2) (congrArg (ti) c3), c4, trivial⟩ (WkT.eq (y := T.tup [T.str (ByteArray.extract x0 0 (Int.toNat (firstIdx x0 (hd1 x1)))), T.str (ByteArray.extract x0 (Int.toNat n20) (Int.toNat ((ByteArray.size x0 : Nat) : Int))), tb true]) (WkT.refl _) rfl) (fun _ h => h)
  · -- no
    refine WP.cond (b := decide ((firstIdx x0 (hd1 x1)) ≥ (0 : Int))) rfl (fun hh => by rw [h1] at hh; cases hh) (fun _ => ?_)
    refine WP.path tab_ok mixed [] [.keep [6, 5, 4, 0], .keepO []] (ps := []) (e := .normal) (σ' := ⟨[], [(6, vb false), (5, V.t (T.str (ByteArray.mk #[]))), (4, V.t (T.str (ByteArray.mk #[]))), (0, V.t (T.str x0))], []⟩) (by kernel_rfl) trivial ?_
    simp only [Option.some.injEq, Prod.mk.injEq] at h
    obtain ⟨rfl, rfl, rfl⟩ := h
    exact WP.pathW tab_ok mixed [] _ (ps := []) (r := T.tup [T.str x0, T.str (ByteArray.mk #[]), tb false]) (by kernel_rfl) trivial (WkT.eq (y := T.tup [T.str x0, T.str (ByteArray.mk #[]), tb false]) (WkT.refl _) rfl) (fun _ h => h)
theorem F_strings_Cut_W (x0 : ByteArray) (x1 : ByteArray) (y0 : ByteArray) (y1 : ByteArray) (y2 : Bool) (h : F_strings_Cut x0 x1 = some (y0, y1, y2)) : C Tryd.prog 164 [T.str x0, T.str x1] (T.tup [T.str y0, T.str y1, tb y2]) := by
  unfold F_strings_Cut at h
  refine C.intro (tab := tab) tab_ok (fn := Tryd.f164) Tryd.func164 (by kernel_rfl) rfl (Nat.le_of_ble_eq_true rfl) ?_
  obtain ⟨r9, r9b, r9c, c0, h⟩ := bnd3_some h
  simp only [Option.some.injEq, Prod.mk.injEq] at h
  obtain ⟨rfl, rfl, rfl⟩ := h
  exact WP.pathW tab_ok mixed [(9, An.call (T.tup [T.str r9, T.str r9b, tb r9c]))] _ (ps := [(C Tryd.prog 174 [T.str x0, T.str x1] (T.tup [T.str r9, T.str r9b, tb r9c]))]) (r := T.tup [T.str r9, T.str r9b, tb r9c]) (by kernel_rfl) ⟨(F_internal_stringslite_Cut_W x0 x1 r9 r9b r9c c0), trivial⟩ (WkT.eq (y := T.tup [T.str r9, T.str r9b, tb r9c]) (WkT.refl _) rfl) (fun _ h => h)
theorem F_impl_decode_W (x0 : ByteArray) (x1 : Int) (y0 : ByteArray) (y1 : ByteArray) (y2 : Int) (y3 : Bool) (h : F_impl_decode x0 x1 = some (y0, y1, y2, y3)) : C Tryd.prog 145 [T.str x0, ti x1] (T.tup [T.agg [T.str y0, T.str y1], ti y2, tb y3]) := by
  unfold F_impl_decode at h
  refine C.intro (tab := tab) tab_ok (fn := Tryd.f145) Tryd.func145 (by kernel_rfl) rfl (Nat.le_of_ble_eq_true rfl) ?_
  refine WP.seq ?_
  refine WP.path tab_ok mixed [(4, An.id 2004)] [.keep [6, 5, 4, 0, 1], .keepO [2004]] (ps := []) (e := .normal) (σ' := ⟨[2004], [(6, vb false), (5, vi 0), (4, V.ref 2004 0), (0, V.t (T.str x0)), (1, vi x1)], [(2004, oc 27 [T.str (ByteArray.mk #[]), T.str (ByteArray.mk #[])])]⟩) (by kernel_rfl) trivial ?_
  refine WP.seq ?_
  refine WP.path tab_ok mixed [(18, An.call (ti (firstIdx x0 (10 : Int).toNat.toUInt8)))] [.keep [7, 6, 5, 4, 0, 1], .keepO [2004]] (ps := [(C Tryd.prog 151 [T.str x0, T.int .u8 10] (ti (firstIdx x0 (10 : Int).toNat.toUInt8)))]) (e := .normal) (σ' := ⟨[2004], [(7, vi (firstIdx x0 (10 : Int).toNat.toUInt8)), (6, vb false), (5, vi 0), (4, V.ref 2004 0), (0, V.t (T.str x0)), (1, vi x1)], [(2004, oc 27 [T.str (ByteArray.mk #[]), T.str (ByteArray.mk #[])])]⟩) (by kernel_rfl) ⟨(by have hh := (stringsIndexByte_C x0 (10 : Int)); first | exact hh | simpa using hh), trivial⟩ ?_
  refine WP.seq ?_
  refine WP.seq ?_
  refine WP.path tab_ok mixed [] [.keep [20, 7, 6, 5, 4, 0, 1], .keepO [2004]] (ps := [(True)]) (e := .normal) (σ' := ⟨[2004], [(20, vb (decide ((firstIdx x0 (10 : Int).toNat.toUInt8) < (0 : Int)))), (7, vi (firstIdx x0 (10 : Int).toNat.toUInt8)), (6, vb false), (5, vi 0), (4, V.ref 2004 0), (0, V.t (T.str x0)), (1, vi x1)], [(2004, oc 27 [T.str (ByteArray.mk #[]), T.str (ByteArray.mk #[])])]⟩) (by kernel_rfl) ⟨trivial, trivial⟩ ?_
  rcases ite_some h with ⟨h1, h⟩ | ⟨h1, h⟩
  · -- yes
    refine WP.cond (b := decide ((firstIdx x0 (10 : Int).toNat.toUInt8) < (0 : Int))) rfl (fun _ => ?_) (fun hh => by rw [h1] at hh; cases hh)
    simp only [Option.some.injEq, Prod.mk.injEq] at h
    obtain ⟨rfl, rfl, rfl, rfl⟩ := h
    exact WP.pathW tab_ok mixed [] _ (ps := [(True), ((0 + 2 ≤ 2 ∧ 2 = 2)), (0 + 2 ≤ 2)]) (r := T.tup [T.agg [T.str (ByteArray.mk #[]), T.str (ByteArray.mk #[])], ti 0, tb false]) (by kernel_rfl) ⟨trivial, by decide, by first | decide | omega | (simp only [tlL] <;> omega) | (simp <;> omega) | (simp [] <;> omega), trivial⟩ (WkT.eq (y := T.tup [T.agg [T.str (ByteArray.mk #[]), T.str (ByteArray.mk #[])], ti 0, tb false]) (WkT.refl _) (by first | rfl | (simp only [tlS, tl, vl, vo, oc, ov, tbl, vbl, ty, vy] <;> rfl) | (simp <;> omega) | (simp []; done) | (rw [List.take_of_length_le (by simp [])] <;> rfl) | (simp [List.take_of_length_le]; done))) (fun _ h => h)
  · -- no
    refine WP.cond (b := decide ((firstIdx x0 (10 : Int).toNat.toUInt8) < (0 : Int))) rfl (fun hh => by rw [h1] at hh; cases hh) (fun _ => ?_)
    refine WP.path tab_ok mixed [] [.keep [7, 6, 5, 4, 0, 1], .keepO [2004]] (ps := []) (e := .normal) (σ' := ⟨[2004], [(7, vi (firstIdx x0 (10 : Int).toNat.toUInt8)), (6, vb false), (5, vi 0), (4, V.ref 2004 0), (0, V.t (T.str x0)), (1, vi x1)], [(2004, oc 27 [T.str (ByteArray.mk #[]), T.str (ByteArray.mk #[])])]⟩) (by kernel_rfl) trivial ?_
    obtain ⟨c0, h⟩ := chk_some h
    obtain ⟨r26, r26b, r26c, c1, h⟩ := bnd3_some h
    obtain ⟨r32, r32b, r32c, c2, h⟩ := bnd3_some h
    obtain ⟨r38, r38b, r38c, c3, h⟩ := bnd3_some h
    obtain ⟨r48, r48b, c4, h⟩ := bnd2_some h
    obtain ⟨c5, h⟩ := chk_some h
    obtain ⟨n53, c6, h⟩ := nam_some h
    rcases ite_some h with ⟨h2, h⟩ | ⟨h2, h⟩
    · -- yes
      obtain ⟨n59, c7, h⟩ := nam_some h
      obtain ⟨c8, h⟩ := chk_some h
      simp only [Option.some.injEq, Prod.mk.injEq] at h
      obtain ⟨rfl, rfl, rfl, rfl⟩ := h
      exact WP.pathW tab_ok mixed [(26, An.call (T.tup [T.str r26, T.str r26b, tb r26c])), (32, An.call (T.tup [T.str r32, T.str r32b, tb r32c])), (38, An.call (T.tup [T.str r38, T.str r38b, tb r38c])), (14, An.id 2014), (48, An.call (T.tup [T.str r48, tb r48b])), (50, An.b true), (53, An.v (ti n53)), (59, An.v (ti n59))] _ (ps := [((0 ≤ (0 : Int) ∧ (0 : Int) ≤ (firstIdx x0 (10 : Int).toNat.toUInt8) ∧ (firstIdx x0 (10 : Int).toNat.toUInt8) ≤ ((ByteArray.size x0 : Nat) : Int))), (C Tryd.prog 164 [T.str (ByteArray.extract x0 0 (Int.toNat (firstIdx x0 (10 : Int).toNat.toUInt8))), T.str (ByteArray.mk #[35])] (T.tup [T.str r26, T.str r26b, tb r26c])), (C Tryd.prog 164 [T.str r26, T.str (ByteArray.mk #[32])] (T.tup [T.str r32, T.str r32b, tb r32c])), (C Tryd.prog 164 [T.str r32b, T.str (ByteArray.mk #[64])] (T.tup [T.str r38, T.str r38b, tb r38c])), ((1 = 1 ∧ 0 + 1 ≤ 2) ∧ (1 = 1 ∧ 1 + 1 ≤ 2) ∧ True), ((0 + 2 ≤ 2 ∧ 2 = 2)), (0 + 2 ≤ 2), (C Tryd.prog 17 [ti x1, T.agg [T.str r38, T.str r38b]] (T.tup [T.str r48, tb r48b])), ((r48b) = true), (0 + 2 ≤ 2), (True), (T.int .i64 (IntKind.wrap .i64 ((firstIdx x0 (10 : Int).toNat.toUInt8) + (1 : Int))) = ti n53), (True), (T.int .i64 (IntKind.wrap .i64 ((firstIdx x0 (10 : Int).toNat.toUInt8) + (1 : Int))) = ti n59), ((0 ≤ (0 : Int) ∧ (0 : Int) ≤ n59 ∧ n59 ≤ ((ByteArray.size x0 : Nat) : Int))), (True), ((0 + 2 ≤ 2 ∧ 2 = 2)), (0 + 2 ≤ 2)]) (r := T.tup [T.agg [T.str r38, T.str r38b], ti n53, tb (r48.toList == (ByteArray.extract x0 0 (Int.toNat n59)).toList)]) (by kernel_rfl) ⟨c0, (F_strings_Cut_W (ByteArray.extract x0 0 (Int.toNat (firstIdx x0 (10 : Int).toNat.toUInt8))) (ByteArray.mk #[35]) r26 r26b r26c c1), (F_strings_Cut_W r26 (ByteArray.mk #[32]) r32 r32b r32c c2), (F_strings_Cut_W r32b (ByteArray.mk #[64]) r38 r38b r38c c3), ⟨⟨by first | rfl | (simp; done) | (simp []; done) | omega, by first | decide | (simp; done) | (simp []; done) | omega | (simp only [tlL]; omega) | (simp; omega)⟩, ⟨by first | rfl | (simp; done) | (simp []; done) | omega, by first | decide | (simp; done) | (simp []; done) | omega | (simp only [tlL]; omega) | (simp; omega)⟩, trivial⟩, by decide, by decide, (F_impl_EncodeRecord_W x1 r38 r38b r48 r48b c4), h2, by decide, trivial, Eq.trans (wrapI c5) (congrArg (ti) c6), trivial, Eq.trans (wrapI c5) (congrArg (ti) c7), c8, trivial, by decide, by first | decide | omega | (simp only [tlL] <;> omega) | (simp <;> omega) | (simp [] <;> omega), trivial⟩ (WkT.eq (y := T.tup [T.agg [T.str r38, T.str r38b], ti n53, tb (r48.toList == (ByteArray.extract x0 0 (Int.toNat n59)).toList)]) (WkT.refl _) rfl) (fun _ h => h)
    · -- no
      simp only [Option.some.injEq, Prod.mk.injEq] at h
      obtain ⟨rfl, rfl, rfl, rfl⟩ := h
      exact WP.pathW tab_ok mixed [(26, An.call (T.tup [T.str r26, T.str r26b, tb r26c])), (32, An.call (T.tup [T.str r32, T.str r32b, tb r32c])), (38, An.call (T.tup [T.str r38, T.str r38b, tb r38c])), (14, An.id 2014), (48, An.call (T.tup [T.str r48, tb r48b])), (50, An.b false), (53, An.v (ti n53))] _ (ps := [((0 ≤ (0 : Int) ∧ (0 : Int) ≤ (firstIdx x0 (10 : Int).toNat.toUInt8) ∧ (firstIdx x0 (10 : Int).toNat.toUInt8) ≤ ((ByteArray.size x0 : Nat) : Int))), (C Tryd.prog 164 [T.str (ByteArray.extract x0 0 (Int.toNat (firstIdx x0 (10 : Int).toNat.toUInt8))), T.str (ByteArray.mk #[35])] (T.tup [T.str r26, T.str r26b, tb r26c])), (C Tryd.prog 164 [T.str r26, T.str (ByteArray.mk #[32])] (T.tup [T.str r32, T.str r32b, tb r32c])), (C Tryd.prog 164 [T.str r32b, T.str (ByteArray.mk #[64])] (T.tup [T.str r38, T.str r38b, tb r38c])), ((1 = 1 ∧ 0 + 1 ≤ 2) ∧ (1 = 1 ∧ 1 + 1 ≤ 2) ∧ True), ((0 + 2 ≤ 2 ∧ 2 = 2)), (0 + 2 ≤ 2), (C Tryd.prog 17 [ti x1, T.agg [T.str r38, T.str r38b]] (T.tup [T.str r48, tb r48b])), ((r48b) = false), (0 + 2 ≤ 2), (True), (T.int .i64 (IntKind.wrap .i64 ((firstIdx x0 (10 : Int).toNat.toUInt8) + (1 : Int))) = ti n53), ((0 + 2 ≤ 2 ∧ 2 = 2)), (0 + 2 ≤ 2)]) (r := T.tup [T.agg [T.str r38, T.str r38b], ti n53, tb false]) (by kernel_rfl) ⟨c0, (F_strings_Cut_W (ByteArray.extract x0 0 (Int.toNat (firstIdx x0 (10 : Int).toNat.toUInt8))) (ByteArray.mk #[35]) r26 r26b r26c c1), (F_strings_Cut_W r26 (ByteArray.mk #[32]) r32 r32b r32c c2), (F_strings_Cut_W r32b (ByteArray.mk #[64]) r38 r38b r38c c3), ⟨⟨by first | rfl | (simp; done) | (simp []; done) | omega, by first | decide | (simp; done) | (simp []; done) | omega | (simp only [tlL]; omega) | (simp; omega)⟩, ⟨by first | rfl | (simp; done) | (simp []; done) | omega, by first | decide | (simp; done) | (simp []; done) | omega | (simp only [tlL]; omega) | (simp; omega)⟩, trivial⟩, by decide, by decide, (F_impl_EncodeRecord_W x1 r38 r38b r48 r48b c4), h2, by decide, trivial, Eq.trans (wrapI c5) (congrArg (ti) c6), by decide, by first | decide | omega | (simp only [tlL] <;> omega) | (simp <;> omega) | (simp [] <;> omega), trivial⟩ (WkT.eq (y := T.tup [T.agg [T.str r38, T.str r38b], ti n53, tb false]) (WkT.refl _) rfl) (fun _ h => h)
theorem F_impl_records_W (x0 : ByteArray) (y0 : List (ByteArray × ByteArray)) (y1 : List Int) (h : F_impl_records x0 = some (y0, y1)) : CG Tryd.prog 87 [V.t (T.str x0)] [] (V.tup [V.own 9000 2 (List.length y0), vo 9001 (List.length y1)]) [(9000, oc 27 (List.flatMap recsC y0)), (9001, oc 3 (List.map (T.int .i64) y1))] := by
  unfold F_impl_records at h
  refine CG.intro (tab := tab) tab_ok (fn := Tryd.f87) Tryd.func87 (by kernel_rfl) rfl (Nat.le_of_ble_eq_true rfl) (by kernel_rfl) ?_
  refine WP.seq ?_
  refine WP.path tab_ok mixed [] [.keep [3, 2, 0], .keepO []] (ps := []) (e := .normal) (σ' := ⟨[], [(3, V.t (T.nils)), (2, V.t (T.nils)), (0, V.t (T.str x0))], []⟩) (by kernel_rfl) trivial ?_
  refine WP.seq ?_
  refine WP.path tab_ok mixed [(10, An.id 2010), (11, An.id 2011)] [.keep [6, 5, 4, 3, 2, 0], .keepO [2010, 2011]] (ps := [(True), (0 = 0 * 2), ((1 = 1 ∧ 0 + 1 ≤ 1) ∧ True), (1 = 1 * 1)]) (e := .normal) (σ' := ⟨[2011, 2010], [(6, vi 0), (5, vo 2011 1), (4, V.own 2010 2 0), (3, V.t (T.nils)), (2, V.t (T.nils)), (0, V.t (T.str x0))], [(2010, oc 27 []), (2011, oc 3 [ti 0])]⟩) (by kernel_rfl) ⟨trivial, by decide, ⟨⟨by first | rfl | (simp; done) | (simp []; done) | omega, by first | decide | (simp; done) | (simp []; done) | omega | (simp only [tlL]; omega) | (simp; omega)⟩, trivial⟩, by decide, trivial⟩ ?_
  obtain ⟨J1, hJ1, h⟩ := jn_some h
  refine WP.joinA (fun (zz : (List (ByteArray × ByteArray)) × (List Int)) => ⟨[2010, 2011], [(5, vo 2011 (List.length zz.2)), (4, V.own 2010 2 (List.length zz.1)), (3, V.t (T.nils)), (2, V.t (T.nils))], [(2010, oc 27 (List.flatMap recsC zz.1)), (2011, oc 3 (List.map (T.int .i64) zz.2))]⟩) (fun zz => J1 zz.1 zz.2 = some (y0, y1)) ?_ ?_
  · -- to where they meet
    refine WP.block ?_
    refine WP.wk [.keep [6, 5, 4, 3, 2, 0], .keepO [2010, 2011], .names [(2010, 2010), (2011, 2011)]] (σ' := ⟨[2010, 2011], [(6, vi 0), (5, vo 2011 1), (4, V.own 2010 2 0), (3, V.t (T.nils)), (2, V.t (T.nils)), (0, V.t (T.str x0))], [(2010, oc 27 []), (2011, oc 3 [ti 0])]⟩) (ps := []) (by kernel_rfl) trivial ?_
    refine WP.st (σ' := ⟨[2010, 2011], [(6, vi (0 : Int)), (5, vo 2011 (List.length [(0 : Int)])), (4, V.own 2010 2 (List.length ([] : List (ByteArray × ByteArray)))), (3, V.t (T.nils)), (2, V.t (T.nils)), (0, V.t (T.str x0))], [(2010, oc 27 (List.flatMap recsC ([] : List (ByteArray × ByteArray)))), (2011, oc 3 (List.map (T.int .i64) [(0 : Int)]))]⟩) (by first | rfl | (simp only [tlS, tl, vl, vo, oc, ov, tbl, vbl, ty, vy] <;> rfl) | (simp <;> omega) | (simp []; done) | (rw [List.take_of_length_le (by simp [])] <;> rfl) | (simp [List.take_of_length_le]; done)) ?_
    refine WP.loop (α := Nat × (List (ByteArray × ByteArray)) × (List Int) × Int) (fun zz => ⟨[2010, 2011], [(6, vi zz.2.2.2), (5, vo 2011 (List.length zz.2.2.1)), (4, V.own 2010 2 (List.length zz.2.1)), (3, V.t (T.nils)), (2, V.t (T.nils)), (0, V.t (T.str x0))], [(2010, oc 27 (List.flatMap recsC zz.2.1)), (2011, oc 3 (List.map (T.int .i64) zz.2.2.1))]⟩) (fun zz => F_impl_records_L1 x0 J1 zz.1 zz.2.1 zz.2.2.1 zz.2.2.2 = some (y0, y1)) (fun zz => zz.1) (fuel, ([] : List (ByteArray × ByteArray)), [(0 : Int)], (0 : Int)) h ?_
    rintro ⟨n, o10, o11, v6⟩ h0
    have h := (show F_impl_records_L1 x0 J1 n o10 o11 v6 = some (y0, y1) from h0)
    rcases n with _ | n
    · rw [F_impl_records_L1] at h; cases h
    · rw [F_impl_records_L1] at h
      refine WP.seq ?_
      refine WP.seq ?_
      refine WP.path tab_ok mixed [] [.keep [14, 6, 5, 4, 3, 2, 0], .keepO [2010, 2011]] (ps := [(True)]) (e := .normal) (σ' := ⟨[2010, 2011], [(14, vb (decide (((List.length o10 : Nat) : Int) < (60 : Int)))), (6, vi v6), (5, vo 2011 (List.length o11)), (4, V.own 2010 2 (List.length o10)), (3, V.t (T.nils)), (2, V.t (T.nils)), (0, V.t (T.str x0))], [(2010, oc 27 (List.flatMap recsC o10)), (2011, oc 3 (List.map (T.int .i64) o11))]⟩) (by kernel_rfl) ⟨trivial, trivial⟩ ?_
      rcases ite_some h with ⟨h1, h⟩ | ⟨h1, h⟩
      · -- yes
        refine WP.cond (b := decide (((List.length o10 : Nat) : Int) < (60 : Int))) rfl (fun _ => ?_) (fun hh => by rw [h1] at hh; cases hh)
        refine WP.path tab_ok mixed [] [.keep [6, 5, 4, 3, 2, 0], .keepO [2010, 2011]] (ps := []) (e := .normal) (σ' := ⟨[2010, 2011], [(6, vi v6), (5, vo 2011 (List.length o11)), (4, V.own 2010 2 (List.length o10)), (3, V.t (T.nils)), (2, V.t (T.nils)), (0, V.t (T.str x0))], [(2010, oc 27 (List.flatMap recsC o10)), (2011, oc 3 (List.map (T.int .i64) o11))]⟩) (by kernel_rfl) trivial ?_
        refine WP.block ?_
        refine WP.seq ?_
        obtain ⟨c0, h⟩ := chk_some h
        obtain ⟨r21, r21b, r21c, r21d, c1, h⟩ := bnd4_some h
        refine WP.path tab_ok mixed [(21, An.call (T.tup [T.agg [T.str r21, T.str r21b], ti r21c, tb r21d])), (7, An.id 2007)] [.keep [9, 8, 7, 6, 5, 4, 3, 2, 0], .keepO [2007, 2010, 2011]] (ps := [((0 ≤ v6 ∧ v6 ≤ ((ByteArray.size x0 : Nat) : Int) ∧ ((ByteArray.size x0 : Nat) : Int) ≤ ((ByteArray.size x0 : Nat) : Int))), (C Tryd.prog 145 [T.str (ByteArray.extract x0 (Int.toNat v6) (Int.toNat ((ByteArray.size x0 : Nat) : Int))), ti ((List.length o10 : Nat) : Int)] (T.tup [T.agg [T.str r21, T.str r21b], ti r21c, tb r21d])), ((0 + 2 ≤ 2 ∧ 2 = 2))]) (e := .normal) (σ' := ⟨[2007, 2010, 2011], [(9, vb r21d), (8, vi r21c), (7, V.ref 2007 0), (6, vi v6), (5, vo 2011 (List.length o11)), (4, V.own 2010 2 (List.length o10)), (3, V.t (T.nils)), (2, V.t (T.nils)), (0, V.t (T.str x0))], [(2007, oc 27 [T.str r21, T.str r21b]), (2010, oc 27 (List.flatMap recsC o10)), (2011, oc 3 (List.map (T.int .i64) o11))]⟩) (by kernel_rfl) ⟨c0, (F_impl_decode_W (ByteArray.extract x0 (Int.toNat v6) (Int.toNat ((ByteArray.size x0 : Nat) : Int))) ((List.length o10 : Nat) : Int) r21 r21b r21c r21d c1), by decide, trivial⟩ ?_
        refine WP.seq ?_
        refine WP.seq ?_
        refine WP.path tab_ok mixed [] [.keep [26, 8, 7, 6, 5, 4, 3, 2, 0], .keepO [2007, 2010, 2011]] (ps := []) (e := .normal) (σ' := ⟨[2007, 2010, 2011], [(26, vb (!r21d)), (8, vi r21c), (7, V.ref 2007 0), (6, vi v6), (5, vo 2011 (List.length o11)), (4, V.own 2010 2 (List.length o10)), (3, V.t (T.nils)), (2, V.t (T.nils)), (0, V.t (T.str x0))], [(2007, oc 27 [T.str r21, T.str r21b]), (2010, oc 27 (List.flatMap recsC o10)), (2011, oc 3 (List.map (T.int .i64) o11))]⟩) (by kernel_rfl) trivial ?_
        rcases ite_some h with ⟨h2, h⟩ | ⟨h2, h⟩
        · -- yes
          refine WP.cond (b := !r21d) rfl (fun _ => ?_) (fun hh => by rw [h2] at hh; cases hh)
          refine WP.path tab_ok mixed [] [.keep [5, 4, 3, 2], .keepO [2010, 2011], .names [(2010, 2010), (2011, 2011)]] (ps := []) (e := (.exit 0)) (σ' := ⟨[2010, 2011], [(5, vo 2011 (List.length o11)), (4, V.own 2010 2 (List.length o10)), (3, V.t (T.nils)), (2, V.t (T.nils))], [(2010, oc 27 (List.flatMap recsC o10)), (2011, oc 3 (List.map (T.int .i64) o11))]⟩) (by kernel_rfl) trivial ?_
          exact ⟨(o10, o11), h, rfl⟩
        · -- no
          refine WP.cond (b := !r21d) rfl (fun hh => by rw [h2] at hh; cases hh) (fun _ => ?_)
          refine WP.path tab_ok mixed [] [.keep [8, 7, 6, 5, 4, 3, 2, 0], .keepO [2007, 2010, 2011]] (ps := []) (e := .normal) (σ' := ⟨[2007, 2010, 2011], [(8, vi r21c), (7, V.ref 2007 0), (6, vi v6), (5, vo 2011 (List.length o11)), (4, V.own 2010 2 (List.length o10)), (3, V.t (T.nils)), (2, V.t (T.nils)), (0, V.t (T.str x0))], [(2007, oc 27 [T.str r21, T.str r21b]), (2010, oc 27 (List.flatMap recsC o10)), (2011, oc 3 (List.map (T.int .i64) o11))]⟩) (by kernel_rfl) trivial ?_
          obtain ⟨c2, h⟩ := chk_some h
          obtain ⟨c3, h⟩ := chk_some h
          obtain ⟨c4, h⟩ := chk_some h
          refine WP.path tab_ok mixed [(29, An.v (T.int .i64 (v6 + r21c))), (32, An.fz), (33, An.id 2033), (36, An.fz), (37, An.id 2037)] [.keep [6, 5, 4, 3, 2, 0], .keepO [2033, 2037], .names [(2033, 2010), (2037, 2011)]] (ps := [(True), (T.int .i64 (IntKind.wrap .i64 (v6 + r21c)) = T.int .i64 (v6 + r21c)), (0 + 2 ≤ 2), ((2 = 2 ∧ 0 + 2 ≤ 2) ∧ True), (2 = 1 * 2), (True), (List.length (List.flatMap recsC o10) = (List.length o10) * 2), ((((List.length o10) + 1) * 32 ≤ 140737488355328 ∧ (List.length o10) + 1 ≤ maxLen)), ((1 = 1 ∧ 0 + 1 ≤ 1) ∧ True), (1 = 1 * 1), (True), (List.length (List.map (T.int .i64) o11) = (List.length o11) * 1), ((((List.length o11) + 1) * 8 ≤ 140737488355328 ∧ (List.length o11) + 1 ≤ maxLen))]) (e := .normal) (σ' := ⟨[2010, 2011], [(6, vi (v6 + r21c)), (5, vo 2011 ((List.length o11) + 1)), (4, V.own 2010 2 ((List.length o10) + 1)), (3, V.t (T.nils)), (2, V.t (T.nils)), (0, V.t (T.str x0))], [(2010, oc 27 ((List.flatMap recsC o10) ++ [T.str r21, T.str r21b])), (2011, oc 3 ((List.map (T.int .i64) o11) ++ [ti (v6 + r21c)]))]⟩) (by kernel_rfl) ⟨trivial, wrapI c2, by decide, ⟨⟨by first | rfl | (simp; done) | (simp []; done) | omega, by first | decide | (simp; done) | (simp []; done) | omega | (simp only [tlL]; omega) | (simp; omega)⟩, trivial⟩, by decide, trivial, by first | exact len_recs _ | (rw [len_recs]; first | done | omega | (simp; done) | (simp only [tlL]; omega) | (simp; omega)), c3, ⟨⟨by first | rfl | (simp; done) | (simp []; done) | omega, by first | decide | (simp; done) | (simp []; done) | omega | (simp only [tlL]; omega) | (simp; omega)⟩, trivial⟩, by decide, trivial, by first | rfl | omega | (simp only [tlL] <;> omega) | (simp <;> omega) | (simp [] <;> omega), c4, trivial⟩ ?_
          exact ⟨(n, o10 ++ [(r21, r21b)], o11 ++ [(v6 + r21c)], (v6 + r21c)), h, Nat.lt_succ_self _, (by first | rfl | (simp only [tlS, tl, vl, vo, oc, ov, tbl, vbl, ty, vy] <;> rfl) | (simp <;> omega) | (simp []; done) | (rw [List.take_of_length_le (by simp [])] <;> rfl) | (simp [List.take_of_length_le]; done))⟩
      · -- no
        refine WP.cond (b := decide (((List.length o10 : Nat) : Int) < (60 : Int))) rfl (fun hh => by rw [h1] at hh; cases hh) (fun _ => ?_)
        refine WP.path tab_ok mixed [] [.keep [5, 4, 3, 2], .keepO [2010, 2011], .names [(2010, 2010), (2011, 2011)]] (ps := []) (e := (.exit 0)) (σ' := ⟨[2010, 2011], [(5, vo 2011 (List.length o11)), (4, V.own 2010 2 (List.length o10)), (3, V.t (T.nils)), (2, V.t (T.nils))], [(2010, oc 27 (List.flatMap recsC o10)), (2011, oc 3 (List.map (T.int .i64) o11))]⟩) (by kernel_rfl) trivial ?_
        exact ⟨(o10, o11), h, rfl⟩
  · -- from there
    rintro ⟨o10, o11⟩ h0
    have h := (show J1 o10 o11 = some (y0, y1) from h0)
    rw [hJ1] at h
    simp only [Option.some.injEq, Prod.mk.injEq] at h
    obtain ⟨rfl, rfl⟩ := h
    exact WP.pathG tab_ok mixed [] [.keep [2, 3], .keepO [2010, 2011], .names [(2010, 9000), (2011, 9001)]] [9000, 9001] _ (r' := V.tup [V.own 9000 2 (List.length o10), vo 9001 (List.length o11)]) (ps := []) (r := V.tup [V.own 9000 2 (List.length o10), vo 9001 (List.length o11)]) (N := [9000, 9001]) (O := [(9000, oc 27 (List.flatMap recsC o10)), (9001, oc 3 (List.map (T.int .i64) o11))]) [] (by kernel_rfl) trivial ⟨rfl, rfl, trivial⟩ rfl rfl (fun _ h => h)
theorem F_impl_records_W_C (x0 : ByteArray) (y0 : List (ByteArray × ByteArray)) (y1 : List Int) (h : F_impl_records x0 = some (y0, y1)) : C Tryd.prog 87 [T.str x0] (T.tup [T.list (List.length y0) 2 (List.flatMap recsC y0), tl y1]) :=
  CG.toC (ps := [(List.length (List.flatMap recsC y0) = (List.length y0) * 2), (List.length (List.map (T.int .i64) y1) = (List.length y1) * 1)]) (F_impl_records_W  x0 y0 y1 h) (by rfl) ⟨by first | exact len_recs _ | (rw [len_recs]; first | done | omega | (simp; done) | (simp; omega)), by first | rfl | omega | (simp <;> omega) | (simp [hl] <;> omega), trivial⟩
theorem F_impl_Log_read_W (x0 : ByteArray) (x1 : ByteArray) (x2 : Int) (y0 : List (ByteArray × ByteArray)) (y1 : Bool) (h : F_impl_Log_read x0 x1 x2 = some (y0, y1)) : CG Tryd.prog 89 [V.t (T.agg [T.str x0, T.str x1, ti x2])] [] (V.tup [V.own 9000 2 (List.length y0), vb y1]) [(9000, oc 27 (List.flatMap recsC y0))] := by
  unfold F_impl_Log_read at h
  refine CG.intro (tab := tab) tab_ok (fn := Tryd.f89) Tryd.func89 (by kernel_rfl) rfl (Nat.le_of_ble_eq_true rfl) (by kernel_rfl) ?_
  refine WP.seq ?_
  refine WP.path tab_ok mixed [(1, An.fz)] [.keep [3, 2, 1], .keepO []] (ps := []) (e := .normal) (σ' := ⟨[], [(3, vb false), (2, V.t (T.nils)), (1, V.t (T.ptr [T.str x0, T.str x1, ti x2]))], []⟩) (by kernel_rfl) trivial ?_
  refine WP.seq ?_
  refine WP.seq ?_
  obtain ⟨c0, h⟩ := chk_some h
  obtain ⟨n16, c1, h⟩ := nam_some h
  refine WP.path tab_ok mixed [(16, An.v (ti n16))] [.keep [17, 3, 2, 1], .keepO []] (ps := [(True), (True), (True), (T.int .i64 (IntKind.wrap .i64 (((ByteArray.size x0 : Nat) : Int) + ((ByteArray.size x1 : Nat) : Int))) = ti n16), (True)]) (e := .normal) (σ' := ⟨[], [(17, vb (decide (n16 > (30000 : Int)))), (3, vb false), (2, V.t (T.nils)), (1, V.t (T.ptr [T.str x0, T.str x1, ti x2]))], []⟩) (by kernel_rfl) ⟨trivial, trivial, trivial, Eq.trans (wrapI c0) (congrArg (ti) c1), trivial, trivial⟩ ?_
  rcases ite_some h with ⟨h1, h⟩ | ⟨h1, h⟩
  · -- yes
    refine WP.cond (b := decide (n16 > (30000 : Int))) rfl (fun _ => ?_) (fun hh => by rw [h1] at hh; cases hh)
    simp only [Option.some.injEq, Prod.mk.injEq] at h
    obtain ⟨rfl, rfl⟩ := h
    exact WP.pathG tab_ok mixed [] [.keep [2, 3], .keepO [], .names []] [] _ (r' := V.tup [V.own 9000 2 (List.length ([] : List (ByteArray × ByteArray))), vb false]) (ps := []) (r := V.t (T.tup [T.nils, tb false])) (N := []) (O := []) [(9000, 27)] (by kernel_rfl) trivial ⟨(by first | rfl | (simp; done)), (WkT.refl _), trivial⟩ rfl rfl (fun _ h => h)
  · -- no
    refine WP.cond (b := decide (n16 > (30000 : Int))) rfl (fun hh => by rw [h1] at hh; cases hh) (fun _ => ?_)
    refine WP.path tab_ok mixed [] [.keep [3, 2, 1], .keepO []] (ps := []) (e := .normal) (σ' := ⟨[], [(3, vb false), (2, V.t (T.nils)), (1, V.t (T.ptr [T.str x0, T.str x1, ti x2]))], []⟩) (by kernel_rfl) trivial ?_
    refine WP.seq ?_
    obtain ⟨c2, h⟩ := chk_some h
    refine WP.path tab_ok mixed [] [.keep [4, 3, 2, 1], .keepO []] (ps := [(True), (True), (x0.size + x1.size ≤ 9223372036854775807)]) (e := .normal) (σ' := ⟨[], [(4, V.t (T.str (x0 ++ x1))), (3, vb false), (2, V.t (T.nils)), (1, V.t (T.ptr [T.str x0, T.str x1, ti x2]))], []⟩) (by kernel_rfl) ⟨trivial, trivial, c2, trivial⟩ ?_
    refine WP.seq ?_
    obtain ⟨r25, r25b, c3, h⟩ := bnd2_some h
    refine WP.path tab_ok mixed [(25, An.callG [(9000, 10250), (9001, 10251)] [V.t (T.str (x0 ++ x1))] [] (V.tup [V.own 9000 2 (List.length r25), vo 9001 (List.length r25b)]) [(9000, oc 27 (List.flatMap recsC r25)), (9001, oc 3 (List.map (T.int .i64) r25b))])] [.keep [6, 5, 4, 3, 2, 1], .keepO [10250, 10251]] (ps := [(CG Tryd.prog 87 [V.t (T.str (x0 ++ x1))] [] (V.tup [V.own 9000 2 (List.length r25), vo 9001 (List.length r25b)]) [(9000, oc 27 (List.flatMap recsC r25)), (9001, oc 3 (List.map (T.int .i64) r25b))]), (WkT (T.str (x0 ++ x1)) (T.str (x0 ++ x1)))]) (e := .normal) (σ' := ⟨[10250, 10251], [(6, vo 10251 (List.length r25b)), (5, V.own 10250 2 (List.length r25)), (4, V.t (T.str (x0 ++ x1))), (3, vb false), (2, V.t (T.nils)), (1, V.t (T.ptr [T.str x0, T.str x1, ti x2]))], [(10250, oc 27 (List.flatMap recsC r25)), (10251, oc 3 (List.map (T.int .i64) r25b))]⟩) (by kernel_rfl) ⟨(F_impl_records_W (x0 ++ x1) r25 r25b c3), WkT.refl _, trivial⟩ ?_
    refine WP.seq ?_
    refine WP.path tab_ok mixed [] [.keep [7, 6, 5, 4, 3, 2, 1], .keepO [10250, 10251]] (ps := []) (e := .normal) (σ' := ⟨[10250, 10251], [(7, vb false), (6, vo 10251 (List.length r25b)), (5, V.own 10250 2 (List.length r25)), (4, V.t (T.str (x0 ++ x1))), (3, vb false), (2, V.t (T.nils)), (1, V.t (T.ptr [T.str x0, T.str x1, ti x2]))], [(10250, oc 27 (List.flatMap recsC r25)), (10251, oc 3 (List.map (T.int .i64) r25b))]⟩) (by kernel_rfl) trivial ?_
    obtain ⟨J1, hJ1, h⟩ := jn_some h
    refine WP.joinA (fun (zz : Bool) => ⟨[10250, 10251], [(7, vb zz), (6, vo 10251 (List.length r25b)), (5, V.own 10250 2 (List.length r25)), (4, V.t (T.str (x0 ++ x1))), (3, vb false), (2, V.t (T.nils)), (1, V.t (T.ptr [T.str x0, T.str x1, ti x2]))], [(10250, oc 27 (List.flatMap recsC r25)), (10251, oc 3 (List.map (T.int .i64) r25b))]⟩) (fun zz => J1 zz = some (y0, y1)) ?_ ?_
    · -- to where they meet
      refine WP.seq ?_
      refine WP.path tab_ok mixed [] [.keep [30, 29, 28, 7, 6, 5, 4, 3, 2, 1], .keepO [10250, 10251]] (ps := []) (e := .normal) (σ' := ⟨[10250, 10251], [(30, vi 0), (29, vi ((List.length r25b : Nat) : Int)), (28, vo 10251 (List.length r25b)), (7, vb false), (6, vo 10251 (List.length r25b)), (5, V.own 10250 2 (List.length r25)), (4, V.t (T.str (x0 ++ x1))), (3, vb false), (2, V.t (T.nils)), (1, V.t (T.ptr [T.str x0, T.str x1, ti x2]))], [(10250, oc 27 (List.flatMap recsC r25)), (10251, oc 3 (List.map (T.int .i64) r25b))]⟩) (by kernel_rfl) trivial ?_
      refine WP.block ?_
      refine WP.wk [.keep [30, 29, 28, 7, 6, 5, 4, 3, 2, 1], .keepO [10250, 10251], .names [(10250, 10250), (10251, 10251)]] (σ' := ⟨[10250, 10251], [(30, vi 0), (29, vi ((List.length r25b : Nat) : Int)), (28, vo 10251 (List.length r25b)), (7, vb false), (6, vo 10251 (List.length r25b)), (5, V.own 10250 2 (List.length r25)), (4, V.t (T.str (x0 ++ x1))), (3, vb false), (2, V.t (T.nils)), (1, V.t (T.ptr [T.str x0, T.str x1, ti x2]))], [(10250, oc 27 (List.flatMap recsC r25)), (10251, oc 3 (List.map (T.int .i64) r25b))]⟩) (ps := []) (by kernel_rfl) trivial ?_
      refine WP.st (σ' := ⟨[10250, 10251], [(30, vi (0 : Int)), (29, vi ((List.length r25b : Nat) : Int)), (28, vo 10251 (List.length r25b)), (7, vb false), (6, vo 10251 (List.length r25b)), (5, V.own 10250 2 (List.length r25)), (4, V.t (T.str (x0 ++ x1))), (3, vb false), (2, V.t (T.nils)), (1, V.t (T.ptr [T.str x0, T.str x1, ti x2]))], [(10250, oc 27 (List.flatMap recsC r25)), (10251, oc 3 (List.map (T.int .i64) r25b))]⟩) (by first | rfl | (simp only [tlS, tl, vl, vo, oc, ov, tbl, vbl, ty, vy] <;> rfl) | (simp <;> omega) | (simp []; done) | (rw [List.take_of_length_le (by simp [])] <;> rfl) | (simp [List.take_of_length_le]; done)) ?_
      refine WP.loop (α := Nat × Int × Bool) (fun zz => ⟨[10250, 10251], [(30, vi zz.2.1), (29, vi ((List.length r25b : Nat) : Int)), (28, vo 10251 (List.length r25b)), (7, vb zz.2.2), (6, vo 10251 (List.length r25b)), (5, V.own 10250 2 (List.length r25)), (4, V.t (T.str (x0 ++ x1))), (3, vb false), (2, V.t (T.nils)), (1, V.t (T.ptr [T.str x0, T.str x1, ti x2]))], [(10250, oc 27 (List.flatMap recsC r25)), (10251, oc 3 (List.map (T.int .i64) r25b))]⟩) (fun zz => F_impl_Log_read_L1 x0 r25b J1 zz.1 zz.2.1 zz.2.2 = some (y0, y1)) (fun zz => zz.1) (fuel, (0 : Int), false) h ?_
      rintro ⟨n, v30, v7⟩ h0
      have h := (show F_impl_Log_read_L1 x0 r25b J1 n v30 v7 = some (y0, y1) from h0)
      rcases n with _ | n
      · rw [F_impl_Log_read_L1] at h; cases h
      · rw [F_impl_Log_read_L1] at h
        refine WP.seq ?_
        refine WP.path tab_ok mixed [] [.keep [31, 30, 29, 28, 7, 6, 5, 4, 3, 2, 1], .keepO [10250, 10251]] (ps := [(True)]) (e := .normal) (σ' := ⟨[10250, 10251], [(31, vb (decide (v30 < ((List.length r25b : Nat) : Int)))), (30, vi v30), (29, vi ((List.length r25b : Nat) : Int)), (28, vo 10251 (List.length r25b)), (7, vb v7), (6, vo 10251 (List.length r25b)), (5, V.own 10250 2 (List.length r25)), (4, V.t (T.str (x0 ++ x1))), (3, vb false), (2, V.t (T.nils)), (1, V.t (T.ptr [T.str x0, T.str x1, ti x2]))], [(10250, oc 27 (List.flatMap recsC r25)), (10251, oc 3 (List.map (T.int .i64) r25b))]⟩) (by kernel_rfl) ⟨trivial, trivial⟩ ?_
        refine WP.seq ?_
        rcases ite_some h with ⟨h2, h⟩ | ⟨h2, h⟩
        · -- yes
          refine WP.cond (b := decide (v30 < ((List.length r25b : Nat) : Int))) rfl (fun _ => ?_) (fun hh => by rw [h2] at hh; cases hh)
          refine WP.path tab_ok mixed [] [.keep [30, 29, 28, 7, 6, 5, 4, 3, 2, 1], .keepO [10250, 10251]] (ps := []) (e := .normal) (σ' := ⟨[10250, 10251], [(30, vi v30), (29, vi ((List.length r25b : Nat) : Int)), (28, vo 10251 (List.length r25b)), (7, vb v7), (6, vo 10251 (List.length r25b)), (5, V.own 10250 2 (List.length r25)), (4, V.t (T.str (x0 ++ x1))), (3, vb false), (2, V.t (T.nils)), (1, V.t (T.ptr [T.str x0, T.str x1, ti x2]))], [(10250, oc 27 (List.flatMap recsC r25)), (10251, oc 3 (List.map (T.int .i64) r25b))]⟩) (by kernel_rfl) trivial ?_
          refine WP.seq ?_
          refine WP.block ?_
          obtain ⟨c4, h⟩ := chk_some h
          rcases ite_some h with ⟨h3, h⟩ | ⟨h3, h⟩
          · -- yes
            refine WP.path tab_ok mixed [(33, An.v (ti (List.getD r25b (Int.toNat v30) 0))), (35, An.b true)] [.keep [7, 30, 29, 28, 6, 5, 4, 3, 2, 1], .keepO [10250, 10251]] (ps := [((0 ≤ v30 ∧ v30 < ((List.length r25b : Nat) : Int))), ((List.map (T.int .i64) r25b : List T)[(Int.toNat v30) * 1]? = some (ti (List.getD r25b (Int.toNat v30) 0))), (ti (List.getD r25b (Int.toNat v30) 0) = ti (List.getD r25b (Int.toNat v30) 0)), ((v7) = true)]) (e := .normal) (σ' := ⟨[10250, 10251], [(7, vb true), (30, vi v30), (29, vi ((List.length r25b : Nat) : Int)), (28, vo 10251 (List.length r25b)), (6, vo 10251 (List.length r25b)), (5, V.own 10250 2 (List.length r25)), (4, V.t (T.str (x0 ++ x1))), (3, vb false), (2, V.t (T.nils)), (1, V.t (T.ptr [T.str x0, T.str x1, ti x2]))], [(10250, oc 27 (List.flatMap recsC r25)), (10251, oc 3 (List.map (T.int .i64) r25b))]⟩) (by kernel_rfl) ⟨c4, atM (by simp) (by first | omega | (simp only [tlL]; omega) | (simp; omega)), rfl, h3, trivial⟩ ?_
            obtain ⟨c5, h⟩ := chk_some h
            refine WP.path tab_ok mixed [(42, An.v (T.int .i64 (v30 + (1 : Int))))] [.keep [30, 29, 28, 7, 6, 5, 4, 3, 2, 1], .keepO [10250, 10251], .names [(10250, 10250), (10251, 10251)]] (ps := [(True), (T.int .i64 (IntKind.wrap .i64 (v30 + (1 : Int))) = T.int .i64 (v30 + (1 : Int)))]) (e := .normal) (σ' := ⟨[10250, 10251], [(30, vi (v30 + (1 : Int))), (29, vi ((List.length r25b : Nat) : Int)), (28, vo 10251 (List.length r25b)), (7, vb true), (6, vo 10251 (List.length r25b)), (5, V.own 10250 2 (List.length r25)), (4, V.t (T.str (x0 ++ x1))), (3, vb false), (2, V.t (T.nils)), (1, V.t (T.ptr [T.str x0, T.str x1, ti x2]))], [(10250, oc 27 (List.flatMap recsC r25)), (10251, oc 3 (List.map (T.int .i64) r25b))]⟩) (by kernel_rfl) ⟨trivial, wrapI c5, trivial⟩ ?_
            exact ⟨(n, (v30 + (1 : Int)), true), h, Nat.lt_succ_self _, rfl⟩
          · -- no
            refine WP.path tab_ok mixed [(33, An.v (ti (List.getD r25b (Int.toNat v30) 0))), (35, An.b false)] [.keep [7, 30, 29, 28, 6, 5, 4, 3, 2, 1], .keepO [10250, 10251]] (ps := [((0 ≤ v30 ∧ v30 < ((List.length r25b : Nat) : Int))), ((List.map (T.int .i64) r25b : List T)[(Int.toNat v30) * 1]? = some (ti (List.getD r25b (Int.toNat v30) 0))), (ti (List.getD r25b (Int.toNat v30) 0) = ti (List.getD r25b (Int.toNat v30) 0)), ((v7) = false), (True), (True)]) (e := .normal) (σ' := ⟨[10250, 10251], [(7, vb ((List.getD r25b (Int.toNat v30) 0) == ((ByteArray.size x0 : Nat) : Int))), (30, vi v30), (29, vi ((List.length r25b : Nat) : Int)), (28, vo 10251 (List.length r25b)), (6, vo 10251 (List.length r25b)), (5, V.own 10250 2 (List.length r25)), (4, V.t (T.str (x0 ++ x1))), (3, vb false), (2, V.t (T.nils)), (1, V.t (T.ptr [T.str x0, T.str x1, ti x2]))], [(10250, oc 27 (List.flatMap recsC r25)), (10251, oc 3 (List.map (T.int .i64) r25b))]⟩) (by kernel_rfl) ⟨c4, atM (by simp) (by first | omega | (simp only [tlL]; omega) | (simp; omega)), rfl, h3, trivial, trivial, trivial⟩ ?_
            obtain ⟨c5, h⟩ := chk_some h
            refine WP.path tab_ok mixed [(42, An.v (T.int .i64 (v30 + (1 : Int))))] [.keep [30, 29, 28, 7, 6, 5, 4, 3, 2, 1], .keepO [10250, 10251], .names [(10250, 10250), (10251, 10251)]] (ps := [(True), (T.int .i64 (IntKind.wrap .i64 (v30 + (1 : Int))) = T.int .i64 (v30 + (1 : Int)))]) (e := .normal) (σ' := ⟨[10250, 10251], [(30, vi (v30 + (1 : Int))), (29, vi ((List.length r25b : Nat) : Int)), (28, vo 10251 (List.length r25b)), (7, vb ((List.getD r25b (Int.toNat v30) 0) == ((ByteArray.size x0 : Nat) : Int))), (6, vo 10251 (List.length r25b)), (5, V.own 10250 2 (List.length r25)), (4, V.t (T.str (x0 ++ x1))), (3, vb false), (2, V.t (T.nils)), (1, V.t (T.ptr [T.str x0, T.str x1, ti x2]))], [(10250, oc 27 (List.flatMap recsC r25)), (10251, oc 3 (List.map (T.int .i64) r25b))]⟩) (by kernel_rfl) ⟨trivial, wrapI c5, trivial⟩ ?_
            exact ⟨(n, (v30 + (1 : Int)), (List.getD r25b (Int.toNat v30) 0) == ((ByteArray.size x0 : Nat) : Int)), h, Nat.lt_succ_self _, rfl⟩
        · -- no
          refine WP.cond (b := decide (v30 < ((List.length r25b : Nat) : Int))) rfl (fun hh => by rw [h2] at hh; cases hh) (fun _ => ?_)
          refine WP.path tab_ok mixed [] [.keep [7, 6, 5, 4, 3, 2, 1], .keepO [10250, 10251], .names [(10250, 10250), (10251, 10251)]] (ps := []) (e := (.exit 0)) (σ' := ⟨[10250, 10251], [(7, vb v7), (6, vo 10251 (List.length r25b)), (5, V.own 10250 2 (List.length r25)), (4, V.t (T.str (x0 ++ x1))), (3, vb false), (2, V.t (T.nils)), (1, V.t (T.ptr [T.str x0, T.str x1, ti x2]))], [(10250, oc 27 (List.flatMap recsC r25)), (10251, oc 3 (List.map (T.int .i64) r25b))]⟩) (by kernel_rfl) trivial ?_
          exact ⟨(v7), h, rfl⟩
    · -- from there
      intro v7 h0
      have h := (show J1 v7 = some (y0, y1) from h0)
      rw [hJ1] at h
      rcases ite_some h with ⟨h4, h⟩ | ⟨h4, h⟩
      · -- yes
        obtain ⟨c4, h⟩ := chk_some h
        obtain ⟨n49, c5, h⟩ := nam_some h
        obtain ⟨c6, h⟩ := chk_some h
        rcases ite_some h with ⟨h5, h⟩ | ⟨h5, h⟩
        · -- yes
          simp only [Option.some.injEq, Prod.mk.injEq] at h
          obtain ⟨rfl, rfl⟩ := h
          exact WP.pathG tab_ok mixed [(45, An.b true), (49, An.v (ti n49)), (51, An.v (ti (List.getD r25b (Int.toNat n49) 0))), (54, An.b true)] [.keep [2, 3], .keepO [10250], .names [(10250, 9000)]] [9000] _ (r' := V.tup [V.own 9000 2 (List.length r25), vb (x2 == ((List.length r25 : Nat) : Int))]) (ps := [((v7) = true), (True), (T.int .i64 (IntKind.wrap .i64 (((List.length r25b : Nat) : Int) - (1 : Int))) = ti n49), ((0 ≤ n49 ∧ n49 < ((List.length r25b : Nat) : Int))), ((List.map (T.int .i64) r25b : List T)[(Int.toNat n49) * 1]? = some (ti (List.getD r25b (Int.toNat n49) 0))), (ti (List.getD r25b (Int.toNat n49) 0) = ti (List.getD r25b (Int.toNat n49) 0)), (True), (((List.getD r25b (Int.toNat n49) 0) == ((ByteArray.size (x0 ++ x1) : Nat) : Int)) = true), (True), (True)]) (r := V.tup [V.own 9000 2 (List.length r25), vb (x2 == ((List.length r25 : Nat) : Int))]) (N := [9000]) (O := [(9000, oc 27 (List.flatMap recsC r25))]) [] (by kernel_rfl) ⟨h4, trivial, Eq.trans (wrapI c4) (congrArg (ti) c5), c6, atM (by simp) (by first | omega | (simp only [tlL]; omega) | (simp; omega)), rfl, trivial, h5, trivial, trivial, trivial⟩ ⟨rfl, (WkT.refl _), trivial⟩ rfl rfl (fun _ h => h)
        · -- no
          simp only [Option.some.injEq, Prod.mk.injEq] at h
          obtain ⟨rfl, rfl⟩ := h
          exact WP.pathG tab_ok mixed [(45, An.b true), (49, An.v (ti n49)), (51, An.v (ti (List.getD r25b (Int.toNat n49) 0))), (54, An.b false)] [.keep [2, 3], .keepO [10250], .names [(10250, 9000)]] [9000] _ (r' := V.tup [V.own 9000 2 (List.length r25), vb false]) (ps := [((v7) = true), (True), (T.int .i64 (IntKind.wrap .i64 (((List.length r25b : Nat) : Int) - (1 : Int))) = ti n49), ((0 ≤ n49 ∧ n49 < ((List.length r25b : Nat) : Int))), ((List.map (T.int .i64) r25b : List T)[(Int.toNat n49) * 1]? = some (ti (List.getD r25b (Int.toNat n49) 0))), (ti (List.getD r25b (Int.toNat n49) 0) = ti (List.getD r25b (Int.toNat n49) 0)), (True), (((List.getD r25b (Int.toNat n49) 0) == ((ByteArray.size (x0 ++ x1) : Nat) : Int)) = false)]) (r := V.tup [V.own 9000 2 (List.length r25), vb false]) (N := [9000]) (O := [(9000, oc 27 (List.flatMap recsC r25))]) [] (by kernel_rfl) ⟨h4, trivial, Eq.trans (wrapI c4) (congrArg (ti) c5), c6, atM (by simp) (by first | omega | (simp only [tlL]; omega) | (simp; omega)), rfl, trivial, h5, trivial⟩ ⟨rfl, (WkT.refl _), trivial⟩ rfl rfl (fun _ h => h)
      · -- no
        simp only [Option.some.injEq, Prod.mk.injEq] at h
        obtain ⟨rfl, rfl⟩ := h
        exact WP.pathG tab_ok mixed [(45, An.b false)] [.keep [2, 3], .keepO [10250], .names [(10250, 9000)]] [9000] _ (r' := V.tup [V.own 9000 2 (List.length r25), vb false]) (ps := [((v7) = false)]) (r := V.tup [V.own 9000 2 (List.length r25), vb false]) (N := [9000]) (O := [(9000, oc 27 (List.flatMap recsC r25))]) [] (by kernel_rfl) ⟨h4, trivial⟩ ⟨rfl, (WkT.refl _), trivial⟩ rfl rfl (fun _ h => h)
theorem F_impl_Log_read_W_C (x0 : ByteArray) (x1 : ByteArray) (x2 : Int) (y0 : List (ByteArray × ByteArray)) (y1 : Bool) (h : F_impl_Log_read x0 x1 x2 = some (y0, y1)) : C Tryd.prog 89 [T.agg [T.str x0, T.str x1, ti x2]] (T.tup [T.list (List.length y0) 2 (List.flatMap recsC y0), tb y1]) :=
  CG.toC (ps := [(List.length (List.flatMap recsC y0) = (List.length y0) * 2)]) (F_impl_Log_read_W  x0 x1 x2 y0 y1 h) (by rfl) ⟨by first | exact len_recs _ | (rw [len_recs]; first | done | omega | (simp; done) | (simp; omega)), trivial⟩
theorem F_impl_IsValidLog_W (x0 : ByteArray) (x1 : ByteArray) (x2 : Int) (y0 : Bool) (h : F_impl_IsValidLog x0 x1 x2 = some y0) : C Tryd.prog 24 [T.agg [T.str x0, T.str x1, ti x2]] (tb y0) := by
  unfold F_impl_IsValidLog at h
  refine C.intro (tab := tab) tab_ok (fn := Tryd.f24) Tryd.func24 (by kernel_rfl) rfl (Nat.le_of_ble_eq_true rfl) ?_
  obtain ⟨r7, r7b, c0, h⟩ := bnd2_some h
  have h := Option.some.inj h
  subst h
  exact WP.pathW tab_ok mixed [(1, An.fz), (7, An.callG [(9000, 10070)] [V.t (T.agg [T.str x0, T.str x1, ti x2])] [] (V.tup [V.own 9000 2 (List.length r7), vb r7b]) [(9000, oc 27 (List.flatMap recsC r7))])] _ (ps := [(3 ≤ 3), (CG Tryd.prog 89 [V.t (T.agg [T.str x0, T.str x1, ti x2])] [] (V.tup [V.own 9000 2 (List.length r7), vb r7b]) [(9000, oc 27 (List.flatMap recsC r7))]), (WkT (T.agg [T.str x0, T.str x1, ti x2]) (T.agg [T.str x0, T.str x1, ti x2]))]) (r := tb r7b) (by kernel_rfl) ⟨by decide, (F_impl_Log_read_W x0 x1 x2 r7 r7b c0), WkT.refl _, trivial⟩ (WkT.eq (y := tb r7b) (WkT.refl _) rfl) (fun _ h => h)
theorem F_impl_IsValidConsole_W (x0 : List Int) (x1 : Int) (x2 : Int) (x3 : Int) (x4 : ByteArray) (x5 : ByteArray) (x6 : Int) (y0 : Bool) (h : F_impl_IsValidConsole x0 x1 x2 x3 x4 x5 x6 = some y0) : C Tryd.prog 39 [T.agg ((List.map (T.int .i64) x0) ++ ([ti x1, ti x2, ti x3, T.str x4, T.str x5, ti x6]))] (tb y0) := by
  unfold F_impl_IsValidConsole at h
  refine C.intro (tab := tab) tab_ok (fn := Tryd.f39) Tryd.func39 (by kernel_rfl) rfl (Nat.le_of_ble_eq_true rfl) ?_
  obtain ⟨hl_x0, h⟩ := chk_some h
  obtain ⟨c0, h⟩ := chk_some h
  rcases ite_some h with ⟨h1, h⟩ | ⟨h1, h⟩
  · -- yes
    obtain ⟨r9, c1, h⟩ := bnd1_some h
    have h := Option.some.inj h
    subst h
    exact WP.pathW tab_ok mixed [(1, An.fz), (4, An.v (T.agg ((List.map (T.int .i64) x0) ++ ([ti x1, ti x2, ti x3])))), (5, An.call (tb true)), (8, An.v (T.agg [T.str x4, T.str x5, ti x6])), (9, An.call (tb r9))] _ (ps := [(15 ≤ List.length ((List.map (T.int .i64) x0) ++ ([ti x1, ti x2, ti x3, T.str x4, T.str x5, ti x6]))), (T.agg (List.take 15 ((List.map (T.int .i64) x0) ++ ([ti x1, ti x2, ti x3, T.str x4, T.str x5, ti x6]))) = T.agg ((List.map (T.int .i64) x0) ++ ([ti x1, ti x2, ti x3]))), (C Tryd.prog 94 [T.agg ((List.map (T.int .i64) x0) ++ ([ti x1, ti x2, ti x3]))] (tb true)), (3 ≤ List.length (List.drop 15 ((List.map (T.int .i64) x0) ++ ([ti x1, ti x2, ti x3, T.str x4, T.str x5, ti x6])))), (T.agg (List.take 3 (List.drop 15 ((List.map (T.int .i64) x0) ++ ([ti x1, ti x2, ti x3, T.str x4, T.str x5, ti x6])))) = T.agg [T.str x4, T.str x5, ti x6]), (C Tryd.prog 24 [T.agg [T.str x4, T.str x5, ti x6]] (tb r9))]) (r := tb r9) (by kernel_rfl) ⟨by first | decide | omega | (simp only [tlL, hl_x0] <;> omega) | (simp <;> omega) | (simp [hl_x0] <;> omega), congrArg T.agg (take_pre (k := 12) (j := 3) (by simp [hl_x0])), (C.toB h1 (isRoom_C x0 x1 x2 x3 c0)), fit_pre (k := 12) (j := 3) (by simp [hl_x0]) (Nat.le_of_ble_eq_true rfl), congrArg (fun l => T.agg (List.take 3 l)) (drop_pre (k := 12) (j := 3) (by simp [hl_x0])), (F_impl_IsValidLog_W x4 x5 x6 r9 c1), trivial⟩ (WkT.eq (y := tb r9) (WkT.refl _) rfl) (fun _ h => h)
  · -- no
    have h := Option.some.inj h
    subst h
    exact WP.pathW tab_ok mixed [(1, An.fz), (4, An.v (T.agg ((List.map (T.int .i64) x0) ++ ([ti x1, ti x2, ti x3])))), (5, An.call (tb false))] _ (ps := [(15 ≤ List.length ((List.map (T.int .i64) x0) ++ ([ti x1, ti x2, ti x3, T.str x4, T.str x5, ti x6]))), (T.agg (List.take 15 ((List.map (T.int .i64) x0) ++ ([ti x1, ti x2, ti x3, T.str x4, T.str x5, ti x6]))) = T.agg ((List.map (T.int .i64) x0) ++ ([ti x1, ti x2, ti x3]))), (C Tryd.prog 94 [T.agg ((List.map (T.int .i64) x0) ++ ([ti x1, ti x2, ti x3]))] (tb false))]) (r := tb false) (by kernel_rfl) ⟨by first | decide | omega | (simp only [tlL, hl_x0] <;> omega) | (simp <;> omega) | (simp [hl_x0] <;> omega), congrArg T.agg (take_pre (k := 12) (j := 3) (by simp [hl_x0])), (C.toB h1 (isRoom_C x0 x1 x2 x3 c0)), trivial⟩ (WkT.eq (y := tb false) (WkT.refl _) rfl) (fun _ h => h)
theorem F_laws_FnExactIsValidConsole_W (x0 : List Int) (x1 : Int) (x2 : Int) (x3 : Int) (x4 : ByteArray) (x5 : ByteArray) (x6 : Int) (y0 : Bool) (h : F_laws_FnExactIsValidConsole x0 x1 x2 x3 x4 x5 x6 = some y0) : C Tryd.prog 10 [T.agg ((List.map (T.int .i64) x0) ++ ([ti x1, ti x2, ti x3, T.str x4, T.str x5, ti x6]))] (tb y0) := by
  unfold F_laws_FnExactIsValidConsole at h
  refine C.intro (tab := tab) tab_ok (fn := Tryd.f10) Tryd.func10 (by kernel_rfl) rfl (Nat.le_of_ble_eq_true rfl) ?_
  obtain ⟨hl_x0, h⟩ := chk_some h
  refine WP.seq ?_
  refine WP.path tab_ok mixed [(1, An.fz)] [.keep [2, 1], .keepO []] (ps := []) (e := .normal) (σ' := ⟨[], [(2, vb false), (1, V.t (T.ptr ((List.map (T.int .i64) x0) ++ ([ti x1, ti x2, ti x3, T.str x4, T.str x5, ti x6]))))], []⟩) (by kernel_rfl) trivial ?_
  refine WP.seq ?_
  refine WP.path tab_ok mixed [] [.keep [3, 2, 1], .keepO []] (ps := []) (e := .normal) (σ' := ⟨[], [(3, vi 1048576), (2, vb false), (1, V.t (T.ptr ((List.map (T.int .i64) x0) ++ ([ti x1, ti x2, ti x3, T.str x4, T.str x5, ti x6]))))], []⟩) (by kernel_rfl) trivial ?_
  refine WP.seq ?_
  obtain ⟨r8, c0, h⟩ := bnd1_some h
  refine WP.path tab_ok mixed [(6, An.v (T.agg ((List.map (T.int .i64) x0) ++ ([ti x1, ti x2, ti x3, T.str x4, T.str x5, ti x6])))), (8, An.call (ti r8))] [.keep [3, 2, 1], .keepO []] (ps := [(18 ≤ List.length ((List.map (T.int .i64) x0) ++ ([ti x1, ti x2, ti x3, T.str x4, T.str x5, ti x6]))), (T.agg (List.take 18 ((List.map (T.int .i64) x0) ++ ([ti x1, ti x2, ti x3, T.str x4, T.str x5, ti x6]))) = T.agg ((List.map (T.int .i64) x0) ++ ([ti x1, ti x2, ti x3, T.str x4, T.str x5, ti x6]))), (C Tryd.prog 36 [T.agg ((List.map (T.int .i64) x0) ++ ([ti x1, ti x2, ti x3, T.str x4, T.str x5, ti x6])), ti 1048576] (ti r8))]) (e := .normal) (σ' := ⟨[], [(3, vi r8), (2, vb false), (1, V.t (T.ptr ((List.map (T.int .i64) x0) ++ ([ti x1, ti x2, ti x3, T.str x4, T.str x5, ti x6]))))], []⟩) (by kernel_rfl) ⟨by first | decide | omega | (simp only [tlL, hl_x0] <;> omega) | (simp <;> omega) | (simp [hl_x0] <;> omega), by first | (simp [hl_x0]; done) | (rw [List.take_of_length_le]; simp only [tlL, hl_x0] <;> omega) | (rw [List.take_of_length_le]; simp [hl_x0]; done) | (rw [List.take_of_length_le]; simp; omega) | (simp only [tlL]; omega) | (simp; omega), (F_laws_szConsole_W x0 x1 x2 x3 x4 x5 x6 (1048576 : Int) r8 c0), trivial⟩ ?_
  refine WP.seq ?_
  refine WP.seq ?_
  refine WP.path tab_ok mixed [] [.keep [10, 2, 1], .keepO []] (ps := [(True)]) (e := .normal) (σ' := ⟨[], [(10, vb (decide (r8 < (0 : Int)))), (2, vb false), (1, V.t (T.ptr ((List.map (T.int .i64) x0) ++ ([ti x1, ti x2, ti x3, T.str x4, T.str x5, ti x6]))))], []⟩) (by kernel_rfl) ⟨trivial, trivial⟩ ?_
  rcases ite_some h with ⟨h1, h⟩ | ⟨h1, h⟩
  · -- yes
    refine WP.cond (b := decide (r8 < (0 : Int))) rfl (fun _ => ?_) (fun hh => by rw [h1] at hh; cases hh)
    have h := Option.some.inj h
    subst h
    exact WP.pathW tab_ok mixed [] _ (ps := []) (r := tb true) (by kernel_rfl) trivial (WkT.eq (y := tb true) (WkT.refl _) rfl) (fun _ h => h)
  · -- no
    refine WP.cond (b := decide (r8 < (0 : Int))) rfl (fun hh => by rw [h1] at hh; cases hh) (fun _ => ?_)
    refine WP.path tab_ok mixed [] [.keep [2, 1], .keepO []] (ps := []) (e := .normal) (σ' := ⟨[], [(2, vb false), (1, V.t (T.ptr ((List.map (T.int .i64) x0) ++ ([ti x1, ti x2, ti x3, T.str x4, T.str x5, ti x6]))))], []⟩) (by kernel_rfl) trivial ?_
    refine WP.seq ?_
    obtain ⟨r12, r12b, r12c, r12d, r12e, r12g, r12i, c1, h⟩ := bnd7_some h
    obtain ⟨c2, h⟩ := chk_some h
    obtain ⟨r13, c3, h⟩ := bnd1_some h
    refine WP.path tab_ok mixed [(11, An.v (T.agg ((List.map (T.int .i64) x0) ++ ([ti x1, ti x2, ti x3, T.str x4, T.str x5, ti x6])))), (12, An.callG [] [V.t (T.agg ((List.map (T.int .i64) x0) ++ ([ti x1, ti x2, ti x3, T.str x4, T.str x5, ti x6])))] [] (V.t (T.agg ((List.map (T.int .i64) r12) ++ ([ti r12b, ti r12c, ti r12d, T.str r12e, T.str r12g, ti r12i])))) []), (13, An.call (tb r13))] [.keep [4, 2, 1], .keepO []] (ps := [(18 ≤ List.length ((List.map (T.int .i64) x0) ++ ([ti x1, ti x2, ti x3, T.str x4, T.str x5, ti x6]))), (T.agg (List.take 18 ((List.map (T.int .i64) x0) ++ ([ti x1, ti x2, ti x3, T.str x4, T.str x5, ti x6]))) = T.agg ((List.map (T.int .i64) x0) ++ ([ti x1, ti x2, ti x3, T.str x4, T.str x5, ti x6]))), (CG Tryd.prog 38 [V.t (T.agg ((List.map (T.int .i64) x0) ++ ([ti x1, ti x2, ti x3, T.str x4, T.str x5, ti x6])))] [] (V.t (T.agg ((List.map (T.int .i64) r12) ++ ([ti r12b, ti r12c, ti r12d, T.str r12e, T.str r12g, ti r12i])))) []), (WkT (T.agg ((List.map (T.int .i64) x0) ++ ([ti x1, ti x2, ti x3, T.str x4, T.str x5, ti x6]))) (T.agg ((List.map (T.int .i64) x0) ++ ([ti x1, ti x2, ti x3, T.str x4, T.str x5, ti x6])))), (C Tryd.prog 37 [T.agg ((List.map (T.int .i64) r12) ++ ([ti r12b, ti r12c, ti r12d, T.str r12e, T.str r12g, ti r12i]))] (tb r13))]) (e := .normal) (σ' := ⟨[], [(4, vb r13), (2, vb false), (1, V.t (T.ptr ((List.map (T.int .i64) x0) ++ ([ti x1, ti x2, ti x3, T.str x4, T.str x5, ti x6]))))], []⟩) (by kernel_rfl) ⟨by first | decide | omega | (simp only [tlL, hl_x0, c2] <;> omega) | (simp <;> omega) | (simp [hl_x0, c2] <;> omega), by first | (simp [hl_x0, c2]; done) | (rw [List.take_of_length_le]; simp only [tlL, hl_x0, c2] <;> omega) | (rw [List.take_of_length_le]; simp [hl_x0, c2]; done) | (rw [List.take_of_length_le]; simp; omega) | (simp only [tlL]; omega) | (simp; omega), (F_laws_toConsole_W x0 x1 x2 x3 x4 x5 x6 r12 r12b r12c r12d r12e r12g r12i c1), WkT.refl _, (F_spec_IsValidConsole_W r12 r12b r12c r12d r12e r12g r12i r13 c3), trivial⟩ ?_
    refine WP.seq ?_
    obtain ⟨r15, r15b, r15c, r15d, r15e, r15g, r15i, c4, h⟩ := bnd7_some h
    obtain ⟨c5, h⟩ := chk_some h
    obtain ⟨r16, c6, h⟩ := bnd1_some h
    refine WP.path tab_ok mixed [(14, An.v (T.agg ((List.map (T.int .i64) x0) ++ ([ti x1, ti x2, ti x3, T.str x4, T.str x5, ti x6])))), (15, An.callG [] [V.t (T.agg ((List.map (T.int .i64) x0) ++ ([ti x1, ti x2, ti x3, T.str x4, T.str x5, ti x6])))] [] (V.t (T.agg ((List.map (T.int .i64) r15) ++ ([ti r15b, ti r15c, ti r15d, T.str r15e, T.str r15g, ti r15i])))) []), (16, An.call (tb r16))] [.keep [5, 4, 2], .keepO []] (ps := [(18 ≤ List.length ((List.map (T.int .i64) x0) ++ ([ti x1, ti x2, ti x3, T.str x4, T.str x5, ti x6]))), (T.agg (List.take 18 ((List.map (T.int .i64) x0) ++ ([ti x1, ti x2, ti x3, T.str x4, T.str x5, ti x6]))) = T.agg ((List.map (T.int .i64) x0) ++ ([ti x1, ti x2, ti x3, T.str x4, T.str x5, ti x6]))), (CG Tryd.prog 38 [V.t (T.agg ((List.map (T.int .i64) x0) ++ ([ti x1, ti x2, ti x3, T.str x4, T.str x5, ti x6])))] [] (V.t (T.agg ((List.map (T.int .i64) r15) ++ ([ti r15b, ti r15c, ti r15d, T.str r15e, T.str r15g, ti r15i])))) []), (WkT (T.agg ((List.map (T.int .i64) x0) ++ ([ti x1, ti x2, ti x3, T.str x4, T.str x5, ti x6]))) (T.agg ((List.map (T.int .i64) x0) ++ ([ti x1, ti x2, ti x3, T.str x4, T.str x5, ti x6])))), (C Tryd.prog 39 [T.agg ((List.map (T.int .i64) r15) ++ ([ti r15b, ti r15c, ti r15d, T.str r15e, T.str r15g, ti r15i]))] (tb r16))]) (e := .normal) (σ' := ⟨[], [(5, vb r16), (4, vb r13), (2, vb false)], []⟩) (by kernel_rfl) ⟨by first | decide | omega | (simp only [tlL, hl_x0, c2, c5] <;> omega) | (simp <;> omega) | (simp [hl_x0, c2, c5] <;> omega), by first | (simp [hl_x0, c2, c5]; done) | (rw [List.take_of_length_le]; simp only [tlL, hl_x0, c2, c5] <;> omega) | (rw [List.take_of_length_le]; simp [hl_x0, c2, c5]; done) | (rw [List.take_of_length_le]; simp; omega) | (simp only [tlL]; omega) | (simp; omega), (F_laws_toConsole_W x0 x1 x2 x3 x4 x5 x6 r15 r15b r15c r15d r15e r15g r15i c4), WkT.refl _, (F_impl_IsValidConsole_W r15 r15b r15c r15d r15e r15g r15i r16 c6), trivial⟩ ?_
    refine WP.seq ?_
    refine WP.seq ?_
    refine WP.path tab_ok mixed [] [.keep [19, 2], .keepO []] (ps := [(True)]) (e := .normal) (σ' := ⟨[], [(19, vb (!(r16 == r13))), (2, vb false)], []⟩) (by kernel_rfl) ⟨trivial, trivial⟩ ?_
    rcases ite_some h with ⟨h2, h⟩ | ⟨h2, h⟩
    · -- yes
      refine WP.cond (b := !(r16 == r13)) rfl (fun _ => ?_) (fun hh => by rw [h2] at hh; cases hh)
      have h := Option.some.inj h
      subst h
      exact WP.pathW tab_ok mixed [] _ (ps := []) (r := tb false) (by kernel_rfl) trivial (WkT.eq (y := tb false) (WkT.refl _) rfl) (fun _ h => h)
    · -- no
      refine WP.cond (b := !(r16 == r13)) rfl (fun hh => by rw [h2] at hh; cases hh) (fun _ => ?_)
      refine WP.path tab_ok mixed [] [.keep [2], .keepO []] (ps := []) (e := .normal) (σ' := ⟨[], [(2, vb false)], []⟩) (by kernel_rfl) trivial ?_
      have h := Option.some.inj h
      subst h
      exact WP.pathW tab_ok mixed [] _ (ps := []) (r := tb true) (by kernel_rfl) trivial (WkT.eq (y := tb true) (WkT.refl _) rfl) (fun _ h => h)

end Go.Proofs.YtfhmgiipcmmnlaaDoor.AuCons
