/-
  The walks: each function of the program returns what the plain function beside it returns. No statement is proved here.
-/
import Derived.Test.YtfhmgiipcmmnlaaDoorTlGroupc

import Derived.Test.YtfhmgiipcmmnlaaDoorAuEncF
import Derived.Test.YtfhmgiipcmmnlaaDoorProg
import Derived.Test.YtfhmgiipcmmnlaaDoorAuEncO
namespace Go.Proofs.YtfhmgiipcmmnlaaDoor.AuEnc
open Go Go.Tl Go.Proofs
open Go.Proofs.YtfhmgiipcmmnlaaDoor.AuEncO hiding tab tab_ok mixed
set_option linter.unusedVariables false
set_option linter.unusedSimpArgs false
set_option maxRecDepth 100000
def tab : Tab := [(3, ⟨.int .i64, 1, 8, [.int .i64 0]⟩), (4, ⟨.bool, 1, 1, [.bool false]⟩), (5, ⟨.int .u8, 1, 1, [.int .u8 0]⟩), (9, ⟨.string, 1, 16, [.str ⟨#[]⟩]⟩), (23, ⟨.struct [(0, 1, false), (1, 1, false)], 2, 32, [.str ⟨#[]⟩, .str ⟨#[]⟩]⟩), (27, ⟨.struct [(0, 1, false), (1, 1, false)], 2, 32, [.str ⟨#[]⟩, .str ⟨#[]⟩]⟩), (77, ⟨.slice 90 2 16, 1, 24, [.nils]⟩), (82, ⟨.struct [(0, 1, false), (1, 1, false)], 2, 32, [.nils, .int .i64 0]⟩), (90, ⟨.struct [(0, 1, false), (1, 1, false)], 2, 16, [.int .i64 0, .bool false]⟩)]
theorem tab_ok : chkTab Tryd.prog tab = true := by kernel_rfl
theorem mixed : Tryd.prog.follows .mixedOrders = true := by kernel_rfl
theorem F_spec_l1Num_B_W (self : Int → Option ByteArray) (hself : ∀ (x0 : Int) (y0 : ByteArray), self x0 = some y0 → C Tryd.prog 139 [ti x0] (T.str y0)) (x0 : Int) (y0 : ByteArray) (h : F_spec_l1Num_B self x0 = some y0) : C Tryd.prog 139 [ti x0] (T.str y0) := by
  unfold F_spec_l1Num_B at h
  refine C.intro (tab := tab) tab_ok (fn := Tryd.f139) Tryd.func139 (by kernel_rfl) rfl (Nat.le_of_ble_eq_true rfl) ?_
  refine WP.seq ?_
  refine WP.path tab_ok mixed [] [.keep [2, 0], .keepO []] (ps := []) (e := .normal) (σ' := ⟨[], [(2, V.t (T.str (ByteArray.mk #[]))), (0, vi x0)], []⟩) (by kernel_rfl) trivial ?_
  refine WP.seq ?_
  refine WP.seq ?_
  refine WP.path tab_ok mixed [] [.keep [4, 2, 0], .keepO []] (ps := [(True)]) (e := .normal) (σ' := ⟨[], [(4, vb (decide (x0 < (0 : Int)))), (2, V.t (T.str (ByteArray.mk #[]))), (0, vi x0)], []⟩) (by kernel_rfl) ⟨trivial, trivial⟩ ?_
  rcases ite_some h with ⟨h1, h⟩ | ⟨h1, h⟩
  · -- yes
    refine WP.cond (b := decide (x0 < (0 : Int))) rfl (fun _ => ?_) (fun hh => by rw [h1] at hh; cases hh)
    refine WP.seq ?_
    refine WP.seq ?_
    refine WP.path tab_ok mixed [] [.keep [6, 2, 0], .keepO []] (ps := [(True)]) (e := .normal) (σ' := ⟨[], [(6, vb (decide (x0 > (-10 : Int)))), (2, V.t (T.str (ByteArray.mk #[]))), (0, vi x0)], []⟩) (by kernel_rfl) ⟨trivial, trivial⟩ ?_
    rcases ite_some h with ⟨h2, h⟩ | ⟨h2, h⟩
    · -- yes
      refine WP.cond (b := decide (x0 > (-10 : Int))) rfl (fun _ => ?_) (fun hh => by rw [h2] at hh; cases hh)
      obtain ⟨c0, h⟩ := chk_some h
      obtain ⟨r9, c1, h⟩ := bnd1_some h
      obtain ⟨c2, h⟩ := chk_some h
      have h := Option.some.inj h
      subst h
      exact WP.pathW tab_ok mixed [(8, An.v (T.int .i64 (0 - x0))), (9, An.call (T.str r9))] _ (ps := [(T.int .i64 (IntKind.wrap .i64 (0 - x0)) = T.int .i64 (0 - x0)), (C Tryd.prog 139 [ti (0 - x0)] (T.str r9)), ((ByteArray.mk #[45]).size + r9.size ≤ 9223372036854775807)]) (r := T.str ((ByteArray.mk #[45]) ++ r9)) (by kernel_rfl) ⟨wrapI c0, (hself (0 - x0) r9 c1), c2, trivial⟩ (WkT.eq (y := T.str ((ByteArray.mk #[45]) ++ r9)) (WkT.refl _) rfl) (fun _ h => h)
    · -- no
      refine WP.cond (b := decide (x0 > (-10 : Int))) rfl (fun hh => by rw [h2] at hh; cases hh) (fun _ => ?_)
      refine WP.path tab_ok mixed [] [.keep [2, 0], .keepO []] (ps := []) (e := .normal) (σ' := ⟨[], [(2, V.t (T.str (ByteArray.mk #[]))), (0, vi x0)], []⟩) (by kernel_rfl) trivial ?_
      obtain ⟨c0, h⟩ := chk_some h
      obtain ⟨r13, c1, h⟩ := bnd1_some h
      obtain ⟨c2, h⟩ := chk_some h
      obtain ⟨r17, c3, h⟩ := bnd1_some h
      obtain ⟨c4, h⟩ := chk_some h
      have h := Option.some.inj h
      subst h
      exact WP.pathW tab_ok mixed [(12, An.v (T.int .i64 (Int.tdiv x0 (10 : Int)))), (13, An.call (T.str r13)), (16, An.v (T.int .i64 (0 - (Int.tmod x0 (10 : Int))))), (17, An.call (T.str r17))] _ (ps := [((10 : Int) ≠ 0), (T.int .i64 (IntKind.wrap .i64 (Int.tdiv x0 (10 : Int))) = T.int .i64 (Int.tdiv x0 (10 : Int))), (C Tryd.prog 139 [ti (Int.tdiv x0 (10 : Int))] (T.str r13)), ((10 : Int) ≠ 0), (T.int .i64 (IntKind.wrap .i64 (0 - (Int.tmod x0 (10 : Int)))) = T.int .i64 (0 - (Int.tmod x0 (10 : Int)))), (C Tryd.prog 139 [ti (0 - (Int.tmod x0 (10 : Int)))] (T.str r17)), (r13.size + r17.size ≤ 9223372036854775807)]) (r := T.str (r13 ++ r17)) (by kernel_rfl) ⟨(show (10 : Int) ≠ 0 by first | decide | (simp only [maxLen]; omega) | (unfold I64; omega) | (unfold I64; decide)), quo_told c0, (hself (Int.tdiv x0 (10 : Int)) r13 c1), by decide, wrapI c2, (hself (0 - (Int.tmod x0 (10 : Int))) r17 c3), c4, trivial⟩ (WkT.eq (y := T.str (r13 ++ r17)) (WkT.refl _) rfl) (fun _ h => h)
  · -- no
    refine WP.cond (b := decide (x0 < (0 : Int))) rfl (fun hh => by rw [h1] at hh; cases hh) (fun _ => ?_)
    refine WP.path tab_ok mixed [] [.keep [2, 0], .keepO []] (ps := []) (e := .normal) (σ' := ⟨[], [(2, V.t (T.str (ByteArray.mk #[]))), (0, vi x0)], []⟩) (by kernel_rfl) trivial ?_
    refine WP.seq ?_
    refine WP.seq ?_
    refine WP.path tab_ok mixed [] [.keep [20, 2, 0], .keepO []] (ps := [(True)]) (e := .normal) (σ' := ⟨[], [(20, vb (decide (x0 < (10 : Int)))), (2, V.t (T.str (ByteArray.mk #[]))), (0, vi x0)], []⟩) (by kernel_rfl) ⟨trivial, trivial⟩ ?_
    rcases ite_some h with ⟨h3, h⟩ | ⟨h3, h⟩
    · -- yes
      refine WP.cond (b := decide (x0 < (10 : Int))) rfl (fun _ => ?_) (fun hh => by rw [h3] at hh; cases hh)
      obtain ⟨c0, h⟩ := chk_some h
      obtain ⟨c1, h⟩ := chk_some h
      have h := Option.some.inj h
      subst h
      exact WP.pathW tab_ok mixed [(23, An.v (T.int .i64 (x0 + (1 : Int))))] _ (ps := [(True), (T.int .i64 (IntKind.wrap .i64 (x0 + (1 : Int))) = T.int .i64 (x0 + (1 : Int))), ((0 ≤ x0 ∧ x0 ≤ (x0 + (1 : Int)) ∧ (x0 + (1 : Int)) ≤ ((ByteArray.size (ByteArray.mk #[48, 49, 50, 51, 52, 53, 54, 55, 56, 57]) : Nat) : Int)))]) (r := T.str (ByteArray.extract (ByteArray.mk #[48, 49, 50, 51, 52, 53, 54, 55, 56, 57]) (Int.toNat x0) (Int.toNat (x0 + (1 : Int))))) (by kernel_rfl) ⟨trivial, wrapI c0, c1, trivial⟩ (WkT.eq (y := T.str (ByteArray.extract (ByteArray.mk #[48, 49, 50, 51, 52, 53, 54, 55, 56, 57]) (Int.toNat x0) (Int.toNat (x0 + (1 : Int))))) (WkT.refl _) rfl) (fun _ h => h)
    · -- no
      refine WP.cond (b := decide (x0 < (10 : Int))) rfl (fun hh => by rw [h3] at hh; cases hh) (fun _ => ?_)
      refine WP.path tab_ok mixed [] [.keep [2, 0], .keepO []] (ps := []) (e := .normal) (σ' := ⟨[], [(2, V.t (T.str (ByteArray.mk #[]))), (0, vi x0)], []⟩) (by kernel_rfl) trivial ?_
      obtain ⟨c0, h⟩ := chk_some h
      obtain ⟨r27, c1, h⟩ := bnd1_some h
      obtain ⟨c2, h⟩ := chk_some h
      obtain ⟨c3, h⟩ := chk_some h
      obtain ⟨c4, h⟩ := chk_some h
      have h := Option.some.inj h
      subst h
      exact WP.pathW tab_ok mixed [(26, An.v (T.int .i64 (Int.tdiv x0 (10 : Int)))), (27, An.call (T.str r27)), (32, An.v (T.int .i64 ((Int.tmod x0 (10 : Int)) + (1 : Int))))] _ (ps := [((10 : Int) ≠ 0), (T.int .i64 (IntKind.wrap .i64 (Int.tdiv x0 (10 : Int))) = T.int .i64 (Int.tdiv x0 (10 : Int))), (C Tryd.prog 139 [ti (Int.tdiv x0 (10 : Int))] (T.str r27)), ((10 : Int) ≠ 0), ((10 : Int) ≠ 0), (True), (T.int .i64 (IntKind.wrap .i64 ((Int.tmod x0 (10 : Int)) + (1 : Int))) = T.int .i64 ((Int.tmod x0 (10 : Int)) + (1 : Int))), ((0 ≤ (Int.tmod x0 (10 : Int)) ∧ (Int.tmod x0 (10 : Int)) ≤ ((Int.tmod x0 (10 : Int)) + (1 : Int)) ∧ ((Int.tmod x0 (10 : Int)) + (1 : Int)) ≤ ((ByteArray.size (ByteArray.mk #[48, 49, 50, 51, 52, 53, 54, 55, 56, 57]) : Nat) : Int))), (r27.size + (ByteArray.extract (ByteArray.mk #[48, 49, 50, 51, 52, 53, 54, 55, 56, 57]) (Int.toNat (Int.tmod x0 (10 : Int))) (Int.toNat ((Int.tmod x0 (10 : Int)) + (1 : Int)))).size ≤ 9223372036854775807)]) (r := T.str (r27 ++ (ByteArray.extract (ByteArray.mk #[48, 49, 50, 51, 52, 53, 54, 55, 56, 57]) (Int.toNat (Int.tmod x0 (10 : Int))) (Int.toNat ((Int.tmod x0 (10 : Int)) + (1 : Int)))))) (by kernel_rfl) ⟨(show (10 : Int) ≠ 0 by first | decide | (simp only [maxLen]; omega) | (unfold I64; omega) | (unfold I64; decide)), quo_told c0, (hself (Int.tdiv x0 (10 : Int)) r27 c1), by decide, by decide, trivial, wrapI c2, c3, c4, trivial⟩ (WkT.eq (y := T.str (r27 ++ (ByteArray.extract (ByteArray.mk #[48, 49, 50, 51, 52, 53, 54, 55, 56, 57]) (Int.toNat (Int.tmod x0 (10 : Int))) (Int.toNat ((Int.tmod x0 (10 : Int)) + (1 : Int)))))) (WkT.refl _) rfl) (fun _ h => h)
theorem F_spec_l1Num_W (n : Nat) : ∀ (x0 : Int) (y0 : ByteArray), F_spec_l1Num n x0 = some y0 → C Tryd.prog 139 [ti x0] (T.str y0) := by
  induction n with
  | zero => intro x0 y0 h; rw [F_spec_l1Num] at h; cases h
  | succ n ih => intro x0 y0 h; rw [F_spec_l1Num] at h; exact F_spec_l1Num_B_W _ ih x0 y0 h
theorem F_spec_l1Sum_W (x0 : ByteArray) (y0 : Int) (h : F_spec_l1Sum x0 = some y0) : C Tryd.prog 161 [T.str x0] (ti y0) := by
  unfold F_spec_l1Sum at h
  refine C.intro (tab := tab) tab_ok (fn := Tryd.f161) Tryd.func161 (by kernel_rfl) rfl (Nat.le_of_ble_eq_true rfl) ?_
  refine WP.seq ?_
  refine WP.path tab_ok mixed [] [.keep [2, 0], .keepO []] (ps := []) (e := .normal) (σ' := ⟨[], [(2, vi 0), (0, V.t (T.str x0))], []⟩) (by kernel_rfl) trivial ?_
  refine WP.seq ?_
  refine WP.path tab_ok mixed [] [.keep [3, 2, 0], .keepO []] (ps := []) (e := .normal) (σ' := ⟨[], [(3, vi 7), (2, vi 0), (0, V.t (T.str x0))], []⟩) (by kernel_rfl) trivial ?_
  obtain ⟨J1, hJ1, h⟩ := jn_some h
  refine WP.joinA (fun (zz : Int) => ⟨[], [(3, vi zz), (2, vi 0)], []⟩) (fun zz => J1 zz = some y0) ?_ ?_
  · -- to where they meet
    refine WP.seq ?_
    refine WP.path tab_ok mixed [] [.keep [4, 3, 2, 0], .keepO []] (ps := []) (e := .normal) (σ' := ⟨[], [(4, vi 0), (3, vi 7), (2, vi 0), (0, V.t (T.str x0))], []⟩) (by kernel_rfl) trivial ?_
    refine WP.block ?_
    refine WP.wk [.keep [4, 3, 2, 0], .keepO [], .names []] (σ' := ⟨[], [(4, vi 0), (3, vi 7), (2, vi 0), (0, V.t (T.str x0))], []⟩) (ps := []) (by kernel_rfl) trivial ?_
    refine WP.st (σ' := ⟨[], [(4, vi (0 : Int)), (3, vi (7 : Int)), (2, vi 0), (0, V.t (T.str x0))], []⟩) (by first | rfl | (simp only [tlS, tl, vl, vo, oc, ov, tbl, vbl, ty, vy] <;> rfl) | (simp <;> omega) | (simp []; done) | (rw [List.take_of_length_le (by simp [])] <;> rfl)) ?_
    refine WP.loop (α := Nat × Int × Int) (fun zz => ⟨[], [(4, vi zz.2.1), (3, vi zz.2.2), (2, vi 0), (0, V.t (T.str x0))], []⟩) (fun zz => F_spec_l1Sum_L1 x0 J1 zz.1 zz.2.1 zz.2.2 = some y0) (fun zz => zz.1) (fuel, (0 : Int), (7 : Int)) h ?_
    rintro ⟨n, v4, v3⟩ h0
    have h := (show F_spec_l1Sum_L1 x0 J1 n v4 v3 = some y0 from h0)
    rcases n with _ | n
    · rw [F_spec_l1Sum_L1] at h; cases h
    · rw [F_spec_l1Sum_L1] at h
      refine WP.seq ?_
      refine WP.seq ?_
      refine WP.path tab_ok mixed [] [.keep [8, 4, 3, 2, 0], .keepO []] (ps := [(True)]) (e := .normal) (σ' := ⟨[], [(8, vb (decide (v4 < ((ByteArray.size x0 : Nat) : Int)))), (4, vi v4), (3, vi v3), (2, vi 0), (0, V.t (T.str x0))], []⟩) (by kernel_rfl) ⟨trivial, trivial⟩ ?_
      rcases ite_some h with ⟨h1, h⟩ | ⟨h1, h⟩
      · -- yes
        refine WP.cond (b := decide (v4 < ((ByteArray.size x0 : Nat) : Int))) rfl (fun _ => ?_) (fun hh => by rw [h1] at hh; cases hh)
        refine WP.path tab_ok mixed [] [.keep [4, 3, 2, 0], .keepO []] (ps := []) (e := .normal) (σ' := ⟨[], [(4, vi v4), (3, vi v3), (2, vi 0), (0, V.t (T.str x0))], []⟩) (by kernel_rfl) trivial ?_
        refine WP.seq ?_
        refine WP.block ?_
        obtain ⟨c0, h⟩ := chk_some h
        obtain ⟨c1, h⟩ := chk_some h
        obtain ⟨c2, h⟩ := chk_some h
        obtain ⟨c3, h⟩ := chk_some h
        obtain ⟨n17, c4, h⟩ := nam_some h
        obtain ⟨c5, h⟩ := chk_some h
        obtain ⟨n19, c6, h⟩ := nam_some h
        refine WP.path tab_ok mixed [(12, An.v (T.int .i64 ((41 : Int) * v3))), (16, An.v (T.int .i64 (byteAt x0 (Int.toNat v4)))), (17, An.v (ti n17)), (18, An.v (T.int .i64 (n17 + (1 : Int)))), (19, An.v (ti n19))] [.keep [3, 4, 2, 0], .keepO []] (ps := [(True), (T.int .i64 (IntKind.wrap .i64 ((41 : Int) * v3)) = T.int .i64 ((41 : Int) * v3)), ((0 ≤ v4 ∧ v4 < ((ByteArray.size x0 : Nat) : Int))), (T.int .i64 (IntKind.wrap .i64 (byteAt x0 (Int.toNat v4))) = T.int .i64 (byteAt x0 (Int.toNat v4))), (True), (T.int .i64 (IntKind.wrap .i64 (((41 : Int) * v3) + (byteAt x0 (Int.toNat v4)))) = ti n17), (True), (T.int .i64 (IntKind.wrap .i64 (n17 + (1 : Int))) = T.int .i64 (n17 + (1 : Int))), ((999979 : Int) ≠ 0), (ti (Int.tmod (n17 + (1 : Int)) (999979 : Int)) = ti n19)]) (e := .normal) (σ' := ⟨[], [(3, vi n19), (4, vi v4), (2, vi 0), (0, V.t (T.str x0))], []⟩) (by kernel_rfl) ⟨trivial, wrapI c0, c1, wrapI c2, trivial, Eq.trans (wrapI c3) (congrArg (ti) c4), trivial, wrapI c5, by decide, congrArg (ti) c6, trivial⟩ ?_
        obtain ⟨c7, h⟩ := chk_some h
        refine WP.path tab_ok mixed [(10, An.v (T.int .i64 (v4 + (1 : Int))))] [.keep [4, 3, 2, 0], .keepO [], .names []] (ps := [(True), (T.int .i64 (IntKind.wrap .i64 (v4 + (1 : Int))) = T.int .i64 (v4 + (1 : Int)))]) (e := .normal) (σ' := ⟨[], [(4, vi (v4 + (1 : Int))), (3, vi n19), (2, vi 0), (0, V.t (T.str x0))], []⟩) (by kernel_rfl) ⟨trivial, wrapI c7, trivial⟩ ?_
        exact ⟨(n, (v4 + (1 : Int)), n19), h, Nat.lt_succ_self _, rfl⟩
      · -- no
        refine WP.cond (b := decide (v4 < ((ByteArray.size x0 : Nat) : Int))) rfl (fun hh => by rw [h1] at hh; cases hh) (fun _ => ?_)
        refine WP.path tab_ok mixed [] [.keep [3, 2], .keepO [], .names []] (ps := []) (e := (.exit 0)) (σ' := ⟨[], [(3, vi v3), (2, vi 0)], []⟩) (by kernel_rfl) trivial ?_
        exact ⟨(v3), h, rfl⟩
  · -- from there
    intro v3 h0
    have h := (show J1 v3 = some y0 from h0)
    rw [hJ1] at h
    have h := Option.some.inj h
    subst h
    exact WP.pathW tab_ok mixed [] _ (ps := []) (r := ti v3) (by kernel_rfl) trivial (WkT.eq (y := ti v3) (WkT.refl _) rfl) (fun _ h => h)
theorem F_spec_l1Seal_W (x0 : ByteArray) (y0 : ByteArray) (h : F_spec_l1Seal x0 = some y0) : C Tryd.prog 138 [T.str x0] (T.str y0) := by
  unfold F_spec_l1Seal at h
  refine C.intro (tab := tab) tab_ok (fn := Tryd.f138) Tryd.func138 (by kernel_rfl) rfl (Nat.le_of_ble_eq_true rfl) ?_
  obtain ⟨c0, h⟩ := chk_some h
  obtain ⟨r6, c1, h⟩ := bnd1_some h
  obtain ⟨r7, c2, h⟩ := bnd1_some h
  obtain ⟨c3, h⟩ := chk_some h
  have h := Option.some.inj h
  subst h
  exact WP.pathW tab_ok mixed [(6, An.call (ti r6)), (7, An.call (T.str r7))] _ (ps := [(x0.size + (ByteArray.mk #[35]).size ≤ 9223372036854775807), (C Tryd.prog 161 [T.str x0] (ti r6)), (C Tryd.prog 139 [ti r6] (T.str r7)), ((x0 ++ (ByteArray.mk #[35])).size + r7.size ≤ 9223372036854775807)]) (r := T.str ((x0 ++ (ByteArray.mk #[35])) ++ r7)) (by kernel_rfl) ⟨c0, (F_spec_l1Sum_W x0 r6 c1), (F_spec_l1Num_W fuel r6 r7 c2), c3, trivial⟩ (WkT.eq (y := T.str ((x0 ++ (ByteArray.mk #[35])) ++ r7)) (WkT.refl _) rfl) (fun _ h => h)
theorem F_spec_l12Line_W (x0 : Int) (x1 : ByteArray) (x2 : ByteArray) (y0 : ByteArray) (h : F_spec_l12Line x0 x1 x2 = some y0) : C Tryd.prog 82 [ti x0, T.agg [T.str x1, T.str x2]] (T.str y0) := by
  unfold F_spec_l12Line at h
  refine C.intro (tab := tab) tab_ok (fn := Tryd.f82) Tryd.func82 (by kernel_rfl) rfl (Nat.le_of_ble_eq_true rfl) ?_
  obtain ⟨r6, c0, h⟩ := bnd1_some h
  obtain ⟨c1, h⟩ := chk_some h
  obtain ⟨c2, h⟩ := chk_some h
  obtain ⟨c3, h⟩ := chk_some h
  obtain ⟨c4, h⟩ := chk_some h
  obtain ⟨r15, c5, h⟩ := bnd1_some h
  obtain ⟨c6, h⟩ := chk_some h
  have h := Option.some.inj h
  subst h
  exact WP.pathW tab_ok mixed [(3, An.fz), (6, An.call (T.str r6)), (15, An.call (T.str r15))] _ (ps := [(C Tryd.prog 139 [ti x0] (T.str r6)), (r6.size + (ByteArray.mk #[32]).size ≤ 9223372036854775807), (True), ((r6 ++ (ByteArray.mk #[32])).size + x1.size ≤ 9223372036854775807), (((r6 ++ (ByteArray.mk #[32])) ++ x1).size + (ByteArray.mk #[64]).size ≤ 9223372036854775807), (True), ((((r6 ++ (ByteArray.mk #[32])) ++ x1) ++ (ByteArray.mk #[64])).size + x2.size ≤ 9223372036854775807), (C Tryd.prog 138 [T.str ((((r6 ++ (ByteArray.mk #[32])) ++ x1) ++ (ByteArray.mk #[64])) ++ x2)] (T.str r15)), (r15.size + (ByteArray.mk #[10]).size ≤ 9223372036854775807)]) (r := T.str (r15 ++ (ByteArray.mk #[10]))) (by kernel_rfl) ⟨(F_spec_l1Num_W fuel x0 r6 c0), c1, trivial, c2, c3, trivial, c4, (F_spec_l1Seal_W ((((r6 ++ (ByteArray.mk #[32])) ++ x1) ++ (ByteArray.mk #[64])) ++ x2) r15 c5), c6, trivial⟩ (WkT.eq (y := T.str (r15 ++ (ByteArray.mk #[10]))) (WkT.refl _) rfl) (fun _ h => h)
theorem F_spec_EncodeRecord_W (x0 : Int) (x1 : ByteArray) (x2 : ByteArray) (y0 : ByteArray) (y1 : Bool) (h : F_spec_EncodeRecord x0 x1 x2 = some (y0, y1)) : C Tryd.prog 15 [ti x0, T.agg [T.str x1, T.str x2]] (T.tup [T.str y0, tb y1]) := by
  unfold F_spec_EncodeRecord at h
  refine C.intro (tab := tab) tab_ok (fn := Tryd.f15) Tryd.func15 (by kernel_rfl) rfl (Nat.le_of_ble_eq_true rfl) ?_
  refine WP.seq ?_
  refine WP.path tab_ok mixed [(3, An.fz)] [.keep [5, 4, 3, 0], .keepO []] (ps := []) (e := .normal) (σ' := ⟨[], [(5, vb false), (4, V.t (T.str (ByteArray.mk #[]))), (3, V.t (T.ptr [T.str x1, T.str x2])), (0, vi x0)], []⟩) (by kernel_rfl) trivial ?_
  refine WP.seq ?_
  obtain ⟨J1, hJ1, h⟩ := jn_some h
  refine WP.joinA (fun (zz : Bool) => ⟨[], [(13, vb zz), (5, vb false), (4, V.t (T.str (ByteArray.mk #[]))), (3, V.t (T.ptr [T.str x1, T.str x2])), (0, vi x0)], []⟩) (fun zz => J1 zz = some (y0, y1)) ?_ ?_
  · -- to where they meet
    rcases ite_some h with ⟨h1, h⟩ | ⟨h1, h⟩
    · -- yes
      refine WP.path tab_ok mixed [(7, An.call (tb (decide (x0 ≥ (0 : Int)) && decide (x0 ≤ (59 : Int))))), (9, An.b true)] [.keep [13, 5, 4, 3, 0], .keepO [], .names []] (ps := [(C Tryd.prog 80 [ti x0, ti 0, ti 59] (tb (decide (x0 ≥ (0 : Int)) && decide (x0 ≤ (59 : Int))))), ((!(decide (x0 ≥ (0 : Int)) && decide (x0 ≤ (59 : Int)))) = true)]) (e := .normal) (σ' := ⟨[], [(13, vb true), (5, vb false), (4, V.t (T.str (ByteArray.mk #[]))), (3, V.t (T.ptr [T.str x1, T.str x2])), (0, vi x0)], []⟩) (by kernel_rfl) ⟨(by have hh := (l1In_C x0 (0 : Int) (59 : Int)); first | exact hh | simpa using hh), h1, trivial⟩ ?_
      exact ⟨(true), h, rfl⟩
    · -- no
      obtain ⟨c0, h⟩ := chk_some h
      obtain ⟨c1, h⟩ := chk_some h
      refine WP.path tab_ok mixed [(7, An.call (tb (decide (x0 ≥ (0 : Int)) && decide (x0 ≤ (59 : Int))))), (9, An.b false), (11, An.call (tb (l12RecordN x1 x2)))] [.keep [13, 5, 4, 3, 0], .keepO [], .names []] (ps := [(C Tryd.prog 80 [ti x0, ti 0, ti 59] (tb (decide (x0 ≥ (0 : Int)) && decide (x0 ≤ (59 : Int))))), ((!(decide (x0 ≥ (0 : Int)) && decide (x0 ≤ (59 : Int)))) = false), (2 ≤ 2), (C Tryd.prog 81 [T.agg [T.str x1, T.str x2]] (tb (l12RecordN x1 x2)))]) (e := .normal) (σ' := ⟨[], [(13, vb (!(l12RecordN x1 x2))), (5, vb false), (4, V.t (T.str (ByteArray.mk #[]))), (3, V.t (T.ptr [T.str x1, T.str x2])), (0, vi x0)], []⟩) (by kernel_rfl) ⟨(by have hh := (l1In_C x0 (0 : Int) (59 : Int)); first | exact hh | simpa using hh), h1, by decide, (l12Record_C x1 x2 c0 c1), trivial⟩ ?_
      exact ⟨(!(l12RecordN x1 x2)), h, rfl⟩
  · -- from there
    intro v13 h0
    have h := (show J1 v13 = some (y0, y1) from h0)
    rw [hJ1] at h
    rcases ite_some h with ⟨h2, h⟩ | ⟨h2, h⟩
    · -- yes
      refine WP.cond (b := v13) rfl (fun _ => ?_) (fun hh => by rw [h2] at hh; cases hh)
      simp only [Option.some.injEq, Prod.mk.injEq] at h
      obtain ⟨rfl, rfl⟩ := h
      exact WP.pathW tab_ok mixed [] _ (ps := []) (r := T.tup [T.str (ByteArray.mk #[]), tb false]) (by kernel_rfl) trivial (WkT.eq (y := T.tup [T.str (ByteArray.mk #[]), tb false]) (WkT.refl _) rfl) (fun _ h => h)
    · -- no
      refine WP.cond (b := v13) rfl (fun hh => by rw [h2] at hh; cases hh) (fun _ => ?_)
      refine WP.path tab_ok mixed [] [.keep [5, 4, 3, 0], .keepO []] (ps := []) (e := .normal) (σ' := ⟨[], [(5, vb false), (4, V.t (T.str (ByteArray.mk #[]))), (3, V.t (T.ptr [T.str x1, T.str x2])), (0, vi x0)], []⟩) (by kernel_rfl) trivial ?_
      obtain ⟨r16, c0, h⟩ := bnd1_some h
      simp only [Option.some.injEq, Prod.mk.injEq] at h
      obtain ⟨rfl, rfl⟩ := h
      exact WP.pathW tab_ok mixed [(16, An.call (T.str r16))] _ (ps := [(2 ≤ 2), (C Tryd.prog 82 [ti x0, T.agg [T.str x1, T.str x2]] (T.str r16))]) (r := T.tup [T.str r16, tb true]) (by kernel_rfl) ⟨by decide, (F_spec_l12Line_W x0 x1 x2 r16 c0), trivial⟩ (WkT.eq (y := T.tup [T.str r16, tb true]) (WkT.refl _) rfl) (fun _ h => h)
theorem F_strings_Index_W (x0 : ByteArray) (x1 : ByteArray) (y0 : Int) (h : F_strings_Index x0 x1 = some y0) : C Tryd.prog 162 [T.str x0, T.str x1] (ti y0) := by
  unfold F_strings_Index at h
  refine C.intro (tab := tab) tab_ok (fn := Tryd.f162) Tryd.func162 (by kernel_rfl) rfl (Nat.le_of_ble_eq_true rfl) ?_
  obtain ⟨c0, h⟩ := chk_some h
  have h := Option.some.inj h
  subst h
  exact WP.pathW tab_ok mixed [(7, An.call (ti (firstIdx x0 (hd1 x1))))] _ (ps := [(C Tryd.prog 169 [T.str x0, T.str x1] (ti (firstIdx x0 (hd1 x1))))]) (r := ti (firstIdx x0 (hd1 x1))) (by kernel_rfl) ⟨(sliteIndex1_C x0 x1 c0), trivial⟩ (WkT.eq (y := ti (firstIdx x0 (hd1 x1))) (WkT.refl _) rfl) (fun _ h => h)
theorem F_strings_Contains_W (x0 : ByteArray) (x1 : ByteArray) (y0 : Bool) (h : F_strings_Contains x0 x1 = some y0) : C Tryd.prog 140 [T.str x0, T.str x1] (tb y0) := by
  unfold F_strings_Contains at h
  refine C.intro (tab := tab) tab_ok (fn := Tryd.f140) Tryd.func140 (by kernel_rfl) rfl (Nat.le_of_ble_eq_true rfl) ?_
  obtain ⟨r7, c0, h⟩ := bnd1_some h
  have h := Option.some.inj h
  subst h
  exact WP.pathW tab_ok mixed [(7, An.call (ti r7))] _ (ps := [(C Tryd.prog 162 [T.str x0, T.str x1] (ti r7)), (True)]) (r := tb (decide (r7 ≥ (0 : Int)))) (by kernel_rfl) ⟨(F_strings_Index_W x0 x1 r7 c0), trivial, trivial⟩ (WkT.eq (y := tb (decide (r7 ≥ (0 : Int)))) (WkT.refl _) rfl) (fun _ h => h)
theorem F_impl_checksum_W (x0 : ByteArray) (y0 : Int) (h : F_impl_checksum x0 = some y0) : C Tryd.prog 141 [T.str x0] (ti y0) := by
  unfold F_impl_checksum at h
  refine C.intro (tab := tab) tab_ok (fn := Tryd.f141) Tryd.func141 (by kernel_rfl) rfl (Nat.le_of_ble_eq_true rfl) ?_
  refine WP.seq ?_
  refine WP.path tab_ok mixed [] [.keep [2, 0], .keepO []] (ps := []) (e := .normal) (σ' := ⟨[], [(2, vi 0), (0, V.t (T.str x0))], []⟩) (by kernel_rfl) trivial ?_
  refine WP.seq ?_
  refine WP.path tab_ok mixed [] [.keep [3, 2, 0], .keepO []] (ps := []) (e := .normal) (σ' := ⟨[], [(3, vi 7), (2, vi 0), (0, V.t (T.str x0))], []⟩) (by kernel_rfl) trivial ?_
  obtain ⟨J1, hJ1, h⟩ := jn_some h
  refine WP.joinA (fun (zz : Int) => ⟨[], [(3, vi zz), (2, vi 0)], []⟩) (fun zz => J1 zz = some y0) ?_ ?_
  · -- to where they meet
    refine WP.seq ?_
    refine WP.path tab_ok mixed [] [.keep [7, 6, 3, 2, 0], .keepO []] (ps := []) (e := .normal) (σ' := ⟨[], [(7, vi 0), (6, vi ((ByteArray.size x0 : Nat) : Int)), (3, vi 7), (2, vi 0), (0, V.t (T.str x0))], []⟩) (by kernel_rfl) trivial ?_
    refine WP.block ?_
    refine WP.wk [.keep [7, 6, 3, 2, 0], .keepO [], .names []] (σ' := ⟨[], [(7, vi 0), (6, vi ((ByteArray.size x0 : Nat) : Int)), (3, vi 7), (2, vi 0), (0, V.t (T.str x0))], []⟩) (ps := []) (by kernel_rfl) trivial ?_
    refine WP.st (σ' := ⟨[], [(7, vi (0 : Int)), (6, vi ((ByteArray.size x0 : Nat) : Int)), (3, vi (7 : Int)), (2, vi 0), (0, V.t (T.str x0))], []⟩) (by first | rfl | (simp only [tlS, tl, vl, vo, oc, ov, tbl, vbl, ty, vy] <;> rfl) | (simp <;> omega) | (simp []; done) | (rw [List.take_of_length_le (by simp [])] <;> rfl)) ?_
    refine WP.loop (α := Nat × Int × Int) (fun zz => ⟨[], [(7, vi zz.2.1), (6, vi ((ByteArray.size x0 : Nat) : Int)), (3, vi zz.2.2), (2, vi 0), (0, V.t (T.str x0))], []⟩) (fun zz => F_impl_checksum_L1 x0 J1 zz.1 zz.2.1 zz.2.2 = some y0) (fun zz => zz.1) (fuel, (0 : Int), (7 : Int)) h ?_
    rintro ⟨n, v7, v3⟩ h0
    have h := (show F_impl_checksum_L1 x0 J1 n v7 v3 = some y0 from h0)
    rcases n with _ | n
    · rw [F_impl_checksum_L1] at h; cases h
    · rw [F_impl_checksum_L1] at h
      refine WP.seq ?_
      refine WP.path tab_ok mixed [] [.keep [8, 7, 6, 3, 2, 0], .keepO []] (ps := [(True)]) (e := .normal) (σ' := ⟨[], [(8, vb (decide (v7 < ((ByteArray.size x0 : Nat) : Int)))), (7, vi v7), (6, vi ((ByteArray.size x0 : Nat) : Int)), (3, vi v3), (2, vi 0), (0, V.t (T.str x0))], []⟩) (by kernel_rfl) ⟨trivial, trivial⟩ ?_
      refine WP.seq ?_
      rcases ite_some h with ⟨h1, h⟩ | ⟨h1, h⟩
      · -- yes
        refine WP.cond (b := decide (v7 < ((ByteArray.size x0 : Nat) : Int))) rfl (fun _ => ?_) (fun hh => by rw [h1] at hh; cases hh)
        refine WP.path tab_ok mixed [] [.keep [7, 6, 3, 2, 0], .keepO []] (ps := []) (e := .normal) (σ' := ⟨[], [(7, vi v7), (6, vi ((ByteArray.size x0 : Nat) : Int)), (3, vi v3), (2, vi 0), (0, V.t (T.str x0))], []⟩) (by kernel_rfl) trivial ?_
        refine WP.seq ?_
        refine WP.block ?_
        obtain ⟨c0, h⟩ := chk_some h
        obtain ⟨c1, h⟩ := chk_some h
        obtain ⟨c2, h⟩ := chk_some h
        obtain ⟨c3, h⟩ := chk_some h
        obtain ⟨n16, c4, h⟩ := nam_some h
        obtain ⟨c5, h⟩ := chk_some h
        obtain ⟨n18, c6, h⟩ := nam_some h
        refine WP.path tab_ok mixed [(11, An.v (T.int .i64 ((41 : Int) * v3))), (15, An.v (T.int .i64 (byteAt x0 (Int.toNat v7)))), (16, An.v (ti n16)), (17, An.v (T.int .i64 (n16 + (1 : Int)))), (18, An.v (ti n18))] [.keep [3, 7, 6, 2, 0], .keepO []] (ps := [(True), (T.int .i64 (IntKind.wrap .i64 ((41 : Int) * v3)) = T.int .i64 ((41 : Int) * v3)), ((0 ≤ v7 ∧ v7 < ((ByteArray.size x0 : Nat) : Int))), (T.int .i64 (IntKind.wrap .i64 (byteAt x0 (Int.toNat v7))) = T.int .i64 (byteAt x0 (Int.toNat v7))), (True), (T.int .i64 (IntKind.wrap .i64 (((41 : Int) * v3) + (byteAt x0 (Int.toNat v7)))) = ti n16), (True), (T.int .i64 (IntKind.wrap .i64 (n16 + (1 : Int))) = T.int .i64 (n16 + (1 : Int))), ((999979 : Int) ≠ 0), (ti (Int.tmod (n16 + (1 : Int)) (999979 : Int)) = ti n18)]) (e := .normal) (σ' := ⟨[], [(3, vi n18), (7, vi v7), (6, vi ((ByteArray.size x0 : Nat) : Int)), (2, vi 0), (0, V.t (T.str x0))], []⟩) (by kernel_rfl) ⟨trivial, wrapI c0, c1, wrapI c2, trivial, Eq.trans (wrapI c3) (congrArg (ti) c4), trivial, wrapI c5, by decide, congrArg (ti) c6, trivial⟩ ?_
        obtain ⟨c7, h⟩ := chk_some h
        refine WP.path tab_ok mixed [(19, An.v (T.int .i64 (v7 + (1 : Int))))] [.keep [7, 6, 3, 2, 0], .keepO [], .names []] (ps := [(True), (T.int .i64 (IntKind.wrap .i64 (v7 + (1 : Int))) = T.int .i64 (v7 + (1 : Int)))]) (e := .normal) (σ' := ⟨[], [(7, vi (v7 + (1 : Int))), (6, vi ((ByteArray.size x0 : Nat) : Int)), (3, vi n18), (2, vi 0), (0, V.t (T.str x0))], []⟩) (by kernel_rfl) ⟨trivial, wrapI c7, trivial⟩ ?_
        exact ⟨(n, (v7 + (1 : Int)), n18), h, Nat.lt_succ_self _, rfl⟩
      · -- no
        refine WP.cond (b := decide (v7 < ((ByteArray.size x0 : Nat) : Int))) rfl (fun hh => by rw [h1] at hh; cases hh) (fun _ => ?_)
        refine WP.path tab_ok mixed [] [.keep [3, 2], .keepO [], .names []] (ps := []) (e := (.exit 0)) (σ' := ⟨[], [(3, vi v3), (2, vi 0)], []⟩) (by kernel_rfl) trivial ?_
        exact ⟨(v3), h, rfl⟩
  · -- from there
    intro v3 h0
    have h := (show J1 v3 = some y0 from h0)
    rw [hJ1] at h
    have h := Option.some.inj h
    subst h
    exact WP.pathW tab_ok mixed [] _ (ps := []) (r := ti v3) (by kernel_rfl) trivial (WkT.eq (y := ti v3) (WkT.refl _) rfl) (fun _ h => h)
theorem F_impl_AppendChecksum_W (x0 : ByteArray) (y0 : ByteArray) (y1 : Bool) (h : F_impl_AppendChecksum x0 = some (y0, y1)) : C Tryd.prog 84 [T.str x0] (T.tup [T.str y0, tb y1]) := by
  unfold F_impl_AppendChecksum at h
  refine C.intro (tab := tab) tab_ok (fn := Tryd.f84) Tryd.func84 (by kernel_rfl) rfl (Nat.le_of_ble_eq_true rfl) ?_
  refine WP.seq ?_
  refine WP.path tab_ok mixed [] [.keep [3, 2, 0], .keepO []] (ps := []) (e := .normal) (σ' := ⟨[], [(3, vb false), (2, V.t (T.str (ByteArray.mk #[]))), (0, V.t (T.str x0))], []⟩) (by kernel_rfl) trivial ?_
  refine WP.seq ?_
  obtain ⟨J1, hJ1, h⟩ := jn_some h
  refine WP.joinA (fun (zz : Bool) => ⟨[], [(11, vb zz), (3, vb false), (2, V.t (T.str (ByteArray.mk #[]))), (0, V.t (T.str x0))], []⟩) (fun zz => J1 zz = some (y0, y1)) ?_ ?_
  · -- to where they meet
    rcases ite_some h with ⟨h1, h⟩ | ⟨h1, h⟩
    · -- yes
      refine WP.path tab_ok mixed [(7, An.b true)] [.keep [11, 3, 2, 0], .keepO [], .names []] (ps := [(True), ((decide (((ByteArray.size x0 : Nat) : Int) > (4000 : Int))) = true)]) (e := .normal) (σ' := ⟨[], [(11, vb true), (3, vb false), (2, V.t (T.str (ByteArray.mk #[]))), (0, V.t (T.str x0))], []⟩) (by kernel_rfl) ⟨trivial, h1, trivial⟩ ?_
      exact ⟨(true), h, rfl⟩
    · -- no
      obtain ⟨r10, c0, h⟩ := bnd1_some h
      refine WP.path tab_ok mixed [(7, An.b false), (10, An.call (tb r10))] [.keep [11, 3, 2, 0], .keepO [], .names []] (ps := [(True), ((decide (((ByteArray.size x0 : Nat) : Int) > (4000 : Int))) = false), (C Tryd.prog 140 [T.str x0, T.str (ByteArray.mk #[35])] (tb r10))]) (e := .normal) (σ' := ⟨[], [(11, vb r10), (3, vb false), (2, V.t (T.str (ByteArray.mk #[]))), (0, V.t (T.str x0))], []⟩) (by kernel_rfl) ⟨trivial, h1, (F_strings_Contains_W x0 (ByteArray.mk #[35]) r10 c0), trivial⟩ ?_
      exact ⟨(r10), h, rfl⟩
  · -- from there
    intro v11 h0
    have h := (show J1 v11 = some (y0, y1) from h0)
    rw [hJ1] at h
    rcases ite_some h with ⟨h2, h⟩ | ⟨h2, h⟩
    · -- yes
      refine WP.cond (b := v11) rfl (fun _ => ?_) (fun hh => by rw [h2] at hh; cases hh)
      simp only [Option.some.injEq, Prod.mk.injEq] at h
      obtain ⟨rfl, rfl⟩ := h
      exact WP.pathW tab_ok mixed [] _ (ps := []) (r := T.tup [T.str (ByteArray.mk #[]), tb false]) (by kernel_rfl) trivial (WkT.eq (y := T.tup [T.str (ByteArray.mk #[]), tb false]) (WkT.refl _) rfl) (fun _ h => h)
    · -- no
      refine WP.cond (b := v11) rfl (fun hh => by rw [h2] at hh; cases hh) (fun _ => ?_)
      refine WP.path tab_ok mixed [] [.keep [3, 2, 0], .keepO []] (ps := []) (e := .normal) (σ' := ⟨[], [(3, vb false), (2, V.t (T.str (ByteArray.mk #[]))), (0, V.t (T.str x0))], []⟩) (by kernel_rfl) trivial ?_
      refine WP.seq ?_
      obtain ⟨c0, h⟩ := chk_some h
      obtain ⟨r15, c1, h⟩ := bnd1_some h
      obtain ⟨c2, h⟩ := chk_some h
      obtain ⟨c3, h⟩ := chk_some h
      refine WP.path tab_ok mixed [(15, An.call (ti r15)), (16, An.call (T.str (itoaB r15)))] [.keep [4, 3, 2], .keepO []] (ps := [(x0.size + (ByteArray.mk #[35]).size ≤ 9223372036854775807), (C Tryd.prog 141 [T.str x0] (ti r15)), (C Tryd.prog 85 [ti r15] (T.str (itoaB r15))), ((x0 ++ (ByteArray.mk #[35])).size + (itoaB r15).size ≤ 9223372036854775807)]) (e := .normal) (σ' := ⟨[], [(4, V.t (T.str ((x0 ++ (ByteArray.mk #[35])) ++ (itoaB r15)))), (3, vb false), (2, V.t (T.str (ByteArray.mk #[])))], []⟩) (by kernel_rfl) ⟨c0, (F_impl_checksum_W x0 r15 c1), (itoa_C r15 c2), c3, trivial⟩ ?_
      refine WP.seq ?_
      refine WP.seq ?_
      refine WP.path tab_ok mixed [] [.keep [20, 4, 3, 2], .keepO []] (ps := [(True)]) (e := .normal) (σ' := ⟨[], [(20, vb (decide (((ByteArray.size ((x0 ++ (ByteArray.mk #[35])) ++ (itoaB r15)) : Nat) : Int) > (4000 : Int)))), (4, V.t (T.str ((x0 ++ (ByteArray.mk #[35])) ++ (itoaB r15)))), (3, vb false), (2, V.t (T.str (ByteArray.mk #[])))], []⟩) (by kernel_rfl) ⟨trivial, trivial⟩ ?_
      rcases ite_some h with ⟨h3, h⟩ | ⟨h3, h⟩
      · -- yes
        refine WP.cond (b := decide (((ByteArray.size ((x0 ++ (ByteArray.mk #[35])) ++ (itoaB r15)) : Nat) : Int) > (4000 : Int))) rfl (fun _ => ?_) (fun hh => by rw [h3] at hh; cases hh)
        simp only [Option.some.injEq, Prod.mk.injEq] at h
        obtain ⟨rfl, rfl⟩ := h
        exact WP.pathW tab_ok mixed [] _ (ps := []) (r := T.tup [T.str (ByteArray.mk #[]), tb false]) (by kernel_rfl) trivial (WkT.eq (y := T.tup [T.str (ByteArray.mk #[]), tb false]) (WkT.refl _) rfl) (fun _ h => h)
      · -- no
        refine WP.cond (b := decide (((ByteArray.size ((x0 ++ (ByteArray.mk #[35])) ++ (itoaB r15)) : Nat) : Int) > (4000 : Int))) rfl (fun hh => by rw [h3] at hh; cases hh) (fun _ => ?_)
        refine WP.path tab_ok mixed [] [.keep [4, 3, 2], .keepO []] (ps := []) (e := .normal) (σ' := ⟨[], [(4, V.t (T.str ((x0 ++ (ByteArray.mk #[35])) ++ (itoaB r15)))), (3, vb false), (2, V.t (T.str (ByteArray.mk #[])))], []⟩) (by kernel_rfl) trivial ?_
        simp only [Option.some.injEq, Prod.mk.injEq] at h
        obtain ⟨rfl, rfl⟩ := h
        exact WP.pathW tab_ok mixed [] _ (ps := []) (r := T.tup [T.str ((x0 ++ (ByteArray.mk #[35])) ++ (itoaB r15)), tb true]) (by kernel_rfl) trivial (WkT.eq (y := T.tup [T.str ((x0 ++ (ByteArray.mk #[35])) ++ (itoaB r15)), tb true]) (WkT.refl _) rfl) (fun _ h => h)
theorem F_impl_EncodeRecord_W (x0 : Int) (x1 : ByteArray) (x2 : ByteArray) (y0 : ByteArray) (y1 : Bool) (h : F_impl_EncodeRecord x0 x1 x2 = some (y0, y1)) : C Tryd.prog 17 [ti x0, T.agg [T.str x1, T.str x2]] (T.tup [T.str y0, tb y1]) := by
  unfold F_impl_EncodeRecord at h
  refine C.intro (tab := tab) tab_ok (fn := Tryd.f17) Tryd.func17 (by kernel_rfl) rfl (Nat.le_of_ble_eq_true rfl) ?_
  refine WP.seq ?_
  refine WP.path tab_ok mixed [(3, An.fz)] [.keep [5, 4, 3, 0], .keepO []] (ps := []) (e := .normal) (σ' := ⟨[], [(5, vb false), (4, V.t (T.str (ByteArray.mk #[]))), (3, V.t (T.ptr [T.str x1, T.str x2])), (0, vi x0)], []⟩) (by kernel_rfl) trivial ?_
  refine WP.seq ?_
  obtain ⟨J1, hJ1, h⟩ := jn_some h
  refine WP.joinA (fun (zz : Bool) => ⟨[], [(15, vb zz), (5, vb false), (4, V.t (T.str (ByteArray.mk #[]))), (3, V.t (T.ptr [T.str x1, T.str x2])), (0, vi x0)], []⟩) (fun zz => J1 zz = some (y0, y1)) ?_ ?_
  · -- to where they meet
    rcases ite_some h with ⟨h1, h⟩ | ⟨h1, h⟩
    · -- yes
      refine WP.path tab_ok mixed [(9, An.call (tb (decide ((0 : Int) ≤ x0) && decide (x0 ≤ (59 : Int))))), (11, An.b true)] [.keep [15, 5, 4, 3, 0], .keepO [], .names []] (ps := [(C Tryd.prog 83 [ti x0, ti 0, ti 59] (tb (decide ((0 : Int) ≤ x0) && decide (x0 ≤ (59 : Int))))), ((!(decide ((0 : Int) ≤ x0) && decide (x0 ≤ (59 : Int)))) = true)]) (e := .normal) (σ' := ⟨[], [(15, vb true), (5, vb false), (4, V.t (T.str (ByteArray.mk #[]))), (3, V.t (T.ptr [T.str x1, T.str x2])), (0, vi x0)], []⟩) (by kernel_rfl) ⟨(by have hh := (in_C x0 (0 : Int) (59 : Int)); first | exact hh | simpa using hh), h1, trivial⟩ ?_
      exact ⟨(true), h, rfl⟩
    · -- no
      obtain ⟨c0, h⟩ := chk_some h
      obtain ⟨c1, h⟩ := chk_some h
      refine WP.path tab_ok mixed [(9, An.call (tb (decide ((0 : Int) ≤ x0) && decide (x0 ≤ (59 : Int))))), (11, An.b false), (13, An.call (tb (isValidRecordN x1 x2)))] [.keep [15, 5, 4, 3, 0], .keepO [], .names []] (ps := [(C Tryd.prog 83 [ti x0, ti 0, ti 59] (tb (decide ((0 : Int) ≤ x0) && decide (x0 ≤ (59 : Int))))), ((!(decide ((0 : Int) ≤ x0) && decide (x0 ≤ (59 : Int)))) = false), (2 ≤ 2), (C Tryd.prog 46 [T.agg [T.str x1, T.str x2]] (tb (isValidRecordN x1 x2)))]) (e := .normal) (σ' := ⟨[], [(15, vb (!(isValidRecordN x1 x2))), (5, vb false), (4, V.t (T.str (ByteArray.mk #[]))), (3, V.t (T.ptr [T.str x1, T.str x2])), (0, vi x0)], []⟩) (by kernel_rfl) ⟨(by have hh := (in_C x0 (0 : Int) (59 : Int)); first | exact hh | simpa using hh), h1, by decide, (iIsValidRecord_C x1 x2 c0 c1), trivial⟩ ?_
      exact ⟨(!(isValidRecordN x1 x2)), h, rfl⟩
  · -- from there
    intro v15 h0
    have h := (show J1 v15 = some (y0, y1) from h0)
    rw [hJ1] at h
    rcases ite_some h with ⟨h2, h⟩ | ⟨h2, h⟩
    · -- yes
      refine WP.cond (b := v15) rfl (fun _ => ?_) (fun hh => by rw [h2] at hh; cases hh)
      simp only [Option.some.injEq, Prod.mk.injEq] at h
      obtain ⟨rfl, rfl⟩ := h
      exact WP.pathW tab_ok mixed [] _ (ps := []) (r := T.tup [T.str (ByteArray.mk #[]), tb false]) (by kernel_rfl) trivial (WkT.eq (y := T.tup [T.str (ByteArray.mk #[]), tb false]) (WkT.refl _) rfl) (fun _ h => h)
    · -- no
      refine WP.cond (b := v15) rfl (fun hh => by rw [h2] at hh; cases hh) (fun _ => ?_)
      refine WP.path tab_ok mixed [] [.keep [5, 4, 3, 0], .keepO []] (ps := []) (e := .normal) (σ' := ⟨[], [(5, vb false), (4, V.t (T.str (ByteArray.mk #[]))), (3, V.t (T.ptr [T.str x1, T.str x2])), (0, vi x0)], []⟩) (by kernel_rfl) trivial ?_
      refine WP.seq ?_
      obtain ⟨c0, h⟩ := chk_some h
      obtain ⟨c1, h⟩ := chk_some h
      obtain ⟨c2, h⟩ := chk_some h
      obtain ⟨c3, h⟩ := chk_some h
      obtain ⟨c4, h⟩ := chk_some h
      obtain ⟨r27, r27b, c5, h⟩ := bnd2_some h
      refine WP.path tab_ok mixed [(18, An.call (T.str (itoaB x0))), (27, An.call (T.tup [T.str r27, tb r27b]))] [.keep [7, 6, 5, 4], .keepO []] (ps := [(C Tryd.prog 85 [ti x0] (T.str (itoaB x0))), ((itoaB x0).size + (ByteArray.mk #[32]).size ≤ 9223372036854775807), (True), (((itoaB x0) ++ (ByteArray.mk #[32])).size + x1.size ≤ 9223372036854775807), ((((itoaB x0) ++ (ByteArray.mk #[32])) ++ x1).size + (ByteArray.mk #[64]).size ≤ 9223372036854775807), (True), (((((itoaB x0) ++ (ByteArray.mk #[32])) ++ x1) ++ (ByteArray.mk #[64])).size + x2.size ≤ 9223372036854775807), (C Tryd.prog 84 [T.str (((((itoaB x0) ++ (ByteArray.mk #[32])) ++ x1) ++ (ByteArray.mk #[64])) ++ x2)] (T.tup [T.str r27, tb r27b]))]) (e := .normal) (σ' := ⟨[], [(7, vb r27b), (6, V.t (T.str r27)), (5, vb false), (4, V.t (T.str (ByteArray.mk #[])))], []⟩) (by kernel_rfl) ⟨(itoa_C x0 c0), c1, trivial, c2, c3, trivial, c4, (F_impl_AppendChecksum_W (((((itoaB x0) ++ (ByteArray.mk #[32])) ++ x1) ++ (ByteArray.mk #[64])) ++ x2) r27 r27b c5), trivial⟩ ?_
      refine WP.seq ?_
      refine WP.seq ?_
      refine WP.path tab_ok mixed [] [.keep [31, 6, 5, 4], .keepO []] (ps := []) (e := .normal) (σ' := ⟨[], [(31, vb !r27b), (6, V.t (T.str r27)), (5, vb false), (4, V.t (T.str (ByteArray.mk #[])))], []⟩) (by kernel_rfl) trivial ?_
      rcases ite_some h with ⟨h3, h⟩ | ⟨h3, h⟩
      · -- yes
        refine WP.cond (b := !r27b) rfl (fun _ => ?_) (fun hh => by rw [h3] at hh; cases hh)
        simp only [Option.some.injEq, Prod.mk.injEq] at h
        obtain ⟨rfl, rfl⟩ := h
        exact WP.pathW tab_ok mixed [] _ (ps := []) (r := T.tup [T.str (ByteArray.mk #[]), tb false]) (by kernel_rfl) trivial (WkT.eq (y := T.tup [T.str (ByteArray.mk #[]), tb false]) (WkT.refl _) rfl) (fun _ h => h)
      · -- no
        refine WP.cond (b := !r27b) rfl (fun hh => by rw [h3] at hh; cases hh) (fun _ => ?_)
        refine WP.path tab_ok mixed [] [.keep [6, 5, 4], .keepO []] (ps := []) (e := .normal) (σ' := ⟨[], [(6, V.t (T.str r27)), (5, vb false), (4, V.t (T.str (ByteArray.mk #[])))], []⟩) (by kernel_rfl) trivial ?_
        obtain ⟨c6, h⟩ := chk_some h
        simp only [Option.some.injEq, Prod.mk.injEq] at h
        obtain ⟨rfl, rfl⟩ := h
        exact WP.pathW tab_ok mixed [] _ (ps := [(r27.size + (ByteArray.mk #[10]).size ≤ 9223372036854775807)]) (r := T.tup [T.str (r27 ++ (ByteArray.mk #[10])), tb true]) (by kernel_rfl) ⟨c6, trivial⟩ (WkT.eq (y := T.tup [T.str (r27 ++ (ByteArray.mk #[10])), tb true]) (WkT.refl _) rfl) (fun _ h => h)
theorem F_laws_FnExactEncodeRecord_W (x0 : Int) (x1 : ByteArray) (x2 : ByteArray) (y0 : Bool) (h : F_laws_FnExactEncodeRecord x0 x1 x2 = some y0) : C Tryd.prog 3 [ti x0, T.agg [T.str x1, T.str x2]] (tb y0) := by
  unfold F_laws_FnExactEncodeRecord at h
  refine C.intro (tab := tab) tab_ok (fn := Tryd.f3) Tryd.func3 (by kernel_rfl) rfl (Nat.le_of_ble_eq_true rfl) ?_
  refine WP.seq ?_
  refine WP.path tab_ok mixed [(3, An.fz)] [.keep [4, 3, 0], .keepO []] (ps := []) (e := .normal) (σ' := ⟨[], [(4, vb false), (3, V.t (T.ptr [T.str x1, T.str x2])), (0, vi x0)], []⟩) (by kernel_rfl) trivial ?_
  refine WP.seq ?_
  refine WP.path tab_ok mixed [] [.keep [5, 4, 3, 0], .keepO []] (ps := []) (e := .normal) (σ' := ⟨[], [(5, vi 1048576), (4, vb false), (3, V.t (T.ptr [T.str x1, T.str x2])), (0, vi x0)], []⟩) (by kernel_rfl) trivial ?_
  refine WP.seq ?_
  obtain ⟨c0, h⟩ := chk_some h
  obtain ⟨c1, h⟩ := chk_some h
  refine WP.path tab_ok mixed [(12, An.call (ti (if (1048576 : Int) - x1.size < 0 then -1 else if (1048576 : Int) - x1.size - x2.size < 0 then -1 else (1048576 : Int) - x1.size - x2.size)))] [.keep [5, 4, 3, 0], .keepO []] (ps := [(2 ≤ 2), (C Tryd.prog 14 [T.agg [T.str x1, T.str x2], ti 1048576] (ti (if (1048576 : Int) - x1.size < 0 then -1 else if (1048576 : Int) - x1.size - x2.size < 0 then -1 else (1048576 : Int) - x1.size - x2.size)))]) (e := .normal) (σ' := ⟨[], [(5, vi (if (1048576 : Int) - x1.size < 0 then -1 else if (1048576 : Int) - x1.size - x2.size < 0 then -1 else (1048576 : Int) - x1.size - x2.size)), (4, vb false), (3, V.t (T.ptr [T.str x1, T.str x2])), (0, vi x0)], []⟩) (by kernel_rfl) ⟨by decide, (by have hh := (szLogRecord_C x1 x2 (1048576 : Int) c0 c1 (show 0 ≤ (1048576 : Int) by first | decide | (simp only [maxLen]; omega) | (unfold I64; omega) | (unfold I64; decide)) (show (1048576 : Int) ≤ 1048576 by first | decide | (simp only [maxLen]; omega) | (unfold I64; omega) | (unfold I64; decide))); first | exact hh | simpa using hh), trivial⟩ ?_
  refine WP.seq ?_
  refine WP.seq ?_
  obtain ⟨n14, c2, h⟩ := nam_some h
  refine WP.path tab_ok mixed [(14, An.v (tb n14))] [.keep [14, 4, 3, 0], .keepO []] (ps := [(True), (tb (decide ((if (1048576 : Int) - x1.size < 0 then -1 else if (1048576 : Int) - x1.size - x2.size < 0 then -1 else (1048576 : Int) - x1.size - x2.size) < (0 : Int))) = tb n14)]) (e := .normal) (σ' := ⟨[], [(14, vb n14), (4, vb false), (3, V.t (T.ptr [T.str x1, T.str x2])), (0, vi x0)], []⟩) (by kernel_rfl) ⟨trivial, congrArg (tb) c2, trivial⟩ ?_
  rcases ite_some h with ⟨h1, h⟩ | ⟨h1, h⟩
  · -- yes
    refine WP.cond (b := n14) rfl (fun _ => ?_) (fun hh => by rw [h1] at hh; cases hh)
    have h := Option.some.inj h
    subst h
    exact WP.pathW tab_ok mixed [] _ (ps := []) (r := tb true) (by kernel_rfl) trivial (WkT.eq (y := tb true) (WkT.refl _) rfl) (fun _ h => h)
  · -- no
    refine WP.cond (b := n14) rfl (fun hh => by rw [h1] at hh; cases hh) (fun _ => ?_)
    refine WP.path tab_ok mixed [] [.keep [4, 3, 0], .keepO []] (ps := []) (e := .normal) (σ' := ⟨[], [(4, vb false), (3, V.t (T.ptr [T.str x1, T.str x2])), (0, vi x0)], []⟩) (by kernel_rfl) trivial ?_
    refine WP.seq ?_
    obtain ⟨r19, r19b, c3, h⟩ := bnd2_some h
    refine WP.path tab_ok mixed [(18, An.call (T.agg [T.str x1, T.str x2])), (19, An.call (T.tup [T.str r19, tb r19b]))] [.keep [7, 6, 4, 3, 0], .keepO []] (ps := [(2 ≤ 2), (C Tryd.prog 16 [T.agg [T.str x1, T.str x2]] (T.agg [T.str x1, T.str x2])), (C Tryd.prog 15 [ti x0, T.agg [T.str x1, T.str x2]] (T.tup [T.str r19, tb r19b]))]) (e := .normal) (σ' := ⟨[], [(7, vb r19b), (6, V.t (T.str r19)), (4, vb false), (3, V.t (T.ptr [T.str x1, T.str x2])), (0, vi x0)], []⟩) (by kernel_rfl) ⟨by decide, (toLogRecord_C x1 x2), (F_spec_EncodeRecord_W x0 x1 x2 r19 r19b c3), trivial⟩ ?_
    refine WP.seq ?_
    obtain ⟨r26, r26b, c4, h⟩ := bnd2_some h
    refine WP.path tab_ok mixed [(25, An.call (T.agg [T.str x1, T.str x2])), (26, An.call (T.tup [T.str r26, tb r26b]))] [.keep [9, 8, 7, 6, 4], .keepO []] (ps := [(2 ≤ 2), (C Tryd.prog 16 [T.agg [T.str x1, T.str x2]] (T.agg [T.str x1, T.str x2])), (C Tryd.prog 17 [ti x0, T.agg [T.str x1, T.str x2]] (T.tup [T.str r26, tb r26b]))]) (e := .normal) (σ' := ⟨[], [(9, vb r26b), (8, V.t (T.str r26)), (7, vb r19b), (6, V.t (T.str r19)), (4, vb false)], []⟩) (by kernel_rfl) ⟨by decide, (toLogRecord_C x1 x2), (F_impl_EncodeRecord_W x0 x1 x2 r26 r26b c4), trivial⟩ ?_
    refine WP.seq ?_
    obtain ⟨J1, hJ1, h⟩ := jn_some h
    refine WP.joinA (fun (zz : Bool) => ⟨[], [(36, vb zz), (4, vb false)], []⟩) (fun zz => J1 zz = some y0) ?_ ?_
    · -- to where they meet
      rcases ite_some h with ⟨h2, h⟩ | ⟨h2, h⟩
      · -- yes
        refine WP.path tab_ok mixed [(31, An.b true)] [.keep [36, 4], .keepO [], .names []] (ps := [(True), ((!(r26.toList == r19.toList)) = true)]) (e := .normal) (σ' := ⟨[], [(36, vb true), (4, vb false)], []⟩) (by kernel_rfl) ⟨trivial, h2, trivial⟩ ?_
        exact ⟨(true), h, rfl⟩
      · -- no
        refine WP.path tab_ok mixed [(31, An.b false)] [.keep [36, 4], .keepO [], .names []] (ps := [(True), ((!(r26.toList == r19.toList)) = false), (True)]) (e := .normal) (σ' := ⟨[], [(36, vb (!(r26b == r19b))), (4, vb false)], []⟩) (by kernel_rfl) ⟨trivial, h2, trivial, trivial⟩ ?_
        exact ⟨(!(r26b == r19b)), h, rfl⟩
    · -- from there
      intro v36 h0
      have h := (show J1 v36 = some y0 from h0)
      rw [hJ1] at h
      rcases ite_some h with ⟨h3, h⟩ | ⟨h3, h⟩
      · -- yes
        refine WP.cond (b := v36) rfl (fun _ => ?_) (fun hh => by rw [h3] at hh; cases hh)
        have h := Option.some.inj h
        subst h
        exact WP.pathW tab_ok mixed [] _ (ps := []) (r := tb false) (by kernel_rfl) trivial (WkT.eq (y := tb false) (WkT.refl _) rfl) (fun _ h => h)
      · -- no
        refine WP.cond (b := v36) rfl (fun hh => by rw [h3] at hh; cases hh) (fun _ => ?_)
        refine WP.path tab_ok mixed [] [.keep [4], .keepO []] (ps := []) (e := .normal) (σ' := ⟨[], [(4, vb false)], []⟩) (by kernel_rfl) trivial ?_
        have h := Option.some.inj h
        subst h
        exact WP.pathW tab_ok mixed [] _ (ps := []) (r := tb true) (by kernel_rfl) trivial (WkT.eq (y := tb true) (WkT.refl _) rfl) (fun _ h => h)

end Go.Proofs.YtfhmgiipcmmnlaaDoor.AuEnc
